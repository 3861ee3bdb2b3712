/- The functions foghorn foghornlaw28.AgainNames: what each answers, as a plain function, and that its call answers it; printed by gen.py. -/
import Derived.Test.YtmdigffgmohcnaaProg
import Derived.Test.YtmdigffgmohcnaaGlUb
import Derived.KernelRfl
import Derived.Test.YtmdigffgmohcnaaG3p1
set_option linter.unusedVariables false
set_option linter.unusedSimpArgs false
set_option maxRecDepth 100000
set_option maxHeartbeats 4000000
namespace Go.Proofs.Ytmdigffgmohcnaa
open GL
noncomputable def f_again_Sender_Hear.s1c (sx0_window : Int) (sx0_left : (List (ByteArray × Bool × Int × Bool))) (k5 : Int) : Option (Int ⊕ Int) := ((if (decide (k5 < (imin sx0_window (sx0_left.length : Int)))) = true then (if 0 ≤ k5 ∧ k5 < (sx0_left.length : Int) then (some ((gt sx0_left k5).2.1)) else none) else (some false)).bind fun z24 => (if z24 = true then (some (Sum.inl (IntKind.i64.wrap (k5 + (1 : Int))))) else (some (Sum.inr k5))))
noncomputable def f_again_Sender_Hear.s1 (sx0_window : Int) (sx0_left : (List (ByteArray × Bool × Int × Bool))) (s : Int) : Option (Int ⊕ Int) := f_again_Sender_Hear.s1c sx0_window sx0_left s
noncomputable def f_again_Sender_Hear.s2c (sx0_front : Int) (f1_Number : Int) (f1_Body : ByteArray) (q25 : Int) (sx0c_0 : Int) (sx0c_1 : Int) (sx0c_2 : Int) (sx0c_3 : Int) (sx0c_4 : (List (ByteArray × Bool × Int × Bool))) (t61 : Int) : Option ((Int × Int × Int × Int × (List (ByteArray × Bool × Int × Bool)) × Int) ⊕ (Int × Int × Int × Int × (List (ByteArray × Bool × Int × Bool)))) := (if (decide (t61 < q25)) = true then ((if (decide (t61 < (IntKind.i64.wrap (IntKind.u8.wrap (f1_Number - (IntKind.u8.wrap sx0_front)))))) = true then (some true) else ((if (decide ((0 : Int) ≤ (IntKind.i64.wrap ((IntKind.i64.wrap (t61 - (IntKind.i64.wrap (IntKind.u8.wrap (f1_Number - (IntKind.u8.wrap sx0_front)))))) - (1 : Int))))) = true then (if 0 ≤ (IntKind.i64.wrap (((IntKind.i64.wrap ((IntKind.i64.wrap (t61 - (IntKind.i64.wrap (IntKind.u8.wrap (f1_Number - (IntKind.u8.wrap sx0_front)))))) - (1 : Int)))).tdiv (8 : Int))) ∧ (IntKind.i64.wrap (((IntKind.i64.wrap ((IntKind.i64.wrap (t61 - (IntKind.i64.wrap (IntKind.u8.wrap (f1_Number - (IntKind.u8.wrap sx0_front)))))) - (1 : Int)))).tdiv (8 : Int))) < (f1_Body.size : Int) then (if 0 ≤ (IntKind.i64.wrap ((7 : Int) - (((IntKind.i64.wrap ((IntKind.i64.wrap (t61 - (IntKind.i64.wrap (IntKind.u8.wrap (f1_Number - (IntKind.u8.wrap sx0_front)))))) - (1 : Int)))).tmod (8 : Int)))) then (some ((iand .u8 (ishr .u8 (bt f1_Body (IntKind.i64.wrap (((IntKind.i64.wrap ((IntKind.i64.wrap (t61 - (IntKind.i64.wrap (IntKind.u8.wrap (f1_Number - (IntKind.u8.wrap sx0_front)))))) - (1 : Int)))).tdiv (8 : Int)))) (IntKind.i64.wrap ((7 : Int) - (((IntKind.i64.wrap ((IntKind.i64.wrap (t61 - (IntKind.i64.wrap (IntKind.u8.wrap (f1_Number - (IntKind.u8.wrap sx0_front)))))) - (1 : Int)))).tmod (8 : Int))))) (1 : Int)) == (1 : Int))) else none) else none) else (some false)).bind fun z49 => (some z49))).bind fun z46 => (if z46 = true then (if 0 ≤ t61 ∧ t61 < (sx0c_4.length : Int) then (some (Sum.inl (sx0c_0, sx0c_1, sx0c_2, sx0c_3, (sx0c_4.set (t61).toNat ((gt sx0c_4 t61).1, (gt sx0c_4 t61).2.1, (gt sx0c_4 t61).2.2.1, true)), (IntKind.i64.wrap (t61 + (1 : Int)))))) else none) else (some (Sum.inl (sx0c_0, sx0c_1, sx0c_2, sx0c_3, sx0c_4, (IntKind.i64.wrap (t61 + (1 : Int)))))))) else (some (Sum.inr (sx0c_0, sx0c_1, sx0c_2, sx0c_3, sx0c_4))))
noncomputable def f_again_Sender_Hear.s2 (sx0_front : Int) (f1_Number : Int) (f1_Body : ByteArray) (q25 : Int) (s : (Int × Int × Int × Int × (List (ByteArray × Bool × Int × Bool)) × Int)) : Option ((Int × Int × Int × Int × (List (ByteArray × Bool × Int × Bool)) × Int) ⊕ (Int × Int × Int × Int × (List (ByteArray × Bool × Int × Bool)))) := f_again_Sender_Hear.s2c sx0_front f1_Number f1_Body q25 s.1 s.2.1 s.2.2.1 s.2.2.2.1 s.2.2.2.2.1 s.2.2.2.2.2
noncomputable def f_again_Sender_Hear.s3c (sx0c_0 : Int) (sx0c_1 : Int) (sx0c_2 : Int) (sx0c_3 : Int) (sx0c_4 : (List (ByteArray × Bool × Int × Bool))) : Option ((Int × Int × Int × Int × (List (ByteArray × Bool × Int × Bool))) ⊕ (Int × Int × Int × Int × (List (ByteArray × Bool × Int × Bool)))) := ((if (decide ((0 : Int) < (sx0c_4.length : Int))) = true then (if 0 ≤ (0 : Int) ∧ (0 : Int) < (sx0c_4.length : Int) then (some ((gt sx0c_4 (0 : Int)).2.2.2)) else none) else (some false)).bind fun z62 => (if z62 = true then (if 0 ≤ (1 : Int) ∧ (1 : Int) ≤ (sx0c_4.length : Int) then (some (Sum.inl (sx0c_0, sx0c_1, sx0c_2, (IntKind.i64.wrap (sx0c_3 + (1 : Int))), (sx0c_4.drop ((1 : Int)).toNat)))) else none) else (some (Sum.inr (sx0c_0, sx0c_1, sx0c_2, sx0c_3, sx0c_4)))))
noncomputable def f_again_Sender_Hear.s3  (s : (Int × Int × Int × Int × (List (ByteArray × Bool × Int × Bool)))) : Option ((Int × Int × Int × Int × (List (ByteArray × Bool × Int × Bool))) ⊕ (Int × Int × Int × Int × (List (ByteArray × Bool × Int × Bool)))) := f_again_Sender_Hear.s3c s.1 s.2.1 s.2.2.1 s.2.2.2.1 s.2.2.2.2
noncomputable def f_again_Sender_Hear (sx0_window : Int) (sx0_wait : Int) (sx0_now : Int) (sx0_front : Int) (sx0_left : (List (ByteArray × Bool × Int × Bool))) (f1_Kind : Int) (f1_Number : Int) (f1_More : Bool) (f1_Body : ByteArray) : Option (Int × (Int × Int × Int × Int × (List (ByteArray × Bool × Int × Bool)))) := (if (((f1_Kind != (2 : Int)) || f1_More) || ((f1_Body.size : Int) != (16 : Int))) = true then (some ((4 : Int), (sx0_window, sx0_wait, sx0_now, sx0_front, sx0_left))) else ((loop (f_again_Sender_Hear.s1 sx0_window sx0_left) (0 : Int)).bind (fun q25 => (if (decide (q25 < (IntKind.i64.wrap (IntKind.u8.wrap (f1_Number - (IntKind.u8.wrap sx0_front)))))) = true then (some ((0 : Int), (sx0_window, sx0_wait, sx0_now, sx0_front, sx0_left))) else ((loop (f_again_Sender_Hear.s2 sx0_front f1_Number f1_Body q25) (sx0_window, sx0_wait, sx0_now, sx0_front, sx0_left, (0 : Int))).bind (fun q53 => ((loop f_again_Sender_Hear.s3 (q53.1, q53.2.1, q53.2.2.1, q53.2.2.2.1, q53.2.2.2.2)).bind (fun q67 => (some ((0 : Int), (q67.1, q67.2.1, q67.2.2.1, q67.2.2.2.1, q67.2.2.2.2)))))))))))
theorem f_again_Sender_Hear_c {S : Nat → Prop} {w0 w : World} {ow : List Res} (sx0_window : Int) (sx0_wait : Int) (sx0_now : Int) (sx0_front : Int) (vsx0_left : Value) (sx0_left : (List (ByteArray × Bool × Int × Bool))) (osx0 : Value) (f1_Kind : Int) (f1_Number : Int) (f1_More : Bool) (f1_Body : ByteArray) (hp : Hp S w0 w (Res.sl (Ek.pair Ek.str (Ek.pair Ek.bool (Ek.pair (Ek.int .i64) Ek.bool))) 81 vsx0_left sx0_left :: Res.obj 79 osx0 [.int .i64 sx0_window, .int .i64 sx0_wait, .int .i64 sx0_now, .int .i64 sx0_front, vsx0_left] :: ow)) {r : (Int × (Int × Int × Int × Int × (List (ByteArray × Bool × Int × Bool))))} (h : f_again_Sender_Hear sx0_window sx0_wait sx0_now sx0_front sx0_left f1_Kind f1_Number f1_More f1_Body = some r) :
    Calls Try.prog 23 #[osx0, .agg #[.int .u8 f1_Kind, .int .u8 f1_Number, .bool f1_More, .string f1_Body]] w (fun e w' => ∃ (u0 : Value), e = .returned (.int .i64 r.1) ∧ Hp S w0 w' (Res.sl (Ek.pair Ek.str (Ek.pair Ek.bool (Ek.pair (Ek.int .i64) Ek.bool))) 81 u0 r.2.2.2.2.2 :: Res.obj 79 osx0 [.int .i64 r.2.1, .int .i64 r.2.2.1, .int .i64 r.2.2.2.1, .int .i64 r.2.2.2.2.1, u0] :: ow)) := by
  unfold f_again_Sender_Hear at h
  refine enter (n := 126) (args := [osx0, .agg #[.int .u8 f1_Kind, .int .u8 f1_Number, .bool f1_More, .string f1_Body]]) Try.func23 rfl rfl (Nat.le_of_ble_eq_true rfl) fun a hf => ?_
  replace hf : Fr 126 a [(0, osx0), (1, .agg #[.int .u8 f1_Kind, .int .u8 f1_Number, .bool f1_More, .string f1_Body])] := hf
  refine wp_mono (Q := fun e a w => e = .ret ∧ ∃ (u0 : Value), Fr 126 a [(4, .int .i64 r.1)] ∧ Hp S w0 w (Res.sl (Ek.pair Ek.str (Ek.pair Ek.bool (Ek.pair (Ek.int .i64) Ek.bool))) 81 u0 r.2.2.2.2.2 :: Res.obj 79 osx0 [.int .i64 r.2.1, .int .i64 r.2.2.1, .int .i64 r.2.2.2.1, .int .i64 r.2.2.2.2.1, u0] :: ow)) ?_ ?_
  rotate_left
  · rintro e a w ⟨rfl, x0, hf, hp⟩
    exact ret1 hf rfl rfl ⟨x0, rfl, hp⟩
  refine wp_seq ?_
  refine wp_reg ?_
  refine st_boxO (cs := [.int .u8 f1_Kind, .int .u8 f1_Number, .bool f1_More, .string f1_Body]) hf (by decide) hp rfl rfl rfl ?_
  clear hf; intro a w v3 hf hp0; clear hp; have hp := hp0; clear hp0
  replace hp : Hp _ _ _ (Res.obj 31 v3 [.int .u8 f1_Kind, .int .u8 f1_Number, .bool f1_More, .string f1_Body] :: Res.sl (Ek.pair Ek.str (Ek.pair Ek.bool (Ek.pair (Ek.int .i64) Ek.bool))) 81 vsx0_left sx0_left :: Res.obj 79 osx0 [.int .i64 sx0_window, .int .i64 sx0_wait, .int .i64 sx0_now, .int .i64 sx0_front, vsx0_left] :: ow) := hp
  refine st_assign hf rfl rfl (by decide) ?_
  clear hf; intro a ha hf; clear ha
  refine st_nil hf ?_
  refine th_n ?_
  refine wp_seq ?_
  refine wp_seq ?_
  refine wp_reg ?_
  refine st_move hf rfl rfl (by decide) ?_
  clear hf; intro a ha hf; clear ha
  refine st_peql hf (by decide) Try.underlying44 rfl rfl rfl (nilF (hp.ob (i := 2) rfl).e) ?_
  clear hf; intro a ha hf; clear ha
  refine st_nil hf ?_
  refine th_n ?_
  refine wp_if hf rfl (fun hb => ?_) (fun hb => ?_)
  · exact absurd hb (by decide)
  refine wp_skip ?_
  refine th_n ?_
  refine wp_seq ?_
  refine wp_seq ?_
  refine wp_reg ?_
  refine st_fa (o' := 0) hf (by decide) (off := 0) (sz := 1) (by kernel_rfl) (by decide) rfl rfl (hp.ob (i := 0) rfl) rfl ?_
  clear hf; intro a ha hf; clear ha
  refine st_ldO (u := .int .u8 f1_Kind) hf (by decide) pl5 rfl rfl (hp.ob (i := 0) rfl) rfl ?_
  clear hf; intro a ha hf; clear ha
  refine st_ineq hf (by decide) rfl rfl rfl ?_
  clear hf; intro a ha hf; clear ha
  refine st_move hf rfl rfl (by decide) ?_
  clear hf; intro a ha hf; clear ha
  refine wpList_cut 3 (fun a w => Fr 126 a [(0, osx0), (3, optr v3 0), (17, .bool ((f1_Kind != (2 : Int)) || f1_More))] ∧ Hp S w0 w (Res.obj 31 v3 [.int .u8 f1_Kind, .int .u8 f1_Number, .bool f1_More, .string f1_Body] :: Res.sl (Ek.pair Ek.str (Ek.pair Ek.bool (Ek.pair (Ek.int .i64) Ek.bool))) 81 vsx0_left sx0_left :: Res.obj 79 osx0 [.int .i64 sx0_window, .int .i64 sx0_wait, .int .i64 sx0_now, .int .i64 sx0_front, vsx0_left] :: ow)) ?_ ?_
  · rcases Bool.eq_false_or_eq_true (f1_Kind != (2 : Int)) with hb6 | hb6
    · skip
      refine st_skip hf (wantN hf rfl rfl hb6) rfl (by decide) ?_ rfl
      clear hf; intro a hf
      refine st_skip hf (wantN hf rfl rfl hb6) rfl (by decide) ?_ rfl
      clear hf; intro a hf
      refine st_pick (v := .bool true) hf rfl rfl (fun hb' => ?_) (fun hb' => ?_) (by decide) ?_
      · rfl
      · exact absurd (hb6.symm.trans hb') (by decide)
      clear hf; intro a ha hf; clear ha
      refine st_nil hf (th_n ?_)
      exact ⟨hf.sub ⟨rfl, rfl, (by rw [hb6]; rfl), trivial⟩, hp⟩
    refine st_fa (o' := 2) hf (by decide) (off := 2) (sz := 1) (by kernel_rfl) (by decide) (wantY hf rfl rfl hb6) rfl (hp.ob (i := 0) rfl) rfl ?_
    clear hf; intro a ha hf; clear ha
    refine st_ldO (u := .bool f1_More) hf (by decide) pl4 (wantY hf rfl rfl hb6) rfl (hp.ob (i := 0) rfl) rfl ?_
    clear hf; intro a ha hf; clear ha
    refine st_pick (v := .bool f1_More) hf rfl rfl (fun hb' => ?_) (fun hb' => ?_) (by decide) ?_
    · exact absurd (hb6.symm.trans hb') (by decide)
    · rfl
    clear hf; intro a ha hf; clear ha
    refine st_nil hf (th_n ?_)
    exact ⟨hf.sub ⟨rfl, rfl, (by rw [hb6]; rfl), trivial⟩, hp⟩
  rintro a w ⟨hf, hp⟩
  refine st_move hf rfl rfl (by decide) ?_
  clear hf; intro a ha hf; clear ha
  refine wpList_cut 5 (fun a w => Fr 126 a [(0, osx0), (3, optr v3 0), (23, .bool (((f1_Kind != (2 : Int)) || f1_More) || ((f1_Body.size : Int) != (16 : Int))))] ∧ Hp S w0 w (Res.obj 31 v3 [.int .u8 f1_Kind, .int .u8 f1_Number, .bool f1_More, .string f1_Body] :: Res.sl (Ek.pair Ek.str (Ek.pair Ek.bool (Ek.pair (Ek.int .i64) Ek.bool))) 81 vsx0_left sx0_left :: Res.obj 79 osx0 [.int .i64 sx0_window, .int .i64 sx0_wait, .int .i64 sx0_now, .int .i64 sx0_front, vsx0_left] :: ow)) ?_ ?_
  · rcases Bool.eq_false_or_eq_true ((f1_Kind != (2 : Int)) || f1_More) with hb8 | hb8
    · skip
      refine st_skip hf (wantN hf rfl rfl hb8) rfl (by decide) ?_ rfl
      clear hf; intro a hf
      refine st_skip hf (wantN hf rfl rfl hb8) rfl (by decide) ?_ rfl
      clear hf; intro a hf
      refine st_skip hf (wantN hf rfl rfl hb8) rfl (by decide) ?_ rfl
      clear hf; intro a hf
      refine st_skip hf (wantN hf rfl rfl hb8) rfl (by decide) ?_ rfl
      clear hf; intro a hf
      refine st_pick (v := .bool true) hf rfl rfl (fun hb' => ?_) (fun hb' => ?_) (by decide) ?_
      · rfl
      · exact absurd (hb8.symm.trans hb') (by decide)
      clear hf; intro a ha hf; clear ha
      refine st_nil hf (th_n ?_)
      exact ⟨hf.sub ⟨rfl, rfl, (by rw [hb8]; rfl), trivial⟩, hp⟩
    refine st_fa (o' := 3) hf (by decide) (off := 3) (sz := 1) (by kernel_rfl) (by decide) (wantY hf rfl rfl hb8) rfl (hp.ob (i := 0) rfl) rfl ?_
    clear hf; intro a ha hf; clear ha
    refine st_ldO (u := .string f1_Body) hf (by decide) pl9 (wantY hf rfl rfl hb8) rfl (hp.ob (i := 0) rfl) rfl ?_
    clear hf; intro a ha hf; clear ha
    refine st_slen hf (by decide) Try.underlying9 (wantY hf rfl rfl hb8) rfl ?_
    clear hf; intro a ha hf; clear ha
    refine st_ineq hf (by decide) (wantY hf rfl rfl hb8) rfl rfl ?_
    clear hf; intro a ha hf; clear ha
    refine st_pick (v := .bool ((f1_Body.size : Int) != (16 : Int))) hf rfl rfl (fun hb' => ?_) (fun hb' => ?_) (by decide) ?_
    · exact absurd (hb8.symm.trans hb') (by decide)
    · rfl
    clear hf; intro a ha hf; clear ha
    refine st_nil hf (th_n ?_)
    exact ⟨hf.sub ⟨rfl, rfl, (by rw [hb8]; rfl), trivial⟩, hp⟩
  rintro a w ⟨hf, hp⟩
  refine st_nil hf ?_
  refine th_n ?_
  refine wp_if hf rfl (fun hb => ?_) (fun hb => ?_)
  · replace h := ifT h hb
    refine wp_seq ?_
    refine wp_reg ?_
    refine st_assign hf rfl rfl (by decide) ?_
    clear hf; intro a ha hf; clear ha
    refine st_nil hf ?_
    refine th_n ?_
    refine wp_ret ?_
    refine th_r ?_
    obtain rfl := Option.some.inj h
    have hp : Hp _ _ _ (Res.sl (Ek.pair Ek.str (Ek.pair Ek.bool (Ek.pair (Ek.int .i64) Ek.bool))) 81 vsx0_left sx0_left :: Res.obj 79 osx0 [.int .i64 sx0_window, .int .i64 sx0_wait, .int .i64 sx0_now, .int .i64 sx0_front, vsx0_left] :: ow) := Hp.sel (pre := [Res.obj 31 v3 [.int .u8 f1_Kind, .int .u8 f1_Number, .bool f1_More, .string f1_Body], Res.sl (Ek.pair Ek.str (Ek.pair Ek.bool (Ek.pair (Ek.int .i64) Ek.bool))) 81 vsx0_left sx0_left, Res.obj 79 osx0 [.int .i64 sx0_window, .int .i64 sx0_wait, .int .i64 sx0_now, .int .i64 sx0_front, vsx0_left]]) (tail := ow) (rs' := [Res.sl (Ek.pair Ek.str (Ek.pair Ek.bool (Ek.pair (Ek.int .i64) Ek.bool))) 81 vsx0_left sx0_left, Res.obj 79 osx0 [.int .i64 sx0_window, .int .i64 sx0_wait, .int .i64 sx0_now, .int .i64 sx0_front, vsx0_left]]) hp [1, 2] (by decide) (by simp) rfl
    exact ⟨rfl, ⟨_, hf.sub ⟨rfl, trivial⟩, hp⟩⟩
  replace h := ifF h hb
  refine wp_skip ?_
  refine th_n ?_
  refine wp_seq ?_
  refine wp_reg ?_
  refine st_assign hf rfl rfl (by decide) ?_
  clear hf; intro a ha hf; clear ha
  refine st_nil hf ?_
  refine th_n ?_
  refine wp_seq ?_
  refine wp_block ?_
  obtain ⟨q25, hl, h⟩ := bnd h
  have hp : Hp _ _ _ (Res.obj 79 osx0 [.int .i64 sx0_window, .int .i64 sx0_wait, .int .i64 sx0_now, .int .i64 sx0_front, vsx0_left] :: Res.sl (Ek.pair Ek.str (Ek.pair Ek.bool (Ek.pair (Ek.int .i64) Ek.bool))) 81 vsx0_left sx0_left :: Res.obj 31 v3 [.int .u8 f1_Kind, .int .u8 f1_Number, .bool f1_More, .string f1_Body] :: ow) := Hp.sel (pre := [Res.obj 31 v3 [.int .u8 f1_Kind, .int .u8 f1_Number, .bool f1_More, .string f1_Body], Res.sl (Ek.pair Ek.str (Ek.pair Ek.bool (Ek.pair (Ek.int .i64) Ek.bool))) 81 vsx0_left sx0_left, Res.obj 79 osx0 [.int .i64 sx0_window, .int .i64 sx0_wait, .int .i64 sx0_now, .int .i64 sx0_front, vsx0_left]]) (tail := ow) (rs' := [Res.obj 79 osx0 [.int .i64 sx0_window, .int .i64 sx0_wait, .int .i64 sx0_now, .int .i64 sx0_front, vsx0_left], Res.sl (Ek.pair Ek.str (Ek.pair Ek.bool (Ek.pair (Ek.int .i64) Ek.bool))) 81 vsx0_left sx0_left, Res.obj 31 v3 [.int .u8 f1_Kind, .int .u8 f1_Number, .bool f1_More, .string f1_Body]]) hp [2, 1, 0] (by decide) (by simp) rfl
  refine wp_loop_pure (f := (f_again_Sender_Hear.s1 sx0_window sx0_left)) (s := (0 : Int)) (fun s a w => Fr 126 a [(0, osx0), (3, optr v3 0), (5, .int .i64 s)] ∧ Hp S w0 w (Res.obj 79 osx0 [.int .i64 sx0_window, .int .i64 sx0_wait, .int .i64 sx0_now, .int .i64 sx0_front, vsx0_left] :: Res.sl (Ek.pair Ek.str (Ek.pair Ek.bool (Ek.pair (Ek.int .i64) Ek.bool))) 81 vsx0_left sx0_left :: Res.obj 31 v3 [.int .u8 f1_Kind, .int .u8 f1_Number, .bool f1_More, .string f1_Body] :: ow)) (fun q e a w => e = .exit 0 ∧ Fr 126 a [(0, osx0), (3, optr v3 0), (5, .int .i64 q)] ∧ Hp S w0 w (Res.obj 79 osx0 [.int .i64 sx0_window, .int .i64 sx0_wait, .int .i64 sx0_now, .int .i64 sx0_front, vsx0_left] :: Res.sl (Ek.pair Ek.str (Ek.pair Ek.bool (Ek.pair (Ek.int .i64) Ek.bool))) 81 vsx0_left sx0_left :: Res.obj 31 v3 [.int .u8 f1_Kind, .int .u8 f1_Number, .bool f1_More, .string f1_Body] :: ow)) ?_ hl ⟨hf.sub ⟨rfl, rfl, rfl, trivial⟩, hp⟩ ?_
  · clear hl hf hp
    intro s x a w h hI
    obtain ⟨k5, hs⟩ : ∃ z, z = s := ⟨s, rfl⟩; subst hs
    obtain ⟨hf, hp⟩ : Fr 126 a [(0, osx0), (3, optr v3 0), (5, .int .i64 k5)] ∧ Hp S w0 w (Res.obj 79 osx0 [.int .i64 sx0_window, .int .i64 sx0_wait, .int .i64 sx0_now, .int .i64 sx0_front, vsx0_left] :: Res.sl (Ek.pair Ek.str (Ek.pair Ek.bool (Ek.pair (Ek.int .i64) Ek.bool))) 81 vsx0_left sx0_left :: Res.obj 31 v3 [.int .u8 f1_Kind, .int .u8 f1_Number, .bool f1_More, .string f1_Body] :: ow) := hI
    replace h : f_again_Sender_Hear.s1c sx0_window sx0_left k5 = some x := h
    unfold f_again_Sender_Hear.s1c at h
    refine wp_seq ?_
    refine wp_seq ?_
    obtain ⟨S9, hp10, rd11, up12, bk13⟩ := Hp.lendO hp (i := 0) rfl
    obtain ⟨S14, hp15, rd16, up17, bk18⟩ := Hp.lendS hp10 (i := 0) rfl
    have rl19 := ((rd11.now hp10).mono up17)
    have rl20 := rd16
    obtain ⟨z24, hz21, h⟩ := bnd h
    refine wp_cutN (fun a w => Fr 126 a [(0, osx0), (3, optr v3 0), (5, .int .i64 k5), (45, .bool z24)] ∧ Hp S w0 w (Res.obj 79 osx0 [.int .i64 sx0_window, .int .i64 sx0_wait, .int .i64 sx0_now, .int .i64 sx0_front, vsx0_left] :: Res.sl (Ek.pair Ek.str (Ek.pair Ek.bool (Ek.pair (Ek.int .i64) Ek.bool))) 81 vsx0_left sx0_left :: Res.obj 31 v3 [.int .u8 f1_Kind, .int .u8 f1_Number, .bool f1_More, .string f1_Body] :: ow)) ?_ ?_
    · have hp := hp15.same (Same.drew w)
      rcases Bool.eq_false_or_eq_true (decide (k5 < (imin sx0_window (sx0_left.length : Int)))) with hb22 | hb22
      · skip
        replace hz21 := ifT hz21 hb22
        obtain ⟨hc23, hz21⟩ := chk hz21
        replace hz21 := Option.some.inj hz21
        refine dr_begin' (fun a w => Fr 126 a [(0, osx0), (3, optr v3 0), (5, .int .i64 k5), (45, .bool z24)] ∧ Hp S w0 w (Res.obj 79 osx0 [.int .i64 sx0_window, .int .i64 sx0_wait, .int .i64 sx0_now, .int .i64 sx0_front, vsx0_left] :: Res.sl (Ek.pair Ek.str (Ek.pair Ek.bool (Ek.pair (Ek.int .i64) Ek.bool))) 81 vsx0_left sx0_left :: Res.obj 31 v3 [.int .u8 f1_Kind, .int .u8 f1_Number, .bool f1_More, .string f1_Body] :: ow)) (fun w' => ∃ l, Hp S14 w w' l) [] (by kernel_rfl) ?_
        refine dr_take 0 (.int .i64 k5) rfl (by kernel_rfl) (by kernel_rfl) (by kernel_rfl) (by kernel_rfl) rfl rfl hf (by decide) rfl (fun w hp => ?_) ⟨_, hp⟩ ?_
        · obtain ⟨_, hp⟩ := hp
          refine st_move hf rfl rfl (by decide) ?_
          clear hf; intro a ha hf
          exact st_nil hf (th_n ⟨ha, rfl⟩)
        clear hf; intro a hf
        refine dr_take 1 (osx0) rfl (by kernel_rfl) (by kernel_rfl) (by kernel_rfl) (by kernel_rfl) rfl rfl hf (by decide) rfl (fun w hp => ?_) ⟨_, hp⟩ ?_
        · obtain ⟨_, hp⟩ := hp
          refine st_move hf rfl rfl (by decide) ?_
          clear hf; intro a ha hf
          exact st_nil hf (th_n ⟨ha, rfl⟩)
        clear hf; intro a hf
        refine dr_nilV 2 rfl (by kernel_rfl) (by kernel_rfl) (by kernel_rfl) hf (by decide) rfl rfl (rl19.ob hp) ?_
        clear hf; intro a hf
        refine dr_take 3 (optr osx0 0) rfl (by kernel_rfl) (by kernel_rfl) (by kernel_rfl) (by kernel_rfl) rfl rfl hf (by decide) rfl (fun w hp => ?_) ⟨_, hp⟩ ?_
        · obtain ⟨_, hp⟩ := hp
          refine st_fa (o' := 0) hf (by decide) (off := 0) (sz := 1) (by kernel_rfl) (by decide) rfl rfl (rl19.ob hp) rfl ?_
          clear hf; intro a ha hf
          exact st_nil hf (th_n ⟨ha, rfl⟩)
        clear hf; intro a hf
        refine dr_take 4 (.int .i64 sx0_window) rfl (by kernel_rfl) (by kernel_rfl) (by kernel_rfl) (by kernel_rfl) rfl rfl hf (by decide) rfl (fun w hp => ?_) ⟨_, hp⟩ ?_
        · obtain ⟨_, hp⟩ := hp
          refine st_ldO (u := .int .i64 sx0_window) hf (by decide) pl3 rfl rfl (rl19.ob hp) rfl ?_
          clear hf; intro a ha hf
          exact st_nil hf (th_n ⟨ha, rfl⟩)
        clear hf; intro a hf
        refine dr_take 5 (osx0) rfl (by kernel_rfl) (by kernel_rfl) (by kernel_rfl) (by kernel_rfl) rfl rfl hf (by decide) rfl (fun w hp => ?_) ⟨_, hp⟩ ?_
        · obtain ⟨_, hp⟩ := hp
          refine st_move hf rfl rfl (by decide) ?_
          clear hf; intro a ha hf
          exact st_nil hf (th_n ⟨ha, rfl⟩)
        clear hf; intro a hf
        refine dr_nilV 6 rfl (by kernel_rfl) (by kernel_rfl) (by kernel_rfl) hf (by decide) rfl rfl (rl19.ob hp) ?_
        clear hf; intro a hf
        refine dr_take 7 (optr osx0 4) rfl (by kernel_rfl) (by kernel_rfl) (by kernel_rfl) (by kernel_rfl) rfl rfl hf (by decide) rfl (fun w hp => ?_) ⟨_, hp⟩ ?_
        · obtain ⟨_, hp⟩ := hp
          refine st_fa (o' := 4) hf (by decide) (off := 4) (sz := 1) (by kernel_rfl) (by decide) rfl rfl (rl19.ob hp) rfl ?_
          clear hf; intro a ha hf
          exact st_nil hf (th_n ⟨ha, rfl⟩)
        clear hf; intro a hf
        refine dr_take 8 (vsx0_left) rfl (by kernel_rfl) (by kernel_rfl) (by kernel_rfl) (by kernel_rfl) rfl rfl hf (by decide) rfl (fun w hp => ?_) ⟨_, hp⟩ ?_
        · obtain ⟨_, hp⟩ := hp
          refine st_ldO (u := vsx0_left) hf (by decide) pl77 rfl rfl (rl19.ob hp) rfl ?_
          clear hf; intro a ha hf
          exact st_nil hf (th_n ⟨ha, rfl⟩)
        clear hf; intro a hf
        refine dr_take 9 (.int .i64 (sx0_left.length : Int)) rfl (by kernel_rfl) (by kernel_rfl) (by kernel_rfl) (by kernel_rfl) rfl rfl hf (by decide) rfl (fun w hp => ?_) ⟨_, hp⟩ ?_
        · obtain ⟨_, hp⟩ := hp
          refine st_len (E := (Ek.pair Ek.str (Ek.pair Ek.bool (Ek.pair (Ek.int .i64) Ek.bool)))) hf (by decide) Try.underlying77 rfl rfl (rl20.sl hp) ?_
          clear hf; intro a ha hf
          exact st_nil hf (th_n ⟨ha, rfl⟩)
        clear hf; intro a hf
        refine dr_take 10 (.int .i64 (imin sx0_window (sx0_left.length : Int))) rfl (by kernel_rfl) (by kernel_rfl) (by kernel_rfl) (by kernel_rfl) rfl rfl hf (by decide) rfl (fun w hp => ?_) ⟨_, hp⟩ ?_
        · obtain ⟨_, hp⟩ := hp
          refine st_imin hf (by decide) rfl rfl rfl ?_
          clear hf; intro a ha hf
          exact st_nil hf (th_n ⟨ha, rfl⟩)
        clear hf; intro a hf
        refine dr_take 11 (.bool (decide (k5 < (imin sx0_window (sx0_left.length : Int))))) rfl (by kernel_rfl) (by kernel_rfl) (by kernel_rfl) (by kernel_rfl) rfl rfl hf (by decide) rfl (fun w hp => ?_) ⟨_, hp⟩ ?_
        · obtain ⟨_, hp⟩ := hp
          refine st_ilss hf (by decide) rfl rfl rfl ?_
          clear hf; intro a ha hf
          exact st_nil hf (th_n ⟨ha, rfl⟩)
        clear hf; intro a hf
        refine dr_take 12 (.bool (decide (k5 < (imin sx0_window (sx0_left.length : Int))))) rfl (by kernel_rfl) (by kernel_rfl) (by kernel_rfl) (by kernel_rfl) rfl rfl hf (by decide) rfl (fun w hp => ?_) ⟨_, hp⟩ ?_
        · obtain ⟨_, hp⟩ := hp
          refine st_move hf rfl rfl (by decide) ?_
          clear hf; intro a ha hf
          exact st_nil hf (th_n ⟨ha, rfl⟩)
        clear hf; intro a hf
        refine dr_take 13 (osx0) rfl (by kernel_rfl) (by kernel_rfl) (by kernel_rfl) (by kernel_rfl) rfl rfl hf (by decide) (wantY hf rfl rfl hb22) (fun w hp => ?_) ⟨_, hp⟩ ?_
        · obtain ⟨_, hp⟩ := hp
          refine st_move hf (wantY hf rfl rfl hb22) rfl (by decide) ?_
          clear hf; intro a ha hf
          exact st_nil hf (th_n ⟨ha, rfl⟩)
        clear hf; intro a hf
        refine dr_nilV 14 rfl (by kernel_rfl) (by kernel_rfl) (by kernel_rfl) hf (by decide) (wantY hf rfl rfl hb22) rfl (rl19.ob hp) ?_
        clear hf; intro a hf
        refine dr_take 15 (optr osx0 4) rfl (by kernel_rfl) (by kernel_rfl) (by kernel_rfl) (by kernel_rfl) rfl rfl hf (by decide) (wantY hf rfl rfl hb22) (fun w hp => ?_) ⟨_, hp⟩ ?_
        · obtain ⟨_, hp⟩ := hp
          refine st_fa (o' := 4) hf (by decide) (off := 4) (sz := 1) (by kernel_rfl) (by decide) (wantY hf rfl rfl hb22) rfl (rl19.ob hp) rfl ?_
          clear hf; intro a ha hf
          exact st_nil hf (th_n ⟨ha, rfl⟩)
        clear hf; intro a hf
        refine dr_take 16 (vsx0_left) rfl (by kernel_rfl) (by kernel_rfl) (by kernel_rfl) (by kernel_rfl) rfl rfl hf (by decide) (wantY hf rfl rfl hb22) (fun w hp => ?_) ⟨_, hp⟩ ?_
        · obtain ⟨_, hp⟩ := hp
          refine st_ldO (u := vsx0_left) hf (by decide) pl77 (wantY hf rfl rfl hb22) rfl (rl19.ob hp) rfl ?_
          clear hf; intro a ha hf
          exact st_nil hf (th_n ⟨ha, rfl⟩)
        clear hf; intro a hf
        refine dr_take 17 (.int .i64 k5) rfl (by kernel_rfl) (by kernel_rfl) (by kernel_rfl) (by kernel_rfl) rfl rfl hf (by decide) (wantY hf rfl rfl hb22) (fun w hp => ?_) ⟨_, hp⟩ ?_
        · obtain ⟨_, hp⟩ := hp
          refine st_move hf (wantY hf rfl rfl hb22) rfl (by decide) ?_
          clear hf; intro a ha hf
          exact st_nil hf (th_n ⟨ha, rfl⟩)
        clear hf; intro a hf
        refine dr_take 18 (eptr vsx0_left k5 4) rfl (by kernel_rfl) (by kernel_rfl) (by kernel_rfl) (by kernel_rfl) rfl rfl hf (by decide) (wantY hf rfl rfl hb22) (fun w hp => ?_) ⟨_, hp⟩ ?_
        · obtain ⟨_, hp⟩ := hp
          refine st_index (E := (Ek.pair Ek.str (Ek.pair Ek.bool (Ek.pair (Ek.int .i64) Ek.bool)))) hf (by decide) Try.underlying77 elt81 (wantY hf rfl rfl hb22) rfl rfl (rl20.sl hp) hc23.1 hc23.2 ?_
          clear hf; intro a ha hf
          exact st_nil hf (th_n ⟨ha, rfl⟩)
        clear hf; intro a hf
        refine dr_take 19 (optr (eptr vsx0_left k5 4) 1) rfl (by kernel_rfl) (by kernel_rfl) (by kernel_rfl) (by kernel_rfl) rfl rfl hf (by decide) (wantY hf rfl rfl hb22) (fun w hp => ?_) ⟨_, hp⟩ ?_
        · obtain ⟨_, hp⟩ := hp
          refine st_faP (off := 1) (sz := 1) hf (by decide) (by kernel_rfl) (by decide) (wantY hf rfl rfl hb22) rfl (Sl.isP (rl20.sl hp) hc23.1 hc23.2) ?_
          clear hf; intro a ha hf
          exact st_nil hf (th_n ⟨ha, rfl⟩)
        clear hf; intro a hf
        refine dr_take 20 (.bool ((gt sx0_left k5).2.1)) rfl (by kernel_rfl) (by kernel_rfl) (by kernel_rfl) (by kernel_rfl) rfl rfl hf (by decide) (wantY hf rfl rfl hb22) (fun w hp => ?_) ⟨_, hp⟩ ?_
        · obtain ⟨_, hp⟩ := hp
          refine st_ldQ (F := Ek.bool) (yv := (gt sx0_left k5).2.1) hf (by decide) pl4 (fun x => .bool x) (fun _ _ h => h) (wantY hf rfl rfl hb22) rfl (Sl.part (E := (Ek.pair Ek.str (Ek.pair Ek.bool (Ek.pair (Ek.int .i64) Ek.bool)))) (F := Ek.bool) (o := 1) (Sub.comp (Sub.snd (E := Ek.str) (F := (Ek.pair Ek.bool (Ek.pair (Ek.int .i64) Ek.bool)))) (Sub.fst (E := Ek.bool) (F := (Ek.pair (Ek.int .i64) Ek.bool)))) (rl20.sl hp) hc23.1 hc23.2) ?_
          clear hf; intro a ha hf
          exact st_nil hf (th_n ⟨ha, rfl⟩)
        clear hf; intro a hf
        refine dr_take 21 (.bool z24) rfl (by kernel_rfl) (by kernel_rfl) (by kernel_rfl) (by kernel_rfl) rfl rfl hf (by decide) rfl (fun w hp => ?_) ⟨_, hp⟩ ?_
        · obtain ⟨_, hp⟩ := hp
          refine st_pick (v := .bool z24) hf rfl rfl (fun _ => by rw [← hz21]; rfl) (fun hb' => absurd (hb22.symm.trans hb') (by decide)) (by decide) ?_
          clear hf; intro a ha hf
          exact st_nil hf (th_n ⟨ha, rfl⟩)
        clear hf; intro a hf
        refine dr_end (by kernel_rfl) ?_ _
        have hp := bk18 _ _ hp
        have hp := bk13 _ _ hp
        exact ⟨hf.sub ⟨rfl, rfl, rfl, rfl, trivial⟩, hp⟩
      skip
      replace hz21 := ifF hz21 hb22
      replace hz21 := Option.some.inj hz21
      refine dr_begin' (fun a w => Fr 126 a [(0, osx0), (3, optr v3 0), (5, .int .i64 k5), (45, .bool z24)] ∧ Hp S w0 w (Res.obj 79 osx0 [.int .i64 sx0_window, .int .i64 sx0_wait, .int .i64 sx0_now, .int .i64 sx0_front, vsx0_left] :: Res.sl (Ek.pair Ek.str (Ek.pair Ek.bool (Ek.pair (Ek.int .i64) Ek.bool))) 81 vsx0_left sx0_left :: Res.obj 31 v3 [.int .u8 f1_Kind, .int .u8 f1_Number, .bool f1_More, .string f1_Body] :: ow)) (fun w' => ∃ l, Hp S14 w w' l) [] (by kernel_rfl) ?_
      refine dr_take 0 (.int .i64 k5) rfl (by kernel_rfl) (by kernel_rfl) (by kernel_rfl) (by kernel_rfl) rfl rfl hf (by decide) rfl (fun w hp => ?_) ⟨_, hp⟩ ?_
      · obtain ⟨_, hp⟩ := hp
        refine st_move hf rfl rfl (by decide) ?_
        clear hf; intro a ha hf
        exact st_nil hf (th_n ⟨ha, rfl⟩)
      clear hf; intro a hf
      refine dr_take 1 (osx0) rfl (by kernel_rfl) (by kernel_rfl) (by kernel_rfl) (by kernel_rfl) rfl rfl hf (by decide) rfl (fun w hp => ?_) ⟨_, hp⟩ ?_
      · obtain ⟨_, hp⟩ := hp
        refine st_move hf rfl rfl (by decide) ?_
        clear hf; intro a ha hf
        exact st_nil hf (th_n ⟨ha, rfl⟩)
      clear hf; intro a hf
      refine dr_nilV 2 rfl (by kernel_rfl) (by kernel_rfl) (by kernel_rfl) hf (by decide) rfl rfl (rl19.ob hp) ?_
      clear hf; intro a hf
      refine dr_take 3 (optr osx0 0) rfl (by kernel_rfl) (by kernel_rfl) (by kernel_rfl) (by kernel_rfl) rfl rfl hf (by decide) rfl (fun w hp => ?_) ⟨_, hp⟩ ?_
      · obtain ⟨_, hp⟩ := hp
        refine st_fa (o' := 0) hf (by decide) (off := 0) (sz := 1) (by kernel_rfl) (by decide) rfl rfl (rl19.ob hp) rfl ?_
        clear hf; intro a ha hf
        exact st_nil hf (th_n ⟨ha, rfl⟩)
      clear hf; intro a hf
      refine dr_take 4 (.int .i64 sx0_window) rfl (by kernel_rfl) (by kernel_rfl) (by kernel_rfl) (by kernel_rfl) rfl rfl hf (by decide) rfl (fun w hp => ?_) ⟨_, hp⟩ ?_
      · obtain ⟨_, hp⟩ := hp
        refine st_ldO (u := .int .i64 sx0_window) hf (by decide) pl3 rfl rfl (rl19.ob hp) rfl ?_
        clear hf; intro a ha hf
        exact st_nil hf (th_n ⟨ha, rfl⟩)
      clear hf; intro a hf
      refine dr_take 5 (osx0) rfl (by kernel_rfl) (by kernel_rfl) (by kernel_rfl) (by kernel_rfl) rfl rfl hf (by decide) rfl (fun w hp => ?_) ⟨_, hp⟩ ?_
      · obtain ⟨_, hp⟩ := hp
        refine st_move hf rfl rfl (by decide) ?_
        clear hf; intro a ha hf
        exact st_nil hf (th_n ⟨ha, rfl⟩)
      clear hf; intro a hf
      refine dr_nilV 6 rfl (by kernel_rfl) (by kernel_rfl) (by kernel_rfl) hf (by decide) rfl rfl (rl19.ob hp) ?_
      clear hf; intro a hf
      refine dr_take 7 (optr osx0 4) rfl (by kernel_rfl) (by kernel_rfl) (by kernel_rfl) (by kernel_rfl) rfl rfl hf (by decide) rfl (fun w hp => ?_) ⟨_, hp⟩ ?_
      · obtain ⟨_, hp⟩ := hp
        refine st_fa (o' := 4) hf (by decide) (off := 4) (sz := 1) (by kernel_rfl) (by decide) rfl rfl (rl19.ob hp) rfl ?_
        clear hf; intro a ha hf
        exact st_nil hf (th_n ⟨ha, rfl⟩)
      clear hf; intro a hf
      refine dr_take 8 (vsx0_left) rfl (by kernel_rfl) (by kernel_rfl) (by kernel_rfl) (by kernel_rfl) rfl rfl hf (by decide) rfl (fun w hp => ?_) ⟨_, hp⟩ ?_
      · obtain ⟨_, hp⟩ := hp
        refine st_ldO (u := vsx0_left) hf (by decide) pl77 rfl rfl (rl19.ob hp) rfl ?_
        clear hf; intro a ha hf
        exact st_nil hf (th_n ⟨ha, rfl⟩)
      clear hf; intro a hf
      refine dr_take 9 (.int .i64 (sx0_left.length : Int)) rfl (by kernel_rfl) (by kernel_rfl) (by kernel_rfl) (by kernel_rfl) rfl rfl hf (by decide) rfl (fun w hp => ?_) ⟨_, hp⟩ ?_
      · obtain ⟨_, hp⟩ := hp
        refine st_len (E := (Ek.pair Ek.str (Ek.pair Ek.bool (Ek.pair (Ek.int .i64) Ek.bool)))) hf (by decide) Try.underlying77 rfl rfl (rl20.sl hp) ?_
        clear hf; intro a ha hf
        exact st_nil hf (th_n ⟨ha, rfl⟩)
      clear hf; intro a hf
      refine dr_take 10 (.int .i64 (imin sx0_window (sx0_left.length : Int))) rfl (by kernel_rfl) (by kernel_rfl) (by kernel_rfl) (by kernel_rfl) rfl rfl hf (by decide) rfl (fun w hp => ?_) ⟨_, hp⟩ ?_
      · obtain ⟨_, hp⟩ := hp
        refine st_imin hf (by decide) rfl rfl rfl ?_
        clear hf; intro a ha hf
        exact st_nil hf (th_n ⟨ha, rfl⟩)
      clear hf; intro a hf
      refine dr_take 11 (.bool (decide (k5 < (imin sx0_window (sx0_left.length : Int))))) rfl (by kernel_rfl) (by kernel_rfl) (by kernel_rfl) (by kernel_rfl) rfl rfl hf (by decide) rfl (fun w hp => ?_) ⟨_, hp⟩ ?_
      · obtain ⟨_, hp⟩ := hp
        refine st_ilss hf (by decide) rfl rfl rfl ?_
        clear hf; intro a ha hf
        exact st_nil hf (th_n ⟨ha, rfl⟩)
      clear hf; intro a hf
      refine dr_take 12 (.bool (decide (k5 < (imin sx0_window (sx0_left.length : Int))))) rfl (by kernel_rfl) (by kernel_rfl) (by kernel_rfl) (by kernel_rfl) rfl rfl hf (by decide) rfl (fun w hp => ?_) ⟨_, hp⟩ ?_
      · obtain ⟨_, hp⟩ := hp
        refine st_move hf rfl rfl (by decide) ?_
        clear hf; intro a ha hf
        exact st_nil hf (th_n ⟨ha, rfl⟩)
      clear hf; intro a hf
      refine dr_out 13 rfl (by kernel_rfl) (by kernel_rfl) (by kernel_rfl) (by kernel_rfl) rfl hf (by decide) rfl (wantN hf rfl rfl hb22) ⟨_, hp⟩ ?_
      clear hf; intro a hf
      refine dr_outP 14 rfl (by kernel_rfl) (by kernel_rfl) (by kernel_rfl) rfl hf (by decide) (wantN hf rfl rfl hb22) ?_
      clear hf; intro a hf
      refine dr_out 15 rfl (by kernel_rfl) (by kernel_rfl) (by kernel_rfl) (by kernel_rfl) rfl hf (by decide) rfl (wantN hf rfl rfl hb22) ⟨_, hp⟩ ?_
      clear hf; intro a hf
      refine dr_out 16 rfl (by kernel_rfl) (by kernel_rfl) (by kernel_rfl) (by kernel_rfl) rfl hf (by decide) rfl (wantN hf rfl rfl hb22) ⟨_, hp⟩ ?_
      clear hf; intro a hf
      refine dr_out 17 rfl (by kernel_rfl) (by kernel_rfl) (by kernel_rfl) (by kernel_rfl) rfl hf (by decide) rfl (wantN hf rfl rfl hb22) ⟨_, hp⟩ ?_
      clear hf; intro a hf
      refine dr_out 18 rfl (by kernel_rfl) (by kernel_rfl) (by kernel_rfl) (by kernel_rfl) rfl hf (by decide) rfl (wantN hf rfl rfl hb22) ⟨_, hp⟩ ?_
      clear hf; intro a hf
      refine dr_out 19 rfl (by kernel_rfl) (by kernel_rfl) (by kernel_rfl) (by kernel_rfl) rfl hf (by decide) rfl (wantN hf rfl rfl hb22) ⟨_, hp⟩ ?_
      clear hf; intro a hf
      refine dr_out 20 rfl (by kernel_rfl) (by kernel_rfl) (by kernel_rfl) (by kernel_rfl) rfl hf (by decide) rfl (wantN hf rfl rfl hb22) ⟨_, hp⟩ ?_
      clear hf; intro a hf
      refine dr_take 21 (.bool z24) rfl (by kernel_rfl) (by kernel_rfl) (by kernel_rfl) (by kernel_rfl) rfl rfl hf (by decide) rfl (fun w hp => ?_) ⟨_, hp⟩ ?_
      · obtain ⟨_, hp⟩ := hp
        refine st_pick (v := .bool z24) hf rfl rfl (fun hb' => absurd (hb22.symm.trans hb') (by decide)) (fun _ => by rw [← hz21]; rfl) (by decide) ?_
        clear hf; intro a ha hf
        exact st_nil hf (th_n ⟨ha, rfl⟩)
      clear hf; intro a hf
      refine dr_end (by kernel_rfl) ?_ _
      have hp := bk18 _ _ hp
      have hp := bk13 _ _ hp
      exact ⟨hf.sub ⟨rfl, rfl, rfl, rfl, trivial⟩, hp⟩
    rintro a w ⟨hf, hp⟩
    refine th_n ?_
    refine wp_if hf rfl (fun hb => ?_) (fun hb => ?_)
    · replace h := ifT h hb
      refine wp_skip ?_
      refine th_n ?_
      refine wp_block ?_
      refine wp_reg ?_
      refine st_move hf rfl rfl (by decide) ?_
      clear hf; intro a ha hf; clear ha
      refine st_iadd hf (by decide) rfl rfl rfl ?_
      clear hf; intro a ha hf; clear ha
      refine st_assign hf rfl rfl (by decide) ?_
      clear hf; intro a ha hf; clear ha
      refine st_nil hf ?_
      refine ib_n ?_
      obtain rfl := Option.some.inj h
      exact rnd_l ⟨hf.sub ⟨rfl, rfl, rfl, trivial⟩, hp⟩
    replace h := ifF h hb
    refine wp_exit ?_
    refine th_e ?_
    obtain rfl := Option.some.inj h
    exact rnd_r (by simp) ⟨rfl, hf.sub ⟨rfl, rfl, rfl, trivial⟩, hp⟩
  clear hl hf hp
  intro e a w hne hO
  obtain ⟨rfl, hf, hp⟩ := hO
  refine ib_same ?_
  refine th_n ?_
  refine wp_seq ?_
  obtain ⟨S26, hp27, rd28, up29, bk30⟩ := Hp.lendO hp (i := 2) rfl
  obtain ⟨S31, hp32, rd33, up34, bk35⟩ := Hp.lendO hp27 (i := 0) rfl
  have rl36 := rd33
  have rl37 := ((rd28.now hp27).mono up34)
  refine wp_cutN (fun a w => Fr 126 a [(0, osx0), (3, optr v3 0), (5, .int .i64 q25), (6, .int .i64 (IntKind.i64.wrap (IntKind.u8.wrap (f1_Number - (IntKind.u8.wrap sx0_front)))))] ∧ Hp S w0 w (Res.obj 31 v3 [.int .u8 f1_Kind, .int .u8 f1_Number, .bool f1_More, .string f1_Body] :: Res.obj 79 osx0 [.int .i64 sx0_window, .int .i64 sx0_wait, .int .i64 sx0_now, .int .i64 sx0_front, vsx0_left] :: Res.sl (Ek.pair Ek.str (Ek.pair Ek.bool (Ek.pair (Ek.int .i64) Ek.bool))) 81 vsx0_left sx0_left :: ow)) ?_ ?_
  · have hp := hp32.same (Same.drew w)
    refine dr_begin' (fun a w => Fr 126 a [(0, osx0), (3, optr v3 0), (5, .int .i64 q25), (6, .int .i64 (IntKind.i64.wrap (IntKind.u8.wrap (f1_Number - (IntKind.u8.wrap sx0_front)))))] ∧ Hp S w0 w (Res.obj 31 v3 [.int .u8 f1_Kind, .int .u8 f1_Number, .bool f1_More, .string f1_Body] :: Res.obj 79 osx0 [.int .i64 sx0_window, .int .i64 sx0_wait, .int .i64 sx0_now, .int .i64 sx0_front, vsx0_left] :: Res.sl (Ek.pair Ek.str (Ek.pair Ek.bool (Ek.pair (Ek.int .i64) Ek.bool))) 81 vsx0_left sx0_left :: ow)) (fun w' => ∃ l, Hp S31 w w' l) [] (by kernel_rfl) ?_
    refine dr_take 0 (optr v3 1) rfl (by kernel_rfl) (by kernel_rfl) (by kernel_rfl) (by kernel_rfl) rfl rfl hf (by decide) rfl (fun w hp => ?_) ⟨_, hp⟩ ?_
    · obtain ⟨_, hp⟩ := hp
      refine st_fa (o' := 1) hf (by decide) (off := 1) (sz := 1) (by kernel_rfl) (by decide) rfl rfl (rl37.ob hp) rfl ?_
      clear hf; intro a ha hf
      exact st_nil hf (th_n ⟨ha, rfl⟩)
    clear hf; intro a hf
    refine dr_take 1 (.int .u8 f1_Number) rfl (by kernel_rfl) (by kernel_rfl) (by kernel_rfl) (by kernel_rfl) rfl rfl hf (by decide) rfl (fun w hp => ?_) ⟨_, hp⟩ ?_
    · obtain ⟨_, hp⟩ := hp
      refine st_ldO (u := .int .u8 f1_Number) hf (by decide) pl5 rfl rfl (rl37.ob hp) rfl ?_
      clear hf; intro a ha hf
      exact st_nil hf (th_n ⟨ha, rfl⟩)
    clear hf; intro a hf
    refine dr_take 2 (osx0) rfl (by kernel_rfl) (by kernel_rfl) (by kernel_rfl) (by kernel_rfl) rfl rfl hf (by decide) rfl (fun w hp => ?_) ⟨_, hp⟩ ?_
    · obtain ⟨_, hp⟩ := hp
      refine st_move hf rfl rfl (by decide) ?_
      clear hf; intro a ha hf
      exact st_nil hf (th_n ⟨ha, rfl⟩)
    clear hf; intro a hf
    refine dr_nilV 3 rfl (by kernel_rfl) (by kernel_rfl) (by kernel_rfl) hf (by decide) rfl rfl (rl36.ob hp) ?_
    clear hf; intro a hf
    refine dr_take 4 (optr osx0 3) rfl (by kernel_rfl) (by kernel_rfl) (by kernel_rfl) (by kernel_rfl) rfl rfl hf (by decide) rfl (fun w hp => ?_) ⟨_, hp⟩ ?_
    · obtain ⟨_, hp⟩ := hp
      refine st_fa (o' := 3) hf (by decide) (off := 3) (sz := 1) (by kernel_rfl) (by decide) rfl rfl (rl36.ob hp) rfl ?_
      clear hf; intro a ha hf
      exact st_nil hf (th_n ⟨ha, rfl⟩)
    clear hf; intro a hf
    refine dr_take 5 (.int .i64 sx0_front) rfl (by kernel_rfl) (by kernel_rfl) (by kernel_rfl) (by kernel_rfl) rfl rfl hf (by decide) rfl (fun w hp => ?_) ⟨_, hp⟩ ?_
    · obtain ⟨_, hp⟩ := hp
      refine st_ldO (u := .int .i64 sx0_front) hf (by decide) pl3 rfl rfl (rl36.ob hp) rfl ?_
      clear hf; intro a ha hf
      exact st_nil hf (th_n ⟨ha, rfl⟩)
    clear hf; intro a hf
    refine dr_take 6 (.int .u8 (IntKind.u8.wrap sx0_front)) rfl (by kernel_rfl) (by kernel_rfl) (by kernel_rfl) (by kernel_rfl) rfl rfl hf (by decide) rfl (fun w hp => ?_) ⟨_, hp⟩ ?_
    · obtain ⟨_, hp⟩ := hp
      refine st_conv_ii hf (by decide) (by rw [Try.underlying3]; rfl) Try.underlying5 rfl rfl ?_
      clear hf; intro a ha hf
      exact st_nil hf (th_n ⟨ha, rfl⟩)
    clear hf; intro a hf
    refine dr_take 7 (.int .u8 (IntKind.u8.wrap (f1_Number - (IntKind.u8.wrap sx0_front)))) rfl (by kernel_rfl) (by kernel_rfl) (by kernel_rfl) (by kernel_rfl) rfl rfl hf (by decide) rfl (fun w hp => ?_) ⟨_, hp⟩ ?_
    · obtain ⟨_, hp⟩ := hp
      refine st_isub hf (by decide) rfl rfl rfl ?_
      clear hf; intro a ha hf
      exact st_nil hf (th_n ⟨ha, rfl⟩)
    clear hf; intro a hf
    refine dr_take 8 (.int .i64 (IntKind.i64.wrap (IntKind.u8.wrap (f1_Number - (IntKind.u8.wrap sx0_front))))) rfl (by kernel_rfl) (by kernel_rfl) (by kernel_rfl) (by kernel_rfl) rfl rfl hf (by decide) rfl (fun w hp => ?_) ⟨_, hp⟩ ?_
    · obtain ⟨_, hp⟩ := hp
      refine st_conv_ii hf (by decide) (by rw [Try.underlying5]; rfl) Try.underlying3 rfl rfl ?_
      clear hf; intro a ha hf
      exact st_nil hf (th_n ⟨ha, rfl⟩)
    clear hf; intro a hf
    refine dr_take 9 (.int .i64 (IntKind.i64.wrap (IntKind.u8.wrap (f1_Number - (IntKind.u8.wrap sx0_front))))) rfl (by kernel_rfl) (by kernel_rfl) (by kernel_rfl) (by kernel_rfl) rfl rfl hf (by decide) rfl (fun w hp => ?_) ⟨_, hp⟩ ?_
    · obtain ⟨_, hp⟩ := hp
      refine st_assign hf rfl rfl (by decide) ?_
      clear hf; intro a ha hf
      exact st_nil hf (th_n ⟨ha, rfl⟩)
    clear hf; intro a hf
    refine dr_end (by kernel_rfl) ?_ _
    have hp := bk35 _ _ hp
    have hp := bk30 _ _ hp
    exact ⟨hf.sub ⟨rfl, rfl, rfl, rfl, trivial⟩, hp⟩
  rintro a w ⟨hf, hp⟩
  refine th_n ?_
  refine wp_seq ?_
  refine wp_seq ?_
  refine wp_reg ?_
  refine st_move hf rfl rfl (by decide) ?_
  clear hf; intro a ha hf; clear ha
  refine st_move hf rfl rfl (by decide) ?_
  clear hf; intro a ha hf; clear ha
  refine st_igtr hf (by decide) rfl rfl rfl ?_
  clear hf; intro a ha hf; clear ha
  refine st_nil hf ?_
  refine th_n ?_
  refine wp_if hf rfl (fun hb => ?_) (fun hb => ?_)
  · replace h := ifT h hb
    refine wp_seq ?_
    refine wp_reg ?_
    refine st_assign hf rfl rfl (by decide) ?_
    clear hf; intro a ha hf; clear ha
    refine st_nil hf ?_
    refine th_n ?_
    refine wp_ret ?_
    refine th_r ?_
    obtain rfl := Option.some.inj h
    have hp : Hp _ _ _ (Res.sl (Ek.pair Ek.str (Ek.pair Ek.bool (Ek.pair (Ek.int .i64) Ek.bool))) 81 vsx0_left sx0_left :: Res.obj 79 osx0 [.int .i64 sx0_window, .int .i64 sx0_wait, .int .i64 sx0_now, .int .i64 sx0_front, vsx0_left] :: ow) := Hp.sel (pre := [Res.obj 31 v3 [.int .u8 f1_Kind, .int .u8 f1_Number, .bool f1_More, .string f1_Body], Res.obj 79 osx0 [.int .i64 sx0_window, .int .i64 sx0_wait, .int .i64 sx0_now, .int .i64 sx0_front, vsx0_left], Res.sl (Ek.pair Ek.str (Ek.pair Ek.bool (Ek.pair (Ek.int .i64) Ek.bool))) 81 vsx0_left sx0_left]) (tail := ow) (rs' := [Res.sl (Ek.pair Ek.str (Ek.pair Ek.bool (Ek.pair (Ek.int .i64) Ek.bool))) 81 vsx0_left sx0_left, Res.obj 79 osx0 [.int .i64 sx0_window, .int .i64 sx0_wait, .int .i64 sx0_now, .int .i64 sx0_front, vsx0_left]]) hp [2, 1] (by decide) (by simp) rfl
    exact ⟨rfl, ⟨_, hf.sub ⟨rfl, trivial⟩, hp⟩⟩
  replace h := ifF h hb
  refine wp_skip ?_
  refine th_n ?_
  refine wp_seq ?_
  refine wp_seq ?_
  refine wp_reg ?_
  refine st_move hf rfl rfl (by decide) ?_
  clear hf; intro a ha hf; clear ha
  refine st_move hf rfl rfl (by decide) ?_
  clear hf; intro a ha hf; clear ha
  refine st_nil hf ?_
  refine th_n ?_
  refine wp_block ?_
  obtain ⟨q53, hl, h⟩ := bnd h
  have hp : Hp _ _ _ (Res.sl (Ek.pair Ek.str (Ek.pair Ek.bool (Ek.pair (Ek.int .i64) Ek.bool))) 81 vsx0_left sx0_left :: Res.obj 79 osx0 [.int .i64 sx0_window, .int .i64 sx0_wait, .int .i64 sx0_now, .int .i64 sx0_front, vsx0_left] :: Res.obj 31 v3 [.int .u8 f1_Kind, .int .u8 f1_Number, .bool f1_More, .string f1_Body] :: ow) := Hp.sel (pre := [Res.obj 31 v3 [.int .u8 f1_Kind, .int .u8 f1_Number, .bool f1_More, .string f1_Body], Res.obj 79 osx0 [.int .i64 sx0_window, .int .i64 sx0_wait, .int .i64 sx0_now, .int .i64 sx0_front, vsx0_left], Res.sl (Ek.pair Ek.str (Ek.pair Ek.bool (Ek.pair (Ek.int .i64) Ek.bool))) 81 vsx0_left sx0_left]) (tail := ow) (rs' := [Res.sl (Ek.pair Ek.str (Ek.pair Ek.bool (Ek.pair (Ek.int .i64) Ek.bool))) 81 vsx0_left sx0_left, Res.obj 79 osx0 [.int .i64 sx0_window, .int .i64 sx0_wait, .int .i64 sx0_now, .int .i64 sx0_front, vsx0_left], Res.obj 31 v3 [.int .u8 f1_Kind, .int .u8 f1_Number, .bool f1_More, .string f1_Body]]) hp [2, 1, 0] (by decide) (by simp) rfl
  refine wp_loop_pure (f := (f_again_Sender_Hear.s2 sx0_front f1_Number f1_Body q25)) (s := (sx0_window, sx0_wait, sx0_now, sx0_front, sx0_left, (0 : Int))) (fun s a w => ∃ (v38 : Value), Fr 126 a [(0, osx0), (3, optr v3 0), (6, .int .i64 (IntKind.i64.wrap (IntKind.u8.wrap (f1_Number - (IntKind.u8.wrap sx0_front))))), (60, .int .i64 q25), (61, .int .i64 s.2.2.2.2.2)] ∧ Hp S w0 w (Res.sl (Ek.pair Ek.str (Ek.pair Ek.bool (Ek.pair (Ek.int .i64) Ek.bool))) 81 v38 s.2.2.2.2.1 :: Res.obj 79 osx0 [.int .i64 s.1, .int .i64 s.2.1, .int .i64 s.2.2.1, .int .i64 s.2.2.2.1, v38] :: Res.obj 31 v3 [.int .u8 f1_Kind, .int .u8 f1_Number, .bool f1_More, .string f1_Body] :: ow)) (fun q e a w => e = .exit 2 ∧ ∃ (v41 : Value), Fr 126 a [(0, osx0)] ∧ Hp S w0 w (Res.sl (Ek.pair Ek.str (Ek.pair Ek.bool (Ek.pair (Ek.int .i64) Ek.bool))) 81 v41 q.2.2.2.2 :: Res.obj 79 osx0 [.int .i64 q.1, .int .i64 q.2.1, .int .i64 q.2.2.1, .int .i64 q.2.2.2.1, v41] :: ow)) ?_ hl ⟨_, hf.sub ⟨rfl, rfl, rfl, rfl, rfl, trivial⟩, hp⟩ ?_
  · clear hl hf hp
    intro s x a w h hI
    obtain ⟨sx0c_0, sx0c_1, sx0c_2, sx0c_3, sx0c_4, t61⟩ := s
    obtain ⟨v38, hf, hp⟩ : ∃ (v38 : Value), Fr 126 a [(0, osx0), (3, optr v3 0), (6, .int .i64 (IntKind.i64.wrap (IntKind.u8.wrap (f1_Number - (IntKind.u8.wrap sx0_front))))), (60, .int .i64 q25), (61, .int .i64 t61)] ∧ Hp S w0 w (Res.sl (Ek.pair Ek.str (Ek.pair Ek.bool (Ek.pair (Ek.int .i64) Ek.bool))) 81 v38 sx0c_4 :: Res.obj 79 osx0 [.int .i64 sx0c_0, .int .i64 sx0c_1, .int .i64 sx0c_2, .int .i64 sx0c_3, v38] :: Res.obj 31 v3 [.int .u8 f1_Kind, .int .u8 f1_Number, .bool f1_More, .string f1_Body] :: ow) := hI
    replace h : f_again_Sender_Hear.s2c sx0_front f1_Number f1_Body q25 sx0c_0 sx0c_1 sx0c_2 sx0c_3 sx0c_4 t61 = some x := h
    unfold f_again_Sender_Hear.s2c at h
    refine wp_seq ?_
    refine wp_reg ?_
    refine st_ilss hf (by decide) rfl rfl rfl ?_
    clear hf; intro a ha hf; clear ha
    refine st_nil hf ?_
    refine th_n ?_
    refine wp_seq ?_
    refine wp_if hf rfl (fun hb => ?_) (fun hb => ?_)
    · replace h := ifT h hb
      refine wp_skip ?_
      refine th_n ?_
      refine wp_seq ?_
      refine wp_block ?_
      refine wp_seq ?_
      refine wp_reg ?_
      refine st_move hf rfl rfl (by decide) ?_
      clear hf; intro a ha hf; clear ha
      refine st_assign hf rfl rfl (by decide) ?_
      clear hf; intro a ha hf; clear ha
      refine st_nil hf ?_
      refine th_n ?_
      refine wp_seq ?_
      refine wp_reg ?_
      refine st_move hf rfl rfl (by decide) ?_
      clear hf; intro a ha hf; clear ha
      refine st_move hf rfl rfl (by decide) ?_
      clear hf; intro a ha hf; clear ha
      refine st_isub hf (by decide) rfl rfl rfl ?_
      clear hf; intro a ha hf; clear ha
      refine st_isub hf (by decide) rfl rfl rfl ?_
      clear hf; intro a ha hf; clear ha
      refine st_assign hf rfl rfl (by decide) ?_
      clear hf; intro a ha hf; clear ha
      refine st_nil hf ?_
      refine th_n ?_
      refine wp_seq ?_
      refine wp_reg ?_
      refine st_move hf rfl rfl (by decide) ?_
      clear hf; intro a ha hf; clear ha
      refine st_move hf rfl rfl (by decide) ?_
      clear hf; intro a ha hf; clear ha
      refine st_ilss hf (by decide) rfl rfl rfl ?_
      clear hf; intro a ha hf; clear ha
      refine st_move hf rfl rfl (by decide) ?_
      clear hf; intro a ha hf; clear ha
      obtain ⟨z46, hz44, h⟩ := bnd h
      refine wpList_cut 16 (fun a w => Fr 126 a [(0, osx0), (3, optr v3 0), (6, .int .i64 (IntKind.i64.wrap (IntKind.u8.wrap (f1_Number - (IntKind.u8.wrap sx0_front))))), (7, .int .i64 t61), (60, .int .i64 q25), (61, .int .i64 t61), (87, .bool z46)] ∧ Hp S w0 w (Res.sl (Ek.pair Ek.str (Ek.pair Ek.bool (Ek.pair (Ek.int .i64) Ek.bool))) 81 v38 sx0c_4 :: Res.obj 79 osx0 [.int .i64 sx0c_0, .int .i64 sx0c_1, .int .i64 sx0c_2, .int .i64 sx0c_3, v38] :: Res.obj 31 v3 [.int .u8 f1_Kind, .int .u8 f1_Number, .bool f1_More, .string f1_Body] :: ow)) ?_ ?_
      · rcases Bool.eq_false_or_eq_true (decide (t61 < (IntKind.i64.wrap (IntKind.u8.wrap (f1_Number - (IntKind.u8.wrap sx0_front)))))) with hb45 | hb45
        · skip
          replace hz44 := ifT hz44 hb45
          refine st_skip hf (wantN hf rfl rfl hb45) rfl (by decide) ?_ rfl
          clear hf; intro a hf
          refine st_skip hf (wantN hf rfl rfl hb45) rfl (by decide) ?_ rfl
          clear hf; intro a hf
          refine st_skipU hf (wantN hf rfl rfl hb45) rfl (by decide) ?_
          clear hf; intro a hf
          refine st_skip hf (wantU hf rfl rfl) rfl (by decide) ?_ rfl
          clear hf; intro a hf
          refine st_skip hf (wantU hf rfl rfl) rfl (by decide) ?_ rfl
          clear hf; intro a hf
          refine st_skip hf (wantU hf rfl rfl) rfl (by decide) ?_ rfl
          clear hf; intro a hf
          refine st_skip hf (wantU hf rfl rfl) rfl (by decide) ?_ rfl
          clear hf; intro a hf
          refine st_skip hf (wantU hf rfl rfl) rfl (by decide) ?_ rfl
          clear hf; intro a hf
          refine st_skip hf (wantU hf rfl rfl) rfl (by decide) ?_ rfl
          clear hf; intro a hf
          refine st_skip hf (wantU hf rfl rfl) rfl (by decide) ?_ rfl
          clear hf; intro a hf
          refine st_skip hf (wantU hf rfl rfl) rfl (by decide) ?_ rfl
          clear hf; intro a hf
          refine st_skip hf (wantU hf rfl rfl) rfl (by decide) ?_ rfl
          clear hf; intro a hf
          refine st_skip hf (wantU hf rfl rfl) rfl (by decide) ?_ rfl
          clear hf; intro a hf
          refine st_skip hf (wantU hf rfl rfl) rfl (by decide) ?_ rfl
          clear hf; intro a hf
          refine st_skip hf (wantN hf rfl rfl hb45) rfl (by decide) ?_ rfl
          clear hf; intro a hf
          obtain rfl := Option.some.inj hz44
          refine st_pick (v := .bool true) hf rfl rfl (fun hb' => ?_) (fun hb' => ?_) (by decide) ?_
          · rfl
          · exact absurd (hb45.symm.trans hb') (by decide)
          clear hf; intro a ha hf; clear ha
          refine st_nil hf (th_n ?_)
          exact ⟨hf.sub ⟨rfl, rfl, rfl, rfl, rfl, rfl, rfl, trivial⟩, hp⟩
        replace hz44 := ifF hz44 hb45
        refine st_move hf (wantY hf rfl rfl hb45) rfl (by decide) ?_
        clear hf; intro a ha hf; clear ha
        refine st_igeq hf (by decide) (wantY hf rfl rfl hb45) rfl rfl ?_
        clear hf; intro a ha hf; clear ha
        refine st_move hf (wantY hf rfl rfl hb45) rfl (by decide) ?_
        clear hf; intro a ha hf; clear ha
        obtain ⟨z49, hz47, hz44⟩ := bnd hz44
        refine wpList_cut 12 (fun a w => Fr 126 a [(0, osx0), (3, optr v3 0), (6, .int .i64 (IntKind.i64.wrap (IntKind.u8.wrap (f1_Number - (IntKind.u8.wrap sx0_front))))), (7, .int .i64 t61), (60, .int .i64 q25), (61, .int .i64 t61), (71, .bool (decide (t61 < (IntKind.i64.wrap (IntKind.u8.wrap (f1_Number - (IntKind.u8.wrap sx0_front))))))), (86, .bool z49)] ∧ Hp S w0 w (Res.sl (Ek.pair Ek.str (Ek.pair Ek.bool (Ek.pair (Ek.int .i64) Ek.bool))) 81 v38 sx0c_4 :: Res.obj 79 osx0 [.int .i64 sx0c_0, .int .i64 sx0c_1, .int .i64 sx0c_2, .int .i64 sx0c_3, v38] :: Res.obj 31 v3 [.int .u8 f1_Kind, .int .u8 f1_Number, .bool f1_More, .string f1_Body] :: ow)) ?_ ?_
        · rcases Bool.eq_false_or_eq_true (decide ((0 : Int) ≤ (IntKind.i64.wrap ((IntKind.i64.wrap (t61 - (IntKind.i64.wrap (IntKind.u8.wrap (f1_Number - (IntKind.u8.wrap sx0_front)))))) - (1 : Int))))) with hb48 | hb48
          · skip
            replace hz47 := ifT hz47 hb48
            refine st_fa (o' := 3) hf (by decide) (off := 3) (sz := 1) (by kernel_rfl) (by decide) (wantY hf rfl rfl hb48) rfl (hp.ob (i := 2) rfl) rfl ?_
            clear hf; intro a ha hf; clear ha
            refine st_ldO (u := .string f1_Body) hf (by decide) pl9 (wantY hf rfl rfl hb48) rfl (hp.ob (i := 2) rfl) rfl ?_
            clear hf; intro a ha hf; clear ha
            refine st_move hf (wantY hf rfl rfl hb48) rfl (by decide) ?_
            clear hf; intro a ha hf; clear ha
            refine st_iquo hf (by decide) (wantY hf rfl rfl hb48) rfl rfl (by decide) ?_
            clear hf; intro a ha hf; clear ha
            obtain ⟨hc50, hz47⟩ := chk hz47
            refine st_sidx hf (by decide) Try.underlying9 (wantY hf rfl rfl hb48) rfl rfl hc50.1 hc50.2 ?_
            clear hf; intro a ha hf; clear ha
            refine st_move hf (wantY hf rfl rfl hb48) rfl (by decide) ?_
            clear hf; intro a ha hf; clear ha
            refine st_irem hf (by decide) (wantY hf rfl rfl hb48) rfl rfl (by decide) ?_
            clear hf; intro a ha hf; clear ha
            refine st_isub hf (by decide) (wantY hf rfl rfl hb48) rfl rfl ?_
            clear hf; intro a ha hf; clear ha
            obtain ⟨hc51, hz47⟩ := chk hz47
            refine st_ishr hf (by decide) (wantY hf rfl rfl hb48) rfl rfl hc51 ?_
            clear hf; intro a ha hf; clear ha
            refine st_iand hf (by decide) (wantY hf rfl rfl hb48) rfl rfl ?_
            clear hf; intro a ha hf; clear ha
            refine st_ieql hf (by decide) (wantY hf rfl rfl hb48) rfl rfl ?_
            clear hf; intro a ha hf; clear ha
            obtain rfl := Option.some.inj hz47
            refine st_pick (v := .bool ((iand .u8 (ishr .u8 (bt f1_Body (IntKind.i64.wrap (((IntKind.i64.wrap ((IntKind.i64.wrap (t61 - (IntKind.i64.wrap (IntKind.u8.wrap (f1_Number - (IntKind.u8.wrap sx0_front)))))) - (1 : Int)))).tdiv (8 : Int)))) (IntKind.i64.wrap ((7 : Int) - (((IntKind.i64.wrap ((IntKind.i64.wrap (t61 - (IntKind.i64.wrap (IntKind.u8.wrap (f1_Number - (IntKind.u8.wrap sx0_front)))))) - (1 : Int)))).tmod (8 : Int))))) (1 : Int)) == (1 : Int))) hf (wantY hf rfl rfl hb45) rfl (fun hb' => ?_) (fun hb' => ?_) (by decide) ?_
            · rfl
            · exact absurd (hb48.symm.trans hb') (by decide)
            clear hf; intro a ha hf; clear ha
            refine st_nil hf (th_n ?_)
            exact ⟨hf.sub ⟨rfl, rfl, rfl, rfl, rfl, rfl, rfl, rfl, trivial⟩, hp⟩
          replace hz47 := ifF hz47 hb48
          refine st_skip hf (wantN hf rfl rfl hb48) rfl (by decide) ?_ rfl
          clear hf; intro a hf
          refine st_skip hf (wantN hf rfl rfl hb48) rfl (by decide) ?_ rfl
          clear hf; intro a hf
          refine st_skip hf (wantN hf rfl rfl hb48) rfl (by decide) ?_ rfl
          clear hf; intro a hf
          refine st_skip hf (wantN hf rfl rfl hb48) rfl (by decide) ?_ rfl
          clear hf; intro a hf
          refine st_skip hf (wantN hf rfl rfl hb48) rfl (by decide) ?_ rfl
          clear hf; intro a hf
          refine st_skip hf (wantN hf rfl rfl hb48) rfl (by decide) ?_ rfl
          clear hf; intro a hf
          refine st_skip hf (wantN hf rfl rfl hb48) rfl (by decide) ?_ rfl
          clear hf; intro a hf
          refine st_skip hf (wantN hf rfl rfl hb48) rfl (by decide) ?_ rfl
          clear hf; intro a hf
          refine st_skip hf (wantN hf rfl rfl hb48) rfl (by decide) ?_ rfl
          clear hf; intro a hf
          refine st_skip hf (wantN hf rfl rfl hb48) rfl (by decide) ?_ rfl
          clear hf; intro a hf
          refine st_skip hf (wantN hf rfl rfl hb48) rfl (by decide) ?_ rfl
          clear hf; intro a hf
          obtain rfl := Option.some.inj hz47
          refine st_pick (v := .bool false) hf (wantY hf rfl rfl hb45) rfl (fun hb' => ?_) (fun hb' => ?_) (by decide) ?_
          · exact absurd (hb48.symm.trans hb') (by decide)
          · rfl
          clear hf; intro a ha hf; clear ha
          refine st_nil hf (th_n ?_)
          exact ⟨hf.sub ⟨rfl, rfl, rfl, rfl, rfl, rfl, rfl, rfl, trivial⟩, hp⟩
        rintro a w ⟨hf, hp⟩
        obtain rfl := Option.some.inj hz44
        refine st_pick (v := .bool z49) hf rfl rfl (fun hb' => ?_) (fun hb' => ?_) (by decide) ?_
        · exact absurd (hb45.symm.trans hb') (by decide)
        · rfl
        clear hf; intro a ha hf; clear ha
        refine st_nil hf (th_n ?_)
        exact ⟨hf.sub ⟨rfl, rfl, rfl, rfl, rfl, rfl, rfl, trivial⟩, hp⟩
      rintro a w ⟨hf, hp⟩
      refine st_nil hf ?_
      refine th_n ?_
      refine wp_if hf rfl (fun hb => ?_) (fun hb => ?_)
      · replace h := ifT h hb
        refine wp_reg ?_
        refine st_move hf rfl rfl (by decide) ?_
        clear hf; intro a ha hf; clear ha
        refine st_nilV hf (by decide) rfl rfl (hp.ob (i := 1) rfl) ?_
        clear hf; intro a ha hf; clear ha
        refine st_fa (o' := 4) hf (by decide) (off := 4) (sz := 1) (by kernel_rfl) (by decide) rfl rfl (hp.ob (i := 1) rfl) rfl ?_
        clear hf; intro a ha hf; clear ha
        refine st_ldO (u := v38) hf (by decide) pl77 rfl rfl (hp.ob (i := 1) rfl) rfl ?_
        clear hf; intro a ha hf; clear ha
        refine st_move hf rfl rfl (by decide) ?_
        clear hf; intro a ha hf; clear ha
        obtain ⟨hc52, h⟩ := chk h
        refine st_index (E := (Ek.pair Ek.str (Ek.pair Ek.bool (Ek.pair (Ek.int .i64) Ek.bool)))) hf (by decide) Try.underlying77 elt81 rfl rfl rfl (hp.sl (i := 0) rfl) hc52.1 hc52.2 ?_
        clear hf; intro a ha hf; clear ha
        refine st_faP (off := 3) (sz := 1) hf (by decide) (by kernel_rfl) (by decide) rfl rfl (Sl.isP (hp.sl (i := 0) rfl) hc52.1 hc52.2) ?_
        clear hf; intro a ha hf; clear ha
        refine st_stQ (E := (Ek.pair Ek.str (Ek.pair Ek.bool (Ek.pair (Ek.int .i64) Ek.bool)))) (F := Ek.bool) (o := 3) (Sub.comp (Sub.snd (E := Ek.str) (F := (Ek.pair Ek.bool (Ek.pair (Ek.int .i64) Ek.bool)))) (Sub.comp (Sub.snd (E := Ek.bool) (F := (Ek.pair (Ek.int .i64) Ek.bool))) (Sub.snd (E := (Ek.int .i64)) (F := Ek.bool)))) hf (by kernel_rfl) hp (i := 0) rfl rfl rfl rfl rfl hc52.1 hc52.2 ?_
        clear hf; intro a w hf hp0; clear hp; have hp := hp0; clear hp0
        replace hp : Hp _ _ _ (Res.sl (Ek.pair Ek.str (Ek.pair Ek.bool (Ek.pair (Ek.int .i64) Ek.bool))) 81 v38 (sx0c_4.set (t61).toNat ((gt sx0c_4 t61).1, (gt sx0c_4 t61).2.1, (gt sx0c_4 t61).2.2.1, true)) :: Res.obj 79 osx0 [.int .i64 sx0c_0, .int .i64 sx0c_1, .int .i64 sx0c_2, .int .i64 sx0c_3, v38] :: Res.obj 31 v3 [.int .u8 f1_Kind, .int .u8 f1_Number, .bool f1_More, .string f1_Body] :: ow) := hp
        refine st_nil hf ?_
        refine ib_n ?_
        refine th_n ?_
        refine wp_reg ?_
        refine st_iadd hf (by decide) rfl rfl rfl ?_
        clear hf; intro a ha hf; clear ha
        refine st_move hf rfl rfl (by decide) ?_
        clear hf; intro a ha hf; clear ha
        refine st_nil hf ?_
        obtain rfl := Option.some.inj h
        exact rnd_l ⟨_, hf.sub ⟨rfl, rfl, rfl, rfl, rfl, trivial⟩, hp⟩
      replace h := ifF h hb
      refine wp_skip ?_
      refine ib_n ?_
      refine th_n ?_
      refine wp_reg ?_
      refine st_iadd hf (by decide) rfl rfl rfl ?_
      clear hf; intro a ha hf; clear ha
      refine st_move hf rfl rfl (by decide) ?_
      clear hf; intro a ha hf; clear ha
      refine st_nil hf ?_
      obtain rfl := Option.some.inj h
      exact rnd_l ⟨_, hf.sub ⟨rfl, rfl, rfl, rfl, rfl, trivial⟩, hp⟩
    replace h := ifF h hb
    refine wp_exit ?_
    refine th_e ?_
    obtain rfl := Option.some.inj h
    have hp : Hp _ _ _ (Res.sl (Ek.pair Ek.str (Ek.pair Ek.bool (Ek.pair (Ek.int .i64) Ek.bool))) 81 v38 sx0c_4 :: Res.obj 79 osx0 [.int .i64 sx0c_0, .int .i64 sx0c_1, .int .i64 sx0c_2, .int .i64 sx0c_3, v38] :: ow) := Hp.sel (pre := [Res.sl (Ek.pair Ek.str (Ek.pair Ek.bool (Ek.pair (Ek.int .i64) Ek.bool))) 81 v38 sx0c_4, Res.obj 79 osx0 [.int .i64 sx0c_0, .int .i64 sx0c_1, .int .i64 sx0c_2, .int .i64 sx0c_3, v38], Res.obj 31 v3 [.int .u8 f1_Kind, .int .u8 f1_Number, .bool f1_More, .string f1_Body]]) (tail := ow) (rs' := [Res.sl (Ek.pair Ek.str (Ek.pair Ek.bool (Ek.pair (Ek.int .i64) Ek.bool))) 81 v38 sx0c_4, Res.obj 79 osx0 [.int .i64 sx0c_0, .int .i64 sx0c_1, .int .i64 sx0c_2, .int .i64 sx0c_3, v38]]) hp [0, 1] (by decide) (by simp) rfl
    exact rnd_r (by simp) ⟨rfl, _, hf.sub ⟨rfl, trivial⟩, hp⟩
  clear hl hf hp
  intro e a w hne hO
  obtain ⟨rfl, v41, hf, hp⟩ := hO
  refine ib_same ?_
  refine th_n ?_
  refine wp_seq ?_
  refine wp_block ?_
  obtain ⟨q67, hl, h⟩ := bnd h
  refine wp_loop_pure (f := f_again_Sender_Hear.s3) (s := (q53.1, q53.2.1, q53.2.2.1, q53.2.2.2.1, q53.2.2.2.2)) (fun s a w => ∃ (v54 : Value), Fr 126 a [(0, osx0)] ∧ Hp S w0 w (Res.sl (Ek.pair Ek.str (Ek.pair Ek.bool (Ek.pair (Ek.int .i64) Ek.bool))) 81 v54 s.2.2.2.2 :: Res.obj 79 osx0 [.int .i64 s.1, .int .i64 s.2.1, .int .i64 s.2.2.1, .int .i64 s.2.2.2.1, v54] :: ow)) (fun q e a w => e = .exit 4 ∧ ∃ (v57 : Value), Fr 126 a [(0, osx0)] ∧ Hp S w0 w (Res.sl (Ek.pair Ek.str (Ek.pair Ek.bool (Ek.pair (Ek.int .i64) Ek.bool))) 81 v57 q.2.2.2.2 :: Res.obj 79 osx0 [.int .i64 q.1, .int .i64 q.2.1, .int .i64 q.2.2.1, .int .i64 q.2.2.2.1, v57] :: ow)) ?_ hl ⟨_, hf.sub ⟨rfl, trivial⟩, hp⟩ ?_
  · clear hl hf hp
    intro s x a w h hI
    obtain ⟨sx0c_0, sx0c_1, sx0c_2, sx0c_3, sx0c_4⟩ := s
    obtain ⟨v54, hf, hp⟩ : ∃ (v54 : Value), Fr 126 a [(0, osx0)] ∧ Hp S w0 w (Res.sl (Ek.pair Ek.str (Ek.pair Ek.bool (Ek.pair (Ek.int .i64) Ek.bool))) 81 v54 sx0c_4 :: Res.obj 79 osx0 [.int .i64 sx0c_0, .int .i64 sx0c_1, .int .i64 sx0c_2, .int .i64 sx0c_3, v54] :: ow) := hI
    replace h : f_again_Sender_Hear.s3c sx0c_0 sx0c_1 sx0c_2 sx0c_3 sx0c_4 = some x := h
    unfold f_again_Sender_Hear.s3c at h
    refine wp_seq ?_
    refine wp_seq ?_
    refine wp_reg ?_
    refine st_move hf rfl rfl (by decide) ?_
    clear hf; intro a ha hf; clear ha
    refine st_nilV hf (by decide) rfl rfl (hp.ob (i := 1) rfl) ?_
    clear hf; intro a ha hf; clear ha
    refine st_fa (o' := 4) hf (by decide) (off := 4) (sz := 1) (by kernel_rfl) (by decide) rfl rfl (hp.ob (i := 1) rfl) rfl ?_
    clear hf; intro a ha hf; clear ha
    refine st_ldO (u := v54) hf (by decide) pl77 rfl rfl (hp.ob (i := 1) rfl) rfl ?_
    clear hf; intro a ha hf; clear ha
    refine st_len (E := (Ek.pair Ek.str (Ek.pair Ek.bool (Ek.pair (Ek.int .i64) Ek.bool)))) hf (by decide) Try.underlying77 rfl rfl (hp.sl (i := 0) rfl) ?_
    clear hf; intro a ha hf; clear ha
    refine st_igtr hf (by decide) rfl rfl rfl ?_
    clear hf; intro a ha hf; clear ha
    refine st_move hf rfl rfl (by decide) ?_
    clear hf; intro a ha hf; clear ha
    obtain ⟨z62, hz60, h⟩ := bnd h
    refine wpList_cut 8 (fun a w => Fr 126 a [(0, osx0), (110, .bool z62)] ∧ Hp S w0 w (Res.sl (Ek.pair Ek.str (Ek.pair Ek.bool (Ek.pair (Ek.int .i64) Ek.bool))) 81 v54 sx0c_4 :: Res.obj 79 osx0 [.int .i64 sx0c_0, .int .i64 sx0c_1, .int .i64 sx0c_2, .int .i64 sx0c_3, v54] :: ow)) ?_ ?_
    · rcases Bool.eq_false_or_eq_true (decide ((0 : Int) < (sx0c_4.length : Int))) with hb61 | hb61
      · skip
        replace hz60 := ifT hz60 hb61
        refine st_move hf (wantY hf rfl rfl hb61) rfl (by decide) ?_
        clear hf; intro a ha hf; clear ha
        refine st_nilV hf (by decide) (wantY hf rfl rfl hb61) rfl (hp.ob (i := 1) rfl) ?_
        clear hf; intro a ha hf; clear ha
        refine st_fa (o' := 4) hf (by decide) (off := 4) (sz := 1) (by kernel_rfl) (by decide) (wantY hf rfl rfl hb61) rfl (hp.ob (i := 1) rfl) rfl ?_
        clear hf; intro a ha hf; clear ha
        refine st_ldO (u := v54) hf (by decide) pl77 (wantY hf rfl rfl hb61) rfl (hp.ob (i := 1) rfl) rfl ?_
        clear hf; intro a ha hf; clear ha
        obtain ⟨hc63, hz60⟩ := chk hz60
        refine st_index (E := (Ek.pair Ek.str (Ek.pair Ek.bool (Ek.pair (Ek.int .i64) Ek.bool)))) hf (by decide) Try.underlying77 elt81 (wantY hf rfl rfl hb61) rfl rfl (hp.sl (i := 0) rfl) hc63.1 hc63.2 ?_
        clear hf; intro a ha hf; clear ha
        refine st_faP (off := 3) (sz := 1) hf (by decide) (by kernel_rfl) (by decide) (wantY hf rfl rfl hb61) rfl (Sl.isP (hp.sl (i := 0) rfl) hc63.1 hc63.2) ?_
        clear hf; intro a ha hf; clear ha
        refine st_ldQ (F := Ek.bool) (yv := (gt sx0c_4 (0 : Int)).2.2.2) hf (by decide) pl4 (fun x => .bool x) (fun _ _ h => h) (wantY hf rfl rfl hb61) rfl (Sl.part (E := (Ek.pair Ek.str (Ek.pair Ek.bool (Ek.pair (Ek.int .i64) Ek.bool)))) (F := Ek.bool) (o := 3) (Sub.comp (Sub.snd (E := Ek.str) (F := (Ek.pair Ek.bool (Ek.pair (Ek.int .i64) Ek.bool)))) (Sub.comp (Sub.snd (E := Ek.bool) (F := (Ek.pair (Ek.int .i64) Ek.bool))) (Sub.snd (E := (Ek.int .i64)) (F := Ek.bool)))) (hp.sl (i := 0) rfl) hc63.1 hc63.2) ?_
        clear hf; intro a ha hf; clear ha
        obtain rfl := Option.some.inj hz60
        refine st_pick (v := .bool ((gt sx0c_4 (0 : Int)).2.2.2)) hf rfl rfl (fun hb' => ?_) (fun hb' => ?_) (by decide) ?_
        · rfl
        · exact absurd (hb61.symm.trans hb') (by decide)
        clear hf; intro a ha hf; clear ha
        refine st_nil hf (th_n ?_)
        exact ⟨hf.sub ⟨rfl, rfl, trivial⟩, hp⟩
      replace hz60 := ifF hz60 hb61
      refine st_skip hf (wantN hf rfl rfl hb61) rfl (by decide) ?_ rfl
      clear hf; intro a hf
      refine st_skip hf (wantN hf rfl rfl hb61) rfl (by decide) ?_ rfl
      clear hf; intro a hf
      refine st_skip hf (wantN hf rfl rfl hb61) rfl (by decide) ?_ rfl
      clear hf; intro a hf
      refine st_skip hf (wantN hf rfl rfl hb61) rfl (by decide) ?_ rfl
      clear hf; intro a hf
      refine st_skip hf (wantN hf rfl rfl hb61) rfl (by decide) ?_ rfl
      clear hf; intro a hf
      refine st_skip hf (wantN hf rfl rfl hb61) rfl (by decide) ?_ rfl
      clear hf; intro a hf
      refine st_skip hf (wantN hf rfl rfl hb61) rfl (by decide) ?_ rfl
      clear hf; intro a hf
      obtain rfl := Option.some.inj hz60
      refine st_pick (v := .bool false) hf rfl rfl (fun hb' => ?_) (fun hb' => ?_) (by decide) ?_
      · exact absurd (hb61.symm.trans hb') (by decide)
      · rfl
      clear hf; intro a ha hf; clear ha
      refine st_nil hf (th_n ?_)
      exact ⟨hf.sub ⟨rfl, rfl, trivial⟩, hp⟩
    rintro a w ⟨hf, hp⟩
    refine st_nil hf ?_
    refine th_n ?_
    refine wp_if hf rfl (fun hb => ?_) (fun hb => ?_)
    · replace h := ifT h hb
      refine wp_skip ?_
      refine th_n ?_
      refine wp_block ?_
      refine wp_seq ?_
      refine wp_reg ?_
      refine st_move hf rfl rfl (by decide) ?_
      clear hf; intro a ha hf; clear ha
      refine st_move hf rfl rfl (by decide) ?_
      clear hf; intro a ha hf; clear ha
      refine st_nilV hf (by decide) rfl rfl (hp.ob (i := 1) rfl) ?_
      clear hf; intro a ha hf; clear ha
      refine st_fa (o' := 4) hf (by decide) (off := 4) (sz := 1) (by kernel_rfl) (by decide) rfl rfl (hp.ob (i := 1) rfl) rfl ?_
      clear hf; intro a ha hf; clear ha
      refine st_ldO (u := v54) hf (by decide) pl77 rfl rfl (hp.ob (i := 1) rfl) rfl ?_
      clear hf; intro a ha hf; clear ha
      obtain ⟨hc64, h⟩ := chk h
      have hc65 : ((1 : Int)).toNat ≤ sx0c_4.length := by omega
      refine st_cutS (E := (Ek.pair Ek.str (Ek.pair Ek.bool (Ek.pair (Ek.int .i64) Ek.bool)))) hf (by decide) Try.underlying77 elt81 rfl rfl (hp.sl (i := 0) rfl) (.inr ⟨_, _, rfl, evI rfl hc64.1⟩) (.inl ⟨rfl, rfl⟩) hc65 (Nat.le_refl _) ?_
      clear hf; intro a ha hf; clear ha
      replace hp : Hp _ _ _ (Res.sl (Ek.pair Ek.str (Ek.pair Ek.bool (Ek.pair (Ek.int .i64) Ek.bool))) 81 (GL.cut v54 ((1 : Int)).toNat sx0c_4.length 4) (sx0c_4.drop ((1 : Int)).toNat) :: Res.obj 79 osx0 [.int .i64 sx0c_0, .int .i64 sx0c_1, .int .i64 sx0c_2, .int .i64 sx0c_3, v54] :: ow) := hp.cutFront (i := 0) rfl hc65
      refine st_nilV hf (by decide) rfl rfl (hp.ob (i := 1) rfl) ?_
      clear hf; intro a ha hf; clear ha
      refine st_fa (o' := 4) hf (by decide) (off := 4) (sz := 1) (by kernel_rfl) (by decide) rfl rfl (hp.ob (i := 1) rfl) rfl ?_
      clear hf; intro a ha hf; clear ha
      refine st_stO (us := [(GL.cut v54 ((1 : Int)).toNat sx0c_4.length 4)]) hf hp (i := 1) rfl rfl rfl rfl (cells_sh (hp.sl (i := 0) rfl).shapeV) (ones_sh (hp.sl (i := 0) rfl).shapeV) (by kernel_rfl) (Nat.le_of_ble_eq_true rfl) ?_
      clear hf; intro a w hf hp0; clear hp; have hp := hp0; clear hp0
      replace hp : Hp _ _ _ (Res.sl (Ek.pair Ek.str (Ek.pair Ek.bool (Ek.pair (Ek.int .i64) Ek.bool))) 81 (GL.cut v54 ((1 : Int)).toNat sx0c_4.length 4) (sx0c_4.drop ((1 : Int)).toNat) :: Res.obj 79 osx0 [.int .i64 sx0c_0, .int .i64 sx0c_1, .int .i64 sx0c_2, .int .i64 sx0c_3, (GL.cut v54 ((1 : Int)).toNat sx0c_4.length 4)] :: ow) := hp
      refine st_nil hf ?_
      refine th_n ?_
      refine wp_reg ?_
      refine st_move hf rfl rfl (by decide) ?_
      clear hf; intro a ha hf; clear ha
      refine st_nilV hf (by decide) rfl rfl (hp.ob (i := 1) rfl) ?_
      clear hf; intro a ha hf; clear ha
      refine st_fa (o' := 3) hf (by decide) (off := 3) (sz := 1) (by kernel_rfl) (by decide) rfl rfl (hp.ob (i := 1) rfl) rfl ?_
      clear hf; intro a ha hf; clear ha
      refine st_ldO (u := .int .i64 sx0c_3) hf (by decide) pl3 rfl rfl (hp.ob (i := 1) rfl) rfl ?_
      clear hf; intro a ha hf; clear ha
      refine st_iadd hf (by decide) rfl rfl rfl ?_
      clear hf; intro a ha hf; clear ha
      refine st_nilV hf (by decide) rfl rfl (hp.ob (i := 1) rfl) ?_
      clear hf; intro a ha hf; clear ha
      refine st_fa (o' := 3) hf (by decide) (off := 3) (sz := 1) (by kernel_rfl) (by decide) rfl rfl (hp.ob (i := 1) rfl) rfl ?_
      clear hf; intro a ha hf; clear ha
      refine st_stO (us := [.int .i64 (IntKind.i64.wrap (sx0c_3 + (1 : Int)))]) hf hp (i := 1) rfl rfl rfl rfl rfl (by rfl) (by kernel_rfl) (Nat.le_of_ble_eq_true rfl) ?_
      clear hf; intro a w hf hp0; clear hp; have hp := hp0; clear hp0
      replace hp : Hp _ _ _ (Res.sl (Ek.pair Ek.str (Ek.pair Ek.bool (Ek.pair (Ek.int .i64) Ek.bool))) 81 (GL.cut v54 ((1 : Int)).toNat sx0c_4.length 4) (sx0c_4.drop ((1 : Int)).toNat) :: Res.obj 79 osx0 [.int .i64 sx0c_0, .int .i64 sx0c_1, .int .i64 sx0c_2, .int .i64 (IntKind.i64.wrap (sx0c_3 + (1 : Int))), (GL.cut v54 ((1 : Int)).toNat sx0c_4.length 4)] :: ow) := hp
      refine st_nil hf ?_
      refine ib_n ?_
      obtain rfl := Option.some.inj h
      exact rnd_l ⟨_, hf.sub ⟨rfl, trivial⟩, hp⟩
    replace h := ifF h hb
    refine wp_exit ?_
    refine th_e ?_
    obtain rfl := Option.some.inj h
    exact rnd_r (by simp) ⟨rfl, _, hf.sub ⟨rfl, trivial⟩, hp⟩
  clear hl hf hp
  intro e a w hne hO
  obtain ⟨rfl, v57, hf, hp⟩ := hO
  refine ib_same ?_
  refine th_n ?_
  refine wp_seq ?_
  refine wp_reg ?_
  refine st_assign hf rfl rfl (by decide) ?_
  clear hf; intro a ha hf; clear ha
  refine st_nil hf ?_
  refine th_n ?_
  refine wp_ret ?_
  obtain rfl := Option.some.inj h
  exact ⟨rfl, ⟨_, hf.sub ⟨rfl, trivial⟩, hp⟩⟩

noncomputable def f_again_Sender_Left (sx0_window : Int) (sx0_wait : Int) (sx0_now : Int) (sx0_front : Int) (sx0_left : (List (ByteArray × Bool × Int × Bool))) : Option Int := (some (sx0_left.length : Int))
theorem f_again_Sender_Left_c {S : Nat → Prop} {w0 w : World} {ow : List Res} (hp : Hp S w0 w ow) (sx0_window : Int) (sx0_wait : Int) (sx0_now : Int) (sx0_front : Int) (vsx0_left : Value) (sx0_left : (List (ByteArray × Bool × Int × Bool))) (hsx0_left : RdS (Ek.pair Ek.str (Ek.pair Ek.bool (Ek.pair (Ek.int .i64) Ek.bool))) S w0 vsx0_left sx0_left) (osx0 : Value) (hosx0 : RdO S w0 osx0 [.int .i64 sx0_window, .int .i64 sx0_wait, .int .i64 sx0_now, .int .i64 sx0_front, vsx0_left]) {r : Int} (h : f_again_Sender_Left sx0_window sx0_wait sx0_now sx0_front sx0_left = some r) :
    Calls Try.prog 25 #[osx0] w (fun e w' => e = .returned (.int .i64 r) ∧ Hp S w0 w' (ow)) := by
  unfold f_again_Sender_Left at h
  refine enter (n := 10) (args := [osx0]) Try.func25 rfl rfl (Nat.le_of_ble_eq_true rfl) fun a hf => ?_
  replace hf : Fr 10 a [(0, osx0)] := hf
  refine wp_mono (Q := fun e a w => e = .ret ∧ Fr 10 a [(2, .int .i64 r)] ∧ Hp S w0 w (ow)) ?_ ?_
  rotate_left
  · rintro e a w ⟨rfl, hf, hp⟩
    exact ret1 hf rfl rfl ⟨rfl, hp⟩
  refine wp_seq ?_
  refine wp_reg ?_
  refine st_assign hf rfl rfl (by decide) ?_
  clear hf; intro a ha hf; clear ha
  refine st_nil hf ?_
  refine th_n ?_
  refine wp_seq ?_
  refine wp_seq ?_
  refine wp_reg ?_
  refine st_move hf rfl rfl (by decide) ?_
  clear hf; intro a ha hf; clear ha
  refine st_peql hf (by decide) Try.underlying44 rfl rfl rfl (nilF (hosx0.ob hp).e) ?_
  clear hf; intro a ha hf; clear ha
  refine st_nil hf ?_
  refine th_n ?_
  refine wp_if hf rfl (fun hb => ?_) (fun hb => ?_)
  · exact absurd hb (by decide)
  refine wp_skip ?_
  refine th_n ?_
  refine wp_seq ?_
  refine wp_reg ?_
  refine st_move hf rfl rfl (by decide) ?_
  clear hf; intro a ha hf; clear ha
  refine st_nilV hf (by decide) rfl rfl (hosx0.ob hp) ?_
  clear hf; intro a ha hf; clear ha
  refine st_fa (o' := 4) hf (by decide) (off := 4) (sz := 1) (by kernel_rfl) (by decide) rfl rfl (hosx0.ob hp) rfl ?_
  clear hf; intro a ha hf; clear ha
  refine st_ldO (u := vsx0_left) hf (by decide) pl77 rfl rfl (hosx0.ob hp) rfl ?_
  clear hf; intro a ha hf; clear ha
  refine st_len (E := (Ek.pair Ek.str (Ek.pair Ek.bool (Ek.pair (Ek.int .i64) Ek.bool)))) hf (by decide) Try.underlying77 rfl rfl (hsx0_left.sl hp) ?_
  clear hf; intro a ha hf; clear ha
  refine st_assign hf rfl rfl (by decide) ?_
  clear hf; intro a ha hf; clear ha
  refine st_nil hf ?_
  refine th_n ?_
  refine wp_ret ?_
  obtain rfl := Option.some.inj h
  exact ⟨rfl, ⟨hf.sub ⟨rfl, trivial⟩, hp⟩⟩

noncomputable def f_again_Receiver_Handed (r0_window : Int) (r0_next : Int) : Option Int := (some r0_next)
theorem f_again_Receiver_Handed_c {S : Nat → Prop} {w0 w : World} {ow : List Res} (hp : Hp S w0 w ow) (r0_window : Int) (r0_next : Int) (vr0_kept : Value) (or0 : Value) (hor0 : RdO S w0 or0 [.int .i64 r0_window, .int .i64 r0_next, vr0_kept]) {r : Int} (h : f_again_Receiver_Handed r0_window r0_next = some r) :
    Calls Try.prog 14 #[or0] w (fun e w' => e = .returned (.int .i64 r) ∧ Hp S w0 w' (ow)) := by
  unfold f_again_Receiver_Handed at h
  refine enter (n := 9) (args := [or0]) Try.func14 rfl rfl (Nat.le_of_ble_eq_true rfl) fun a hf => ?_
  replace hf : Fr 9 a [(0, or0)] := hf
  refine wp_mono (Q := fun e a w => e = .ret ∧ Fr 9 a [(2, .int .i64 r)] ∧ Hp S w0 w (ow)) ?_ ?_
  rotate_left
  · rintro e a w ⟨rfl, hf, hp⟩
    exact ret1 hf rfl rfl ⟨rfl, hp⟩
  refine wp_seq ?_
  refine wp_reg ?_
  refine st_assign hf rfl rfl (by decide) ?_
  clear hf; intro a ha hf; clear ha
  refine st_nil hf ?_
  refine th_n ?_
  refine wp_seq ?_
  refine wp_seq ?_
  refine wp_reg ?_
  refine st_move hf rfl rfl (by decide) ?_
  clear hf; intro a ha hf; clear ha
  refine st_peql hf (by decide) Try.underlying23 rfl rfl rfl (nilF (hor0.ob hp).e) ?_
  clear hf; intro a ha hf; clear ha
  refine st_nil hf ?_
  refine th_n ?_
  refine wp_if hf rfl (fun hb => ?_) (fun hb => ?_)
  · exact absurd hb (by decide)
  refine wp_skip ?_
  refine th_n ?_
  refine wp_seq ?_
  refine wp_reg ?_
  refine st_move hf rfl rfl (by decide) ?_
  clear hf; intro a ha hf; clear ha
  refine st_nilV hf (by decide) rfl rfl (hor0.ob hp) ?_
  clear hf; intro a ha hf; clear ha
  refine st_fa (o' := 1) hf (by decide) (off := 1) (sz := 1) (by kernel_rfl) (by decide) rfl rfl (hor0.ob hp) rfl ?_
  clear hf; intro a ha hf; clear ha
  refine st_ldO (u := .int .i64 r0_next) hf (by decide) pl3 rfl rfl (hor0.ob hp) rfl ?_
  clear hf; intro a ha hf; clear ha
  refine st_assign hf rfl rfl (by decide) ?_
  clear hf; intro a ha hf; clear ha
  refine st_nil hf ?_
  refine th_n ?_
  refine wp_ret ?_
  obtain rfl := Option.some.inj h
  exact ⟨rfl, ⟨hf.sub ⟨rfl, trivial⟩, hp⟩⟩

noncomputable def f_foghornlaw28_works  : Option Bool := ((f_again_NewSender (2 : Int) (5 : Int)).bind fun q1 => ((f_again_NewReceiver (2 : Int)).bind fun q5 => (if ((((q1.2 != (0 : Int)) || (q5.2 != (0 : Int))) || ((q1.1).isNone)) || ((q5.1).isNone)) = true then (some false) else ((q1.1).bind fun s15 => ((f_again_Sender_Offer s15.1 s15.2.1 s15.2.2.1 s15.2.2.2.1 s15.2.2.2.2 (ByteArray.mk #[97])).bind fun q19 => ((f_again_Sender_Tick q19.2.1 q19.2.2.1 q19.2.2.2.1 q19.2.2.2.2.1 q19.2.2.2.2.2 (0 : Int)).bind fun q24 => ((if (((q19.1 != (0 : Int)) || (q24.2.1 != (0 : Int))) || ((q24.1.length : Int) != (1 : Int))) = true then (some true) else (if 0 ≤ (0 : Int) ∧ (0 : Int) < (q24.1.length : Int) then (some (!seq ((gt q24.1 (0 : Int)).2.2.2) (ByteArray.mk #[97]))) else none)).bind fun z37 => ((if z37 = true then (some true) else (if 0 ≤ (0 : Int) ∧ (0 : Int) < (q24.1.length : Int) then (some ((gt q24.1 (0 : Int)).1 != (1 : Int))) else none)).bind fun z41 => (if z41 = true then (some false) else (if 0 ≤ (0 : Int) ∧ (0 : Int) < (q24.1.length : Int) then ((q5.1).bind fun s44 => ((f_again_Receiver_Take s44.1 s44.2.1 s44.2.2 ((gt q24.1 (0 : Int)).1) ((gt q24.1 (0 : Int)).2.1) ((gt q24.1 (0 : Int)).2.2.1) ((gt q24.1 (0 : Int)).2.2.2)).bind fun q48 => ((if ((q48.2.2.1 == (0 : Int)) && ((q48.1.length : Int) == (1 : Int))) = true then (if 0 ≤ (0 : Int) ∧ (0 : Int) < (q48.1.length : Int) then (some (seq (gt q48.1 (0 : Int)) (ByteArray.mk #[97]))) else none) else (some false)).bind fun z61 => ((if ((z61 && (q48.2.1.2.1 == (1 : Int))) && (q48.2.1.1 == (2 : Int))) = true then ((f_again_Sender_Hear q24.2.2.1 q24.2.2.2.1 q24.2.2.2.2.1 q24.2.2.2.2.2.1 q24.2.2.2.2.2.2 q48.2.1.1 q48.2.1.2.1 q48.2.1.2.2.1 q48.2.1.2.2.2).bind fun q73 => (some ((q73.1 == (0 : Int)), q73.2.1, q73.2.2.1, q73.2.2.2.1, q73.2.2.2.2.1, q73.2.2.2.2.2))) else (some (false, q24.2.2.1, q24.2.2.2.1, q24.2.2.2.2.1, q24.2.2.2.2.2.1, q24.2.2.2.2.2.2))).bind fun z72 => ((if z72.1 = true then ((f_again_Sender_Left z72.2.1 z72.2.2.1 z72.2.2.2.1 z72.2.2.2.2.1 z72.2.2.2.2.2).bind fun q81 => (some (q81 == (0 : Int)))) else (some false)).bind fun z80 => ((if z80 = true then ((f_again_Receiver_Handed q48.2.2.2.1 q48.2.2.2.2.1).bind fun q96 => (some (q96 == (1 : Int)))) else (some false)).bind fun z95 => (some z95))))))) else none))))))))))
theorem f_foghornlaw28_works_c {S : Nat → Prop} {w0 w : World} {ow : List Res} (hp : Hp S w0 w ow) {r : Bool} (h : f_foghornlaw28_works = some r) :
    Calls Try.prog 27 #[] w (fun e w' => e = .returned (.bool r) ∧ Hp S w0 w' (ow)) := by
  unfold f_foghornlaw28_works at h
  refine enter (n := 113) (args := []) Try.func27 rfl rfl (Nat.le_of_ble_eq_true rfl) fun a hf => ?_
  replace hf : Fr 113 a [] := hf
  refine wp_mono (Q := fun e a w => e = .ret ∧ Fr 113 a [(0, .bool r)] ∧ Hp S w0 w (ow)) ?_ ?_
  rotate_left
  · rintro e a w ⟨rfl, hf, hp⟩
    exact ret1 hf rfl rfl ⟨rfl, hp⟩
  refine wp_seq ?_
  refine wp_reg ?_
  refine st_assign hf rfl rfl (by decide) ?_
  clear hf; intro a ha hf; clear ha
  refine st_nil hf ?_
  refine th_n ?_
  refine wp_seq ?_
  refine wp_reg ?_
  obtain ⟨q1, hcall2, h⟩ := bnd h
  refine st_call hf (by decide) Try.func15 rfl rfl rfl rfl rfl (f_again_NewSender_c hp _ _ hcall2) ?_
  rintro _ w ⟨v3, rfl, hp0⟩
  clear hp; have hp := hp0; clear hp0
  replace hp : Hp _ _ _ (Res.opt pk79 v3 q1.1 :: ow) := hp
  refine ⟨_, rfl, ?_⟩
  clear hf; intro a hf
  refine st_move hf rfl rfl (by decide) ?_
  clear hf; intro a ha hf; clear ha
  refine st_extract hf (by decide) rfl rfl rfl ?_
  clear hf; intro a ha hf; clear ha
  refine st_extract hf (by decide) rfl rfl rfl ?_
  clear hf; intro a ha hf; clear ha
  refine st_assign hf rfl rfl (by decide) ?_
  clear hf; intro a ha hf; clear ha
  refine st_assign hf rfl rfl (by decide) ?_
  clear hf; intro a ha hf; clear ha
  refine st_nil hf ?_
  refine th_n ?_
  refine wp_seq ?_
  refine wp_reg ?_
  obtain ⟨q5, hcall6, h⟩ := bnd h
  refine st_call hf (by decide) Try.func8 rfl rfl rfl rfl rfl (f_again_NewReceiver_c hp _ hcall6) ?_
  rintro _ w ⟨v7, rfl, hp0⟩
  clear hp; have hp := hp0; clear hp0
  replace hp : Hp _ _ _ (Res.opt pk74 v7 q5.1 :: Res.opt pk79 v3 q1.1 :: ow) := hp
  refine ⟨_, rfl, ?_⟩
  clear hf; intro a hf
  refine st_move hf rfl rfl (by decide) ?_
  clear hf; intro a ha hf; clear ha
  refine st_extract hf (by decide) rfl rfl rfl ?_
  clear hf; intro a ha hf; clear ha
  refine st_extract hf (by decide) rfl rfl rfl ?_
  clear hf; intro a ha hf; clear ha
  refine st_assign hf rfl rfl (by decide) ?_
  clear hf; intro a ha hf; clear ha
  refine st_assign hf rfl rfl (by decide) ?_
  clear hf; intro a ha hf; clear ha
  refine st_nil hf ?_
  refine th_n ?_
  refine wp_seq ?_
  refine wp_seq ?_
  refine wp_reg ?_
  refine st_move hf rfl rfl (by decide) ?_
  clear hf; intro a ha hf; clear ha
  refine st_ineq hf (by decide) rfl rfl rfl ?_
  clear hf; intro a ha hf; clear ha
  refine st_move hf rfl rfl (by decide) ?_
  clear hf; intro a ha hf; clear ha
  refine wpList_cut 3 (fun a w => Fr 113 a [(1, v3), (3, v7), (24, .bool ((q1.2 != (0 : Int)) || (q5.2 != (0 : Int))))] ∧ Hp S w0 w (Res.opt pk74 v7 q5.1 :: Res.opt pk79 v3 q1.1 :: ow)) ?_ ?_
  · rcases Bool.eq_false_or_eq_true (q1.2 != (0 : Int)) with hb10 | hb10
    · skip
      refine st_skip hf (wantN hf rfl rfl hb10) rfl (by decide) ?_ rfl
      clear hf; intro a hf
      refine st_skip hf (wantN hf rfl rfl hb10) rfl (by decide) ?_ rfl
      clear hf; intro a hf
      refine st_pick (v := .bool true) hf rfl rfl (fun hb' => ?_) (fun hb' => ?_) (by decide) ?_
      · rfl
      · exact absurd (hb10.symm.trans hb') (by decide)
      clear hf; intro a ha hf; clear ha
      refine st_nil hf (th_n ?_)
      exact ⟨hf.sub ⟨rfl, rfl, (by rw [hb10]; rfl), trivial⟩, hp⟩
    refine st_move hf (wantY hf rfl rfl hb10) rfl (by decide) ?_
    clear hf; intro a ha hf; clear ha
    refine st_ineq hf (by decide) (wantY hf rfl rfl hb10) rfl rfl ?_
    clear hf; intro a ha hf; clear ha
    refine st_pick (v := .bool (q5.2 != (0 : Int))) hf rfl rfl (fun hb' => ?_) (fun hb' => ?_) (by decide) ?_
    · exact absurd (hb10.symm.trans hb') (by decide)
    · rfl
    clear hf; intro a ha hf; clear ha
    refine st_nil hf (th_n ?_)
    exact ⟨hf.sub ⟨rfl, rfl, (by rw [hb10]; rfl), trivial⟩, hp⟩
  rintro a w ⟨hf, hp⟩
  refine st_move hf rfl rfl (by decide) ?_
  clear hf; intro a ha hf; clear ha
  refine wpList_cut 3 (fun a w => Fr 113 a [(1, v3), (3, v7), (28, .bool (((q1.2 != (0 : Int)) || (q5.2 != (0 : Int))) || ((q1.1).isNone)))] ∧ Hp S w0 w (Res.opt pk74 v7 q5.1 :: Res.opt pk79 v3 q1.1 :: ow)) ?_ ?_
  · rcases Bool.eq_false_or_eq_true ((q1.2 != (0 : Int)) || (q5.2 != (0 : Int))) with hb12 | hb12
    · skip
      refine st_skip hf (wantN hf rfl rfl hb12) rfl (by decide) ?_ rfl
      clear hf; intro a hf
      refine st_skip hf (wantN hf rfl rfl hb12) rfl (by decide) ?_ rfl
      clear hf; intro a hf
      refine st_pick (v := .bool true) hf rfl rfl (fun hb' => ?_) (fun hb' => ?_) (by decide) ?_
      · rfl
      · exact absurd (hb12.symm.trans hb') (by decide)
      clear hf; intro a ha hf; clear ha
      refine st_nil hf (th_n ?_)
      exact ⟨hf.sub ⟨rfl, rfl, (by rw [hb12]; rfl), trivial⟩, hp⟩
    refine st_move hf (wantY hf rfl rfl hb12) rfl (by decide) ?_
    clear hf; intro a ha hf; clear ha
    refine st_peql hf (by decide) Try.underlying44 (wantY hf rfl rfl hb12) rfl rfl (hp.nilB (i := 1) rfl) ?_
    clear hf; intro a ha hf; clear ha
    refine st_pick (v := .bool ((q1.1).isNone)) hf rfl rfl (fun hb' => ?_) (fun hb' => ?_) (by decide) ?_
    · exact absurd (hb12.symm.trans hb') (by decide)
    · rfl
    clear hf; intro a ha hf; clear ha
    refine st_nil hf (th_n ?_)
    exact ⟨hf.sub ⟨rfl, rfl, (by rw [hb12]; rfl), trivial⟩, hp⟩
  rintro a w ⟨hf, hp⟩
  refine st_move hf rfl rfl (by decide) ?_
  clear hf; intro a ha hf; clear ha
  refine wpList_cut 3 (fun a w => Fr 113 a [(1, v3), (3, v7), (32, .bool ((((q1.2 != (0 : Int)) || (q5.2 != (0 : Int))) || ((q1.1).isNone)) || ((q5.1).isNone)))] ∧ Hp S w0 w (Res.opt pk74 v7 q5.1 :: Res.opt pk79 v3 q1.1 :: ow)) ?_ ?_
  · rcases Bool.eq_false_or_eq_true (((q1.2 != (0 : Int)) || (q5.2 != (0 : Int))) || ((q1.1).isNone)) with hb14 | hb14
    · skip
      refine st_skip hf (wantN hf rfl rfl hb14) rfl (by decide) ?_ rfl
      clear hf; intro a hf
      refine st_skip hf (wantN hf rfl rfl hb14) rfl (by decide) ?_ rfl
      clear hf; intro a hf
      refine st_pick (v := .bool true) hf rfl rfl (fun hb' => ?_) (fun hb' => ?_) (by decide) ?_
      · rfl
      · exact absurd (hb14.symm.trans hb') (by decide)
      clear hf; intro a ha hf; clear ha
      refine st_nil hf (th_n ?_)
      exact ⟨hf.sub ⟨rfl, rfl, (by rw [hb14]; rfl), trivial⟩, hp⟩
    refine st_move hf (wantY hf rfl rfl hb14) rfl (by decide) ?_
    clear hf; intro a ha hf; clear ha
    refine st_peql hf (by decide) Try.underlying23 (wantY hf rfl rfl hb14) rfl rfl (hp.nilB (i := 0) rfl) ?_
    clear hf; intro a ha hf; clear ha
    refine st_pick (v := .bool ((q5.1).isNone)) hf rfl rfl (fun hb' => ?_) (fun hb' => ?_) (by decide) ?_
    · exact absurd (hb14.symm.trans hb') (by decide)
    · rfl
    clear hf; intro a ha hf; clear ha
    refine st_nil hf (th_n ?_)
    exact ⟨hf.sub ⟨rfl, rfl, (by rw [hb14]; rfl), trivial⟩, hp⟩
  rintro a w ⟨hf, hp⟩
  refine st_nil hf ?_
  refine th_n ?_
  refine wp_if hf rfl (fun hb => ?_) (fun hb => ?_)
  · replace h := ifT h hb
    refine wp_seq ?_
    refine wp_reg ?_
    refine st_assign hf rfl rfl (by decide) ?_
    clear hf; intro a ha hf; clear ha
    refine st_nil hf ?_
    refine th_n ?_
    refine wp_ret ?_
    refine th_r ?_
    obtain rfl := Option.some.inj h
    have hp : Hp _ _ _ (ow) := Hp.sel (pre := [Res.opt pk74 v7 q5.1, Res.opt pk79 v3 q1.1]) (tail := ow) (rs' := []) hp [] (by decide) (by simp) rfl
    exact ⟨rfl, ⟨hf.sub ⟨rfl, trivial⟩, hp⟩⟩
  replace h := ifF h hb
  refine wp_skip ?_
  refine th_n ?_
  refine wp_seq ?_
  refine wp_reg ?_
  refine st_move hf rfl rfl (by decide) ?_
  clear hf; intro a ha hf; clear ha
  obtain ⟨s15, hs16, h⟩ := bnd h
  have hp : Hp _ _ _ (Res.opt pk79 v3 q1.1 :: Res.opt pk74 v7 q5.1 :: ow) := Hp.sel (pre := [Res.opt pk74 v7 q5.1, Res.opt pk79 v3 q1.1]) (tail := ow) (rs' := [Res.opt pk79 v3 q1.1, Res.opt pk74 v7 q5.1]) hp [1, 0] (by decide) (by simp) rfl
  replace hp : Hp _ _ _ (pk79.R v3 s15 :: Res.opt pk74 v7 q5.1 :: ow) := hp.optSome hs16
  obtain ⟨v17, hp⟩ := pk79_in hp
  replace hp : Hp _ _ _ (Res.obj 79 v3 [.int .i64 s15.1, .int .i64 s15.2.1, .int .i64 s15.2.2.1, .int .i64 s15.2.2.2.1, v17] :: Res.sl (Ek.pair Ek.str (Ek.pair Ek.bool (Ek.pair (Ek.int .i64) Ek.bool))) 81 v17 s15.2.2.2.2 :: Res.opt pk74 v7 q5.1 :: ow) := hp
  obtain ⟨q19, hcall20, h⟩ := bnd h
  have hp21 : Hp _ _ _ (Res.sl (Ek.pair Ek.str (Ek.pair Ek.bool (Ek.pair (Ek.int .i64) Ek.bool))) 81 v17 s15.2.2.2.2 :: Res.obj 79 v3 [.int .i64 s15.1, .int .i64 s15.2.1, .int .i64 s15.2.2.1, .int .i64 s15.2.2.2.1, v17] :: Res.opt pk74 v7 q5.1 :: ow) := Hp.sel (pre := [Res.obj 79 v3 [.int .i64 s15.1, .int .i64 s15.2.1, .int .i64 s15.2.2.1, .int .i64 s15.2.2.2.1, v17], Res.sl (Ek.pair Ek.str (Ek.pair Ek.bool (Ek.pair (Ek.int .i64) Ek.bool))) 81 v17 s15.2.2.2.2, Res.opt pk74 v7 q5.1]) (tail := ow) (rs' := [Res.sl (Ek.pair Ek.str (Ek.pair Ek.bool (Ek.pair (Ek.int .i64) Ek.bool))) 81 v17 s15.2.2.2.2, Res.obj 79 v3 [.int .i64 s15.1, .int .i64 s15.2.1, .int .i64 s15.2.2.1, .int .i64 s15.2.2.2.1, v17], Res.opt pk74 v7 q5.1]) hp [1, 0, 2] (by decide) (by simp) rfl
  refine st_call hf (by decide) Try.func17 rfl rfl rfl rfl rfl (f_again_Sender_Offer_c _ _ _ _ _ _ _ _ hp21 hcall20) ?_
  rintro _ w ⟨v22, rfl, hp0⟩
  clear hp; have hp := hp0; clear hp0
  replace hp : Hp _ _ _ (Res.sl (Ek.pair Ek.str (Ek.pair Ek.bool (Ek.pair (Ek.int .i64) Ek.bool))) 81 v22 q19.2.2.2.2.2 :: Res.obj 79 v3 [.int .i64 q19.2.1, .int .i64 q19.2.2.1, .int .i64 q19.2.2.2.1, .int .i64 q19.2.2.2.2.1, v22] :: Res.opt pk74 v7 q5.1 :: ow) := hp
  refine ⟨_, rfl, ?_⟩
  clear hf; intro a hf
  refine st_assign hf rfl rfl (by decide) ?_
  clear hf; intro a ha hf; clear ha
  refine st_nil hf ?_
  refine th_n ?_
  refine wp_seq ?_
  refine wp_reg ?_
  refine st_move hf rfl rfl (by decide) ?_
  clear hf; intro a ha hf; clear ha
  obtain ⟨q24, hcall25, h⟩ := bnd h
  have hp26 : Hp _ _ _ (Res.sl (Ek.pair Ek.str (Ek.pair Ek.bool (Ek.pair (Ek.int .i64) Ek.bool))) 81 v22 q19.2.2.2.2.2 :: Res.obj 79 v3 [.int .i64 q19.2.1, .int .i64 q19.2.2.1, .int .i64 q19.2.2.2.1, .int .i64 q19.2.2.2.2.1, v22] :: Res.opt pk74 v7 q5.1 :: ow) := Hp.sel (pre := [Res.sl (Ek.pair Ek.str (Ek.pair Ek.bool (Ek.pair (Ek.int .i64) Ek.bool))) 81 v22 q19.2.2.2.2.2, Res.obj 79 v3 [.int .i64 q19.2.1, .int .i64 q19.2.2.1, .int .i64 q19.2.2.2.1, .int .i64 q19.2.2.2.2.1, v22], Res.opt pk74 v7 q5.1]) (tail := ow) (rs' := [Res.sl (Ek.pair Ek.str (Ek.pair Ek.bool (Ek.pair (Ek.int .i64) Ek.bool))) 81 v22 q19.2.2.2.2.2, Res.obj 79 v3 [.int .i64 q19.2.1, .int .i64 q19.2.2.1, .int .i64 q19.2.2.2.1, .int .i64 q19.2.2.2.2.1, v22], Res.opt pk74 v7 q5.1]) hp [0, 1, 2] (by decide) (by simp) rfl
  refine st_call hf (by decide) Try.func19 rfl rfl rfl rfl rfl (f_again_Sender_Tick_c _ _ _ _ _ _ _ _ hp26 hcall25) ?_
  rintro _ w ⟨v27, v28, rfl, hp0⟩
  clear hp; have hp := hp0; clear hp0
  replace hp : Hp _ _ _ (Res.sl (Ek.pair (Ek.int .u8) (Ek.pair (Ek.int .u8) (Ek.pair Ek.bool Ek.str))) 31 v27 q24.1 :: Res.sl (Ek.pair Ek.str (Ek.pair Ek.bool (Ek.pair (Ek.int .i64) Ek.bool))) 81 v28 q24.2.2.2.2.2.2 :: Res.obj 79 v3 [.int .i64 q24.2.2.1, .int .i64 q24.2.2.2.1, .int .i64 q24.2.2.2.2.1, .int .i64 q24.2.2.2.2.2.1, v28] :: Res.opt pk74 v7 q5.1 :: ow) := hp
  refine ⟨_, rfl, ?_⟩
  clear hf; intro a hf
  refine st_move hf rfl rfl (by decide) ?_
  clear hf; intro a ha hf; clear ha
  refine st_extract hf (by decide) rfl rfl rfl ?_
  clear hf; intro a ha hf; clear ha
  refine st_extract hf (by decide) rfl rfl rfl ?_
  clear hf; intro a ha hf; clear ha
  refine st_assign hf rfl rfl (by decide) ?_
  clear hf; intro a ha hf; clear ha
  refine st_assign hf rfl rfl (by decide) ?_
  clear hf; intro a ha hf; clear ha
  refine st_nil hf ?_
  refine th_n ?_
  refine wp_seq ?_
  refine wp_seq ?_
  refine wp_reg ?_
  refine st_move hf rfl rfl (by decide) ?_
  clear hf; intro a ha hf; clear ha
  refine st_ineq hf (by decide) rfl rfl rfl ?_
  clear hf; intro a ha hf; clear ha
  refine st_move hf rfl rfl (by decide) ?_
  clear hf; intro a ha hf; clear ha
  refine wpList_cut 3 (fun a w => Fr 113 a [(1, v3), (3, v7), (6, v27), (45, .bool ((q19.1 != (0 : Int)) || (q24.2.1 != (0 : Int))))] ∧ Hp S w0 w (Res.sl (Ek.pair (Ek.int .u8) (Ek.pair (Ek.int .u8) (Ek.pair Ek.bool Ek.str))) 31 v27 q24.1 :: Res.sl (Ek.pair Ek.str (Ek.pair Ek.bool (Ek.pair (Ek.int .i64) Ek.bool))) 81 v28 q24.2.2.2.2.2.2 :: Res.obj 79 v3 [.int .i64 q24.2.2.1, .int .i64 q24.2.2.2.1, .int .i64 q24.2.2.2.2.1, .int .i64 q24.2.2.2.2.2.1, v28] :: Res.opt pk74 v7 q5.1 :: ow)) ?_ ?_
  · rcases Bool.eq_false_or_eq_true (q19.1 != (0 : Int)) with hb32 | hb32
    · skip
      refine st_skip hf (wantN hf rfl rfl hb32) rfl (by decide) ?_ rfl
      clear hf; intro a hf
      refine st_skip hf (wantN hf rfl rfl hb32) rfl (by decide) ?_ rfl
      clear hf; intro a hf
      refine st_pick (v := .bool true) hf rfl rfl (fun hb' => ?_) (fun hb' => ?_) (by decide) ?_
      · rfl
      · exact absurd (hb32.symm.trans hb') (by decide)
      clear hf; intro a ha hf; clear ha
      refine st_nil hf (th_n ?_)
      exact ⟨hf.sub ⟨rfl, rfl, rfl, (by rw [hb32]; rfl), trivial⟩, hp⟩
    refine st_move hf (wantY hf rfl rfl hb32) rfl (by decide) ?_
    clear hf; intro a ha hf; clear ha
    refine st_ineq hf (by decide) (wantY hf rfl rfl hb32) rfl rfl ?_
    clear hf; intro a ha hf; clear ha
    refine st_pick (v := .bool (q24.2.1 != (0 : Int))) hf rfl rfl (fun hb' => ?_) (fun hb' => ?_) (by decide) ?_
    · exact absurd (hb32.symm.trans hb') (by decide)
    · rfl
    clear hf; intro a ha hf; clear ha
    refine st_nil hf (th_n ?_)
    exact ⟨hf.sub ⟨rfl, rfl, rfl, (by rw [hb32]; rfl), trivial⟩, hp⟩
  rintro a w ⟨hf, hp⟩
  refine st_move hf rfl rfl (by decide) ?_
  clear hf; intro a ha hf; clear ha
  refine wpList_cut 4 (fun a w => Fr 113 a [(1, v3), (3, v7), (6, v27), (50, .bool (((q19.1 != (0 : Int)) || (q24.2.1 != (0 : Int))) || ((q24.1.length : Int) != (1 : Int))))] ∧ Hp S w0 w (Res.sl (Ek.pair (Ek.int .u8) (Ek.pair (Ek.int .u8) (Ek.pair Ek.bool Ek.str))) 31 v27 q24.1 :: Res.sl (Ek.pair Ek.str (Ek.pair Ek.bool (Ek.pair (Ek.int .i64) Ek.bool))) 81 v28 q24.2.2.2.2.2.2 :: Res.obj 79 v3 [.int .i64 q24.2.2.1, .int .i64 q24.2.2.2.1, .int .i64 q24.2.2.2.2.1, .int .i64 q24.2.2.2.2.2.1, v28] :: Res.opt pk74 v7 q5.1 :: ow)) ?_ ?_
  · rcases Bool.eq_false_or_eq_true ((q19.1 != (0 : Int)) || (q24.2.1 != (0 : Int))) with hb34 | hb34
    · skip
      refine st_skip hf (wantN hf rfl rfl hb34) rfl (by decide) ?_ rfl
      clear hf; intro a hf
      refine st_skip hf (wantN hf rfl rfl hb34) rfl (by decide) ?_ rfl
      clear hf; intro a hf
      refine st_skip hf (wantN hf rfl rfl hb34) rfl (by decide) ?_ rfl
      clear hf; intro a hf
      refine st_pick (v := .bool true) hf rfl rfl (fun hb' => ?_) (fun hb' => ?_) (by decide) ?_
      · rfl
      · exact absurd (hb34.symm.trans hb') (by decide)
      clear hf; intro a ha hf; clear ha
      refine st_nil hf (th_n ?_)
      exact ⟨hf.sub ⟨rfl, rfl, rfl, (by rw [hb34]; rfl), trivial⟩, hp⟩
    refine st_move hf (wantY hf rfl rfl hb34) rfl (by decide) ?_
    clear hf; intro a ha hf; clear ha
    refine st_len (E := (Ek.pair (Ek.int .u8) (Ek.pair (Ek.int .u8) (Ek.pair Ek.bool Ek.str)))) hf (by decide) Try.underlying54 (wantY hf rfl rfl hb34) rfl (hp.sl (i := 0) rfl) ?_
    clear hf; intro a ha hf; clear ha
    refine st_ineq hf (by decide) (wantY hf rfl rfl hb34) rfl rfl ?_
    clear hf; intro a ha hf; clear ha
    refine st_pick (v := .bool ((q24.1.length : Int) != (1 : Int))) hf rfl rfl (fun hb' => ?_) (fun hb' => ?_) (by decide) ?_
    · exact absurd (hb34.symm.trans hb') (by decide)
    · rfl
    clear hf; intro a ha hf; clear ha
    refine st_nil hf (th_n ?_)
    exact ⟨hf.sub ⟨rfl, rfl, rfl, (by rw [hb34]; rfl), trivial⟩, hp⟩
  rintro a w ⟨hf, hp⟩
  refine st_move hf rfl rfl (by decide) ?_
  clear hf; intro a ha hf; clear ha
  obtain ⟨z37, hz35, h⟩ := bnd h
  refine wpList_cut 6 (fun a w => Fr 113 a [(1, v3), (3, v7), (6, v27), (57, .bool z37)] ∧ Hp S w0 w (Res.sl (Ek.pair (Ek.int .u8) (Ek.pair (Ek.int .u8) (Ek.pair Ek.bool Ek.str))) 31 v27 q24.1 :: Res.sl (Ek.pair Ek.str (Ek.pair Ek.bool (Ek.pair (Ek.int .i64) Ek.bool))) 81 v28 q24.2.2.2.2.2.2 :: Res.obj 79 v3 [.int .i64 q24.2.2.1, .int .i64 q24.2.2.2.1, .int .i64 q24.2.2.2.2.1, .int .i64 q24.2.2.2.2.2.1, v28] :: Res.opt pk74 v7 q5.1 :: ow)) ?_ ?_
  · rcases Bool.eq_false_or_eq_true (((q19.1 != (0 : Int)) || (q24.2.1 != (0 : Int))) || ((q24.1.length : Int) != (1 : Int))) with hb36 | hb36
    · skip
      replace hz35 := ifT hz35 hb36
      refine st_skip hf (wantN hf rfl rfl hb36) rfl (by decide) ?_ rfl
      clear hf; intro a hf
      refine st_skip hf (wantN hf rfl rfl hb36) rfl (by decide) ?_ rfl
      clear hf; intro a hf
      refine st_skip hf (wantN hf rfl rfl hb36) rfl (by decide) ?_ rfl
      clear hf; intro a hf
      refine st_skip hf (wantN hf rfl rfl hb36) rfl (by decide) ?_ rfl
      clear hf; intro a hf
      refine st_skip hf (wantN hf rfl rfl hb36) rfl (by decide) ?_ rfl
      clear hf; intro a hf
      obtain rfl := Option.some.inj hz35
      refine st_pick (v := .bool true) hf rfl rfl (fun hb' => ?_) (fun hb' => ?_) (by decide) ?_
      · rfl
      · exact absurd (hb36.symm.trans hb') (by decide)
      clear hf; intro a ha hf; clear ha
      refine st_nil hf (th_n ?_)
      exact ⟨hf.sub ⟨rfl, rfl, rfl, rfl, trivial⟩, hp⟩
    replace hz35 := ifF hz35 hb36
    refine st_move hf (wantY hf rfl rfl hb36) rfl (by decide) ?_
    clear hf; intro a ha hf; clear ha
    obtain ⟨hc38, hz35⟩ := chk hz35
    refine st_index (E := (Ek.pair (Ek.int .u8) (Ek.pair (Ek.int .u8) (Ek.pair Ek.bool Ek.str)))) hf (by decide) Try.underlying54 elt31 (wantY hf rfl rfl hb36) rfl rfl (hp.sl (i := 0) rfl) hc38.1 hc38.2 ?_
    clear hf; intro a ha hf; clear ha
    refine st_faP (off := 3) (sz := 1) hf (by decide) (by kernel_rfl) (by decide) (wantY hf rfl rfl hb36) rfl (Sl.isP (hp.sl (i := 0) rfl) hc38.1 hc38.2) ?_
    clear hf; intro a ha hf; clear ha
    refine st_ldQ (F := Ek.str) (yv := (gt q24.1 (0 : Int)).2.2.2) hf (by decide) pl9 (fun x => .string x) (fun _ _ h => h) (wantY hf rfl rfl hb36) rfl (Sl.part (E := (Ek.pair (Ek.int .u8) (Ek.pair (Ek.int .u8) (Ek.pair Ek.bool Ek.str)))) (F := Ek.str) (o := 3) (Sub.comp (Sub.snd (E := (Ek.int .u8)) (F := (Ek.pair (Ek.int .u8) (Ek.pair Ek.bool Ek.str)))) (Sub.comp (Sub.snd (E := (Ek.int .u8)) (F := (Ek.pair Ek.bool Ek.str))) (Sub.snd (E := Ek.bool) (F := Ek.str)))) (hp.sl (i := 0) rfl) hc38.1 hc38.2) ?_
    clear hf; intro a ha hf; clear ha
    refine st_sneq hf (by decide) (wantY hf rfl rfl hb36) rfl rfl ?_
    clear hf; intro a ha hf; clear ha
    obtain rfl := Option.some.inj hz35
    refine st_pick (v := .bool (!seq ((gt q24.1 (0 : Int)).2.2.2) (ByteArray.mk #[97]))) hf rfl rfl (fun hb' => ?_) (fun hb' => ?_) (by decide) ?_
    · exact absurd (hb36.symm.trans hb') (by decide)
    · rfl
    clear hf; intro a ha hf; clear ha
    refine st_nil hf (th_n ?_)
    exact ⟨hf.sub ⟨rfl, rfl, rfl, rfl, trivial⟩, hp⟩
  rintro a w ⟨hf, hp⟩
  refine st_move hf rfl rfl (by decide) ?_
  clear hf; intro a ha hf; clear ha
  obtain ⟨z41, hz39, h⟩ := bnd h
  refine wpList_cut 6 (fun a w => Fr 113 a [(1, v3), (3, v7), (6, v27), (64, .bool z41)] ∧ Hp S w0 w (Res.sl (Ek.pair (Ek.int .u8) (Ek.pair (Ek.int .u8) (Ek.pair Ek.bool Ek.str))) 31 v27 q24.1 :: Res.sl (Ek.pair Ek.str (Ek.pair Ek.bool (Ek.pair (Ek.int .i64) Ek.bool))) 81 v28 q24.2.2.2.2.2.2 :: Res.obj 79 v3 [.int .i64 q24.2.2.1, .int .i64 q24.2.2.2.1, .int .i64 q24.2.2.2.2.1, .int .i64 q24.2.2.2.2.2.1, v28] :: Res.opt pk74 v7 q5.1 :: ow)) ?_ ?_
  · rcases Bool.eq_false_or_eq_true z37 with hb40 | hb40
    · skip
      replace hz39 := ifT hz39 hb40
      refine st_skip hf (wantN hf rfl rfl hb40) rfl (by decide) ?_ rfl
      clear hf; intro a hf
      refine st_skip hf (wantN hf rfl rfl hb40) rfl (by decide) ?_ rfl
      clear hf; intro a hf
      refine st_skip hf (wantN hf rfl rfl hb40) rfl (by decide) ?_ rfl
      clear hf; intro a hf
      refine st_skip hf (wantN hf rfl rfl hb40) rfl (by decide) ?_ rfl
      clear hf; intro a hf
      refine st_skip hf (wantN hf rfl rfl hb40) rfl (by decide) ?_ rfl
      clear hf; intro a hf
      obtain rfl := Option.some.inj hz39
      refine st_pick (v := .bool true) hf rfl rfl (fun hb' => ?_) (fun hb' => ?_) (by decide) ?_
      · rfl
      · exact absurd (hb40.symm.trans hb') (by decide)
      clear hf; intro a ha hf; clear ha
      refine st_nil hf (th_n ?_)
      exact ⟨hf.sub ⟨rfl, rfl, rfl, rfl, trivial⟩, hp⟩
    replace hz39 := ifF hz39 hb40
    refine st_move hf (wantY hf rfl rfl hb40) rfl (by decide) ?_
    clear hf; intro a ha hf; clear ha
    obtain ⟨hc42, hz39⟩ := chk hz39
    refine st_index (E := (Ek.pair (Ek.int .u8) (Ek.pair (Ek.int .u8) (Ek.pair Ek.bool Ek.str)))) hf (by decide) Try.underlying54 elt31 (wantY hf rfl rfl hb40) rfl rfl (hp.sl (i := 0) rfl) hc42.1 hc42.2 ?_
    clear hf; intro a ha hf; clear ha
    refine st_faP (off := 0) (sz := 1) hf (by decide) (by kernel_rfl) (by decide) (wantY hf rfl rfl hb40) rfl (Sl.isP (hp.sl (i := 0) rfl) hc42.1 hc42.2) ?_
    clear hf; intro a ha hf; clear ha
    refine st_ldQ (F := (Ek.int .u8)) (yv := (gt q24.1 (0 : Int)).1) hf (by decide) pl5 (fun x => .int .u8 x) (fun _ _ h => h) (wantY hf rfl rfl hb40) rfl (Sl.part (E := (Ek.pair (Ek.int .u8) (Ek.pair (Ek.int .u8) (Ek.pair Ek.bool Ek.str)))) (F := (Ek.int .u8)) (o := 0) (Sub.fst (E := (Ek.int .u8)) (F := (Ek.pair (Ek.int .u8) (Ek.pair Ek.bool Ek.str)))) (hp.sl (i := 0) rfl) hc42.1 hc42.2) ?_
    clear hf; intro a ha hf; clear ha
    refine st_ineq hf (by decide) (wantY hf rfl rfl hb40) rfl rfl ?_
    clear hf; intro a ha hf; clear ha
    obtain rfl := Option.some.inj hz39
    refine st_pick (v := .bool ((gt q24.1 (0 : Int)).1 != (1 : Int))) hf rfl rfl (fun hb' => ?_) (fun hb' => ?_) (by decide) ?_
    · exact absurd (hb40.symm.trans hb') (by decide)
    · rfl
    clear hf; intro a ha hf; clear ha
    refine st_nil hf (th_n ?_)
    exact ⟨hf.sub ⟨rfl, rfl, rfl, rfl, trivial⟩, hp⟩
  rintro a w ⟨hf, hp⟩
  refine st_nil hf ?_
  refine th_n ?_
  refine wp_if hf rfl (fun hb => ?_) (fun hb => ?_)
  · replace h := ifT h hb
    refine wp_seq ?_
    refine wp_reg ?_
    refine st_assign hf rfl rfl (by decide) ?_
    clear hf; intro a ha hf; clear ha
    refine st_nil hf ?_
    refine th_n ?_
    refine wp_ret ?_
    refine th_r ?_
    obtain rfl := Option.some.inj h
    have hp : Hp _ _ _ (ow) := Hp.sel (pre := [Res.sl (Ek.pair (Ek.int .u8) (Ek.pair (Ek.int .u8) (Ek.pair Ek.bool Ek.str))) 31 v27 q24.1, Res.sl (Ek.pair Ek.str (Ek.pair Ek.bool (Ek.pair (Ek.int .i64) Ek.bool))) 81 v28 q24.2.2.2.2.2.2, Res.obj 79 v3 [.int .i64 q24.2.2.1, .int .i64 q24.2.2.2.1, .int .i64 q24.2.2.2.2.1, .int .i64 q24.2.2.2.2.2.1, v28], Res.opt pk74 v7 q5.1]) (tail := ow) (rs' := []) hp [] (by decide) (by simp) rfl
    exact ⟨rfl, ⟨hf.sub ⟨rfl, trivial⟩, hp⟩⟩
  replace h := ifF h hb
  refine wp_skip ?_
  refine th_n ?_
  refine wp_seq ?_
  refine wp_reg ?_
  refine st_move hf rfl rfl (by decide) ?_
  clear hf; intro a ha hf; clear ha
  refine st_move hf rfl rfl (by decide) ?_
  clear hf; intro a ha hf; clear ha
  obtain ⟨hc43, h⟩ := chk h
  refine st_index (E := (Ek.pair (Ek.int .u8) (Ek.pair (Ek.int .u8) (Ek.pair Ek.bool Ek.str)))) hf (by decide) Try.underlying54 elt31 rfl rfl rfl (hp.sl (i := 0) rfl) hc43.1 hc43.2 ?_
  clear hf; intro a ha hf; clear ha
  refine st_ldQX (F := (Ek.pair (Ek.int .u8) (Ek.pair (Ek.int .u8) (Ek.pair Ek.bool Ek.str)))) (yv := (gt q24.1 (0 : Int))) (m := 4) (us := [.int .u8 ((gt q24.1 (0 : Int)).1), .int .u8 ((gt q24.1 (0 : Int)).2.1), .bool ((gt q24.1 (0 : Int)).2.2.1), .string ((gt q24.1 (0 : Int)).2.2.2)]) hf (by decide) (by kernel_rfl) rfl (fun cs9 h9 => by obtain ⟨_, _, rfl, rfl, ⟨_, _, rfl, rfl, ⟨_, _, rfl, rfl, rfl⟩⟩⟩ := h9; rfl) rfl rfl (Part.whole (hp.sl (i := 0) rfl) hc43.1 hc43.2) ?_
  clear hf; intro a ha hf; clear ha
  obtain ⟨s44, hs45, h⟩ := bnd h
  have hp : Hp _ _ _ (Res.opt pk74 v7 q5.1 :: Res.sl (Ek.pair (Ek.int .u8) (Ek.pair (Ek.int .u8) (Ek.pair Ek.bool Ek.str))) 31 v27 q24.1 :: Res.sl (Ek.pair Ek.str (Ek.pair Ek.bool (Ek.pair (Ek.int .i64) Ek.bool))) 81 v28 q24.2.2.2.2.2.2 :: Res.obj 79 v3 [.int .i64 q24.2.2.1, .int .i64 q24.2.2.2.1, .int .i64 q24.2.2.2.2.1, .int .i64 q24.2.2.2.2.2.1, v28] :: ow) := Hp.sel (pre := [Res.sl (Ek.pair (Ek.int .u8) (Ek.pair (Ek.int .u8) (Ek.pair Ek.bool Ek.str))) 31 v27 q24.1, Res.sl (Ek.pair Ek.str (Ek.pair Ek.bool (Ek.pair (Ek.int .i64) Ek.bool))) 81 v28 q24.2.2.2.2.2.2, Res.obj 79 v3 [.int .i64 q24.2.2.1, .int .i64 q24.2.2.2.1, .int .i64 q24.2.2.2.2.1, .int .i64 q24.2.2.2.2.2.1, v28], Res.opt pk74 v7 q5.1]) (tail := ow) (rs' := [Res.opt pk74 v7 q5.1, Res.sl (Ek.pair (Ek.int .u8) (Ek.pair (Ek.int .u8) (Ek.pair Ek.bool Ek.str))) 31 v27 q24.1, Res.sl (Ek.pair Ek.str (Ek.pair Ek.bool (Ek.pair (Ek.int .i64) Ek.bool))) 81 v28 q24.2.2.2.2.2.2, Res.obj 79 v3 [.int .i64 q24.2.2.1, .int .i64 q24.2.2.2.1, .int .i64 q24.2.2.2.2.1, .int .i64 q24.2.2.2.2.2.1, v28]]) hp [3, 0, 1, 2] (by decide) (by simp) rfl
  replace hp : Hp _ _ _ (pk74.R v7 s44 :: Res.sl (Ek.pair (Ek.int .u8) (Ek.pair (Ek.int .u8) (Ek.pair Ek.bool Ek.str))) 31 v27 q24.1 :: Res.sl (Ek.pair Ek.str (Ek.pair Ek.bool (Ek.pair (Ek.int .i64) Ek.bool))) 81 v28 q24.2.2.2.2.2.2 :: Res.obj 79 v3 [.int .i64 q24.2.2.1, .int .i64 q24.2.2.2.1, .int .i64 q24.2.2.2.2.1, .int .i64 q24.2.2.2.2.2.1, v28] :: ow) := hp.optSome hs45
  obtain ⟨v46, hp⟩ := pk74_in hp
  replace hp : Hp _ _ _ (Res.obj 74 v7 [.int .i64 s44.1, .int .i64 s44.2.1, v46] :: Res.map (fun x : ByteArray => Value.string x) v46 s44.2.2 :: Res.sl (Ek.pair (Ek.int .u8) (Ek.pair (Ek.int .u8) (Ek.pair Ek.bool Ek.str))) 31 v27 q24.1 :: Res.sl (Ek.pair Ek.str (Ek.pair Ek.bool (Ek.pair (Ek.int .i64) Ek.bool))) 81 v28 q24.2.2.2.2.2.2 :: Res.obj 79 v3 [.int .i64 q24.2.2.1, .int .i64 q24.2.2.2.1, .int .i64 q24.2.2.2.2.1, .int .i64 q24.2.2.2.2.2.1, v28] :: ow) := hp
  obtain ⟨q48, hcall49, h⟩ := bnd h
  have hp50 : Hp _ _ _ (Res.map (fun x : ByteArray => Value.string x) v46 s44.2.2 :: Res.obj 74 v7 [.int .i64 s44.1, .int .i64 s44.2.1, v46] :: Res.sl (Ek.pair (Ek.int .u8) (Ek.pair (Ek.int .u8) (Ek.pair Ek.bool Ek.str))) 31 v27 q24.1 :: Res.sl (Ek.pair Ek.str (Ek.pair Ek.bool (Ek.pair (Ek.int .i64) Ek.bool))) 81 v28 q24.2.2.2.2.2.2 :: Res.obj 79 v3 [.int .i64 q24.2.2.1, .int .i64 q24.2.2.2.1, .int .i64 q24.2.2.2.2.1, .int .i64 q24.2.2.2.2.2.1, v28] :: ow) := Hp.sel (pre := [Res.obj 74 v7 [.int .i64 s44.1, .int .i64 s44.2.1, v46], Res.map (fun x : ByteArray => Value.string x) v46 s44.2.2, Res.sl (Ek.pair (Ek.int .u8) (Ek.pair (Ek.int .u8) (Ek.pair Ek.bool Ek.str))) 31 v27 q24.1, Res.sl (Ek.pair Ek.str (Ek.pair Ek.bool (Ek.pair (Ek.int .i64) Ek.bool))) 81 v28 q24.2.2.2.2.2.2, Res.obj 79 v3 [.int .i64 q24.2.2.1, .int .i64 q24.2.2.2.1, .int .i64 q24.2.2.2.2.1, .int .i64 q24.2.2.2.2.2.1, v28]]) (tail := ow) (rs' := [Res.map (fun x : ByteArray => Value.string x) v46 s44.2.2, Res.obj 74 v7 [.int .i64 s44.1, .int .i64 s44.2.1, v46], Res.sl (Ek.pair (Ek.int .u8) (Ek.pair (Ek.int .u8) (Ek.pair Ek.bool Ek.str))) 31 v27 q24.1, Res.sl (Ek.pair Ek.str (Ek.pair Ek.bool (Ek.pair (Ek.int .i64) Ek.bool))) 81 v28 q24.2.2.2.2.2.2, Res.obj 79 v3 [.int .i64 q24.2.2.1, .int .i64 q24.2.2.2.1, .int .i64 q24.2.2.2.2.1, .int .i64 q24.2.2.2.2.2.1, v28]]) hp [1, 0, 2, 3, 4] (by decide) (by simp) rfl
  refine st_call hf (by decide) Try.func10 rfl rfl rfl rfl rfl (f_again_Receiver_Take_c _ _ _ _ _ _ _ _ _ hp50 hcall49) ?_
  rintro _ w ⟨v51, v52, rfl, hp0⟩
  clear hp; have hp := hp0; clear hp0
  replace hp : Hp _ _ _ (Res.sl Ek.str 9 v51 q48.1 :: Res.map (fun x : ByteArray => Value.string x) v52 q48.2.2.2.2.2 :: Res.obj 74 v7 [.int .i64 q48.2.2.2.1, .int .i64 q48.2.2.2.2.1, v52] :: Res.sl (Ek.pair (Ek.int .u8) (Ek.pair (Ek.int .u8) (Ek.pair Ek.bool Ek.str))) 31 v27 q24.1 :: Res.sl (Ek.pair Ek.str (Ek.pair Ek.bool (Ek.pair (Ek.int .i64) Ek.bool))) 81 v28 q24.2.2.2.2.2.2 :: Res.obj 79 v3 [.int .i64 q24.2.2.1, .int .i64 q24.2.2.2.1, .int .i64 q24.2.2.2.2.1, .int .i64 q24.2.2.2.2.2.1, v28] :: ow) := hp
  refine ⟨_, rfl, ?_⟩
  clear hf; intro a hf
  refine st_move hf rfl rfl (by decide) ?_
  clear hf; intro a ha hf; clear ha
  refine st_extract hf (by decide) rfl rfl rfl ?_
  clear hf; intro a ha hf; clear ha
  refine st_extract hf (by decide) rfl rfl rfl ?_
  clear hf; intro a ha hf; clear ha
  refine st_extract hf (by decide) rfl rfl rfl ?_
  clear hf; intro a ha hf; clear ha
  refine st_alloc (cs := [.int .u8 (0 : Int), .int .u8 (0 : Int), .bool false, .string ByteArray.empty]) (zv := .agg #[.int .u8 (0 : Int), .int .u8 (0 : Int), .bool false, .string ByteArray.empty]) hf (by decide) (by kernel_rfl) rfl hp rfl ?_
  clear hf; intro a w v55 hf hp0; clear hp; have hp := hp0; clear hp0
  replace hp : Hp _ _ _ (Res.obj 31 v55 [.int .u8 (0 : Int), .int .u8 (0 : Int), .bool false, .string ByteArray.empty] :: Res.sl Ek.str 9 v51 q48.1 :: Res.map (fun x : ByteArray => Value.string x) v52 q48.2.2.2.2.2 :: Res.obj 74 v7 [.int .i64 q48.2.2.2.1, .int .i64 q48.2.2.2.2.1, v52] :: Res.sl (Ek.pair (Ek.int .u8) (Ek.pair (Ek.int .u8) (Ek.pair Ek.bool Ek.str))) 31 v27 q24.1 :: Res.sl (Ek.pair Ek.str (Ek.pair Ek.bool (Ek.pair (Ek.int .i64) Ek.bool))) 81 v28 q24.2.2.2.2.2.2 :: Res.obj 79 v3 [.int .i64 q24.2.2.1, .int .i64 q24.2.2.2.1, .int .i64 q24.2.2.2.2.1, .int .i64 q24.2.2.2.2.2.1, v28] :: ow) := hp
  refine st_assign hf rfl rfl (by decide) ?_
  clear hf; intro a ha hf; clear ha
  refine st_stO (us := [.int .u8 q48.2.1.1, .int .u8 q48.2.1.2.1, .bool q48.2.1.2.2.1, .string q48.2.1.2.2.2]) hf hp (i := 0) rfl rfl rfl rfl rfl (by rfl) (by kernel_rfl) (Nat.le_of_ble_eq_true rfl) ?_
  clear hf; intro a w hf hp0; clear hp; have hp := hp0; clear hp0
  replace hp : Hp _ _ _ (Res.obj 31 v55 [.int .u8 q48.2.1.1, .int .u8 q48.2.1.2.1, .bool q48.2.1.2.2.1, .string q48.2.1.2.2.2] :: Res.sl Ek.str 9 v51 q48.1 :: Res.map (fun x : ByteArray => Value.string x) v52 q48.2.2.2.2.2 :: Res.obj 74 v7 [.int .i64 q48.2.2.2.1, .int .i64 q48.2.2.2.2.1, v52] :: Res.sl (Ek.pair (Ek.int .u8) (Ek.pair (Ek.int .u8) (Ek.pair Ek.bool Ek.str))) 31 v27 q24.1 :: Res.sl (Ek.pair Ek.str (Ek.pair Ek.bool (Ek.pair (Ek.int .i64) Ek.bool))) 81 v28 q24.2.2.2.2.2.2 :: Res.obj 79 v3 [.int .i64 q24.2.2.1, .int .i64 q24.2.2.2.1, .int .i64 q24.2.2.2.2.1, .int .i64 q24.2.2.2.2.2.1, v28] :: ow) := hp
  refine st_assign hf rfl rfl (by decide) ?_
  clear hf; intro a ha hf; clear ha
  refine st_nil hf ?_
  refine th_n ?_
  refine wp_seq ?_
  refine wp_reg ?_
  refine st_move hf rfl rfl (by decide) ?_
  clear hf; intro a ha hf; clear ha
  refine st_ieql hf (by decide) rfl rfl rfl ?_
  clear hf; intro a ha hf; clear ha
  refine st_move hf rfl rfl (by decide) ?_
  clear hf; intro a ha hf; clear ha
  refine wpList_cut 4 (fun a w => Fr 113 a [(1, v3), (3, v7), (8, v51), (9, optr v55 0), (80, .bool ((q48.2.2.1 == (0 : Int)) && ((q48.1.length : Int) == (1 : Int))))] ∧ Hp S w0 w (Res.obj 31 v55 [.int .u8 q48.2.1.1, .int .u8 q48.2.1.2.1, .bool q48.2.1.2.2.1, .string q48.2.1.2.2.2] :: Res.sl Ek.str 9 v51 q48.1 :: Res.map (fun x : ByteArray => Value.string x) v52 q48.2.2.2.2.2 :: Res.obj 74 v7 [.int .i64 q48.2.2.2.1, .int .i64 q48.2.2.2.2.1, v52] :: Res.sl (Ek.pair (Ek.int .u8) (Ek.pair (Ek.int .u8) (Ek.pair Ek.bool Ek.str))) 31 v27 q24.1 :: Res.sl (Ek.pair Ek.str (Ek.pair Ek.bool (Ek.pair (Ek.int .i64) Ek.bool))) 81 v28 q24.2.2.2.2.2.2 :: Res.obj 79 v3 [.int .i64 q24.2.2.1, .int .i64 q24.2.2.2.1, .int .i64 q24.2.2.2.2.1, .int .i64 q24.2.2.2.2.2.1, v28] :: ow)) ?_ ?_
  · rcases Bool.eq_false_or_eq_true (q48.2.2.1 == (0 : Int)) with hb58 | hb58
    · skip
      refine st_move hf (wantY hf rfl rfl hb58) rfl (by decide) ?_
      clear hf; intro a ha hf; clear ha
      refine st_len (E := Ek.str) hf (by decide) Try.underlying35 (wantY hf rfl rfl hb58) rfl (hp.sl (i := 1) rfl) ?_
      clear hf; intro a ha hf; clear ha
      refine st_ieql hf (by decide) (wantY hf rfl rfl hb58) rfl rfl ?_
      clear hf; intro a ha hf; clear ha
      refine st_pick (v := .bool ((q48.1.length : Int) == (1 : Int))) hf rfl rfl (fun hb' => ?_) (fun hb' => ?_) (by decide) ?_
      · rfl
      · exact absurd (hb58.symm.trans hb') (by decide)
      clear hf; intro a ha hf; clear ha
      refine st_nil hf (th_n ?_)
      exact ⟨hf.sub ⟨rfl, rfl, rfl, rfl, (by rw [hb58]; rfl), trivial⟩, hp⟩
    refine st_skip hf (wantN hf rfl rfl hb58) rfl (by decide) ?_ rfl
    clear hf; intro a hf
    refine st_skip hf (wantN hf rfl rfl hb58) rfl (by decide) ?_ rfl
    clear hf; intro a hf
    refine st_skip hf (wantN hf rfl rfl hb58) rfl (by decide) ?_ rfl
    clear hf; intro a hf
    refine st_pick (v := .bool false) hf rfl rfl (fun hb' => ?_) (fun hb' => ?_) (by decide) ?_
    · exact absurd (hb58.symm.trans hb') (by decide)
    · rfl
    clear hf; intro a ha hf; clear ha
    refine st_nil hf (th_n ?_)
    exact ⟨hf.sub ⟨rfl, rfl, rfl, rfl, (by rw [hb58]; rfl), trivial⟩, hp⟩
  rintro a w ⟨hf, hp⟩
  refine st_move hf rfl rfl (by decide) ?_
  clear hf; intro a ha hf; clear ha
  obtain ⟨z61, hz59, h⟩ := bnd h
  refine wpList_cut 5 (fun a w => Fr 113 a [(1, v3), (3, v7), (9, optr v55 0), (86, .bool z61)] ∧ Hp S w0 w (Res.obj 31 v55 [.int .u8 q48.2.1.1, .int .u8 q48.2.1.2.1, .bool q48.2.1.2.2.1, .string q48.2.1.2.2.2] :: Res.sl Ek.str 9 v51 q48.1 :: Res.map (fun x : ByteArray => Value.string x) v52 q48.2.2.2.2.2 :: Res.obj 74 v7 [.int .i64 q48.2.2.2.1, .int .i64 q48.2.2.2.2.1, v52] :: Res.sl (Ek.pair (Ek.int .u8) (Ek.pair (Ek.int .u8) (Ek.pair Ek.bool Ek.str))) 31 v27 q24.1 :: Res.sl (Ek.pair Ek.str (Ek.pair Ek.bool (Ek.pair (Ek.int .i64) Ek.bool))) 81 v28 q24.2.2.2.2.2.2 :: Res.obj 79 v3 [.int .i64 q24.2.2.1, .int .i64 q24.2.2.2.1, .int .i64 q24.2.2.2.2.1, .int .i64 q24.2.2.2.2.2.1, v28] :: ow)) ?_ ?_
  · rcases Bool.eq_false_or_eq_true ((q48.2.2.1 == (0 : Int)) && ((q48.1.length : Int) == (1 : Int))) with hb60 | hb60
    · skip
      replace hz59 := ifT hz59 hb60
      refine st_move hf (wantY hf rfl rfl hb60) rfl (by decide) ?_
      clear hf; intro a ha hf; clear ha
      obtain ⟨hc62, hz59⟩ := chk hz59
      refine st_index (E := Ek.str) hf (by decide) Try.underlying35 elt9 (wantY hf rfl rfl hb60) rfl rfl (hp.sl (i := 1) rfl) hc62.1 hc62.2 ?_
      clear hf; intro a ha hf; clear ha
      refine st_ldS hf (by decide) pl9 (wantY hf rfl rfl hb60) rfl (hp.sl (i := 1) rfl) hc62.1 hc62.2 ?_
      clear hf; intro a ha hf; clear ha
      refine st_seql hf (by decide) (wantY hf rfl rfl hb60) rfl rfl ?_
      clear hf; intro a ha hf; clear ha
      obtain rfl := Option.some.inj hz59
      refine st_pick (v := .bool (seq (gt q48.1 (0 : Int)) (ByteArray.mk #[97]))) hf rfl rfl (fun hb' => ?_) (fun hb' => ?_) (by decide) ?_
      · rfl
      · exact absurd (hb60.symm.trans hb') (by decide)
      clear hf; intro a ha hf; clear ha
      refine st_nil hf (th_n ?_)
      exact ⟨hf.sub ⟨rfl, rfl, rfl, rfl, trivial⟩, hp⟩
    replace hz59 := ifF hz59 hb60
    refine st_skip hf (wantN hf rfl rfl hb60) rfl (by decide) ?_ rfl
    clear hf; intro a hf
    refine st_skip hf (wantN hf rfl rfl hb60) rfl (by decide) ?_ rfl
    clear hf; intro a hf
    refine st_skip hf (wantN hf rfl rfl hb60) rfl (by decide) ?_ rfl
    clear hf; intro a hf
    refine st_skip hf (wantN hf rfl rfl hb60) rfl (by decide) ?_ rfl
    clear hf; intro a hf
    obtain rfl := Option.some.inj hz59
    refine st_pick (v := .bool false) hf rfl rfl (fun hb' => ?_) (fun hb' => ?_) (by decide) ?_
    · exact absurd (hb60.symm.trans hb') (by decide)
    · rfl
    clear hf; intro a ha hf; clear ha
    refine st_nil hf (th_n ?_)
    exact ⟨hf.sub ⟨rfl, rfl, rfl, rfl, trivial⟩, hp⟩
  rintro a w ⟨hf, hp⟩
  refine st_move hf rfl rfl (by decide) ?_
  clear hf; intro a ha hf; clear ha
  refine wpList_cut 4 (fun a w => Fr 113 a [(1, v3), (3, v7), (9, optr v55 0), (91, .bool (z61 && (q48.2.1.2.1 == (1 : Int))))] ∧ Hp S w0 w (Res.obj 31 v55 [.int .u8 q48.2.1.1, .int .u8 q48.2.1.2.1, .bool q48.2.1.2.2.1, .string q48.2.1.2.2.2] :: Res.sl Ek.str 9 v51 q48.1 :: Res.map (fun x : ByteArray => Value.string x) v52 q48.2.2.2.2.2 :: Res.obj 74 v7 [.int .i64 q48.2.2.2.1, .int .i64 q48.2.2.2.2.1, v52] :: Res.sl (Ek.pair (Ek.int .u8) (Ek.pair (Ek.int .u8) (Ek.pair Ek.bool Ek.str))) 31 v27 q24.1 :: Res.sl (Ek.pair Ek.str (Ek.pair Ek.bool (Ek.pair (Ek.int .i64) Ek.bool))) 81 v28 q24.2.2.2.2.2.2 :: Res.obj 79 v3 [.int .i64 q24.2.2.1, .int .i64 q24.2.2.2.1, .int .i64 q24.2.2.2.2.1, .int .i64 q24.2.2.2.2.2.1, v28] :: ow)) ?_ ?_
  · rcases Bool.eq_false_or_eq_true z61 with hb64 | hb64
    · skip
      refine st_fa (o' := 1) hf (by decide) (off := 1) (sz := 1) (by kernel_rfl) (by decide) (wantY hf rfl rfl hb64) rfl (hp.ob (i := 0) rfl) rfl ?_
      clear hf; intro a ha hf; clear ha
      refine st_ldO (u := .int .u8 q48.2.1.2.1) hf (by decide) pl5 (wantY hf rfl rfl hb64) rfl (hp.ob (i := 0) rfl) rfl ?_
      clear hf; intro a ha hf; clear ha
      refine st_ieql hf (by decide) (wantY hf rfl rfl hb64) rfl rfl ?_
      clear hf; intro a ha hf; clear ha
      refine st_pick (v := .bool (q48.2.1.2.1 == (1 : Int))) hf rfl rfl (fun hb' => ?_) (fun hb' => ?_) (by decide) ?_
      · rfl
      · exact absurd (hb64.symm.trans hb') (by decide)
      clear hf; intro a ha hf; clear ha
      refine st_nil hf (th_n ?_)
      exact ⟨hf.sub ⟨rfl, rfl, rfl, (by rw [hb64]; rfl), trivial⟩, hp⟩
    refine st_skip hf (wantN hf rfl rfl hb64) rfl (by decide) ?_ rfl
    clear hf; intro a hf
    refine st_skip hf (wantN hf rfl rfl hb64) rfl (by decide) ?_ rfl
    clear hf; intro a hf
    refine st_skip hf (wantN hf rfl rfl hb64) rfl (by decide) ?_ rfl
    clear hf; intro a hf
    refine st_pick (v := .bool false) hf rfl rfl (fun hb' => ?_) (fun hb' => ?_) (by decide) ?_
    · exact absurd (hb64.symm.trans hb') (by decide)
    · rfl
    clear hf; intro a ha hf; clear ha
    refine st_nil hf (th_n ?_)
    exact ⟨hf.sub ⟨rfl, rfl, rfl, (by rw [hb64]; rfl), trivial⟩, hp⟩
  rintro a w ⟨hf, hp⟩
  refine st_move hf rfl rfl (by decide) ?_
  clear hf; intro a ha hf; clear ha
  refine wpList_cut 4 (fun a w => Fr 113 a [(1, v3), (3, v7), (9, optr v55 0), (96, .bool ((z61 && (q48.2.1.2.1 == (1 : Int))) && (q48.2.1.1 == (2 : Int))))] ∧ Hp S w0 w (Res.obj 31 v55 [.int .u8 q48.2.1.1, .int .u8 q48.2.1.2.1, .bool q48.2.1.2.2.1, .string q48.2.1.2.2.2] :: Res.sl Ek.str 9 v51 q48.1 :: Res.map (fun x : ByteArray => Value.string x) v52 q48.2.2.2.2.2 :: Res.obj 74 v7 [.int .i64 q48.2.2.2.1, .int .i64 q48.2.2.2.2.1, v52] :: Res.sl (Ek.pair (Ek.int .u8) (Ek.pair (Ek.int .u8) (Ek.pair Ek.bool Ek.str))) 31 v27 q24.1 :: Res.sl (Ek.pair Ek.str (Ek.pair Ek.bool (Ek.pair (Ek.int .i64) Ek.bool))) 81 v28 q24.2.2.2.2.2.2 :: Res.obj 79 v3 [.int .i64 q24.2.2.1, .int .i64 q24.2.2.2.1, .int .i64 q24.2.2.2.2.1, .int .i64 q24.2.2.2.2.2.1, v28] :: ow)) ?_ ?_
  · rcases Bool.eq_false_or_eq_true (z61 && (q48.2.1.2.1 == (1 : Int))) with hb66 | hb66
    · skip
      refine st_fa (o' := 0) hf (by decide) (off := 0) (sz := 1) (by kernel_rfl) (by decide) (wantY hf rfl rfl hb66) rfl (hp.ob (i := 0) rfl) rfl ?_
      clear hf; intro a ha hf; clear ha
      refine st_ldO (u := .int .u8 q48.2.1.1) hf (by decide) pl5 (wantY hf rfl rfl hb66) rfl (hp.ob (i := 0) rfl) rfl ?_
      clear hf; intro a ha hf; clear ha
      refine st_ieql hf (by decide) (wantY hf rfl rfl hb66) rfl rfl ?_
      clear hf; intro a ha hf; clear ha
      refine st_pick (v := .bool (q48.2.1.1 == (2 : Int))) hf rfl rfl (fun hb' => ?_) (fun hb' => ?_) (by decide) ?_
      · rfl
      · exact absurd (hb66.symm.trans hb') (by decide)
      clear hf; intro a ha hf; clear ha
      refine st_nil hf (th_n ?_)
      exact ⟨hf.sub ⟨rfl, rfl, rfl, (by rw [hb66]; rfl), trivial⟩, hp⟩
    refine st_skip hf (wantN hf rfl rfl hb66) rfl (by decide) ?_ rfl
    clear hf; intro a hf
    refine st_skip hf (wantN hf rfl rfl hb66) rfl (by decide) ?_ rfl
    clear hf; intro a hf
    refine st_skip hf (wantN hf rfl rfl hb66) rfl (by decide) ?_ rfl
    clear hf; intro a hf
    refine st_pick (v := .bool false) hf rfl rfl (fun hb' => ?_) (fun hb' => ?_) (by decide) ?_
    · exact absurd (hb66.symm.trans hb') (by decide)
    · rfl
    clear hf; intro a ha hf; clear ha
    refine st_nil hf (th_n ?_)
    exact ⟨hf.sub ⟨rfl, rfl, rfl, (by rw [hb66]; rfl), trivial⟩, hp⟩
  rintro a w ⟨hf, hp⟩
  refine st_move hf rfl rfl (by decide) ?_
  clear hf; intro a ha hf; clear ha
  obtain ⟨z72, hz67, h⟩ := bnd h
  refine wpList_cut 5 (fun a w => ∃ (v69 : Value), Fr 113 a [(1, v3), (3, v7), (102, .bool z72.1)] ∧ Hp S w0 w (Res.sl (Ek.pair Ek.str (Ek.pair Ek.bool (Ek.pair (Ek.int .i64) Ek.bool))) 81 v69 z72.2.2.2.2.2 :: Res.obj 79 v3 [.int .i64 z72.2.1, .int .i64 z72.2.2.1, .int .i64 z72.2.2.2.1, .int .i64 z72.2.2.2.2.1, v69] :: Res.obj 74 v7 [.int .i64 q48.2.2.2.1, .int .i64 q48.2.2.2.2.1, v52] :: Res.map (fun x : ByteArray => Value.string x) v52 q48.2.2.2.2.2 :: ow)) ?_ ?_
  · rcases Bool.eq_false_or_eq_true ((z61 && (q48.2.1.2.1 == (1 : Int))) && (q48.2.1.1 == (2 : Int))) with hb68 | hb68
    · skip
      replace hz67 := ifT hz67 hb68
      refine st_move hf (wantY hf rfl rfl hb68) rfl (by decide) ?_
      clear hf; intro a ha hf; clear ha
      refine st_ldOA (m := 4) (us := [.int .u8 q48.2.1.1, .int .u8 q48.2.1.2.1, .bool q48.2.1.2.2.1, .string q48.2.1.2.2.2]) hf (by decide) (by kernel_rfl) (wantY hf rfl rfl hb68) rfl (hp.ob (i := 0) rfl) rfl rfl ?_
      clear hf; intro a ha hf; clear ha
      obtain ⟨q73, hcall74, hz67⟩ := bnd hz67
      have hp75 : Hp _ _ _ (Res.sl (Ek.pair Ek.str (Ek.pair Ek.bool (Ek.pair (Ek.int .i64) Ek.bool))) 81 v28 q24.2.2.2.2.2.2 :: Res.obj 79 v3 [.int .i64 q24.2.2.1, .int .i64 q24.2.2.2.1, .int .i64 q24.2.2.2.2.1, .int .i64 q24.2.2.2.2.2.1, v28] :: Res.obj 31 v55 [.int .u8 q48.2.1.1, .int .u8 q48.2.1.2.1, .bool q48.2.1.2.2.1, .string q48.2.1.2.2.2] :: Res.sl Ek.str 9 v51 q48.1 :: Res.map (fun x : ByteArray => Value.string x) v52 q48.2.2.2.2.2 :: Res.obj 74 v7 [.int .i64 q48.2.2.2.1, .int .i64 q48.2.2.2.2.1, v52] :: Res.sl (Ek.pair (Ek.int .u8) (Ek.pair (Ek.int .u8) (Ek.pair Ek.bool Ek.str))) 31 v27 q24.1 :: ow) := Hp.sel (pre := [Res.obj 31 v55 [.int .u8 q48.2.1.1, .int .u8 q48.2.1.2.1, .bool q48.2.1.2.2.1, .string q48.2.1.2.2.2], Res.sl Ek.str 9 v51 q48.1, Res.map (fun x : ByteArray => Value.string x) v52 q48.2.2.2.2.2, Res.obj 74 v7 [.int .i64 q48.2.2.2.1, .int .i64 q48.2.2.2.2.1, v52], Res.sl (Ek.pair (Ek.int .u8) (Ek.pair (Ek.int .u8) (Ek.pair Ek.bool Ek.str))) 31 v27 q24.1, Res.sl (Ek.pair Ek.str (Ek.pair Ek.bool (Ek.pair (Ek.int .i64) Ek.bool))) 81 v28 q24.2.2.2.2.2.2, Res.obj 79 v3 [.int .i64 q24.2.2.1, .int .i64 q24.2.2.2.1, .int .i64 q24.2.2.2.2.1, .int .i64 q24.2.2.2.2.2.1, v28]]) (tail := ow) (rs' := [Res.sl (Ek.pair Ek.str (Ek.pair Ek.bool (Ek.pair (Ek.int .i64) Ek.bool))) 81 v28 q24.2.2.2.2.2.2, Res.obj 79 v3 [.int .i64 q24.2.2.1, .int .i64 q24.2.2.2.1, .int .i64 q24.2.2.2.2.1, .int .i64 q24.2.2.2.2.2.1, v28], Res.obj 31 v55 [.int .u8 q48.2.1.1, .int .u8 q48.2.1.2.1, .bool q48.2.1.2.2.1, .string q48.2.1.2.2.2], Res.sl Ek.str 9 v51 q48.1, Res.map (fun x : ByteArray => Value.string x) v52 q48.2.2.2.2.2, Res.obj 74 v7 [.int .i64 q48.2.2.2.1, .int .i64 q48.2.2.2.2.1, v52], Res.sl (Ek.pair (Ek.int .u8) (Ek.pair (Ek.int .u8) (Ek.pair Ek.bool Ek.str))) 31 v27 q24.1]) hp [5, 6, 0, 1, 2, 3, 4] (by decide) (by simp) rfl
      refine st_call hf (by decide) Try.func23 rfl rfl (wantY hf rfl rfl hb68) rfl rfl (f_again_Sender_Hear_c _ _ _ _ _ _ _ _ _ _ _ hp75 hcall74) ?_
      rintro _ w ⟨v76, rfl, hp0⟩
      clear hp; have hp := hp0; clear hp0
      replace hp : Hp _ _ _ (Res.sl (Ek.pair Ek.str (Ek.pair Ek.bool (Ek.pair (Ek.int .i64) Ek.bool))) 81 v76 q73.2.2.2.2.2 :: Res.obj 79 v3 [.int .i64 q73.2.1, .int .i64 q73.2.2.1, .int .i64 q73.2.2.2.1, .int .i64 q73.2.2.2.2.1, v76] :: Res.obj 31 v55 [.int .u8 q48.2.1.1, .int .u8 q48.2.1.2.1, .bool q48.2.1.2.2.1, .string q48.2.1.2.2.2] :: Res.sl Ek.str 9 v51 q48.1 :: Res.map (fun x : ByteArray => Value.string x) v52 q48.2.2.2.2.2 :: Res.obj 74 v7 [.int .i64 q48.2.2.2.1, .int .i64 q48.2.2.2.2.1, v52] :: Res.sl (Ek.pair (Ek.int .u8) (Ek.pair (Ek.int .u8) (Ek.pair Ek.bool Ek.str))) 31 v27 q24.1 :: ow) := hp
      refine ⟨_, rfl, ?_⟩
      clear hf; intro a hf
      refine st_ieql hf (by decide) (wantY hf rfl rfl hb68) rfl rfl ?_
      clear hf; intro a ha hf; clear ha
      obtain rfl := Option.some.inj hz67
      have hp : Hp _ _ _ (Res.sl (Ek.pair Ek.str (Ek.pair Ek.bool (Ek.pair (Ek.int .i64) Ek.bool))) 81 v76 q73.2.2.2.2.2 :: Res.obj 79 v3 [.int .i64 q73.2.1, .int .i64 q73.2.2.1, .int .i64 q73.2.2.2.1, .int .i64 q73.2.2.2.2.1, v76] :: Res.obj 74 v7 [.int .i64 q48.2.2.2.1, .int .i64 q48.2.2.2.2.1, v52] :: Res.map (fun x : ByteArray => Value.string x) v52 q48.2.2.2.2.2 :: ow) := Hp.sel (pre := [Res.sl (Ek.pair Ek.str (Ek.pair Ek.bool (Ek.pair (Ek.int .i64) Ek.bool))) 81 v76 q73.2.2.2.2.2, Res.obj 79 v3 [.int .i64 q73.2.1, .int .i64 q73.2.2.1, .int .i64 q73.2.2.2.1, .int .i64 q73.2.2.2.2.1, v76], Res.obj 31 v55 [.int .u8 q48.2.1.1, .int .u8 q48.2.1.2.1, .bool q48.2.1.2.2.1, .string q48.2.1.2.2.2], Res.sl Ek.str 9 v51 q48.1, Res.map (fun x : ByteArray => Value.string x) v52 q48.2.2.2.2.2, Res.obj 74 v7 [.int .i64 q48.2.2.2.1, .int .i64 q48.2.2.2.2.1, v52], Res.sl (Ek.pair (Ek.int .u8) (Ek.pair (Ek.int .u8) (Ek.pair Ek.bool Ek.str))) 31 v27 q24.1]) (tail := ow) (rs' := [Res.sl (Ek.pair Ek.str (Ek.pair Ek.bool (Ek.pair (Ek.int .i64) Ek.bool))) 81 v76 q73.2.2.2.2.2, Res.obj 79 v3 [.int .i64 q73.2.1, .int .i64 q73.2.2.1, .int .i64 q73.2.2.2.1, .int .i64 q73.2.2.2.2.1, v76], Res.obj 74 v7 [.int .i64 q48.2.2.2.1, .int .i64 q48.2.2.2.2.1, v52], Res.map (fun x : ByteArray => Value.string x) v52 q48.2.2.2.2.2]) hp [0, 1, 5, 4] (by decide) (by simp) rfl
      refine st_pick (v := .bool (q73.1 == (0 : Int))) hf rfl rfl (fun hb' => ?_) (fun hb' => ?_) (by decide) ?_
      · rfl
      · exact absurd (hb68.symm.trans hb') (by decide)
      clear hf; intro a ha hf; clear ha
      refine st_nil hf (th_n ?_)
      exact ⟨_, hf.sub ⟨rfl, rfl, rfl, trivial⟩, hp⟩
    replace hz67 := ifF hz67 hb68
    refine st_skip hf (wantN hf rfl rfl hb68) rfl (by decide) ?_ rfl
    clear hf; intro a hf
    refine st_skip hf (wantN hf rfl rfl hb68) rfl (by decide) ?_ rfl
    clear hf; intro a hf
    refine st_skip hf (wantN hf rfl rfl hb68) rfl (by decide) ?_ rfl
    clear hf; intro a hf
    refine st_skip hf (wantN hf rfl rfl hb68) rfl (by decide) ?_ rfl
    clear hf; intro a hf
    obtain rfl := Option.some.inj hz67
    have hp : Hp _ _ _ (Res.sl (Ek.pair Ek.str (Ek.pair Ek.bool (Ek.pair (Ek.int .i64) Ek.bool))) 81 v28 q24.2.2.2.2.2.2 :: Res.obj 79 v3 [.int .i64 q24.2.2.1, .int .i64 q24.2.2.2.1, .int .i64 q24.2.2.2.2.1, .int .i64 q24.2.2.2.2.2.1, v28] :: Res.obj 74 v7 [.int .i64 q48.2.2.2.1, .int .i64 q48.2.2.2.2.1, v52] :: Res.map (fun x : ByteArray => Value.string x) v52 q48.2.2.2.2.2 :: ow) := Hp.sel (pre := [Res.obj 31 v55 [.int .u8 q48.2.1.1, .int .u8 q48.2.1.2.1, .bool q48.2.1.2.2.1, .string q48.2.1.2.2.2], Res.sl Ek.str 9 v51 q48.1, Res.map (fun x : ByteArray => Value.string x) v52 q48.2.2.2.2.2, Res.obj 74 v7 [.int .i64 q48.2.2.2.1, .int .i64 q48.2.2.2.2.1, v52], Res.sl (Ek.pair (Ek.int .u8) (Ek.pair (Ek.int .u8) (Ek.pair Ek.bool Ek.str))) 31 v27 q24.1, Res.sl (Ek.pair Ek.str (Ek.pair Ek.bool (Ek.pair (Ek.int .i64) Ek.bool))) 81 v28 q24.2.2.2.2.2.2, Res.obj 79 v3 [.int .i64 q24.2.2.1, .int .i64 q24.2.2.2.1, .int .i64 q24.2.2.2.2.1, .int .i64 q24.2.2.2.2.2.1, v28]]) (tail := ow) (rs' := [Res.sl (Ek.pair Ek.str (Ek.pair Ek.bool (Ek.pair (Ek.int .i64) Ek.bool))) 81 v28 q24.2.2.2.2.2.2, Res.obj 79 v3 [.int .i64 q24.2.2.1, .int .i64 q24.2.2.2.1, .int .i64 q24.2.2.2.2.1, .int .i64 q24.2.2.2.2.2.1, v28], Res.obj 74 v7 [.int .i64 q48.2.2.2.1, .int .i64 q48.2.2.2.2.1, v52], Res.map (fun x : ByteArray => Value.string x) v52 q48.2.2.2.2.2]) hp [5, 6, 3, 2] (by decide) (by simp) rfl
    refine st_pick (v := .bool false) hf rfl rfl (fun hb' => ?_) (fun hb' => ?_) (by decide) ?_
    · exact absurd (hb68.symm.trans hb') (by decide)
    · rfl
    clear hf; intro a ha hf; clear ha
    refine st_nil hf (th_n ?_)
    exact ⟨_, hf.sub ⟨rfl, rfl, rfl, trivial⟩, hp⟩
  rintro a w ⟨v69, hf, hp⟩
  refine st_move hf rfl rfl (by decide) ?_
  clear hf; intro a ha hf; clear ha
  obtain ⟨z80, hz78, h⟩ := bnd h
  refine wpList_cut 4 (fun a w => Fr 113 a [(3, v7), (107, .bool z80)] ∧ Hp S w0 w (Res.sl (Ek.pair Ek.str (Ek.pair Ek.bool (Ek.pair (Ek.int .i64) Ek.bool))) 81 v69 z72.2.2.2.2.2 :: Res.obj 79 v3 [.int .i64 z72.2.1, .int .i64 z72.2.2.1, .int .i64 z72.2.2.2.1, .int .i64 z72.2.2.2.2.1, v69] :: Res.obj 74 v7 [.int .i64 q48.2.2.2.1, .int .i64 q48.2.2.2.2.1, v52] :: Res.map (fun x : ByteArray => Value.string x) v52 q48.2.2.2.2.2 :: ow)) ?_ ?_
  · rcases Bool.eq_false_or_eq_true z72.1 with hb79 | hb79
    · skip
      replace hz78 := ifT hz78 hb79
      refine st_move hf (wantY hf rfl rfl hb79) rfl (by decide) ?_
      clear hf; intro a ha hf; clear ha
      obtain ⟨q81, hcall82, hz78⟩ := bnd hz78
      obtain ⟨S83, hp84, rd85, up86, bk87⟩ := Hp.lendS hp (i := 0) rfl
      obtain ⟨S88, hp89, rd90, up91, bk92⟩ := Hp.lendO hp84 (i := 0) rfl
      refine st_call hf (by decide) Try.func25 rfl rfl (wantY hf rfl rfl hb79) rfl rfl (f_again_Sender_Left_c hp89 _ _ _ _ _ _ ((rd85.now hp84).mono up91) _ rd90 hcall82) ?_
      rintro _ w ⟨rfl, hp0⟩
      have hp0 := bk92 _ _ hp0
      have hp0 := bk87 _ _ hp0
      clear hp; have hp := hp0; clear hp0
      replace hp : Hp _ _ _ (Res.sl (Ek.pair Ek.str (Ek.pair Ek.bool (Ek.pair (Ek.int .i64) Ek.bool))) 81 v69 z72.2.2.2.2.2 :: Res.obj 79 v3 [.int .i64 z72.2.1, .int .i64 z72.2.2.1, .int .i64 z72.2.2.2.1, .int .i64 z72.2.2.2.2.1, v69] :: Res.obj 74 v7 [.int .i64 q48.2.2.2.1, .int .i64 q48.2.2.2.2.1, v52] :: Res.map (fun x : ByteArray => Value.string x) v52 q48.2.2.2.2.2 :: ow) := hp
      refine ⟨_, rfl, ?_⟩
      clear hf; intro a hf
      refine st_ieql hf (by decide) (wantY hf rfl rfl hb79) rfl rfl ?_
      clear hf; intro a ha hf; clear ha
      obtain rfl := Option.some.inj hz78
      refine st_pick (v := .bool (q81 == (0 : Int))) hf rfl rfl (fun hb' => ?_) (fun hb' => ?_) (by decide) ?_
      · rfl
      · exact absurd (hb79.symm.trans hb') (by decide)
      clear hf; intro a ha hf; clear ha
      refine st_nil hf (th_n ?_)
      exact ⟨hf.sub ⟨rfl, rfl, trivial⟩, hp⟩
    replace hz78 := ifF hz78 hb79
    refine st_skip hf (wantN hf rfl rfl hb79) rfl (by decide) ?_ rfl
    clear hf; intro a hf
    refine st_skip hf (wantN hf rfl rfl hb79) rfl (by decide) ?_ rfl
    clear hf; intro a hf
    refine st_skip hf (wantN hf rfl rfl hb79) rfl (by decide) ?_ rfl
    clear hf; intro a hf
    obtain rfl := Option.some.inj hz78
    refine st_pick (v := .bool false) hf rfl rfl (fun hb' => ?_) (fun hb' => ?_) (by decide) ?_
    · exact absurd (hb79.symm.trans hb') (by decide)
    · rfl
    clear hf; intro a ha hf; clear ha
    refine st_nil hf (th_n ?_)
    exact ⟨hf.sub ⟨rfl, rfl, trivial⟩, hp⟩
  rintro a w ⟨hf, hp⟩
  refine st_move hf rfl rfl (by decide) ?_
  clear hf; intro a ha hf; clear ha
  obtain ⟨z95, hz93, h⟩ := bnd h
  refine wpList_cut 4 (fun a w => Fr 113 a [(112, .bool z95)] ∧ Hp S w0 w (Res.sl (Ek.pair Ek.str (Ek.pair Ek.bool (Ek.pair (Ek.int .i64) Ek.bool))) 81 v69 z72.2.2.2.2.2 :: Res.obj 79 v3 [.int .i64 z72.2.1, .int .i64 z72.2.2.1, .int .i64 z72.2.2.2.1, .int .i64 z72.2.2.2.2.1, v69] :: Res.obj 74 v7 [.int .i64 q48.2.2.2.1, .int .i64 q48.2.2.2.2.1, v52] :: Res.map (fun x : ByteArray => Value.string x) v52 q48.2.2.2.2.2 :: ow)) ?_ ?_
  · rcases Bool.eq_false_or_eq_true z80 with hb94 | hb94
    · skip
      replace hz93 := ifT hz93 hb94
      refine st_move hf (wantY hf rfl rfl hb94) rfl (by decide) ?_
      clear hf; intro a ha hf; clear ha
      obtain ⟨q96, hcall97, hz93⟩ := bnd hz93
      obtain ⟨S98, hp99, rd100, up101, bk102⟩ := Hp.lendO hp (i := 2) rfl
      refine st_call hf (by decide) Try.func14 rfl rfl (wantY hf rfl rfl hb94) rfl rfl (f_again_Receiver_Handed_c hp99 _ _ _ _ rd100 hcall97) ?_
      rintro _ w ⟨rfl, hp0⟩
      have hp0 := bk102 _ _ hp0
      clear hp; have hp := hp0; clear hp0
      replace hp : Hp _ _ _ (Res.obj 74 v7 [.int .i64 q48.2.2.2.1, .int .i64 q48.2.2.2.2.1, v52] :: Res.sl (Ek.pair Ek.str (Ek.pair Ek.bool (Ek.pair (Ek.int .i64) Ek.bool))) 81 v69 z72.2.2.2.2.2 :: Res.obj 79 v3 [.int .i64 z72.2.1, .int .i64 z72.2.2.1, .int .i64 z72.2.2.2.1, .int .i64 z72.2.2.2.2.1, v69] :: Res.map (fun x : ByteArray => Value.string x) v52 q48.2.2.2.2.2 :: ow) := hp
      refine ⟨_, rfl, ?_⟩
      clear hf; intro a hf
      refine st_ieql hf (by decide) (wantY hf rfl rfl hb94) rfl rfl ?_
      clear hf; intro a ha hf; clear ha
      obtain rfl := Option.some.inj hz93
      refine st_pick (v := .bool (q96 == (1 : Int))) hf rfl rfl (fun hb' => ?_) (fun hb' => ?_) (by decide) ?_
      · rfl
      · exact absurd (hb94.symm.trans hb') (by decide)
      clear hf; intro a ha hf; clear ha
      refine st_nil hf (th_n ?_)
      have hp : Hp _ _ _ (Res.sl (Ek.pair Ek.str (Ek.pair Ek.bool (Ek.pair (Ek.int .i64) Ek.bool))) 81 v69 z72.2.2.2.2.2 :: Res.obj 79 v3 [.int .i64 z72.2.1, .int .i64 z72.2.2.1, .int .i64 z72.2.2.2.1, .int .i64 z72.2.2.2.2.1, v69] :: Res.obj 74 v7 [.int .i64 q48.2.2.2.1, .int .i64 q48.2.2.2.2.1, v52] :: Res.map (fun x : ByteArray => Value.string x) v52 q48.2.2.2.2.2 :: ow) := Hp.sel (pre := [Res.obj 74 v7 [.int .i64 q48.2.2.2.1, .int .i64 q48.2.2.2.2.1, v52], Res.sl (Ek.pair Ek.str (Ek.pair Ek.bool (Ek.pair (Ek.int .i64) Ek.bool))) 81 v69 z72.2.2.2.2.2, Res.obj 79 v3 [.int .i64 z72.2.1, .int .i64 z72.2.2.1, .int .i64 z72.2.2.2.1, .int .i64 z72.2.2.2.2.1, v69], Res.map (fun x : ByteArray => Value.string x) v52 q48.2.2.2.2.2]) (tail := ow) (rs' := [Res.sl (Ek.pair Ek.str (Ek.pair Ek.bool (Ek.pair (Ek.int .i64) Ek.bool))) 81 v69 z72.2.2.2.2.2, Res.obj 79 v3 [.int .i64 z72.2.1, .int .i64 z72.2.2.1, .int .i64 z72.2.2.2.1, .int .i64 z72.2.2.2.2.1, v69], Res.obj 74 v7 [.int .i64 q48.2.2.2.1, .int .i64 q48.2.2.2.2.1, v52], Res.map (fun x : ByteArray => Value.string x) v52 q48.2.2.2.2.2]) hp [1, 2, 0, 3] (by decide) (by simp) rfl
      exact ⟨hf.sub ⟨rfl, trivial⟩, hp⟩
    replace hz93 := ifF hz93 hb94
    refine st_skip hf (wantN hf rfl rfl hb94) rfl (by decide) ?_ rfl
    clear hf; intro a hf
    refine st_skip hf (wantN hf rfl rfl hb94) rfl (by decide) ?_ rfl
    clear hf; intro a hf
    refine st_skip hf (wantN hf rfl rfl hb94) rfl (by decide) ?_ rfl
    clear hf; intro a hf
    obtain rfl := Option.some.inj hz93
    refine st_pick (v := .bool false) hf rfl rfl (fun hb' => ?_) (fun hb' => ?_) (by decide) ?_
    · exact absurd (hb94.symm.trans hb') (by decide)
    · rfl
    clear hf; intro a ha hf; clear ha
    refine st_nil hf (th_n ?_)
    exact ⟨hf.sub ⟨rfl, trivial⟩, hp⟩
  rintro a w ⟨hf, hp⟩
  refine st_assign hf rfl rfl (by decide) ?_
  clear hf; intro a ha hf; clear ha
  refine st_nil hf ?_
  refine th_n ?_
  refine wp_ret ?_
  obtain rfl := Option.some.inj h
  have hp : Hp _ _ _ (ow) := Hp.sel (pre := [Res.sl (Ek.pair Ek.str (Ek.pair Ek.bool (Ek.pair (Ek.int .i64) Ek.bool))) 81 v69 z72.2.2.2.2.2, Res.obj 79 v3 [.int .i64 z72.2.1, .int .i64 z72.2.2.1, .int .i64 z72.2.2.2.1, .int .i64 z72.2.2.2.2.1, v69], Res.obj 74 v7 [.int .i64 q48.2.2.2.1, .int .i64 q48.2.2.2.2.1, v52], Res.map (fun x : ByteArray => Value.string x) v52 q48.2.2.2.2.2]) (tail := ow) (rs' := []) hp [] (by decide) (by simp) rfl
  exact ⟨rfl, ⟨hf.sub ⟨rfl, trivial⟩, hp⟩⟩

noncomputable def f_again_Sender_Tick_19 (now1 : Int) : Option ((List (Int × Int × Bool × ByteArray)) × Int) := (some ([], (2 : Int)))
theorem f_again_Sender_Tick_19_c {S : Nat → Prop} {w0 w : World} {ow : List Res} (hp : Hp S w0 w ow) (now1 : Int) {r : ((List (Int × Int × Bool × ByteArray)) × Int)} (h : f_again_Sender_Tick_19 now1 = some r) :
    Calls Try.prog 19 #[.pointer none, .int .i64 now1] w (fun e w' => ∃ (u0 : Value), e = .returned (.tuple #[u0, .int .i64 r.2]) ∧ Hp S w0 w' (Res.sl (Ek.pair (Ek.int .u8) (Ek.pair (Ek.int .u8) (Ek.pair Ek.bool Ek.str))) 31 u0 r.1 :: ow)) := by
  unfold f_again_Sender_Tick_19 at h
  refine enter (n := 69) (args := [.pointer none, .int .i64 now1]) Try.func19 rfl rfl (Nat.le_of_ble_eq_true rfl) fun a hf => ?_
  replace hf : Fr 69 a [(0, .pointer none), (1, .int .i64 now1)] := hf
  refine wp_mono (Q := fun e a w => e = .ret ∧ ∃ (u0 : Value), Fr 69 a [(4, u0), (5, .int .i64 r.2)] ∧ Hp S w0 w (Res.sl (Ek.pair (Ek.int .u8) (Ek.pair (Ek.int .u8) (Ek.pair Ek.bool Ek.str))) 31 u0 r.1 :: ow)) ?_ ?_
  rotate_left
  · rintro e a w ⟨rfl, x0, hf, hp⟩
    exact ret2 hf rfl rfl rfl ⟨x0, rfl, hp⟩
  refine wp_seq ?_
  refine wp_reg ?_
  refine st_boxO (cs := [.pointer none]) hf (by decide) hp rfl rfl rfl ?_
  clear hf; intro a w v1 hf hp0; clear hp; have hp := hp0; clear hp0
  replace hp : Hp _ _ _ (Res.obj 44 v1 [.pointer none] :: ow) := hp
  refine st_boxO (cs := [.int .i64 now1]) hf (by decide) hp rfl rfl rfl ?_
  clear hf; intro a w v3 hf hp0; clear hp; have hp := hp0; clear hp0
  replace hp : Hp _ _ _ (Res.obj 2 v3 [.int .i64 now1] :: Res.obj 44 v1 [.pointer none] :: ow) := hp
  refine st_assign hf rfl rfl (by decide) ?_
  clear hf; intro a ha hf; clear ha
  refine st_assign hf rfl rfl (by decide) ?_
  clear hf; intro a ha hf; clear ha
  refine st_nil hf ?_
  refine th_n ?_
  refine wp_seq ?_
  refine wp_seq ?_
  refine wp_reg ?_
  refine st_ldO (u := .pointer none) hf (by decide) pl44 rfl rfl (hp.ob (i := 1) rfl) rfl ?_
  clear hf; intro a ha hf; clear ha
  refine st_peql hf (by decide) Try.underlying44 rfl rfl rfl nilT ?_
  clear hf; intro a ha hf; clear ha
  refine st_nil hf ?_
  refine th_n ?_
  refine wp_if hf rfl (fun hb => ?_) (fun hb => ?_)
  rotate_left
  · exact absurd hb (by decide)
  refine wp_seq ?_
  refine wp_reg ?_
  refine st_assign hf rfl rfl (by decide) ?_
  clear hf; intro a ha hf; clear ha
  refine st_assign hf rfl rfl (by decide) ?_
  clear hf; intro a ha hf; clear ha
  refine st_nil hf ?_
  refine th_n ?_
  refine wp_ret ?_
  refine th_r ?_
  obtain rfl := Option.some.inj h
  have hp := hp.nil (Ek.pair (Ek.int .u8) (Ek.pair (Ek.int .u8) (Ek.pair Ek.bool Ek.str))) 31
  have hp : Hp _ _ _ (Res.sl (Ek.pair (Ek.int .u8) (Ek.pair (Ek.int .u8) (Ek.pair Ek.bool Ek.str))) 31 (.slice none 0 0) ([]) :: ow) := Hp.sel (pre := [Res.sl (Ek.pair (Ek.int .u8) (Ek.pair (Ek.int .u8) (Ek.pair Ek.bool Ek.str))) 31 (.slice none 0 0) ([]), Res.obj 2 v3 [.int .i64 now1], Res.obj 44 v1 [.pointer none]]) (tail := ow) (rs' := [Res.sl (Ek.pair (Ek.int .u8) (Ek.pair (Ek.int .u8) (Ek.pair Ek.bool Ek.str))) 31 (.slice none 0 0) ([])]) hp [0] (by decide) (by simp) rfl
  exact ⟨rfl, ⟨_, hf.sub ⟨rfl, rfl, trivial⟩, hp⟩⟩

noncomputable def f_again_Receiver_Take_10 (f1_Kind : Int) (f1_Number : Int) (f1_More : Bool) (f1_Body : ByteArray) : Option ((List ByteArray) × (Int × Int × Bool × ByteArray) × Int) := (some ([], ((0 : Int), (0 : Int), false, ByteArray.empty), (2 : Int)))
theorem f_again_Receiver_Take_10_c {S : Nat → Prop} {w0 w : World} {ow : List Res} (hp : Hp S w0 w ow) (f1_Kind : Int) (f1_Number : Int) (f1_More : Bool) (f1_Body : ByteArray) {r : ((List ByteArray) × (Int × Int × Bool × ByteArray) × Int)} (h : f_again_Receiver_Take_10 f1_Kind f1_Number f1_More f1_Body = some r) :
    Calls Try.prog 10 #[.pointer none, .agg #[.int .u8 f1_Kind, .int .u8 f1_Number, .bool f1_More, .string f1_Body]] w (fun e w' => ∃ (u0 : Value), e = .returned (.tuple #[u0, .agg #[.int .u8 r.2.1.1, .int .u8 r.2.1.2.1, .bool r.2.1.2.2.1, .string r.2.1.2.2.2], .int .i64 r.2.2]) ∧ Hp S w0 w' (Res.sl Ek.str 9 u0 r.1 :: ow)) := by
  unfold f_again_Receiver_Take_10 at h
  refine enter (n := 147) (args := [.pointer none, .agg #[.int .u8 f1_Kind, .int .u8 f1_Number, .bool f1_More, .string f1_Body]]) Try.func10 rfl rfl (Nat.le_of_ble_eq_true rfl) fun a hf => ?_
  replace hf : Fr 147 a [(0, .pointer none), (1, .agg #[.int .u8 f1_Kind, .int .u8 f1_Number, .bool f1_More, .string f1_Body])] := hf
  refine wp_mono (Q := fun e a w => e = .ret ∧ ∃ (u0 : Value) (c1 : Value), Fr 147 a [(4, u0), (5, optr c1 0), (6, .int .i64 r.2.2)] ∧ Hp S w0 w (Res.obj 31 c1 [.int .u8 r.2.1.1, .int .u8 r.2.1.2.1, .bool r.2.1.2.2.1, .string r.2.1.2.2.2] :: Res.sl Ek.str 9 u0 r.1 :: ow)) ?_ ?_
  rotate_left
  · rintro e a w ⟨rfl, x0, c1, hf, hp⟩
    exact retG3 hf rfl rfl ⟨_, _, rfl, hp.ob (i := 0) rfl, .inr ⟨by kernel_rfl, rfl⟩⟩ rfl ⟨x0, rfl, hp.drop⟩
  refine wp_seq ?_
  refine wp_reg ?_
  refine st_boxO (cs := [.int .u8 f1_Kind, .int .u8 f1_Number, .bool f1_More, .string f1_Body]) hf (by decide) hp rfl rfl rfl ?_
  clear hf; intro a w v1 hf hp0; clear hp; have hp := hp0; clear hp0
  replace hp : Hp _ _ _ (Res.obj 31 v1 [.int .u8 f1_Kind, .int .u8 f1_Number, .bool f1_More, .string f1_Body] :: ow) := hp
  refine st_assign hf rfl rfl (by decide) ?_
  clear hf; intro a ha hf; clear ha
  refine st_alloc (cs := [.int .u8 (0 : Int), .int .u8 (0 : Int), .bool false, .string ByteArray.empty]) (zv := .agg #[.int .u8 (0 : Int), .int .u8 (0 : Int), .bool false, .string ByteArray.empty]) hf (by decide) (by kernel_rfl) rfl hp rfl ?_
  clear hf; intro a w v3 hf hp0; clear hp; have hp := hp0; clear hp0
  replace hp : Hp _ _ _ (Res.obj 31 v3 [.int .u8 (0 : Int), .int .u8 (0 : Int), .bool false, .string ByteArray.empty] :: Res.obj 31 v1 [.int .u8 f1_Kind, .int .u8 f1_Number, .bool f1_More, .string f1_Body] :: ow) := hp
  refine st_assign hf rfl rfl (by decide) ?_
  clear hf; intro a ha hf; clear ha
  refine st_nil hf ?_
  refine th_n ?_
  refine wp_seq ?_
  refine wp_seq ?_
  refine wp_reg ?_
  refine st_move hf rfl rfl (by decide) ?_
  clear hf; intro a ha hf; clear ha
  refine st_peql hf (by decide) Try.underlying23 rfl rfl rfl nilT ?_
  clear hf; intro a ha hf; clear ha
  refine st_nil hf ?_
  refine th_n ?_
  refine wp_if hf rfl (fun hb => ?_) (fun hb => ?_)
  rotate_left
  · exact absurd hb (by decide)
  refine wp_seq ?_
  refine wp_reg ?_
  refine st_buildA (vals := []) (cells := [.int .u8 (0 : Int), .int .u8 (0 : Int), .bool false, .string ByteArray.empty]) hf (by decide) rfl (by simp []) (fun w => by kernel_rfl) ?_
  clear hf; intro a ha hf; clear ha
  refine st_assign hf rfl rfl (by decide) ?_
  clear hf; intro a ha hf; clear ha
  refine st_stO (us := [.int .u8 (0 : Int), .int .u8 (0 : Int), .bool false, .string ByteArray.empty]) hf hp (i := 0) rfl rfl rfl rfl rfl (by rfl) (by kernel_rfl) (Nat.le_of_ble_eq_true rfl) ?_
  clear hf; intro a w hf hp0; clear hp; have hp := hp0; clear hp0
  replace hp : Hp _ _ _ (Res.obj 31 v3 [.int .u8 (0 : Int), .int .u8 (0 : Int), .bool false, .string ByteArray.empty] :: Res.obj 31 v1 [.int .u8 f1_Kind, .int .u8 f1_Number, .bool f1_More, .string f1_Body] :: ow) := hp
  refine st_assign hf rfl rfl (by decide) ?_
  clear hf; intro a ha hf; clear ha
  refine st_nil hf ?_
  refine th_n ?_
  refine wp_ret ?_
  refine th_r ?_
  obtain rfl := Option.some.inj h
  have hp := hp.nil Ek.str 9
  have hp : Hp _ _ _ (Res.obj 31 v3 [.int .u8 (0 : Int), .int .u8 (0 : Int), .bool false, .string ByteArray.empty] :: Res.sl Ek.str 9 (.slice none 0 0) ([]) :: ow) := Hp.sel (pre := [Res.sl Ek.str 9 (.slice none 0 0) ([]), Res.obj 31 v3 [.int .u8 (0 : Int), .int .u8 (0 : Int), .bool false, .string ByteArray.empty], Res.obj 31 v1 [.int .u8 f1_Kind, .int .u8 f1_Number, .bool f1_More, .string f1_Body]]) (tail := ow) (rs' := [Res.obj 31 v3 [.int .u8 (0 : Int), .int .u8 (0 : Int), .bool false, .string ByteArray.empty], Res.sl Ek.str 9 (.slice none 0 0) ([])]) hp [1, 0] (by decide) (by simp) rfl
  exact ⟨rfl, ⟨_, _, hf.sub ⟨rfl, rfl, rfl, trivial⟩, hp⟩⟩

noncomputable def f_again_Sender_Offer_17 (body1 : ByteArray) : Option Int := (some (2 : Int))
theorem f_again_Sender_Offer_17_c {S : Nat → Prop} {w0 w : World} {ow : List Res} (hp : Hp S w0 w ow) (body1 : ByteArray) {r : Int} (h : f_again_Sender_Offer_17 body1 = some r) :
    Calls Try.prog 17 #[.pointer none, .string body1] w (fun e w' => e = .returned (.int .i64 r) ∧ Hp S w0 w' (ow)) := by
  unfold f_again_Sender_Offer_17 at h
  refine enter (n := 30) (args := [.pointer none, .string body1]) Try.func17 rfl rfl (Nat.le_of_ble_eq_true rfl) fun a hf => ?_
  replace hf : Fr 30 a [(0, .pointer none), (1, .string body1)] := hf
  refine wp_mono (Q := fun e a w => e = .ret ∧ Fr 30 a [(4, .int .i64 r)] ∧ Hp S w0 w (ow)) ?_ ?_
  rotate_left
  · rintro e a w ⟨rfl, hf, hp⟩
    exact ret1 hf rfl rfl ⟨rfl, hp⟩
  refine wp_seq ?_
  refine wp_reg ?_
  refine st_assign hf rfl rfl (by decide) ?_
  clear hf; intro a ha hf; clear ha
  refine st_nil hf ?_
  refine th_n ?_
  refine wp_seq ?_
  refine wp_block ?_
  refine wp_seq ?_
  refine wp_reg ?_
  refine st_move hf rfl rfl (by decide) ?_
  clear hf; intro a ha hf; clear ha
  refine st_peql hf (by decide) Try.underlying44 rfl rfl rfl nilT ?_
  clear hf; intro a ha hf; clear ha
  refine st_assign hf rfl rfl (by decide) ?_
  clear hf; intro a ha hf; clear ha
  refine st_nil hf ?_
  refine th_n ?_
  refine wp_if hf rfl (fun hb => ?_) (fun hb => ?_)
  rotate_left
  · exact absurd hb (by decide)
  refine wp_seq ?_
  refine wp_reg ?_
  refine st_assign hf rfl rfl (by decide) ?_
  clear hf; intro a ha hf; clear ha
  refine st_nil hf ?_
  refine th_n ?_
  refine wp_ret ?_
  refine ib_r ?_
  refine th_r ?_
  obtain rfl := Option.some.inj h
  exact ⟨rfl, ⟨hf.sub ⟨rfl, trivial⟩, hp⟩⟩

noncomputable def f_again_Sender_Hear_23 (f1_Kind : Int) (f1_Number : Int) (f1_More : Bool) (f1_Body : ByteArray) : Option Int := (some (2 : Int))
theorem f_again_Sender_Hear_23_c {S : Nat → Prop} {w0 w : World} {ow : List Res} (hp : Hp S w0 w ow) (f1_Kind : Int) (f1_Number : Int) (f1_More : Bool) (f1_Body : ByteArray) {r : Int} (h : f_again_Sender_Hear_23 f1_Kind f1_Number f1_More f1_Body = some r) :
    Calls Try.prog 23 #[.pointer none, .agg #[.int .u8 f1_Kind, .int .u8 f1_Number, .bool f1_More, .string f1_Body]] w (fun e w' => e = .returned (.int .i64 r) ∧ Hp S w0 w' (ow)) := by
  unfold f_again_Sender_Hear_23 at h
  refine enter (n := 126) (args := [.pointer none, .agg #[.int .u8 f1_Kind, .int .u8 f1_Number, .bool f1_More, .string f1_Body]]) Try.func23 rfl rfl (Nat.le_of_ble_eq_true rfl) fun a hf => ?_
  replace hf : Fr 126 a [(0, .pointer none), (1, .agg #[.int .u8 f1_Kind, .int .u8 f1_Number, .bool f1_More, .string f1_Body])] := hf
  refine wp_mono (Q := fun e a w => e = .ret ∧ Fr 126 a [(4, .int .i64 r)] ∧ Hp S w0 w (ow)) ?_ ?_
  rotate_left
  · rintro e a w ⟨rfl, hf, hp⟩
    exact ret1 hf rfl rfl ⟨rfl, hp⟩
  refine wp_seq ?_
  refine wp_reg ?_
  refine st_boxO (cs := [.int .u8 f1_Kind, .int .u8 f1_Number, .bool f1_More, .string f1_Body]) hf (by decide) hp rfl rfl rfl ?_
  clear hf; intro a w v1 hf hp0; clear hp; have hp := hp0; clear hp0
  replace hp : Hp _ _ _ (Res.obj 31 v1 [.int .u8 f1_Kind, .int .u8 f1_Number, .bool f1_More, .string f1_Body] :: ow) := hp
  refine st_assign hf rfl rfl (by decide) ?_
  clear hf; intro a ha hf; clear ha
  refine st_nil hf ?_
  refine th_n ?_
  refine wp_seq ?_
  refine wp_seq ?_
  refine wp_reg ?_
  refine st_move hf rfl rfl (by decide) ?_
  clear hf; intro a ha hf; clear ha
  refine st_peql hf (by decide) Try.underlying44 rfl rfl rfl nilT ?_
  clear hf; intro a ha hf; clear ha
  refine st_nil hf ?_
  refine th_n ?_
  refine wp_if hf rfl (fun hb => ?_) (fun hb => ?_)
  rotate_left
  · exact absurd hb (by decide)
  refine wp_seq ?_
  refine wp_reg ?_
  refine st_assign hf rfl rfl (by decide) ?_
  clear hf; intro a ha hf; clear ha
  refine st_nil hf ?_
  refine th_n ?_
  refine wp_ret ?_
  refine th_r ?_
  obtain rfl := Option.some.inj h
  have hp : Hp _ _ _ (ow) := Hp.sel (pre := [Res.obj 31 v1 [.int .u8 f1_Kind, .int .u8 f1_Number, .bool f1_More, .string f1_Body]]) (tail := ow) (rs' := []) hp [] (by decide) (by simp) rfl
  exact ⟨rfl, ⟨hf.sub ⟨rfl, trivial⟩, hp⟩⟩

noncomputable def f_again_Sender_Left_25  : Option Int := (some (0 : Int))
theorem f_again_Sender_Left_25_c {S : Nat → Prop} {w0 w : World} {ow : List Res} (hp : Hp S w0 w ow) {r : Int} (h : f_again_Sender_Left_25 = some r) :
    Calls Try.prog 25 #[.pointer none] w (fun e w' => e = .returned (.int .i64 r) ∧ Hp S w0 w' (ow)) := by
  unfold f_again_Sender_Left_25 at h
  refine enter (n := 10) (args := [.pointer none]) Try.func25 rfl rfl (Nat.le_of_ble_eq_true rfl) fun a hf => ?_
  replace hf : Fr 10 a [(0, .pointer none)] := hf
  refine wp_mono (Q := fun e a w => e = .ret ∧ Fr 10 a [(2, .int .i64 r)] ∧ Hp S w0 w (ow)) ?_ ?_
  rotate_left
  · rintro e a w ⟨rfl, hf, hp⟩
    exact ret1 hf rfl rfl ⟨rfl, hp⟩
  refine wp_seq ?_
  refine wp_reg ?_
  refine st_assign hf rfl rfl (by decide) ?_
  clear hf; intro a ha hf; clear ha
  refine st_nil hf ?_
  refine th_n ?_
  refine wp_seq ?_
  refine wp_seq ?_
  refine wp_reg ?_
  refine st_move hf rfl rfl (by decide) ?_
  clear hf; intro a ha hf; clear ha
  refine st_peql hf (by decide) Try.underlying44 rfl rfl rfl nilT ?_
  clear hf; intro a ha hf; clear ha
  refine st_nil hf ?_
  refine th_n ?_
  refine wp_if hf rfl (fun hb => ?_) (fun hb => ?_)
  rotate_left
  · exact absurd hb (by decide)
  refine wp_seq ?_
  refine wp_reg ?_
  refine st_assign hf rfl rfl (by decide) ?_
  clear hf; intro a ha hf; clear ha
  refine st_nil hf ?_
  refine th_n ?_
  refine wp_ret ?_
  refine th_r ?_
  obtain rfl := Option.some.inj h
  exact ⟨rfl, ⟨hf.sub ⟨rfl, trivial⟩, hp⟩⟩

noncomputable def f_again_Receiver_Handed_14  : Option Int := (some (0 : Int))
theorem f_again_Receiver_Handed_14_c {S : Nat → Prop} {w0 w : World} {ow : List Res} (hp : Hp S w0 w ow) {r : Int} (h : f_again_Receiver_Handed_14 = some r) :
    Calls Try.prog 14 #[.pointer none] w (fun e w' => e = .returned (.int .i64 r) ∧ Hp S w0 w' (ow)) := by
  unfold f_again_Receiver_Handed_14 at h
  refine enter (n := 9) (args := [.pointer none]) Try.func14 rfl rfl (Nat.le_of_ble_eq_true rfl) fun a hf => ?_
  replace hf : Fr 9 a [(0, .pointer none)] := hf
  refine wp_mono (Q := fun e a w => e = .ret ∧ Fr 9 a [(2, .int .i64 r)] ∧ Hp S w0 w (ow)) ?_ ?_
  rotate_left
  · rintro e a w ⟨rfl, hf, hp⟩
    exact ret1 hf rfl rfl ⟨rfl, hp⟩
  refine wp_seq ?_
  refine wp_reg ?_
  refine st_assign hf rfl rfl (by decide) ?_
  clear hf; intro a ha hf; clear ha
  refine st_nil hf ?_
  refine th_n ?_
  refine wp_seq ?_
  refine wp_seq ?_
  refine wp_reg ?_
  refine st_move hf rfl rfl (by decide) ?_
  clear hf; intro a ha hf; clear ha
  refine st_peql hf (by decide) Try.underlying23 rfl rfl rfl nilT ?_
  clear hf; intro a ha hf; clear ha
  refine st_nil hf ?_
  refine th_n ?_
  refine wp_if hf rfl (fun hb => ?_) (fun hb => ?_)
  rotate_left
  · exact absurd hb (by decide)
  refine wp_seq ?_
  refine wp_reg ?_
  refine st_assign hf rfl rfl (by decide) ?_
  clear hf; intro a ha hf; clear ha
  refine st_nil hf ?_
  refine th_n ?_
  refine wp_ret ?_
  refine th_r ?_
  obtain rfl := Option.some.inj h
  exact ⟨rfl, ⟨hf.sub ⟨rfl, trivial⟩, hp⟩⟩

end Go.Proofs.Ytmdigffgmohcnaa
