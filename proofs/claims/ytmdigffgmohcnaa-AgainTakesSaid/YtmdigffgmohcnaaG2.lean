/- The functions foghorn foghornlaw28.AgainTakes: what each answers, as a plain function, and that its call answers it; printed by gen.py. -/
import Derived.Test.YtmdigffgmohcnaaProg
import Derived.Test.YtmdigffgmohcnaaGlUb
import Derived.KernelRfl
import Derived.Test.YtmdigffgmohcnaaG2p1
set_option linter.unusedVariables false
set_option linter.unusedSimpArgs false
set_option maxRecDepth 100000
set_option maxHeartbeats 4000000
namespace Go.Proofs.Ytmdigffgmohcnaa
open GL
noncomputable def f_foghornlaw28_same (ax0_Kind : Int) (ax0_Number : Int) (ax0_More : Bool) (ax0_Body : ByteArray) (bx1_Kind : Int) (bx1_Number : Int) (bx1_More : Bool) (bx1_Body : ByteArray) : Option Bool := (some ((((ax0_Kind == bx1_Kind) && (ax0_Number == bx1_Number)) && (ax0_More == bx1_More)) && (seq ax0_Body bx1_Body)))
theorem f_foghornlaw28_same_c {S : Nat → Prop} {w0 w : World} {ow : List Res} (hp : Hp S w0 w ow) (ax0_Kind : Int) (ax0_Number : Int) (ax0_More : Bool) (ax0_Body : ByteArray) (bx1_Kind : Int) (bx1_Number : Int) (bx1_More : Bool) (bx1_Body : ByteArray) {r : Bool} (h : f_foghornlaw28_same ax0_Kind ax0_Number ax0_More ax0_Body bx1_Kind bx1_Number bx1_More bx1_Body = some r) :
    Calls Try.prog 13 #[.agg #[.int .u8 ax0_Kind, .int .u8 ax0_Number, .bool ax0_More, .string ax0_Body], .agg #[.int .u8 bx1_Kind, .int .u8 bx1_Number, .bool bx1_More, .string bx1_Body]] w (fun e w' => e = .returned (.bool r) ∧ Hp S w0 w' (ow)) := by
  unfold f_foghornlaw28_same at h
  refine enter (n := 31) (args := [.agg #[.int .u8 ax0_Kind, .int .u8 ax0_Number, .bool ax0_More, .string ax0_Body], .agg #[.int .u8 bx1_Kind, .int .u8 bx1_Number, .bool bx1_More, .string bx1_Body]]) Try.func13 rfl rfl (Nat.le_of_ble_eq_true rfl) fun a hf => ?_
  replace hf : Fr 31 a [(0, .agg #[.int .u8 ax0_Kind, .int .u8 ax0_Number, .bool ax0_More, .string ax0_Body]), (1, .agg #[.int .u8 bx1_Kind, .int .u8 bx1_Number, .bool bx1_More, .string bx1_Body])] := hf
  refine wp_mono (Q := fun e a w => e = .ret ∧ Fr 31 a [(4, .bool r)] ∧ Hp S w0 w (ow)) ?_ ?_
  rotate_left
  · rintro e a w ⟨rfl, hf, hp⟩
    exact ret1 hf rfl rfl ⟨rfl, hp⟩
  refine wp_seq ?_
  refine wp_reg ?_
  refine st_boxO (cs := [.int .u8 ax0_Kind, .int .u8 ax0_Number, .bool ax0_More, .string ax0_Body]) hf (by decide) hp rfl rfl rfl ?_
  clear hf; intro a w v1 hf hp0; clear hp; have hp := hp0; clear hp0
  replace hp : Hp _ _ _ (Res.obj 31 v1 [.int .u8 ax0_Kind, .int .u8 ax0_Number, .bool ax0_More, .string ax0_Body] :: ow) := hp
  refine st_boxO (cs := [.int .u8 bx1_Kind, .int .u8 bx1_Number, .bool bx1_More, .string bx1_Body]) hf (by decide) hp rfl rfl rfl ?_
  clear hf; intro a w v3 hf hp0; clear hp; have hp := hp0; clear hp0
  replace hp : Hp _ _ _ (Res.obj 31 v3 [.int .u8 bx1_Kind, .int .u8 bx1_Number, .bool bx1_More, .string bx1_Body] :: Res.obj 31 v1 [.int .u8 ax0_Kind, .int .u8 ax0_Number, .bool ax0_More, .string ax0_Body] :: ow) := hp
  refine st_assign hf rfl rfl (by decide) ?_
  clear hf; intro a ha hf; clear ha
  refine st_nil hf ?_
  refine th_n ?_
  refine wp_seq ?_
  refine wp_reg ?_
  refine st_fa (o' := 0) hf (by decide) (off := 0) (sz := 1) (by kernel_rfl) (by decide) rfl rfl (hp.ob (i := 1) rfl) rfl ?_
  clear hf; intro a ha hf; clear ha
  refine st_ldO (u := .int .u8 ax0_Kind) hf (by decide) pl5 rfl rfl (hp.ob (i := 1) rfl) rfl ?_
  clear hf; intro a ha hf; clear ha
  refine st_fa (o' := 0) hf (by decide) (off := 0) (sz := 1) (by kernel_rfl) (by decide) rfl rfl (hp.ob (i := 0) rfl) rfl ?_
  clear hf; intro a ha hf; clear ha
  refine st_ldO (u := .int .u8 bx1_Kind) hf (by decide) pl5 rfl rfl (hp.ob (i := 0) rfl) rfl ?_
  clear hf; intro a ha hf; clear ha
  refine st_ieql hf (by decide) rfl rfl rfl ?_
  clear hf; intro a ha hf; clear ha
  refine st_move hf rfl rfl (by decide) ?_
  clear hf; intro a ha hf; clear ha
  refine wpList_cut 6 (fun a w => Fr 31 a [(2, optr v1 0), (3, optr v3 0), (16, .bool ((ax0_Kind == bx1_Kind) && (ax0_Number == bx1_Number)))] ∧ Hp S w0 w (Res.obj 31 v3 [.int .u8 bx1_Kind, .int .u8 bx1_Number, .bool bx1_More, .string bx1_Body] :: Res.obj 31 v1 [.int .u8 ax0_Kind, .int .u8 ax0_Number, .bool ax0_More, .string ax0_Body] :: ow)) ?_ ?_
  · rcases Bool.eq_false_or_eq_true (ax0_Kind == bx1_Kind) with hb6 | hb6
    · skip
      refine st_fa (o' := 1) hf (by decide) (off := 1) (sz := 1) (by kernel_rfl) (by decide) (wantY hf rfl rfl hb6) rfl (hp.ob (i := 1) rfl) rfl ?_
      clear hf; intro a ha hf; clear ha
      refine st_ldO (u := .int .u8 ax0_Number) hf (by decide) pl5 (wantY hf rfl rfl hb6) rfl (hp.ob (i := 1) rfl) rfl ?_
      clear hf; intro a ha hf; clear ha
      refine st_fa (o' := 1) hf (by decide) (off := 1) (sz := 1) (by kernel_rfl) (by decide) (wantY hf rfl rfl hb6) rfl (hp.ob (i := 0) rfl) rfl ?_
      clear hf; intro a ha hf; clear ha
      refine st_ldO (u := .int .u8 bx1_Number) hf (by decide) pl5 (wantY hf rfl rfl hb6) rfl (hp.ob (i := 0) rfl) rfl ?_
      clear hf; intro a ha hf; clear ha
      refine st_ieql hf (by decide) (wantY hf rfl rfl hb6) rfl rfl ?_
      clear hf; intro a ha hf; clear ha
      refine st_pick (v := .bool (ax0_Number == bx1_Number)) hf rfl rfl (fun hb' => ?_) (fun hb' => ?_) (by decide) ?_
      · rfl
      · exact absurd (hb6.symm.trans hb') (by decide)
      clear hf; intro a ha hf; clear ha
      refine st_nil hf (th_n ?_)
      exact ⟨hf.sub ⟨rfl, rfl, (by rw [hb6]; rfl), trivial⟩, hp⟩
    refine st_skip hf (wantN hf rfl rfl hb6) rfl (by decide) ?_ rfl
    clear hf; intro a hf
    refine st_skip hf (wantN hf rfl rfl hb6) rfl (by decide) ?_ rfl
    clear hf; intro a hf
    refine st_skip hf (wantN hf rfl rfl hb6) rfl (by decide) ?_ rfl
    clear hf; intro a hf
    refine st_skip hf (wantN hf rfl rfl hb6) rfl (by decide) ?_ rfl
    clear hf; intro a hf
    refine st_skip hf (wantN hf rfl rfl hb6) rfl (by decide) ?_ rfl
    clear hf; intro a hf
    refine st_pick (v := .bool false) hf rfl rfl (fun hb' => ?_) (fun hb' => ?_) (by decide) ?_
    · exact absurd (hb6.symm.trans hb') (by decide)
    · rfl
    clear hf; intro a ha hf; clear ha
    refine st_nil hf (th_n ?_)
    exact ⟨hf.sub ⟨rfl, rfl, (by rw [hb6]; rfl), trivial⟩, hp⟩
  rintro a w ⟨hf, hp⟩
  refine st_move hf rfl rfl (by decide) ?_
  clear hf; intro a ha hf; clear ha
  refine wpList_cut 6 (fun a w => Fr 31 a [(2, optr v1 0), (3, optr v3 0), (23, .bool (((ax0_Kind == bx1_Kind) && (ax0_Number == bx1_Number)) && (ax0_More == bx1_More)))] ∧ Hp S w0 w (Res.obj 31 v3 [.int .u8 bx1_Kind, .int .u8 bx1_Number, .bool bx1_More, .string bx1_Body] :: Res.obj 31 v1 [.int .u8 ax0_Kind, .int .u8 ax0_Number, .bool ax0_More, .string ax0_Body] :: ow)) ?_ ?_
  · rcases Bool.eq_false_or_eq_true ((ax0_Kind == bx1_Kind) && (ax0_Number == bx1_Number)) with hb8 | hb8
    · skip
      refine st_fa (o' := 2) hf (by decide) (off := 2) (sz := 1) (by kernel_rfl) (by decide) (wantY hf rfl rfl hb8) rfl (hp.ob (i := 1) rfl) rfl ?_
      clear hf; intro a ha hf; clear ha
      refine st_ldO (u := .bool ax0_More) hf (by decide) pl4 (wantY hf rfl rfl hb8) rfl (hp.ob (i := 1) rfl) rfl ?_
      clear hf; intro a ha hf; clear ha
      refine st_fa (o' := 2) hf (by decide) (off := 2) (sz := 1) (by kernel_rfl) (by decide) (wantY hf rfl rfl hb8) rfl (hp.ob (i := 0) rfl) rfl ?_
      clear hf; intro a ha hf; clear ha
      refine st_ldO (u := .bool bx1_More) hf (by decide) pl4 (wantY hf rfl rfl hb8) rfl (hp.ob (i := 0) rfl) rfl ?_
      clear hf; intro a ha hf; clear ha
      refine st_beql hf (by decide) Try.underlying4 (wantY hf rfl rfl hb8) rfl rfl ?_
      clear hf; intro a ha hf; clear ha
      refine st_pick (v := .bool (ax0_More == bx1_More)) hf rfl rfl (fun hb' => ?_) (fun hb' => ?_) (by decide) ?_
      · rfl
      · exact absurd (hb8.symm.trans hb') (by decide)
      clear hf; intro a ha hf; clear ha
      refine st_nil hf (th_n ?_)
      exact ⟨hf.sub ⟨rfl, rfl, (by rw [hb8]; rfl), trivial⟩, hp⟩
    refine st_skip hf (wantN hf rfl rfl hb8) rfl (by decide) ?_ rfl
    clear hf; intro a hf
    refine st_skip hf (wantN hf rfl rfl hb8) rfl (by decide) ?_ rfl
    clear hf; intro a hf
    refine st_skip hf (wantN hf rfl rfl hb8) rfl (by decide) ?_ rfl
    clear hf; intro a hf
    refine st_skip hf (wantN hf rfl rfl hb8) rfl (by decide) ?_ rfl
    clear hf; intro a hf
    refine st_skip hf (wantN hf rfl rfl hb8) rfl (by decide) ?_ rfl
    clear hf; intro a hf
    refine st_pick (v := .bool false) hf rfl rfl (fun hb' => ?_) (fun hb' => ?_) (by decide) ?_
    · exact absurd (hb8.symm.trans hb') (by decide)
    · rfl
    clear hf; intro a ha hf; clear ha
    refine st_nil hf (th_n ?_)
    exact ⟨hf.sub ⟨rfl, rfl, (by rw [hb8]; rfl), trivial⟩, hp⟩
  rintro a w ⟨hf, hp⟩
  refine st_move hf rfl rfl (by decide) ?_
  clear hf; intro a ha hf; clear ha
  refine wpList_cut 6 (fun a w => Fr 31 a [(30, .bool ((((ax0_Kind == bx1_Kind) && (ax0_Number == bx1_Number)) && (ax0_More == bx1_More)) && (seq ax0_Body bx1_Body)))] ∧ Hp S w0 w (Res.obj 31 v3 [.int .u8 bx1_Kind, .int .u8 bx1_Number, .bool bx1_More, .string bx1_Body] :: Res.obj 31 v1 [.int .u8 ax0_Kind, .int .u8 ax0_Number, .bool ax0_More, .string ax0_Body] :: ow)) ?_ ?_
  · rcases Bool.eq_false_or_eq_true (((ax0_Kind == bx1_Kind) && (ax0_Number == bx1_Number)) && (ax0_More == bx1_More)) with hb10 | hb10
    · skip
      refine st_fa (o' := 3) hf (by decide) (off := 3) (sz := 1) (by kernel_rfl) (by decide) (wantY hf rfl rfl hb10) rfl (hp.ob (i := 1) rfl) rfl ?_
      clear hf; intro a ha hf; clear ha
      refine st_ldO (u := .string ax0_Body) hf (by decide) pl9 (wantY hf rfl rfl hb10) rfl (hp.ob (i := 1) rfl) rfl ?_
      clear hf; intro a ha hf; clear ha
      refine st_fa (o' := 3) hf (by decide) (off := 3) (sz := 1) (by kernel_rfl) (by decide) (wantY hf rfl rfl hb10) rfl (hp.ob (i := 0) rfl) rfl ?_
      clear hf; intro a ha hf; clear ha
      refine st_ldO (u := .string bx1_Body) hf (by decide) pl9 (wantY hf rfl rfl hb10) rfl (hp.ob (i := 0) rfl) rfl ?_
      clear hf; intro a ha hf; clear ha
      refine st_seql hf (by decide) (wantY hf rfl rfl hb10) rfl rfl ?_
      clear hf; intro a ha hf; clear ha
      refine st_pick (v := .bool (seq ax0_Body bx1_Body)) hf rfl rfl (fun hb' => ?_) (fun hb' => ?_) (by decide) ?_
      · rfl
      · exact absurd (hb10.symm.trans hb') (by decide)
      clear hf; intro a ha hf; clear ha
      refine st_nil hf (th_n ?_)
      exact ⟨hf.sub ⟨(by rw [hb10]; rfl), trivial⟩, hp⟩
    refine st_skip hf (wantN hf rfl rfl hb10) rfl (by decide) ?_ rfl
    clear hf; intro a hf
    refine st_skip hf (wantN hf rfl rfl hb10) rfl (by decide) ?_ rfl
    clear hf; intro a hf
    refine st_skip hf (wantN hf rfl rfl hb10) rfl (by decide) ?_ rfl
    clear hf; intro a hf
    refine st_skip hf (wantN hf rfl rfl hb10) rfl (by decide) ?_ rfl
    clear hf; intro a hf
    refine st_skip hf (wantN hf rfl rfl hb10) rfl (by decide) ?_ rfl
    clear hf; intro a hf
    refine st_pick (v := .bool false) hf rfl rfl (fun hb' => ?_) (fun hb' => ?_) (by decide) ?_
    · exact absurd (hb10.symm.trans hb') (by decide)
    · rfl
    clear hf; intro a ha hf; clear ha
    refine st_nil hf (th_n ?_)
    exact ⟨hf.sub ⟨(by rw [hb10]; rfl), trivial⟩, hp⟩
  rintro a w ⟨hf, hp⟩
  refine st_assign hf rfl rfl (by decide) ?_
  clear hf; intro a ha hf; clear ha
  refine st_nil hf ?_
  refine th_n ?_
  refine wp_ret ?_
  obtain rfl := Option.some.inj h
  have hp : Hp _ _ _ (ow) := Hp.sel (pre := [Res.obj 31 v3 [.int .u8 bx1_Kind, .int .u8 bx1_Number, .bool bx1_More, .string bx1_Body], Res.obj 31 v1 [.int .u8 ax0_Kind, .int .u8 ax0_Number, .bool ax0_More, .string ax0_Body]]) (tail := ow) (rs' := []) hp [] (by decide) (by simp) rfl
  exact ⟨rfl, ⟨hf.sub ⟨rfl, trivial⟩, hp⟩⟩

noncomputable def f_again_Receiver_Handed (r0_window : Int) (r0_next : Int) : Option Int := (some r0_next)
theorem f_again_Receiver_Handed_c {S : Nat → Prop} {w0 w : World} {ow : List Res} (hp : Hp S w0 w ow) (r0_window : Int) (r0_next : Int) (vr0_kept : Value) (or0 : Value) (hor0 : RdO S w0 or0 [.int .i64 r0_window, .int .i64 r0_next, vr0_kept]) {r : Int} (h : f_again_Receiver_Handed r0_window r0_next = some r) :
    Calls Try.prog 14 #[or0] w (fun e w' => e = .returned (.int .i64 r) ∧ Hp S w0 w' (ow)) := by
  unfold f_again_Receiver_Handed at h
  refine enter (n := 9) (args := [or0]) Try.func14 rfl rfl (Nat.le_of_ble_eq_true rfl) fun a hf => ?_
  replace hf : Fr 9 a [(0, or0)] := hf
  refine wp_mono (Q := fun e a w => e = .ret ∧ Fr 9 a [(2, .int .i64 r)] ∧ Hp S w0 w (ow)) ?_ ?_
  rotate_left
  · rintro e a w ⟨rfl, hf, hp⟩
    exact ret1 hf rfl rfl ⟨rfl, hp⟩
  refine wp_seq ?_
  refine wp_reg ?_
  refine st_assign hf rfl rfl (by decide) ?_
  clear hf; intro a ha hf; clear ha
  refine st_nil hf ?_
  refine th_n ?_
  refine wp_seq ?_
  refine wp_seq ?_
  refine wp_reg ?_
  refine st_move hf rfl rfl (by decide) ?_
  clear hf; intro a ha hf; clear ha
  refine st_peql hf (by decide) Try.underlying23 rfl rfl rfl (nilF (hor0.ob hp).e) ?_
  clear hf; intro a ha hf; clear ha
  refine st_nil hf ?_
  refine th_n ?_
  refine wp_if hf rfl (fun hb => ?_) (fun hb => ?_)
  · exact absurd hb (by decide)
  refine wp_skip ?_
  refine th_n ?_
  refine wp_seq ?_
  refine wp_reg ?_
  refine st_move hf rfl rfl (by decide) ?_
  clear hf; intro a ha hf; clear ha
  refine st_nilV hf (by decide) rfl rfl (hor0.ob hp) ?_
  clear hf; intro a ha hf; clear ha
  refine st_fa (o' := 1) hf (by decide) (off := 1) (sz := 1) (by kernel_rfl) (by decide) rfl rfl (hor0.ob hp) rfl ?_
  clear hf; intro a ha hf; clear ha
  refine st_ldO (u := .int .i64 r0_next) hf (by decide) pl3 rfl rfl (hor0.ob hp) rfl ?_
  clear hf; intro a ha hf; clear ha
  refine st_assign hf rfl rfl (by decide) ?_
  clear hf; intro a ha hf; clear ha
  refine st_nil hf ?_
  refine th_n ?_
  refine wp_ret ?_
  obtain rfl := Option.some.inj h
  exact ⟨rfl, ⟨hf.sub ⟨rfl, trivial⟩, hp⟩⟩

noncomputable def f_foghornlaw28_AgainTakes.s2c (ax11 : (List ByteArray)) (k17 : Int) : Option (((List ByteArray) × Int) ⊕ Unit) := (if (decide (k17 < (ax11.length : Int))) = true then (if 0 ≤ k17 ∧ k17 < (ax11.length : Int) then (some (Sum.inl ((ax11.set (k17).toNat (ByteArray.mk #[63])), (IntKind.i64.wrap (k17 + (1 : Int)))))) else none) else (some (Sum.inr ())))
noncomputable def f_foghornlaw28_AgainTakes.s2  (s : ((List ByteArray) × Int)) : Option (((List ByteArray) × Int) ⊕ Unit) := f_foghornlaw28_AgainTakes.s2c s.1 s.2
noncomputable def f_foghornlaw28_AgainTakes.j1 (xx5c_0 : Int) (xx5c_1 : Int) (xx5c_2 : (List (Int × ByteArray))) (yx7c_0 : Int) (yx7c_1 : Int) (yx7c_2 : (List Bool)) (yx7c_3 : (List ByteArray)) (i9 : Int) (f10c_0 : Int) (f10c_1 : Int) (f10c_2 : Bool) (f10c_3 : ByteArray) : Option ((Int × Int × (List (Int × ByteArray)) × Int × Int × (List Bool) × (List ByteArray) × Int) ⊕ (Unit ⊕ Bool)) := ((f_again_Receiver_Take xx5c_0 xx5c_1 xx5c_2 f10c_0 f10c_1 f10c_2 f10c_3).bind fun q35 => ((f_foghornref28_Receiver_Take yx7c_0 yx7c_1 yx7c_2 yx7c_3 f10c_0 f10c_1 f10c_2 f10c_3).bind fun q44 => ((if (q35.2.2.1 != q44.2.2.1) = true then (some true) else ((f_foghornlaw28_sameTexts q35.1 q44.1).bind fun q76 => (some (!q76)))).bind fun z88 => ((if z88 = true then (some true) else ((f_foghornlaw28_same q35.2.1.1 q35.2.1.2.1 q35.2.1.2.2.1 q35.2.1.2.2.2 q44.2.1.1 q44.2.1.2.1 q44.2.1.2.2.1 q44.2.1.2.2.2).bind fun q91 => (some (!q91)))).bind fun z93 => ((if z93 = true then (some true) else ((f_again_Receiver_Handed q35.2.2.2.1 q35.2.2.2.2.1).bind fun q96 => (some (q96 != q44.2.2.2.2.1)))).bind fun z103 => (if z103 = true then (some (Sum.inr (Sum.inr false))) else ((loop f_foghornlaw28_AgainTakes.s2 (q35.1, (0 : Int))).bind (fun q107 => (some (Sum.inl (q35.2.2.2.1, q35.2.2.2.2.1, q35.2.2.2.2.2, q44.2.2.2.1, q44.2.2.2.2.1, q44.2.2.2.2.2.1, q44.2.2.2.2.2.2, (IntKind.i64.wrap (i9 + (1 : Int))))))))))))))
noncomputable def f_foghornlaw28_AgainTakes.s1c (l1 : (List (Int × Int × Bool × (Int × Int × Bool × ByteArray)))) (xx5c_0 : Int) (xx5c_1 : Int) (xx5c_2 : (List (Int × ByteArray))) (yx7c_0 : Int) (yx7c_1 : Int) (yx7c_2 : (List Bool)) (yx7c_3 : (List ByteArray)) (i9 : Int) : Option ((Int × Int × (List (Int × ByteArray)) × Int × Int × (List Bool) × (List ByteArray) × Int) ⊕ (Unit ⊕ Bool)) := (if ((decide (i9 < (l1.length : Int))) && (decide (i9 < (400 : Int)))) = true then (if 0 ≤ i9 ∧ i9 < (l1.length : Int) then (if 0 ≤ i9 ∧ i9 < (l1.length : Int) then (if ((gt l1 i9).2.2.1) = true then (f_foghornlaw28_AgainTakes.j1 xx5c_0 xx5c_1 xx5c_2 yx7c_0 yx7c_1 yx7c_2 yx7c_3 i9 (((gt l1 i9).2.2.2).1) (IntKind.u8.wrap (((((gt l1 i9).2.2.2).2.1).tmod (8 : Int)) + (IntKind.u8.wrap ((yx7c_1).tmod (256 : Int))))) (((gt l1 i9).2.2.2).2.2.1) (((gt l1 i9).2.2.2).2.2.2)) else (f_foghornlaw28_AgainTakes.j1 xx5c_0 xx5c_1 xx5c_2 yx7c_0 yx7c_1 yx7c_2 yx7c_3 i9 (((gt l1 i9).2.2.2).1) (((gt l1 i9).2.2.2).2.1) (((gt l1 i9).2.2.2).2.2.1) (((gt l1 i9).2.2.2).2.2.2))) else none) else none) else (some (Sum.inr (Sum.inl ()))))
noncomputable def f_foghornlaw28_AgainTakes.s1 (l1 : (List (Int × Int × Bool × (Int × Int × Bool × ByteArray)))) (s : (Int × Int × (List (Int × ByteArray)) × Int × Int × (List Bool) × (List ByteArray) × Int)) : Option ((Int × Int × (List (Int × ByteArray)) × Int × Int × (List Bool) × (List ByteArray) × Int) ⊕ (Unit ⊕ Bool)) := f_foghornlaw28_AgainTakes.s1c l1 s.1 s.2.1 s.2.2.1 s.2.2.2.1 s.2.2.2.2.1 s.2.2.2.2.2.1 s.2.2.2.2.2.2.1 s.2.2.2.2.2.2.2
noncomputable def f_foghornlaw28_AgainTakes (window0 : Int) (l1 : (List (Int × Int × Bool × (Int × Int × Bool × ByteArray)))) : Option Bool := ((f_again_NewReceiver window0).bind fun q1 => ((f_foghornref28_NewReceiver window0).bind fun q5 => (if ((q1.2 != q5.2) || (((q1.1).isNone) != (q1.2 != (0 : Int)))) = true then (some false) else (if (q1.2 != (0 : Int)) = true then (some true) else ((q1.1).bind fun s11 => ((q5.1).bind fun s15 => ((loop (f_foghornlaw28_AgainTakes.s1 l1) (s11.1, s11.2.1, s11.2.2, s15.1, s15.2.1, s15.2.2.1, s15.2.2.2, (0 : Int))).bind (fun q116 => sm q116 (fun q117 => (some true)) (fun q118 => (some q118))))))))))
theorem f_foghornlaw28_AgainTakes_c {S : Nat → Prop} {w0 w : World} {ow : List Res} (hp : Hp S w0 w ow) (window0 : Int) (vl1 : Value) (l1 : (List (Int × Int × Bool × (Int × Int × Bool × ByteArray)))) (hl1 : RdS (Ek.pair (Ek.int .u8) (Ek.pair (Ek.int .i64) (Ek.pair Ek.bool (Ek.pair (Ek.int .u8) (Ek.pair (Ek.int .u8) (Ek.pair Ek.bool Ek.str)))))) S w0 vl1 l1) {r : Bool} (h : f_foghornlaw28_AgainTakes window0 l1 = some r) :
    Calls Try.prog 3 #[.int .i64 window0, vl1] w (fun e w' => e = .returned (.bool r) ∧ Hp S w0 w' (ow)) := by
  unfold f_foghornlaw28_AgainTakes at h
  refine enter (n := 118) (args := [.int .i64 window0, vl1]) Try.func3 rfl rfl (Nat.le_of_ble_eq_true rfl) fun a hf => ?_
  replace hf : Fr 118 a [(0, .int .i64 window0), (1, vl1)] := hf
  refine wp_mono (Q := fun e a w => e = .ret ∧ Fr 118 a [(4, .bool r)] ∧ Hp S w0 w (ow)) ?_ ?_
  rotate_left
  · rintro e a w ⟨rfl, hf, hp⟩
    exact ret1 hf rfl rfl ⟨rfl, hp⟩
  refine wp_seq ?_
  refine wp_reg ?_
  refine st_assign hf rfl rfl (by decide) ?_
  clear hf; intro a ha hf; clear ha
  refine st_nil hf ?_
  refine th_n ?_
  refine wp_seq ?_
  refine wp_reg ?_
  refine st_move hf rfl rfl (by decide) ?_
  clear hf; intro a ha hf; clear ha
  obtain ⟨q1, hcall2, h⟩ := bnd h
  refine st_call hf (by decide) Try.func8 rfl rfl rfl rfl rfl (f_again_NewReceiver_c hp _ hcall2) ?_
  rintro _ w ⟨v3, rfl, hp0⟩
  clear hp; have hp := hp0; clear hp0
  replace hp : Hp _ _ _ (Res.opt pk74 v3 q1.1 :: ow) := hp
  refine ⟨_, rfl, ?_⟩
  clear hf; intro a hf
  refine st_move hf rfl rfl (by decide) ?_
  clear hf; intro a ha hf; clear ha
  refine st_extract hf (by decide) rfl rfl rfl ?_
  clear hf; intro a ha hf; clear ha
  refine st_extract hf (by decide) rfl rfl rfl ?_
  clear hf; intro a ha hf; clear ha
  refine st_assign hf rfl rfl (by decide) ?_
  clear hf; intro a ha hf; clear ha
  refine st_assign hf rfl rfl (by decide) ?_
  clear hf; intro a ha hf; clear ha
  refine st_nil hf ?_
  refine th_n ?_
  refine wp_seq ?_
  refine wp_reg ?_
  refine st_move hf rfl rfl (by decide) ?_
  clear hf; intro a ha hf; clear ha
  obtain ⟨q5, hcall6, h⟩ := bnd h
  refine st_call hf (by decide) Try.func9 rfl rfl rfl rfl rfl (f_foghornref28_NewReceiver_c hp _ hcall6) ?_
  rintro _ w ⟨v7, rfl, hp0⟩
  clear hp; have hp := hp0; clear hp0
  replace hp : Hp _ _ _ (Res.opt pk37 v7 q5.1 :: Res.opt pk74 v3 q1.1 :: ow) := hp
  refine ⟨_, rfl, ?_⟩
  clear hf; intro a hf
  refine st_move hf rfl rfl (by decide) ?_
  clear hf; intro a ha hf; clear ha
  refine st_extract hf (by decide) rfl rfl rfl ?_
  clear hf; intro a ha hf; clear ha
  refine st_extract hf (by decide) rfl rfl rfl ?_
  clear hf; intro a ha hf; clear ha
  refine st_assign hf rfl rfl (by decide) ?_
  clear hf; intro a ha hf; clear ha
  refine st_assign hf rfl rfl (by decide) ?_
  clear hf; intro a ha hf; clear ha
  refine st_nil hf ?_
  refine th_n ?_
  refine wp_seq ?_
  refine wp_seq ?_
  refine wp_reg ?_
  refine st_move hf rfl rfl (by decide) ?_
  clear hf; intro a ha hf; clear ha
  refine st_move hf rfl rfl (by decide) ?_
  clear hf; intro a ha hf; clear ha
  refine st_ineq hf (by decide) rfl rfl rfl ?_
  clear hf; intro a ha hf; clear ha
  refine st_move hf rfl rfl (by decide) ?_
  clear hf; intro a ha hf; clear ha
  refine wpList_cut 6 (fun a w => Fr 118 a [(1, vl1), (5, v3), (6, .int .i64 q1.2), (7, v7), (37, .bool ((q1.2 != q5.2) || (((q1.1).isNone) != (q1.2 != (0 : Int)))))] ∧ Hp S w0 w (Res.opt pk37 v7 q5.1 :: Res.opt pk74 v3 q1.1 :: ow)) ?_ ?_
  · rcases Bool.eq_false_or_eq_true (q1.2 != q5.2) with hb10 | hb10
    · skip
      refine st_skip hf (wantN hf rfl rfl hb10) rfl (by decide) ?_ rfl
      clear hf; intro a hf
      refine st_skip hf (wantN hf rfl rfl hb10) rfl (by decide) ?_ rfl
      clear hf; intro a hf
      refine st_skip hf (wantN hf rfl rfl hb10) rfl (by decide) ?_ rfl
      clear hf; intro a hf
      refine st_skip hf (wantN hf rfl rfl hb10) rfl (by decide) ?_ rfl
      clear hf; intro a hf
      refine st_skip hf (wantN hf rfl rfl hb10) rfl (by decide) ?_ rfl
      clear hf; intro a hf
      refine st_pick (v := .bool true) hf rfl rfl (fun hb' => ?_) (fun hb' => ?_) (by decide) ?_
      · rfl
      · exact absurd (hb10.symm.trans hb') (by decide)
      clear hf; intro a ha hf; clear ha
      refine st_nil hf (th_n ?_)
      exact ⟨hf.sub ⟨rfl, rfl, rfl, rfl, (by rw [hb10]; rfl), trivial⟩, hp⟩
    refine st_move hf (wantY hf rfl rfl hb10) rfl (by decide) ?_
    clear hf; intro a ha hf; clear ha
    refine st_peql hf (by decide) Try.underlying23 (wantY hf rfl rfl hb10) rfl rfl (hp.nilB (i := 1) rfl) ?_
    clear hf; intro a ha hf; clear ha
    refine st_move hf (wantY hf rfl rfl hb10) rfl (by decide) ?_
    clear hf; intro a ha hf; clear ha
    refine st_ineq hf (by decide) (wantY hf rfl rfl hb10) rfl rfl ?_
    clear hf; intro a ha hf; clear ha
    refine st_bneq hf (by decide) Try.underlying4 (wantY hf rfl rfl hb10) rfl rfl ?_
    clear hf; intro a ha hf; clear ha
    refine st_pick (v := .bool (((q1.1).isNone) != (q1.2 != (0 : Int)))) hf rfl rfl (fun hb' => ?_) (fun hb' => ?_) (by decide) ?_
    · exact absurd (hb10.symm.trans hb') (by decide)
    · rfl
    clear hf; intro a ha hf; clear ha
    refine st_nil hf (th_n ?_)
    exact ⟨hf.sub ⟨rfl, rfl, rfl, rfl, (by rw [hb10]; rfl), trivial⟩, hp⟩
  rintro a w ⟨hf, hp⟩
  refine st_nil hf ?_
  refine th_n ?_
  refine wp_if hf rfl (fun hb => ?_) (fun hb => ?_)
  · replace h := ifT h hb
    refine wp_seq ?_
    refine wp_reg ?_
    refine st_assign hf rfl rfl (by decide) ?_
    clear hf; intro a ha hf; clear ha
    refine st_nil hf ?_
    refine th_n ?_
    refine wp_ret ?_
    refine th_r ?_
    obtain rfl := Option.some.inj h
    have hp : Hp _ _ _ (ow) := Hp.sel (pre := [Res.opt pk37 v7 q5.1, Res.opt pk74 v3 q1.1]) (tail := ow) (rs' := []) hp [] (by decide) (by simp) rfl
    exact ⟨rfl, ⟨hf.sub ⟨rfl, trivial⟩, hp⟩⟩
  replace h := ifF h hb
  refine wp_skip ?_
  refine th_n ?_
  refine wp_seq ?_
  refine wp_seq ?_
  refine wp_reg ?_
  refine st_move hf rfl rfl (by decide) ?_
  clear hf; intro a ha hf; clear ha
  refine st_ineq hf (by decide) rfl rfl rfl ?_
  clear hf; intro a ha hf; clear ha
  refine st_nil hf ?_
  refine th_n ?_
  refine wp_if hf rfl (fun hb => ?_) (fun hb => ?_)
  · replace h := ifT h hb
    refine wp_seq ?_
    refine wp_reg ?_
    refine st_assign hf rfl rfl (by decide) ?_
    clear hf; intro a ha hf; clear ha
    refine st_nil hf ?_
    refine th_n ?_
    refine wp_ret ?_
    refine th_r ?_
    obtain rfl := Option.some.inj h
    have hp : Hp _ _ _ (ow) := Hp.sel (pre := [Res.opt pk37 v7 q5.1, Res.opt pk74 v3 q1.1]) (tail := ow) (rs' := []) hp [] (by decide) (by simp) rfl
    exact ⟨rfl, ⟨hf.sub ⟨rfl, trivial⟩, hp⟩⟩
  replace h := ifF h hb
  refine wp_skip ?_
  refine th_n ?_
  refine wp_seq ?_
  refine wp_seq ?_
  refine wp_reg ?_
  refine st_assign hf rfl rfl (by decide) ?_
  clear hf; intro a ha hf; clear ha
  refine st_nil hf ?_
  refine th_n ?_
  refine wp_block ?_
  obtain ⟨s11, hs12, h⟩ := bnd h
  have hp : Hp _ _ _ (Res.opt pk74 v3 q1.1 :: Res.opt pk37 v7 q5.1 :: ow) := Hp.sel (pre := [Res.opt pk37 v7 q5.1, Res.opt pk74 v3 q1.1]) (tail := ow) (rs' := [Res.opt pk74 v3 q1.1, Res.opt pk37 v7 q5.1]) hp [1, 0] (by decide) (by simp) rfl
  replace hp : Hp _ _ _ (pk74.R v3 s11 :: Res.opt pk37 v7 q5.1 :: ow) := hp.optSome hs12
  obtain ⟨v13, hp⟩ := pk74_in hp
  replace hp : Hp _ _ _ (Res.obj 74 v3 [.int .i64 s11.1, .int .i64 s11.2.1, v13] :: Res.map (fun x : ByteArray => Value.string x) v13 s11.2.2 :: Res.opt pk37 v7 q5.1 :: ow) := hp
  obtain ⟨s15, hs16, h⟩ := bnd h
  have hp : Hp _ _ _ (Res.opt pk37 v7 q5.1 :: Res.obj 74 v3 [.int .i64 s11.1, .int .i64 s11.2.1, v13] :: Res.map (fun x : ByteArray => Value.string x) v13 s11.2.2 :: ow) := Hp.sel (pre := [Res.obj 74 v3 [.int .i64 s11.1, .int .i64 s11.2.1, v13], Res.map (fun x : ByteArray => Value.string x) v13 s11.2.2, Res.opt pk37 v7 q5.1]) (tail := ow) (rs' := [Res.opt pk37 v7 q5.1, Res.obj 74 v3 [.int .i64 s11.1, .int .i64 s11.2.1, v13], Res.map (fun x : ByteArray => Value.string x) v13 s11.2.2]) hp [2, 0, 1] (by decide) (by simp) rfl
  replace hp : Hp _ _ _ (pk37.R v7 s15 :: Res.obj 74 v3 [.int .i64 s11.1, .int .i64 s11.2.1, v13] :: Res.map (fun x : ByteArray => Value.string x) v13 s11.2.2 :: ow) := hp.optSome hs16
  obtain ⟨⟨v17, v18⟩, hp⟩ := pk37_in hp
  replace hp : Hp _ _ _ (Res.obj 37 v7 [.int .i64 s15.1, .int .i64 s15.2.1, v17, v18] :: Res.sl Ek.bool 4 v17 s15.2.2.1 :: Res.sl Ek.str 9 v18 s15.2.2.2 :: Res.obj 74 v3 [.int .i64 s11.1, .int .i64 s11.2.1, v13] :: Res.map (fun x : ByteArray => Value.string x) v13 s11.2.2 :: ow) := hp
  obtain ⟨q116, hl, h⟩ := bnd h
  have hp : Hp _ _ _ (Res.map (fun x : ByteArray => Value.string x) v13 s11.2.2 :: Res.obj 74 v3 [.int .i64 s11.1, .int .i64 s11.2.1, v13] :: Res.sl Ek.bool 4 v17 s15.2.2.1 :: Res.sl Ek.str 9 v18 s15.2.2.2 :: Res.obj 37 v7 [.int .i64 s15.1, .int .i64 s15.2.1, v17, v18] :: ow) := Hp.sel (pre := [Res.obj 37 v7 [.int .i64 s15.1, .int .i64 s15.2.1, v17, v18], Res.sl Ek.bool 4 v17 s15.2.2.1, Res.sl Ek.str 9 v18 s15.2.2.2, Res.obj 74 v3 [.int .i64 s11.1, .int .i64 s11.2.1, v13], Res.map (fun x : ByteArray => Value.string x) v13 s11.2.2]) (tail := ow) (rs' := [Res.map (fun x : ByteArray => Value.string x) v13 s11.2.2, Res.obj 74 v3 [.int .i64 s11.1, .int .i64 s11.2.1, v13], Res.sl Ek.bool 4 v17 s15.2.2.1, Res.sl Ek.str 9 v18 s15.2.2.2, Res.obj 37 v7 [.int .i64 s15.1, .int .i64 s15.2.1, v17, v18]]) hp [4, 3, 1, 2, 0] (by decide) (by simp) rfl
  refine wp_loop_pure (f := (f_foghornlaw28_AgainTakes.s1 l1)) (s := (s11.1, s11.2.1, s11.2.2, s15.1, s15.2.1, s15.2.2.1, s15.2.2.2, (0 : Int))) (fun s a w => ∃ (v21 : Value) (v24 : Value) (v26 : Value), Fr 118 a [(1, vl1), (5, v3), (7, v7), (9, .int .i64 s.2.2.2.2.2.2.2)] ∧ Hp S w0 w (Res.map (fun x : ByteArray => Value.string x) v21 s.2.2.1 :: Res.obj 74 v3 [.int .i64 s.1, .int .i64 s.2.1, v21] :: Res.sl Ek.bool 4 v24 s.2.2.2.2.2.1 :: Res.sl Ek.str 9 v26 s.2.2.2.2.2.2.1 :: Res.obj 37 v7 [.int .i64 s.2.2.2.1, .int .i64 s.2.2.2.2.1, v24, v26] :: ow)) (fun q e a w => match q with | (Sum.inl q) => e = .exit 0 ∧ Fr 118 a [] ∧ Hp S w0 w (ow) | (Sum.inr q) => e = .ret ∧ Fr 118 a [(4, .bool q)] ∧ Hp S w0 w (ow)) ?_ hl ⟨_, _, _, hf.sub ⟨rfl, rfl, rfl, rfl, trivial⟩, hp⟩ ?_
  · clear hl hf hp
    intro s x a w h hI
    obtain ⟨xx5c_0, xx5c_1, xx5c_2, yx7c_0, yx7c_1, yx7c_2, yx7c_3, i9⟩ := s
    obtain ⟨v21, v24, v26, hf, hp⟩ : ∃ (v21 : Value) (v24 : Value) (v26 : Value), Fr 118 a [(1, vl1), (5, v3), (7, v7), (9, .int .i64 i9)] ∧ Hp S w0 w (Res.map (fun x : ByteArray => Value.string x) v21 xx5c_2 :: Res.obj 74 v3 [.int .i64 xx5c_0, .int .i64 xx5c_1, v21] :: Res.sl Ek.bool 4 v24 yx7c_2 :: Res.sl Ek.str 9 v26 yx7c_3 :: Res.obj 37 v7 [.int .i64 yx7c_0, .int .i64 yx7c_1, v24, v26] :: ow) := hI
    replace h : f_foghornlaw28_AgainTakes.s1c l1 xx5c_0 xx5c_1 xx5c_2 yx7c_0 yx7c_1 yx7c_2 yx7c_3 i9 = some x := h
    unfold f_foghornlaw28_AgainTakes.s1c at h
    refine wp_seq ?_
    refine wp_seq ?_
    refine wp_reg ?_
    refine st_move hf rfl rfl (by decide) ?_
    clear hf; intro a ha hf; clear ha
    refine st_move hf rfl rfl (by decide) ?_
    clear hf; intro a ha hf; clear ha
    refine st_len (E := (Ek.pair (Ek.int .u8) (Ek.pair (Ek.int .i64) (Ek.pair Ek.bool (Ek.pair (Ek.int .u8) (Ek.pair (Ek.int .u8) (Ek.pair Ek.bool Ek.str))))))) hf (by decide) Try.underlying22 rfl rfl (hl1.sl hp) ?_
    clear hf; intro a ha hf; clear ha
    refine st_ilss hf (by decide) rfl rfl rfl ?_
    clear hf; intro a ha hf; clear ha
    refine st_move hf rfl rfl (by decide) ?_
    clear hf; intro a ha hf; clear ha
    refine wpList_cut 3 (fun a w => Fr 118 a [(1, vl1), (5, v3), (7, v7), (9, .int .i64 i9), (47, .bool ((decide (i9 < (l1.length : Int))) && (decide (i9 < (400 : Int)))))] ∧ Hp S w0 w (Res.map (fun x : ByteArray => Value.string x) v21 xx5c_2 :: Res.obj 74 v3 [.int .i64 xx5c_0, .int .i64 xx5c_1, v21] :: Res.sl Ek.bool 4 v24 yx7c_2 :: Res.sl Ek.str 9 v26 yx7c_3 :: Res.obj 37 v7 [.int .i64 yx7c_0, .int .i64 yx7c_1, v24, v26] :: ow)) ?_ ?_
    · rcases Bool.eq_false_or_eq_true (decide (i9 < (l1.length : Int))) with hb30 | hb30
      · skip
        refine st_move hf (wantY hf rfl rfl hb30) rfl (by decide) ?_
        clear hf; intro a ha hf; clear ha
        refine st_ilss hf (by decide) (wantY hf rfl rfl hb30) rfl rfl ?_
        clear hf; intro a ha hf; clear ha
        refine st_pick (v := .bool (decide (i9 < (400 : Int)))) hf rfl rfl (fun hb' => ?_) (fun hb' => ?_) (by decide) ?_
        · rfl
        · exact absurd (hb30.symm.trans hb') (by decide)
        clear hf; intro a ha hf; clear ha
        refine st_nil hf (th_n ?_)
        exact ⟨hf.sub ⟨rfl, rfl, rfl, rfl, (by rw [hb30]; rfl), trivial⟩, hp⟩
      refine st_skip hf (wantN hf rfl rfl hb30) rfl (by decide) ?_ rfl
      clear hf; intro a hf
      refine st_skip hf (wantN hf rfl rfl hb30) rfl (by decide) ?_ rfl
      clear hf; intro a hf
      refine st_pick (v := .bool false) hf rfl rfl (fun hb' => ?_) (fun hb' => ?_) (by decide) ?_
      · exact absurd (hb30.symm.trans hb') (by decide)
      · rfl
      clear hf; intro a ha hf; clear ha
      refine st_nil hf (th_n ?_)
      exact ⟨hf.sub ⟨rfl, rfl, rfl, rfl, (by rw [hb30]; rfl), trivial⟩, hp⟩
    rintro a w ⟨hf, hp⟩
    refine st_nil hf ?_
    refine th_n ?_
    refine wp_if hf rfl (fun hb => ?_) (fun hb => ?_)
    · replace h := ifT h hb
      refine wp_skip ?_
      refine th_n ?_
      refine wp_seq ?_
      refine wp_block ?_
      refine wp_seq ?_
      refine wp_reg ?_
      refine st_move hf rfl rfl (by decide) ?_
      clear hf; intro a ha hf; clear ha
      refine st_move hf rfl rfl (by decide) ?_
      clear hf; intro a ha hf; clear ha
      obtain ⟨hc31, h⟩ := chk h
      refine st_index (E := (Ek.pair (Ek.int .u8) (Ek.pair (Ek.int .i64) (Ek.pair Ek.bool (Ek.pair (Ek.int .u8) (Ek.pair (Ek.int .u8) (Ek.pair Ek.bool Ek.str))))))) hf (by decide) Try.underlying22 elt33 rfl rfl rfl (hl1.sl hp) hc31.1 hc31.2 ?_
      clear hf; intro a ha hf; clear ha
      refine st_faP (off := 3) (sz := 4) hf (by decide) (by kernel_rfl) (by decide) rfl rfl (Sl.isP (hl1.sl hp) hc31.1 hc31.2) ?_
      clear hf; intro a ha hf; clear ha
      refine st_ldQX (F := (Ek.pair (Ek.int .u8) (Ek.pair (Ek.int .u8) (Ek.pair Ek.bool Ek.str)))) (yv := (gt l1 i9).2.2.2) (m := 4) (us := [.int .u8 (((gt l1 i9).2.2.2).1), .int .u8 (((gt l1 i9).2.2.2).2.1), .bool (((gt l1 i9).2.2.2).2.2.1), .string (((gt l1 i9).2.2.2).2.2.2)]) hf (by decide) (by kernel_rfl) rfl (fun cs9 h9 => by obtain ⟨_, _, rfl, rfl, ⟨_, _, rfl, rfl, ⟨_, _, rfl, rfl, rfl⟩⟩⟩ := h9; rfl) rfl rfl (Sl.part (E := (Ek.pair (Ek.int .u8) (Ek.pair (Ek.int .i64) (Ek.pair Ek.bool (Ek.pair (Ek.int .u8) (Ek.pair (Ek.int .u8) (Ek.pair Ek.bool Ek.str))))))) (F := (Ek.pair (Ek.int .u8) (Ek.pair (Ek.int .u8) (Ek.pair Ek.bool Ek.str)))) (o := 3) (Sub.comp (Sub.snd (E := (Ek.int .u8)) (F := (Ek.pair (Ek.int .i64) (Ek.pair Ek.bool (Ek.pair (Ek.int .u8) (Ek.pair (Ek.int .u8) (Ek.pair Ek.bool Ek.str))))))) (Sub.comp (Sub.snd (E := (Ek.int .i64)) (F := (Ek.pair Ek.bool (Ek.pair (Ek.int .u8) (Ek.pair (Ek.int .u8) (Ek.pair Ek.bool Ek.str)))))) (Sub.snd (E := Ek.bool) (F := (Ek.pair (Ek.int .u8) (Ek.pair (Ek.int .u8) (Ek.pair Ek.bool Ek.str))))))) (hl1.sl hp) hc31.1 hc31.2) ?_
      clear hf; intro a ha hf; clear ha
      refine st_alloc (cs := [.int .u8 (0 : Int), .int .u8 (0 : Int), .bool false, .string ByteArray.empty]) (zv := .agg #[.int .u8 (0 : Int), .int .u8 (0 : Int), .bool false, .string ByteArray.empty]) hf (by decide) (by kernel_rfl) rfl hp rfl ?_
      clear hf; intro a w v32 hf hp0; clear hp; have hp := hp0; clear hp0
      replace hp : Hp _ _ _ (Res.obj 31 v32 [.int .u8 (0 : Int), .int .u8 (0 : Int), .bool false, .string ByteArray.empty] :: Res.map (fun x : ByteArray => Value.string x) v21 xx5c_2 :: Res.obj 74 v3 [.int .i64 xx5c_0, .int .i64 xx5c_1, v21] :: Res.sl Ek.bool 4 v24 yx7c_2 :: Res.sl Ek.str 9 v26 yx7c_3 :: Res.obj 37 v7 [.int .i64 yx7c_0, .int .i64 yx7c_1, v24, v26] :: ow) := hp
      refine st_stO (us := [.int .u8 (((gt l1 i9).2.2.2).1), .int .u8 (((gt l1 i9).2.2.2).2.1), .bool (((gt l1 i9).2.2.2).2.2.1), .string (((gt l1 i9).2.2.2).2.2.2)]) hf hp (i := 0) rfl rfl rfl rfl rfl (by rfl) (by kernel_rfl) (Nat.le_of_ble_eq_true rfl) ?_
      clear hf; intro a w hf hp0; clear hp; have hp := hp0; clear hp0
      replace hp : Hp _ _ _ (Res.obj 31 v32 [.int .u8 (((gt l1 i9).2.2.2).1), .int .u8 (((gt l1 i9).2.2.2).2.1), .bool (((gt l1 i9).2.2.2).2.2.1), .string (((gt l1 i9).2.2.2).2.2.2)] :: Res.map (fun x : ByteArray => Value.string x) v21 xx5c_2 :: Res.obj 74 v3 [.int .i64 xx5c_0, .int .i64 xx5c_1, v21] :: Res.sl Ek.bool 4 v24 yx7c_2 :: Res.sl Ek.str 9 v26 yx7c_3 :: Res.obj 37 v7 [.int .i64 yx7c_0, .int .i64 yx7c_1, v24, v26] :: ow) := hp
      refine st_nil hf ?_
      refine th_n ?_
      refine wp_seq_cut (fun a w => ∃ (f10c_0 : Int) (f10c_1 : Int) (f10c_2 : Bool) (f10c_3 : ByteArray), f_foghornlaw28_AgainTakes.j1 xx5c_0 xx5c_1 xx5c_2 yx7c_0 yx7c_1 yx7c_2 yx7c_3 i9 f10c_0 f10c_1 f10c_2 f10c_3 = some x ∧ Fr 118 a [(1, vl1), (5, v3), (7, v7), (9, .int .i64 i9), (10, optr v32 0)] ∧ Hp S w0 w (Res.obj 31 v32 [.int .u8 f10c_0, .int .u8 f10c_1, .bool f10c_2, .string f10c_3] :: Res.obj 74 v3 [.int .i64 xx5c_0, .int .i64 xx5c_1, v21] :: Res.map (fun x : ByteArray => Value.string x) v21 xx5c_2 :: Res.obj 37 v7 [.int .i64 yx7c_0, .int .i64 yx7c_1, v24, v26] :: Res.sl Ek.bool 4 v24 yx7c_2 :: Res.sl Ek.str 9 v26 yx7c_3 :: ow)) ?_ ?_
      · skip
        refine wp_seq ?_
        refine wp_reg ?_
        refine st_move hf rfl rfl (by decide) ?_
        clear hf; intro a ha hf; clear ha
        refine st_move hf rfl rfl (by decide) ?_
        clear hf; intro a ha hf; clear ha
        obtain ⟨hc108, h⟩ := chk h
        refine st_index (E := (Ek.pair (Ek.int .u8) (Ek.pair (Ek.int .i64) (Ek.pair Ek.bool (Ek.pair (Ek.int .u8) (Ek.pair (Ek.int .u8) (Ek.pair Ek.bool Ek.str))))))) hf (by decide) Try.underlying22 elt33 rfl rfl rfl (hl1.sl hp) hc108.1 hc108.2 ?_
        clear hf; intro a ha hf; clear ha
        refine st_faP (off := 2) (sz := 1) hf (by decide) (by kernel_rfl) (by decide) rfl rfl (Sl.isP (hl1.sl hp) hc108.1 hc108.2) ?_
        clear hf; intro a ha hf; clear ha
        refine st_ldQ (F := Ek.bool) (yv := (gt l1 i9).2.2.1) hf (by decide) pl4 (fun x => .bool x) (fun _ _ h => h) rfl rfl (Sl.part (E := (Ek.pair (Ek.int .u8) (Ek.pair (Ek.int .i64) (Ek.pair Ek.bool (Ek.pair (Ek.int .u8) (Ek.pair (Ek.int .u8) (Ek.pair Ek.bool Ek.str))))))) (F := Ek.bool) (o := 2) (Sub.comp (Sub.snd (E := (Ek.int .u8)) (F := (Ek.pair (Ek.int .i64) (Ek.pair Ek.bool (Ek.pair (Ek.int .u8) (Ek.pair (Ek.int .u8) (Ek.pair Ek.bool Ek.str))))))) (Sub.comp (Sub.snd (E := (Ek.int .i64)) (F := (Ek.pair Ek.bool (Ek.pair (Ek.int .u8) (Ek.pair (Ek.int .u8) (Ek.pair Ek.bool Ek.str)))))) (Sub.fst (E := Ek.bool) (F := (Ek.pair (Ek.int .u8) (Ek.pair (Ek.int .u8) (Ek.pair Ek.bool Ek.str))))))) (hl1.sl hp) hc108.1 hc108.2) ?_
        clear hf; intro a ha hf; clear ha
        refine st_nil hf ?_
        refine th_n ?_
        refine wp_if hf rfl (fun hb => ?_) (fun hb => ?_)
        · replace h := ifT h hb
          obtain ⟨S109, hp110, rd111, up112, bk113⟩ := Hp.lendO hp (i := 5) rfl
          have rl114 := ((hl1.now hp).mono up112)
          have rl115 := rd111
          refine wp_cutN (fun a w => Fr 118 a [(1, vl1), (5, v3), (7, v7), (9, .int .i64 i9), (10, optr v32 0)] ∧ Hp S w0 w (Res.obj 37 v7 [.int .i64 yx7c_0, .int .i64 yx7c_1, v24, v26] :: Res.obj 31 v32 [.int .u8 (((gt l1 i9).2.2.2).1), .int .u8 (IntKind.u8.wrap (((((gt l1 i9).2.2.2).2.1).tmod (8 : Int)) + (IntKind.u8.wrap ((yx7c_1).tmod (256 : Int))))), .bool (((gt l1 i9).2.2.2).2.2.1), .string (((gt l1 i9).2.2.2).2.2.2)] :: Res.map (fun x : ByteArray => Value.string x) v21 xx5c_2 :: Res.obj 74 v3 [.int .i64 xx5c_0, .int .i64 xx5c_1, v21] :: Res.sl Ek.bool 4 v24 yx7c_2 :: Res.sl Ek.str 9 v26 yx7c_3 :: ow)) ?_ ?_
          · have hp := hp110.same (Same.drew w)
            refine dr_begin' (fun a w => Fr 118 a [(1, vl1), (5, v3), (7, v7), (9, .int .i64 i9), (10, optr v32 0)] ∧ Hp S w0 w (Res.obj 37 v7 [.int .i64 yx7c_0, .int .i64 yx7c_1, v24, v26] :: Res.obj 31 v32 [.int .u8 (((gt l1 i9).2.2.2).1), .int .u8 (IntKind.u8.wrap (((((gt l1 i9).2.2.2).2.1).tmod (8 : Int)) + (IntKind.u8.wrap ((yx7c_1).tmod (256 : Int))))), .bool (((gt l1 i9).2.2.2).2.2.1), .string (((gt l1 i9).2.2.2).2.2.2)] :: Res.map (fun x : ByteArray => Value.string x) v21 xx5c_2 :: Res.obj 74 v3 [.int .i64 xx5c_0, .int .i64 xx5c_1, v21] :: Res.sl Ek.bool 4 v24 yx7c_2 :: Res.sl Ek.str 9 v26 yx7c_3 :: ow)) (fun w' => ∃ l, Hp S109 w w' l) [] (by kernel_rfl) ?_
            refine dr_take 3 (v7) rfl (by kernel_rfl) (by kernel_rfl) (by kernel_rfl) (by kernel_rfl) rfl rfl hf (by decide) rfl (fun w hp => ?_) ⟨_, hp⟩ ?_
            · obtain ⟨_, hp⟩ := hp
              refine st_move hf rfl rfl (by decide) ?_
              clear hf; intro a ha hf
              exact st_nil hf (th_n ⟨ha, rfl⟩)
            clear hf; intro a hf
            refine dr_nilV 4 rfl (by kernel_rfl) (by kernel_rfl) (by kernel_rfl) hf (by decide) rfl rfl (rl115.ob hp) ?_
            clear hf; intro a hf
            refine dr_take 5 (optr v7 1) rfl (by kernel_rfl) (by kernel_rfl) (by kernel_rfl) (by kernel_rfl) rfl rfl hf (by decide) rfl (fun w hp => ?_) ⟨_, hp⟩ ?_
            · obtain ⟨_, hp⟩ := hp
              refine st_fa (o' := 1) hf (by decide) (off := 1) (sz := 1) (by kernel_rfl) (by decide) rfl rfl (rl115.ob hp) rfl ?_
              clear hf; intro a ha hf
              exact st_nil hf (th_n ⟨ha, rfl⟩)
            clear hf; intro a hf
            refine dr_take 6 (.int .i64 yx7c_1) rfl (by kernel_rfl) (by kernel_rfl) (by kernel_rfl) (by kernel_rfl) rfl rfl hf (by decide) rfl (fun w hp => ?_) ⟨_, hp⟩ ?_
            · obtain ⟨_, hp⟩ := hp
              refine st_ldO (u := .int .i64 yx7c_1) hf (by decide) pl3 rfl rfl (rl115.ob hp) rfl ?_
              clear hf; intro a ha hf
              exact st_nil hf (th_n ⟨ha, rfl⟩)
            clear hf; intro a hf
            refine dr_take 7 (.int .i64 ((yx7c_1).tmod (256 : Int))) rfl (by kernel_rfl) (by kernel_rfl) (by kernel_rfl) (by kernel_rfl) rfl rfl hf (by decide) rfl (fun w hp => ?_) ⟨_, hp⟩ ?_
            · obtain ⟨_, hp⟩ := hp
              refine st_irem hf (by decide) rfl rfl rfl (by decide) ?_
              clear hf; intro a ha hf
              exact st_nil hf (th_n ⟨ha, rfl⟩)
            clear hf; intro a hf
            refine dr_take 8 (.int .u8 (IntKind.u8.wrap ((yx7c_1).tmod (256 : Int)))) rfl (by kernel_rfl) (by kernel_rfl) (by kernel_rfl) (by kernel_rfl) rfl rfl hf (by decide) rfl (fun w hp => ?_) ⟨_, hp⟩ ?_
            · obtain ⟨_, hp⟩ := hp
              refine st_conv_ii hf (by decide) (by rw [Try.underlying3]; rfl) Try.underlying5 rfl rfl ?_
              clear hf; intro a ha hf
              exact st_nil hf (th_n ⟨ha, rfl⟩)
            clear hf; intro a hf
            refine dr_one 0 rfl (by kernel_rfl) ?_
            refine st_fa (o' := 1) hf (by decide) (off := 1) (sz := 1) (by kernel_rfl) (by decide) rfl rfl (hp.ob (i := 0) rfl) rfl ?_
            clear hf; intro a ha hf; clear ha
            refine st_nil hf (th_n ⟨fun _ _ => ⟨_, hp⟩, ?_⟩)
            refine dr_one 1 rfl (by kernel_rfl) ?_
            refine st_ldO (u := .int .u8 (((gt l1 i9).2.2.2).2.1)) hf (by decide) pl5 rfl rfl (hp.ob (i := 0) rfl) rfl ?_
            clear hf; intro a ha hf; clear ha
            refine st_nil hf (th_n ⟨fun _ _ => ⟨_, hp⟩, ?_⟩)
            refine dr_take 2 (.int .u8 ((((gt l1 i9).2.2.2).2.1).tmod (8 : Int))) rfl (by kernel_rfl) (by kernel_rfl) (by kernel_rfl) (by kernel_rfl) rfl rfl hf (by decide) rfl (fun w hp => ?_) ⟨_, hp⟩ ?_
            · obtain ⟨_, hp⟩ := hp
              refine st_irem hf (by decide) rfl rfl rfl (by decide) ?_
              clear hf; intro a ha hf
              exact st_nil hf (th_n ⟨ha, rfl⟩)
            clear hf; intro a hf
            refine dr_take 9 (.int .u8 (IntKind.u8.wrap (((((gt l1 i9).2.2.2).2.1).tmod (8 : Int)) + (IntKind.u8.wrap ((yx7c_1).tmod (256 : Int)))))) rfl (by kernel_rfl) (by kernel_rfl) (by kernel_rfl) (by kernel_rfl) rfl rfl hf (by decide) rfl (fun w hp => ?_) ⟨_, hp⟩ ?_
            · obtain ⟨_, hp⟩ := hp
              refine st_iadd hf (by decide) rfl rfl rfl ?_
              clear hf; intro a ha hf
              exact st_nil hf (th_n ⟨ha, rfl⟩)
            clear hf; intro a hf
            refine dr_one 10 rfl (by kernel_rfl) ?_
            refine st_fa (o' := 1) hf (by decide) (off := 1) (sz := 1) (by kernel_rfl) (by decide) rfl rfl (hp.ob (i := 0) rfl) rfl ?_
            clear hf; intro a ha hf; clear ha
            refine st_nil hf (th_n ⟨fun _ _ => ⟨_, hp⟩, ?_⟩)
            refine dr_one 11 rfl (by kernel_rfl) ?_
            refine st_stO (us := [.int .u8 (IntKind.u8.wrap (((((gt l1 i9).2.2.2).2.1).tmod (8 : Int)) + (IntKind.u8.wrap ((yx7c_1).tmod (256 : Int)))))]) hf hp (i := 0) rfl rfl rfl rfl rfl (by rfl) (by kernel_rfl) (Nat.le_of_ble_eq_true rfl) ?_
            clear hf; intro a w hf hp0; clear hp; have hp := hp0; clear hp0
            replace hp : Hp _ _ _ (Res.obj 31 v32 [.int .u8 (((gt l1 i9).2.2.2).1), .int .u8 (IntKind.u8.wrap (((((gt l1 i9).2.2.2).2.1).tmod (8 : Int)) + (IntKind.u8.wrap ((yx7c_1).tmod (256 : Int))))), .bool (((gt l1 i9).2.2.2).2.2.1), .string (((gt l1 i9).2.2.2).2.2.2)] :: Res.map (fun x : ByteArray => Value.string x) v21 xx5c_2 :: Res.obj 74 v3 [.int .i64 xx5c_0, .int .i64 xx5c_1, v21] :: Res.sl Ek.bool 4 v24 yx7c_2 :: Res.sl Ek.str 9 v26 yx7c_3 :: ow) := hp
            refine st_nil hf (th_n ⟨fun _ _ => ⟨_, hp⟩, ?_⟩)
            refine dr_end (by kernel_rfl) ?_ _
            have hp := bk113 _ _ hp
            exact ⟨hf.sub ⟨rfl, rfl, rfl, rfl, rfl, trivial⟩, hp⟩
          rintro a w ⟨hf, hp⟩
          have hp : Hp _ _ _ (Res.obj 31 v32 [.int .u8 (((gt l1 i9).2.2.2).1), .int .u8 (IntKind.u8.wrap (((((gt l1 i9).2.2.2).2.1).tmod (8 : Int)) + (IntKind.u8.wrap ((yx7c_1).tmod (256 : Int))))), .bool (((gt l1 i9).2.2.2).2.2.1), .string (((gt l1 i9).2.2.2).2.2.2)] :: Res.obj 74 v3 [.int .i64 xx5c_0, .int .i64 xx5c_1, v21] :: Res.map (fun x : ByteArray => Value.string x) v21 xx5c_2 :: Res.obj 37 v7 [.int .i64 yx7c_0, .int .i64 yx7c_1, v24, v26] :: Res.sl Ek.bool 4 v24 yx7c_2 :: Res.sl Ek.str 9 v26 yx7c_3 :: ow) := Hp.sel (pre := [Res.obj 37 v7 [.int .i64 yx7c_0, .int .i64 yx7c_1, v24, v26], Res.obj 31 v32 [.int .u8 (((gt l1 i9).2.2.2).1), .int .u8 (IntKind.u8.wrap (((((gt l1 i9).2.2.2).2.1).tmod (8 : Int)) + (IntKind.u8.wrap ((yx7c_1).tmod (256 : Int))))), .bool (((gt l1 i9).2.2.2).2.2.1), .string (((gt l1 i9).2.2.2).2.2.2)], Res.map (fun x : ByteArray => Value.string x) v21 xx5c_2, Res.obj 74 v3 [.int .i64 xx5c_0, .int .i64 xx5c_1, v21], Res.sl Ek.bool 4 v24 yx7c_2, Res.sl Ek.str 9 v26 yx7c_3]) (tail := ow) (rs' := [Res.obj 31 v32 [.int .u8 (((gt l1 i9).2.2.2).1), .int .u8 (IntKind.u8.wrap (((((gt l1 i9).2.2.2).2.1).tmod (8 : Int)) + (IntKind.u8.wrap ((yx7c_1).tmod (256 : Int))))), .bool (((gt l1 i9).2.2.2).2.2.1), .string (((gt l1 i9).2.2.2).2.2.2)], Res.obj 74 v3 [.int .i64 xx5c_0, .int .i64 xx5c_1, v21], Res.map (fun x : ByteArray => Value.string x) v21 xx5c_2, Res.obj 37 v7 [.int .i64 yx7c_0, .int .i64 yx7c_1, v24, v26], Res.sl Ek.bool 4 v24 yx7c_2, Res.sl Ek.str 9 v26 yx7c_3]) hp [1, 3, 2, 0, 4, 5] (by decide) (by simp) rfl
          refine th_n ?_
          exact ⟨_, _, _, _, h, hf.sub ⟨rfl, rfl, rfl, rfl, rfl, trivial⟩, hp⟩
        replace h := ifF h hb
        refine wp_skip ?_
        have hp : Hp _ _ _ (Res.obj 31 v32 [.int .u8 (((gt l1 i9).2.2.2).1), .int .u8 (((gt l1 i9).2.2.2).2.1), .bool (((gt l1 i9).2.2.2).2.2.1), .string (((gt l1 i9).2.2.2).2.2.2)] :: Res.obj 74 v3 [.int .i64 xx5c_0, .int .i64 xx5c_1, v21] :: Res.map (fun x : ByteArray => Value.string x) v21 xx5c_2 :: Res.obj 37 v7 [.int .i64 yx7c_0, .int .i64 yx7c_1, v24, v26] :: Res.sl Ek.bool 4 v24 yx7c_2 :: Res.sl Ek.str 9 v26 yx7c_3 :: ow) := Hp.sel (pre := [Res.obj 31 v32 [.int .u8 (((gt l1 i9).2.2.2).1), .int .u8 (((gt l1 i9).2.2.2).2.1), .bool (((gt l1 i9).2.2.2).2.2.1), .string (((gt l1 i9).2.2.2).2.2.2)], Res.map (fun x : ByteArray => Value.string x) v21 xx5c_2, Res.obj 74 v3 [.int .i64 xx5c_0, .int .i64 xx5c_1, v21], Res.sl Ek.bool 4 v24 yx7c_2, Res.sl Ek.str 9 v26 yx7c_3, Res.obj 37 v7 [.int .i64 yx7c_0, .int .i64 yx7c_1, v24, v26]]) (tail := ow) (rs' := [Res.obj 31 v32 [.int .u8 (((gt l1 i9).2.2.2).1), .int .u8 (((gt l1 i9).2.2.2).2.1), .bool (((gt l1 i9).2.2.2).2.2.1), .string (((gt l1 i9).2.2.2).2.2.2)], Res.obj 74 v3 [.int .i64 xx5c_0, .int .i64 xx5c_1, v21], Res.map (fun x : ByteArray => Value.string x) v21 xx5c_2, Res.obj 37 v7 [.int .i64 yx7c_0, .int .i64 yx7c_1, v24, v26], Res.sl Ek.bool 4 v24 yx7c_2, Res.sl Ek.str 9 v26 yx7c_3]) hp [0, 2, 1, 5, 3, 4] (by decide) (by simp) rfl
        refine th_n ?_
        exact ⟨_, _, _, _, h, hf.sub ⟨rfl, rfl, rfl, rfl, rfl, trivial⟩, hp⟩
      rintro a w ⟨f10c_0, f10c_1, f10c_2, f10c_3, h, hf, hp⟩
      unfold f_foghornlaw28_AgainTakes.j1 at h
      refine wp_seq ?_
      refine wp_reg ?_
      refine st_move hf rfl rfl (by decide) ?_
      clear hf; intro a ha hf; clear ha
      refine st_ldOA (m := 4) (us := [.int .u8 f10c_0, .int .u8 f10c_1, .bool f10c_2, .string f10c_3]) hf (by decide) (by kernel_rfl) rfl rfl (hp.ob (i := 0) rfl) rfl rfl ?_
      clear hf; intro a ha hf; clear ha
      obtain ⟨q35, hcall36, h⟩ := bnd h
      have hp37 : Hp _ _ _ (Res.map (fun x : ByteArray => Value.string x) v21 xx5c_2 :: Res.obj 74 v3 [.int .i64 xx5c_0, .int .i64 xx5c_1, v21] :: Res.obj 31 v32 [.int .u8 f10c_0, .int .u8 f10c_1, .bool f10c_2, .string f10c_3] :: Res.obj 37 v7 [.int .i64 yx7c_0, .int .i64 yx7c_1, v24, v26] :: Res.sl Ek.bool 4 v24 yx7c_2 :: Res.sl Ek.str 9 v26 yx7c_3 :: ow) := Hp.sel (pre := [Res.obj 31 v32 [.int .u8 f10c_0, .int .u8 f10c_1, .bool f10c_2, .string f10c_3], Res.obj 74 v3 [.int .i64 xx5c_0, .int .i64 xx5c_1, v21], Res.map (fun x : ByteArray => Value.string x) v21 xx5c_2, Res.obj 37 v7 [.int .i64 yx7c_0, .int .i64 yx7c_1, v24, v26], Res.sl Ek.bool 4 v24 yx7c_2, Res.sl Ek.str 9 v26 yx7c_3]) (tail := ow) (rs' := [Res.map (fun x : ByteArray => Value.string x) v21 xx5c_2, Res.obj 74 v3 [.int .i64 xx5c_0, .int .i64 xx5c_1, v21], Res.obj 31 v32 [.int .u8 f10c_0, .int .u8 f10c_1, .bool f10c_2, .string f10c_3], Res.obj 37 v7 [.int .i64 yx7c_0, .int .i64 yx7c_1, v24, v26], Res.sl Ek.bool 4 v24 yx7c_2, Res.sl Ek.str 9 v26 yx7c_3]) hp [2, 1, 0, 3, 4, 5] (by decide) (by simp) rfl
      refine st_call hf (by decide) Try.func10 rfl rfl rfl rfl rfl (f_again_Receiver_Take_c _ _ _ _ _ _ _ _ _ hp37 hcall36) ?_
      rintro _ w ⟨v38, v39, rfl, hp0⟩
      clear hp; have hp := hp0; clear hp0
      replace hp : Hp _ _ _ (Res.sl Ek.str 9 v38 q35.1 :: Res.map (fun x : ByteArray => Value.string x) v39 q35.2.2.2.2.2 :: Res.obj 74 v3 [.int .i64 q35.2.2.2.1, .int .i64 q35.2.2.2.2.1, v39] :: Res.obj 31 v32 [.int .u8 f10c_0, .int .u8 f10c_1, .bool f10c_2, .string f10c_3] :: Res.obj 37 v7 [.int .i64 yx7c_0, .int .i64 yx7c_1, v24, v26] :: Res.sl Ek.bool 4 v24 yx7c_2 :: Res.sl Ek.str 9 v26 yx7c_3 :: ow) := hp
      refine ⟨_, rfl, ?_⟩
      clear hf; intro a hf
      refine st_move hf rfl rfl (by decide) ?_
      clear hf; intro a ha hf; clear ha
      refine st_extract hf (by decide) rfl rfl rfl ?_
      clear hf; intro a ha hf; clear ha
      refine st_extract hf (by decide) rfl rfl rfl ?_
      clear hf; intro a ha hf; clear ha
      refine st_extract hf (by decide) rfl rfl rfl ?_
      clear hf; intro a ha hf; clear ha
      refine st_alloc (cs := [.int .u8 (0 : Int), .int .u8 (0 : Int), .bool false, .string ByteArray.empty]) (zv := .agg #[.int .u8 (0 : Int), .int .u8 (0 : Int), .bool false, .string ByteArray.empty]) hf (by decide) (by kernel_rfl) rfl hp rfl ?_
      clear hf; intro a w v42 hf hp0; clear hp; have hp := hp0; clear hp0
      replace hp : Hp _ _ _ (Res.obj 31 v42 [.int .u8 (0 : Int), .int .u8 (0 : Int), .bool false, .string ByteArray.empty] :: Res.sl Ek.str 9 v38 q35.1 :: Res.map (fun x : ByteArray => Value.string x) v39 q35.2.2.2.2.2 :: Res.obj 74 v3 [.int .i64 q35.2.2.2.1, .int .i64 q35.2.2.2.2.1, v39] :: Res.obj 31 v32 [.int .u8 f10c_0, .int .u8 f10c_1, .bool f10c_2, .string f10c_3] :: Res.obj 37 v7 [.int .i64 yx7c_0, .int .i64 yx7c_1, v24, v26] :: Res.sl Ek.bool 4 v24 yx7c_2 :: Res.sl Ek.str 9 v26 yx7c_3 :: ow) := hp
      refine st_assign hf rfl rfl (by decide) ?_
      clear hf; intro a ha hf; clear ha
      refine st_stO (us := [.int .u8 q35.2.1.1, .int .u8 q35.2.1.2.1, .bool q35.2.1.2.2.1, .string q35.2.1.2.2.2]) hf hp (i := 0) rfl rfl rfl rfl rfl (by rfl) (by kernel_rfl) (Nat.le_of_ble_eq_true rfl) ?_
      clear hf; intro a w hf hp0; clear hp; have hp := hp0; clear hp0
      replace hp : Hp _ _ _ (Res.obj 31 v42 [.int .u8 q35.2.1.1, .int .u8 q35.2.1.2.1, .bool q35.2.1.2.2.1, .string q35.2.1.2.2.2] :: Res.sl Ek.str 9 v38 q35.1 :: Res.map (fun x : ByteArray => Value.string x) v39 q35.2.2.2.2.2 :: Res.obj 74 v3 [.int .i64 q35.2.2.2.1, .int .i64 q35.2.2.2.2.1, v39] :: Res.obj 31 v32 [.int .u8 f10c_0, .int .u8 f10c_1, .bool f10c_2, .string f10c_3] :: Res.obj 37 v7 [.int .i64 yx7c_0, .int .i64 yx7c_1, v24, v26] :: Res.sl Ek.bool 4 v24 yx7c_2 :: Res.sl Ek.str 9 v26 yx7c_3 :: ow) := hp
      refine st_assign hf rfl rfl (by decide) ?_
      clear hf; intro a ha hf; clear ha
      refine st_nil hf ?_
      refine th_n ?_
      refine wp_seq ?_
      refine wp_reg ?_
      refine st_move hf rfl rfl (by decide) ?_
      clear hf; intro a ha hf; clear ha
      refine st_ldOA (m := 4) (us := [.int .u8 f10c_0, .int .u8 f10c_1, .bool f10c_2, .string f10c_3]) hf (by decide) (by kernel_rfl) rfl rfl (hp.ob (i := 4) rfl) rfl rfl ?_
      clear hf; intro a ha hf; clear ha
      obtain ⟨q44, hcall45, h⟩ := bnd h
      have hp46 : Hp _ _ _ (Res.sl Ek.bool 4 v24 yx7c_2 :: Res.sl Ek.str 9 v26 yx7c_3 :: Res.obj 37 v7 [.int .i64 yx7c_0, .int .i64 yx7c_1, v24, v26] :: Res.obj 31 v42 [.int .u8 q35.2.1.1, .int .u8 q35.2.1.2.1, .bool q35.2.1.2.2.1, .string q35.2.1.2.2.2] :: Res.sl Ek.str 9 v38 q35.1 :: Res.map (fun x : ByteArray => Value.string x) v39 q35.2.2.2.2.2 :: Res.obj 74 v3 [.int .i64 q35.2.2.2.1, .int .i64 q35.2.2.2.2.1, v39] :: Res.obj 31 v32 [.int .u8 f10c_0, .int .u8 f10c_1, .bool f10c_2, .string f10c_3] :: ow) := Hp.sel (pre := [Res.obj 31 v42 [.int .u8 q35.2.1.1, .int .u8 q35.2.1.2.1, .bool q35.2.1.2.2.1, .string q35.2.1.2.2.2], Res.sl Ek.str 9 v38 q35.1, Res.map (fun x : ByteArray => Value.string x) v39 q35.2.2.2.2.2, Res.obj 74 v3 [.int .i64 q35.2.2.2.1, .int .i64 q35.2.2.2.2.1, v39], Res.obj 31 v32 [.int .u8 f10c_0, .int .u8 f10c_1, .bool f10c_2, .string f10c_3], Res.obj 37 v7 [.int .i64 yx7c_0, .int .i64 yx7c_1, v24, v26], Res.sl Ek.bool 4 v24 yx7c_2, Res.sl Ek.str 9 v26 yx7c_3]) (tail := ow) (rs' := [Res.sl Ek.bool 4 v24 yx7c_2, Res.sl Ek.str 9 v26 yx7c_3, Res.obj 37 v7 [.int .i64 yx7c_0, .int .i64 yx7c_1, v24, v26], Res.obj 31 v42 [.int .u8 q35.2.1.1, .int .u8 q35.2.1.2.1, .bool q35.2.1.2.2.1, .string q35.2.1.2.2.2], Res.sl Ek.str 9 v38 q35.1, Res.map (fun x : ByteArray => Value.string x) v39 q35.2.2.2.2.2, Res.obj 74 v3 [.int .i64 q35.2.2.2.1, .int .i64 q35.2.2.2.2.1, v39], Res.obj 31 v32 [.int .u8 f10c_0, .int .u8 f10c_1, .bool f10c_2, .string f10c_3]]) hp [6, 7, 5, 0, 1, 2, 3, 4] (by decide) (by simp) rfl
      refine st_call hf (by decide) Try.func11 rfl rfl rfl rfl rfl (f_foghornref28_Receiver_Take_c _ _ _ _ _ _ _ _ _ _ _ hp46 hcall45) ?_
      rintro _ w ⟨v47, v48, v49, rfl, hp0⟩
      clear hp; have hp := hp0; clear hp0
      replace hp : Hp _ _ _ (Res.sl Ek.str 9 v47 q44.1 :: Res.sl Ek.bool 4 v48 q44.2.2.2.2.2.1 :: Res.sl Ek.str 9 v49 q44.2.2.2.2.2.2 :: Res.obj 37 v7 [.int .i64 q44.2.2.2.1, .int .i64 q44.2.2.2.2.1, v48, v49] :: Res.obj 31 v42 [.int .u8 q35.2.1.1, .int .u8 q35.2.1.2.1, .bool q35.2.1.2.2.1, .string q35.2.1.2.2.2] :: Res.sl Ek.str 9 v38 q35.1 :: Res.map (fun x : ByteArray => Value.string x) v39 q35.2.2.2.2.2 :: Res.obj 74 v3 [.int .i64 q35.2.2.2.1, .int .i64 q35.2.2.2.2.1, v39] :: Res.obj 31 v32 [.int .u8 f10c_0, .int .u8 f10c_1, .bool f10c_2, .string f10c_3] :: ow) := hp
      refine ⟨_, rfl, ?_⟩
      clear hf; intro a hf
      refine st_move hf rfl rfl (by decide) ?_
      clear hf; intro a ha hf; clear ha
      refine st_extract hf (by decide) rfl rfl rfl ?_
      clear hf; intro a ha hf; clear ha
      refine st_extract hf (by decide) rfl rfl rfl ?_
      clear hf; intro a ha hf; clear ha
      refine st_extract hf (by decide) rfl rfl rfl ?_
      clear hf; intro a ha hf; clear ha
      refine st_alloc (cs := [.int .u8 (0 : Int), .int .u8 (0 : Int), .bool false, .string ByteArray.empty]) (zv := .agg #[.int .u8 (0 : Int), .int .u8 (0 : Int), .bool false, .string ByteArray.empty]) hf (by decide) (by kernel_rfl) rfl hp rfl ?_
      clear hf; intro a w v53 hf hp0; clear hp; have hp := hp0; clear hp0
      replace hp : Hp _ _ _ (Res.obj 31 v53 [.int .u8 (0 : Int), .int .u8 (0 : Int), .bool false, .string ByteArray.empty] :: Res.sl Ek.str 9 v47 q44.1 :: Res.sl Ek.bool 4 v48 q44.2.2.2.2.2.1 :: Res.sl Ek.str 9 v49 q44.2.2.2.2.2.2 :: Res.obj 37 v7 [.int .i64 q44.2.2.2.1, .int .i64 q44.2.2.2.2.1, v48, v49] :: Res.obj 31 v42 [.int .u8 q35.2.1.1, .int .u8 q35.2.1.2.1, .bool q35.2.1.2.2.1, .string q35.2.1.2.2.2] :: Res.sl Ek.str 9 v38 q35.1 :: Res.map (fun x : ByteArray => Value.string x) v39 q35.2.2.2.2.2 :: Res.obj 74 v3 [.int .i64 q35.2.2.2.1, .int .i64 q35.2.2.2.2.1, v39] :: Res.obj 31 v32 [.int .u8 f10c_0, .int .u8 f10c_1, .bool f10c_2, .string f10c_3] :: ow) := hp
      refine st_assign hf rfl rfl (by decide) ?_
      clear hf; intro a ha hf; clear ha
      refine st_stO (us := [.int .u8 q44.2.1.1, .int .u8 q44.2.1.2.1, .bool q44.2.1.2.2.1, .string q44.2.1.2.2.2]) hf hp (i := 0) rfl rfl rfl rfl rfl (by rfl) (by kernel_rfl) (Nat.le_of_ble_eq_true rfl) ?_
      clear hf; intro a w hf hp0; clear hp; have hp := hp0; clear hp0
      replace hp : Hp _ _ _ (Res.obj 31 v53 [.int .u8 q44.2.1.1, .int .u8 q44.2.1.2.1, .bool q44.2.1.2.2.1, .string q44.2.1.2.2.2] :: Res.sl Ek.str 9 v47 q44.1 :: Res.sl Ek.bool 4 v48 q44.2.2.2.2.2.1 :: Res.sl Ek.str 9 v49 q44.2.2.2.2.2.2 :: Res.obj 37 v7 [.int .i64 q44.2.2.2.1, .int .i64 q44.2.2.2.2.1, v48, v49] :: Res.obj 31 v42 [.int .u8 q35.2.1.1, .int .u8 q35.2.1.2.1, .bool q35.2.1.2.2.1, .string q35.2.1.2.2.2] :: Res.sl Ek.str 9 v38 q35.1 :: Res.map (fun x : ByteArray => Value.string x) v39 q35.2.2.2.2.2 :: Res.obj 74 v3 [.int .i64 q35.2.2.2.1, .int .i64 q35.2.2.2.2.1, v39] :: Res.obj 31 v32 [.int .u8 f10c_0, .int .u8 f10c_1, .bool f10c_2, .string f10c_3] :: ow) := hp
      refine st_assign hf rfl rfl (by decide) ?_
      clear hf; intro a ha hf; clear ha
      refine st_nil hf ?_
      refine th_n ?_
      refine wp_seq ?_
      refine wp_seq ?_
      obtain ⟨S55, hp56, rd57, up58, bk59⟩ := Hp.lendO hp (i := 5) rfl
      obtain ⟨S60, hp61, rd62, up63, bk64⟩ := Hp.lendO hp56 (i := 0) rfl
      obtain ⟨S65, hp66, rd67, up68, bk69⟩ := Hp.lendO hp61 (i := 3) rfl
      have rl70 := ((((((hl1.now hp).mono up58).now hp56).mono up63).now hp61).mono up68)
      have rl71 := rd67
      have rl72 := ((((rd57.now hp56).mono up63).now hp61).mono up68)
      have rl73 := ((rd62.now hp61).mono up68)
      obtain ⟨z88, hz74, h⟩ := bnd h
      obtain ⟨z93, hz89, h⟩ := bnd h
      obtain ⟨z103, hz94, h⟩ := bnd h
      refine wp_cutN (fun a w => Fr 118 a [(1, vl1), (5, v3), (7, v7), (9, .int .i64 i9), (11, v38), (108, .bool z103)] ∧ Hp S w0 w (Res.obj 31 v42 [.int .u8 q35.2.1.1, .int .u8 q35.2.1.2.1, .bool q35.2.1.2.2.1, .string q35.2.1.2.2.2] :: Res.obj 31 v53 [.int .u8 q44.2.1.1, .int .u8 q44.2.1.2.1, .bool q44.2.1.2.2.1, .string q44.2.1.2.2.2] :: Res.obj 37 v7 [.int .i64 q44.2.2.2.1, .int .i64 q44.2.2.2.2.1, v48, v49] :: Res.sl Ek.str 9 v47 q44.1 :: Res.sl Ek.bool 4 v48 q44.2.2.2.2.2.1 :: Res.sl Ek.str 9 v49 q44.2.2.2.2.2.2 :: Res.sl Ek.str 9 v38 q35.1 :: Res.map (fun x : ByteArray => Value.string x) v39 q35.2.2.2.2.2 :: Res.obj 74 v3 [.int .i64 q35.2.2.2.1, .int .i64 q35.2.2.2.2.1, v39] :: Res.obj 31 v32 [.int .u8 f10c_0, .int .u8 f10c_1, .bool f10c_2, .string f10c_3] :: ow)) ?_ ?_
      · have hp := hp66.same (Same.drew w)
        rcases Bool.eq_false_or_eq_true (q35.2.2.1 != q44.2.2.1) with hb75 | hb75
        · skip
          replace hz74 := ifT hz74 hb75
          replace hz74 := Option.some.inj hz74
          have hb90 : z88 = true := hz74.symm
          skip
          replace hz89 := ifT hz89 hb90
          replace hz89 := Option.some.inj hz89
          have hb95 : z93 = true := hz89.symm
          skip
          replace hz94 := ifT hz94 hb95
          replace hz94 := Option.some.inj hz94
          refine dr_begin' (fun a w => Fr 118 a [(1, vl1), (5, v3), (7, v7), (9, .int .i64 i9), (11, v38), (108, .bool z103)] ∧ Hp S w0 w (Res.obj 31 v42 [.int .u8 q35.2.1.1, .int .u8 q35.2.1.2.1, .bool q35.2.1.2.2.1, .string q35.2.1.2.2.2] :: Res.obj 31 v53 [.int .u8 q44.2.1.1, .int .u8 q44.2.1.2.1, .bool q44.2.1.2.2.1, .string q44.2.1.2.2.2] :: Res.obj 37 v7 [.int .i64 q44.2.2.2.1, .int .i64 q44.2.2.2.2.1, v48, v49] :: Res.sl Ek.str 9 v47 q44.1 :: Res.sl Ek.bool 4 v48 q44.2.2.2.2.2.1 :: Res.sl Ek.str 9 v49 q44.2.2.2.2.2.2 :: Res.sl Ek.str 9 v38 q35.1 :: Res.map (fun x : ByteArray => Value.string x) v39 q35.2.2.2.2.2 :: Res.obj 74 v3 [.int .i64 q35.2.2.2.1, .int .i64 q35.2.2.2.2.1, v39] :: Res.obj 31 v32 [.int .u8 f10c_0, .int .u8 f10c_1, .bool f10c_2, .string f10c_3] :: ow)) (fun w' => ∃ l, Hp S65 w w' l) [] (by kernel_rfl) ?_
          refine dr_take 0 (.int .i64 q35.2.2.1) rfl (by kernel_rfl) (by kernel_rfl) (by kernel_rfl) (by kernel_rfl) rfl rfl hf (by decide) rfl (fun w hp => ?_) ⟨_, hp⟩ ?_
          · obtain ⟨_, hp⟩ := hp
            refine st_move hf rfl rfl (by decide) ?_
            clear hf; intro a ha hf
            exact st_nil hf (th_n ⟨ha, rfl⟩)
          clear hf; intro a hf
          refine dr_take 1 (.int .i64 q44.2.2.1) rfl (by kernel_rfl) (by kernel_rfl) (by kernel_rfl) (by kernel_rfl) rfl rfl hf (by decide) rfl (fun w hp => ?_) ⟨_, hp⟩ ?_
          · obtain ⟨_, hp⟩ := hp
            refine st_move hf rfl rfl (by decide) ?_
            clear hf; intro a ha hf
            exact st_nil hf (th_n ⟨ha, rfl⟩)
          clear hf; intro a hf
          refine dr_take 2 (.bool (q35.2.2.1 != q44.2.2.1)) rfl (by kernel_rfl) (by kernel_rfl) (by kernel_rfl) (by kernel_rfl) rfl rfl hf (by decide) rfl (fun w hp => ?_) ⟨_, hp⟩ ?_
          · obtain ⟨_, hp⟩ := hp
            refine st_ineq hf (by decide) rfl rfl rfl ?_
            clear hf; intro a ha hf
            exact st_nil hf (th_n ⟨ha, rfl⟩)
          clear hf; intro a hf
          refine dr_take 3 (.bool (q35.2.2.1 != q44.2.2.1)) rfl (by kernel_rfl) (by kernel_rfl) (by kernel_rfl) (by kernel_rfl) rfl rfl hf (by decide) rfl (fun w hp => ?_) ⟨_, hp⟩ ?_
          · obtain ⟨_, hp⟩ := hp
            refine st_move hf rfl rfl (by decide) ?_
            clear hf; intro a ha hf
            exact st_nil hf (th_n ⟨ha, rfl⟩)
          clear hf; intro a hf
          refine dr_out 4 rfl (by kernel_rfl) (by kernel_rfl) (by kernel_rfl) (by kernel_rfl) rfl hf (by decide) rfl (wantN hf rfl rfl hb75) ⟨_, hp⟩ ?_
          clear hf; intro a hf
          refine dr_out 5 rfl (by kernel_rfl) (by kernel_rfl) (by kernel_rfl) (by kernel_rfl) rfl hf (by decide) rfl (wantN hf rfl rfl hb75) ⟨_, hp⟩ ?_
          clear hf; intro a hf
          refine dr_out 6 rfl (by kernel_rfl) (by kernel_rfl) (by kernel_rfl) (by kernel_rfl) rfl hf (by decide) rfl (wantN hf rfl rfl hb75) ⟨_, hp⟩ ?_
          clear hf; intro a hf
          refine dr_out 7 rfl (by kernel_rfl) (by kernel_rfl) (by kernel_rfl) (by kernel_rfl) rfl hf (by decide) rfl (wantN hf rfl rfl hb75) ⟨_, hp⟩ ?_
          clear hf; intro a hf
          refine dr_take 8 (.bool z88) rfl (by kernel_rfl) (by kernel_rfl) (by kernel_rfl) (by kernel_rfl) rfl rfl hf (by decide) rfl (fun w hp => ?_) ⟨_, hp⟩ ?_
          · obtain ⟨_, hp⟩ := hp
            refine st_pick (v := .bool z88) hf rfl rfl (fun _ => by rw [← hz74]; rfl) (fun hb' => absurd (hb75.symm.trans hb') (by decide)) (by decide) ?_
            clear hf; intro a ha hf
            exact st_nil hf (th_n ⟨ha, rfl⟩)
          clear hf; intro a hf
          refine dr_take 9 (.bool z88) rfl (by kernel_rfl) (by kernel_rfl) (by kernel_rfl) (by kernel_rfl) rfl rfl hf (by decide) rfl (fun w hp => ?_) ⟨_, hp⟩ ?_
          · obtain ⟨_, hp⟩ := hp
            refine st_move hf rfl rfl (by decide) ?_
            clear hf; intro a ha hf
            exact st_nil hf (th_n ⟨ha, rfl⟩)
          clear hf; intro a hf
          refine dr_out 10 rfl (by kernel_rfl) (by kernel_rfl) (by kernel_rfl) (by kernel_rfl) rfl hf (by decide) rfl (wantN hf rfl rfl hb90) ⟨_, hp⟩ ?_
          clear hf; intro a hf
          refine dr_out 11 rfl (by kernel_rfl) (by kernel_rfl) (by kernel_rfl) (by kernel_rfl) rfl hf (by decide) rfl (wantN hf rfl rfl hb90) ⟨_, hp⟩ ?_
          clear hf; intro a hf
          refine dr_out 12 rfl (by kernel_rfl) (by kernel_rfl) (by kernel_rfl) (by kernel_rfl) rfl hf (by decide) rfl (wantN hf rfl rfl hb90) ⟨_, hp⟩ ?_
          clear hf; intro a hf
          refine dr_out 13 rfl (by kernel_rfl) (by kernel_rfl) (by kernel_rfl) (by kernel_rfl) rfl hf (by decide) rfl (wantN hf rfl rfl hb90) ⟨_, hp⟩ ?_
          clear hf; intro a hf
          refine dr_take 14 (.bool z93) rfl (by kernel_rfl) (by kernel_rfl) (by kernel_rfl) (by kernel_rfl) rfl rfl hf (by decide) rfl (fun w hp => ?_) ⟨_, hp⟩ ?_
          · obtain ⟨_, hp⟩ := hp
            refine st_pick (v := .bool z93) hf rfl rfl (fun _ => by rw [← hz89]; rfl) (fun hb' => absurd (hb90.symm.trans hb') (by decide)) (by decide) ?_
            clear hf; intro a ha hf
            exact st_nil hf (th_n ⟨ha, rfl⟩)
          clear hf; intro a hf
          refine dr_take 15 (.bool z93) rfl (by kernel_rfl) (by kernel_rfl) (by kernel_rfl) (by kernel_rfl) rfl rfl hf (by decide) rfl (fun w hp => ?_) ⟨_, hp⟩ ?_
          · obtain ⟨_, hp⟩ := hp
            refine st_move hf rfl rfl (by decide) ?_
            clear hf; intro a ha hf
            exact st_nil hf (th_n ⟨ha, rfl⟩)
          clear hf; intro a hf
          refine dr_out 16 rfl (by kernel_rfl) (by kernel_rfl) (by kernel_rfl) (by kernel_rfl) rfl hf (by decide) rfl (wantN hf rfl rfl hb95) ⟨_, hp⟩ ?_
          clear hf; intro a hf
          refine dr_out 17 rfl (by kernel_rfl) (by kernel_rfl) (by kernel_rfl) (by kernel_rfl) rfl hf (by decide) rfl (wantN hf rfl rfl hb95) ⟨_, hp⟩ ?_
          clear hf; intro a hf
          refine dr_out 18 rfl (by kernel_rfl) (by kernel_rfl) (by kernel_rfl) (by kernel_rfl) rfl hf (by decide) rfl (wantN hf rfl rfl hb95) ⟨_, hp⟩ ?_
          clear hf; intro a hf
          refine dr_outP 19 rfl (by kernel_rfl) (by kernel_rfl) (by kernel_rfl) rfl hf (by decide) (wantN hf rfl rfl hb95) ?_
          clear hf; intro a hf
          refine dr_out 20 rfl (by kernel_rfl) (by kernel_rfl) (by kernel_rfl) (by kernel_rfl) rfl hf (by decide) rfl (wantN hf rfl rfl hb95) ⟨_, hp⟩ ?_
          clear hf; intro a hf
          refine dr_out 21 rfl (by kernel_rfl) (by kernel_rfl) (by kernel_rfl) (by kernel_rfl) rfl hf (by decide) rfl (wantN hf rfl rfl hb95) ⟨_, hp⟩ ?_
          clear hf; intro a hf
          refine dr_out 22 rfl (by kernel_rfl) (by kernel_rfl) (by kernel_rfl) (by kernel_rfl) rfl hf (by decide) rfl (wantN hf rfl rfl hb95) ⟨_, hp⟩ ?_
          clear hf; intro a hf
          refine dr_take 23 (.bool z103) rfl (by kernel_rfl) (by kernel_rfl) (by kernel_rfl) (by kernel_rfl) rfl rfl hf (by decide) rfl (fun w hp => ?_) ⟨_, hp⟩ ?_
          · obtain ⟨_, hp⟩ := hp
            refine st_pick (v := .bool z103) hf rfl rfl (fun _ => by rw [← hz94]; rfl) (fun hb' => absurd (hb95.symm.trans hb') (by decide)) (by decide) ?_
            clear hf; intro a ha hf
            exact st_nil hf (th_n ⟨ha, rfl⟩)
          clear hf; intro a hf
          refine dr_end (by kernel_rfl) ?_ _
          have hp := bk69 _ _ hp
          have hp := bk64 _ _ hp
          have hp := bk59 _ _ hp
          exact ⟨hf.sub ⟨rfl, rfl, rfl, rfl, rfl, rfl, trivial⟩, hp⟩
        skip
        replace hz74 := ifF hz74 hb75
        obtain ⟨q76, hcall77, hz74⟩ := bnd hz74
        replace hz74 := Option.some.inj hz74
        rcases Bool.eq_false_or_eq_true z88 with hb90 | hb90
        · skip
          replace hz89 := ifT hz89 hb90
          replace hz89 := Option.some.inj hz89
          have hb95 : z93 = true := hz89.symm
          skip
          replace hz94 := ifT hz94 hb95
          replace hz94 := Option.some.inj hz94
          refine dr_begin' (fun a w => Fr 118 a [(1, vl1), (5, v3), (7, v7), (9, .int .i64 i9), (11, v38), (108, .bool z103)] ∧ Hp S w0 w (Res.obj 31 v42 [.int .u8 q35.2.1.1, .int .u8 q35.2.1.2.1, .bool q35.2.1.2.2.1, .string q35.2.1.2.2.2] :: Res.obj 31 v53 [.int .u8 q44.2.1.1, .int .u8 q44.2.1.2.1, .bool q44.2.1.2.2.1, .string q44.2.1.2.2.2] :: Res.obj 37 v7 [.int .i64 q44.2.2.2.1, .int .i64 q44.2.2.2.2.1, v48, v49] :: Res.sl Ek.str 9 v47 q44.1 :: Res.sl Ek.bool 4 v48 q44.2.2.2.2.2.1 :: Res.sl Ek.str 9 v49 q44.2.2.2.2.2.2 :: Res.sl Ek.str 9 v38 q35.1 :: Res.map (fun x : ByteArray => Value.string x) v39 q35.2.2.2.2.2 :: Res.obj 74 v3 [.int .i64 q35.2.2.2.1, .int .i64 q35.2.2.2.2.1, v39] :: Res.obj 31 v32 [.int .u8 f10c_0, .int .u8 f10c_1, .bool f10c_2, .string f10c_3] :: ow)) (fun w' => ∃ l, Hp S65 w w' l) [] (by kernel_rfl) ?_
          refine dr_take 0 (.int .i64 q35.2.2.1) rfl (by kernel_rfl) (by kernel_rfl) (by kernel_rfl) (by kernel_rfl) rfl rfl hf (by decide) rfl (fun w hp => ?_) ⟨_, hp⟩ ?_
          · obtain ⟨_, hp⟩ := hp
            refine st_move hf rfl rfl (by decide) ?_
            clear hf; intro a ha hf
            exact st_nil hf (th_n ⟨ha, rfl⟩)
          clear hf; intro a hf
          refine dr_take 1 (.int .i64 q44.2.2.1) rfl (by kernel_rfl) (by kernel_rfl) (by kernel_rfl) (by kernel_rfl) rfl rfl hf (by decide) rfl (fun w hp => ?_) ⟨_, hp⟩ ?_
          · obtain ⟨_, hp⟩ := hp
            refine st_move hf rfl rfl (by decide) ?_
            clear hf; intro a ha hf
            exact st_nil hf (th_n ⟨ha, rfl⟩)
          clear hf; intro a hf
          refine dr_take 2 (.bool (q35.2.2.1 != q44.2.2.1)) rfl (by kernel_rfl) (by kernel_rfl) (by kernel_rfl) (by kernel_rfl) rfl rfl hf (by decide) rfl (fun w hp => ?_) ⟨_, hp⟩ ?_
          · obtain ⟨_, hp⟩ := hp
            refine st_ineq hf (by decide) rfl rfl rfl ?_
            clear hf; intro a ha hf
            exact st_nil hf (th_n ⟨ha, rfl⟩)
          clear hf; intro a hf
          refine dr_take 3 (.bool (q35.2.2.1 != q44.2.2.1)) rfl (by kernel_rfl) (by kernel_rfl) (by kernel_rfl) (by kernel_rfl) rfl rfl hf (by decide) rfl (fun w hp => ?_) ⟨_, hp⟩ ?_
          · obtain ⟨_, hp⟩ := hp
            refine st_move hf rfl rfl (by decide) ?_
            clear hf; intro a ha hf
            exact st_nil hf (th_n ⟨ha, rfl⟩)
          clear hf; intro a hf
          refine dr_take 4 (v38) rfl (by kernel_rfl) (by kernel_rfl) (by kernel_rfl) (by kernel_rfl) rfl rfl hf (by decide) (wantY hf rfl rfl hb75) (fun w hp => ?_) ⟨_, hp⟩ ?_
          · obtain ⟨_, hp⟩ := hp
            refine st_move hf (wantY hf rfl rfl hb75) rfl (by decide) ?_
            clear hf; intro a ha hf
            exact st_nil hf (th_n ⟨ha, rfl⟩)
          clear hf; intro a hf
          refine dr_take 5 (v47) rfl (by kernel_rfl) (by kernel_rfl) (by kernel_rfl) (by kernel_rfl) rfl rfl hf (by decide) (wantY hf rfl rfl hb75) (fun w hp => ?_) ⟨_, hp⟩ ?_
          · obtain ⟨_, hp⟩ := hp
            refine st_move hf (wantY hf rfl rfl hb75) rfl (by decide) ?_
            clear hf; intro a ha hf
            exact st_nil hf (th_n ⟨ha, rfl⟩)
          clear hf; intro a hf
          refine dr_one 6 rfl (by kernel_rfl) ?_
          obtain ⟨S78, hp79, rd80, up81, bk82⟩ := Hp.lendS hp (i := 3) rfl
          obtain ⟨S83, hp84, rd85, up86, bk87⟩ := Hp.lendS hp79 (i := 0) rfl
          refine st_call hf (by decide) Try.func12 rfl rfl (wantY hf rfl rfl hb75) rfl rfl (f_foghornlaw28_sameTexts_c hp84 _ _ ((rd80.now hp79).mono up86) _ _ rd85 hcall77) ?_
          rintro _ w ⟨rfl, hp0⟩
          have hp0 := bk87 _ _ hp0
          have hp0 := bk82 _ _ hp0
          clear hp; have hp := hp0; clear hp0
          replace hp : Hp _ _ _ (Res.sl Ek.str 9 v38 q35.1 :: Res.sl Ek.str 9 v47 q44.1 :: Res.sl Ek.bool 4 v48 q44.2.2.2.2.2.1 :: Res.sl Ek.str 9 v49 q44.2.2.2.2.2.2 :: Res.map (fun x : ByteArray => Value.string x) v39 q35.2.2.2.2.2 :: Res.obj 74 v3 [.int .i64 q35.2.2.2.1, .int .i64 q35.2.2.2.2.1, v39] :: Res.obj 31 v32 [.int .u8 f10c_0, .int .u8 f10c_1, .bool f10c_2, .string f10c_3] :: ow) := hp
          refine ⟨_, rfl, ?_⟩
          clear hf; intro a hf
          have hp : Hp _ _ _ (Res.sl Ek.str 9 v47 q44.1 :: Res.sl Ek.bool 4 v48 q44.2.2.2.2.2.1 :: Res.sl Ek.str 9 v49 q44.2.2.2.2.2.2 :: Res.sl Ek.str 9 v38 q35.1 :: Res.map (fun x : ByteArray => Value.string x) v39 q35.2.2.2.2.2 :: Res.obj 74 v3 [.int .i64 q35.2.2.2.1, .int .i64 q35.2.2.2.2.1, v39] :: Res.obj 31 v32 [.int .u8 f10c_0, .int .u8 f10c_1, .bool f10c_2, .string f10c_3] :: ow) := Hp.sel (pre := [Res.sl Ek.str 9 v38 q35.1, Res.sl Ek.str 9 v47 q44.1, Res.sl Ek.bool 4 v48 q44.2.2.2.2.2.1, Res.sl Ek.str 9 v49 q44.2.2.2.2.2.2, Res.map (fun x : ByteArray => Value.string x) v39 q35.2.2.2.2.2, Res.obj 74 v3 [.int .i64 q35.2.2.2.1, .int .i64 q35.2.2.2.2.1, v39], Res.obj 31 v32 [.int .u8 f10c_0, .int .u8 f10c_1, .bool f10c_2, .string f10c_3]]) (tail := ow) (rs' := [Res.sl Ek.str 9 v47 q44.1, Res.sl Ek.bool 4 v48 q44.2.2.2.2.2.1, Res.sl Ek.str 9 v49 q44.2.2.2.2.2.2, Res.sl Ek.str 9 v38 q35.1, Res.map (fun x : ByteArray => Value.string x) v39 q35.2.2.2.2.2, Res.obj 74 v3 [.int .i64 q35.2.2.2.1, .int .i64 q35.2.2.2.2.1, v39], Res.obj 31 v32 [.int .u8 f10c_0, .int .u8 f10c_1, .bool f10c_2, .string f10c_3]]) hp [1, 2, 3, 0, 4, 5, 6] (by decide) (by simp) rfl
          refine st_nil hf (th_n ⟨fun _ _ => ⟨_, hp⟩, ?_⟩)
          refine dr_take 7 (.bool (!q76)) rfl (by kernel_rfl) (by kernel_rfl) (by kernel_rfl) (by kernel_rfl) rfl rfl hf (by decide) (wantY hf rfl rfl hb75) (fun w hp => ?_) ⟨_, hp⟩ ?_
          · obtain ⟨_, hp⟩ := hp
            refine st_not hf (by decide) (wantY hf rfl rfl hb75) rfl ?_
            clear hf; intro a ha hf
            exact st_nil hf (th_n ⟨ha, rfl⟩)
          clear hf; intro a hf
          refine dr_take 8 (.bool z88) rfl (by kernel_rfl) (by kernel_rfl) (by kernel_rfl) (by kernel_rfl) rfl rfl hf (by decide) rfl (fun w hp => ?_) ⟨_, hp⟩ ?_
          · obtain ⟨_, hp⟩ := hp
            refine st_pick (v := .bool z88) hf rfl rfl (fun hb' => absurd (hb75.symm.trans hb') (by decide)) (fun _ => by rw [← hz74]; rfl) (by decide) ?_
            clear hf; intro a ha hf
            exact st_nil hf (th_n ⟨ha, rfl⟩)
          clear hf; intro a hf
          refine dr_take 9 (.bool z88) rfl (by kernel_rfl) (by kernel_rfl) (by kernel_rfl) (by kernel_rfl) rfl rfl hf (by decide) rfl (fun w hp => ?_) ⟨_, hp⟩ ?_
          · obtain ⟨_, hp⟩ := hp
            refine st_move hf rfl rfl (by decide) ?_
            clear hf; intro a ha hf
            exact st_nil hf (th_n ⟨ha, rfl⟩)
          clear hf; intro a hf
          refine dr_out 10 rfl (by kernel_rfl) (by kernel_rfl) (by kernel_rfl) (by kernel_rfl) rfl hf (by decide) rfl (wantN hf rfl rfl hb90) ⟨_, hp⟩ ?_
          clear hf; intro a hf
          refine dr_out 11 rfl (by kernel_rfl) (by kernel_rfl) (by kernel_rfl) (by kernel_rfl) rfl hf (by decide) rfl (wantN hf rfl rfl hb90) ⟨_, hp⟩ ?_
          clear hf; intro a hf
          refine dr_out 12 rfl (by kernel_rfl) (by kernel_rfl) (by kernel_rfl) (by kernel_rfl) rfl hf (by decide) rfl (wantN hf rfl rfl hb90) ⟨_, hp⟩ ?_
          clear hf; intro a hf
          refine dr_out 13 rfl (by kernel_rfl) (by kernel_rfl) (by kernel_rfl) (by kernel_rfl) rfl hf (by decide) rfl (wantN hf rfl rfl hb90) ⟨_, hp⟩ ?_
          clear hf; intro a hf
          refine dr_take 14 (.bool z93) rfl (by kernel_rfl) (by kernel_rfl) (by kernel_rfl) (by kernel_rfl) rfl rfl hf (by decide) rfl (fun w hp => ?_) ⟨_, hp⟩ ?_
          · obtain ⟨_, hp⟩ := hp
            refine st_pick (v := .bool z93) hf rfl rfl (fun _ => by rw [← hz89]; rfl) (fun hb' => absurd (hb90.symm.trans hb') (by decide)) (by decide) ?_
            clear hf; intro a ha hf
            exact st_nil hf (th_n ⟨ha, rfl⟩)
          clear hf; intro a hf
          refine dr_take 15 (.bool z93) rfl (by kernel_rfl) (by kernel_rfl) (by kernel_rfl) (by kernel_rfl) rfl rfl hf (by decide) rfl (fun w hp => ?_) ⟨_, hp⟩ ?_
          · obtain ⟨_, hp⟩ := hp
            refine st_move hf rfl rfl (by decide) ?_
            clear hf; intro a ha hf
            exact st_nil hf (th_n ⟨ha, rfl⟩)
          clear hf; intro a hf
          refine dr_out 16 rfl (by kernel_rfl) (by kernel_rfl) (by kernel_rfl) (by kernel_rfl) rfl hf (by decide) rfl (wantN hf rfl rfl hb95) ⟨_, hp⟩ ?_
          clear hf; intro a hf
          refine dr_out 17 rfl (by kernel_rfl) (by kernel_rfl) (by kernel_rfl) (by kernel_rfl) rfl hf (by decide) rfl (wantN hf rfl rfl hb95) ⟨_, hp⟩ ?_
          clear hf; intro a hf
          refine dr_out 18 rfl (by kernel_rfl) (by kernel_rfl) (by kernel_rfl) (by kernel_rfl) rfl hf (by decide) rfl (wantN hf rfl rfl hb95) ⟨_, hp⟩ ?_
          clear hf; intro a hf
          refine dr_outP 19 rfl (by kernel_rfl) (by kernel_rfl) (by kernel_rfl) rfl hf (by decide) (wantN hf rfl rfl hb95) ?_
          clear hf; intro a hf
          refine dr_out 20 rfl (by kernel_rfl) (by kernel_rfl) (by kernel_rfl) (by kernel_rfl) rfl hf (by decide) rfl (wantN hf rfl rfl hb95) ⟨_, hp⟩ ?_
          clear hf; intro a hf
          refine dr_out 21 rfl (by kernel_rfl) (by kernel_rfl) (by kernel_rfl) (by kernel_rfl) rfl hf (by decide) rfl (wantN hf rfl rfl hb95) ⟨_, hp⟩ ?_
          clear hf; intro a hf
          refine dr_out 22 rfl (by kernel_rfl) (by kernel_rfl) (by kernel_rfl) (by kernel_rfl) rfl hf (by decide) rfl (wantN hf rfl rfl hb95) ⟨_, hp⟩ ?_
          clear hf; intro a hf
          refine dr_take 23 (.bool z103) rfl (by kernel_rfl) (by kernel_rfl) (by kernel_rfl) (by kernel_rfl) rfl rfl hf (by decide) rfl (fun w hp => ?_) ⟨_, hp⟩ ?_
          · obtain ⟨_, hp⟩ := hp
            refine st_pick (v := .bool z103) hf rfl rfl (fun _ => by rw [← hz94]; rfl) (fun hb' => absurd (hb95.symm.trans hb') (by decide)) (by decide) ?_
            clear hf; intro a ha hf
            exact st_nil hf (th_n ⟨ha, rfl⟩)
          clear hf; intro a hf
          refine dr_end (by kernel_rfl) ?_ _
          have hp := bk69 _ _ hp
          have hp := bk64 _ _ hp
          have hp := bk59 _ _ hp
          exact ⟨hf.sub ⟨rfl, rfl, rfl, rfl, rfl, rfl, trivial⟩, hp⟩
        skip
        replace hz89 := ifF hz89 hb90
        obtain ⟨q91, hcall92, hz89⟩ := bnd hz89
        replace hz89 := Option.some.inj hz89
        rcases Bool.eq_false_or_eq_true z93 with hb95 | hb95
        · skip
          replace hz94 := ifT hz94 hb95
          replace hz94 := Option.some.inj hz94
          refine dr_begin' (fun a w => Fr 118 a [(1, vl1), (5, v3), (7, v7), (9, .int .i64 i9), (11, v38), (108, .bool z103)] ∧ Hp S w0 w (Res.obj 31 v42 [.int .u8 q35.2.1.1, .int .u8 q35.2.1.2.1, .bool q35.2.1.2.2.1, .string q35.2.1.2.2.2] :: Res.obj 31 v53 [.int .u8 q44.2.1.1, .int .u8 q44.2.1.2.1, .bool q44.2.1.2.2.1, .string q44.2.1.2.2.2] :: Res.obj 37 v7 [.int .i64 q44.2.2.2.1, .int .i64 q44.2.2.2.2.1, v48, v49] :: Res.sl Ek.str 9 v47 q44.1 :: Res.sl Ek.bool 4 v48 q44.2.2.2.2.2.1 :: Res.sl Ek.str 9 v49 q44.2.2.2.2.2.2 :: Res.sl Ek.str 9 v38 q35.1 :: Res.map (fun x : ByteArray => Value.string x) v39 q35.2.2.2.2.2 :: Res.obj 74 v3 [.int .i64 q35.2.2.2.1, .int .i64 q35.2.2.2.2.1, v39] :: Res.obj 31 v32 [.int .u8 f10c_0, .int .u8 f10c_1, .bool f10c_2, .string f10c_3] :: ow)) (fun w' => ∃ l, Hp S65 w w' l) [] (by kernel_rfl) ?_
          refine dr_take 0 (.int .i64 q35.2.2.1) rfl (by kernel_rfl) (by kernel_rfl) (by kernel_rfl) (by kernel_rfl) rfl rfl hf (by decide) rfl (fun w hp => ?_) ⟨_, hp⟩ ?_
          · obtain ⟨_, hp⟩ := hp
            refine st_move hf rfl rfl (by decide) ?_
            clear hf; intro a ha hf
            exact st_nil hf (th_n ⟨ha, rfl⟩)
          clear hf; intro a hf
          refine dr_take 1 (.int .i64 q44.2.2.1) rfl (by kernel_rfl) (by kernel_rfl) (by kernel_rfl) (by kernel_rfl) rfl rfl hf (by decide) rfl (fun w hp => ?_) ⟨_, hp⟩ ?_
          · obtain ⟨_, hp⟩ := hp
            refine st_move hf rfl rfl (by decide) ?_
            clear hf; intro a ha hf
            exact st_nil hf (th_n ⟨ha, rfl⟩)
          clear hf; intro a hf
          refine dr_take 2 (.bool (q35.2.2.1 != q44.2.2.1)) rfl (by kernel_rfl) (by kernel_rfl) (by kernel_rfl) (by kernel_rfl) rfl rfl hf (by decide) rfl (fun w hp => ?_) ⟨_, hp⟩ ?_
          · obtain ⟨_, hp⟩ := hp
            refine st_ineq hf (by decide) rfl rfl rfl ?_
            clear hf; intro a ha hf
            exact st_nil hf (th_n ⟨ha, rfl⟩)
          clear hf; intro a hf
          refine dr_take 3 (.bool (q35.2.2.1 != q44.2.2.1)) rfl (by kernel_rfl) (by kernel_rfl) (by kernel_rfl) (by kernel_rfl) rfl rfl hf (by decide) rfl (fun w hp => ?_) ⟨_, hp⟩ ?_
          · obtain ⟨_, hp⟩ := hp
            refine st_move hf rfl rfl (by decide) ?_
            clear hf; intro a ha hf
            exact st_nil hf (th_n ⟨ha, rfl⟩)
          clear hf; intro a hf
          refine dr_take 4 (v38) rfl (by kernel_rfl) (by kernel_rfl) (by kernel_rfl) (by kernel_rfl) rfl rfl hf (by decide) (wantY hf rfl rfl hb75) (fun w hp => ?_) ⟨_, hp⟩ ?_
          · obtain ⟨_, hp⟩ := hp
            refine st_move hf (wantY hf rfl rfl hb75) rfl (by decide) ?_
            clear hf; intro a ha hf
            exact st_nil hf (th_n ⟨ha, rfl⟩)
          clear hf; intro a hf
          refine dr_take 5 (v47) rfl (by kernel_rfl) (by kernel_rfl) (by kernel_rfl) (by kernel_rfl) rfl rfl hf (by decide) (wantY hf rfl rfl hb75) (fun w hp => ?_) ⟨_, hp⟩ ?_
          · obtain ⟨_, hp⟩ := hp
            refine st_move hf (wantY hf rfl rfl hb75) rfl (by decide) ?_
            clear hf; intro a ha hf
            exact st_nil hf (th_n ⟨ha, rfl⟩)
          clear hf; intro a hf
          refine dr_one 6 rfl (by kernel_rfl) ?_
          obtain ⟨S78, hp79, rd80, up81, bk82⟩ := Hp.lendS hp (i := 3) rfl
          obtain ⟨S83, hp84, rd85, up86, bk87⟩ := Hp.lendS hp79 (i := 0) rfl
          refine st_call hf (by decide) Try.func12 rfl rfl (wantY hf rfl rfl hb75) rfl rfl (f_foghornlaw28_sameTexts_c hp84 _ _ ((rd80.now hp79).mono up86) _ _ rd85 hcall77) ?_
          rintro _ w ⟨rfl, hp0⟩
          have hp0 := bk87 _ _ hp0
          have hp0 := bk82 _ _ hp0
          clear hp; have hp := hp0; clear hp0
          replace hp : Hp _ _ _ (Res.sl Ek.str 9 v38 q35.1 :: Res.sl Ek.str 9 v47 q44.1 :: Res.sl Ek.bool 4 v48 q44.2.2.2.2.2.1 :: Res.sl Ek.str 9 v49 q44.2.2.2.2.2.2 :: Res.map (fun x : ByteArray => Value.string x) v39 q35.2.2.2.2.2 :: Res.obj 74 v3 [.int .i64 q35.2.2.2.1, .int .i64 q35.2.2.2.2.1, v39] :: Res.obj 31 v32 [.int .u8 f10c_0, .int .u8 f10c_1, .bool f10c_2, .string f10c_3] :: ow) := hp
          refine ⟨_, rfl, ?_⟩
          clear hf; intro a hf
          have hp : Hp _ _ _ (Res.sl Ek.str 9 v47 q44.1 :: Res.sl Ek.bool 4 v48 q44.2.2.2.2.2.1 :: Res.sl Ek.str 9 v49 q44.2.2.2.2.2.2 :: Res.sl Ek.str 9 v38 q35.1 :: Res.map (fun x : ByteArray => Value.string x) v39 q35.2.2.2.2.2 :: Res.obj 74 v3 [.int .i64 q35.2.2.2.1, .int .i64 q35.2.2.2.2.1, v39] :: Res.obj 31 v32 [.int .u8 f10c_0, .int .u8 f10c_1, .bool f10c_2, .string f10c_3] :: ow) := Hp.sel (pre := [Res.sl Ek.str 9 v38 q35.1, Res.sl Ek.str 9 v47 q44.1, Res.sl Ek.bool 4 v48 q44.2.2.2.2.2.1, Res.sl Ek.str 9 v49 q44.2.2.2.2.2.2, Res.map (fun x : ByteArray => Value.string x) v39 q35.2.2.2.2.2, Res.obj 74 v3 [.int .i64 q35.2.2.2.1, .int .i64 q35.2.2.2.2.1, v39], Res.obj 31 v32 [.int .u8 f10c_0, .int .u8 f10c_1, .bool f10c_2, .string f10c_3]]) (tail := ow) (rs' := [Res.sl Ek.str 9 v47 q44.1, Res.sl Ek.bool 4 v48 q44.2.2.2.2.2.1, Res.sl Ek.str 9 v49 q44.2.2.2.2.2.2, Res.sl Ek.str 9 v38 q35.1, Res.map (fun x : ByteArray => Value.string x) v39 q35.2.2.2.2.2, Res.obj 74 v3 [.int .i64 q35.2.2.2.1, .int .i64 q35.2.2.2.2.1, v39], Res.obj 31 v32 [.int .u8 f10c_0, .int .u8 f10c_1, .bool f10c_2, .string f10c_3]]) hp [1, 2, 3, 0, 4, 5, 6] (by decide) (by simp) rfl
          refine st_nil hf (th_n ⟨fun _ _ => ⟨_, hp⟩, ?_⟩)
          refine dr_take 7 (.bool (!q76)) rfl (by kernel_rfl) (by kernel_rfl) (by kernel_rfl) (by kernel_rfl) rfl rfl hf (by decide) (wantY hf rfl rfl hb75) (fun w hp => ?_) ⟨_, hp⟩ ?_
          · obtain ⟨_, hp⟩ := hp
            refine st_not hf (by decide) (wantY hf rfl rfl hb75) rfl ?_
            clear hf; intro a ha hf
            exact st_nil hf (th_n ⟨ha, rfl⟩)
          clear hf; intro a hf
          refine dr_take 8 (.bool z88) rfl (by kernel_rfl) (by kernel_rfl) (by kernel_rfl) (by kernel_rfl) rfl rfl hf (by decide) rfl (fun w hp => ?_) ⟨_, hp⟩ ?_
          · obtain ⟨_, hp⟩ := hp
            refine st_pick (v := .bool z88) hf rfl rfl (fun hb' => absurd (hb75.symm.trans hb') (by decide)) (fun _ => by rw [← hz74]; rfl) (by decide) ?_
            clear hf; intro a ha hf
            exact st_nil hf (th_n ⟨ha, rfl⟩)
          clear hf; intro a hf
          refine dr_take 9 (.bool z88) rfl (by kernel_rfl) (by kernel_rfl) (by kernel_rfl) (by kernel_rfl) rfl rfl hf (by decide) rfl (fun w hp => ?_) ⟨_, hp⟩ ?_
          · obtain ⟨_, hp⟩ := hp
            refine st_move hf rfl rfl (by decide) ?_
            clear hf; intro a ha hf
            exact st_nil hf (th_n ⟨ha, rfl⟩)
          clear hf; intro a hf
          refine dr_take 10 (.agg #[.int .u8 q35.2.1.1, .int .u8 q35.2.1.2.1, .bool q35.2.1.2.2.1, .string q35.2.1.2.2.2]) rfl (by kernel_rfl) (by kernel_rfl) (by kernel_rfl) (by kernel_rfl) rfl rfl hf (by decide) (wantY hf rfl rfl hb90) (fun w hp => ?_) ⟨_, hp⟩ ?_
          · obtain ⟨_, hp⟩ := hp
            refine st_ldOA (m := 4) (us := [.int .u8 q35.2.1.1, .int .u8 q35.2.1.2.1, .bool q35.2.1.2.2.1, .string q35.2.1.2.2.2]) hf (by decide) (by kernel_rfl) (wantY hf rfl rfl hb90) rfl (rl72.ob hp) rfl rfl ?_
            clear hf; intro a ha hf
            exact st_nil hf (th_n ⟨ha, rfl⟩)
          clear hf; intro a hf
          refine dr_take 11 (.agg #[.int .u8 q44.2.1.1, .int .u8 q44.2.1.2.1, .bool q44.2.1.2.2.1, .string q44.2.1.2.2.2]) rfl (by kernel_rfl) (by kernel_rfl) (by kernel_rfl) (by kernel_rfl) rfl rfl hf (by decide) (wantY hf rfl rfl hb90) (fun w hp => ?_) ⟨_, hp⟩ ?_
          · obtain ⟨_, hp⟩ := hp
            refine st_ldOA (m := 4) (us := [.int .u8 q44.2.1.1, .int .u8 q44.2.1.2.1, .bool q44.2.1.2.2.1, .string q44.2.1.2.2.2]) hf (by decide) (by kernel_rfl) (wantY hf rfl rfl hb90) rfl (rl73.ob hp) rfl rfl ?_
            clear hf; intro a ha hf
            exact st_nil hf (th_n ⟨ha, rfl⟩)
          clear hf; intro a hf
          refine dr_one 12 rfl (by kernel_rfl) ?_
          refine st_call hf (by decide) Try.func13 rfl rfl (wantY hf rfl rfl hb90) rfl rfl (f_foghornlaw28_same_c hp _ _ _ _ _ _ _ _ hcall92) ?_
          rintro _ w ⟨rfl, hp0⟩
          clear hp; have hp := hp0; clear hp0
          replace hp : Hp _ _ _ (Res.sl Ek.str 9 v47 q44.1 :: Res.sl Ek.bool 4 v48 q44.2.2.2.2.2.1 :: Res.sl Ek.str 9 v49 q44.2.2.2.2.2.2 :: Res.sl Ek.str 9 v38 q35.1 :: Res.map (fun x : ByteArray => Value.string x) v39 q35.2.2.2.2.2 :: Res.obj 74 v3 [.int .i64 q35.2.2.2.1, .int .i64 q35.2.2.2.2.1, v39] :: Res.obj 31 v32 [.int .u8 f10c_0, .int .u8 f10c_1, .bool f10c_2, .string f10c_3] :: ow) := hp
          refine ⟨_, rfl, ?_⟩
          clear hf; intro a hf
          refine st_nil hf (th_n ⟨fun _ _ => ⟨_, hp⟩, ?_⟩)
          refine dr_take 13 (.bool (!q91)) rfl (by kernel_rfl) (by kernel_rfl) (by kernel_rfl) (by kernel_rfl) rfl rfl hf (by decide) (wantY hf rfl rfl hb90) (fun w hp => ?_) ⟨_, hp⟩ ?_
          · obtain ⟨_, hp⟩ := hp
            refine st_not hf (by decide) (wantY hf rfl rfl hb90) rfl ?_
            clear hf; intro a ha hf
            exact st_nil hf (th_n ⟨ha, rfl⟩)
          clear hf; intro a hf
          refine dr_take 14 (.bool z93) rfl (by kernel_rfl) (by kernel_rfl) (by kernel_rfl) (by kernel_rfl) rfl rfl hf (by decide) rfl (fun w hp => ?_) ⟨_, hp⟩ ?_
          · obtain ⟨_, hp⟩ := hp
            refine st_pick (v := .bool z93) hf rfl rfl (fun hb' => absurd (hb90.symm.trans hb') (by decide)) (fun _ => by rw [← hz89]; rfl) (by decide) ?_
            clear hf; intro a ha hf
            exact st_nil hf (th_n ⟨ha, rfl⟩)
          clear hf; intro a hf
          refine dr_take 15 (.bool z93) rfl (by kernel_rfl) (by kernel_rfl) (by kernel_rfl) (by kernel_rfl) rfl rfl hf (by decide) rfl (fun w hp => ?_) ⟨_, hp⟩ ?_
          · obtain ⟨_, hp⟩ := hp
            refine st_move hf rfl rfl (by decide) ?_
            clear hf; intro a ha hf
            exact st_nil hf (th_n ⟨ha, rfl⟩)
          clear hf; intro a hf
          refine dr_out 16 rfl (by kernel_rfl) (by kernel_rfl) (by kernel_rfl) (by kernel_rfl) rfl hf (by decide) rfl (wantN hf rfl rfl hb95) ⟨_, hp⟩ ?_
          clear hf; intro a hf
          refine dr_out 17 rfl (by kernel_rfl) (by kernel_rfl) (by kernel_rfl) (by kernel_rfl) rfl hf (by decide) rfl (wantN hf rfl rfl hb95) ⟨_, hp⟩ ?_
          clear hf; intro a hf
          refine dr_out 18 rfl (by kernel_rfl) (by kernel_rfl) (by kernel_rfl) (by kernel_rfl) rfl hf (by decide) rfl (wantN hf rfl rfl hb95) ⟨_, hp⟩ ?_
          clear hf; intro a hf
          refine dr_outP 19 rfl (by kernel_rfl) (by kernel_rfl) (by kernel_rfl) rfl hf (by decide) (wantN hf rfl rfl hb95) ?_
          clear hf; intro a hf
          refine dr_out 20 rfl (by kernel_rfl) (by kernel_rfl) (by kernel_rfl) (by kernel_rfl) rfl hf (by decide) rfl (wantN hf rfl rfl hb95) ⟨_, hp⟩ ?_
          clear hf; intro a hf
          refine dr_out 21 rfl (by kernel_rfl) (by kernel_rfl) (by kernel_rfl) (by kernel_rfl) rfl hf (by decide) rfl (wantN hf rfl rfl hb95) ⟨_, hp⟩ ?_
          clear hf; intro a hf
          refine dr_out 22 rfl (by kernel_rfl) (by kernel_rfl) (by kernel_rfl) (by kernel_rfl) rfl hf (by decide) rfl (wantN hf rfl rfl hb95) ⟨_, hp⟩ ?_
          clear hf; intro a hf
          refine dr_take 23 (.bool z103) rfl (by kernel_rfl) (by kernel_rfl) (by kernel_rfl) (by kernel_rfl) rfl rfl hf (by decide) rfl (fun w hp => ?_) ⟨_, hp⟩ ?_
          · obtain ⟨_, hp⟩ := hp
            refine st_pick (v := .bool z103) hf rfl rfl (fun _ => by rw [← hz94]; rfl) (fun hb' => absurd (hb95.symm.trans hb') (by decide)) (by decide) ?_
            clear hf; intro a ha hf
            exact st_nil hf (th_n ⟨ha, rfl⟩)
          clear hf; intro a hf
          refine dr_end (by kernel_rfl) ?_ _
          have hp := bk69 _ _ hp
          have hp := bk64 _ _ hp
          have hp := bk59 _ _ hp
          exact ⟨hf.sub ⟨rfl, rfl, rfl, rfl, rfl, rfl, trivial⟩, hp⟩
        skip
        replace hz94 := ifF hz94 hb95
        obtain ⟨q96, hcall97, hz94⟩ := bnd hz94
        replace hz94 := Option.some.inj hz94
        refine dr_begin' (fun a w => Fr 118 a [(1, vl1), (5, v3), (7, v7), (9, .int .i64 i9), (11, v38), (108, .bool z103)] ∧ Hp S w0 w (Res.obj 31 v42 [.int .u8 q35.2.1.1, .int .u8 q35.2.1.2.1, .bool q35.2.1.2.2.1, .string q35.2.1.2.2.2] :: Res.obj 31 v53 [.int .u8 q44.2.1.1, .int .u8 q44.2.1.2.1, .bool q44.2.1.2.2.1, .string q44.2.1.2.2.2] :: Res.obj 37 v7 [.int .i64 q44.2.2.2.1, .int .i64 q44.2.2.2.2.1, v48, v49] :: Res.sl Ek.str 9 v47 q44.1 :: Res.sl Ek.bool 4 v48 q44.2.2.2.2.2.1 :: Res.sl Ek.str 9 v49 q44.2.2.2.2.2.2 :: Res.sl Ek.str 9 v38 q35.1 :: Res.map (fun x : ByteArray => Value.string x) v39 q35.2.2.2.2.2 :: Res.obj 74 v3 [.int .i64 q35.2.2.2.1, .int .i64 q35.2.2.2.2.1, v39] :: Res.obj 31 v32 [.int .u8 f10c_0, .int .u8 f10c_1, .bool f10c_2, .string f10c_3] :: ow)) (fun w' => ∃ l, Hp S65 w w' l) [] (by kernel_rfl) ?_
        refine dr_take 0 (.int .i64 q35.2.2.1) rfl (by kernel_rfl) (by kernel_rfl) (by kernel_rfl) (by kernel_rfl) rfl rfl hf (by decide) rfl (fun w hp => ?_) ⟨_, hp⟩ ?_
        · obtain ⟨_, hp⟩ := hp
          refine st_move hf rfl rfl (by decide) ?_
          clear hf; intro a ha hf
          exact st_nil hf (th_n ⟨ha, rfl⟩)
        clear hf; intro a hf
        refine dr_take 1 (.int .i64 q44.2.2.1) rfl (by kernel_rfl) (by kernel_rfl) (by kernel_rfl) (by kernel_rfl) rfl rfl hf (by decide) rfl (fun w hp => ?_) ⟨_, hp⟩ ?_
        · obtain ⟨_, hp⟩ := hp
          refine st_move hf rfl rfl (by decide) ?_
          clear hf; intro a ha hf
          exact st_nil hf (th_n ⟨ha, rfl⟩)
        clear hf; intro a hf
        refine dr_take 2 (.bool (q35.2.2.1 != q44.2.2.1)) rfl (by kernel_rfl) (by kernel_rfl) (by kernel_rfl) (by kernel_rfl) rfl rfl hf (by decide) rfl (fun w hp => ?_) ⟨_, hp⟩ ?_
        · obtain ⟨_, hp⟩ := hp
          refine st_ineq hf (by decide) rfl rfl rfl ?_
          clear hf; intro a ha hf
          exact st_nil hf (th_n ⟨ha, rfl⟩)
        clear hf; intro a hf
        refine dr_take 3 (.bool (q35.2.2.1 != q44.2.2.1)) rfl (by kernel_rfl) (by kernel_rfl) (by kernel_rfl) (by kernel_rfl) rfl rfl hf (by decide) rfl (fun w hp => ?_) ⟨_, hp⟩ ?_
        · obtain ⟨_, hp⟩ := hp
          refine st_move hf rfl rfl (by decide) ?_
          clear hf; intro a ha hf
          exact st_nil hf (th_n ⟨ha, rfl⟩)
        clear hf; intro a hf
        refine dr_take 4 (v38) rfl (by kernel_rfl) (by kernel_rfl) (by kernel_rfl) (by kernel_rfl) rfl rfl hf (by decide) (wantY hf rfl rfl hb75) (fun w hp => ?_) ⟨_, hp⟩ ?_
        · obtain ⟨_, hp⟩ := hp
          refine st_move hf (wantY hf rfl rfl hb75) rfl (by decide) ?_
          clear hf; intro a ha hf
          exact st_nil hf (th_n ⟨ha, rfl⟩)
        clear hf; intro a hf
        refine dr_take 5 (v47) rfl (by kernel_rfl) (by kernel_rfl) (by kernel_rfl) (by kernel_rfl) rfl rfl hf (by decide) (wantY hf rfl rfl hb75) (fun w hp => ?_) ⟨_, hp⟩ ?_
        · obtain ⟨_, hp⟩ := hp
          refine st_move hf (wantY hf rfl rfl hb75) rfl (by decide) ?_
          clear hf; intro a ha hf
          exact st_nil hf (th_n ⟨ha, rfl⟩)
        clear hf; intro a hf
        refine dr_one 6 rfl (by kernel_rfl) ?_
        obtain ⟨S78, hp79, rd80, up81, bk82⟩ := Hp.lendS hp (i := 3) rfl
        obtain ⟨S83, hp84, rd85, up86, bk87⟩ := Hp.lendS hp79 (i := 0) rfl
        refine st_call hf (by decide) Try.func12 rfl rfl (wantY hf rfl rfl hb75) rfl rfl (f_foghornlaw28_sameTexts_c hp84 _ _ ((rd80.now hp79).mono up86) _ _ rd85 hcall77) ?_
        rintro _ w ⟨rfl, hp0⟩
        have hp0 := bk87 _ _ hp0
        have hp0 := bk82 _ _ hp0
        clear hp; have hp := hp0; clear hp0
        replace hp : Hp _ _ _ (Res.sl Ek.str 9 v38 q35.1 :: Res.sl Ek.str 9 v47 q44.1 :: Res.sl Ek.bool 4 v48 q44.2.2.2.2.2.1 :: Res.sl Ek.str 9 v49 q44.2.2.2.2.2.2 :: Res.map (fun x : ByteArray => Value.string x) v39 q35.2.2.2.2.2 :: Res.obj 74 v3 [.int .i64 q35.2.2.2.1, .int .i64 q35.2.2.2.2.1, v39] :: Res.obj 31 v32 [.int .u8 f10c_0, .int .u8 f10c_1, .bool f10c_2, .string f10c_3] :: ow) := hp
        refine ⟨_, rfl, ?_⟩
        clear hf; intro a hf
        have hp : Hp _ _ _ (Res.sl Ek.str 9 v47 q44.1 :: Res.sl Ek.bool 4 v48 q44.2.2.2.2.2.1 :: Res.sl Ek.str 9 v49 q44.2.2.2.2.2.2 :: Res.sl Ek.str 9 v38 q35.1 :: Res.map (fun x : ByteArray => Value.string x) v39 q35.2.2.2.2.2 :: Res.obj 74 v3 [.int .i64 q35.2.2.2.1, .int .i64 q35.2.2.2.2.1, v39] :: Res.obj 31 v32 [.int .u8 f10c_0, .int .u8 f10c_1, .bool f10c_2, .string f10c_3] :: ow) := Hp.sel (pre := [Res.sl Ek.str 9 v38 q35.1, Res.sl Ek.str 9 v47 q44.1, Res.sl Ek.bool 4 v48 q44.2.2.2.2.2.1, Res.sl Ek.str 9 v49 q44.2.2.2.2.2.2, Res.map (fun x : ByteArray => Value.string x) v39 q35.2.2.2.2.2, Res.obj 74 v3 [.int .i64 q35.2.2.2.1, .int .i64 q35.2.2.2.2.1, v39], Res.obj 31 v32 [.int .u8 f10c_0, .int .u8 f10c_1, .bool f10c_2, .string f10c_3]]) (tail := ow) (rs' := [Res.sl Ek.str 9 v47 q44.1, Res.sl Ek.bool 4 v48 q44.2.2.2.2.2.1, Res.sl Ek.str 9 v49 q44.2.2.2.2.2.2, Res.sl Ek.str 9 v38 q35.1, Res.map (fun x : ByteArray => Value.string x) v39 q35.2.2.2.2.2, Res.obj 74 v3 [.int .i64 q35.2.2.2.1, .int .i64 q35.2.2.2.2.1, v39], Res.obj 31 v32 [.int .u8 f10c_0, .int .u8 f10c_1, .bool f10c_2, .string f10c_3]]) hp [1, 2, 3, 0, 4, 5, 6] (by decide) (by simp) rfl
        refine st_nil hf (th_n ⟨fun _ _ => ⟨_, hp⟩, ?_⟩)
        refine dr_take 7 (.bool (!q76)) rfl (by kernel_rfl) (by kernel_rfl) (by kernel_rfl) (by kernel_rfl) rfl rfl hf (by decide) (wantY hf rfl rfl hb75) (fun w hp => ?_) ⟨_, hp⟩ ?_
        · obtain ⟨_, hp⟩ := hp
          refine st_not hf (by decide) (wantY hf rfl rfl hb75) rfl ?_
          clear hf; intro a ha hf
          exact st_nil hf (th_n ⟨ha, rfl⟩)
        clear hf; intro a hf
        refine dr_take 8 (.bool z88) rfl (by kernel_rfl) (by kernel_rfl) (by kernel_rfl) (by kernel_rfl) rfl rfl hf (by decide) rfl (fun w hp => ?_) ⟨_, hp⟩ ?_
        · obtain ⟨_, hp⟩ := hp
          refine st_pick (v := .bool z88) hf rfl rfl (fun hb' => absurd (hb75.symm.trans hb') (by decide)) (fun _ => by rw [← hz74]; rfl) (by decide) ?_
          clear hf; intro a ha hf
          exact st_nil hf (th_n ⟨ha, rfl⟩)
        clear hf; intro a hf
        refine dr_take 9 (.bool z88) rfl (by kernel_rfl) (by kernel_rfl) (by kernel_rfl) (by kernel_rfl) rfl rfl hf (by decide) rfl (fun w hp => ?_) ⟨_, hp⟩ ?_
        · obtain ⟨_, hp⟩ := hp
          refine st_move hf rfl rfl (by decide) ?_
          clear hf; intro a ha hf
          exact st_nil hf (th_n ⟨ha, rfl⟩)
        clear hf; intro a hf
        refine dr_take 10 (.agg #[.int .u8 q35.2.1.1, .int .u8 q35.2.1.2.1, .bool q35.2.1.2.2.1, .string q35.2.1.2.2.2]) rfl (by kernel_rfl) (by kernel_rfl) (by kernel_rfl) (by kernel_rfl) rfl rfl hf (by decide) (wantY hf rfl rfl hb90) (fun w hp => ?_) ⟨_, hp⟩ ?_
        · obtain ⟨_, hp⟩ := hp
          refine st_ldOA (m := 4) (us := [.int .u8 q35.2.1.1, .int .u8 q35.2.1.2.1, .bool q35.2.1.2.2.1, .string q35.2.1.2.2.2]) hf (by decide) (by kernel_rfl) (wantY hf rfl rfl hb90) rfl (rl72.ob hp) rfl rfl ?_
          clear hf; intro a ha hf
          exact st_nil hf (th_n ⟨ha, rfl⟩)
        clear hf; intro a hf
        refine dr_take 11 (.agg #[.int .u8 q44.2.1.1, .int .u8 q44.2.1.2.1, .bool q44.2.1.2.2.1, .string q44.2.1.2.2.2]) rfl (by kernel_rfl) (by kernel_rfl) (by kernel_rfl) (by kernel_rfl) rfl rfl hf (by decide) (wantY hf rfl rfl hb90) (fun w hp => ?_) ⟨_, hp⟩ ?_
        · obtain ⟨_, hp⟩ := hp
          refine st_ldOA (m := 4) (us := [.int .u8 q44.2.1.1, .int .u8 q44.2.1.2.1, .bool q44.2.1.2.2.1, .string q44.2.1.2.2.2]) hf (by decide) (by kernel_rfl) (wantY hf rfl rfl hb90) rfl (rl73.ob hp) rfl rfl ?_
          clear hf; intro a ha hf
          exact st_nil hf (th_n ⟨ha, rfl⟩)
        clear hf; intro a hf
        refine dr_one 12 rfl (by kernel_rfl) ?_
        refine st_call hf (by decide) Try.func13 rfl rfl (wantY hf rfl rfl hb90) rfl rfl (f_foghornlaw28_same_c hp _ _ _ _ _ _ _ _ hcall92) ?_
        rintro _ w ⟨rfl, hp0⟩
        clear hp; have hp := hp0; clear hp0
        replace hp : Hp _ _ _ (Res.sl Ek.str 9 v47 q44.1 :: Res.sl Ek.bool 4 v48 q44.2.2.2.2.2.1 :: Res.sl Ek.str 9 v49 q44.2.2.2.2.2.2 :: Res.sl Ek.str 9 v38 q35.1 :: Res.map (fun x : ByteArray => Value.string x) v39 q35.2.2.2.2.2 :: Res.obj 74 v3 [.int .i64 q35.2.2.2.1, .int .i64 q35.2.2.2.2.1, v39] :: Res.obj 31 v32 [.int .u8 f10c_0, .int .u8 f10c_1, .bool f10c_2, .string f10c_3] :: ow) := hp
        refine ⟨_, rfl, ?_⟩
        clear hf; intro a hf
        refine st_nil hf (th_n ⟨fun _ _ => ⟨_, hp⟩, ?_⟩)
        refine dr_take 13 (.bool (!q91)) rfl (by kernel_rfl) (by kernel_rfl) (by kernel_rfl) (by kernel_rfl) rfl rfl hf (by decide) (wantY hf rfl rfl hb90) (fun w hp => ?_) ⟨_, hp⟩ ?_
        · obtain ⟨_, hp⟩ := hp
          refine st_not hf (by decide) (wantY hf rfl rfl hb90) rfl ?_
          clear hf; intro a ha hf
          exact st_nil hf (th_n ⟨ha, rfl⟩)
        clear hf; intro a hf
        refine dr_take 14 (.bool z93) rfl (by kernel_rfl) (by kernel_rfl) (by kernel_rfl) (by kernel_rfl) rfl rfl hf (by decide) rfl (fun w hp => ?_) ⟨_, hp⟩ ?_
        · obtain ⟨_, hp⟩ := hp
          refine st_pick (v := .bool z93) hf rfl rfl (fun hb' => absurd (hb90.symm.trans hb') (by decide)) (fun _ => by rw [← hz89]; rfl) (by decide) ?_
          clear hf; intro a ha hf
          exact st_nil hf (th_n ⟨ha, rfl⟩)
        clear hf; intro a hf
        refine dr_take 15 (.bool z93) rfl (by kernel_rfl) (by kernel_rfl) (by kernel_rfl) (by kernel_rfl) rfl rfl hf (by decide) rfl (fun w hp => ?_) ⟨_, hp⟩ ?_
        · obtain ⟨_, hp⟩ := hp
          refine st_move hf rfl rfl (by decide) ?_
          clear hf; intro a ha hf
          exact st_nil hf (th_n ⟨ha, rfl⟩)
        clear hf; intro a hf
        refine dr_take 16 (v3) rfl (by kernel_rfl) (by kernel_rfl) (by kernel_rfl) (by kernel_rfl) rfl rfl hf (by decide) (wantY hf rfl rfl hb95) (fun w hp => ?_) ⟨_, hp⟩ ?_
        · obtain ⟨_, hp⟩ := hp
          refine st_move hf (wantY hf rfl rfl hb95) rfl (by decide) ?_
          clear hf; intro a ha hf
          exact st_nil hf (th_n ⟨ha, rfl⟩)
        clear hf; intro a hf
        refine dr_take 18 (v7) rfl (by kernel_rfl) (by kernel_rfl) (by kernel_rfl) (by kernel_rfl) rfl rfl hf (by decide) (wantY hf rfl rfl hb95) (fun w hp => ?_) ⟨_, hp⟩ ?_
        · obtain ⟨_, hp⟩ := hp
          refine st_move hf (wantY hf rfl rfl hb95) rfl (by decide) ?_
          clear hf; intro a ha hf
          exact st_nil hf (th_n ⟨ha, rfl⟩)
        clear hf; intro a hf
        refine dr_nilV 19 rfl (by kernel_rfl) (by kernel_rfl) (by kernel_rfl) hf (by decide) (wantY hf rfl rfl hb95) rfl (rl71.ob hp) ?_
        clear hf; intro a hf
        refine dr_take 20 (optr v7 1) rfl (by kernel_rfl) (by kernel_rfl) (by kernel_rfl) (by kernel_rfl) rfl rfl hf (by decide) (wantY hf rfl rfl hb95) (fun w hp => ?_) ⟨_, hp⟩ ?_
        · obtain ⟨_, hp⟩ := hp
          refine st_fa (o' := 1) hf (by decide) (off := 1) (sz := 1) (by kernel_rfl) (by decide) (wantY hf rfl rfl hb95) rfl (rl71.ob hp) rfl ?_
          clear hf; intro a ha hf
          exact st_nil hf (th_n ⟨ha, rfl⟩)
        clear hf; intro a hf
        refine dr_take 21 (.int .i64 q44.2.2.2.2.1) rfl (by kernel_rfl) (by kernel_rfl) (by kernel_rfl) (by kernel_rfl) rfl rfl hf (by decide) (wantY hf rfl rfl hb95) (fun w hp => ?_) ⟨_, hp⟩ ?_
        · obtain ⟨_, hp⟩ := hp
          refine st_ldO (u := .int .i64 q44.2.2.2.2.1) hf (by decide) pl3 (wantY hf rfl rfl hb95) rfl (rl71.ob hp) rfl ?_
          clear hf; intro a ha hf
          exact st_nil hf (th_n ⟨ha, rfl⟩)
        clear hf; intro a hf
        refine dr_one 17 rfl (by kernel_rfl) ?_
        obtain ⟨S98, hp99, rd100, up101, bk102⟩ := Hp.lendO hp (i := 5) rfl
        refine st_call hf (by decide) Try.func14 rfl rfl (wantY hf rfl rfl hb95) rfl rfl (f_again_Receiver_Handed_c hp99 _ _ _ _ rd100 hcall97) ?_
        rintro _ w ⟨rfl, hp0⟩
        have hp0 := bk102 _ _ hp0
        clear hp; have hp := hp0; clear hp0
        replace hp : Hp _ _ _ (Res.obj 74 v3 [.int .i64 q35.2.2.2.1, .int .i64 q35.2.2.2.2.1, v39] :: Res.sl Ek.str 9 v47 q44.1 :: Res.sl Ek.bool 4 v48 q44.2.2.2.2.2.1 :: Res.sl Ek.str 9 v49 q44.2.2.2.2.2.2 :: Res.sl Ek.str 9 v38 q35.1 :: Res.map (fun x : ByteArray => Value.string x) v39 q35.2.2.2.2.2 :: Res.obj 31 v32 [.int .u8 f10c_0, .int .u8 f10c_1, .bool f10c_2, .string f10c_3] :: ow) := hp
        refine ⟨_, rfl, ?_⟩
        clear hf; intro a hf
        have hp : Hp _ _ _ (Res.sl Ek.str 9 v47 q44.1 :: Res.sl Ek.bool 4 v48 q44.2.2.2.2.2.1 :: Res.sl Ek.str 9 v49 q44.2.2.2.2.2.2 :: Res.sl Ek.str 9 v38 q35.1 :: Res.map (fun x : ByteArray => Value.string x) v39 q35.2.2.2.2.2 :: Res.obj 74 v3 [.int .i64 q35.2.2.2.1, .int .i64 q35.2.2.2.2.1, v39] :: Res.obj 31 v32 [.int .u8 f10c_0, .int .u8 f10c_1, .bool f10c_2, .string f10c_3] :: ow) := Hp.sel (pre := [Res.obj 74 v3 [.int .i64 q35.2.2.2.1, .int .i64 q35.2.2.2.2.1, v39], Res.sl Ek.str 9 v47 q44.1, Res.sl Ek.bool 4 v48 q44.2.2.2.2.2.1, Res.sl Ek.str 9 v49 q44.2.2.2.2.2.2, Res.sl Ek.str 9 v38 q35.1, Res.map (fun x : ByteArray => Value.string x) v39 q35.2.2.2.2.2, Res.obj 31 v32 [.int .u8 f10c_0, .int .u8 f10c_1, .bool f10c_2, .string f10c_3]]) (tail := ow) (rs' := [Res.sl Ek.str 9 v47 q44.1, Res.sl Ek.bool 4 v48 q44.2.2.2.2.2.1, Res.sl Ek.str 9 v49 q44.2.2.2.2.2.2, Res.sl Ek.str 9 v38 q35.1, Res.map (fun x : ByteArray => Value.string x) v39 q35.2.2.2.2.2, Res.obj 74 v3 [.int .i64 q35.2.2.2.1, .int .i64 q35.2.2.2.2.1, v39], Res.obj 31 v32 [.int .u8 f10c_0, .int .u8 f10c_1, .bool f10c_2, .string f10c_3]]) hp [1, 2, 3, 4, 5, 0, 6] (by decide) (by simp) rfl
        refine st_nil hf (th_n ⟨fun _ _ => ⟨_, hp⟩, ?_⟩)
        refine dr_take 22 (.bool (q96 != q44.2.2.2.2.1)) rfl (by kernel_rfl) (by kernel_rfl) (by kernel_rfl) (by kernel_rfl) rfl rfl hf (by decide) (wantY hf rfl rfl hb95) (fun w hp => ?_) ⟨_, hp⟩ ?_
        · obtain ⟨_, hp⟩ := hp
          refine st_ineq hf (by decide) (wantY hf rfl rfl hb95) rfl rfl ?_
          clear hf; intro a ha hf
          exact st_nil hf (th_n ⟨ha, rfl⟩)
        clear hf; intro a hf
        refine dr_take 23 (.bool z103) rfl (by kernel_rfl) (by kernel_rfl) (by kernel_rfl) (by kernel_rfl) rfl rfl hf (by decide) rfl (fun w hp => ?_) ⟨_, hp⟩ ?_
        · obtain ⟨_, hp⟩ := hp
          refine st_pick (v := .bool z103) hf rfl rfl (fun hb' => absurd (hb95.symm.trans hb') (by decide)) (fun _ => by rw [← hz94]; rfl) (by decide) ?_
          clear hf; intro a ha hf
          exact st_nil hf (th_n ⟨ha, rfl⟩)
        clear hf; intro a hf
        refine dr_end (by kernel_rfl) ?_ _
        have hp := bk69 _ _ hp
        have hp := bk64 _ _ hp
        have hp := bk59 _ _ hp
        exact ⟨hf.sub ⟨rfl, rfl, rfl, rfl, rfl, rfl, trivial⟩, hp⟩
      rintro a w ⟨hf, hp⟩
      refine th_n ?_
      refine wp_if hf rfl (fun hb => ?_) (fun hb => ?_)
      · replace h := ifT h hb
        refine wp_seq ?_
        refine wp_reg ?_
        refine st_assign hf rfl rfl (by decide) ?_
        clear hf; intro a ha hf; clear ha
        refine st_nil hf ?_
        refine th_n ?_
        refine wp_ret ?_
        refine th_r ?_
        refine ib_r ?_
        refine th_r ?_
        obtain rfl := Option.some.inj h
        have hp : Hp _ _ _ (ow) := Hp.sel (pre := [Res.obj 31 v42 [.int .u8 q35.2.1.1, .int .u8 q35.2.1.2.1, .bool q35.2.1.2.2.1, .string q35.2.1.2.2.2], Res.obj 31 v53 [.int .u8 q44.2.1.1, .int .u8 q44.2.1.2.1, .bool q44.2.1.2.2.1, .string q44.2.1.2.2.2], Res.obj 37 v7 [.int .i64 q44.2.2.2.1, .int .i64 q44.2.2.2.2.1, v48, v49], Res.sl Ek.str 9 v47 q44.1, Res.sl Ek.bool 4 v48 q44.2.2.2.2.2.1, Res.sl Ek.str 9 v49 q44.2.2.2.2.2.2, Res.sl Ek.str 9 v38 q35.1, Res.map (fun x : ByteArray => Value.string x) v39 q35.2.2.2.2.2, Res.obj 74 v3 [.int .i64 q35.2.2.2.1, .int .i64 q35.2.2.2.2.1, v39], Res.obj 31 v32 [.int .u8 f10c_0, .int .u8 f10c_1, .bool f10c_2, .string f10c_3]]) (tail := ow) (rs' := []) hp [] (by decide) (by simp) rfl
        exact rnd_r (by simp) ⟨rfl, ⟨hf.sub ⟨rfl, trivial⟩, hp⟩⟩
      replace h := ifF h hb
      refine wp_skip ?_
      refine th_n ?_
      refine wp_seq ?_
      refine wp_reg ?_
      refine st_assign hf rfl rfl (by decide) ?_
      clear hf; intro a ha hf; clear ha
      refine st_nil hf ?_
      refine th_n ?_
      refine wp_block ?_
      obtain ⟨q107, hl, h⟩ := bnd h
      have hp : Hp _ _ _ (Res.sl Ek.str 9 v38 q35.1 :: Res.obj 74 v3 [.int .i64 q35.2.2.2.1, .int .i64 q35.2.2.2.2.1, v39] :: Res.map (fun x : ByteArray => Value.string x) v39 q35.2.2.2.2.2 :: Res.obj 37 v7 [.int .i64 q44.2.2.2.1, .int .i64 q44.2.2.2.2.1, v48, v49] :: Res.sl Ek.bool 4 v48 q44.2.2.2.2.2.1 :: Res.sl Ek.str 9 v49 q44.2.2.2.2.2.2 :: ow) := Hp.sel (pre := [Res.obj 31 v42 [.int .u8 q35.2.1.1, .int .u8 q35.2.1.2.1, .bool q35.2.1.2.2.1, .string q35.2.1.2.2.2], Res.obj 31 v53 [.int .u8 q44.2.1.1, .int .u8 q44.2.1.2.1, .bool q44.2.1.2.2.1, .string q44.2.1.2.2.2], Res.obj 37 v7 [.int .i64 q44.2.2.2.1, .int .i64 q44.2.2.2.2.1, v48, v49], Res.sl Ek.str 9 v47 q44.1, Res.sl Ek.bool 4 v48 q44.2.2.2.2.2.1, Res.sl Ek.str 9 v49 q44.2.2.2.2.2.2, Res.sl Ek.str 9 v38 q35.1, Res.map (fun x : ByteArray => Value.string x) v39 q35.2.2.2.2.2, Res.obj 74 v3 [.int .i64 q35.2.2.2.1, .int .i64 q35.2.2.2.2.1, v39], Res.obj 31 v32 [.int .u8 f10c_0, .int .u8 f10c_1, .bool f10c_2, .string f10c_3]]) (tail := ow) (rs' := [Res.sl Ek.str 9 v38 q35.1, Res.obj 74 v3 [.int .i64 q35.2.2.2.1, .int .i64 q35.2.2.2.2.1, v39], Res.map (fun x : ByteArray => Value.string x) v39 q35.2.2.2.2.2, Res.obj 37 v7 [.int .i64 q44.2.2.2.1, .int .i64 q44.2.2.2.2.1, v48, v49], Res.sl Ek.bool 4 v48 q44.2.2.2.2.2.1, Res.sl Ek.str 9 v49 q44.2.2.2.2.2.2]) hp [6, 8, 7, 2, 4, 5] (by decide) (by simp) rfl
      refine wp_loop_pure (f := f_foghornlaw28_AgainTakes.s2) (s := (q35.1, (0 : Int))) (fun s a w => ∃ (v104 : Value), Fr 118 a [(1, vl1), (5, v3), (7, v7), (9, .int .i64 i9), (11, v104), (17, .int .i64 s.2)] ∧ Hp S w0 w (Res.sl Ek.str 9 v104 s.1 :: Res.obj 74 v3 [.int .i64 q35.2.2.2.1, .int .i64 q35.2.2.2.2.1, v39] :: Res.map (fun x : ByteArray => Value.string x) v39 q35.2.2.2.2.2 :: Res.obj 37 v7 [.int .i64 q44.2.2.2.1, .int .i64 q44.2.2.2.2.1, v48, v49] :: Res.sl Ek.bool 4 v48 q44.2.2.2.2.2.1 :: Res.sl Ek.str 9 v49 q44.2.2.2.2.2.2 :: ow)) (fun q e a w => e = .exit 2 ∧ Fr 118 a [(1, vl1), (5, v3), (7, v7), (9, .int .i64 i9)] ∧ Hp S w0 w (Res.obj 74 v3 [.int .i64 q35.2.2.2.1, .int .i64 q35.2.2.2.2.1, v39] :: Res.map (fun x : ByteArray => Value.string x) v39 q35.2.2.2.2.2 :: Res.obj 37 v7 [.int .i64 q44.2.2.2.1, .int .i64 q44.2.2.2.2.1, v48, v49] :: Res.sl Ek.bool 4 v48 q44.2.2.2.2.2.1 :: Res.sl Ek.str 9 v49 q44.2.2.2.2.2.2 :: ow)) ?_ hl ⟨_, hf.sub ⟨rfl, rfl, rfl, rfl, rfl, rfl, trivial⟩, hp⟩ ?_
      · clear hl hf hp
        intro s x a w h hI
        obtain ⟨ax11, k17⟩ := s
        obtain ⟨v104, hf, hp⟩ : ∃ (v104 : Value), Fr 118 a [(1, vl1), (5, v3), (7, v7), (9, .int .i64 i9), (11, v104), (17, .int .i64 k17)] ∧ Hp S w0 w (Res.sl Ek.str 9 v104 ax11 :: Res.obj 74 v3 [.int .i64 q35.2.2.2.1, .int .i64 q35.2.2.2.2.1, v39] :: Res.map (fun x : ByteArray => Value.string x) v39 q35.2.2.2.2.2 :: Res.obj 37 v7 [.int .i64 q44.2.2.2.1, .int .i64 q44.2.2.2.2.1, v48, v49] :: Res.sl Ek.bool 4 v48 q44.2.2.2.2.2.1 :: Res.sl Ek.str 9 v49 q44.2.2.2.2.2.2 :: ow) := hI
        replace h : f_foghornlaw28_AgainTakes.s2c ax11 k17 = some x := h
        unfold f_foghornlaw28_AgainTakes.s2c at h
        refine wp_seq ?_
        refine wp_seq ?_
        refine wp_reg ?_
        refine st_move hf rfl rfl (by decide) ?_
        clear hf; intro a ha hf; clear ha
        refine st_move hf rfl rfl (by decide) ?_
        clear hf; intro a ha hf; clear ha
        refine st_len (E := Ek.str) hf (by decide) Try.underlying35 rfl rfl (hp.sl (i := 0) rfl) ?_
        clear hf; intro a ha hf; clear ha
        refine st_ilss hf (by decide) rfl rfl rfl ?_
        clear hf; intro a ha hf; clear ha
        refine st_nil hf ?_
        refine th_n ?_
        refine wp_if hf rfl (fun hb => ?_) (fun hb => ?_)
        · replace h := ifT h hb
          refine wp_skip ?_
          refine th_n ?_
          refine wp_seq ?_
          refine wp_block ?_
          refine wp_reg ?_
          refine st_move hf rfl rfl (by decide) ?_
          clear hf; intro a ha hf; clear ha
          refine st_move hf rfl rfl (by decide) ?_
          clear hf; intro a ha hf; clear ha
          obtain ⟨hc106, h⟩ := chk h
          refine st_index (E := Ek.str) hf (by decide) Try.underlying35 elt9 rfl rfl rfl (hp.sl (i := 0) rfl) hc106.1 hc106.2 ?_
          clear hf; intro a ha hf; clear ha
          refine st_store (E := Ek.str) hf elt9 hp (i := 0) rfl rfl rfl rfl rfl hc106.1 hc106.2 ?_
          clear hf; intro a w hf hp0; clear hp; have hp := hp0; clear hp0
          replace hp : Hp _ _ _ (Res.sl Ek.str 9 v104 (ax11.set (k17).toNat (ByteArray.mk #[63])) :: Res.obj 74 v3 [.int .i64 q35.2.2.2.1, .int .i64 q35.2.2.2.2.1, v39] :: Res.map (fun x : ByteArray => Value.string x) v39 q35.2.2.2.2.2 :: Res.obj 37 v7 [.int .i64 q44.2.2.2.1, .int .i64 q44.2.2.2.2.1, v48, v49] :: Res.sl Ek.bool 4 v48 q44.2.2.2.2.2.1 :: Res.sl Ek.str 9 v49 q44.2.2.2.2.2.2 :: ow) := hp
          refine st_nil hf ?_
          refine ib_n ?_
          refine th_n ?_
          refine wp_reg ?_
          refine st_move hf rfl rfl (by decide) ?_
          clear hf; intro a ha hf; clear ha
          refine st_iadd hf (by decide) rfl rfl rfl ?_
          clear hf; intro a ha hf; clear ha
          refine st_assign hf rfl rfl (by decide) ?_
          clear hf; intro a ha hf; clear ha
          refine st_nil hf ?_
          obtain rfl := Option.some.inj h
          exact rnd_l ⟨_, hf.sub ⟨rfl, rfl, rfl, rfl, rfl, rfl, trivial⟩, hp⟩
        replace h := ifF h hb
        refine wp_exit ?_
        refine th_e ?_
        obtain rfl := Option.some.inj h
        have hp : Hp _ _ _ (Res.obj 74 v3 [.int .i64 q35.2.2.2.1, .int .i64 q35.2.2.2.2.1, v39] :: Res.map (fun x : ByteArray => Value.string x) v39 q35.2.2.2.2.2 :: Res.obj 37 v7 [.int .i64 q44.2.2.2.1, .int .i64 q44.2.2.2.2.1, v48, v49] :: Res.sl Ek.bool 4 v48 q44.2.2.2.2.2.1 :: Res.sl Ek.str 9 v49 q44.2.2.2.2.2.2 :: ow) := Hp.sel (pre := [Res.sl Ek.str 9 v104 ax11, Res.obj 74 v3 [.int .i64 q35.2.2.2.1, .int .i64 q35.2.2.2.2.1, v39], Res.map (fun x : ByteArray => Value.string x) v39 q35.2.2.2.2.2, Res.obj 37 v7 [.int .i64 q44.2.2.2.1, .int .i64 q44.2.2.2.2.1, v48, v49], Res.sl Ek.bool 4 v48 q44.2.2.2.2.2.1, Res.sl Ek.str 9 v49 q44.2.2.2.2.2.2]) (tail := ow) (rs' := [Res.obj 74 v3 [.int .i64 q35.2.2.2.1, .int .i64 q35.2.2.2.2.1, v39], Res.map (fun x : ByteArray => Value.string x) v39 q35.2.2.2.2.2, Res.obj 37 v7 [.int .i64 q44.2.2.2.1, .int .i64 q44.2.2.2.2.1, v48, v49], Res.sl Ek.bool 4 v48 q44.2.2.2.2.2.1, Res.sl Ek.str 9 v49 q44.2.2.2.2.2.2]) hp [1, 2, 3, 4, 5] (by decide) (by simp) rfl
        exact rnd_r (by simp) ⟨rfl, hf.sub ⟨rfl, rfl, rfl, rfl, trivial⟩, hp⟩
      clear hl hf hp
      intro e a w hne hO
      obtain ⟨rfl, hf, hp⟩ := hO
      refine ib_same ?_
      refine ib_n ?_
      refine th_n ?_
      refine wp_reg ?_
      refine st_move hf rfl rfl (by decide) ?_
      clear hf; intro a ha hf; clear ha
      refine st_iadd hf (by decide) rfl rfl rfl ?_
      clear hf; intro a ha hf; clear ha
      refine st_assign hf rfl rfl (by decide) ?_
      clear hf; intro a ha hf; clear ha
      refine st_nil hf ?_
      obtain rfl := Option.some.inj h
      have hp : Hp _ _ _ (Res.map (fun x : ByteArray => Value.string x) v39 q35.2.2.2.2.2 :: Res.obj 74 v3 [.int .i64 q35.2.2.2.1, .int .i64 q35.2.2.2.2.1, v39] :: Res.sl Ek.bool 4 v48 q44.2.2.2.2.2.1 :: Res.sl Ek.str 9 v49 q44.2.2.2.2.2.2 :: Res.obj 37 v7 [.int .i64 q44.2.2.2.1, .int .i64 q44.2.2.2.2.1, v48, v49] :: ow) := Hp.sel (pre := [Res.obj 74 v3 [.int .i64 q35.2.2.2.1, .int .i64 q35.2.2.2.2.1, v39], Res.map (fun x : ByteArray => Value.string x) v39 q35.2.2.2.2.2, Res.obj 37 v7 [.int .i64 q44.2.2.2.1, .int .i64 q44.2.2.2.2.1, v48, v49], Res.sl Ek.bool 4 v48 q44.2.2.2.2.2.1, Res.sl Ek.str 9 v49 q44.2.2.2.2.2.2]) (tail := ow) (rs' := [Res.map (fun x : ByteArray => Value.string x) v39 q35.2.2.2.2.2, Res.obj 74 v3 [.int .i64 q35.2.2.2.1, .int .i64 q35.2.2.2.2.1, v39], Res.sl Ek.bool 4 v48 q44.2.2.2.2.2.1, Res.sl Ek.str 9 v49 q44.2.2.2.2.2.2, Res.obj 37 v7 [.int .i64 q44.2.2.2.1, .int .i64 q44.2.2.2.2.1, v48, v49]]) hp [1, 0, 3, 4, 2] (by decide) (by simp) rfl
      exact rnd_l ⟨_, _, _, hf.sub ⟨rfl, rfl, rfl, rfl, trivial⟩, hp⟩
    replace h := ifF h hb
    refine wp_exit ?_
    refine th_e ?_
    obtain rfl := Option.some.inj h
    have hp : Hp _ _ _ (ow) := Hp.sel (pre := [Res.map (fun x : ByteArray => Value.string x) v21 xx5c_2, Res.obj 74 v3 [.int .i64 xx5c_0, .int .i64 xx5c_1, v21], Res.sl Ek.bool 4 v24 yx7c_2, Res.sl Ek.str 9 v26 yx7c_3, Res.obj 37 v7 [.int .i64 yx7c_0, .int .i64 yx7c_1, v24, v26]]) (tail := ow) (rs' := []) hp [] (by decide) (by simp) rfl
    exact rnd_r (by simp) ⟨rfl, hf.sub trivial, hp⟩
  clear hl hf hp
  intro e a w hne hO
  rcases q116 with q117 | q118
  · replace h := smL h
    obtain ⟨rfl, hf, hp⟩ := hO
    refine ib_same ?_
    refine th_n ?_
    refine wp_seq ?_
    refine wp_reg ?_
    refine st_assign hf rfl rfl (by decide) ?_
    clear hf; intro a ha hf; clear ha
    refine st_nil hf ?_
    refine th_n ?_
    refine wp_ret ?_
    obtain rfl := Option.some.inj h
    exact ⟨rfl, ⟨hf.sub ⟨rfl, trivial⟩, hp⟩⟩
  replace h := smR h
  obtain ⟨rfl, hf, hp⟩ := hO
  refine ib_r ?_
  refine th_r ?_
  obtain rfl := Option.some.inj h
  exact ⟨rfl, ⟨hf.sub ⟨rfl, trivial⟩, hp⟩⟩

end Go.Proofs.Ytmdigffgmohcnaa
