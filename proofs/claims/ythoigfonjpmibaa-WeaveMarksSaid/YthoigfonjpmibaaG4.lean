/- The functions 3: what each answers, as a plain function, and that its call answers it; printed by gen.py. -/
import Derived.Test.YthoigfonjpmibaaProg
import Derived.Test.YthoigfonjpmibaaGlP
import Derived.KernelRfl
set_option linter.unusedVariables false
set_option maxRecDepth 100000
set_option maxHeartbeats 4000000
namespace Go.Proofs.Ythoigfonjpmibaa
open GL
theorem eltv22 : ElT Try.prog Ek.val 22 24 (.slice none 0 0) := ElT.of (z := .slice none 0 0) (by kernel_rfl) ⟨rfl, rfl⟩
theorem elt3 : ElT Try.prog (Ek.int .i64) 3 8 (0 : Int) := ElT.of (z := .int .i64 0) (by kernel_rfl) rfl
theorem elt4 : ElT Try.prog Ek.bool 4 1 false := ElT.of (z := .bool false) (by kernel_rfl) rfl
theorem pl3 : Plain Try.prog 3 := ⟨⟨_, Try.underlying3, trivial⟩⟩
theorem pl4 : Plain Try.prog 4 := ⟨⟨_, Try.underlying4, trivial⟩⟩
theorem pl22 : Plain Try.prog 22 := ⟨⟨_, Try.underlying22, trivial⟩⟩
noncomputable def f_foghornref17_Of (count0 : Int) (length1 : Int) : Option Bool := (some ((((decide ((1 : Int) ≤ count0)) && (decide (count0 ≤ (255 : Int)))) && (decide ((1 : Int) ≤ length1))) && (decide (length1 ≤ (255 : Int)))))
theorem f_foghornref17_Of_c {S : Nat → Prop} {w0 w : World} {ow : List Res} (hp : Hp S w0 w ow) (count0 : Int) (length1 : Int) {r : Bool} (h : f_foghornref17_Of count0 length1 = some r) :
    Calls Try.prog 37 #[.int .i64 count0, .int .i64 length1] w (fun e w' => e = .returned (.bool r) ∧ Hp S w0 w' (ow)) := by
  unfold f_foghornref17_Of at h
  refine enter (n := 19) (args := [.int .i64 count0, .int .i64 length1]) Try.func37 rfl rfl (Nat.le_of_ble_eq_true rfl) fun a hf => ?_
  replace hf : Fr 19 a [(0, .int .i64 count0), (1, .int .i64 length1)] := hf
  refine wp_mono (Q := fun e a w => e = .ret ∧ Fr 19 a [(4, .bool r)] ∧ Hp S w0 w (ow)) ?_ ?_
  rotate_left
  · rintro e a w ⟨rfl, hf, hp⟩
    exact ret1 hf rfl rfl ⟨rfl, hp⟩
  refine wp_seq ?_
  refine wp_reg ?_
  refine st_assign hf rfl rfl (by decide) ?_
  clear hf; intro a ha hf; clear ha
  refine st_nil hf ?_
  refine th_n ?_
  refine wp_seq ?_
  refine wp_reg ?_
  refine st_move hf rfl rfl (by decide) ?_
  clear hf; intro a ha hf; clear ha
  refine st_igeq hf (by decide) rfl rfl rfl ?_
  clear hf; intro a ha hf; clear ha
  refine st_move hf rfl rfl (by decide) ?_
  clear hf; intro a ha hf; clear ha
  refine wpList_cut 3 (fun a w => Fr 19 a [(1, .int .i64 length1), (10, .bool ((decide ((1 : Int) ≤ count0)) && (decide (count0 ≤ (255 : Int)))))] ∧ Hp S w0 w (ow)) ?_ ?_
  · rcases Bool.eq_false_or_eq_true (decide ((1 : Int) ≤ count0)) with hb2 | hb2
    · skip
      refine st_move hf (wantY hf rfl rfl hb2) rfl (by decide) ?_
      clear hf; intro a ha hf; clear ha
      refine st_ileq hf (by decide) (wantY hf rfl rfl hb2) rfl rfl ?_
      clear hf; intro a ha hf; clear ha
      refine st_pick (v := .bool (decide (count0 ≤ (255 : Int)))) hf rfl rfl (fun hb' => ?_) (fun hb' => ?_) (by decide) ?_
      · rfl
      · exact absurd (hb2.symm.trans hb') (by decide)
      clear hf; intro a ha hf; clear ha
      refine st_nil hf (th_n ?_)
      exact ⟨hf.sub ⟨rfl, (by rw [hb2]; rfl), trivial⟩, hp⟩
    · skip
      refine st_skip hf (wantN hf rfl rfl hb2) rfl (by decide) ?_ rfl
      clear hf; intro a hf
      refine st_skip hf (wantN hf rfl rfl hb2) rfl (by decide) ?_ rfl
      clear hf; intro a hf
      refine st_pick (v := .bool false) hf rfl rfl (fun hb' => ?_) (fun hb' => ?_) (by decide) ?_
      · exact absurd (hb2.symm.trans hb') (by decide)
      · rfl
      clear hf; intro a ha hf; clear ha
      refine st_nil hf (th_n ?_)
      exact ⟨hf.sub ⟨rfl, (by rw [hb2]; rfl), trivial⟩, hp⟩
  · rintro a w ⟨hf, hp⟩
    refine st_move hf rfl rfl (by decide) ?_
    clear hf; intro a ha hf; clear ha
    refine wpList_cut 3 (fun a w => Fr 19 a [(1, .int .i64 length1), (14, .bool (((decide ((1 : Int) ≤ count0)) && (decide (count0 ≤ (255 : Int)))) && (decide ((1 : Int) ≤ length1))))] ∧ Hp S w0 w (ow)) ?_ ?_
    · rcases Bool.eq_false_or_eq_true ((decide ((1 : Int) ≤ count0)) && (decide (count0 ≤ (255 : Int)))) with hb4 | hb4
      · skip
        refine st_move hf (wantY hf rfl rfl hb4) rfl (by decide) ?_
        clear hf; intro a ha hf; clear ha
        refine st_igeq hf (by decide) (wantY hf rfl rfl hb4) rfl rfl ?_
        clear hf; intro a ha hf; clear ha
        refine st_pick (v := .bool (decide ((1 : Int) ≤ length1))) hf rfl rfl (fun hb' => ?_) (fun hb' => ?_) (by decide) ?_
        · rfl
        · exact absurd (hb4.symm.trans hb') (by decide)
        clear hf; intro a ha hf; clear ha
        refine st_nil hf (th_n ?_)
        exact ⟨hf.sub ⟨rfl, (by rw [hb4]; rfl), trivial⟩, hp⟩
      · skip
        refine st_skip hf (wantN hf rfl rfl hb4) rfl (by decide) ?_ rfl
        clear hf; intro a hf
        refine st_skip hf (wantN hf rfl rfl hb4) rfl (by decide) ?_ rfl
        clear hf; intro a hf
        refine st_pick (v := .bool false) hf rfl rfl (fun hb' => ?_) (fun hb' => ?_) (by decide) ?_
        · exact absurd (hb4.symm.trans hb') (by decide)
        · rfl
        clear hf; intro a ha hf; clear ha
        refine st_nil hf (th_n ?_)
        exact ⟨hf.sub ⟨rfl, (by rw [hb4]; rfl), trivial⟩, hp⟩
    · rintro a w ⟨hf, hp⟩
      refine st_move hf rfl rfl (by decide) ?_
      clear hf; intro a ha hf; clear ha
      refine wpList_cut 3 (fun a w => Fr 19 a [(18, .bool ((((decide ((1 : Int) ≤ count0)) && (decide (count0 ≤ (255 : Int)))) && (decide ((1 : Int) ≤ length1))) && (decide (length1 ≤ (255 : Int)))))] ∧ Hp S w0 w (ow)) ?_ ?_
      · rcases Bool.eq_false_or_eq_true (((decide ((1 : Int) ≤ count0)) && (decide (count0 ≤ (255 : Int)))) && (decide ((1 : Int) ≤ length1))) with hb6 | hb6
        · skip
          refine st_move hf (wantY hf rfl rfl hb6) rfl (by decide) ?_
          clear hf; intro a ha hf; clear ha
          refine st_ileq hf (by decide) (wantY hf rfl rfl hb6) rfl rfl ?_
          clear hf; intro a ha hf; clear ha
          refine st_pick (v := .bool (decide (length1 ≤ (255 : Int)))) hf rfl rfl (fun hb' => ?_) (fun hb' => ?_) (by decide) ?_
          · rfl
          · exact absurd (hb6.symm.trans hb') (by decide)
          clear hf; intro a ha hf; clear ha
          refine st_nil hf (th_n ?_)
          exact ⟨hf.sub ⟨(by rw [hb6]; rfl), trivial⟩, hp⟩
        · skip
          refine st_skip hf (wantN hf rfl rfl hb6) rfl (by decide) ?_ rfl
          clear hf; intro a hf
          refine st_skip hf (wantN hf rfl rfl hb6) rfl (by decide) ?_ rfl
          clear hf; intro a hf
          refine st_pick (v := .bool false) hf rfl rfl (fun hb' => ?_) (fun hb' => ?_) (by decide) ?_
          · exact absurd (hb6.symm.trans hb') (by decide)
          · rfl
          clear hf; intro a ha hf; clear ha
          refine st_nil hf (th_n ?_)
          exact ⟨hf.sub ⟨(by rw [hb6]; rfl), trivial⟩, hp⟩
      · rintro a w ⟨hf, hp⟩
        refine st_assign hf rfl rfl (by decide) ?_
        clear hf; intro a ha hf; clear ha
        refine st_nil hf ?_
        refine th_n ?_
        refine wp_ret ?_
        obtain rfl := Option.some.inj h
        exact ⟨rfl, ⟨hf.sub ⟨rfl, trivial⟩, hp⟩⟩

noncomputable def f_foghornref17_Marks.s1c (lost0 : (List Int)) (gone8 : (List Bool)) (i9 : Int) : Option (((List Bool) × Int) ⊕ ((List Bool) ⊕ ((List (List Int)) × Int))) := (if (decide (i9 < (lost0.length : Int))) = true then (if 0 ≤ i9 ∧ i9 < (lost0.length : Int) then ((if (decide ((gt lost0 i9) < (0 : Int))) = true then (some true) else (if 0 ≤ i9 ∧ i9 < (lost0.length : Int) then (some (decide ((gone8.length : Int) ≤ (gt lost0 i9)))) else none)).bind fun z16 => ((if z16 = true then (some true) else (if 0 ≤ i9 ∧ i9 < (lost0.length : Int) then (if 0 ≤ (gt lost0 i9) ∧ (gt lost0 i9) < (gone8.length : Int) then (some (gt gone8 (gt lost0 i9))) else none) else none)).bind fun z20 => (if z20 = true then (some (Sum.inr (Sum.inr ([], (1 : Int))))) else (if 0 ≤ i9 ∧ i9 < (lost0.length : Int) then (if 0 ≤ (gt lost0 i9) ∧ (gt lost0 i9) < (gone8.length : Int) then (some (Sum.inl ((gone8.set ((gt lost0 i9)).toNat true), (IntKind.i64.wrap (i9 + (1 : Int)))))) else none) else none)))) else none) else (some (Sum.inr (Sum.inl gone8))))
noncomputable def f_foghornref17_Marks.s1 (lost0 : (List Int)) (s : ((List Bool) × Int)) : Option (((List Bool) × Int) ⊕ ((List Bool) ⊕ ((List (List Int)) × Int))) := f_foghornref17_Marks.s1c lost0 s.1 s.2
noncomputable def f_foghornref17_Marks.s2c (count1 : Int) (q27 : (List Bool)) (out10 : (List (List Int))) (p11 : Int) : Option (((List (List Int)) × Int) ⊕ (List (List Int))) := (if (decide (p11 < (q27.length : Int))) = true then (if 0 ≤ p11 ∧ p11 < (q27.length : Int) then (if (gt q27 p11) = true then (if count1 ≠ 0 then (if count1 ≠ 0 then (if 0 ≤ ((p11).tmod count1) ∧ ((p11).tmod count1) < (out10.length : Int) then (if count1 ≠ 0 then (if ((gt out10 ((p11).tmod count1)).length + ([(IntKind.i64.wrap ((p11).tdiv count1))]).length) * 8 ≤ 140737488355328 then (if 0 ≤ ((p11).tmod count1) ∧ ((p11).tmod count1) < (out10.length : Int) then (some (Sum.inl ((out10.set (((p11).tmod count1)).toNat (((gt out10 ((p11).tmod count1)) ++ [(IntKind.i64.wrap ((p11).tdiv count1))]) : (List Int))), (IntKind.i64.wrap (p11 + (1 : Int)))))) else none) else none) else none) else none) else none) else none) else (some (Sum.inl (out10, (IntKind.i64.wrap (p11 + (1 : Int))))))) else none) else (some (Sum.inr out10)))
noncomputable def f_foghornref17_Marks.s2 (count1 : Int) (q27 : (List Bool)) (s : ((List (List Int)) × Int)) : Option (((List (List Int)) × Int) ⊕ (List (List Int))) := f_foghornref17_Marks.s2c count1 q27 s.1 s.2
noncomputable def f_foghornref17_Marks (lost0 : (List Int)) (count1 : Int) (length2 : Int) : Option ((List (List Int)) × Int) := ((f_foghornref17_Of count1 length2).bind fun q1 => (if ((!q1) || (decide ((IntKind.i64.wrap (count1 * length2)) < (lost0.length : Int)))) = true then (some ([], (1 : Int))) else (if 0 ≤ (IntKind.i64.wrap (count1 * length2)) ∧ (IntKind.i64.wrap (count1 * length2)) ≤ (IntKind.i64.wrap (count1 * length2)) ∧ (IntKind.i64.wrap (count1 * length2)) * 1 ≤ 281474976710656 then ((loop (f_foghornref17_Marks.s1 lost0) ((List.replicate ((IntKind.i64.wrap (count1 * length2))).toNat false), (0 : Int))).bind (fun q26 => sm q26 (fun q27 => (if 0 ≤ count1 ∧ count1 ≤ count1 ∧ count1 * 24 ≤ 281474976710656 then ((loop (f_foghornref17_Marks.s2 count1 q27) ((List.replicate (count1).toNat ([] : (List Int))), (0 : Int))).bind (fun q56 => (some (q56, (0 : Int))))) else none)) (fun q28 => (some (q28.1, q28.2))))) else none)))
theorem f_foghornref17_Marks_c {S : Nat → Prop} {w0 w : World} {ow : List Res} (hp : Hp S w0 w ow) (vlost0 : Value) (lost0 : (List Int)) (hlost0 : RdS (Ek.int .i64) S w0 vlost0 lost0) (count1 : Int) (length2 : Int) {r : ((List (List Int)) × Int)} (h : f_foghornref17_Marks lost0 count1 length2 = some r) :
    Calls Try.prog 12 #[vlost0, .int .i64 count1, .int .i64 length2] w (fun e w' => ∃ (u0 : Value) (u1 : List Value), e = .returned (.tuple #[u0, .int .i64 r.2]) ∧ Hp S w0 w' (Res.rows (RowK.sl (Ek.int .i64) 3) 22 u0 u1 r.1 :: ow)) := by
  unfold f_foghornref17_Marks at h
  refine enter (n := 92) (args := [vlost0, .int .i64 count1, .int .i64 length2]) Try.func12 rfl rfl (Nat.le_of_ble_eq_true rfl) fun a hf => ?_
  replace hf : Fr 92 a [(0, vlost0), (1, .int .i64 count1), (2, .int .i64 length2)] := hf
  refine wp_mono (Q := fun e a w => e = .ret ∧ ∃ (u0 : Value) (u1 : List Value), Fr 92 a [(6, u0), (7, .int .i64 r.2)] ∧ Hp S w0 w (Res.rows (RowK.sl (Ek.int .i64) 3) 22 u0 u1 r.1 :: ow)) ?_ ?_
  rotate_left
  · rintro e a w ⟨rfl, x0, x1, hf, hp⟩
    exact ret2 hf rfl rfl rfl ⟨x0, x1, rfl, hp⟩
  refine wp_seq ?_
  refine wp_reg ?_
  refine st_assign hf rfl rfl (by decide) ?_
  clear hf; intro a ha hf; clear ha
  refine st_assign hf rfl rfl (by decide) ?_
  clear hf; intro a ha hf; clear ha
  refine st_nil hf ?_
  refine th_n ?_
  refine wp_seq ?_
  refine wp_seq ?_
  refine wp_reg ?_
  refine st_move hf rfl rfl (by decide) ?_
  clear hf; intro a ha hf; clear ha
  refine st_move hf rfl rfl (by decide) ?_
  clear hf; intro a ha hf; clear ha
  obtain ⟨q1, hcall2, h⟩ := bnd h
  refine st_call hf (by decide) Try.func37 rfl rfl rfl rfl rfl (f_foghornref17_Of_c hp _ _ hcall2) ?_
  rintro _ w ⟨rfl, hp0⟩
  clear hp; have hp := hp0; clear hp0
  replace hp : Hp _ _ w (ow) := hp
  refine ⟨_, rfl, ?_⟩
  clear hf; intro a hf
  refine st_not hf (by decide) rfl rfl ?_
  clear hf; intro a ha hf; clear ha
  refine st_move hf rfl rfl (by decide) ?_
  clear hf; intro a ha hf; clear ha
  refine wpList_cut 7 (fun a w => Fr 92 a [(0, vlost0), (1, .int .i64 count1), (2, .int .i64 length2), (23, .bool ((!q1) || (decide ((IntKind.i64.wrap (count1 * length2)) < (lost0.length : Int)))))] ∧ Hp S w0 w (ow)) ?_ ?_
  · rcases Bool.eq_false_or_eq_true (!q1) with hb4 | hb4
    · skip
      refine st_skip hf (wantN hf rfl rfl hb4) rfl (by decide) ?_ rfl
      clear hf; intro a hf
      refine st_skip hf (wantN hf rfl rfl hb4) rfl (by decide) ?_ rfl
      clear hf; intro a hf
      refine st_skip hf (wantN hf rfl rfl hb4) rfl (by decide) ?_ rfl
      clear hf; intro a hf
      refine st_skip hf (wantN hf rfl rfl hb4) rfl (by decide) ?_ rfl
      clear hf; intro a hf
      refine st_skip hf (wantN hf rfl rfl hb4) rfl (by decide) ?_ rfl
      clear hf; intro a hf
      refine st_skip hf (wantN hf rfl rfl hb4) rfl (by decide) ?_ rfl
      clear hf; intro a hf
      refine st_pick (v := .bool true) hf rfl rfl (fun hb' => ?_) (fun hb' => ?_) (by decide) ?_
      · rfl
      · exact absurd (hb4.symm.trans hb') (by decide)
      clear hf; intro a ha hf; clear ha
      refine st_nil hf (th_n ?_)
      exact ⟨hf.sub ⟨rfl, rfl, rfl, (by rw [hb4]; rfl), trivial⟩, hp⟩
    · skip
      refine st_move hf (wantY hf rfl rfl hb4) rfl (by decide) ?_
      clear hf; intro a ha hf; clear ha
      refine st_len (E := (Ek.int .i64)) hf (by decide) Try.underlying22 (wantY hf rfl rfl hb4) rfl (hlost0.sl hp) ?_
      clear hf; intro a ha hf; clear ha
      refine st_move hf (wantY hf rfl rfl hb4) rfl (by decide) ?_
      clear hf; intro a ha hf; clear ha
      refine st_move hf (wantY hf rfl rfl hb4) rfl (by decide) ?_
      clear hf; intro a ha hf; clear ha
      refine st_imul hf (by decide) (wantY hf rfl rfl hb4) rfl rfl ?_
      clear hf; intro a ha hf; clear ha
      refine st_igtr hf (by decide) (wantY hf rfl rfl hb4) rfl rfl ?_
      clear hf; intro a ha hf; clear ha
      refine st_pick (v := .bool (decide ((IntKind.i64.wrap (count1 * length2)) < (lost0.length : Int)))) hf rfl rfl (fun hb' => ?_) (fun hb' => ?_) (by decide) ?_
      · exact absurd (hb4.symm.trans hb') (by decide)
      · rfl
      clear hf; intro a ha hf; clear ha
      refine st_nil hf (th_n ?_)
      exact ⟨hf.sub ⟨rfl, rfl, rfl, (by rw [hb4]; rfl), trivial⟩, hp⟩
  · rintro a w ⟨hf, hp⟩
    refine st_nil hf ?_
    refine th_n ?_
    refine wp_if hf rfl (fun hb => ?_) (fun hb => ?_)
    · replace h := ifT h hb
      refine wp_seq ?_
      refine wp_reg ?_
      refine st_assign hf rfl rfl (by decide) ?_
      clear hf; intro a ha hf; clear ha
      refine st_assign hf rfl rfl (by decide) ?_
      clear hf; intro a ha hf; clear ha
      refine st_nil hf ?_
      refine th_n ?_
      refine wp_ret ?_
      refine th_r ?_
      obtain rfl := Option.some.inj h
      have hp := hp.rowsNil (RowK.sl (Ek.int .i64) 3) 22
      exact ⟨rfl, ⟨_, _, hf.sub ⟨rfl, rfl, trivial⟩, hp⟩⟩
    · replace h := ifF h hb
      refine wp_skip ?_
      refine th_n ?_
      refine wp_seq ?_
      refine wp_reg ?_
      refine st_move hf rfl rfl (by decide) ?_
      clear hf; intro a ha hf; clear ha
      refine st_move hf rfl rfl (by decide) ?_
      clear hf; intro a ha hf; clear ha
      refine st_imul hf (by decide) rfl rfl rfl ?_
      clear hf; intro a ha hf; clear ha
      obtain ⟨hc6, h⟩ := chk h
      refine st_make (E := Ek.bool) hf (by decide) elt4 Try.underlying64 (by decide) hp rfl rfl rfl hc6.1 hc6.2.1 hc6.2.2 ?_
      clear hf; intro a w v7 hf hp0; clear hp; have hp := hp0; clear hp0
      replace hp : Hp _ _ w (Res.sl Ek.bool 4 v7 (List.replicate ((IntKind.i64.wrap (count1 * length2))).toNat false) :: ow) := hp
      refine st_assign hf rfl rfl (by decide) ?_
      clear hf; intro a ha hf; clear ha
      refine st_nil hf ?_
      refine th_n ?_
      refine wp_seq ?_
      refine wp_seq ?_
      refine wp_reg ?_
      refine st_assign hf rfl rfl (by decide) ?_
      clear hf; intro a ha hf; clear ha
      refine st_nil hf ?_
      refine th_n ?_
      refine wp_block ?_
      obtain ⟨q26, hl, h⟩ := bnd h
      refine wp_loop_pure (f := (f_foghornref17_Marks.s1 lost0)) (s := ((List.replicate ((IntKind.i64.wrap (count1 * length2))).toNat false), (0 : Int))) (fun s a w => ∃ (v9 : Value), Fr 92 a [(0, vlost0), (1, .int .i64 count1), (8, v9), (9, .int .i64 s.2)] ∧ Hp S w0 w (Res.sl Ek.bool 4 v9 s.1 :: ow)) (fun q e a w => match q with | (Sum.inl q) => e = .exit 0 ∧ ∃ (v11 : Value), Fr 92 a [(1, .int .i64 count1), (8, v11)] ∧ Hp S w0 w (Res.sl Ek.bool 4 v11 q :: ow) | (Sum.inr q) => e = .ret ∧ ∃ (u0 : Value) (u1 : List Value), Fr 92 a [(6, u0), (7, .int .i64 q.2)] ∧ Hp S w0 w (Res.rows (RowK.sl (Ek.int .i64) 3) 22 u0 u1 q.1 :: ow)) ?_ hl ⟨_, hf.sub ⟨rfl, rfl, rfl, rfl, trivial⟩, hp⟩ ?_
      · clear hl hf hp
        intro s x a w h hI
        obtain ⟨gone8, i9⟩ := s
        obtain ⟨v9, hf, hp⟩ : ∃ (v9 : Value), Fr 92 a [(0, vlost0), (1, .int .i64 count1), (8, v9), (9, .int .i64 i9)] ∧ Hp S w0 w (Res.sl Ek.bool 4 v9 gone8 :: ow) := hI
        replace h : f_foghornref17_Marks.s1c lost0 gone8 i9 = some x := h
        unfold f_foghornref17_Marks.s1c at h
        refine wp_seq ?_
        refine wp_seq ?_
        refine wp_reg ?_
        refine st_move hf rfl rfl (by decide) ?_
        clear hf; intro a ha hf; clear ha
        refine st_move hf rfl rfl (by decide) ?_
        clear hf; intro a ha hf; clear ha
        refine st_len (E := (Ek.int .i64)) hf (by decide) Try.underlying22 rfl rfl (hlost0.sl hp) ?_
        clear hf; intro a ha hf; clear ha
        refine st_ilss hf (by decide) rfl rfl rfl ?_
        clear hf; intro a ha hf; clear ha
        refine st_nil hf ?_
        refine th_n ?_
        refine wp_if hf rfl (fun hb => ?_) (fun hb => ?_)
        · replace h := ifT h hb
          refine wp_skip ?_
          refine th_n ?_
          refine wp_seq ?_
          refine wp_block ?_
          refine wp_seq ?_
          refine wp_seq ?_
          refine wp_reg ?_
          refine st_move hf rfl rfl (by decide) ?_
          clear hf; intro a ha hf; clear ha
          refine st_move hf rfl rfl (by decide) ?_
          clear hf; intro a ha hf; clear ha
          obtain ⟨hc13, h⟩ := chk h
          refine st_index (E := (Ek.int .i64)) hf (by decide) Try.underlying22 elt3 rfl rfl rfl (hlost0.sl hp) hc13.1 hc13.2 ?_
          clear hf; intro a ha hf; clear ha
          refine st_ldI hf (by decide) pl3 rfl rfl (hlost0.sl hp) hc13.1 hc13.2 ?_
          clear hf; intro a ha hf; clear ha
          refine st_ilss hf (by decide) rfl rfl rfl ?_
          clear hf; intro a ha hf; clear ha
          refine st_move hf rfl rfl (by decide) ?_
          clear hf; intro a ha hf; clear ha
          obtain ⟨z16, hz14, h⟩ := bnd h
          refine wpList_cut 8 (fun a w => Fr 92 a [(0, vlost0), (1, .int .i64 count1), (8, v9), (9, .int .i64 i9), (47, .bool z16)] ∧ Hp S w0 w (Res.sl Ek.bool 4 v9 gone8 :: ow)) ?_ ?_
          · rcases Bool.eq_false_or_eq_true (decide ((gt lost0 i9) < (0 : Int))) with hb15 | hb15
            · skip
              replace hz14 := ifT hz14 hb15
              refine st_skip hf (wantN hf rfl rfl hb15) rfl (by decide) ?_ rfl
              clear hf; intro a hf
              refine st_skip hf (wantN hf rfl rfl hb15) rfl (by decide) ?_ rfl
              clear hf; intro a hf
              refine st_skip hf (wantN hf rfl rfl hb15) rfl (by decide) ?_ rfl
              clear hf; intro a hf
              refine st_skip hf (wantN hf rfl rfl hb15) rfl (by decide) ?_ rfl
              clear hf; intro a hf
              refine st_skip hf (wantN hf rfl rfl hb15) rfl (by decide) ?_ rfl
              clear hf; intro a hf
              refine st_skip hf (wantN hf rfl rfl hb15) rfl (by decide) ?_ rfl
              clear hf; intro a hf
              refine st_skip hf (wantN hf rfl rfl hb15) rfl (by decide) ?_ rfl
              clear hf; intro a hf
              obtain rfl := Option.some.inj hz14
              refine st_pick (v := .bool true) hf rfl rfl (fun hb' => ?_) (fun hb' => ?_) (by decide) ?_
              · rfl
              · exact absurd (hb15.symm.trans hb') (by decide)
              clear hf; intro a ha hf; clear ha
              refine st_nil hf (th_n ?_)
              exact ⟨hf.sub ⟨rfl, rfl, rfl, rfl, rfl, trivial⟩, hp⟩
            · skip
              replace hz14 := ifF hz14 hb15
              refine st_move hf (wantY hf rfl rfl hb15) rfl (by decide) ?_
              clear hf; intro a ha hf; clear ha
              refine st_move hf (wantY hf rfl rfl hb15) rfl (by decide) ?_
              clear hf; intro a ha hf; clear ha
              obtain ⟨hc17, hz14⟩ := chk hz14
              refine st_index (E := (Ek.int .i64)) hf (by decide) Try.underlying22 elt3 (wantY hf rfl rfl hb15) rfl rfl (hlost0.sl hp) hc17.1 hc17.2 ?_
              clear hf; intro a ha hf; clear ha
              refine st_ldI hf (by decide) pl3 (wantY hf rfl rfl hb15) rfl (hlost0.sl hp) hc17.1 hc17.2 ?_
              clear hf; intro a ha hf; clear ha
              refine st_move hf (wantY hf rfl rfl hb15) rfl (by decide) ?_
              clear hf; intro a ha hf; clear ha
              refine st_len (E := Ek.bool) hf (by decide) Try.underlying64 (wantY hf rfl rfl hb15) rfl (hp.sl (i := 0) rfl) ?_
              clear hf; intro a ha hf; clear ha
              refine st_igeq hf (by decide) (wantY hf rfl rfl hb15) rfl rfl ?_
              clear hf; intro a ha hf; clear ha
              obtain rfl := Option.some.inj hz14
              refine st_pick (v := .bool (decide ((gone8.length : Int) ≤ (gt lost0 i9)))) hf rfl rfl (fun hb' => ?_) (fun hb' => ?_) (by decide) ?_
              · exact absurd (hb15.symm.trans hb') (by decide)
              · rfl
              clear hf; intro a ha hf; clear ha
              refine st_nil hf (th_n ?_)
              exact ⟨hf.sub ⟨rfl, rfl, rfl, rfl, rfl, trivial⟩, hp⟩
          · rintro a w ⟨hf, hp⟩
            refine st_move hf rfl rfl (by decide) ?_
            clear hf; intro a ha hf; clear ha
            obtain ⟨z20, hz18, h⟩ := bnd h
            refine wpList_cut 8 (fun a w => Fr 92 a [(0, vlost0), (1, .int .i64 count1), (8, v9), (9, .int .i64 i9), (56, .bool z20)] ∧ Hp S w0 w (Res.sl Ek.bool 4 v9 gone8 :: ow)) ?_ ?_
            · rcases Bool.eq_false_or_eq_true z16 with hb19 | hb19
              · skip
                replace hz18 := ifT hz18 hb19
                refine st_skip hf (wantN hf rfl rfl hb19) rfl (by decide) ?_ rfl
                clear hf; intro a hf
                refine st_skip hf (wantN hf rfl rfl hb19) rfl (by decide) ?_ rfl
                clear hf; intro a hf
                refine st_skip hf (wantN hf rfl rfl hb19) rfl (by decide) ?_ rfl
                clear hf; intro a hf
                refine st_skip hf (wantN hf rfl rfl hb19) rfl (by decide) ?_ rfl
                clear hf; intro a hf
                refine st_skip hf (wantN hf rfl rfl hb19) rfl (by decide) ?_ rfl
                clear hf; intro a hf
                refine st_skip hf (wantN hf rfl rfl hb19) rfl (by decide) ?_ rfl
                clear hf; intro a hf
                refine st_skip hf (wantN hf rfl rfl hb19) rfl (by decide) ?_ rfl
                clear hf; intro a hf
                obtain rfl := Option.some.inj hz18
                refine st_pick (v := .bool true) hf rfl rfl (fun hb' => ?_) (fun hb' => ?_) (by decide) ?_
                · rfl
                · exact absurd (hb19.symm.trans hb') (by decide)
                clear hf; intro a ha hf; clear ha
                refine st_nil hf (th_n ?_)
                exact ⟨hf.sub ⟨rfl, rfl, rfl, rfl, rfl, trivial⟩, hp⟩
              · skip
                replace hz18 := ifF hz18 hb19
                refine st_move hf (wantY hf rfl rfl hb19) rfl (by decide) ?_
                clear hf; intro a ha hf; clear ha
                refine st_move hf (wantY hf rfl rfl hb19) rfl (by decide) ?_
                clear hf; intro a ha hf; clear ha
                refine st_move hf (wantY hf rfl rfl hb19) rfl (by decide) ?_
                clear hf; intro a ha hf; clear ha
                obtain ⟨hc21, hz18⟩ := chk hz18
                refine st_index (E := (Ek.int .i64)) hf (by decide) Try.underlying22 elt3 (wantY hf rfl rfl hb19) rfl rfl (hlost0.sl hp) hc21.1 hc21.2 ?_
                clear hf; intro a ha hf; clear ha
                refine st_ldI hf (by decide) pl3 (wantY hf rfl rfl hb19) rfl (hlost0.sl hp) hc21.1 hc21.2 ?_
                clear hf; intro a ha hf; clear ha
                obtain ⟨hc22, hz18⟩ := chk hz18
                refine st_index (E := Ek.bool) hf (by decide) Try.underlying64 elt4 (wantY hf rfl rfl hb19) rfl rfl (hp.sl (i := 0) rfl) hc22.1 hc22.2 ?_
                clear hf; intro a ha hf; clear ha
                refine st_ldB hf (by decide) pl4 (wantY hf rfl rfl hb19) rfl (hp.sl (i := 0) rfl) hc22.1 hc22.2 ?_
                clear hf; intro a ha hf; clear ha
                obtain rfl := Option.some.inj hz18
                refine st_pick (v := .bool (gt gone8 (gt lost0 i9))) hf rfl rfl (fun hb' => ?_) (fun hb' => ?_) (by decide) ?_
                · exact absurd (hb19.symm.trans hb') (by decide)
                · rfl
                clear hf; intro a ha hf; clear ha
                refine st_nil hf (th_n ?_)
                exact ⟨hf.sub ⟨rfl, rfl, rfl, rfl, rfl, trivial⟩, hp⟩
            · rintro a w ⟨hf, hp⟩
              refine st_nil hf ?_
              refine th_n ?_
              refine wp_if hf rfl (fun hb => ?_) (fun hb => ?_)
              · replace h := ifT h hb
                refine wp_seq ?_
                refine wp_reg ?_
                refine st_assign hf rfl rfl (by decide) ?_
                clear hf; intro a ha hf; clear ha
                refine st_assign hf rfl rfl (by decide) ?_
                clear hf; intro a ha hf; clear ha
                refine st_nil hf ?_
                refine th_n ?_
                refine wp_ret ?_
                refine th_r ?_
                refine ib_r ?_
                refine th_r ?_
                obtain rfl := Option.some.inj h
                have hp := hp.rowsNil (RowK.sl (Ek.int .i64) 3) 22
                have hp : Hp _ _ w (Res.rows (RowK.sl (Ek.int .i64) 3) 22 (.slice none 0 0) ([]) ([]) :: ow) := Hp.sel (pre := [Res.rows (RowK.sl (Ek.int .i64) 3) 22 (.slice none 0 0) ([]) ([]), Res.sl Ek.bool 4 v9 gone8]) (tail := ow) (rs' := [Res.rows (RowK.sl (Ek.int .i64) 3) 22 (.slice none 0 0) ([]) ([])]) hp [0] (by decide) (by simp) rfl
                exact rnd_r (by simp) ⟨rfl, ⟨_, _, hf.sub ⟨rfl, rfl, trivial⟩, hp⟩⟩
              · replace h := ifF h hb
                refine wp_skip ?_
                refine th_n ?_
                refine wp_reg ?_
                refine st_move hf rfl rfl (by decide) ?_
                clear hf; intro a ha hf; clear ha
                refine st_move hf rfl rfl (by decide) ?_
                clear hf; intro a ha hf; clear ha
                refine st_move hf rfl rfl (by decide) ?_
                clear hf; intro a ha hf; clear ha
                obtain ⟨hc24, h⟩ := chk h
                refine st_index (E := (Ek.int .i64)) hf (by decide) Try.underlying22 elt3 rfl rfl rfl (hlost0.sl hp) hc24.1 hc24.2 ?_
                clear hf; intro a ha hf; clear ha
                refine st_ldI hf (by decide) pl3 rfl rfl (hlost0.sl hp) hc24.1 hc24.2 ?_
                clear hf; intro a ha hf; clear ha
                obtain ⟨hc25, h⟩ := chk h
                refine st_index (E := Ek.bool) hf (by decide) Try.underlying64 elt4 rfl rfl rfl (hp.sl (i := 0) rfl) hc25.1 hc25.2 ?_
                clear hf; intro a ha hf; clear ha
                refine st_store (E := Ek.bool) hf elt4 hp (i := 0) rfl rfl rfl rfl rfl hc25.1 hc25.2 ?_
                clear hf; intro a w hf hp0; clear hp; have hp := hp0; clear hp0
                replace hp : Hp _ _ w (Res.sl Ek.bool 4 v9 (gone8.set ((gt lost0 i9)).toNat true) :: ow) := hp
                refine st_nil hf ?_
                refine ib_n ?_
                refine th_n ?_
                refine wp_reg ?_
                refine st_move hf rfl rfl (by decide) ?_
                clear hf; intro a ha hf; clear ha
                refine st_iadd hf (by decide) rfl rfl rfl ?_
                clear hf; intro a ha hf; clear ha
                refine st_assign hf rfl rfl (by decide) ?_
                clear hf; intro a ha hf; clear ha
                refine st_nil hf ?_
                obtain rfl := Option.some.inj h
                exact rnd_l ⟨_, hf.sub ⟨rfl, rfl, rfl, rfl, trivial⟩, hp⟩
        · replace h := ifF h hb
          refine wp_exit ?_
          refine th_e ?_
          obtain rfl := Option.some.inj h
          exact rnd_r (by simp) ⟨rfl, _, hf.sub ⟨rfl, rfl, trivial⟩, hp⟩
      · clear hl hf hp
        intro e a w hne hO
        cases q26 with
        | inl q27 =>
          replace h := smL h
          obtain ⟨rfl, v11, hf, hp⟩ := hO
          refine ib_same ?_
          refine th_n ?_
          refine wp_seq ?_
          refine wp_reg ?_
          refine st_move hf rfl rfl (by decide) ?_
          clear hf; intro a ha hf; clear ha
          obtain ⟨hc29, h⟩ := chk h
          refine st_make (E := Ek.val) hf (by decide) eltv22 Try.underlying23 (by decide) hp rfl rfl rfl hc29.1 hc29.2.1 hc29.2.2 ?_
          clear hf; intro a w v30 hf hp0; clear hp; have hp := hp0; clear hp0
          replace hp : Hp _ _ w (Res.rows (RowK.sl (Ek.int .i64) 3) 22 v30 (List.replicate (count1).toNat (Value.slice none 0 0)) (List.replicate (count1).toNat ([] : (List Int))) :: Res.sl Ek.bool 4 v11 q27 :: ow) := hp.rowsMade (RowK.sl (Ek.int .i64) 3) ([] : (List Int)) (fun w => .inl ⟨rfl, rfl, rfl, fun _ h => h⟩)
          refine st_assign hf rfl rfl (by decide) ?_
          clear hf; intro a ha hf; clear ha
          refine st_nil hf ?_
          refine th_n ?_
          refine wp_seq ?_
          refine wp_seq ?_
          refine wp_reg ?_
          refine st_assign hf rfl rfl (by decide) ?_
          clear hf; intro a ha hf; clear ha
          refine st_nil hf ?_
          refine th_n ?_
          refine wp_block ?_
          obtain ⟨q56, hl, h⟩ := bnd h
          refine wp_loop_pure (f := (f_foghornref17_Marks.s2 count1 q27)) (s := ((List.replicate (count1).toNat ([] : (List Int))), (0 : Int))) (fun s a w => ∃ (v32 : Value) (vs33 : List Value), Fr 92 a [(1, .int .i64 count1), (8, v11), (10, v32), (11, .int .i64 s.2)] ∧ Hp S w0 w (Res.rows (RowK.sl (Ek.int .i64) 3) 22 v32 vs33 s.1 :: Res.sl Ek.bool 4 v11 q27 :: ow)) (fun q e a w => e = .exit 2 ∧ ∃ (v35 : Value) (vs36 : List Value), Fr 92 a [(10, v35)] ∧ Hp S w0 w (Res.rows (RowK.sl (Ek.int .i64) 3) 22 v35 vs36 q :: ow)) ?_ hl ⟨_, _, hf.sub ⟨rfl, rfl, rfl, rfl, trivial⟩, hp⟩ ?_
          · clear hl hf hp
            intro s x a w h hI
            obtain ⟨out10, p11⟩ := s
            obtain ⟨v32, vs33, hf, hp⟩ : ∃ (v32 : Value) (vs33 : List Value), Fr 92 a [(1, .int .i64 count1), (8, v11), (10, v32), (11, .int .i64 p11)] ∧ Hp S w0 w (Res.rows (RowK.sl (Ek.int .i64) 3) 22 v32 vs33 out10 :: Res.sl Ek.bool 4 v11 q27 :: ow) := hI
            replace h : f_foghornref17_Marks.s2c count1 q27 out10 p11 = some x := h
            unfold f_foghornref17_Marks.s2c at h
            refine wp_seq ?_
            refine wp_seq ?_
            refine wp_reg ?_
            refine st_move hf rfl rfl (by decide) ?_
            clear hf; intro a ha hf; clear ha
            refine st_move hf rfl rfl (by decide) ?_
            clear hf; intro a ha hf; clear ha
            refine st_len (E := Ek.bool) hf (by decide) Try.underlying64 rfl rfl (hp.sl (i := 1) rfl) ?_
            clear hf; intro a ha hf; clear ha
            refine st_ilss hf (by decide) rfl rfl rfl ?_
            clear hf; intro a ha hf; clear ha
            refine st_nil hf ?_
            refine th_n ?_
            refine wp_if hf rfl (fun hb => ?_) (fun hb => ?_)
            · replace h := ifT h hb
              refine wp_skip ?_
              refine th_n ?_
              refine wp_seq ?_
              refine wp_block ?_
              refine wp_seq ?_
              refine wp_reg ?_
              refine st_move hf rfl rfl (by decide) ?_
              clear hf; intro a ha hf; clear ha
              refine st_move hf rfl rfl (by decide) ?_
              clear hf; intro a ha hf; clear ha
              obtain ⟨hc38, h⟩ := chk h
              refine st_index (E := Ek.bool) hf (by decide) Try.underlying64 elt4 rfl rfl rfl (hp.sl (i := 1) rfl) hc38.1 hc38.2 ?_
              clear hf; intro a ha hf; clear ha
              refine st_ldB hf (by decide) pl4 rfl rfl (hp.sl (i := 1) rfl) hc38.1 hc38.2 ?_
              clear hf; intro a ha hf; clear ha
              refine st_nil hf ?_
              refine th_n ?_
              refine wp_if hf rfl (fun hb => ?_) (fun hb => ?_)
              · replace h := ifT h hb
                obtain ⟨S39, hp40, rd41, up42, bk43⟩ := Hp.lendR hp (i := 0) rfl
                have rl44 := rd41
                have fx55 := hp.rd (i := 0) rfl
                obtain ⟨hc45, h⟩ := chk h
                obtain ⟨hc46, h⟩ := chk h
                obtain ⟨hc47, h⟩ := chk h
                obtain ⟨hc48, h⟩ := chk h
                obtain ⟨hc52, h⟩ := chk h
                obtain ⟨hc54, h⟩ := chk h
                refine wp_cutN (fun a w => ∃ (v49 : Value) (v53 : Value), Fr 92 a [(1, .int .i64 count1), (8, v11), (10, v32), (11, .int .i64 p11)] ∧ Hp S w0 w (Res.rows (RowK.sl (Ek.int .i64) 3) 22 v32 (vs33.set (((p11).tmod count1)).toNat v53) (out10.set (((p11).tmod count1)).toNat (((gt out10 ((p11).tmod count1)) ++ [(IntKind.i64.wrap ((p11).tdiv count1))]) : (List Int))) :: Res.sl (Ek.int .i64) 3 v49 ([(IntKind.i64.wrap ((p11).tdiv count1))]) :: Res.sl Ek.bool 4 v11 q27 :: ow)) ?_ ?_
                · have hp := hp40.same (Same.drew w)
                  refine dr_begin' (fun a w => ∃ (v49 : Value) (v53 : Value), Fr 92 a [(1, .int .i64 count1), (8, v11), (10, v32), (11, .int .i64 p11)] ∧ Hp S w0 w (Res.rows (RowK.sl (Ek.int .i64) 3) 22 v32 (vs33.set (((p11).tmod count1)).toNat v53) (out10.set (((p11).tmod count1)).toNat (((gt out10 ((p11).tmod count1)) ++ [(IntKind.i64.wrap ((p11).tdiv count1))]) : (List Int))) :: Res.sl (Ek.int .i64) 3 v49 ([(IntKind.i64.wrap ((p11).tdiv count1))]) :: Res.sl Ek.bool 4 v11 q27 :: ow)) (fun w' => ∃ l, Hp S39 w w' l) [14, 16] (by kernel_rfl) ?_
                  refine dr_takeP 0 (v32) rfl (by kernel_rfl) (by kernel_rfl) (by kernel_rfl) rfl rfl hf (by decide) rfl (fun w => ?_) ?_
                  · skip
                    refine st_move hf rfl rfl (by decide) ?_
                    clear hf; intro a ha hf
                    exact st_nil hf (th_n ⟨ha, rfl⟩)
                  clear hf; intro a hf
                  refine dr_takeP 1 (.int .i64 p11) rfl (by kernel_rfl) (by kernel_rfl) (by kernel_rfl) rfl rfl hf (by decide) rfl (fun w => ?_) ?_
                  · skip
                    refine st_move hf rfl rfl (by decide) ?_
                    clear hf; intro a ha hf
                    exact st_nil hf (th_n ⟨ha, rfl⟩)
                  clear hf; intro a hf
                  refine dr_takeP 2 (.int .i64 count1) rfl (by kernel_rfl) (by kernel_rfl) (by kernel_rfl) rfl rfl hf (by decide) rfl (fun w => ?_) ?_
                  · skip
                    refine st_move hf rfl rfl (by decide) ?_
                    clear hf; intro a ha hf
                    exact st_nil hf (th_n ⟨ha, rfl⟩)
                  clear hf; intro a hf
                  refine dr_takeP 3 (.int .i64 ((p11).tmod count1)) rfl (by kernel_rfl) (by kernel_rfl) (by kernel_rfl) rfl rfl hf (by decide) rfl (fun w => ?_) ?_
                  · skip
                    refine st_irem hf (by decide) rfl rfl rfl hc45 ?_
                    clear hf; intro a ha hf
                    exact st_nil hf (th_n ⟨ha, rfl⟩)
                  clear hf; intro a hf
                  refine dr_takeP 4 (v32) rfl (by kernel_rfl) (by kernel_rfl) (by kernel_rfl) rfl rfl hf (by decide) rfl (fun w => ?_) ?_
                  · skip
                    refine st_move hf rfl rfl (by decide) ?_
                    clear hf; intro a ha hf
                    exact st_nil hf (th_n ⟨ha, rfl⟩)
                  clear hf; intro a hf
                  refine dr_takeP 5 (.int .i64 p11) rfl (by kernel_rfl) (by kernel_rfl) (by kernel_rfl) rfl rfl hf (by decide) rfl (fun w => ?_) ?_
                  · skip
                    refine st_move hf rfl rfl (by decide) ?_
                    clear hf; intro a ha hf
                    exact st_nil hf (th_n ⟨ha, rfl⟩)
                  clear hf; intro a hf
                  refine dr_takeP 6 (.int .i64 count1) rfl (by kernel_rfl) (by kernel_rfl) (by kernel_rfl) rfl rfl hf (by decide) rfl (fun w => ?_) ?_
                  · skip
                    refine st_move hf rfl rfl (by decide) ?_
                    clear hf; intro a ha hf
                    exact st_nil hf (th_n ⟨ha, rfl⟩)
                  clear hf; intro a hf
                  refine dr_takeP 7 (.int .i64 ((p11).tmod count1)) rfl (by kernel_rfl) (by kernel_rfl) (by kernel_rfl) rfl rfl hf (by decide) rfl (fun w => ?_) ?_
                  · skip
                    refine st_irem hf (by decide) rfl rfl rfl hc46 ?_
                    clear hf; intro a ha hf
                    exact st_nil hf (th_n ⟨ha, rfl⟩)
                  clear hf; intro a hf
                  refine dr_takeP 8 (eptr v32 ((p11).tmod count1) 1) rfl (by kernel_rfl) (by kernel_rfl) (by kernel_rfl) rfl rfl hf (by decide) rfl (fun w => ?_) ?_
                  · skip
                    refine st_indexV (E := Ek.val) (m := out10.length) hf (by decide) Try.underlying23 eltv22 rfl rfl rfl rl44.shapeNY hc47.1 hc47.2 ?_
                    clear hf; intro a ha hf
                    exact st_nil hf (th_n ⟨ha, rfl⟩)
                  clear hf; intro a hf
                  refine dr_take2 9 ((gtv vs33 ((p11).tmod count1))) rfl (by kernel_rfl) (by kernel_rfl) (by kernel_rfl) (by kernel_rfl) (by kernel_rfl) rfl rfl hf (by decide) rfl (fun w hp => ?_) ⟨_, hp⟩ ?_
                  · obtain ⟨_, hp⟩ := hp
                    refine st_ldRY hf (by decide) pl22 rfl rfl (rl44.ob hp) hc47.1 hc47.2 ?_
                    clear hf; intro a ha hf
                    exact st_nil hf (th_n ⟨ha, rfl⟩)
                  clear hf; intro a hf
                  refine dr_takeP 10 (.int .i64 p11) rfl (by kernel_rfl) (by kernel_rfl) (by kernel_rfl) rfl rfl hf (by decide) rfl (fun w => ?_) ?_
                  · skip
                    refine st_move hf rfl rfl (by decide) ?_
                    clear hf; intro a ha hf
                    exact st_nil hf (th_n ⟨ha, rfl⟩)
                  clear hf; intro a hf
                  refine dr_takeP 11 (.int .i64 count1) rfl (by kernel_rfl) (by kernel_rfl) (by kernel_rfl) rfl rfl hf (by decide) rfl (fun w => ?_) ?_
                  · skip
                    refine st_move hf rfl rfl (by decide) ?_
                    clear hf; intro a ha hf
                    exact st_nil hf (th_n ⟨ha, rfl⟩)
                  clear hf; intro a hf
                  refine dr_takeP 12 (.int .i64 (IntKind.i64.wrap ((p11).tdiv count1))) rfl (by kernel_rfl) (by kernel_rfl) (by kernel_rfl) rfl rfl hf (by decide) rfl (fun w => ?_) ?_
                  · skip
                    refine st_iquo hf (by decide) rfl rfl rfl hc48 ?_
                    clear hf; intro a ha hf
                    exact st_nil hf (th_n ⟨ha, rfl⟩)
                  clear hf; intro a hf
                  refine dr_one 13 rfl (by kernel_rfl) ?_
                  refine st_build (E := (Ek.int .i64)) (xs := [(IntKind.i64.wrap ((p11).tdiv count1))]) hf (by decide) elt3 Try.underlying22 hp (vals := #[(0, .int .i64 (IntKind.i64.wrap ((p11).tdiv count1)))]) (cells := #[.int .i64 (IntKind.i64.wrap ((p11).tdiv count1))]) rfl (by simp [hf.ev (x := (Operand.tmp 87)) rfl]) (by decide) (by decide) (z := .int .i64 0) (by kernel_rfl) (by kernel_rfl) rfl (reps_cons (cs := [.int .i64 (IntKind.i64.wrap ((p11).tdiv count1))]) rfl (reps_nil _)) ?_
                  clear hf; intro a w v49 hf hp0; clear hp; have hp := hp0; clear hp0
                  replace hp : Hp _ _ w (Res.sl (Ek.int .i64) 3 v49 ([(IntKind.i64.wrap ((p11).tdiv count1))]) :: Res.sl Ek.bool 4 v11 q27 :: ow) := hp
                  refine st_nil hf (th_n ⟨fun _ _ => ⟨_, hp⟩, ?_⟩)
                  have hp := bk43 _ _ hp
                  refine dr_one 14 rfl (by kernel_rfl) ?_
                  replace hp : Hp _ _ w (Res.sl (Ek.int .i64) 3 (gtv vs33 ((p11).tmod count1)) (gt out10 ((p11).tmod count1)) :: Res.rowsH (RowK.sl (Ek.int .i64) 3) 22 v32 vs33 ((out10.map some).set (((p11).tmod count1)).toNat none) :: Res.sl (Ek.int .i64) 3 v49 ([(IntKind.i64.wrap ((p11).tdiv count1))]) :: Res.sl Ek.bool 4 v11 q27 :: ow) := hp.rowsTake (k := ((p11).tmod count1)) hc47.1 (take1 hc47.1 hc47.2)
                  refine st_append (E := (Ek.int .i64)) hf (by decide) elt3 Try.underlying22 (by decide) hp (i := 0) rfl rfl rfl rfl (hp.sl (i := 2) rfl) hc52 ?_
                  clear hf; intro a w v53 hf hp0; clear hp; have hp := hp0; clear hp0
                  replace hp : Hp _ _ w (Res.sl (Ek.int .i64) 3 v53 ((gt out10 ((p11).tmod count1)) ++ [(IntKind.i64.wrap ((p11).tdiv count1))]) :: Res.rowsH (RowK.sl (Ek.int .i64) 3) 22 v32 vs33 ((out10.map some).set (((p11).tmod count1)).toNat none) :: Res.sl (Ek.int .i64) 3 v49 ([(IntKind.i64.wrap ((p11).tdiv count1))]) :: Res.sl Ek.bool 4 v11 q27 :: ow) := hp
                  refine st_nil hf (th_n ⟨fun hn => absurd hn (by decide), ?_⟩)
                  refine dr_takeP 15 (eptr v32 ((p11).tmod count1) 1) rfl (by kernel_rfl) (by kernel_rfl) (by kernel_rfl) rfl rfl hf (by decide) rfl (fun w => ?_) ?_
                  · skip
                    refine st_indexV (E := Ek.val) (m := out10.length) hf (by decide) Try.underlying23 eltv22 rfl rfl rfl (by simpa only [List.length_set, List.length_map] using fx55.shapeN) hc54.1 hc54.2 ?_
                    clear hf; intro a ha hf
                    exact st_nil hf (th_n ⟨ha, rfl⟩)
                  clear hf; intro a hf
                  refine dr_one 16 rfl (by kernel_rfl) ?_
                  have hp : Hp _ _ w (Res.rowsH (RowK.sl (Ek.int .i64) 3) 22 v32 vs33 ((out10.map some).set (((p11).tmod count1)).toNat none) :: Res.sl (Ek.int .i64) 3 v53 ((gt out10 ((p11).tmod count1)) ++ [(IntKind.i64.wrap ((p11).tdiv count1))]) :: Res.sl (Ek.int .i64) 3 v49 ([(IntKind.i64.wrap ((p11).tdiv count1))]) :: Res.sl Ek.bool 4 v11 q27 :: ow) := Hp.sel (pre := [Res.sl (Ek.int .i64) 3 v53 ((gt out10 ((p11).tmod count1)) ++ [(IntKind.i64.wrap ((p11).tdiv count1))]), Res.rowsH (RowK.sl (Ek.int .i64) 3) 22 v32 vs33 ((out10.map some).set (((p11).tmod count1)).toNat none), Res.sl (Ek.int .i64) 3 v49 ([(IntKind.i64.wrap ((p11).tdiv count1))]), Res.sl Ek.bool 4 v11 q27]) (tail := ow) (rs' := [Res.rowsH (RowK.sl (Ek.int .i64) 3) 22 v32 vs33 ((out10.map some).set (((p11).tmod count1)).toNat none), Res.sl (Ek.int .i64) 3 v53 ((gt out10 ((p11).tmod count1)) ++ [(IntKind.i64.wrap ((p11).tdiv count1))]), Res.sl (Ek.int .i64) 3 v49 ([(IntKind.i64.wrap ((p11).tdiv count1))]), Res.sl Ek.bool 4 v11 q27]) hp [1, 0, 2, 3] (by decide) (by simp) rfl
                  refine st_storeR (K := (RowK.sl (Ek.int .i64) 3)) (b := (((gt out10 ((p11).tmod count1)) ++ [(IntKind.i64.wrap ((p11).tdiv count1))]) : (List Int))) hf eltv22 hp (hp.sl (i := 1) rfl).shapeV rfl rfl rfl hc54.1 (by simp only [List.length_set, List.length_map]; exact hc54.2) ?_
                  clear hf; intro a w hf hp0; clear hp; have hp := hp0; clear hp0
                  rw [fill1] at hp
                  replace hp : Hp _ _ w (Res.rows (RowK.sl (Ek.int .i64) 3) 22 v32 (vs33.set (((p11).tmod count1)).toNat v53) (out10.set (((p11).tmod count1)).toNat (((gt out10 ((p11).tmod count1)) ++ [(IntKind.i64.wrap ((p11).tdiv count1))]) : (List Int))) :: Res.sl (Ek.int .i64) 3 v49 ([(IntKind.i64.wrap ((p11).tdiv count1))]) :: Res.sl Ek.bool 4 v11 q27 :: ow) := hp
                  refine st_nil hf (th_n ⟨fun hn => absurd hn (by decide), ?_⟩)
                  refine dr_end (by kernel_rfl) ?_ _
                  exact ⟨v49, v53, hf.sub ⟨rfl, rfl, rfl, rfl, trivial⟩, hp⟩
                · rintro a w ⟨v49, v53, hf, hp⟩
                  refine ib_n ?_
                  refine th_n ?_
                  refine wp_reg ?_
                  refine st_move hf rfl rfl (by decide) ?_
                  clear hf; intro a ha hf; clear ha
                  refine st_iadd hf (by decide) rfl rfl rfl ?_
                  clear hf; intro a ha hf; clear ha
                  refine st_assign hf rfl rfl (by decide) ?_
                  clear hf; intro a ha hf; clear ha
                  refine st_nil hf ?_
                  obtain rfl := Option.some.inj h
                  have hp : Hp _ _ w (Res.rows (RowK.sl (Ek.int .i64) 3) 22 v32 (vs33.set (((p11).tmod count1)).toNat v53) (out10.set (((p11).tmod count1)).toNat (((gt out10 ((p11).tmod count1)) ++ [(IntKind.i64.wrap ((p11).tdiv count1))]) : (List Int))) :: Res.sl Ek.bool 4 v11 q27 :: ow) := Hp.sel (pre := [Res.rows (RowK.sl (Ek.int .i64) 3) 22 v32 (vs33.set (((p11).tmod count1)).toNat v53) (out10.set (((p11).tmod count1)).toNat (((gt out10 ((p11).tmod count1)) ++ [(IntKind.i64.wrap ((p11).tdiv count1))]) : (List Int))), Res.sl (Ek.int .i64) 3 v49 ([(IntKind.i64.wrap ((p11).tdiv count1))]), Res.sl Ek.bool 4 v11 q27]) (tail := ow) (rs' := [Res.rows (RowK.sl (Ek.int .i64) 3) 22 v32 (vs33.set (((p11).tmod count1)).toNat v53) (out10.set (((p11).tmod count1)).toNat (((gt out10 ((p11).tmod count1)) ++ [(IntKind.i64.wrap ((p11).tdiv count1))]) : (List Int))), Res.sl Ek.bool 4 v11 q27]) hp [0, 2] (by decide) (by simp) rfl
                  exact rnd_l ⟨_, _, hf.sub ⟨rfl, rfl, rfl, rfl, trivial⟩, hp⟩
              · replace h := ifF h hb
                refine wp_skip ?_
                refine ib_n ?_
                refine th_n ?_
                refine wp_reg ?_
                refine st_move hf rfl rfl (by decide) ?_
                clear hf; intro a ha hf; clear ha
                refine st_iadd hf (by decide) rfl rfl rfl ?_
                clear hf; intro a ha hf; clear ha
                refine st_assign hf rfl rfl (by decide) ?_
                clear hf; intro a ha hf; clear ha
                refine st_nil hf ?_
                obtain rfl := Option.some.inj h
                exact rnd_l ⟨_, _, hf.sub ⟨rfl, rfl, rfl, rfl, trivial⟩, hp⟩
            · replace h := ifF h hb
              refine wp_exit ?_
              refine th_e ?_
              obtain rfl := Option.some.inj h
              have hp : Hp _ _ w (Res.rows (RowK.sl (Ek.int .i64) 3) 22 v32 vs33 out10 :: ow) := Hp.sel (pre := [Res.rows (RowK.sl (Ek.int .i64) 3) 22 v32 vs33 out10, Res.sl Ek.bool 4 v11 q27]) (tail := ow) (rs' := [Res.rows (RowK.sl (Ek.int .i64) 3) 22 v32 vs33 out10]) hp [0] (by decide) (by simp) rfl
              exact rnd_r (by simp) ⟨rfl, _, _, hf.sub ⟨rfl, trivial⟩, hp⟩
          · clear hl hf hp
            intro e a w hne hO
            obtain ⟨rfl, v35, vs36, hf, hp⟩ := hO
            refine ib_same ?_
            refine th_n ?_
            refine wp_seq ?_
            refine wp_reg ?_
            refine st_move hf rfl rfl (by decide) ?_
            clear hf; intro a ha hf; clear ha
            refine st_assign hf rfl rfl (by decide) ?_
            clear hf; intro a ha hf; clear ha
            refine st_assign hf rfl rfl (by decide) ?_
            clear hf; intro a ha hf; clear ha
            refine st_nil hf ?_
            refine th_n ?_
            refine wp_ret ?_
            obtain rfl := Option.some.inj h
            exact ⟨rfl, ⟨_, _, hf.sub ⟨rfl, rfl, trivial⟩, hp⟩⟩
        | inr q28 =>
          replace h := smR h
          obtain ⟨rfl, x0, x1, hf, hp⟩ := hO
          refine ib_r ?_
          refine th_r ?_
          obtain rfl := Option.some.inj h
          exact ⟨rfl, ⟨_, _, hf.sub ⟨rfl, rfl, trivial⟩, hp⟩⟩

noncomputable def f_weave_may (count0 : Int) (length1 : Int) : Option Bool := (some ((((decide ((1 : Int) ≤ count0)) && (decide (count0 ≤ (255 : Int)))) && (decide ((1 : Int) ≤ length1))) && (decide (length1 ≤ (255 : Int)))))
theorem f_weave_may_c {S : Nat → Prop} {w0 w : World} {ow : List Res} (hp : Hp S w0 w ow) (count0 : Int) (length1 : Int) {r : Bool} (h : f_weave_may count0 length1 = some r) :
    Calls Try.prog 38 #[.int .i64 count0, .int .i64 length1] w (fun e w' => e = .returned (.bool r) ∧ Hp S w0 w' (ow)) := by
  unfold f_weave_may at h
  refine enter (n := 19) (args := [.int .i64 count0, .int .i64 length1]) Try.func38 rfl rfl (Nat.le_of_ble_eq_true rfl) fun a hf => ?_
  replace hf : Fr 19 a [(0, .int .i64 count0), (1, .int .i64 length1)] := hf
  refine wp_mono (Q := fun e a w => e = .ret ∧ Fr 19 a [(4, .bool r)] ∧ Hp S w0 w (ow)) ?_ ?_
  rotate_left
  · rintro e a w ⟨rfl, hf, hp⟩
    exact ret1 hf rfl rfl ⟨rfl, hp⟩
  refine wp_seq ?_
  refine wp_reg ?_
  refine st_assign hf rfl rfl (by decide) ?_
  clear hf; intro a ha hf; clear ha
  refine st_nil hf ?_
  refine th_n ?_
  refine wp_seq ?_
  refine wp_reg ?_
  refine st_move hf rfl rfl (by decide) ?_
  clear hf; intro a ha hf; clear ha
  refine st_igeq hf (by decide) rfl rfl rfl ?_
  clear hf; intro a ha hf; clear ha
  refine st_move hf rfl rfl (by decide) ?_
  clear hf; intro a ha hf; clear ha
  refine wpList_cut 3 (fun a w => Fr 19 a [(1, .int .i64 length1), (10, .bool ((decide ((1 : Int) ≤ count0)) && (decide (count0 ≤ (255 : Int)))))] ∧ Hp S w0 w (ow)) ?_ ?_
  · rcases Bool.eq_false_or_eq_true (decide ((1 : Int) ≤ count0)) with hb2 | hb2
    · skip
      refine st_move hf (wantY hf rfl rfl hb2) rfl (by decide) ?_
      clear hf; intro a ha hf; clear ha
      refine st_ileq hf (by decide) (wantY hf rfl rfl hb2) rfl rfl ?_
      clear hf; intro a ha hf; clear ha
      refine st_pick (v := .bool (decide (count0 ≤ (255 : Int)))) hf rfl rfl (fun hb' => ?_) (fun hb' => ?_) (by decide) ?_
      · rfl
      · exact absurd (hb2.symm.trans hb') (by decide)
      clear hf; intro a ha hf; clear ha
      refine st_nil hf (th_n ?_)
      exact ⟨hf.sub ⟨rfl, (by rw [hb2]; rfl), trivial⟩, hp⟩
    · skip
      refine st_skip hf (wantN hf rfl rfl hb2) rfl (by decide) ?_ rfl
      clear hf; intro a hf
      refine st_skip hf (wantN hf rfl rfl hb2) rfl (by decide) ?_ rfl
      clear hf; intro a hf
      refine st_pick (v := .bool false) hf rfl rfl (fun hb' => ?_) (fun hb' => ?_) (by decide) ?_
      · exact absurd (hb2.symm.trans hb') (by decide)
      · rfl
      clear hf; intro a ha hf; clear ha
      refine st_nil hf (th_n ?_)
      exact ⟨hf.sub ⟨rfl, (by rw [hb2]; rfl), trivial⟩, hp⟩
  · rintro a w ⟨hf, hp⟩
    refine st_move hf rfl rfl (by decide) ?_
    clear hf; intro a ha hf; clear ha
    refine wpList_cut 3 (fun a w => Fr 19 a [(1, .int .i64 length1), (14, .bool (((decide ((1 : Int) ≤ count0)) && (decide (count0 ≤ (255 : Int)))) && (decide ((1 : Int) ≤ length1))))] ∧ Hp S w0 w (ow)) ?_ ?_
    · rcases Bool.eq_false_or_eq_true ((decide ((1 : Int) ≤ count0)) && (decide (count0 ≤ (255 : Int)))) with hb4 | hb4
      · skip
        refine st_move hf (wantY hf rfl rfl hb4) rfl (by decide) ?_
        clear hf; intro a ha hf; clear ha
        refine st_igeq hf (by decide) (wantY hf rfl rfl hb4) rfl rfl ?_
        clear hf; intro a ha hf; clear ha
        refine st_pick (v := .bool (decide ((1 : Int) ≤ length1))) hf rfl rfl (fun hb' => ?_) (fun hb' => ?_) (by decide) ?_
        · rfl
        · exact absurd (hb4.symm.trans hb') (by decide)
        clear hf; intro a ha hf; clear ha
        refine st_nil hf (th_n ?_)
        exact ⟨hf.sub ⟨rfl, (by rw [hb4]; rfl), trivial⟩, hp⟩
      · skip
        refine st_skip hf (wantN hf rfl rfl hb4) rfl (by decide) ?_ rfl
        clear hf; intro a hf
        refine st_skip hf (wantN hf rfl rfl hb4) rfl (by decide) ?_ rfl
        clear hf; intro a hf
        refine st_pick (v := .bool false) hf rfl rfl (fun hb' => ?_) (fun hb' => ?_) (by decide) ?_
        · exact absurd (hb4.symm.trans hb') (by decide)
        · rfl
        clear hf; intro a ha hf; clear ha
        refine st_nil hf (th_n ?_)
        exact ⟨hf.sub ⟨rfl, (by rw [hb4]; rfl), trivial⟩, hp⟩
    · rintro a w ⟨hf, hp⟩
      refine st_move hf rfl rfl (by decide) ?_
      clear hf; intro a ha hf; clear ha
      refine wpList_cut 3 (fun a w => Fr 19 a [(18, .bool ((((decide ((1 : Int) ≤ count0)) && (decide (count0 ≤ (255 : Int)))) && (decide ((1 : Int) ≤ length1))) && (decide (length1 ≤ (255 : Int)))))] ∧ Hp S w0 w (ow)) ?_ ?_
      · rcases Bool.eq_false_or_eq_true (((decide ((1 : Int) ≤ count0)) && (decide (count0 ≤ (255 : Int)))) && (decide ((1 : Int) ≤ length1))) with hb6 | hb6
        · skip
          refine st_move hf (wantY hf rfl rfl hb6) rfl (by decide) ?_
          clear hf; intro a ha hf; clear ha
          refine st_ileq hf (by decide) (wantY hf rfl rfl hb6) rfl rfl ?_
          clear hf; intro a ha hf; clear ha
          refine st_pick (v := .bool (decide (length1 ≤ (255 : Int)))) hf rfl rfl (fun hb' => ?_) (fun hb' => ?_) (by decide) ?_
          · rfl
          · exact absurd (hb6.symm.trans hb') (by decide)
          clear hf; intro a ha hf; clear ha
          refine st_nil hf (th_n ?_)
          exact ⟨hf.sub ⟨(by rw [hb6]; rfl), trivial⟩, hp⟩
        · skip
          refine st_skip hf (wantN hf rfl rfl hb6) rfl (by decide) ?_ rfl
          clear hf; intro a hf
          refine st_skip hf (wantN hf rfl rfl hb6) rfl (by decide) ?_ rfl
          clear hf; intro a hf
          refine st_pick (v := .bool false) hf rfl rfl (fun hb' => ?_) (fun hb' => ?_) (by decide) ?_
          · exact absurd (hb6.symm.trans hb') (by decide)
          · rfl
          clear hf; intro a ha hf; clear ha
          refine st_nil hf (th_n ?_)
          exact ⟨hf.sub ⟨(by rw [hb6]; rfl), trivial⟩, hp⟩
      · rintro a w ⟨hf, hp⟩
        refine st_assign hf rfl rfl (by decide) ?_
        clear hf; intro a ha hf; clear ha
        refine st_nil hf ?_
        refine th_n ?_
        refine wp_ret ?_
        obtain rfl := Option.some.inj h
        exact ⟨rfl, ⟨hf.sub ⟨rfl, trivial⟩, hp⟩⟩

noncomputable def f_weave_Marks.s1c (lost0 : (List Int)) (gone8 : (List Bool)) (t32 : Int) : Option (((List Bool) × Int) ⊕ ((List Bool) ⊕ ((List (List Int)) × Int))) := (if (decide (t32 < (lost0.length : Int))) = true then (if 0 ≤ t32 ∧ t32 < (lost0.length : Int) then ((if ((decide ((gt lost0 t32) < (0 : Int))) || (decide ((gone8.length : Int) ≤ (gt lost0 t32)))) = true then (some true) else (if 0 ≤ (gt lost0 t32) ∧ (gt lost0 t32) < (gone8.length : Int) then (some (gt gone8 (gt lost0 t32))) else none)).bind fun z18 => (if z18 = true then (some (Sum.inr (Sum.inr ([], (1 : Int))))) else (if 0 ≤ (gt lost0 t32) ∧ (gt lost0 t32) < (gone8.length : Int) then (some (Sum.inl ((gone8.set ((gt lost0 t32)).toNat true), (IntKind.i64.wrap (t32 + (1 : Int)))))) else none))) else none) else (some (Sum.inr (Sum.inl gone8))))
noncomputable def f_weave_Marks.s1 (lost0 : (List Int)) (s : ((List Bool) × Int)) : Option (((List Bool) × Int) ⊕ ((List Bool) ⊕ ((List (List Int)) × Int))) := f_weave_Marks.s1c lost0 s.1 s.2
noncomputable def f_weave_Marks.s2c (count1 : Int) (q23 : (List Bool)) (out11 : (List (List Int))) (t58 : Int) : Option (((List (List Int)) × Int) ⊕ (List (List Int))) := (if (decide (t58 < (q23.length : Int))) = true then (if 0 ≤ t58 ∧ t58 < (q23.length : Int) then (if (gt q23 t58) = true then (if count1 ≠ 0 then (if count1 ≠ 0 then (if 0 ≤ ((t58).tmod count1) ∧ ((t58).tmod count1) < (out11.length : Int) then (if count1 ≠ 0 then (if ((gt out11 ((t58).tmod count1)).length + ([(IntKind.i64.wrap ((t58).tdiv count1))]).length) * 8 ≤ 140737488355328 then (if 0 ≤ ((t58).tmod count1) ∧ ((t58).tmod count1) < (out11.length : Int) then (some (Sum.inl ((out11.set (((t58).tmod count1)).toNat (((gt out11 ((t58).tmod count1)) ++ [(IntKind.i64.wrap ((t58).tdiv count1))]) : (List Int))), (IntKind.i64.wrap (t58 + (1 : Int)))))) else none) else none) else none) else none) else none) else none) else (some (Sum.inl (out11, (IntKind.i64.wrap (t58 + (1 : Int))))))) else none) else (some (Sum.inr out11)))
noncomputable def f_weave_Marks.s2 (count1 : Int) (q23 : (List Bool)) (s : ((List (List Int)) × Int)) : Option (((List (List Int)) × Int) ⊕ (List (List Int))) := f_weave_Marks.s2c count1 q23 s.1 s.2
noncomputable def f_weave_Marks (lost0 : (List Int)) (count1 : Int) (length2 : Int) : Option ((List (List Int)) × Int) := ((f_weave_may count1 length2).bind fun q1 => (if ((!q1) || (decide ((IntKind.i64.wrap (count1 * length2)) < (lost0.length : Int)))) = true then (some ([], (1 : Int))) else (if 0 ≤ (IntKind.i64.wrap (count1 * length2)) ∧ (IntKind.i64.wrap (count1 * length2)) ≤ (IntKind.i64.wrap (count1 * length2)) ∧ (IntKind.i64.wrap (count1 * length2)) * 1 ≤ 281474976710656 then ((loop (f_weave_Marks.s1 lost0) ((List.replicate ((IntKind.i64.wrap (count1 * length2))).toNat false), (0 : Int))).bind (fun q22 => sm q22 (fun q23 => (if 0 ≤ count1 ∧ count1 ≤ count1 ∧ count1 * 24 ≤ 281474976710656 then ((loop (f_weave_Marks.s2 count1 q23) ((List.replicate (count1).toNat ([] : (List Int))), (0 : Int))).bind (fun q52 => (some (q52, (0 : Int))))) else none)) (fun q24 => (some (q24.1, q24.2))))) else none)))
theorem f_weave_Marks_c {S : Nat → Prop} {w0 w : World} {ow : List Res} (hp : Hp S w0 w ow) (vlost0 : Value) (lost0 : (List Int)) (hlost0 : RdS (Ek.int .i64) S w0 vlost0 lost0) (count1 : Int) (length2 : Int) {r : ((List (List Int)) × Int)} (h : f_weave_Marks lost0 count1 length2 = some r) :
    Calls Try.prog 13 #[vlost0, .int .i64 count1, .int .i64 length2] w (fun e w' => ∃ (u0 : Value) (u1 : List Value), e = .returned (.tuple #[u0, .int .i64 r.2]) ∧ Hp S w0 w' (Res.rows (RowK.sl (Ek.int .i64) 3) 22 u0 u1 r.1 :: ow)) := by
  unfold f_weave_Marks at h
  refine enter (n := 82) (args := [vlost0, .int .i64 count1, .int .i64 length2]) Try.func13 rfl rfl (Nat.le_of_ble_eq_true rfl) fun a hf => ?_
  replace hf : Fr 82 a [(0, vlost0), (1, .int .i64 count1), (2, .int .i64 length2)] := hf
  refine wp_mono (Q := fun e a w => e = .ret ∧ ∃ (u0 : Value) (u1 : List Value), Fr 82 a [(6, u0), (7, .int .i64 r.2)] ∧ Hp S w0 w (Res.rows (RowK.sl (Ek.int .i64) 3) 22 u0 u1 r.1 :: ow)) ?_ ?_
  rotate_left
  · rintro e a w ⟨rfl, x0, x1, hf, hp⟩
    exact ret2 hf rfl rfl rfl ⟨x0, x1, rfl, hp⟩
  refine wp_seq ?_
  refine wp_reg ?_
  refine st_assign hf rfl rfl (by decide) ?_
  clear hf; intro a ha hf; clear ha
  refine st_assign hf rfl rfl (by decide) ?_
  clear hf; intro a ha hf; clear ha
  refine st_nil hf ?_
  refine th_n ?_
  refine wp_seq ?_
  refine wp_seq ?_
  refine wp_reg ?_
  refine st_move hf rfl rfl (by decide) ?_
  clear hf; intro a ha hf; clear ha
  refine st_move hf rfl rfl (by decide) ?_
  clear hf; intro a ha hf; clear ha
  obtain ⟨q1, hcall2, h⟩ := bnd h
  refine st_call hf (by decide) Try.func38 rfl rfl rfl rfl rfl (f_weave_may_c hp _ _ hcall2) ?_
  rintro _ w ⟨rfl, hp0⟩
  clear hp; have hp := hp0; clear hp0
  replace hp : Hp _ _ w (ow) := hp
  refine ⟨_, rfl, ?_⟩
  clear hf; intro a hf
  refine st_not hf (by decide) rfl rfl ?_
  clear hf; intro a ha hf; clear ha
  refine st_move hf rfl rfl (by decide) ?_
  clear hf; intro a ha hf; clear ha
  refine wpList_cut 7 (fun a w => Fr 82 a [(0, vlost0), (1, .int .i64 count1), (2, .int .i64 length2), (25, .bool ((!q1) || (decide ((IntKind.i64.wrap (count1 * length2)) < (lost0.length : Int)))))] ∧ Hp S w0 w (ow)) ?_ ?_
  · rcases Bool.eq_false_or_eq_true (!q1) with hb4 | hb4
    · skip
      refine st_skip hf (wantN hf rfl rfl hb4) rfl (by decide) ?_ rfl
      clear hf; intro a hf
      refine st_skip hf (wantN hf rfl rfl hb4) rfl (by decide) ?_ rfl
      clear hf; intro a hf
      refine st_skip hf (wantN hf rfl rfl hb4) rfl (by decide) ?_ rfl
      clear hf; intro a hf
      refine st_skip hf (wantN hf rfl rfl hb4) rfl (by decide) ?_ rfl
      clear hf; intro a hf
      refine st_skip hf (wantN hf rfl rfl hb4) rfl (by decide) ?_ rfl
      clear hf; intro a hf
      refine st_skip hf (wantN hf rfl rfl hb4) rfl (by decide) ?_ rfl
      clear hf; intro a hf
      refine st_pick (v := .bool true) hf rfl rfl (fun hb' => ?_) (fun hb' => ?_) (by decide) ?_
      · rfl
      · exact absurd (hb4.symm.trans hb') (by decide)
      clear hf; intro a ha hf; clear ha
      refine st_nil hf (th_n ?_)
      exact ⟨hf.sub ⟨rfl, rfl, rfl, (by rw [hb4]; rfl), trivial⟩, hp⟩
    · skip
      refine st_move hf (wantY hf rfl rfl hb4) rfl (by decide) ?_
      clear hf; intro a ha hf; clear ha
      refine st_len (E := (Ek.int .i64)) hf (by decide) Try.underlying22 (wantY hf rfl rfl hb4) rfl (hlost0.sl hp) ?_
      clear hf; intro a ha hf; clear ha
      refine st_move hf (wantY hf rfl rfl hb4) rfl (by decide) ?_
      clear hf; intro a ha hf; clear ha
      refine st_move hf (wantY hf rfl rfl hb4) rfl (by decide) ?_
      clear hf; intro a ha hf; clear ha
      refine st_imul hf (by decide) (wantY hf rfl rfl hb4) rfl rfl ?_
      clear hf; intro a ha hf; clear ha
      refine st_igtr hf (by decide) (wantY hf rfl rfl hb4) rfl rfl ?_
      clear hf; intro a ha hf; clear ha
      refine st_pick (v := .bool (decide ((IntKind.i64.wrap (count1 * length2)) < (lost0.length : Int)))) hf rfl rfl (fun hb' => ?_) (fun hb' => ?_) (by decide) ?_
      · exact absurd (hb4.symm.trans hb') (by decide)
      · rfl
      clear hf; intro a ha hf; clear ha
      refine st_nil hf (th_n ?_)
      exact ⟨hf.sub ⟨rfl, rfl, rfl, (by rw [hb4]; rfl), trivial⟩, hp⟩
  · rintro a w ⟨hf, hp⟩
    refine st_nil hf ?_
    refine th_n ?_
    refine wp_if hf rfl (fun hb => ?_) (fun hb => ?_)
    · replace h := ifT h hb
      refine wp_seq ?_
      refine wp_reg ?_
      refine st_assign hf rfl rfl (by decide) ?_
      clear hf; intro a ha hf; clear ha
      refine st_assign hf rfl rfl (by decide) ?_
      clear hf; intro a ha hf; clear ha
      refine st_nil hf ?_
      refine th_n ?_
      refine wp_ret ?_
      refine th_r ?_
      obtain rfl := Option.some.inj h
      have hp := hp.rowsNil (RowK.sl (Ek.int .i64) 3) 22
      exact ⟨rfl, ⟨_, _, hf.sub ⟨rfl, rfl, trivial⟩, hp⟩⟩
    · replace h := ifF h hb
      refine wp_skip ?_
      refine th_n ?_
      refine wp_seq ?_
      refine wp_reg ?_
      refine st_move hf rfl rfl (by decide) ?_
      clear hf; intro a ha hf; clear ha
      refine st_move hf rfl rfl (by decide) ?_
      clear hf; intro a ha hf; clear ha
      refine st_imul hf (by decide) rfl rfl rfl ?_
      clear hf; intro a ha hf; clear ha
      obtain ⟨hc6, h⟩ := chk h
      refine st_make (E := Ek.bool) hf (by decide) elt4 Try.underlying64 (by decide) hp rfl rfl rfl hc6.1 hc6.2.1 hc6.2.2 ?_
      clear hf; intro a w v7 hf hp0; clear hp; have hp := hp0; clear hp0
      replace hp : Hp _ _ w (Res.sl Ek.bool 4 v7 (List.replicate ((IntKind.i64.wrap (count1 * length2))).toNat false) :: ow) := hp
      refine st_assign hf rfl rfl (by decide) ?_
      clear hf; intro a ha hf; clear ha
      refine st_nil hf ?_
      refine th_n ?_
      refine wp_seq ?_
      refine wp_seq ?_
      refine wp_reg ?_
      refine st_move hf rfl rfl (by decide) ?_
      clear hf; intro a ha hf; clear ha
      refine st_len (E := (Ek.int .i64)) hf (by decide) Try.underlying22 rfl rfl (hlost0.sl hp) ?_
      clear hf; intro a ha hf; clear ha
      refine st_move hf rfl rfl (by decide) ?_
      clear hf; intro a ha hf; clear ha
      refine st_nil hf ?_
      refine th_n ?_
      refine wp_block ?_
      obtain ⟨q22, hl, h⟩ := bnd h
      refine wp_loop_pure (f := (f_weave_Marks.s1 lost0)) (s := ((List.replicate ((IntKind.i64.wrap (count1 * length2))).toNat false), (0 : Int))) (fun s a w => ∃ (v9 : Value), Fr 82 a [(1, .int .i64 count1), (8, v9), (30, vlost0), (31, .int .i64 (lost0.length : Int)), (32, .int .i64 s.2)] ∧ Hp S w0 w (Res.sl Ek.bool 4 v9 s.1 :: ow)) (fun q e a w => match q with | (Sum.inl q) => e = .exit 0 ∧ ∃ (v11 : Value), Fr 82 a [(1, .int .i64 count1), (8, v11)] ∧ Hp S w0 w (Res.sl Ek.bool 4 v11 q :: ow) | (Sum.inr q) => e = .ret ∧ ∃ (u0 : Value) (u1 : List Value), Fr 82 a [(6, u0), (7, .int .i64 q.2)] ∧ Hp S w0 w (Res.rows (RowK.sl (Ek.int .i64) 3) 22 u0 u1 q.1 :: ow)) ?_ hl ⟨_, hf.sub ⟨rfl, rfl, rfl, rfl, rfl, trivial⟩, hp⟩ ?_
      · clear hl hf hp
        intro s x a w h hI
        obtain ⟨gone8, t32⟩ := s
        obtain ⟨v9, hf, hp⟩ : ∃ (v9 : Value), Fr 82 a [(1, .int .i64 count1), (8, v9), (30, vlost0), (31, .int .i64 (lost0.length : Int)), (32, .int .i64 t32)] ∧ Hp S w0 w (Res.sl Ek.bool 4 v9 gone8 :: ow) := hI
        replace h : f_weave_Marks.s1c lost0 gone8 t32 = some x := h
        unfold f_weave_Marks.s1c at h
        refine wp_seq ?_
        refine wp_reg ?_
        refine st_ilss hf (by decide) rfl rfl rfl ?_
        clear hf; intro a ha hf; clear ha
        refine st_nil hf ?_
        refine th_n ?_
        refine wp_seq ?_
        refine wp_if hf rfl (fun hb => ?_) (fun hb => ?_)
        · replace h := ifT h hb
          refine wp_skip ?_
          refine th_n ?_
          refine wp_seq ?_
          refine wp_block ?_
          refine wp_seq ?_
          refine wp_reg ?_
          obtain ⟨hc13, h⟩ := chk h
          refine st_index (E := (Ek.int .i64)) hf (by decide) Try.underlying22 elt3 rfl rfl rfl (hlost0.sl hp) hc13.1 hc13.2 ?_
          clear hf; intro a ha hf; clear ha
          refine st_ldI hf (by decide) pl3 rfl rfl (hlost0.sl hp) hc13.1 hc13.2 ?_
          clear hf; intro a ha hf; clear ha
          refine st_assign hf rfl rfl (by decide) ?_
          clear hf; intro a ha hf; clear ha
          refine st_nil hf ?_
          refine th_n ?_
          refine wp_seq ?_
          refine wp_seq ?_
          refine wp_reg ?_
          refine st_move hf rfl rfl (by decide) ?_
          clear hf; intro a ha hf; clear ha
          refine st_ilss hf (by decide) rfl rfl rfl ?_
          clear hf; intro a ha hf; clear ha
          refine st_move hf rfl rfl (by decide) ?_
          clear hf; intro a ha hf; clear ha
          refine wpList_cut 5 (fun a w => Fr 82 a [(1, .int .i64 count1), (8, v9), (10, .int .i64 (gt lost0 t32)), (30, vlost0), (31, .int .i64 (lost0.length : Int)), (32, .int .i64 t32), (43, .bool ((decide ((gt lost0 t32) < (0 : Int))) || (decide ((gone8.length : Int) ≤ (gt lost0 t32)))))] ∧ Hp S w0 w (Res.sl Ek.bool 4 v9 gone8 :: ow)) ?_ ?_
          · rcases Bool.eq_false_or_eq_true (decide ((gt lost0 t32) < (0 : Int))) with hb15 | hb15
            · skip
              refine st_skip hf (wantN hf rfl rfl hb15) rfl (by decide) ?_ rfl
              clear hf; intro a hf
              refine st_skip hf (wantN hf rfl rfl hb15) rfl (by decide) ?_ rfl
              clear hf; intro a hf
              refine st_skip hf (wantN hf rfl rfl hb15) rfl (by decide) ?_ rfl
              clear hf; intro a hf
              refine st_skip hf (wantN hf rfl rfl hb15) rfl (by decide) ?_ rfl
              clear hf; intro a hf
              refine st_pick (v := .bool true) hf rfl rfl (fun hb' => ?_) (fun hb' => ?_) (by decide) ?_
              · rfl
              · exact absurd (hb15.symm.trans hb') (by decide)
              clear hf; intro a ha hf; clear ha
              refine st_nil hf (th_n ?_)
              exact ⟨hf.sub ⟨rfl, rfl, rfl, rfl, rfl, rfl, (by rw [hb15]; rfl), trivial⟩, hp⟩
            · skip
              refine st_move hf (wantY hf rfl rfl hb15) rfl (by decide) ?_
              clear hf; intro a ha hf; clear ha
              refine st_move hf (wantY hf rfl rfl hb15) rfl (by decide) ?_
              clear hf; intro a ha hf; clear ha
              refine st_len (E := Ek.bool) hf (by decide) Try.underlying64 (wantY hf rfl rfl hb15) rfl (hp.sl (i := 0) rfl) ?_
              clear hf; intro a ha hf; clear ha
              refine st_igeq hf (by decide) (wantY hf rfl rfl hb15) rfl rfl ?_
              clear hf; intro a ha hf; clear ha
              refine st_pick (v := .bool (decide ((gone8.length : Int) ≤ (gt lost0 t32)))) hf rfl rfl (fun hb' => ?_) (fun hb' => ?_) (by decide) ?_
              · exact absurd (hb15.symm.trans hb') (by decide)
              · rfl
              clear hf; intro a ha hf; clear ha
              refine st_nil hf (th_n ?_)
              exact ⟨hf.sub ⟨rfl, rfl, rfl, rfl, rfl, rfl, (by rw [hb15]; rfl), trivial⟩, hp⟩
          · rintro a w ⟨hf, hp⟩
            refine st_move hf rfl rfl (by decide) ?_
            clear hf; intro a ha hf; clear ha
            obtain ⟨z18, hz16, h⟩ := bnd h
            refine wpList_cut 5 (fun a w => Fr 82 a [(1, .int .i64 count1), (8, v9), (10, .int .i64 (gt lost0 t32)), (30, vlost0), (31, .int .i64 (lost0.length : Int)), (32, .int .i64 t32), (49, .bool z18)] ∧ Hp S w0 w (Res.sl Ek.bool 4 v9 gone8 :: ow)) ?_ ?_
            · rcases Bool.eq_false_or_eq_true ((decide ((gt lost0 t32) < (0 : Int))) || (decide ((gone8.length : Int) ≤ (gt lost0 t32)))) with hb17 | hb17
              · skip
                replace hz16 := ifT hz16 hb17
                refine st_skip hf (wantN hf rfl rfl hb17) rfl (by decide) ?_ rfl
                clear hf; intro a hf
                refine st_skip hf (wantN hf rfl rfl hb17) rfl (by decide) ?_ rfl
                clear hf; intro a hf
                refine st_skip hf (wantN hf rfl rfl hb17) rfl (by decide) ?_ rfl
                clear hf; intro a hf
                refine st_skip hf (wantN hf rfl rfl hb17) rfl (by decide) ?_ rfl
                clear hf; intro a hf
                obtain rfl := Option.some.inj hz16
                refine st_pick (v := .bool true) hf rfl rfl (fun hb' => ?_) (fun hb' => ?_) (by decide) ?_
                · rfl
                · exact absurd (hb17.symm.trans hb') (by decide)
                clear hf; intro a ha hf; clear ha
                refine st_nil hf (th_n ?_)
                exact ⟨hf.sub ⟨rfl, rfl, rfl, rfl, rfl, rfl, rfl, trivial⟩, hp⟩
              · skip
                replace hz16 := ifF hz16 hb17
                refine st_move hf (wantY hf rfl rfl hb17) rfl (by decide) ?_
                clear hf; intro a ha hf; clear ha
                refine st_move hf (wantY hf rfl rfl hb17) rfl (by decide) ?_
                clear hf; intro a ha hf; clear ha
                obtain ⟨hc19, hz16⟩ := chk hz16
                refine st_index (E := Ek.bool) hf (by decide) Try.underlying64 elt4 (wantY hf rfl rfl hb17) rfl rfl (hp.sl (i := 0) rfl) hc19.1 hc19.2 ?_
                clear hf; intro a ha hf; clear ha
                refine st_ldB hf (by decide) pl4 (wantY hf rfl rfl hb17) rfl (hp.sl (i := 0) rfl) hc19.1 hc19.2 ?_
                clear hf; intro a ha hf; clear ha
                obtain rfl := Option.some.inj hz16
                refine st_pick (v := .bool (gt gone8 (gt lost0 t32))) hf rfl rfl (fun hb' => ?_) (fun hb' => ?_) (by decide) ?_
                · exact absurd (hb17.symm.trans hb') (by decide)
                · rfl
                clear hf; intro a ha hf; clear ha
                refine st_nil hf (th_n ?_)
                exact ⟨hf.sub ⟨rfl, rfl, rfl, rfl, rfl, rfl, rfl, trivial⟩, hp⟩
            · rintro a w ⟨hf, hp⟩
              refine st_nil hf ?_
              refine th_n ?_
              refine wp_if hf rfl (fun hb => ?_) (fun hb => ?_)
              · replace h := ifT h hb
                refine wp_seq ?_
                refine wp_reg ?_
                refine st_assign hf rfl rfl (by decide) ?_
                clear hf; intro a ha hf; clear ha
                refine st_assign hf rfl rfl (by decide) ?_
                clear hf; intro a ha hf; clear ha
                refine st_nil hf ?_
                refine th_n ?_
                refine wp_ret ?_
                refine th_r ?_
                refine ib_r ?_
                refine th_r ?_
                obtain rfl := Option.some.inj h
                have hp := hp.rowsNil (RowK.sl (Ek.int .i64) 3) 22
                have hp : Hp _ _ w (Res.rows (RowK.sl (Ek.int .i64) 3) 22 (.slice none 0 0) ([]) ([]) :: ow) := Hp.sel (pre := [Res.rows (RowK.sl (Ek.int .i64) 3) 22 (.slice none 0 0) ([]) ([]), Res.sl Ek.bool 4 v9 gone8]) (tail := ow) (rs' := [Res.rows (RowK.sl (Ek.int .i64) 3) 22 (.slice none 0 0) ([]) ([])]) hp [0] (by decide) (by simp) rfl
                exact rnd_r (by simp) ⟨rfl, ⟨_, _, hf.sub ⟨rfl, rfl, trivial⟩, hp⟩⟩
              · replace h := ifF h hb
                refine wp_skip ?_
                refine th_n ?_
                refine wp_reg ?_
                refine st_move hf rfl rfl (by decide) ?_
                clear hf; intro a ha hf; clear ha
                refine st_move hf rfl rfl (by decide) ?_
                clear hf; intro a ha hf; clear ha
                obtain ⟨hc21, h⟩ := chk h
                refine st_index (E := Ek.bool) hf (by decide) Try.underlying64 elt4 rfl rfl rfl (hp.sl (i := 0) rfl) hc21.1 hc21.2 ?_
                clear hf; intro a ha hf; clear ha
                refine st_store (E := Ek.bool) hf elt4 hp (i := 0) rfl rfl rfl rfl rfl hc21.1 hc21.2 ?_
                clear hf; intro a w hf hp0; clear hp; have hp := hp0; clear hp0
                replace hp : Hp _ _ w (Res.sl Ek.bool 4 v9 (gone8.set ((gt lost0 t32)).toNat true) :: ow) := hp
                refine st_nil hf ?_
                refine ib_n ?_
                refine th_n ?_
                refine wp_reg ?_
                refine st_iadd hf (by decide) rfl rfl rfl ?_
                clear hf; intro a ha hf; clear ha
                refine st_move hf rfl rfl (by decide) ?_
                clear hf; intro a ha hf; clear ha
                refine st_nil hf ?_
                obtain rfl := Option.some.inj h
                exact rnd_l ⟨_, hf.sub ⟨rfl, rfl, rfl, rfl, rfl, trivial⟩, hp⟩
        · replace h := ifF h hb
          refine wp_exit ?_
          refine th_e ?_
          obtain rfl := Option.some.inj h
          exact rnd_r (by simp) ⟨rfl, _, hf.sub ⟨rfl, rfl, trivial⟩, hp⟩
      · clear hl hf hp
        intro e a w hne hO
        cases q22 with
        | inl q23 =>
          replace h := smL h
          obtain ⟨rfl, v11, hf, hp⟩ := hO
          refine ib_same ?_
          refine th_n ?_
          refine wp_seq ?_
          refine wp_reg ?_
          refine st_move hf rfl rfl (by decide) ?_
          clear hf; intro a ha hf; clear ha
          obtain ⟨hc25, h⟩ := chk h
          refine st_make (E := Ek.val) hf (by decide) eltv22 Try.underlying23 (by decide) hp rfl rfl rfl hc25.1 hc25.2.1 hc25.2.2 ?_
          clear hf; intro a w v26 hf hp0; clear hp; have hp := hp0; clear hp0
          replace hp : Hp _ _ w (Res.rows (RowK.sl (Ek.int .i64) 3) 22 v26 (List.replicate (count1).toNat (Value.slice none 0 0)) (List.replicate (count1).toNat ([] : (List Int))) :: Res.sl Ek.bool 4 v11 q23 :: ow) := hp.rowsMade (RowK.sl (Ek.int .i64) 3) ([] : (List Int)) (fun w => .inl ⟨rfl, rfl, rfl, fun _ h => h⟩)
          refine st_assign hf rfl rfl (by decide) ?_
          clear hf; intro a ha hf; clear ha
          refine st_nil hf ?_
          refine th_n ?_
          refine wp_seq ?_
          refine wp_seq ?_
          refine wp_reg ?_
          refine st_move hf rfl rfl (by decide) ?_
          clear hf; intro a ha hf; clear ha
          refine st_len (E := Ek.bool) hf (by decide) Try.underlying64 rfl rfl (hp.sl (i := 1) rfl) ?_
          clear hf; intro a ha hf; clear ha
          refine st_move hf rfl rfl (by decide) ?_
          clear hf; intro a ha hf; clear ha
          refine st_nil hf ?_
          refine th_n ?_
          refine wp_block ?_
          obtain ⟨q52, hl, h⟩ := bnd h
          refine wp_loop_pure (f := (f_weave_Marks.s2 count1 q23)) (s := ((List.replicate (count1).toNat ([] : (List Int))), (0 : Int))) (fun s a w => ∃ (v28 : Value) (vs29 : List Value), Fr 82 a [(1, .int .i64 count1), (11, v28), (56, v11), (57, .int .i64 (q23.length : Int)), (58, .int .i64 s.2)] ∧ Hp S w0 w (Res.rows (RowK.sl (Ek.int .i64) 3) 22 v28 vs29 s.1 :: Res.sl Ek.bool 4 v11 q23 :: ow)) (fun q e a w => e = .exit 2 ∧ ∃ (v31 : Value) (vs32 : List Value), Fr 82 a [(11, v31)] ∧ Hp S w0 w (Res.rows (RowK.sl (Ek.int .i64) 3) 22 v31 vs32 q :: ow)) ?_ hl ⟨_, _, hf.sub ⟨rfl, rfl, rfl, rfl, rfl, trivial⟩, hp⟩ ?_
          · clear hl hf hp
            intro s x a w h hI
            obtain ⟨out11, t58⟩ := s
            obtain ⟨v28, vs29, hf, hp⟩ : ∃ (v28 : Value) (vs29 : List Value), Fr 82 a [(1, .int .i64 count1), (11, v28), (56, v11), (57, .int .i64 (q23.length : Int)), (58, .int .i64 t58)] ∧ Hp S w0 w (Res.rows (RowK.sl (Ek.int .i64) 3) 22 v28 vs29 out11 :: Res.sl Ek.bool 4 v11 q23 :: ow) := hI
            replace h : f_weave_Marks.s2c count1 q23 out11 t58 = some x := h
            unfold f_weave_Marks.s2c at h
            refine wp_seq ?_
            refine wp_reg ?_
            refine st_ilss hf (by decide) rfl rfl rfl ?_
            clear hf; intro a ha hf; clear ha
            refine st_nil hf ?_
            refine th_n ?_
            refine wp_seq ?_
            refine wp_if hf rfl (fun hb => ?_) (fun hb => ?_)
            · replace h := ifT h hb
              refine wp_skip ?_
              refine th_n ?_
              refine wp_seq ?_
              refine wp_block ?_
              refine wp_seq ?_
              refine wp_reg ?_
              refine st_move hf rfl rfl (by decide) ?_
              clear hf; intro a ha hf; clear ha
              obtain ⟨hc34, h⟩ := chk h
              refine st_index (E := Ek.bool) hf (by decide) Try.underlying64 elt4 rfl rfl rfl (hp.sl (i := 1) rfl) hc34.1 hc34.2 ?_
              clear hf; intro a ha hf; clear ha
              refine st_ldB hf (by decide) pl4 rfl rfl (hp.sl (i := 1) rfl) hc34.1 hc34.2 ?_
              clear hf; intro a ha hf; clear ha
              refine st_assign hf rfl rfl (by decide) ?_
              clear hf; intro a ha hf; clear ha
              refine st_assign hf rfl rfl (by decide) ?_
              clear hf; intro a ha hf; clear ha
              refine st_nil hf ?_
              refine th_n ?_
              refine wp_seq ?_
              refine wp_reg ?_
              refine st_move hf rfl rfl (by decide) ?_
              clear hf; intro a ha hf; clear ha
              refine st_nil hf ?_
              refine th_n ?_
              refine wp_if hf rfl (fun hb => ?_) (fun hb => ?_)
              · replace h := ifT h hb
                obtain ⟨S35, hp36, rd37, up38, bk39⟩ := Hp.lendR hp (i := 0) rfl
                have rl40 := rd37
                have fx51 := hp.rd (i := 0) rfl
                obtain ⟨hc41, h⟩ := chk h
                obtain ⟨hc42, h⟩ := chk h
                obtain ⟨hc43, h⟩ := chk h
                obtain ⟨hc44, h⟩ := chk h
                obtain ⟨hc48, h⟩ := chk h
                obtain ⟨hc50, h⟩ := chk h
                refine wp_cutN (fun a w => ∃ (v45 : Value) (v49 : Value), Fr 82 a [(1, .int .i64 count1), (11, v28), (56, v11), (57, .int .i64 (q23.length : Int)), (58, .int .i64 t58)] ∧ Hp S w0 w (Res.rows (RowK.sl (Ek.int .i64) 3) 22 v28 (vs29.set (((t58).tmod count1)).toNat v49) (out11.set (((t58).tmod count1)).toNat (((gt out11 ((t58).tmod count1)) ++ [(IntKind.i64.wrap ((t58).tdiv count1))]) : (List Int))) :: Res.sl (Ek.int .i64) 3 v45 ([(IntKind.i64.wrap ((t58).tdiv count1))]) :: Res.sl Ek.bool 4 v11 q23 :: ow)) ?_ ?_
                · have hp := hp36.same (Same.drew w)
                  refine dr_begin' (fun a w => ∃ (v45 : Value) (v49 : Value), Fr 82 a [(1, .int .i64 count1), (11, v28), (56, v11), (57, .int .i64 (q23.length : Int)), (58, .int .i64 t58)] ∧ Hp S w0 w (Res.rows (RowK.sl (Ek.int .i64) 3) 22 v28 (vs29.set (((t58).tmod count1)).toNat v49) (out11.set (((t58).tmod count1)).toNat (((gt out11 ((t58).tmod count1)) ++ [(IntKind.i64.wrap ((t58).tdiv count1))]) : (List Int))) :: Res.sl (Ek.int .i64) 3 v45 ([(IntKind.i64.wrap ((t58).tdiv count1))]) :: Res.sl Ek.bool 4 v11 q23 :: ow)) (fun w' => ∃ l, Hp S35 w w' l) [14, 16] (by kernel_rfl) ?_
                  refine dr_takeP 0 (v28) rfl (by kernel_rfl) (by kernel_rfl) (by kernel_rfl) rfl rfl hf (by decide) rfl (fun w => ?_) ?_
                  · skip
                    refine st_move hf rfl rfl (by decide) ?_
                    clear hf; intro a ha hf
                    exact st_nil hf (th_n ⟨ha, rfl⟩)
                  clear hf; intro a hf
                  refine dr_takeP 1 (.int .i64 t58) rfl (by kernel_rfl) (by kernel_rfl) (by kernel_rfl) rfl rfl hf (by decide) rfl (fun w => ?_) ?_
                  · skip
                    refine st_move hf rfl rfl (by decide) ?_
                    clear hf; intro a ha hf
                    exact st_nil hf (th_n ⟨ha, rfl⟩)
                  clear hf; intro a hf
                  refine dr_takeP 2 (.int .i64 count1) rfl (by kernel_rfl) (by kernel_rfl) (by kernel_rfl) rfl rfl hf (by decide) rfl (fun w => ?_) ?_
                  · skip
                    refine st_move hf rfl rfl (by decide) ?_
                    clear hf; intro a ha hf
                    exact st_nil hf (th_n ⟨ha, rfl⟩)
                  clear hf; intro a hf
                  refine dr_takeP 3 (.int .i64 ((t58).tmod count1)) rfl (by kernel_rfl) (by kernel_rfl) (by kernel_rfl) rfl rfl hf (by decide) rfl (fun w => ?_) ?_
                  · skip
                    refine st_irem hf (by decide) rfl rfl rfl hc41 ?_
                    clear hf; intro a ha hf
                    exact st_nil hf (th_n ⟨ha, rfl⟩)
                  clear hf; intro a hf
                  refine dr_takeP 4 (v28) rfl (by kernel_rfl) (by kernel_rfl) (by kernel_rfl) rfl rfl hf (by decide) rfl (fun w => ?_) ?_
                  · skip
                    refine st_move hf rfl rfl (by decide) ?_
                    clear hf; intro a ha hf
                    exact st_nil hf (th_n ⟨ha, rfl⟩)
                  clear hf; intro a hf
                  refine dr_takeP 5 (.int .i64 t58) rfl (by kernel_rfl) (by kernel_rfl) (by kernel_rfl) rfl rfl hf (by decide) rfl (fun w => ?_) ?_
                  · skip
                    refine st_move hf rfl rfl (by decide) ?_
                    clear hf; intro a ha hf
                    exact st_nil hf (th_n ⟨ha, rfl⟩)
                  clear hf; intro a hf
                  refine dr_takeP 6 (.int .i64 count1) rfl (by kernel_rfl) (by kernel_rfl) (by kernel_rfl) rfl rfl hf (by decide) rfl (fun w => ?_) ?_
                  · skip
                    refine st_move hf rfl rfl (by decide) ?_
                    clear hf; intro a ha hf
                    exact st_nil hf (th_n ⟨ha, rfl⟩)
                  clear hf; intro a hf
                  refine dr_takeP 7 (.int .i64 ((t58).tmod count1)) rfl (by kernel_rfl) (by kernel_rfl) (by kernel_rfl) rfl rfl hf (by decide) rfl (fun w => ?_) ?_
                  · skip
                    refine st_irem hf (by decide) rfl rfl rfl hc42 ?_
                    clear hf; intro a ha hf
                    exact st_nil hf (th_n ⟨ha, rfl⟩)
                  clear hf; intro a hf
                  refine dr_takeP 8 (eptr v28 ((t58).tmod count1) 1) rfl (by kernel_rfl) (by kernel_rfl) (by kernel_rfl) rfl rfl hf (by decide) rfl (fun w => ?_) ?_
                  · skip
                    refine st_indexV (E := Ek.val) (m := out11.length) hf (by decide) Try.underlying23 eltv22 rfl rfl rfl rl40.shapeNY hc43.1 hc43.2 ?_
                    clear hf; intro a ha hf
                    exact st_nil hf (th_n ⟨ha, rfl⟩)
                  clear hf; intro a hf
                  refine dr_take2 9 ((gtv vs29 ((t58).tmod count1))) rfl (by kernel_rfl) (by kernel_rfl) (by kernel_rfl) (by kernel_rfl) (by kernel_rfl) rfl rfl hf (by decide) rfl (fun w hp => ?_) ⟨_, hp⟩ ?_
                  · obtain ⟨_, hp⟩ := hp
                    refine st_ldRY hf (by decide) pl22 rfl rfl (rl40.ob hp) hc43.1 hc43.2 ?_
                    clear hf; intro a ha hf
                    exact st_nil hf (th_n ⟨ha, rfl⟩)
                  clear hf; intro a hf
                  refine dr_takeP 10 (.int .i64 t58) rfl (by kernel_rfl) (by kernel_rfl) (by kernel_rfl) rfl rfl hf (by decide) rfl (fun w => ?_) ?_
                  · skip
                    refine st_move hf rfl rfl (by decide) ?_
                    clear hf; intro a ha hf
                    exact st_nil hf (th_n ⟨ha, rfl⟩)
                  clear hf; intro a hf
                  refine dr_takeP 11 (.int .i64 count1) rfl (by kernel_rfl) (by kernel_rfl) (by kernel_rfl) rfl rfl hf (by decide) rfl (fun w => ?_) ?_
                  · skip
                    refine st_move hf rfl rfl (by decide) ?_
                    clear hf; intro a ha hf
                    exact st_nil hf (th_n ⟨ha, rfl⟩)
                  clear hf; intro a hf
                  refine dr_takeP 12 (.int .i64 (IntKind.i64.wrap ((t58).tdiv count1))) rfl (by kernel_rfl) (by kernel_rfl) (by kernel_rfl) rfl rfl hf (by decide) rfl (fun w => ?_) ?_
                  · skip
                    refine st_iquo hf (by decide) rfl rfl rfl hc44 ?_
                    clear hf; intro a ha hf
                    exact st_nil hf (th_n ⟨ha, rfl⟩)
                  clear hf; intro a hf
                  refine dr_one 13 rfl (by kernel_rfl) ?_
                  refine st_build (E := (Ek.int .i64)) (xs := [(IntKind.i64.wrap ((t58).tdiv count1))]) hf (by decide) elt3 Try.underlying22 hp (vals := #[(0, .int .i64 (IntKind.i64.wrap ((t58).tdiv count1)))]) (cells := #[.int .i64 (IntKind.i64.wrap ((t58).tdiv count1))]) rfl (by simp [hf.ev (x := (Operand.tmp 76)) rfl]) (by decide) (by decide) (z := .int .i64 0) (by kernel_rfl) (by kernel_rfl) rfl (reps_cons (cs := [.int .i64 (IntKind.i64.wrap ((t58).tdiv count1))]) rfl (reps_nil _)) ?_
                  clear hf; intro a w v45 hf hp0; clear hp; have hp := hp0; clear hp0
                  replace hp : Hp _ _ w (Res.sl (Ek.int .i64) 3 v45 ([(IntKind.i64.wrap ((t58).tdiv count1))]) :: Res.sl Ek.bool 4 v11 q23 :: ow) := hp
                  refine st_nil hf (th_n ⟨fun _ _ => ⟨_, hp⟩, ?_⟩)
                  have hp := bk39 _ _ hp
                  refine dr_one 14 rfl (by kernel_rfl) ?_
                  replace hp : Hp _ _ w (Res.sl (Ek.int .i64) 3 (gtv vs29 ((t58).tmod count1)) (gt out11 ((t58).tmod count1)) :: Res.rowsH (RowK.sl (Ek.int .i64) 3) 22 v28 vs29 ((out11.map some).set (((t58).tmod count1)).toNat none) :: Res.sl (Ek.int .i64) 3 v45 ([(IntKind.i64.wrap ((t58).tdiv count1))]) :: Res.sl Ek.bool 4 v11 q23 :: ow) := hp.rowsTake (k := ((t58).tmod count1)) hc43.1 (take1 hc43.1 hc43.2)
                  refine st_append (E := (Ek.int .i64)) hf (by decide) elt3 Try.underlying22 (by decide) hp (i := 0) rfl rfl rfl rfl (hp.sl (i := 2) rfl) hc48 ?_
                  clear hf; intro a w v49 hf hp0; clear hp; have hp := hp0; clear hp0
                  replace hp : Hp _ _ w (Res.sl (Ek.int .i64) 3 v49 ((gt out11 ((t58).tmod count1)) ++ [(IntKind.i64.wrap ((t58).tdiv count1))]) :: Res.rowsH (RowK.sl (Ek.int .i64) 3) 22 v28 vs29 ((out11.map some).set (((t58).tmod count1)).toNat none) :: Res.sl (Ek.int .i64) 3 v45 ([(IntKind.i64.wrap ((t58).tdiv count1))]) :: Res.sl Ek.bool 4 v11 q23 :: ow) := hp
                  refine st_nil hf (th_n ⟨fun hn => absurd hn (by decide), ?_⟩)
                  refine dr_takeP 15 (eptr v28 ((t58).tmod count1) 1) rfl (by kernel_rfl) (by kernel_rfl) (by kernel_rfl) rfl rfl hf (by decide) rfl (fun w => ?_) ?_
                  · skip
                    refine st_indexV (E := Ek.val) (m := out11.length) hf (by decide) Try.underlying23 eltv22 rfl rfl rfl (by simpa only [List.length_set, List.length_map] using fx51.shapeN) hc50.1 hc50.2 ?_
                    clear hf; intro a ha hf
                    exact st_nil hf (th_n ⟨ha, rfl⟩)
                  clear hf; intro a hf
                  refine dr_one 16 rfl (by kernel_rfl) ?_
                  have hp : Hp _ _ w (Res.rowsH (RowK.sl (Ek.int .i64) 3) 22 v28 vs29 ((out11.map some).set (((t58).tmod count1)).toNat none) :: Res.sl (Ek.int .i64) 3 v49 ((gt out11 ((t58).tmod count1)) ++ [(IntKind.i64.wrap ((t58).tdiv count1))]) :: Res.sl (Ek.int .i64) 3 v45 ([(IntKind.i64.wrap ((t58).tdiv count1))]) :: Res.sl Ek.bool 4 v11 q23 :: ow) := Hp.sel (pre := [Res.sl (Ek.int .i64) 3 v49 ((gt out11 ((t58).tmod count1)) ++ [(IntKind.i64.wrap ((t58).tdiv count1))]), Res.rowsH (RowK.sl (Ek.int .i64) 3) 22 v28 vs29 ((out11.map some).set (((t58).tmod count1)).toNat none), Res.sl (Ek.int .i64) 3 v45 ([(IntKind.i64.wrap ((t58).tdiv count1))]), Res.sl Ek.bool 4 v11 q23]) (tail := ow) (rs' := [Res.rowsH (RowK.sl (Ek.int .i64) 3) 22 v28 vs29 ((out11.map some).set (((t58).tmod count1)).toNat none), Res.sl (Ek.int .i64) 3 v49 ((gt out11 ((t58).tmod count1)) ++ [(IntKind.i64.wrap ((t58).tdiv count1))]), Res.sl (Ek.int .i64) 3 v45 ([(IntKind.i64.wrap ((t58).tdiv count1))]), Res.sl Ek.bool 4 v11 q23]) hp [1, 0, 2, 3] (by decide) (by simp) rfl
                  refine st_storeR (K := (RowK.sl (Ek.int .i64) 3)) (b := (((gt out11 ((t58).tmod count1)) ++ [(IntKind.i64.wrap ((t58).tdiv count1))]) : (List Int))) hf eltv22 hp (hp.sl (i := 1) rfl).shapeV rfl rfl rfl hc50.1 (by simp only [List.length_set, List.length_map]; exact hc50.2) ?_
                  clear hf; intro a w hf hp0; clear hp; have hp := hp0; clear hp0
                  rw [fill1] at hp
                  replace hp : Hp _ _ w (Res.rows (RowK.sl (Ek.int .i64) 3) 22 v28 (vs29.set (((t58).tmod count1)).toNat v49) (out11.set (((t58).tmod count1)).toNat (((gt out11 ((t58).tmod count1)) ++ [(IntKind.i64.wrap ((t58).tdiv count1))]) : (List Int))) :: Res.sl (Ek.int .i64) 3 v45 ([(IntKind.i64.wrap ((t58).tdiv count1))]) :: Res.sl Ek.bool 4 v11 q23 :: ow) := hp
                  refine st_nil hf (th_n ⟨fun hn => absurd hn (by decide), ?_⟩)
                  refine dr_end (by kernel_rfl) ?_ _
                  exact ⟨v45, v49, hf.sub ⟨rfl, rfl, rfl, rfl, rfl, trivial⟩, hp⟩
                · rintro a w ⟨v45, v49, hf, hp⟩
                  refine ib_n ?_
                  refine th_n ?_
                  refine wp_reg ?_
                  refine st_iadd hf (by decide) rfl rfl rfl ?_
                  clear hf; intro a ha hf; clear ha
                  refine st_move hf rfl rfl (by decide) ?_
                  clear hf; intro a ha hf; clear ha
                  refine st_nil hf ?_
                  obtain rfl := Option.some.inj h
                  have hp : Hp _ _ w (Res.rows (RowK.sl (Ek.int .i64) 3) 22 v28 (vs29.set (((t58).tmod count1)).toNat v49) (out11.set (((t58).tmod count1)).toNat (((gt out11 ((t58).tmod count1)) ++ [(IntKind.i64.wrap ((t58).tdiv count1))]) : (List Int))) :: Res.sl Ek.bool 4 v11 q23 :: ow) := Hp.sel (pre := [Res.rows (RowK.sl (Ek.int .i64) 3) 22 v28 (vs29.set (((t58).tmod count1)).toNat v49) (out11.set (((t58).tmod count1)).toNat (((gt out11 ((t58).tmod count1)) ++ [(IntKind.i64.wrap ((t58).tdiv count1))]) : (List Int))), Res.sl (Ek.int .i64) 3 v45 ([(IntKind.i64.wrap ((t58).tdiv count1))]), Res.sl Ek.bool 4 v11 q23]) (tail := ow) (rs' := [Res.rows (RowK.sl (Ek.int .i64) 3) 22 v28 (vs29.set (((t58).tmod count1)).toNat v49) (out11.set (((t58).tmod count1)).toNat (((gt out11 ((t58).tmod count1)) ++ [(IntKind.i64.wrap ((t58).tdiv count1))]) : (List Int))), Res.sl Ek.bool 4 v11 q23]) hp [0, 2] (by decide) (by simp) rfl
                  exact rnd_l ⟨_, _, hf.sub ⟨rfl, rfl, rfl, rfl, rfl, trivial⟩, hp⟩
              · replace h := ifF h hb
                refine wp_skip ?_
                refine ib_n ?_
                refine th_n ?_
                refine wp_reg ?_
                refine st_iadd hf (by decide) rfl rfl rfl ?_
                clear hf; intro a ha hf; clear ha
                refine st_move hf rfl rfl (by decide) ?_
                clear hf; intro a ha hf; clear ha
                refine st_nil hf ?_
                obtain rfl := Option.some.inj h
                exact rnd_l ⟨_, _, hf.sub ⟨rfl, rfl, rfl, rfl, rfl, trivial⟩, hp⟩
            · replace h := ifF h hb
              refine wp_exit ?_
              refine th_e ?_
              obtain rfl := Option.some.inj h
              have hp : Hp _ _ w (Res.rows (RowK.sl (Ek.int .i64) 3) 22 v28 vs29 out11 :: ow) := Hp.sel (pre := [Res.rows (RowK.sl (Ek.int .i64) 3) 22 v28 vs29 out11, Res.sl Ek.bool 4 v11 q23]) (tail := ow) (rs' := [Res.rows (RowK.sl (Ek.int .i64) 3) 22 v28 vs29 out11]) hp [0] (by decide) (by simp) rfl
              exact rnd_r (by simp) ⟨rfl, _, _, hf.sub ⟨rfl, trivial⟩, hp⟩
          · clear hl hf hp
            intro e a w hne hO
            obtain ⟨rfl, v31, vs32, hf, hp⟩ := hO
            refine ib_same ?_
            refine th_n ?_
            refine wp_seq ?_
            refine wp_reg ?_
            refine st_move hf rfl rfl (by decide) ?_
            clear hf; intro a ha hf; clear ha
            refine st_assign hf rfl rfl (by decide) ?_
            clear hf; intro a ha hf; clear ha
            refine st_assign hf rfl rfl (by decide) ?_
            clear hf; intro a ha hf; clear ha
            refine st_nil hf ?_
            refine th_n ?_
            refine wp_ret ?_
            obtain rfl := Option.some.inj h
            exact ⟨rfl, ⟨_, _, hf.sub ⟨rfl, rfl, trivial⟩, hp⟩⟩
        | inr q24 =>
          replace h := smR h
          obtain ⟨rfl, x0, x1, hf, hp⟩ := hO
          refine ib_r ?_
          refine th_r ?_
          obtain rfl := Option.some.inj h
          exact ⟨rfl, ⟨_, _, hf.sub ⟨rfl, rfl, trivial⟩, hp⟩⟩

noncomputable def f_foghornref17_Numbers.s1c (a0 : (List Int)) (b1 : (List Int)) (i5 : Int) : Option (Int ⊕ (Unit ⊕ Bool)) := (if (decide (i5 < (a0.length : Int))) = true then (if 0 ≤ i5 ∧ i5 < (a0.length : Int) then (if 0 ≤ i5 ∧ i5 < (b1.length : Int) then (if ((gt a0 i5) != (gt b1 i5)) = true then (some (Sum.inr (Sum.inr false))) else (some (Sum.inl (IntKind.i64.wrap (i5 + (1 : Int)))))) else none) else none) else (some (Sum.inr (Sum.inl ()))))
noncomputable def f_foghornref17_Numbers.s1 (a0 : (List Int)) (b1 : (List Int)) (s : Int) : Option (Int ⊕ (Unit ⊕ Bool)) := f_foghornref17_Numbers.s1c a0 b1 s
noncomputable def f_foghornref17_Numbers (a0 : (List Int)) (b1 : (List Int)) : Option Bool := (if ((a0.length : Int) != (b1.length : Int)) = true then (some false) else ((loop (f_foghornref17_Numbers.s1 a0 b1) (0 : Int)).bind (fun q3 => sm q3 (fun q4 => (some true)) (fun q5 => (some q5)))))
theorem f_foghornref17_Numbers_c {S : Nat → Prop} {w0 w : World} {ow : List Res} (hp : Hp S w0 w ow) (va0 : Value) (a0 : (List Int)) (ha0 : RdS (Ek.int .i64) S w0 va0 a0) (vb1 : Value) (b1 : (List Int)) (hb1 : RdS (Ek.int .i64) S w0 vb1 b1) {r : Bool} (h : f_foghornref17_Numbers a0 b1 = some r) :
    Calls Try.prog 15 #[va0, vb1] w (fun e w' => e = .returned (.bool r) ∧ Hp S w0 w' (ow)) := by
  unfold f_foghornref17_Numbers at h
  refine enter (n := 26) (args := [va0, vb1]) Try.func15 rfl rfl (Nat.le_of_ble_eq_true rfl) fun a hf => ?_
  replace hf : Fr 26 a [(0, va0), (1, vb1)] := hf
  refine wp_mono (Q := fun e a w => e = .ret ∧ Fr 26 a [(4, .bool r)] ∧ Hp S w0 w (ow)) ?_ ?_
  rotate_left
  · rintro e a w ⟨rfl, hf, hp⟩
    exact ret1 hf rfl rfl ⟨rfl, hp⟩
  refine wp_seq ?_
  refine wp_reg ?_
  refine st_assign hf rfl rfl (by decide) ?_
  clear hf; intro a ha hf; clear ha
  refine st_nil hf ?_
  refine th_n ?_
  refine wp_seq ?_
  refine wp_seq ?_
  refine wp_reg ?_
  refine st_move hf rfl rfl (by decide) ?_
  clear hf; intro a ha hf; clear ha
  refine st_len (E := (Ek.int .i64)) hf (by decide) Try.underlying22 rfl rfl (ha0.sl hp) ?_
  clear hf; intro a ha hf; clear ha
  refine st_move hf rfl rfl (by decide) ?_
  clear hf; intro a ha hf; clear ha
  refine st_len (E := (Ek.int .i64)) hf (by decide) Try.underlying22 rfl rfl (hb1.sl hp) ?_
  clear hf; intro a ha hf; clear ha
  refine st_ineq hf (by decide) rfl rfl rfl ?_
  clear hf; intro a ha hf; clear ha
  refine st_nil hf ?_
  refine th_n ?_
  refine wp_if hf rfl (fun hb => ?_) (fun hb => ?_)
  · replace h := ifT h hb
    refine wp_seq ?_
    refine wp_reg ?_
    refine st_assign hf rfl rfl (by decide) ?_
    clear hf; intro a ha hf; clear ha
    refine st_nil hf ?_
    refine th_n ?_
    refine wp_ret ?_
    refine th_r ?_
    obtain rfl := Option.some.inj h
    exact ⟨rfl, ⟨hf.sub ⟨rfl, trivial⟩, hp⟩⟩
  · replace h := ifF h hb
    refine wp_skip ?_
    refine th_n ?_
    refine wp_seq ?_
    refine wp_seq ?_
    refine wp_reg ?_
    refine st_assign hf rfl rfl (by decide) ?_
    clear hf; intro a ha hf; clear ha
    refine st_nil hf ?_
    refine th_n ?_
    refine wp_block ?_
    obtain ⟨q3, hl, h⟩ := bnd h
    refine wp_loop_pure (f := (f_foghornref17_Numbers.s1 a0 b1)) (s := (0 : Int)) (fun s a w => Fr 26 a [(0, va0), (1, vb1), (5, .int .i64 s)] ∧ Hp S w0 w (ow)) (fun q e a w => match q with | (Sum.inl q) => e = .exit 0 ∧ Fr 26 a [] ∧ Hp S w0 w (ow) | (Sum.inr q) => e = .ret ∧ Fr 26 a [(4, .bool q)] ∧ Hp S w0 w (ow)) ?_ hl ⟨hf.sub ⟨rfl, rfl, rfl, trivial⟩, hp⟩ ?_
    · clear hl hf hp
      intro s x a w h hI
      obtain ⟨i5, hs⟩ : ∃ z, z = s := ⟨s, rfl⟩; subst hs
      obtain ⟨hf, hp⟩ : Fr 26 a [(0, va0), (1, vb1), (5, .int .i64 i5)] ∧ Hp S w0 w (ow) := hI
      replace h : f_foghornref17_Numbers.s1c a0 b1 i5 = some x := h
      unfold f_foghornref17_Numbers.s1c at h
      refine wp_seq ?_
      refine wp_seq ?_
      refine wp_reg ?_
      refine st_move hf rfl rfl (by decide) ?_
      clear hf; intro a ha hf; clear ha
      refine st_move hf rfl rfl (by decide) ?_
      clear hf; intro a ha hf; clear ha
      refine st_len (E := (Ek.int .i64)) hf (by decide) Try.underlying22 rfl rfl (ha0.sl hp) ?_
      clear hf; intro a ha hf; clear ha
      refine st_ilss hf (by decide) rfl rfl rfl ?_
      clear hf; intro a ha hf; clear ha
      refine st_nil hf ?_
      refine th_n ?_
      refine wp_if hf rfl (fun hb => ?_) (fun hb => ?_)
      · replace h := ifT h hb
        refine wp_skip ?_
        refine th_n ?_
        refine wp_seq ?_
        refine wp_block ?_
        refine wp_seq ?_
        obtain ⟨hc1, h⟩ := chk h
        obtain ⟨hc2, h⟩ := chk h
        refine wp_cutN (fun a w => Fr 26 a [(0, va0), (1, vb1), (5, .int .i64 i5), (25, .bool ((gt a0 i5) != (gt b1 i5)))] ∧ Hp S w0 w (ow)) ?_ ?_
        · have hp := hp.same (Same.drew w)
          refine dr_begin' (fun a w => Fr 26 a [(0, va0), (1, vb1), (5, .int .i64 i5), (25, .bool ((gt a0 i5) != (gt b1 i5)))] ∧ Hp S w0 w (ow)) (fun w' => ∃ l, Hp S w0 w' l) [] (by kernel_rfl) ?_
          refine dr_take 0 (va0) rfl (by kernel_rfl) (by kernel_rfl) (by kernel_rfl) (by kernel_rfl) rfl rfl hf (by decide) rfl (fun w hp => ?_) ⟨_, hp⟩ ?_
          · obtain ⟨_, hp⟩ := hp
            refine st_move hf rfl rfl (by decide) ?_
            clear hf; intro a ha hf
            exact st_nil hf (th_n ⟨ha, rfl⟩)
          clear hf; intro a hf
          refine dr_take 1 (.int .i64 i5) rfl (by kernel_rfl) (by kernel_rfl) (by kernel_rfl) (by kernel_rfl) rfl rfl hf (by decide) rfl (fun w hp => ?_) ⟨_, hp⟩ ?_
          · obtain ⟨_, hp⟩ := hp
            refine st_move hf rfl rfl (by decide) ?_
            clear hf; intro a ha hf
            exact st_nil hf (th_n ⟨ha, rfl⟩)
          clear hf; intro a hf
          refine dr_take 2 (eptr va0 i5 1) rfl (by kernel_rfl) (by kernel_rfl) (by kernel_rfl) (by kernel_rfl) rfl rfl hf (by decide) rfl (fun w hp => ?_) ⟨_, hp⟩ ?_
          · obtain ⟨_, hp⟩ := hp
            refine st_index (E := (Ek.int .i64)) hf (by decide) Try.underlying22 elt3 rfl rfl rfl (ha0.sl hp) hc1.1 hc1.2 ?_
            clear hf; intro a ha hf
            exact st_nil hf (th_n ⟨ha, rfl⟩)
          clear hf; intro a hf
          refine dr_take 3 (.int .i64 (gt a0 i5)) rfl (by kernel_rfl) (by kernel_rfl) (by kernel_rfl) (by kernel_rfl) rfl rfl hf (by decide) rfl (fun w hp => ?_) ⟨_, hp⟩ ?_
          · obtain ⟨_, hp⟩ := hp
            refine st_ldI hf (by decide) pl3 rfl rfl (ha0.sl hp) hc1.1 hc1.2 ?_
            clear hf; intro a ha hf
            exact st_nil hf (th_n ⟨ha, rfl⟩)
          clear hf; intro a hf
          refine dr_take 4 (vb1) rfl (by kernel_rfl) (by kernel_rfl) (by kernel_rfl) (by kernel_rfl) rfl rfl hf (by decide) rfl (fun w hp => ?_) ⟨_, hp⟩ ?_
          · obtain ⟨_, hp⟩ := hp
            refine st_move hf rfl rfl (by decide) ?_
            clear hf; intro a ha hf
            exact st_nil hf (th_n ⟨ha, rfl⟩)
          clear hf; intro a hf
          refine dr_take 5 (.int .i64 i5) rfl (by kernel_rfl) (by kernel_rfl) (by kernel_rfl) (by kernel_rfl) rfl rfl hf (by decide) rfl (fun w hp => ?_) ⟨_, hp⟩ ?_
          · obtain ⟨_, hp⟩ := hp
            refine st_move hf rfl rfl (by decide) ?_
            clear hf; intro a ha hf
            exact st_nil hf (th_n ⟨ha, rfl⟩)
          clear hf; intro a hf
          refine dr_take 6 (eptr vb1 i5 1) rfl (by kernel_rfl) (by kernel_rfl) (by kernel_rfl) (by kernel_rfl) rfl rfl hf (by decide) rfl (fun w hp => ?_) ⟨_, hp⟩ ?_
          · obtain ⟨_, hp⟩ := hp
            refine st_index (E := (Ek.int .i64)) hf (by decide) Try.underlying22 elt3 rfl rfl rfl (hb1.sl hp) hc2.1 hc2.2 ?_
            clear hf; intro a ha hf
            exact st_nil hf (th_n ⟨ha, rfl⟩)
          clear hf; intro a hf
          refine dr_take 7 (.int .i64 (gt b1 i5)) rfl (by kernel_rfl) (by kernel_rfl) (by kernel_rfl) (by kernel_rfl) rfl rfl hf (by decide) rfl (fun w hp => ?_) ⟨_, hp⟩ ?_
          · obtain ⟨_, hp⟩ := hp
            refine st_ldI hf (by decide) pl3 rfl rfl (hb1.sl hp) hc2.1 hc2.2 ?_
            clear hf; intro a ha hf
            exact st_nil hf (th_n ⟨ha, rfl⟩)
          clear hf; intro a hf
          refine dr_take 8 (.bool ((gt a0 i5) != (gt b1 i5))) rfl (by kernel_rfl) (by kernel_rfl) (by kernel_rfl) (by kernel_rfl) rfl rfl hf (by decide) rfl (fun w hp => ?_) ⟨_, hp⟩ ?_
          · obtain ⟨_, hp⟩ := hp
            refine st_ineq hf (by decide) rfl rfl rfl ?_
            clear hf; intro a ha hf
            exact st_nil hf (th_n ⟨ha, rfl⟩)
          clear hf; intro a hf
          refine dr_end (by kernel_rfl) ?_ _
          exact ⟨hf.sub ⟨rfl, rfl, rfl, rfl, trivial⟩, hp⟩
        · rintro a w ⟨hf, hp⟩
          refine th_n ?_
          refine wp_if hf rfl (fun hb => ?_) (fun hb => ?_)
          · replace h := ifT h hb
            refine wp_seq ?_
            refine wp_reg ?_
            refine st_assign hf rfl rfl (by decide) ?_
            clear hf; intro a ha hf; clear ha
            refine st_nil hf ?_
            refine th_n ?_
            refine wp_ret ?_
            refine ib_r ?_
            refine th_r ?_
            obtain rfl := Option.some.inj h
            exact rnd_r (by simp) ⟨rfl, ⟨hf.sub ⟨rfl, trivial⟩, hp⟩⟩
          · replace h := ifF h hb
            refine wp_skip ?_
            refine ib_n ?_
            refine th_n ?_
            refine wp_reg ?_
            refine st_move hf rfl rfl (by decide) ?_
            clear hf; intro a ha hf; clear ha
            refine st_iadd hf (by decide) rfl rfl rfl ?_
            clear hf; intro a ha hf; clear ha
            refine st_assign hf rfl rfl (by decide) ?_
            clear hf; intro a ha hf; clear ha
            refine st_nil hf ?_
            obtain rfl := Option.some.inj h
            exact rnd_l ⟨hf.sub ⟨rfl, rfl, rfl, trivial⟩, hp⟩
      · replace h := ifF h hb
        refine wp_exit ?_
        refine th_e ?_
        obtain rfl := Option.some.inj h
        exact rnd_r (by simp) ⟨rfl, hf.sub trivial, hp⟩
    · clear hl hf hp
      intro e a w hne hO
      cases q3 with
      | inl q4 =>
        replace h := smL h
        obtain ⟨rfl, hf, hp⟩ := hO
        refine ib_same ?_
        refine th_n ?_
        refine wp_seq ?_
        refine wp_reg ?_
        refine st_assign hf rfl rfl (by decide) ?_
        clear hf; intro a ha hf; clear ha
        refine st_nil hf ?_
        refine th_n ?_
        refine wp_ret ?_
        obtain rfl := Option.some.inj h
        exact ⟨rfl, ⟨hf.sub ⟨rfl, trivial⟩, hp⟩⟩
      | inr q5 =>
        replace h := smR h
        obtain ⟨rfl, hf, hp⟩ := hO
        refine ib_r ?_
        refine th_r ?_
        obtain rfl := Option.some.inj h
        exact ⟨rfl, ⟨hf.sub ⟨rfl, trivial⟩, hp⟩⟩

noncomputable def f_foghornref17_Lists.s1c (a0 : (List (List Int))) (b1 : (List (List Int))) (i5 : Int) : Option (Int ⊕ (Unit ⊕ Bool)) := (if (decide (i5 < (a0.length : Int))) = true then (if 0 ≤ i5 ∧ i5 < (a0.length : Int) then (if 0 ≤ i5 ∧ i5 < (b1.length : Int) then ((f_foghornref17_Numbers (gt a0 i5) (gt b1 i5)).bind fun q3 => (if (!q3) = true then (some (Sum.inr (Sum.inr false))) else (some (Sum.inl (IntKind.i64.wrap (i5 + (1 : Int))))))) else none) else none) else (some (Sum.inr (Sum.inl ()))))
noncomputable def f_foghornref17_Lists.s1 (a0 : (List (List Int))) (b1 : (List (List Int))) (s : Int) : Option (Int ⊕ (Unit ⊕ Bool)) := f_foghornref17_Lists.s1c a0 b1 s
noncomputable def f_foghornref17_Lists (a0 : (List (List Int))) (b1 : (List (List Int))) : Option Bool := (if ((a0.length : Int) != (b1.length : Int)) = true then (some false) else ((loop (f_foghornref17_Lists.s1 a0 b1) (0 : Int)).bind (fun q5 => sm q5 (fun q6 => (some true)) (fun q7 => (some q7)))))
theorem f_foghornref17_Lists_c {S : Nat → Prop} {w0 w : World} {ow : List Res} (hp : Hp S w0 w ow) (va0 : Value) (sa0 : List Value) (a0 : (List (List Int))) (ha0 : RdR (RowK.sl (Ek.int .i64) 3) S w0 va0 sa0 (a0.map some)) (vb1 : Value) (sb1 : List Value) (b1 : (List (List Int))) (hb1 : RdR (RowK.sl (Ek.int .i64) 3) S w0 vb1 sb1 (b1.map some)) {r : Bool} (h : f_foghornref17_Lists a0 b1 = some r) :
    Calls Try.prog 14 #[va0, vb1] w (fun e w' => e = .returned (.bool r) ∧ Hp S w0 w' (ow)) := by
  unfold f_foghornref17_Lists at h
  refine enter (n := 27) (args := [va0, vb1]) Try.func14 rfl rfl (Nat.le_of_ble_eq_true rfl) fun a hf => ?_
  replace hf : Fr 27 a [(0, va0), (1, vb1)] := hf
  refine wp_mono (Q := fun e a w => e = .ret ∧ Fr 27 a [(4, .bool r)] ∧ Hp S w0 w (ow)) ?_ ?_
  rotate_left
  · rintro e a w ⟨rfl, hf, hp⟩
    exact ret1 hf rfl rfl ⟨rfl, hp⟩
  refine wp_seq ?_
  refine wp_reg ?_
  refine st_assign hf rfl rfl (by decide) ?_
  clear hf; intro a ha hf; clear ha
  refine st_nil hf ?_
  refine th_n ?_
  refine wp_seq ?_
  refine wp_seq ?_
  refine wp_reg ?_
  refine st_move hf rfl rfl (by decide) ?_
  clear hf; intro a ha hf; clear ha
  refine st_lenV hf (by decide) Try.underlying23 rfl rfl (ha0.ob hp).shapeVY ?_
  clear hf; intro a ha hf; clear ha
  refine st_move hf rfl rfl (by decide) ?_
  clear hf; intro a ha hf; clear ha
  refine st_lenV hf (by decide) Try.underlying23 rfl rfl (hb1.ob hp).shapeVY ?_
  clear hf; intro a ha hf; clear ha
  refine st_ineq hf (by decide) rfl rfl rfl ?_
  clear hf; intro a ha hf; clear ha
  refine st_nil hf ?_
  refine th_n ?_
  refine wp_if hf rfl (fun hb => ?_) (fun hb => ?_)
  · replace h := ifT h hb
    refine wp_seq ?_
    refine wp_reg ?_
    refine st_assign hf rfl rfl (by decide) ?_
    clear hf; intro a ha hf; clear ha
    refine st_nil hf ?_
    refine th_n ?_
    refine wp_ret ?_
    refine th_r ?_
    obtain rfl := Option.some.inj h
    exact ⟨rfl, ⟨hf.sub ⟨rfl, trivial⟩, hp⟩⟩
  · replace h := ifF h hb
    refine wp_skip ?_
    refine th_n ?_
    refine wp_seq ?_
    refine wp_seq ?_
    refine wp_reg ?_
    refine st_assign hf rfl rfl (by decide) ?_
    clear hf; intro a ha hf; clear ha
    refine st_nil hf ?_
    refine th_n ?_
    refine wp_block ?_
    obtain ⟨q5, hl, h⟩ := bnd h
    refine wp_loop_pure (f := (f_foghornref17_Lists.s1 a0 b1)) (s := (0 : Int)) (fun s a w => Fr 27 a [(0, va0), (1, vb1), (5, .int .i64 s)] ∧ Hp S w0 w (ow)) (fun q e a w => match q with | (Sum.inl q) => e = .exit 0 ∧ Fr 27 a [] ∧ Hp S w0 w (ow) | (Sum.inr q) => e = .ret ∧ Fr 27 a [(4, .bool q)] ∧ Hp S w0 w (ow)) ?_ hl ⟨hf.sub ⟨rfl, rfl, rfl, trivial⟩, hp⟩ ?_
    · clear hl hf hp
      intro s x a w h hI
      obtain ⟨i5, hs⟩ : ∃ z, z = s := ⟨s, rfl⟩; subst hs
      obtain ⟨hf, hp⟩ : Fr 27 a [(0, va0), (1, vb1), (5, .int .i64 i5)] ∧ Hp S w0 w (ow) := hI
      replace h : f_foghornref17_Lists.s1c a0 b1 i5 = some x := h
      unfold f_foghornref17_Lists.s1c at h
      refine wp_seq ?_
      refine wp_seq ?_
      refine wp_reg ?_
      refine st_move hf rfl rfl (by decide) ?_
      clear hf; intro a ha hf; clear ha
      refine st_move hf rfl rfl (by decide) ?_
      clear hf; intro a ha hf; clear ha
      refine st_lenV hf (by decide) Try.underlying23 rfl rfl (ha0.ob hp).shapeVY ?_
      clear hf; intro a ha hf; clear ha
      refine st_ilss hf (by decide) rfl rfl rfl ?_
      clear hf; intro a ha hf; clear ha
      refine st_nil hf ?_
      refine th_n ?_
      refine wp_if hf rfl (fun hb => ?_) (fun hb => ?_)
      · replace h := ifT h hb
        refine wp_skip ?_
        refine th_n ?_
        refine wp_seq ?_
        refine wp_block ?_
        refine wp_seq ?_
        obtain ⟨hc1, h⟩ := chk h
        obtain ⟨hc2, h⟩ := chk h
        obtain ⟨q3, hcall4, h⟩ := bnd h
        refine wp_cutN (fun a w => Fr 27 a [(0, va0), (1, vb1), (5, .int .i64 i5), (26, .bool (!q3))] ∧ Hp S w0 w (ow)) ?_ ?_
        · have hp := hp.same (Same.drew w)
          refine dr_begin' (fun a w => Fr 27 a [(0, va0), (1, vb1), (5, .int .i64 i5), (26, .bool (!q3))] ∧ Hp S w0 w (ow)) (fun w' => ∃ l, Hp S w0 w' l) [] (by kernel_rfl) ?_
          refine dr_take 0 (va0) rfl (by kernel_rfl) (by kernel_rfl) (by kernel_rfl) (by kernel_rfl) rfl rfl hf (by decide) rfl (fun w hp => ?_) ⟨_, hp⟩ ?_
          · obtain ⟨_, hp⟩ := hp
            refine st_move hf rfl rfl (by decide) ?_
            clear hf; intro a ha hf
            exact st_nil hf (th_n ⟨ha, rfl⟩)
          clear hf; intro a hf
          refine dr_take 1 (.int .i64 i5) rfl (by kernel_rfl) (by kernel_rfl) (by kernel_rfl) (by kernel_rfl) rfl rfl hf (by decide) rfl (fun w hp => ?_) ⟨_, hp⟩ ?_
          · obtain ⟨_, hp⟩ := hp
            refine st_move hf rfl rfl (by decide) ?_
            clear hf; intro a ha hf
            exact st_nil hf (th_n ⟨ha, rfl⟩)
          clear hf; intro a hf
          refine dr_take 2 (eptr va0 i5 1) rfl (by kernel_rfl) (by kernel_rfl) (by kernel_rfl) (by kernel_rfl) rfl rfl hf (by decide) rfl (fun w hp => ?_) ⟨_, hp⟩ ?_
          · obtain ⟨_, hp⟩ := hp
            refine st_indexV (E := Ek.val) (m := a0.length) hf (by decide) Try.underlying23 eltv22 rfl rfl rfl (ha0.ob hp).shapeNY hc1.1 hc1.2 ?_
            clear hf; intro a ha hf
            exact st_nil hf (th_n ⟨ha, rfl⟩)
          clear hf; intro a hf
          refine dr_take 3 ((gtv sa0 i5)) rfl (by kernel_rfl) (by kernel_rfl) (by kernel_rfl) (by kernel_rfl) rfl rfl hf (by decide) rfl (fun w hp => ?_) ⟨_, hp⟩ ?_
          · obtain ⟨_, hp⟩ := hp
            refine st_ldRY hf (by decide) pl22 rfl rfl (ha0.ob hp) hc1.1 hc1.2 ?_
            clear hf; intro a ha hf
            exact st_nil hf (th_n ⟨ha, rfl⟩)
          clear hf; intro a hf
          refine dr_take 4 (vb1) rfl (by kernel_rfl) (by kernel_rfl) (by kernel_rfl) (by kernel_rfl) rfl rfl hf (by decide) rfl (fun w hp => ?_) ⟨_, hp⟩ ?_
          · obtain ⟨_, hp⟩ := hp
            refine st_move hf rfl rfl (by decide) ?_
            clear hf; intro a ha hf
            exact st_nil hf (th_n ⟨ha, rfl⟩)
          clear hf; intro a hf
          refine dr_take 5 (.int .i64 i5) rfl (by kernel_rfl) (by kernel_rfl) (by kernel_rfl) (by kernel_rfl) rfl rfl hf (by decide) rfl (fun w hp => ?_) ⟨_, hp⟩ ?_
          · obtain ⟨_, hp⟩ := hp
            refine st_move hf rfl rfl (by decide) ?_
            clear hf; intro a ha hf
            exact st_nil hf (th_n ⟨ha, rfl⟩)
          clear hf; intro a hf
          refine dr_take 6 (eptr vb1 i5 1) rfl (by kernel_rfl) (by kernel_rfl) (by kernel_rfl) (by kernel_rfl) rfl rfl hf (by decide) rfl (fun w hp => ?_) ⟨_, hp⟩ ?_
          · obtain ⟨_, hp⟩ := hp
            refine st_indexV (E := Ek.val) (m := b1.length) hf (by decide) Try.underlying23 eltv22 rfl rfl rfl (hb1.ob hp).shapeNY hc2.1 hc2.2 ?_
            clear hf; intro a ha hf
            exact st_nil hf (th_n ⟨ha, rfl⟩)
          clear hf; intro a hf
          refine dr_take 7 ((gtv sb1 i5)) rfl (by kernel_rfl) (by kernel_rfl) (by kernel_rfl) (by kernel_rfl) rfl rfl hf (by decide) rfl (fun w hp => ?_) ⟨_, hp⟩ ?_
          · obtain ⟨_, hp⟩ := hp
            refine st_ldRY hf (by decide) pl22 rfl rfl (hb1.ob hp) hc2.1 hc2.2 ?_
            clear hf; intro a ha hf
            exact st_nil hf (th_n ⟨ha, rfl⟩)
          clear hf; intro a hf
          refine dr_one 8 rfl (by kernel_rfl) ?_
          refine st_call hf (by decide) Try.func15 rfl rfl rfl rfl rfl (f_foghornref17_Numbers_c hp _ _ (RdR.rowS ha0 hc1.1 hc1.2) _ _ (RdR.rowS hb1 hc2.1 hc2.2) hcall4) ?_
          rintro _ w ⟨rfl, hp0⟩
          clear hp; have hp := hp0; clear hp0
          replace hp : Hp _ _ w (ow) := hp
          refine ⟨_, rfl, ?_⟩
          clear hf; intro a hf
          refine st_nil hf (th_n ⟨fun _ _ => ⟨_, hp⟩, ?_⟩)
          refine dr_take 9 (.bool (!q3)) rfl (by kernel_rfl) (by kernel_rfl) (by kernel_rfl) (by kernel_rfl) rfl rfl hf (by decide) rfl (fun w hp => ?_) ⟨_, hp⟩ ?_
          · obtain ⟨_, hp⟩ := hp
            refine st_not hf (by decide) rfl rfl ?_
            clear hf; intro a ha hf
            exact st_nil hf (th_n ⟨ha, rfl⟩)
          clear hf; intro a hf
          refine dr_end (by kernel_rfl) ?_ _
          exact ⟨hf.sub ⟨rfl, rfl, rfl, rfl, trivial⟩, hp⟩
        · rintro a w ⟨hf, hp⟩
          refine th_n ?_
          refine wp_if hf rfl (fun hb => ?_) (fun hb => ?_)
          · replace h := ifT h hb
            refine wp_seq ?_
            refine wp_reg ?_
            refine st_assign hf rfl rfl (by decide) ?_
            clear hf; intro a ha hf; clear ha
            refine st_nil hf ?_
            refine th_n ?_
            refine wp_ret ?_
            refine ib_r ?_
            refine th_r ?_
            obtain rfl := Option.some.inj h
            exact rnd_r (by simp) ⟨rfl, ⟨hf.sub ⟨rfl, trivial⟩, hp⟩⟩
          · replace h := ifF h hb
            refine wp_skip ?_
            refine ib_n ?_
            refine th_n ?_
            refine wp_reg ?_
            refine st_move hf rfl rfl (by decide) ?_
            clear hf; intro a ha hf; clear ha
            refine st_iadd hf (by decide) rfl rfl rfl ?_
            clear hf; intro a ha hf; clear ha
            refine st_assign hf rfl rfl (by decide) ?_
            clear hf; intro a ha hf; clear ha
            refine st_nil hf ?_
            obtain rfl := Option.some.inj h
            exact rnd_l ⟨hf.sub ⟨rfl, rfl, rfl, trivial⟩, hp⟩
      · replace h := ifF h hb
        refine wp_exit ?_
        refine th_e ?_
        obtain rfl := Option.some.inj h
        exact rnd_r (by simp) ⟨rfl, hf.sub trivial, hp⟩
    · clear hl hf hp
      intro e a w hne hO
      cases q5 with
      | inl q6 =>
        replace h := smL h
        obtain ⟨rfl, hf, hp⟩ := hO
        refine ib_same ?_
        refine th_n ?_
        refine wp_seq ?_
        refine wp_reg ?_
        refine st_assign hf rfl rfl (by decide) ?_
        clear hf; intro a ha hf; clear ha
        refine st_nil hf ?_
        refine th_n ?_
        refine wp_ret ?_
        obtain rfl := Option.some.inj h
        exact ⟨rfl, ⟨hf.sub ⟨rfl, trivial⟩, hp⟩⟩
      | inr q7 =>
        replace h := smR h
        obtain ⟨rfl, hf, hp⟩ := hO
        refine ib_r ?_
        refine th_r ?_
        obtain rfl := Option.some.inj h
        exact ⟨rfl, ⟨hf.sub ⟨rfl, trivial⟩, hp⟩⟩

noncomputable def f_foghornlaw17_WeaveMarks.s2c (l16 : (List Int)) (k17 : Int) : Option (((List Int) × Int) ⊕ (List Int)) := (if (decide (k17 < (l16.length : Int))) = true then (if 0 ≤ k17 ∧ k17 < (l16.length : Int) then (some (Sum.inl ((l16.set (k17).toNat (-1 : Int)), (IntKind.i64.wrap (k17 + (1 : Int)))))) else none) else (some (Sum.inr l16)))
noncomputable def f_foghornlaw17_WeaveMarks.s2  (s : ((List Int) × Int)) : Option (((List Int) × Int) ⊕ (List Int)) := f_foghornlaw17_WeaveMarks.s2c s.1 s.2
noncomputable def f_foghornlaw17_WeaveMarks.s3c (l16 : (List Int)) (k18 : Int) : Option (((List Int) × Int) ⊕ (List Int)) := (if (decide (k18 < (20 : Int))) = true then (if (l16.length + ([(-2 : Int)]).length) * 8 ≤ 140737488355328 then (some (Sum.inl ((l16 ++ [(-2 : Int)]), (IntKind.i64.wrap (k18 + (1 : Int)))))) else none) else (some (Sum.inr l16)))
noncomputable def f_foghornlaw17_WeaveMarks.s3  (s : ((List Int) × Int)) : Option (((List Int) × Int) ⊕ (List Int)) := f_foghornlaw17_WeaveMarks.s3c s.1 s.2
noncomputable def f_foghornlaw17_WeaveMarks.s1c (q12 : ((List (List Int)) × Int)) (q27 : ((List (List Int)) × Int)) (a11 : (List (Option (List Int)))) (i15 : Int) : Option (((List (Option (List Int))) × Int) ⊕ (Unit ⊕ Bool)) := (if (decide (i15 < (a11.length : Int))) = true then (if 0 ≤ i15 ∧ i15 < (a11.length : Int) then ((gtO a11 i15).bind fun q90 => ((loop f_foghornlaw17_WeaveMarks.s2 (q90, (0 : Int))).bind (fun q98 => ((loop f_foghornlaw17_WeaveMarks.s3 (q98, (0 : Int))).bind (fun q107 => ((if (decide ((q107.length : Int) < (20 : Int))) = true then (some true) else (if 0 ≤ (IntKind.i64.wrap (i15 + (1 : Int))) ∧ (IntKind.i64.wrap (i15 + (1 : Int))) ≤ ((a11.set (i15).toNat none).length : Int) then ((allS (((a11.set (i15).toNat none).drop (((IntKind.i64.wrap (i15 + (1 : Int)))).toNat)).take ((a11.set (i15).toNat none).length - ((IntKind.i64.wrap (i15 + (1 : Int)))).toNat))).bind fun q131 => (if 0 ≤ (IntKind.i64.wrap (i15 + (1 : Int))) ∧ (IntKind.i64.wrap (i15 + (1 : Int))) ≤ (q12.1.length : Int) then ((f_foghornref17_Lists q131 ((q12.1.drop (((IntKind.i64.wrap (i15 + (1 : Int)))).toNat)).take (q12.1.length - ((IntKind.i64.wrap (i15 + (1 : Int)))).toNat))).bind fun q136 => (some (!q136))) else none)) else none)).bind fun z138 => ((if z138 = true then (some true) else ((f_foghornref17_Lists q27.1 q12.1).bind fun q141 => (some (!q141)))).bind fun z148 => (if z148 = true then (some (Sum.inr (Sum.inr false))) else (some (Sum.inl ((a11.set (i15).toNat none), (IntKind.i64.wrap (i15 + (1 : Int)))))))))))))) else none) else (some (Sum.inr (Sum.inl ()))))
noncomputable def f_foghornlaw17_WeaveMarks.s1 (q12 : ((List (List Int)) × Int)) (q27 : ((List (List Int)) × Int)) (s : ((List (Option (List Int))) × Int)) : Option (((List (Option (List Int))) × Int) ⊕ (Unit ⊕ Bool)) := f_foghornlaw17_WeaveMarks.s1c q12 q27 s.1 s.2
noncomputable def f_foghornlaw17_WeaveMarks (lost0 : (List Int)) (count1 : Int) (length2 : Int) : Option Bool := (if (([] : List Int).length + lost0.length) * 8 ≤ 140737488355328 then (if ((([] : List Int) ++ lost0).length + ([(987 : Int)]).length) * 8 ≤ 140737488355328 then (if 0 ≤ (lost0.length : Int) ∧ (lost0.length : Int) ≤ ((((([] : List Int) ++ lost0) ++ [(987 : Int)]) ++ ([] : List Int)).length : Int) then ((f_foghornref17_Marks lost0 count1 length2).bind fun q12 => ((f_weave_Marks ((((([] : List Int) ++ lost0) ++ [(987 : Int)]) ++ ([] : List Int)).take (((lost0.length : Int)).toNat)) count1 length2).bind fun q17 => ((f_weave_Marks ((((([] : List Int) ++ lost0) ++ [(987 : Int)]) ++ ([] : List Int)).take (((lost0.length : Int)).toNat)) count1 length2).bind fun q27 => ((if ((q17.2 != q12.2) || (q27.2 != q12.2)) = true then (some true) else ((f_foghornref17_Lists q17.1 q12.1).bind fun q42 => (some (!q42)))).bind fun z41 => ((if z41 = true then (some true) else ((f_foghornref17_Lists q27.1 q12.1).bind fun q57 => (some (!q57)))).bind fun z56 => ((if z56 = true then (some true) else ((f_foghornref17_Numbers ((((([] : List Int) ++ lost0) ++ [(987 : Int)]) ++ ([] : List Int)).take (((lost0.length : Int)).toNat)) lost0).bind fun q72 => (some (!q72)))).bind fun z71 => ((if z71 = true then (some true) else (if 0 ≤ (IntKind.i64.wrap ((lost0.length : Int) + (1 : Int))) ∧ (IntKind.i64.wrap ((lost0.length : Int) + (1 : Int))) ≤ ((((((([] : List Int) ++ lost0) ++ [(987 : Int)]) ++ ([] : List Int)).take (((lost0.length : Int)).toNat)) ++ ((((([] : List Int) ++ lost0) ++ [(987 : Int)]) ++ ([] : List Int)).drop (((lost0.length : Int)).toNat))).length : Int) then (if 0 ≤ (lost0.length : Int) ∧ (lost0.length : Int) < (((((((([] : List Int) ++ lost0) ++ [(987 : Int)]) ++ ([] : List Int)).take (((lost0.length : Int)).toNat)) ++ ((((([] : List Int) ++ lost0) ++ [(987 : Int)]) ++ ([] : List Int)).drop (((lost0.length : Int)).toNat))).take (((IntKind.i64.wrap ((lost0.length : Int) + (1 : Int)))).toNat)).length : Int) then (some ((gt ((((((([] : List Int) ++ lost0) ++ [(987 : Int)]) ++ ([] : List Int)).take (((lost0.length : Int)).toNat)) ++ ((((([] : List Int) ++ lost0) ++ [(987 : Int)]) ++ ([] : List Int)).drop (((lost0.length : Int)).toNat))).take (((IntKind.i64.wrap ((lost0.length : Int) + (1 : Int)))).toNat)) (lost0.length : Int)) != (987 : Int))) else none) else none)).bind fun z81 => (if z81 = true then (some false) else ((loop (f_foghornlaw17_WeaveMarks.s1 q12 q27) ((q17.1.map some), (0 : Int))).bind (fun q149 => sm q149 (fun q150 => (some true)) (fun q151 => (some q151)))))))))))) else none) else none) else none)
theorem f_foghornlaw17_WeaveMarks_c {S : Nat → Prop} {w0 w : World} {ow : List Res} (hp : Hp S w0 w ow) (vlost0 : Value) (lost0 : (List Int)) (hlost0 : RdS (Ek.int .i64) S w0 vlost0 lost0) (count1 : Int) (length2 : Int) {r : Bool} (h : f_foghornlaw17_WeaveMarks lost0 count1 length2 = some r) :
    Calls Try.prog 3 #[vlost0, .int .i64 count1, .int .i64 length2] w (fun e w' => e = .returned (.bool r) ∧ Hp S w0 w' (ow)) := by
  unfold f_foghornlaw17_WeaveMarks at h
  refine enter (n := 132) (args := [vlost0, .int .i64 count1, .int .i64 length2]) Try.func3 rfl rfl (Nat.le_of_ble_eq_true rfl) fun a hf => ?_
  replace hf : Fr 132 a [(0, vlost0), (1, .int .i64 count1), (2, .int .i64 length2)] := hf
  refine wp_mono (Q := fun e a w => e = .ret ∧ Fr 132 a [(6, .bool r)] ∧ Hp S w0 w (ow)) ?_ ?_
  rotate_left
  · rintro e a w ⟨rfl, hf, hp⟩
    exact ret1 hf rfl rfl ⟨rfl, hp⟩
  refine wp_seq ?_
  refine wp_reg ?_
  refine st_assign hf rfl rfl (by decide) ?_
  clear hf; intro a ha hf; clear ha
  refine st_nil hf ?_
  refine th_n ?_
  refine wp_seq ?_
  refine wp_reg ?_
  refine st_move hf rfl rfl (by decide) ?_
  clear hf; intro a ha hf; clear ha
  refine st_len (E := (Ek.int .i64)) hf (by decide) Try.underlying22 rfl rfl (hlost0.sl hp) ?_
  clear hf; intro a ha hf; clear ha
  refine st_assign hf rfl rfl (by decide) ?_
  clear hf; intro a ha hf; clear ha
  refine st_nil hf ?_
  refine th_n ?_
  refine wp_seq ?_
  refine wp_reg ?_
  refine st_build0 (E := (Ek.int .i64)) hf (by decide) elt3 Try.underlying22 hp rfl ?_
  clear hf; intro a w v1 hf hp0; clear hp; have hp := hp0; clear hp0
  replace hp : Hp _ _ w (Res.sl (Ek.int .i64) 3 v1 ([] : List Int) :: ow) := hp
  refine st_move hf rfl rfl (by decide) ?_
  clear hf; intro a ha hf; clear ha
  obtain ⟨hc3, h⟩ := chk h
  refine st_append (E := (Ek.int .i64)) hf (by decide) elt3 Try.underlying22 (by decide) hp (i := 0) rfl rfl rfl rfl (hlost0.sl hp) hc3 ?_
  clear hf; intro a w v4 hf hp0; clear hp; have hp := hp0; clear hp0
  replace hp : Hp _ _ w (Res.sl (Ek.int .i64) 3 v4 (([] : List Int) ++ lost0) :: ow) := hp
  refine st_build (E := (Ek.int .i64)) (xs := [(987 : Int)]) hf (by decide) elt3 Try.underlying22 hp (vals := #[(0, .int .i64 (987 : Int))]) (cells := #[.int .i64 (987 : Int)]) rfl (by simp [hf.ev (x := (Operand.const (.int .i64 (987 : Int)))) rfl]) (by decide) (by decide) (z := .int .i64 0) (by kernel_rfl) (by kernel_rfl) rfl (reps_cons (cs := [.int .i64 (987 : Int)]) rfl (reps_nil _)) ?_
  clear hf; intro a w v5 hf hp0; clear hp; have hp := hp0; clear hp0
  replace hp : Hp _ _ w (Res.sl (Ek.int .i64) 3 v5 ([(987 : Int)]) :: Res.sl (Ek.int .i64) 3 v4 (([] : List Int) ++ lost0) :: ow) := hp
  obtain ⟨hc7, h⟩ := chk h
  refine st_append (E := (Ek.int .i64)) hf (by decide) elt3 Try.underlying22 (by decide) hp (i := 1) rfl rfl rfl rfl (hp.sl (i := 0) rfl) hc7 ?_
  clear hf; intro a w v8 hf hp0; clear hp; have hp := hp0; clear hp0
  replace hp : Hp _ _ w (Res.sl (Ek.int .i64) 3 v5 ([(987 : Int)]) :: Res.sl (Ek.int .i64) 3 v8 ((([] : List Int) ++ lost0) ++ [(987 : Int)]) :: ow) := hp
  refine st_move hf rfl rfl (by decide) ?_
  clear hf; intro a ha hf; clear ha
  obtain ⟨hc9, h⟩ := chk h
  have hc10 : 0 ≤ ((lost0.length : Int)).toNat := by omega
  have hc11 : ((lost0.length : Int)).toNat ≤ (((([] : List Int) ++ lost0) ++ [(987 : Int)]) ++ ([] : List Int)).length := by omega
  refine st_cutX (E := (Ek.int .i64)) hf (by decide) Try.underlying22 elt3 hp (i := 1) rfl rfl rfl (.inl ⟨rfl, rfl⟩) (.inr ⟨_, _, rfl, evI rfl (by omega)⟩) hc10 hc11 ?_
  clear hf; intro a ha hf; clear ha
  replace hp : Hp _ _ w (Res.sl (Ek.int .i64) 3 v5 ([(987 : Int)]) :: Res.slx (Ek.int .i64) 3 (GL.cut v8 0 (((lost0.length : Int)).toNat) 1) ((((([] : List Int) ++ lost0) ++ [(987 : Int)]) ++ ([] : List Int)).take (((lost0.length : Int)).toNat)) ((((([] : List Int) ++ lost0) ++ [(987 : Int)]) ++ ([] : List Int)).drop (((lost0.length : Int)).toNat)) :: ow) := hp.cutOwn (i := 1) rfl hc11
  refine st_assign hf rfl rfl (by decide) ?_
  clear hf; intro a ha hf; clear ha
  refine st_nil hf ?_
  refine th_n ?_
  refine wp_seq ?_
  refine wp_reg ?_
  refine st_move hf rfl rfl (by decide) ?_
  clear hf; intro a ha hf; clear ha
  refine st_move hf rfl rfl (by decide) ?_
  clear hf; intro a ha hf; clear ha
  refine st_move hf rfl rfl (by decide) ?_
  clear hf; intro a ha hf; clear ha
  obtain ⟨q12, hcall13, h⟩ := bnd h
  refine st_call hf (by decide) Try.func12 rfl rfl rfl rfl rfl (f_foghornref17_Marks_c hp _ _ hlost0 _ _ hcall13) ?_
  rintro _ w ⟨v14, v15, rfl, hp0⟩
  clear hp; have hp := hp0; clear hp0
  replace hp : Hp _ _ w (Res.rows (RowK.sl (Ek.int .i64) 3) 22 v14 v15 q12.1 :: Res.sl (Ek.int .i64) 3 v5 ([(987 : Int)]) :: Res.slx (Ek.int .i64) 3 (GL.cut v8 0 (((lost0.length : Int)).toNat) 1) ((((([] : List Int) ++ lost0) ++ [(987 : Int)]) ++ ([] : List Int)).take (((lost0.length : Int)).toNat)) ((((([] : List Int) ++ lost0) ++ [(987 : Int)]) ++ ([] : List Int)).drop (((lost0.length : Int)).toNat)) :: ow) := hp
  refine ⟨_, rfl, ?_⟩
  clear hf; intro a hf
  refine st_move hf rfl rfl (by decide) ?_
  clear hf; intro a ha hf; clear ha
  refine st_extract hf (by decide) rfl rfl rfl ?_
  clear hf; intro a ha hf; clear ha
  refine st_extract hf (by decide) rfl rfl rfl ?_
  clear hf; intro a ha hf; clear ha
  refine st_assign hf rfl rfl (by decide) ?_
  clear hf; intro a ha hf; clear ha
  refine st_assign hf rfl rfl (by decide) ?_
  clear hf; intro a ha hf; clear ha
  refine st_nil hf ?_
  refine th_n ?_
  refine wp_seq ?_
  refine wp_reg ?_
  refine st_move hf rfl rfl (by decide) ?_
  clear hf; intro a ha hf; clear ha
  refine st_move hf rfl rfl (by decide) ?_
  clear hf; intro a ha hf; clear ha
  refine st_move hf rfl rfl (by decide) ?_
  clear hf; intro a ha hf; clear ha
  obtain ⟨q17, hcall18, h⟩ := bnd h
  obtain ⟨S19, hp20, rd21, up22, bk23⟩ := Hp.lendS hp (i := 2) rfl
  refine st_call hf (by decide) Try.func13 rfl rfl rfl rfl rfl (f_weave_Marks_c hp20 _ _ rd21 _ _ hcall18) ?_
  rintro _ w ⟨v24, v25, rfl, hp0⟩
  have hp0 := bk23 _ _ hp0
  clear hp; have hp := hp0; clear hp0
  replace hp : Hp _ _ w (Res.slx (Ek.int .i64) 3 (GL.cut v8 0 (((lost0.length : Int)).toNat) 1) ((((([] : List Int) ++ lost0) ++ [(987 : Int)]) ++ ([] : List Int)).take (((lost0.length : Int)).toNat)) ((((([] : List Int) ++ lost0) ++ [(987 : Int)]) ++ ([] : List Int)).drop (((lost0.length : Int)).toNat)) :: Res.rows (RowK.sl (Ek.int .i64) 3) 22 v24 v25 q17.1 :: Res.rows (RowK.sl (Ek.int .i64) 3) 22 v14 v15 q12.1 :: Res.sl (Ek.int .i64) 3 v5 ([(987 : Int)]) :: ow) := hp
  refine ⟨_, rfl, ?_⟩
  clear hf; intro a hf
  refine st_move hf rfl rfl (by decide) ?_
  clear hf; intro a ha hf; clear ha
  refine st_extract hf (by decide) rfl rfl rfl ?_
  clear hf; intro a ha hf; clear ha
  refine st_extract hf (by decide) rfl rfl rfl ?_
  clear hf; intro a ha hf; clear ha
  refine st_assign hf rfl rfl (by decide) ?_
  clear hf; intro a ha hf; clear ha
  refine st_assign hf rfl rfl (by decide) ?_
  clear hf; intro a ha hf; clear ha
  refine st_nil hf ?_
  refine th_n ?_
  refine wp_seq ?_
  refine wp_reg ?_
  refine st_move hf rfl rfl (by decide) ?_
  clear hf; intro a ha hf; clear ha
  refine st_move hf rfl rfl (by decide) ?_
  clear hf; intro a ha hf; clear ha
  refine st_move hf rfl rfl (by decide) ?_
  clear hf; intro a ha hf; clear ha
  obtain ⟨q27, hcall28, h⟩ := bnd h
  obtain ⟨S29, hp30, rd31, up32, bk33⟩ := Hp.lendS hp (i := 0) rfl
  refine st_call hf (by decide) Try.func13 rfl rfl rfl rfl rfl (f_weave_Marks_c hp30 _ _ rd31 _ _ hcall28) ?_
  rintro _ w ⟨v34, v35, rfl, hp0⟩
  have hp0 := bk33 _ _ hp0
  clear hp; have hp := hp0; clear hp0
  replace hp : Hp _ _ w (Res.slx (Ek.int .i64) 3 (GL.cut v8 0 (((lost0.length : Int)).toNat) 1) ((((([] : List Int) ++ lost0) ++ [(987 : Int)]) ++ ([] : List Int)).take (((lost0.length : Int)).toNat)) ((((([] : List Int) ++ lost0) ++ [(987 : Int)]) ++ ([] : List Int)).drop (((lost0.length : Int)).toNat)) :: Res.rows (RowK.sl (Ek.int .i64) 3) 22 v34 v35 q27.1 :: Res.rows (RowK.sl (Ek.int .i64) 3) 22 v24 v25 q17.1 :: Res.rows (RowK.sl (Ek.int .i64) 3) 22 v14 v15 q12.1 :: Res.sl (Ek.int .i64) 3 v5 ([(987 : Int)]) :: ow) := hp
  refine ⟨_, rfl, ?_⟩
  clear hf; intro a hf
  refine st_move hf rfl rfl (by decide) ?_
  clear hf; intro a ha hf; clear ha
  refine st_extract hf (by decide) rfl rfl rfl ?_
  clear hf; intro a ha hf; clear ha
  refine st_extract hf (by decide) rfl rfl rfl ?_
  clear hf; intro a ha hf; clear ha
  refine st_assign hf rfl rfl (by decide) ?_
  clear hf; intro a ha hf; clear ha
  refine st_assign hf rfl rfl (by decide) ?_
  clear hf; intro a ha hf; clear ha
  refine st_nil hf ?_
  refine th_n ?_
  refine wp_seq ?_
  refine wp_seq ?_
  refine wp_reg ?_
  refine st_move hf rfl rfl (by decide) ?_
  clear hf; intro a ha hf; clear ha
  refine st_move hf rfl rfl (by decide) ?_
  clear hf; intro a ha hf; clear ha
  refine st_ineq hf (by decide) rfl rfl rfl ?_
  clear hf; intro a ha hf; clear ha
  refine st_move hf rfl rfl (by decide) ?_
  clear hf; intro a ha hf; clear ha
  refine wpList_cut 4 (fun a w => Fr 132 a [(0, vlost0), (7, .int .i64 (lost0.length : Int)), (8, (GL.cut v8 0 (((lost0.length : Int)).toNat) 1)), (9, v14), (11, v24), (13, v34), (56, .bool ((q17.2 != q12.2) || (q27.2 != q12.2)))] ∧ Hp S w0 w (Res.slx (Ek.int .i64) 3 (GL.cut v8 0 (((lost0.length : Int)).toNat) 1) ((((([] : List Int) ++ lost0) ++ [(987 : Int)]) ++ ([] : List Int)).take (((lost0.length : Int)).toNat)) ((((([] : List Int) ++ lost0) ++ [(987 : Int)]) ++ ([] : List Int)).drop (((lost0.length : Int)).toNat)) :: Res.rows (RowK.sl (Ek.int .i64) 3) 22 v34 v35 q27.1 :: Res.rows (RowK.sl (Ek.int .i64) 3) 22 v24 v25 q17.1 :: Res.rows (RowK.sl (Ek.int .i64) 3) 22 v14 v15 q12.1 :: Res.sl (Ek.int .i64) 3 v5 ([(987 : Int)]) :: ow)) ?_ ?_
  · rcases Bool.eq_false_or_eq_true (q17.2 != q12.2) with hb38 | hb38
    · skip
      refine st_skip hf (wantN hf rfl rfl hb38) rfl (by decide) ?_ rfl
      clear hf; intro a hf
      refine st_skip hf (wantN hf rfl rfl hb38) rfl (by decide) ?_ rfl
      clear hf; intro a hf
      refine st_skip hf (wantN hf rfl rfl hb38) rfl (by decide) ?_ rfl
      clear hf; intro a hf
      refine st_pick (v := .bool true) hf rfl rfl (fun hb' => ?_) (fun hb' => ?_) (by decide) ?_
      · rfl
      · exact absurd (hb38.symm.trans hb') (by decide)
      clear hf; intro a ha hf; clear ha
      refine st_nil hf (th_n ?_)
      exact ⟨hf.sub ⟨rfl, rfl, rfl, rfl, rfl, rfl, (by rw [hb38]; rfl), trivial⟩, hp⟩
    · skip
      refine st_move hf (wantY hf rfl rfl hb38) rfl (by decide) ?_
      clear hf; intro a ha hf; clear ha
      refine st_move hf (wantY hf rfl rfl hb38) rfl (by decide) ?_
      clear hf; intro a ha hf; clear ha
      refine st_ineq hf (by decide) (wantY hf rfl rfl hb38) rfl rfl ?_
      clear hf; intro a ha hf; clear ha
      refine st_pick (v := .bool (q27.2 != q12.2)) hf rfl rfl (fun hb' => ?_) (fun hb' => ?_) (by decide) ?_
      · exact absurd (hb38.symm.trans hb') (by decide)
      · rfl
      clear hf; intro a ha hf; clear ha
      refine st_nil hf (th_n ?_)
      exact ⟨hf.sub ⟨rfl, rfl, rfl, rfl, rfl, rfl, (by rw [hb38]; rfl), trivial⟩, hp⟩
  · rintro a w ⟨hf, hp⟩
    refine st_move hf rfl rfl (by decide) ?_
    clear hf; intro a ha hf; clear ha
    obtain ⟨z41, hz39, h⟩ := bnd h
    refine wpList_cut 5 (fun a w => Fr 132 a [(0, vlost0), (7, .int .i64 (lost0.length : Int)), (8, (GL.cut v8 0 (((lost0.length : Int)).toNat) 1)), (9, v14), (11, v24), (13, v34), (62, .bool z41)] ∧ Hp S w0 w (Res.slx (Ek.int .i64) 3 (GL.cut v8 0 (((lost0.length : Int)).toNat) 1) ((((([] : List Int) ++ lost0) ++ [(987 : Int)]) ++ ([] : List Int)).take (((lost0.length : Int)).toNat)) ((((([] : List Int) ++ lost0) ++ [(987 : Int)]) ++ ([] : List Int)).drop (((lost0.length : Int)).toNat)) :: Res.rows (RowK.sl (Ek.int .i64) 3) 22 v34 v35 q27.1 :: Res.rows (RowK.sl (Ek.int .i64) 3) 22 v24 v25 q17.1 :: Res.rows (RowK.sl (Ek.int .i64) 3) 22 v14 v15 q12.1 :: Res.sl (Ek.int .i64) 3 v5 ([(987 : Int)]) :: ow)) ?_ ?_
    · rcases Bool.eq_false_or_eq_true ((q17.2 != q12.2) || (q27.2 != q12.2)) with hb40 | hb40
      · skip
        replace hz39 := ifT hz39 hb40
        refine st_skip hf (wantN hf rfl rfl hb40) rfl (by decide) ?_ rfl
        clear hf; intro a hf
        refine st_skip hf (wantN hf rfl rfl hb40) rfl (by decide) ?_ rfl
        clear hf; intro a hf
        refine st_skip hf (wantN hf rfl rfl hb40) rfl (by decide) ?_ rfl
        clear hf; intro a hf
        refine st_skip hf (wantN hf rfl rfl hb40) rfl (by decide) ?_ rfl
        clear hf; intro a hf
        obtain rfl := Option.some.inj hz39
        refine st_pick (v := .bool true) hf rfl rfl (fun hb' => ?_) (fun hb' => ?_) (by decide) ?_
        · rfl
        · exact absurd (hb40.symm.trans hb') (by decide)
        clear hf; intro a ha hf; clear ha
        refine st_nil hf (th_n ?_)
        exact ⟨hf.sub ⟨rfl, rfl, rfl, rfl, rfl, rfl, rfl, trivial⟩, hp⟩
      · skip
        replace hz39 := ifF hz39 hb40
        refine st_move hf (wantY hf rfl rfl hb40) rfl (by decide) ?_
        clear hf; intro a ha hf; clear ha
        refine st_move hf (wantY hf rfl rfl hb40) rfl (by decide) ?_
        clear hf; intro a ha hf; clear ha
        obtain ⟨q42, hcall43, hz39⟩ := bnd hz39
        obtain ⟨S44, hp45, rd46, up47, bk48⟩ := Hp.lendR hp (i := 2) rfl
        obtain ⟨S49, hp50, rd51, up52, bk53⟩ := Hp.lendR hp45 (i := 2) rfl
        refine st_call hf (by decide) Try.func14 rfl rfl (wantY hf rfl rfl hb40) rfl rfl (f_foghornref17_Lists_c hp50 _ _ _ ((rd46.now hp45).mono up52) _ _ _ rd51 hcall43) ?_
        rintro _ w ⟨rfl, hp0⟩
        have hp0 := bk53 _ _ hp0
        have hp0 := bk48 _ _ hp0
        clear hp; have hp := hp0; clear hp0
        replace hp : Hp _ _ w (Res.rows (RowK.sl (Ek.int .i64) 3) 22 v24 v25 q17.1 :: Res.rows (RowK.sl (Ek.int .i64) 3) 22 v14 v15 q12.1 :: Res.slx (Ek.int .i64) 3 (GL.cut v8 0 (((lost0.length : Int)).toNat) 1) ((((([] : List Int) ++ lost0) ++ [(987 : Int)]) ++ ([] : List Int)).take (((lost0.length : Int)).toNat)) ((((([] : List Int) ++ lost0) ++ [(987 : Int)]) ++ ([] : List Int)).drop (((lost0.length : Int)).toNat)) :: Res.rows (RowK.sl (Ek.int .i64) 3) 22 v34 v35 q27.1 :: Res.sl (Ek.int .i64) 3 v5 ([(987 : Int)]) :: ow) := hp
        refine ⟨_, rfl, ?_⟩
        clear hf; intro a hf
        refine st_not hf (by decide) (wantY hf rfl rfl hb40) rfl ?_
        clear hf; intro a ha hf; clear ha
        obtain rfl := Option.some.inj hz39
        refine st_pick (v := .bool (!q42)) hf rfl rfl (fun hb' => ?_) (fun hb' => ?_) (by decide) ?_
        · exact absurd (hb40.symm.trans hb') (by decide)
        · rfl
        clear hf; intro a ha hf; clear ha
        refine st_nil hf (th_n ?_)
        have hp : Hp _ _ w (Res.slx (Ek.int .i64) 3 (GL.cut v8 0 (((lost0.length : Int)).toNat) 1) ((((([] : List Int) ++ lost0) ++ [(987 : Int)]) ++ ([] : List Int)).take (((lost0.length : Int)).toNat)) ((((([] : List Int) ++ lost0) ++ [(987 : Int)]) ++ ([] : List Int)).drop (((lost0.length : Int)).toNat)) :: Res.rows (RowK.sl (Ek.int .i64) 3) 22 v34 v35 q27.1 :: Res.rows (RowK.sl (Ek.int .i64) 3) 22 v24 v25 q17.1 :: Res.rows (RowK.sl (Ek.int .i64) 3) 22 v14 v15 q12.1 :: Res.sl (Ek.int .i64) 3 v5 ([(987 : Int)]) :: ow) := Hp.sel (pre := [Res.rows (RowK.sl (Ek.int .i64) 3) 22 v24 v25 q17.1, Res.rows (RowK.sl (Ek.int .i64) 3) 22 v14 v15 q12.1, Res.slx (Ek.int .i64) 3 (GL.cut v8 0 (((lost0.length : Int)).toNat) 1) ((((([] : List Int) ++ lost0) ++ [(987 : Int)]) ++ ([] : List Int)).take (((lost0.length : Int)).toNat)) ((((([] : List Int) ++ lost0) ++ [(987 : Int)]) ++ ([] : List Int)).drop (((lost0.length : Int)).toNat)), Res.rows (RowK.sl (Ek.int .i64) 3) 22 v34 v35 q27.1, Res.sl (Ek.int .i64) 3 v5 ([(987 : Int)])]) (tail := ow) (rs' := [Res.slx (Ek.int .i64) 3 (GL.cut v8 0 (((lost0.length : Int)).toNat) 1) ((((([] : List Int) ++ lost0) ++ [(987 : Int)]) ++ ([] : List Int)).take (((lost0.length : Int)).toNat)) ((((([] : List Int) ++ lost0) ++ [(987 : Int)]) ++ ([] : List Int)).drop (((lost0.length : Int)).toNat)), Res.rows (RowK.sl (Ek.int .i64) 3) 22 v34 v35 q27.1, Res.rows (RowK.sl (Ek.int .i64) 3) 22 v24 v25 q17.1, Res.rows (RowK.sl (Ek.int .i64) 3) 22 v14 v15 q12.1, Res.sl (Ek.int .i64) 3 v5 ([(987 : Int)])]) hp [2, 3, 0, 1, 4] (by decide) (by simp) rfl
        exact ⟨hf.sub ⟨rfl, rfl, rfl, rfl, rfl, rfl, rfl, trivial⟩, hp⟩
    · rintro a w ⟨hf, hp⟩
      refine st_move hf rfl rfl (by decide) ?_
      clear hf; intro a ha hf; clear ha
      obtain ⟨z56, hz54, h⟩ := bnd h
      refine wpList_cut 5 (fun a w => Fr 132 a [(0, vlost0), (7, .int .i64 (lost0.length : Int)), (8, (GL.cut v8 0 (((lost0.length : Int)).toNat) 1)), (9, v14), (11, v24), (13, v34), (68, .bool z56)] ∧ Hp S w0 w (Res.slx (Ek.int .i64) 3 (GL.cut v8 0 (((lost0.length : Int)).toNat) 1) ((((([] : List Int) ++ lost0) ++ [(987 : Int)]) ++ ([] : List Int)).take (((lost0.length : Int)).toNat)) ((((([] : List Int) ++ lost0) ++ [(987 : Int)]) ++ ([] : List Int)).drop (((lost0.length : Int)).toNat)) :: Res.rows (RowK.sl (Ek.int .i64) 3) 22 v34 v35 q27.1 :: Res.rows (RowK.sl (Ek.int .i64) 3) 22 v24 v25 q17.1 :: Res.rows (RowK.sl (Ek.int .i64) 3) 22 v14 v15 q12.1 :: Res.sl (Ek.int .i64) 3 v5 ([(987 : Int)]) :: ow)) ?_ ?_
      · rcases Bool.eq_false_or_eq_true z41 with hb55 | hb55
        · skip
          replace hz54 := ifT hz54 hb55
          refine st_skip hf (wantN hf rfl rfl hb55) rfl (by decide) ?_ rfl
          clear hf; intro a hf
          refine st_skip hf (wantN hf rfl rfl hb55) rfl (by decide) ?_ rfl
          clear hf; intro a hf
          refine st_skip hf (wantN hf rfl rfl hb55) rfl (by decide) ?_ rfl
          clear hf; intro a hf
          refine st_skip hf (wantN hf rfl rfl hb55) rfl (by decide) ?_ rfl
          clear hf; intro a hf
          obtain rfl := Option.some.inj hz54
          refine st_pick (v := .bool true) hf rfl rfl (fun hb' => ?_) (fun hb' => ?_) (by decide) ?_
          · rfl
          · exact absurd (hb55.symm.trans hb') (by decide)
          clear hf; intro a ha hf; clear ha
          refine st_nil hf (th_n ?_)
          exact ⟨hf.sub ⟨rfl, rfl, rfl, rfl, rfl, rfl, rfl, trivial⟩, hp⟩
        · skip
          replace hz54 := ifF hz54 hb55
          refine st_move hf (wantY hf rfl rfl hb55) rfl (by decide) ?_
          clear hf; intro a ha hf; clear ha
          refine st_move hf (wantY hf rfl rfl hb55) rfl (by decide) ?_
          clear hf; intro a ha hf; clear ha
          obtain ⟨q57, hcall58, hz54⟩ := bnd hz54
          obtain ⟨S59, hp60, rd61, up62, bk63⟩ := Hp.lendR hp (i := 1) rfl
          obtain ⟨S64, hp65, rd66, up67, bk68⟩ := Hp.lendR hp60 (i := 2) rfl
          refine st_call hf (by decide) Try.func14 rfl rfl (wantY hf rfl rfl hb55) rfl rfl (f_foghornref17_Lists_c hp65 _ _ _ ((rd61.now hp60).mono up67) _ _ _ rd66 hcall58) ?_
          rintro _ w ⟨rfl, hp0⟩
          have hp0 := bk68 _ _ hp0
          have hp0 := bk63 _ _ hp0
          clear hp; have hp := hp0; clear hp0
          replace hp : Hp _ _ w (Res.rows (RowK.sl (Ek.int .i64) 3) 22 v34 v35 q27.1 :: Res.rows (RowK.sl (Ek.int .i64) 3) 22 v14 v15 q12.1 :: Res.slx (Ek.int .i64) 3 (GL.cut v8 0 (((lost0.length : Int)).toNat) 1) ((((([] : List Int) ++ lost0) ++ [(987 : Int)]) ++ ([] : List Int)).take (((lost0.length : Int)).toNat)) ((((([] : List Int) ++ lost0) ++ [(987 : Int)]) ++ ([] : List Int)).drop (((lost0.length : Int)).toNat)) :: Res.rows (RowK.sl (Ek.int .i64) 3) 22 v24 v25 q17.1 :: Res.sl (Ek.int .i64) 3 v5 ([(987 : Int)]) :: ow) := hp
          refine ⟨_, rfl, ?_⟩
          clear hf; intro a hf
          refine st_not hf (by decide) (wantY hf rfl rfl hb55) rfl ?_
          clear hf; intro a ha hf; clear ha
          obtain rfl := Option.some.inj hz54
          refine st_pick (v := .bool (!q57)) hf rfl rfl (fun hb' => ?_) (fun hb' => ?_) (by decide) ?_
          · exact absurd (hb55.symm.trans hb') (by decide)
          · rfl
          clear hf; intro a ha hf; clear ha
          refine st_nil hf (th_n ?_)
          have hp : Hp _ _ w (Res.slx (Ek.int .i64) 3 (GL.cut v8 0 (((lost0.length : Int)).toNat) 1) ((((([] : List Int) ++ lost0) ++ [(987 : Int)]) ++ ([] : List Int)).take (((lost0.length : Int)).toNat)) ((((([] : List Int) ++ lost0) ++ [(987 : Int)]) ++ ([] : List Int)).drop (((lost0.length : Int)).toNat)) :: Res.rows (RowK.sl (Ek.int .i64) 3) 22 v34 v35 q27.1 :: Res.rows (RowK.sl (Ek.int .i64) 3) 22 v24 v25 q17.1 :: Res.rows (RowK.sl (Ek.int .i64) 3) 22 v14 v15 q12.1 :: Res.sl (Ek.int .i64) 3 v5 ([(987 : Int)]) :: ow) := Hp.sel (pre := [Res.rows (RowK.sl (Ek.int .i64) 3) 22 v34 v35 q27.1, Res.rows (RowK.sl (Ek.int .i64) 3) 22 v14 v15 q12.1, Res.slx (Ek.int .i64) 3 (GL.cut v8 0 (((lost0.length : Int)).toNat) 1) ((((([] : List Int) ++ lost0) ++ [(987 : Int)]) ++ ([] : List Int)).take (((lost0.length : Int)).toNat)) ((((([] : List Int) ++ lost0) ++ [(987 : Int)]) ++ ([] : List Int)).drop (((lost0.length : Int)).toNat)), Res.rows (RowK.sl (Ek.int .i64) 3) 22 v24 v25 q17.1, Res.sl (Ek.int .i64) 3 v5 ([(987 : Int)])]) (tail := ow) (rs' := [Res.slx (Ek.int .i64) 3 (GL.cut v8 0 (((lost0.length : Int)).toNat) 1) ((((([] : List Int) ++ lost0) ++ [(987 : Int)]) ++ ([] : List Int)).take (((lost0.length : Int)).toNat)) ((((([] : List Int) ++ lost0) ++ [(987 : Int)]) ++ ([] : List Int)).drop (((lost0.length : Int)).toNat)), Res.rows (RowK.sl (Ek.int .i64) 3) 22 v34 v35 q27.1, Res.rows (RowK.sl (Ek.int .i64) 3) 22 v24 v25 q17.1, Res.rows (RowK.sl (Ek.int .i64) 3) 22 v14 v15 q12.1, Res.sl (Ek.int .i64) 3 v5 ([(987 : Int)])]) hp [2, 0, 3, 1, 4] (by decide) (by simp) rfl
          exact ⟨hf.sub ⟨rfl, rfl, rfl, rfl, rfl, rfl, rfl, trivial⟩, hp⟩
      · rintro a w ⟨hf, hp⟩
        refine st_move hf rfl rfl (by decide) ?_
        clear hf; intro a ha hf; clear ha
        obtain ⟨z71, hz69, h⟩ := bnd h
        refine wpList_cut 5 (fun a w => Fr 132 a [(7, .int .i64 (lost0.length : Int)), (8, (GL.cut v8 0 (((lost0.length : Int)).toNat) 1)), (9, v14), (11, v24), (13, v34), (74, .bool z71)] ∧ Hp S w0 w (Res.slx (Ek.int .i64) 3 (GL.cut v8 0 (((lost0.length : Int)).toNat) 1) ((((([] : List Int) ++ lost0) ++ [(987 : Int)]) ++ ([] : List Int)).take (((lost0.length : Int)).toNat)) ((((([] : List Int) ++ lost0) ++ [(987 : Int)]) ++ ([] : List Int)).drop (((lost0.length : Int)).toNat)) :: Res.rows (RowK.sl (Ek.int .i64) 3) 22 v34 v35 q27.1 :: Res.rows (RowK.sl (Ek.int .i64) 3) 22 v24 v25 q17.1 :: Res.rows (RowK.sl (Ek.int .i64) 3) 22 v14 v15 q12.1 :: Res.sl (Ek.int .i64) 3 v5 ([(987 : Int)]) :: ow)) ?_ ?_
        · rcases Bool.eq_false_or_eq_true z56 with hb70 | hb70
          · skip
            replace hz69 := ifT hz69 hb70
            refine st_skip hf (wantN hf rfl rfl hb70) rfl (by decide) ?_ rfl
            clear hf; intro a hf
            refine st_skip hf (wantN hf rfl rfl hb70) rfl (by decide) ?_ rfl
            clear hf; intro a hf
            refine st_skip hf (wantN hf rfl rfl hb70) rfl (by decide) ?_ rfl
            clear hf; intro a hf
            refine st_skip hf (wantN hf rfl rfl hb70) rfl (by decide) ?_ rfl
            clear hf; intro a hf
            obtain rfl := Option.some.inj hz69
            refine st_pick (v := .bool true) hf rfl rfl (fun hb' => ?_) (fun hb' => ?_) (by decide) ?_
            · rfl
            · exact absurd (hb70.symm.trans hb') (by decide)
            clear hf; intro a ha hf; clear ha
            refine st_nil hf (th_n ?_)
            exact ⟨hf.sub ⟨rfl, rfl, rfl, rfl, rfl, rfl, trivial⟩, hp⟩
          · skip
            replace hz69 := ifF hz69 hb70
            refine st_move hf (wantY hf rfl rfl hb70) rfl (by decide) ?_
            clear hf; intro a ha hf; clear ha
            refine st_move hf (wantY hf rfl rfl hb70) rfl (by decide) ?_
            clear hf; intro a ha hf; clear ha
            obtain ⟨q72, hcall73, hz69⟩ := bnd hz69
            obtain ⟨S74, hp75, rd76, up77, bk78⟩ := Hp.lendS hp (i := 0) rfl
            refine st_call hf (by decide) Try.func15 rfl rfl (wantY hf rfl rfl hb70) rfl rfl (f_foghornref17_Numbers_c hp75 _ _ rd76 _ _ ((hlost0.now hp).mono up77) hcall73) ?_
            rintro _ w ⟨rfl, hp0⟩
            have hp0 := bk78 _ _ hp0
            clear hp; have hp := hp0; clear hp0
            replace hp : Hp _ _ w (Res.slx (Ek.int .i64) 3 (GL.cut v8 0 (((lost0.length : Int)).toNat) 1) ((((([] : List Int) ++ lost0) ++ [(987 : Int)]) ++ ([] : List Int)).take (((lost0.length : Int)).toNat)) ((((([] : List Int) ++ lost0) ++ [(987 : Int)]) ++ ([] : List Int)).drop (((lost0.length : Int)).toNat)) :: Res.rows (RowK.sl (Ek.int .i64) 3) 22 v34 v35 q27.1 :: Res.rows (RowK.sl (Ek.int .i64) 3) 22 v24 v25 q17.1 :: Res.rows (RowK.sl (Ek.int .i64) 3) 22 v14 v15 q12.1 :: Res.sl (Ek.int .i64) 3 v5 ([(987 : Int)]) :: ow) := hp
            refine ⟨_, rfl, ?_⟩
            clear hf; intro a hf
            refine st_not hf (by decide) (wantY hf rfl rfl hb70) rfl ?_
            clear hf; intro a ha hf; clear ha
            obtain rfl := Option.some.inj hz69
            refine st_pick (v := .bool (!q72)) hf rfl rfl (fun hb' => ?_) (fun hb' => ?_) (by decide) ?_
            · exact absurd (hb70.symm.trans hb') (by decide)
            · rfl
            clear hf; intro a ha hf; clear ha
            refine st_nil hf (th_n ?_)
            exact ⟨hf.sub ⟨rfl, rfl, rfl, rfl, rfl, rfl, trivial⟩, hp⟩
        · rintro a w ⟨hf, hp⟩
          refine st_move hf rfl rfl (by decide) ?_
          clear hf; intro a ha hf; clear ha
          obtain ⟨z81, hz79, h⟩ := bnd h
          refine wpList_cut 9 (fun a w => Fr 132 a [(9, v14), (11, v24), (13, v34), (84, .bool z81)] ∧ Hp S w0 w (Res.slx (Ek.int .i64) 3 (GL.cut v8 0 (((lost0.length : Int)).toNat) 1) ((((([] : List Int) ++ lost0) ++ [(987 : Int)]) ++ ([] : List Int)).take (((lost0.length : Int)).toNat)) ((((([] : List Int) ++ lost0) ++ [(987 : Int)]) ++ ([] : List Int)).drop (((lost0.length : Int)).toNat)) :: Res.rows (RowK.sl (Ek.int .i64) 3) 22 v34 v35 q27.1 :: Res.rows (RowK.sl (Ek.int .i64) 3) 22 v24 v25 q17.1 :: Res.rows (RowK.sl (Ek.int .i64) 3) 22 v14 v15 q12.1 :: Res.sl (Ek.int .i64) 3 v5 ([(987 : Int)]) :: ow)) ?_ ?_
          · rcases Bool.eq_false_or_eq_true z71 with hb80 | hb80
            · skip
              replace hz79 := ifT hz79 hb80
              refine st_skip hf (wantN hf rfl rfl hb80) rfl (by decide) ?_ rfl
              clear hf; intro a hf
              refine st_skip hf (wantN hf rfl rfl hb80) rfl (by decide) ?_ rfl
              clear hf; intro a hf
              refine st_skip hf (wantN hf rfl rfl hb80) rfl (by decide) ?_ rfl
              clear hf; intro a hf
              refine st_skip hf (wantN hf rfl rfl hb80) rfl (by decide) ?_ rfl
              clear hf; intro a hf
              refine st_skip hf (wantN hf rfl rfl hb80) rfl (by decide) ?_ rfl
              clear hf; intro a hf
              refine st_skip hf (wantN hf rfl rfl hb80) rfl (by decide) ?_ rfl
              clear hf; intro a hf
              refine st_skip hf (wantN hf rfl rfl hb80) rfl (by decide) ?_ rfl
              clear hf; intro a hf
              refine st_skip hf (wantN hf rfl rfl hb80) rfl (by decide) ?_ rfl
              clear hf; intro a hf
              obtain rfl := Option.some.inj hz79
              refine st_pick (v := .bool true) hf rfl rfl (fun hb' => ?_) (fun hb' => ?_) (by decide) ?_
              · rfl
              · exact absurd (hb80.symm.trans hb') (by decide)
              clear hf; intro a ha hf; clear ha
              refine st_nil hf (th_n ?_)
              exact ⟨hf.sub ⟨rfl, rfl, rfl, rfl, trivial⟩, hp⟩
            · skip
              replace hz79 := ifF hz79 hb80
              refine st_move hf (wantY hf rfl rfl hb80) rfl (by decide) ?_
              clear hf; intro a ha hf; clear ha
              refine st_move hf (wantY hf rfl rfl hb80) rfl (by decide) ?_
              clear hf; intro a ha hf; clear ha
              refine st_iadd hf (by decide) (wantY hf rfl rfl hb80) rfl rfl ?_
              clear hf; intro a ha hf; clear ha
              obtain ⟨hc82, hz79⟩ := chk hz79
              have hc83 : 0 ≤ ((IntKind.i64.wrap ((lost0.length : Int) + (1 : Int)))).toNat := by omega
              have hc84 : ((IntKind.i64.wrap ((lost0.length : Int) + (1 : Int)))).toNat ≤ (((((([] : List Int) ++ lost0) ++ [(987 : Int)]) ++ ([] : List Int)).take (((lost0.length : Int)).toNat)) ++ ((((([] : List Int) ++ lost0) ++ [(987 : Int)]) ++ ([] : List Int)).drop (((lost0.length : Int)).toNat))).length := by omega
              refine st_cutX (E := (Ek.int .i64)) hf (by decide) Try.underlying22 elt3 hp (i := 0) rfl (wantY hf rfl rfl hb80) rfl (.inl ⟨rfl, rfl⟩) (.inr ⟨_, _, rfl, evI rfl (by omega)⟩) hc83 hc84 ?_
              clear hf; intro a ha hf; clear ha
              refine st_move hf (wantY hf rfl rfl hb80) rfl (by decide) ?_
              clear hf; intro a ha hf; clear ha
              obtain ⟨hc85, hz79⟩ := chk hz79
              refine st_index (E := (Ek.int .i64)) hf (by decide) Try.underlying22 elt3 (wantY hf rfl rfl hb80) rfl rfl (hp.slAll (i := 0) rfl hc84) hc85.1 hc85.2 ?_
              clear hf; intro a ha hf; clear ha
              refine st_ldI hf (by decide) pl3 (wantY hf rfl rfl hb80) rfl (hp.slAll (i := 0) rfl hc84) hc85.1 hc85.2 ?_
              clear hf; intro a ha hf; clear ha
              refine st_ineq hf (by decide) (wantY hf rfl rfl hb80) rfl rfl ?_
              clear hf; intro a ha hf; clear ha
              obtain rfl := Option.some.inj hz79
              refine st_pick (v := .bool ((gt ((((((([] : List Int) ++ lost0) ++ [(987 : Int)]) ++ ([] : List Int)).take (((lost0.length : Int)).toNat)) ++ ((((([] : List Int) ++ lost0) ++ [(987 : Int)]) ++ ([] : List Int)).drop (((lost0.length : Int)).toNat))).take (((IntKind.i64.wrap ((lost0.length : Int) + (1 : Int)))).toNat)) (lost0.length : Int)) != (987 : Int))) hf rfl rfl (fun hb' => ?_) (fun hb' => ?_) (by decide) ?_
              · exact absurd (hb80.symm.trans hb') (by decide)
              · rfl
              clear hf; intro a ha hf; clear ha
              refine st_nil hf (th_n ?_)
              exact ⟨hf.sub ⟨rfl, rfl, rfl, rfl, trivial⟩, hp⟩
          · rintro a w ⟨hf, hp⟩
            refine st_nil hf ?_
            refine th_n ?_
            refine wp_if hf rfl (fun hb => ?_) (fun hb => ?_)
            · replace h := ifT h hb
              refine wp_seq ?_
              refine wp_reg ?_
              refine st_assign hf rfl rfl (by decide) ?_
              clear hf; intro a ha hf; clear ha
              refine st_nil hf ?_
              refine th_n ?_
              refine wp_ret ?_
              refine th_r ?_
              obtain rfl := Option.some.inj h
              have hp : Hp _ _ w (ow) := Hp.sel (pre := [Res.slx (Ek.int .i64) 3 (GL.cut v8 0 (((lost0.length : Int)).toNat) 1) ((((([] : List Int) ++ lost0) ++ [(987 : Int)]) ++ ([] : List Int)).take (((lost0.length : Int)).toNat)) ((((([] : List Int) ++ lost0) ++ [(987 : Int)]) ++ ([] : List Int)).drop (((lost0.length : Int)).toNat)), Res.rows (RowK.sl (Ek.int .i64) 3) 22 v34 v35 q27.1, Res.rows (RowK.sl (Ek.int .i64) 3) 22 v24 v25 q17.1, Res.rows (RowK.sl (Ek.int .i64) 3) 22 v14 v15 q12.1, Res.sl (Ek.int .i64) 3 v5 ([(987 : Int)])]) (tail := ow) (rs' := []) hp [] (by decide) (by simp) rfl
              exact ⟨rfl, ⟨hf.sub ⟨rfl, trivial⟩, hp⟩⟩
            · replace h := ifF h hb
              refine wp_skip ?_
              refine th_n ?_
              refine wp_seq ?_
              refine wp_seq ?_
              refine wp_reg ?_
              refine st_assign hf rfl rfl (by decide) ?_
              clear hf; intro a ha hf; clear ha
              refine st_nil hf ?_
              refine th_n ?_
              refine wp_block ?_
              obtain ⟨q149, hl, h⟩ := bnd h
              have hp : Hp _ _ w (Res.rowsH (RowK.sl (Ek.int .i64) 3) 22 v24 v25 (q17.1.map some) :: Res.rows (RowK.sl (Ek.int .i64) 3) 22 v14 v15 q12.1 :: Res.rows (RowK.sl (Ek.int .i64) 3) 22 v34 v35 q27.1 :: ow) := Hp.sel (pre := [Res.slx (Ek.int .i64) 3 (GL.cut v8 0 (((lost0.length : Int)).toNat) 1) ((((([] : List Int) ++ lost0) ++ [(987 : Int)]) ++ ([] : List Int)).take (((lost0.length : Int)).toNat)) ((((([] : List Int) ++ lost0) ++ [(987 : Int)]) ++ ([] : List Int)).drop (((lost0.length : Int)).toNat)), Res.rows (RowK.sl (Ek.int .i64) 3) 22 v34 v35 q27.1, Res.rowsH (RowK.sl (Ek.int .i64) 3) 22 v24 v25 (q17.1.map some), Res.rows (RowK.sl (Ek.int .i64) 3) 22 v14 v15 q12.1, Res.sl (Ek.int .i64) 3 v5 ([(987 : Int)])]) (tail := ow) (rs' := [Res.rowsH (RowK.sl (Ek.int .i64) 3) 22 v24 v25 (q17.1.map some), Res.rows (RowK.sl (Ek.int .i64) 3) 22 v14 v15 q12.1, Res.rows (RowK.sl (Ek.int .i64) 3) 22 v34 v35 q27.1]) hp [2, 3, 1] (by decide) (by simp) rfl
              refine wp_loop_pure (f := (f_foghornlaw17_WeaveMarks.s1 q12 q27)) (s := ((q17.1.map some), (0 : Int))) (fun s a w => ∃ (v86 : Value) (vs87 : List Value), Fr 132 a [(9, v14), (11, v86), (13, v34), (15, .int .i64 s.2)] ∧ Hp S w0 w (Res.rowsH (RowK.sl (Ek.int .i64) 3) 22 v86 vs87 s.1 :: Res.rows (RowK.sl (Ek.int .i64) 3) 22 v14 v15 q12.1 :: Res.rows (RowK.sl (Ek.int .i64) 3) 22 v34 v35 q27.1 :: ow)) (fun q e a w => match q with | (Sum.inl q) => e = .exit 0 ∧ Fr 132 a [] ∧ Hp S w0 w (ow) | (Sum.inr q) => e = .ret ∧ Fr 132 a [(6, .bool q)] ∧ Hp S w0 w (ow)) ?_ hl ⟨_, _, hf.sub ⟨rfl, rfl, rfl, rfl, trivial⟩, hp⟩ ?_
              · clear hl hf hp
                intro s x a w h hI
                obtain ⟨a11, i15⟩ := s
                obtain ⟨v86, vs87, hf, hp⟩ : ∃ (v86 : Value) (vs87 : List Value), Fr 132 a [(9, v14), (11, v86), (13, v34), (15, .int .i64 i15)] ∧ Hp S w0 w (Res.rowsH (RowK.sl (Ek.int .i64) 3) 22 v86 vs87 a11 :: Res.rows (RowK.sl (Ek.int .i64) 3) 22 v14 v15 q12.1 :: Res.rows (RowK.sl (Ek.int .i64) 3) 22 v34 v35 q27.1 :: ow) := hI
                replace h : f_foghornlaw17_WeaveMarks.s1c q12 q27 a11 i15 = some x := h
                unfold f_foghornlaw17_WeaveMarks.s1c at h
                refine wp_seq ?_
                refine wp_seq ?_
                refine wp_reg ?_
                refine st_move hf rfl rfl (by decide) ?_
                clear hf; intro a ha hf; clear ha
                refine st_move hf rfl rfl (by decide) ?_
                clear hf; intro a ha hf; clear ha
                refine st_lenV hf (by decide) Try.underlying23 rfl rfl (hp.rd (i := 0) rfl).shapeV ?_
                clear hf; intro a ha hf; clear ha
                refine st_ilss hf (by decide) rfl rfl rfl ?_
                clear hf; intro a ha hf; clear ha
                refine st_nil hf ?_
                refine th_n ?_
                refine wp_if hf rfl (fun hb => ?_) (fun hb => ?_)
                · replace h := ifT h hb
                  refine wp_skip ?_
                  refine th_n ?_
                  refine wp_seq ?_
                  refine wp_block ?_
                  refine wp_seq ?_
                  refine wp_reg ?_
                  refine st_move hf rfl rfl (by decide) ?_
                  clear hf; intro a ha hf; clear ha
                  refine st_move hf rfl rfl (by decide) ?_
                  clear hf; intro a ha hf; clear ha
                  obtain ⟨hc89, h⟩ := chk h
                  refine st_indexV (E := Ek.val) (m := a11.length) hf (by decide) Try.underlying23 eltv22 rfl rfl rfl (hp.rd (i := 0) rfl).shapeN hc89.1 hc89.2 ?_
                  clear hf; intro a ha hf; clear ha
                  refine st_ldR hf (by decide) pl22 rfl rfl (hp.rd (i := 0) rfl) hc89.1 hc89.2 ?_
                  clear hf; intro a ha hf; clear ha
                  obtain ⟨q90, hq91, h⟩ := bnd h
                  replace hp : Hp _ _ w (Res.sl (Ek.int .i64) 3 (gtv vs87 i15) q90 :: Res.rowsH (RowK.sl (Ek.int .i64) 3) 22 v86 vs87 (a11.set (i15).toNat none) :: Res.rows (RowK.sl (Ek.int .i64) 3) 22 v14 v15 q12.1 :: Res.rows (RowK.sl (Ek.int .i64) 3) 22 v34 v35 q27.1 :: ow) := hp.rowsTake (k := i15) hc89.1 (take2 hq91)
                  refine st_assign hf rfl rfl (by decide) ?_
                  clear hf; intro a ha hf; clear ha
                  refine st_nil hf ?_
                  refine th_n ?_
                  refine wp_seq ?_
                  refine wp_seq ?_
                  refine wp_reg ?_
                  refine st_assign hf rfl rfl (by decide) ?_
                  clear hf; intro a ha hf; clear ha
                  refine st_nil hf ?_
                  refine th_n ?_
                  refine wp_block ?_
                  obtain ⟨q98, hl, h⟩ := bnd h
                  have hp : Hp _ _ w (Res.sl (Ek.int .i64) 3 (gtv vs87 i15) q90 :: Res.rows (RowK.sl (Ek.int .i64) 3) 22 v14 v15 q12.1 :: Res.rowsH (RowK.sl (Ek.int .i64) 3) 22 v86 vs87 (a11.set (i15).toNat none) :: Res.rows (RowK.sl (Ek.int .i64) 3) 22 v34 v35 q27.1 :: ow) := Hp.sel (pre := [Res.sl (Ek.int .i64) 3 (gtv vs87 i15) q90, Res.rowsH (RowK.sl (Ek.int .i64) 3) 22 v86 vs87 (a11.set (i15).toNat none), Res.rows (RowK.sl (Ek.int .i64) 3) 22 v14 v15 q12.1, Res.rows (RowK.sl (Ek.int .i64) 3) 22 v34 v35 q27.1]) (tail := ow) (rs' := [Res.sl (Ek.int .i64) 3 (gtv vs87 i15) q90, Res.rows (RowK.sl (Ek.int .i64) 3) 22 v14 v15 q12.1, Res.rowsH (RowK.sl (Ek.int .i64) 3) 22 v86 vs87 (a11.set (i15).toNat none), Res.rows (RowK.sl (Ek.int .i64) 3) 22 v34 v35 q27.1]) hp [0, 2, 1, 3] (by decide) (by simp) rfl
                  refine wp_loop_pure (f := f_foghornlaw17_WeaveMarks.s2) (s := (q90, (0 : Int))) (fun s a w => ∃ (v93 : Value), Fr 132 a [(9, v14), (11, v86), (13, v34), (15, .int .i64 i15), (16, v93), (17, .int .i64 s.2)] ∧ Hp S w0 w (Res.sl (Ek.int .i64) 3 v93 s.1 :: Res.rows (RowK.sl (Ek.int .i64) 3) 22 v14 v15 q12.1 :: Res.rowsH (RowK.sl (Ek.int .i64) 3) 22 v86 vs87 (a11.set (i15).toNat none) :: Res.rows (RowK.sl (Ek.int .i64) 3) 22 v34 v35 q27.1 :: ow)) (fun q e a w => e = .exit 2 ∧ ∃ (v95 : Value), Fr 132 a [(9, v14), (11, v86), (13, v34), (15, .int .i64 i15), (16, v95)] ∧ Hp S w0 w (Res.sl (Ek.int .i64) 3 v95 q :: Res.rows (RowK.sl (Ek.int .i64) 3) 22 v14 v15 q12.1 :: Res.rowsH (RowK.sl (Ek.int .i64) 3) 22 v86 vs87 (a11.set (i15).toNat none) :: Res.rows (RowK.sl (Ek.int .i64) 3) 22 v34 v35 q27.1 :: ow)) ?_ hl ⟨_, hf.sub ⟨rfl, rfl, rfl, rfl, rfl, rfl, trivial⟩, hp⟩ ?_
                  · clear hl hf hp
                    intro s x a w h hI
                    obtain ⟨l16, k17⟩ := s
                    obtain ⟨v93, hf, hp⟩ : ∃ (v93 : Value), Fr 132 a [(9, v14), (11, v86), (13, v34), (15, .int .i64 i15), (16, v93), (17, .int .i64 k17)] ∧ Hp S w0 w (Res.sl (Ek.int .i64) 3 v93 l16 :: Res.rows (RowK.sl (Ek.int .i64) 3) 22 v14 v15 q12.1 :: Res.rowsH (RowK.sl (Ek.int .i64) 3) 22 v86 vs87 (a11.set (i15).toNat none) :: Res.rows (RowK.sl (Ek.int .i64) 3) 22 v34 v35 q27.1 :: ow) := hI
                    replace h : f_foghornlaw17_WeaveMarks.s2c l16 k17 = some x := h
                    unfold f_foghornlaw17_WeaveMarks.s2c at h
                    refine wp_seq ?_
                    refine wp_seq ?_
                    refine wp_reg ?_
                    refine st_move hf rfl rfl (by decide) ?_
                    clear hf; intro a ha hf; clear ha
                    refine st_move hf rfl rfl (by decide) ?_
                    clear hf; intro a ha hf; clear ha
                    refine st_len (E := (Ek.int .i64)) hf (by decide) Try.underlying22 rfl rfl (hp.sl (i := 0) rfl) ?_
                    clear hf; intro a ha hf; clear ha
                    refine st_ilss hf (by decide) rfl rfl rfl ?_
                    clear hf; intro a ha hf; clear ha
                    refine st_nil hf ?_
                    refine th_n ?_
                    refine wp_if hf rfl (fun hb => ?_) (fun hb => ?_)
                    · replace h := ifT h hb
                      refine wp_skip ?_
                      refine th_n ?_
                      refine wp_seq ?_
                      refine wp_block ?_
                      refine wp_reg ?_
                      refine st_move hf rfl rfl (by decide) ?_
                      clear hf; intro a ha hf; clear ha
                      refine st_move hf rfl rfl (by decide) ?_
                      clear hf; intro a ha hf; clear ha
                      obtain ⟨hc97, h⟩ := chk h
                      refine st_index (E := (Ek.int .i64)) hf (by decide) Try.underlying22 elt3 rfl rfl rfl (hp.sl (i := 0) rfl) hc97.1 hc97.2 ?_
                      clear hf; intro a ha hf; clear ha
                      refine st_store (E := (Ek.int .i64)) hf elt3 hp (i := 0) rfl rfl rfl rfl rfl hc97.1 hc97.2 ?_
                      clear hf; intro a w hf hp0; clear hp; have hp := hp0; clear hp0
                      replace hp : Hp _ _ w (Res.sl (Ek.int .i64) 3 v93 (l16.set (k17).toNat (-1 : Int)) :: Res.rows (RowK.sl (Ek.int .i64) 3) 22 v14 v15 q12.1 :: Res.rowsH (RowK.sl (Ek.int .i64) 3) 22 v86 vs87 (a11.set (i15).toNat none) :: Res.rows (RowK.sl (Ek.int .i64) 3) 22 v34 v35 q27.1 :: ow) := hp
                      refine st_nil hf ?_
                      refine ib_n ?_
                      refine th_n ?_
                      refine wp_reg ?_
                      refine st_move hf rfl rfl (by decide) ?_
                      clear hf; intro a ha hf; clear ha
                      refine st_iadd hf (by decide) rfl rfl rfl ?_
                      clear hf; intro a ha hf; clear ha
                      refine st_assign hf rfl rfl (by decide) ?_
                      clear hf; intro a ha hf; clear ha
                      refine st_nil hf ?_
                      obtain rfl := Option.some.inj h
                      exact rnd_l ⟨_, hf.sub ⟨rfl, rfl, rfl, rfl, rfl, rfl, trivial⟩, hp⟩
                    · replace h := ifF h hb
                      refine wp_exit ?_
                      refine th_e ?_
                      obtain rfl := Option.some.inj h
                      exact rnd_r (by simp) ⟨rfl, _, hf.sub ⟨rfl, rfl, rfl, rfl, rfl, trivial⟩, hp⟩
                  · clear hl hf hp
                    intro e a w hne hO
                    obtain ⟨rfl, v95, hf, hp⟩ := hO
                    refine ib_same ?_
                    refine th_n ?_
                    refine wp_seq ?_
                    refine wp_seq ?_
                    refine wp_reg ?_
                    refine st_assign hf rfl rfl (by decide) ?_
                    clear hf; intro a ha hf; clear ha
                    refine st_nil hf ?_
                    refine th_n ?_
                    refine wp_block ?_
                    obtain ⟨q107, hl, h⟩ := bnd h
                    refine wp_loop_pure (f := f_foghornlaw17_WeaveMarks.s3) (s := (q98, (0 : Int))) (fun s a w => ∃ (v99 : Value), Fr 132 a [(9, v14), (11, v86), (13, v34), (15, .int .i64 i15), (16, v99), (18, .int .i64 s.2)] ∧ Hp S w0 w (Res.sl (Ek.int .i64) 3 v99 s.1 :: Res.rows (RowK.sl (Ek.int .i64) 3) 22 v14 v15 q12.1 :: Res.rowsH (RowK.sl (Ek.int .i64) 3) 22 v86 vs87 (a11.set (i15).toNat none) :: Res.rows (RowK.sl (Ek.int .i64) 3) 22 v34 v35 q27.1 :: ow)) (fun q e a w => e = .exit 4 ∧ ∃ (v101 : Value), Fr 132 a [(9, v14), (11, v86), (13, v34), (15, .int .i64 i15), (16, v101)] ∧ Hp S w0 w (Res.sl (Ek.int .i64) 3 v101 q :: Res.rows (RowK.sl (Ek.int .i64) 3) 22 v14 v15 q12.1 :: Res.rowsH (RowK.sl (Ek.int .i64) 3) 22 v86 vs87 (a11.set (i15).toNat none) :: Res.rows (RowK.sl (Ek.int .i64) 3) 22 v34 v35 q27.1 :: ow)) ?_ hl ⟨_, hf.sub ⟨rfl, rfl, rfl, rfl, rfl, rfl, trivial⟩, hp⟩ ?_
                    · clear hl hf hp
                      intro s x a w h hI
                      obtain ⟨l16, k18⟩ := s
                      obtain ⟨v99, hf, hp⟩ : ∃ (v99 : Value), Fr 132 a [(9, v14), (11, v86), (13, v34), (15, .int .i64 i15), (16, v99), (18, .int .i64 k18)] ∧ Hp S w0 w (Res.sl (Ek.int .i64) 3 v99 l16 :: Res.rows (RowK.sl (Ek.int .i64) 3) 22 v14 v15 q12.1 :: Res.rowsH (RowK.sl (Ek.int .i64) 3) 22 v86 vs87 (a11.set (i15).toNat none) :: Res.rows (RowK.sl (Ek.int .i64) 3) 22 v34 v35 q27.1 :: ow) := hI
                      replace h : f_foghornlaw17_WeaveMarks.s3c l16 k18 = some x := h
                      unfold f_foghornlaw17_WeaveMarks.s3c at h
                      refine wp_seq ?_
                      refine wp_seq ?_
                      refine wp_reg ?_
                      refine st_move hf rfl rfl (by decide) ?_
                      clear hf; intro a ha hf; clear ha
                      refine st_ilss hf (by decide) rfl rfl rfl ?_
                      clear hf; intro a ha hf; clear ha
                      refine st_nil hf ?_
                      refine th_n ?_
                      refine wp_if hf rfl (fun hb => ?_) (fun hb => ?_)
                      · replace h := ifT h hb
                        refine wp_skip ?_
                        refine th_n ?_
                        refine wp_seq ?_
                        refine wp_block ?_
                        refine wp_reg ?_
                        refine st_move hf rfl rfl (by decide) ?_
                        clear hf; intro a ha hf; clear ha
                        refine st_build (E := (Ek.int .i64)) (xs := [(-2 : Int)]) hf (by decide) elt3 Try.underlying22 hp (vals := #[(0, .int .i64 (-2 : Int))]) (cells := #[.int .i64 (-2 : Int)]) rfl (by simp [hf.ev (x := (Operand.const (.int .i64 (-2 : Int)))) rfl]) (by decide) (by decide) (z := .int .i64 0) (by kernel_rfl) (by kernel_rfl) rfl (reps_cons (cs := [.int .i64 (-2 : Int)]) rfl (reps_nil _)) ?_
                        clear hf; intro a w v103 hf hp0; clear hp; have hp := hp0; clear hp0
                        replace hp : Hp _ _ w (Res.sl (Ek.int .i64) 3 v103 ([(-2 : Int)]) :: Res.sl (Ek.int .i64) 3 v99 l16 :: Res.rows (RowK.sl (Ek.int .i64) 3) 22 v14 v15 q12.1 :: Res.rowsH (RowK.sl (Ek.int .i64) 3) 22 v86 vs87 (a11.set (i15).toNat none) :: Res.rows (RowK.sl (Ek.int .i64) 3) 22 v34 v35 q27.1 :: ow) := hp
                        obtain ⟨hc105, h⟩ := chk h
                        refine st_append (E := (Ek.int .i64)) hf (by decide) elt3 Try.underlying22 (by decide) hp (i := 1) rfl rfl rfl rfl (hp.sl (i := 0) rfl) hc105 ?_
                        clear hf; intro a w v106 hf hp0; clear hp; have hp := hp0; clear hp0
                        replace hp : Hp _ _ w (Res.sl (Ek.int .i64) 3 v103 ([(-2 : Int)]) :: Res.sl (Ek.int .i64) 3 v106 (l16 ++ [(-2 : Int)]) :: Res.rows (RowK.sl (Ek.int .i64) 3) 22 v14 v15 q12.1 :: Res.rowsH (RowK.sl (Ek.int .i64) 3) 22 v86 vs87 (a11.set (i15).toNat none) :: Res.rows (RowK.sl (Ek.int .i64) 3) 22 v34 v35 q27.1 :: ow) := hp
                        refine st_assign hf rfl rfl (by decide) ?_
                        clear hf; intro a ha hf; clear ha
                        refine st_nil hf ?_
                        refine ib_n ?_
                        refine th_n ?_
                        refine wp_reg ?_
                        refine st_move hf rfl rfl (by decide) ?_
                        clear hf; intro a ha hf; clear ha
                        refine st_iadd hf (by decide) rfl rfl rfl ?_
                        clear hf; intro a ha hf; clear ha
                        refine st_assign hf rfl rfl (by decide) ?_
                        clear hf; intro a ha hf; clear ha
                        refine st_nil hf ?_
                        obtain rfl := Option.some.inj h
                        have hp : Hp _ _ w (Res.sl (Ek.int .i64) 3 v106 (l16 ++ [(-2 : Int)]) :: Res.rows (RowK.sl (Ek.int .i64) 3) 22 v14 v15 q12.1 :: Res.rowsH (RowK.sl (Ek.int .i64) 3) 22 v86 vs87 (a11.set (i15).toNat none) :: Res.rows (RowK.sl (Ek.int .i64) 3) 22 v34 v35 q27.1 :: ow) := Hp.sel (pre := [Res.sl (Ek.int .i64) 3 v103 ([(-2 : Int)]), Res.sl (Ek.int .i64) 3 v106 (l16 ++ [(-2 : Int)]), Res.rows (RowK.sl (Ek.int .i64) 3) 22 v14 v15 q12.1, Res.rowsH (RowK.sl (Ek.int .i64) 3) 22 v86 vs87 (a11.set (i15).toNat none), Res.rows (RowK.sl (Ek.int .i64) 3) 22 v34 v35 q27.1]) (tail := ow) (rs' := [Res.sl (Ek.int .i64) 3 v106 (l16 ++ [(-2 : Int)]), Res.rows (RowK.sl (Ek.int .i64) 3) 22 v14 v15 q12.1, Res.rowsH (RowK.sl (Ek.int .i64) 3) 22 v86 vs87 (a11.set (i15).toNat none), Res.rows (RowK.sl (Ek.int .i64) 3) 22 v34 v35 q27.1]) hp [1, 2, 3, 4] (by decide) (by simp) rfl
                        exact rnd_l ⟨_, hf.sub ⟨rfl, rfl, rfl, rfl, rfl, rfl, trivial⟩, hp⟩
                      · replace h := ifF h hb
                        refine wp_exit ?_
                        refine th_e ?_
                        obtain rfl := Option.some.inj h
                        exact rnd_r (by simp) ⟨rfl, _, hf.sub ⟨rfl, rfl, rfl, rfl, rfl, trivial⟩, hp⟩
                    · clear hl hf hp
                      intro e a w hne hO
                      obtain ⟨rfl, v101, hf, hp⟩ := hO
                      refine ib_same ?_
                      refine th_n ?_
                      refine wp_seq ?_
                      obtain ⟨S108, hp109, rd110, up111, bk112⟩ := Hp.lendS hp (i := 0) rfl
                      obtain ⟨S113, hp114, rd115, up116, bk117⟩ := Hp.lendR hp109 (i := 1) rfl
                      obtain ⟨S118, hp119, rd120, up121, bk122⟩ := Hp.lendR hp114 (i := 0) rfl
                      have rl123 := rd120
                      have rl124 := ((rd115.now hp114).mono up121)
                      have rl125 := ((((rd110.now hp109).mono up116).now hp114).mono up121)
                      obtain ⟨z138, hz126, h⟩ := bnd h
                      obtain ⟨z148, hz139, h⟩ := bnd h
                      refine wp_cutN (fun a w => Fr 132 a [(9, v14), (11, v86), (13, v34), (15, .int .i64 i15), (131, .bool z148)] ∧ Hp S w0 w (Res.sl (Ek.int .i64) 3 v101 q107 :: Res.rowsH (RowK.sl (Ek.int .i64) 3) 22 v86 vs87 (a11.set (i15).toNat none) :: Res.rows (RowK.sl (Ek.int .i64) 3) 22 v14 v15 q12.1 :: Res.rows (RowK.sl (Ek.int .i64) 3) 22 v34 v35 q27.1 :: ow)) ?_ ?_
                      · have hp := hp119.same (Same.drew w)
                        rcases Bool.eq_false_or_eq_true (decide ((q107.length : Int) < (20 : Int))) with hb127 | hb127
                        · skip
                          replace hz126 := ifT hz126 hb127
                          replace hz126 := Option.some.inj hz126
                          rcases Bool.eq_false_or_eq_true z138 with hb140 | hb140
                          · skip
                            replace hz139 := ifT hz139 hb140
                            replace hz139 := Option.some.inj hz139
                            refine dr_begin' (fun a w => Fr 132 a [(9, v14), (11, v86), (13, v34), (15, .int .i64 i15), (131, .bool z148)] ∧ Hp S w0 w (Res.sl (Ek.int .i64) 3 v101 q107 :: Res.rowsH (RowK.sl (Ek.int .i64) 3) 22 v86 vs87 (a11.set (i15).toNat none) :: Res.rows (RowK.sl (Ek.int .i64) 3) 22 v14 v15 q12.1 :: Res.rows (RowK.sl (Ek.int .i64) 3) 22 v34 v35 q27.1 :: ow)) (fun w' => ∃ l, Hp S118 w w' l) [] (by kernel_rfl) ?_
                            refine dr_take 0 (v101) rfl (by kernel_rfl) (by kernel_rfl) (by kernel_rfl) (by kernel_rfl) rfl rfl hf (by decide) rfl (fun w hp => ?_) ⟨_, hp⟩ ?_
                            · obtain ⟨_, hp⟩ := hp
                              refine st_move hf rfl rfl (by decide) ?_
                              clear hf; intro a ha hf
                              exact st_nil hf (th_n ⟨ha, rfl⟩)
                            clear hf; intro a hf
                            refine dr_take 1 (.int .i64 (q107.length : Int)) rfl (by kernel_rfl) (by kernel_rfl) (by kernel_rfl) (by kernel_rfl) rfl rfl hf (by decide) rfl (fun w hp => ?_) ⟨_, hp⟩ ?_
                            · obtain ⟨_, hp⟩ := hp
                              refine st_len (E := (Ek.int .i64)) hf (by decide) Try.underlying22 rfl rfl (rl125.sl hp) ?_
                              clear hf; intro a ha hf
                              exact st_nil hf (th_n ⟨ha, rfl⟩)
                            clear hf; intro a hf
                            refine dr_take 2 (.bool (decide ((q107.length : Int) < (20 : Int)))) rfl (by kernel_rfl) (by kernel_rfl) (by kernel_rfl) (by kernel_rfl) rfl rfl hf (by decide) rfl (fun w hp => ?_) ⟨_, hp⟩ ?_
                            · obtain ⟨_, hp⟩ := hp
                              refine st_ilss hf (by decide) rfl rfl rfl ?_
                              clear hf; intro a ha hf
                              exact st_nil hf (th_n ⟨ha, rfl⟩)
                            clear hf; intro a hf
                            refine dr_take 3 (.bool (decide ((q107.length : Int) < (20 : Int)))) rfl (by kernel_rfl) (by kernel_rfl) (by kernel_rfl) (by kernel_rfl) rfl rfl hf (by decide) rfl (fun w hp => ?_) ⟨_, hp⟩ ?_
                            · obtain ⟨_, hp⟩ := hp
                              refine st_move hf rfl rfl (by decide) ?_
                              clear hf; intro a ha hf
                              exact st_nil hf (th_n ⟨ha, rfl⟩)
                            clear hf; intro a hf
                            refine dr_out 4 rfl (by kernel_rfl) (by kernel_rfl) (by kernel_rfl) (by kernel_rfl) rfl hf (by decide) rfl (wantN hf rfl rfl hb127) ⟨_, hp⟩ ?_
                            clear hf; intro a hf
                            refine dr_out 5 rfl (by kernel_rfl) (by kernel_rfl) (by kernel_rfl) (by kernel_rfl) rfl hf (by decide) rfl (wantN hf rfl rfl hb127) ⟨_, hp⟩ ?_
                            clear hf; intro a hf
                            refine dr_out 6 rfl (by kernel_rfl) (by kernel_rfl) (by kernel_rfl) (by kernel_rfl) rfl hf (by decide) rfl (wantN hf rfl rfl hb127) ⟨_, hp⟩ ?_
                            clear hf; intro a hf
                            refine dr_out 7 rfl (by kernel_rfl) (by kernel_rfl) (by kernel_rfl) (by kernel_rfl) rfl hf (by decide) rfl (wantN hf rfl rfl hb127) ⟨_, hp⟩ ?_
                            clear hf; intro a hf
                            refine dr_out 8 rfl (by kernel_rfl) (by kernel_rfl) (by kernel_rfl) (by kernel_rfl) rfl hf (by decide) rfl (wantN hf rfl rfl hb127) ⟨_, hp⟩ ?_
                            clear hf; intro a hf
                            refine dr_out 9 rfl (by kernel_rfl) (by kernel_rfl) (by kernel_rfl) (by kernel_rfl) rfl hf (by decide) rfl (wantN hf rfl rfl hb127) ⟨_, hp⟩ ?_
                            clear hf; intro a hf
                            refine dr_out 10 rfl (by kernel_rfl) (by kernel_rfl) (by kernel_rfl) (by kernel_rfl) rfl hf (by decide) rfl (wantN hf rfl rfl hb127) ⟨_, hp⟩ ?_
                            clear hf; intro a hf
                            refine dr_out 11 rfl (by kernel_rfl) (by kernel_rfl) (by kernel_rfl) (by kernel_rfl) rfl hf (by decide) rfl (wantN hf rfl rfl hb127) ⟨_, hp⟩ ?_
                            clear hf; intro a hf
                            refine dr_out 12 rfl (by kernel_rfl) (by kernel_rfl) (by kernel_rfl) (by kernel_rfl) rfl hf (by decide) rfl (wantN hf rfl rfl hb127) ⟨_, hp⟩ ?_
                            clear hf; intro a hf
                            refine dr_out 13 rfl (by kernel_rfl) (by kernel_rfl) (by kernel_rfl) (by kernel_rfl) rfl hf (by decide) rfl (wantN hf rfl rfl hb127) ⟨_, hp⟩ ?_
                            clear hf; intro a hf
                            refine dr_take 14 (.bool z138) rfl (by kernel_rfl) (by kernel_rfl) (by kernel_rfl) (by kernel_rfl) rfl rfl hf (by decide) rfl (fun w hp => ?_) ⟨_, hp⟩ ?_
                            · obtain ⟨_, hp⟩ := hp
                              refine st_pick (v := .bool z138) hf rfl rfl (fun _ => by rw [← hz126]; rfl) (fun hb' => absurd (hb127.symm.trans hb') (by decide)) (by decide) ?_
                              clear hf; intro a ha hf
                              exact st_nil hf (th_n ⟨ha, rfl⟩)
                            clear hf; intro a hf
                            refine dr_take 15 (.bool z138) rfl (by kernel_rfl) (by kernel_rfl) (by kernel_rfl) (by kernel_rfl) rfl rfl hf (by decide) rfl (fun w hp => ?_) ⟨_, hp⟩ ?_
                            · obtain ⟨_, hp⟩ := hp
                              refine st_move hf rfl rfl (by decide) ?_
                              clear hf; intro a ha hf
                              exact st_nil hf (th_n ⟨ha, rfl⟩)
                            clear hf; intro a hf
                            refine dr_out 16 rfl (by kernel_rfl) (by kernel_rfl) (by kernel_rfl) (by kernel_rfl) rfl hf (by decide) rfl (wantN hf rfl rfl hb140) ⟨_, hp⟩ ?_
                            clear hf; intro a hf
                            refine dr_out 17 rfl (by kernel_rfl) (by kernel_rfl) (by kernel_rfl) (by kernel_rfl) rfl hf (by decide) rfl (wantN hf rfl rfl hb140) ⟨_, hp⟩ ?_
                            clear hf; intro a hf
                            refine dr_out 18 rfl (by kernel_rfl) (by kernel_rfl) (by kernel_rfl) (by kernel_rfl) rfl hf (by decide) rfl (wantN hf rfl rfl hb140) ⟨_, hp⟩ ?_
                            clear hf; intro a hf
                            refine dr_out 19 rfl (by kernel_rfl) (by kernel_rfl) (by kernel_rfl) (by kernel_rfl) rfl hf (by decide) rfl (wantN hf rfl rfl hb140) ⟨_, hp⟩ ?_
                            clear hf; intro a hf
                            refine dr_take 20 (.bool z148) rfl (by kernel_rfl) (by kernel_rfl) (by kernel_rfl) (by kernel_rfl) rfl rfl hf (by decide) rfl (fun w hp => ?_) ⟨_, hp⟩ ?_
                            · obtain ⟨_, hp⟩ := hp
                              refine st_pick (v := .bool z148) hf rfl rfl (fun _ => by rw [← hz139]; rfl) (fun hb' => absurd (hb140.symm.trans hb') (by decide)) (by decide) ?_
                              clear hf; intro a ha hf
                              exact st_nil hf (th_n ⟨ha, rfl⟩)
                            clear hf; intro a hf
                            refine dr_end (by kernel_rfl) ?_ _
                            have hp := bk122 _ _ hp
                            have hp := bk117 _ _ hp
                            have hp := bk112 _ _ hp
                            exact ⟨hf.sub ⟨rfl, rfl, rfl, rfl, rfl, trivial⟩, hp⟩
                          · skip
                            replace hz139 := ifF hz139 hb140
                            obtain ⟨q141, hcall142, hz139⟩ := bnd hz139
                            replace hz139 := Option.some.inj hz139
                            refine dr_begin' (fun a w => Fr 132 a [(9, v14), (11, v86), (13, v34), (15, .int .i64 i15), (131, .bool z148)] ∧ Hp S w0 w (Res.sl (Ek.int .i64) 3 v101 q107 :: Res.rowsH (RowK.sl (Ek.int .i64) 3) 22 v86 vs87 (a11.set (i15).toNat none) :: Res.rows (RowK.sl (Ek.int .i64) 3) 22 v14 v15 q12.1 :: Res.rows (RowK.sl (Ek.int .i64) 3) 22 v34 v35 q27.1 :: ow)) (fun w' => ∃ l, Hp S118 w w' l) [] (by kernel_rfl) ?_
                            refine dr_take 0 (v101) rfl (by kernel_rfl) (by kernel_rfl) (by kernel_rfl) (by kernel_rfl) rfl rfl hf (by decide) rfl (fun w hp => ?_) ⟨_, hp⟩ ?_
                            · obtain ⟨_, hp⟩ := hp
                              refine st_move hf rfl rfl (by decide) ?_
                              clear hf; intro a ha hf
                              exact st_nil hf (th_n ⟨ha, rfl⟩)
                            clear hf; intro a hf
                            refine dr_take 1 (.int .i64 (q107.length : Int)) rfl (by kernel_rfl) (by kernel_rfl) (by kernel_rfl) (by kernel_rfl) rfl rfl hf (by decide) rfl (fun w hp => ?_) ⟨_, hp⟩ ?_
                            · obtain ⟨_, hp⟩ := hp
                              refine st_len (E := (Ek.int .i64)) hf (by decide) Try.underlying22 rfl rfl (rl125.sl hp) ?_
                              clear hf; intro a ha hf
                              exact st_nil hf (th_n ⟨ha, rfl⟩)
                            clear hf; intro a hf
                            refine dr_take 2 (.bool (decide ((q107.length : Int) < (20 : Int)))) rfl (by kernel_rfl) (by kernel_rfl) (by kernel_rfl) (by kernel_rfl) rfl rfl hf (by decide) rfl (fun w hp => ?_) ⟨_, hp⟩ ?_
                            · obtain ⟨_, hp⟩ := hp
                              refine st_ilss hf (by decide) rfl rfl rfl ?_
                              clear hf; intro a ha hf
                              exact st_nil hf (th_n ⟨ha, rfl⟩)
                            clear hf; intro a hf
                            refine dr_take 3 (.bool (decide ((q107.length : Int) < (20 : Int)))) rfl (by kernel_rfl) (by kernel_rfl) (by kernel_rfl) (by kernel_rfl) rfl rfl hf (by decide) rfl (fun w hp => ?_) ⟨_, hp⟩ ?_
                            · obtain ⟨_, hp⟩ := hp
                              refine st_move hf rfl rfl (by decide) ?_
                              clear hf; intro a ha hf
                              exact st_nil hf (th_n ⟨ha, rfl⟩)
                            clear hf; intro a hf
                            refine dr_out 4 rfl (by kernel_rfl) (by kernel_rfl) (by kernel_rfl) (by kernel_rfl) rfl hf (by decide) rfl (wantN hf rfl rfl hb127) ⟨_, hp⟩ ?_
                            clear hf; intro a hf
                            refine dr_out 5 rfl (by kernel_rfl) (by kernel_rfl) (by kernel_rfl) (by kernel_rfl) rfl hf (by decide) rfl (wantN hf rfl rfl hb127) ⟨_, hp⟩ ?_
                            clear hf; intro a hf
                            refine dr_out 6 rfl (by kernel_rfl) (by kernel_rfl) (by kernel_rfl) (by kernel_rfl) rfl hf (by decide) rfl (wantN hf rfl rfl hb127) ⟨_, hp⟩ ?_
                            clear hf; intro a hf
                            refine dr_out 7 rfl (by kernel_rfl) (by kernel_rfl) (by kernel_rfl) (by kernel_rfl) rfl hf (by decide) rfl (wantN hf rfl rfl hb127) ⟨_, hp⟩ ?_
                            clear hf; intro a hf
                            refine dr_out 8 rfl (by kernel_rfl) (by kernel_rfl) (by kernel_rfl) (by kernel_rfl) rfl hf (by decide) rfl (wantN hf rfl rfl hb127) ⟨_, hp⟩ ?_
                            clear hf; intro a hf
                            refine dr_out 9 rfl (by kernel_rfl) (by kernel_rfl) (by kernel_rfl) (by kernel_rfl) rfl hf (by decide) rfl (wantN hf rfl rfl hb127) ⟨_, hp⟩ ?_
                            clear hf; intro a hf
                            refine dr_out 10 rfl (by kernel_rfl) (by kernel_rfl) (by kernel_rfl) (by kernel_rfl) rfl hf (by decide) rfl (wantN hf rfl rfl hb127) ⟨_, hp⟩ ?_
                            clear hf; intro a hf
                            refine dr_out 11 rfl (by kernel_rfl) (by kernel_rfl) (by kernel_rfl) (by kernel_rfl) rfl hf (by decide) rfl (wantN hf rfl rfl hb127) ⟨_, hp⟩ ?_
                            clear hf; intro a hf
                            refine dr_out 12 rfl (by kernel_rfl) (by kernel_rfl) (by kernel_rfl) (by kernel_rfl) rfl hf (by decide) rfl (wantN hf rfl rfl hb127) ⟨_, hp⟩ ?_
                            clear hf; intro a hf
                            refine dr_out 13 rfl (by kernel_rfl) (by kernel_rfl) (by kernel_rfl) (by kernel_rfl) rfl hf (by decide) rfl (wantN hf rfl rfl hb127) ⟨_, hp⟩ ?_
                            clear hf; intro a hf
                            refine dr_take 14 (.bool z138) rfl (by kernel_rfl) (by kernel_rfl) (by kernel_rfl) (by kernel_rfl) rfl rfl hf (by decide) rfl (fun w hp => ?_) ⟨_, hp⟩ ?_
                            · obtain ⟨_, hp⟩ := hp
                              refine st_pick (v := .bool z138) hf rfl rfl (fun _ => by rw [← hz126]; rfl) (fun hb' => absurd (hb127.symm.trans hb') (by decide)) (by decide) ?_
                              clear hf; intro a ha hf
                              exact st_nil hf (th_n ⟨ha, rfl⟩)
                            clear hf; intro a hf
                            refine dr_take 15 (.bool z138) rfl (by kernel_rfl) (by kernel_rfl) (by kernel_rfl) (by kernel_rfl) rfl rfl hf (by decide) rfl (fun w hp => ?_) ⟨_, hp⟩ ?_
                            · obtain ⟨_, hp⟩ := hp
                              refine st_move hf rfl rfl (by decide) ?_
                              clear hf; intro a ha hf
                              exact st_nil hf (th_n ⟨ha, rfl⟩)
                            clear hf; intro a hf
                            refine dr_take 16 (v34) rfl (by kernel_rfl) (by kernel_rfl) (by kernel_rfl) (by kernel_rfl) rfl rfl hf (by decide) (wantY hf rfl rfl hb140) (fun w hp => ?_) ⟨_, hp⟩ ?_
                            · obtain ⟨_, hp⟩ := hp
                              refine st_move hf (wantY hf rfl rfl hb140) rfl (by decide) ?_
                              clear hf; intro a ha hf
                              exact st_nil hf (th_n ⟨ha, rfl⟩)
                            clear hf; intro a hf
                            refine dr_take 17 (v14) rfl (by kernel_rfl) (by kernel_rfl) (by kernel_rfl) (by kernel_rfl) rfl rfl hf (by decide) (wantY hf rfl rfl hb140) (fun w hp => ?_) ⟨_, hp⟩ ?_
                            · obtain ⟨_, hp⟩ := hp
                              refine st_move hf (wantY hf rfl rfl hb140) rfl (by decide) ?_
                              clear hf; intro a ha hf
                              exact st_nil hf (th_n ⟨ha, rfl⟩)
                            clear hf; intro a hf
                            refine dr_one 18 rfl (by kernel_rfl) ?_
                            obtain ⟨S143, hp144, rd145, up146, bk147⟩ := Hp.lendR hp (i := 0) rfl
                            refine st_call hf (by decide) Try.func14 rfl rfl (wantY hf rfl rfl hb140) rfl rfl (f_foghornref17_Lists_c hp144 _ _ _ rd145 _ _ _ ((rl123.now hp).mono up146) hcall142) ?_
                            rintro _ w ⟨rfl, hp0⟩
                            have hp0 := bk147 _ _ hp0
                            clear hp; have hp := hp0; clear hp0
                            replace hp : Hp _ _ w (Res.rows (RowK.sl (Ek.int .i64) 3) 22 v34 v35 q27.1 :: ow) := hp
                            refine ⟨_, rfl, ?_⟩
                            clear hf; intro a hf
                            refine st_nil hf (th_n ⟨fun _ _ => ⟨_, hp⟩, ?_⟩)
                            refine dr_take 19 (.bool (!q141)) rfl (by kernel_rfl) (by kernel_rfl) (by kernel_rfl) (by kernel_rfl) rfl rfl hf (by decide) (wantY hf rfl rfl hb140) (fun w hp => ?_) ⟨_, hp⟩ ?_
                            · obtain ⟨_, hp⟩ := hp
                              refine st_not hf (by decide) (wantY hf rfl rfl hb140) rfl ?_
                              clear hf; intro a ha hf
                              exact st_nil hf (th_n ⟨ha, rfl⟩)
                            clear hf; intro a hf
                            refine dr_take 20 (.bool z148) rfl (by kernel_rfl) (by kernel_rfl) (by kernel_rfl) (by kernel_rfl) rfl rfl hf (by decide) rfl (fun w hp => ?_) ⟨_, hp⟩ ?_
                            · obtain ⟨_, hp⟩ := hp
                              refine st_pick (v := .bool z148) hf rfl rfl (fun hb' => absurd (hb140.symm.trans hb') (by decide)) (fun _ => by rw [← hz139]; rfl) (by decide) ?_
                              clear hf; intro a ha hf
                              exact st_nil hf (th_n ⟨ha, rfl⟩)
                            clear hf; intro a hf
                            refine dr_end (by kernel_rfl) ?_ _
                            have hp := bk122 _ _ hp
                            have hp := bk117 _ _ hp
                            have hp := bk112 _ _ hp
                            exact ⟨hf.sub ⟨rfl, rfl, rfl, rfl, rfl, trivial⟩, hp⟩
                        · skip
                          replace hz126 := ifF hz126 hb127
                          obtain ⟨hc128, hz126⟩ := chk hz126
                          have hc129 : ((IntKind.i64.wrap (i15 + (1 : Int)))).toNat ≤ (a11.set (i15).toNat none).length := by omega
                          have hc130 : (a11.set (i15).toNat none).length ≤ (a11.set (i15).toNat none).length := by omega
                          obtain ⟨q131, hq132, hz126⟩ := bnd hz126
                          obtain ⟨hc133, hz126⟩ := chk hz126
                          have hc134 : ((IntKind.i64.wrap (i15 + (1 : Int)))).toNat ≤ q12.1.length := by omega
                          have hc135 : q12.1.length ≤ q12.1.length := by omega
                          obtain ⟨q136, hcall137, hz126⟩ := bnd hz126
                          replace hz126 := Option.some.inj hz126
                          rcases Bool.eq_false_or_eq_true z138 with hb140 | hb140
                          · skip
                            replace hz139 := ifT hz139 hb140
                            replace hz139 := Option.some.inj hz139
                            refine dr_begin' (fun a w => Fr 132 a [(9, v14), (11, v86), (13, v34), (15, .int .i64 i15), (131, .bool z148)] ∧ Hp S w0 w (Res.sl (Ek.int .i64) 3 v101 q107 :: Res.rowsH (RowK.sl (Ek.int .i64) 3) 22 v86 vs87 (a11.set (i15).toNat none) :: Res.rows (RowK.sl (Ek.int .i64) 3) 22 v14 v15 q12.1 :: Res.rows (RowK.sl (Ek.int .i64) 3) 22 v34 v35 q27.1 :: ow)) (fun w' => ∃ l, Hp S118 w w' l) [] (by kernel_rfl) ?_
                            refine dr_take 0 (v101) rfl (by kernel_rfl) (by kernel_rfl) (by kernel_rfl) (by kernel_rfl) rfl rfl hf (by decide) rfl (fun w hp => ?_) ⟨_, hp⟩ ?_
                            · obtain ⟨_, hp⟩ := hp
                              refine st_move hf rfl rfl (by decide) ?_
                              clear hf; intro a ha hf
                              exact st_nil hf (th_n ⟨ha, rfl⟩)
                            clear hf; intro a hf
                            refine dr_take 1 (.int .i64 (q107.length : Int)) rfl (by kernel_rfl) (by kernel_rfl) (by kernel_rfl) (by kernel_rfl) rfl rfl hf (by decide) rfl (fun w hp => ?_) ⟨_, hp⟩ ?_
                            · obtain ⟨_, hp⟩ := hp
                              refine st_len (E := (Ek.int .i64)) hf (by decide) Try.underlying22 rfl rfl (rl125.sl hp) ?_
                              clear hf; intro a ha hf
                              exact st_nil hf (th_n ⟨ha, rfl⟩)
                            clear hf; intro a hf
                            refine dr_take 2 (.bool (decide ((q107.length : Int) < (20 : Int)))) rfl (by kernel_rfl) (by kernel_rfl) (by kernel_rfl) (by kernel_rfl) rfl rfl hf (by decide) rfl (fun w hp => ?_) ⟨_, hp⟩ ?_
                            · obtain ⟨_, hp⟩ := hp
                              refine st_ilss hf (by decide) rfl rfl rfl ?_
                              clear hf; intro a ha hf
                              exact st_nil hf (th_n ⟨ha, rfl⟩)
                            clear hf; intro a hf
                            refine dr_take 3 (.bool (decide ((q107.length : Int) < (20 : Int)))) rfl (by kernel_rfl) (by kernel_rfl) (by kernel_rfl) (by kernel_rfl) rfl rfl hf (by decide) rfl (fun w hp => ?_) ⟨_, hp⟩ ?_
                            · obtain ⟨_, hp⟩ := hp
                              refine st_move hf rfl rfl (by decide) ?_
                              clear hf; intro a ha hf
                              exact st_nil hf (th_n ⟨ha, rfl⟩)
                            clear hf; intro a hf
                            refine dr_take 4 (v86) rfl (by kernel_rfl) (by kernel_rfl) (by kernel_rfl) (by kernel_rfl) rfl rfl hf (by decide) (wantY hf rfl rfl hb127) (fun w hp => ?_) ⟨_, hp⟩ ?_
                            · obtain ⟨_, hp⟩ := hp
                              refine st_move hf (wantY hf rfl rfl hb127) rfl (by decide) ?_
                              clear hf; intro a ha hf
                              exact st_nil hf (th_n ⟨ha, rfl⟩)
                            clear hf; intro a hf
                            refine dr_take 5 (.int .i64 i15) rfl (by kernel_rfl) (by kernel_rfl) (by kernel_rfl) (by kernel_rfl) rfl rfl hf (by decide) (wantY hf rfl rfl hb127) (fun w hp => ?_) ⟨_, hp⟩ ?_
                            · obtain ⟨_, hp⟩ := hp
                              refine st_move hf (wantY hf rfl rfl hb127) rfl (by decide) ?_
                              clear hf; intro a ha hf
                              exact st_nil hf (th_n ⟨ha, rfl⟩)
                            clear hf; intro a hf
                            refine dr_take 6 (.int .i64 (IntKind.i64.wrap (i15 + (1 : Int)))) rfl (by kernel_rfl) (by kernel_rfl) (by kernel_rfl) (by kernel_rfl) rfl rfl hf (by decide) (wantY hf rfl rfl hb127) (fun w hp => ?_) ⟨_, hp⟩ ?_
                            · obtain ⟨_, hp⟩ := hp
                              refine st_iadd hf (by decide) (wantY hf rfl rfl hb127) rfl rfl ?_
                              clear hf; intro a ha hf
                              exact st_nil hf (th_n ⟨ha, rfl⟩)
                            clear hf; intro a hf
                            refine dr_take 7 ((GL.cut v86 ((IntKind.i64.wrap (i15 + (1 : Int)))).toNat ((a11.set (i15).toNat none).length) 1)) rfl (by kernel_rfl) (by kernel_rfl) (by kernel_rfl) (by kernel_rfl) rfl rfl hf (by decide) (wantY hf rfl rfl hb127) (fun w hp => ?_) ⟨_, hp⟩ ?_
                            · obtain ⟨_, hp⟩ := hp
                              refine st_cutR hf (by decide) Try.underlying23 eltv22 (wantY hf rfl rfl hb127) rfl (rl124.ob hp) (.inr ⟨_, _, rfl, evI rfl hc128.1⟩) (.inl ⟨rfl, rfl⟩) hc129 hc130 ?_
                              clear hf; intro a ha hf
                              exact st_nil hf (th_n ⟨ha, rfl⟩)
                            clear hf; intro a hf
                            refine dr_take 8 (v14) rfl (by kernel_rfl) (by kernel_rfl) (by kernel_rfl) (by kernel_rfl) rfl rfl hf (by decide) (wantY hf rfl rfl hb127) (fun w hp => ?_) ⟨_, hp⟩ ?_
                            · obtain ⟨_, hp⟩ := hp
                              refine st_move hf (wantY hf rfl rfl hb127) rfl (by decide) ?_
                              clear hf; intro a ha hf
                              exact st_nil hf (th_n ⟨ha, rfl⟩)
                            clear hf; intro a hf
                            refine dr_take 9 (.int .i64 i15) rfl (by kernel_rfl) (by kernel_rfl) (by kernel_rfl) (by kernel_rfl) rfl rfl hf (by decide) (wantY hf rfl rfl hb127) (fun w hp => ?_) ⟨_, hp⟩ ?_
                            · obtain ⟨_, hp⟩ := hp
                              refine st_move hf (wantY hf rfl rfl hb127) rfl (by decide) ?_
                              clear hf; intro a ha hf
                              exact st_nil hf (th_n ⟨ha, rfl⟩)
                            clear hf; intro a hf
                            refine dr_take 10 (.int .i64 (IntKind.i64.wrap (i15 + (1 : Int)))) rfl (by kernel_rfl) (by kernel_rfl) (by kernel_rfl) (by kernel_rfl) rfl rfl hf (by decide) (wantY hf rfl rfl hb127) (fun w hp => ?_) ⟨_, hp⟩ ?_
                            · obtain ⟨_, hp⟩ := hp
                              refine st_iadd hf (by decide) (wantY hf rfl rfl hb127) rfl rfl ?_
                              clear hf; intro a ha hf
                              exact st_nil hf (th_n ⟨ha, rfl⟩)
                            clear hf; intro a hf
                            refine dr_take 11 ((GL.cut v14 ((IntKind.i64.wrap (i15 + (1 : Int)))).toNat q12.1.length 1)) rfl (by kernel_rfl) (by kernel_rfl) (by kernel_rfl) (by kernel_rfl) rfl rfl hf (by decide) (wantY hf rfl rfl hb127) (fun w hp => ?_) ⟨_, hp⟩ ?_
                            · obtain ⟨_, hp⟩ := hp
                              refine st_cutR hf (by decide) Try.underlying23 eltv22 (wantY hf rfl rfl hb127) rfl (rl123.ob hp) (.inr ⟨_, _, rfl, evI rfl hc133.1⟩) (.inl ⟨rfl, by rw [List.length_map]⟩) hc134 (by rw [List.length_map]; exact hc135) ?_
                              clear hf; intro a ha hf
                              exact st_nil hf (th_n ⟨ha, rfl⟩)
                            clear hf; intro a hf
                            refine dr_one 12 rfl (by kernel_rfl) ?_
                            refine st_call hf (by decide) Try.func14 rfl rfl (wantY hf rfl rfl hb127) rfl rfl (f_foghornref17_Lists_c hp _ _ _ (RdR.cutO rl124 hc129 hc130 hq132) _ _ _ (RdR.cutY rl123 hc134 hc135) hcall137) ?_
                            rintro _ w ⟨rfl, hp0⟩
                            clear hp; have hp := hp0; clear hp0
                            replace hp : Hp _ _ w (Res.rows (RowK.sl (Ek.int .i64) 3) 22 v34 v35 q27.1 :: ow) := hp
                            refine ⟨_, rfl, ?_⟩
                            clear hf; intro a hf
                            refine st_nil hf (th_n ⟨fun _ _ => ⟨_, hp⟩, ?_⟩)
                            refine dr_take 13 (.bool (!q136)) rfl (by kernel_rfl) (by kernel_rfl) (by kernel_rfl) (by kernel_rfl) rfl rfl hf (by decide) (wantY hf rfl rfl hb127) (fun w hp => ?_) ⟨_, hp⟩ ?_
                            · obtain ⟨_, hp⟩ := hp
                              refine st_not hf (by decide) (wantY hf rfl rfl hb127) rfl ?_
                              clear hf; intro a ha hf
                              exact st_nil hf (th_n ⟨ha, rfl⟩)
                            clear hf; intro a hf
                            refine dr_take 14 (.bool z138) rfl (by kernel_rfl) (by kernel_rfl) (by kernel_rfl) (by kernel_rfl) rfl rfl hf (by decide) rfl (fun w hp => ?_) ⟨_, hp⟩ ?_
                            · obtain ⟨_, hp⟩ := hp
                              refine st_pick (v := .bool z138) hf rfl rfl (fun hb' => absurd (hb127.symm.trans hb') (by decide)) (fun _ => by rw [← hz126]; rfl) (by decide) ?_
                              clear hf; intro a ha hf
                              exact st_nil hf (th_n ⟨ha, rfl⟩)
                            clear hf; intro a hf
                            refine dr_take 15 (.bool z138) rfl (by kernel_rfl) (by kernel_rfl) (by kernel_rfl) (by kernel_rfl) rfl rfl hf (by decide) rfl (fun w hp => ?_) ⟨_, hp⟩ ?_
                            · obtain ⟨_, hp⟩ := hp
                              refine st_move hf rfl rfl (by decide) ?_
                              clear hf; intro a ha hf
                              exact st_nil hf (th_n ⟨ha, rfl⟩)
                            clear hf; intro a hf
                            refine dr_out 16 rfl (by kernel_rfl) (by kernel_rfl) (by kernel_rfl) (by kernel_rfl) rfl hf (by decide) rfl (wantN hf rfl rfl hb140) ⟨_, hp⟩ ?_
                            clear hf; intro a hf
                            refine dr_out 17 rfl (by kernel_rfl) (by kernel_rfl) (by kernel_rfl) (by kernel_rfl) rfl hf (by decide) rfl (wantN hf rfl rfl hb140) ⟨_, hp⟩ ?_
                            clear hf; intro a hf
                            refine dr_out 18 rfl (by kernel_rfl) (by kernel_rfl) (by kernel_rfl) (by kernel_rfl) rfl hf (by decide) rfl (wantN hf rfl rfl hb140) ⟨_, hp⟩ ?_
                            clear hf; intro a hf
                            refine dr_out 19 rfl (by kernel_rfl) (by kernel_rfl) (by kernel_rfl) (by kernel_rfl) rfl hf (by decide) rfl (wantN hf rfl rfl hb140) ⟨_, hp⟩ ?_
                            clear hf; intro a hf
                            refine dr_take 20 (.bool z148) rfl (by kernel_rfl) (by kernel_rfl) (by kernel_rfl) (by kernel_rfl) rfl rfl hf (by decide) rfl (fun w hp => ?_) ⟨_, hp⟩ ?_
                            · obtain ⟨_, hp⟩ := hp
                              refine st_pick (v := .bool z148) hf rfl rfl (fun _ => by rw [← hz139]; rfl) (fun hb' => absurd (hb140.symm.trans hb') (by decide)) (by decide) ?_
                              clear hf; intro a ha hf
                              exact st_nil hf (th_n ⟨ha, rfl⟩)
                            clear hf; intro a hf
                            refine dr_end (by kernel_rfl) ?_ _
                            have hp := bk122 _ _ hp
                            have hp := bk117 _ _ hp
                            have hp := bk112 _ _ hp
                            exact ⟨hf.sub ⟨rfl, rfl, rfl, rfl, rfl, trivial⟩, hp⟩
                          · skip
                            replace hz139 := ifF hz139 hb140
                            obtain ⟨q141, hcall142, hz139⟩ := bnd hz139
                            replace hz139 := Option.some.inj hz139
                            refine dr_begin' (fun a w => Fr 132 a [(9, v14), (11, v86), (13, v34), (15, .int .i64 i15), (131, .bool z148)] ∧ Hp S w0 w (Res.sl (Ek.int .i64) 3 v101 q107 :: Res.rowsH (RowK.sl (Ek.int .i64) 3) 22 v86 vs87 (a11.set (i15).toNat none) :: Res.rows (RowK.sl (Ek.int .i64) 3) 22 v14 v15 q12.1 :: Res.rows (RowK.sl (Ek.int .i64) 3) 22 v34 v35 q27.1 :: ow)) (fun w' => ∃ l, Hp S118 w w' l) [] (by kernel_rfl) ?_
                            refine dr_take 0 (v101) rfl (by kernel_rfl) (by kernel_rfl) (by kernel_rfl) (by kernel_rfl) rfl rfl hf (by decide) rfl (fun w hp => ?_) ⟨_, hp⟩ ?_
                            · obtain ⟨_, hp⟩ := hp
                              refine st_move hf rfl rfl (by decide) ?_
                              clear hf; intro a ha hf
                              exact st_nil hf (th_n ⟨ha, rfl⟩)
                            clear hf; intro a hf
                            refine dr_take 1 (.int .i64 (q107.length : Int)) rfl (by kernel_rfl) (by kernel_rfl) (by kernel_rfl) (by kernel_rfl) rfl rfl hf (by decide) rfl (fun w hp => ?_) ⟨_, hp⟩ ?_
                            · obtain ⟨_, hp⟩ := hp
                              refine st_len (E := (Ek.int .i64)) hf (by decide) Try.underlying22 rfl rfl (rl125.sl hp) ?_
                              clear hf; intro a ha hf
                              exact st_nil hf (th_n ⟨ha, rfl⟩)
                            clear hf; intro a hf
                            refine dr_take 2 (.bool (decide ((q107.length : Int) < (20 : Int)))) rfl (by kernel_rfl) (by kernel_rfl) (by kernel_rfl) (by kernel_rfl) rfl rfl hf (by decide) rfl (fun w hp => ?_) ⟨_, hp⟩ ?_
                            · obtain ⟨_, hp⟩ := hp
                              refine st_ilss hf (by decide) rfl rfl rfl ?_
                              clear hf; intro a ha hf
                              exact st_nil hf (th_n ⟨ha, rfl⟩)
                            clear hf; intro a hf
                            refine dr_take 3 (.bool (decide ((q107.length : Int) < (20 : Int)))) rfl (by kernel_rfl) (by kernel_rfl) (by kernel_rfl) (by kernel_rfl) rfl rfl hf (by decide) rfl (fun w hp => ?_) ⟨_, hp⟩ ?_
                            · obtain ⟨_, hp⟩ := hp
                              refine st_move hf rfl rfl (by decide) ?_
                              clear hf; intro a ha hf
                              exact st_nil hf (th_n ⟨ha, rfl⟩)
                            clear hf; intro a hf
                            refine dr_take 4 (v86) rfl (by kernel_rfl) (by kernel_rfl) (by kernel_rfl) (by kernel_rfl) rfl rfl hf (by decide) (wantY hf rfl rfl hb127) (fun w hp => ?_) ⟨_, hp⟩ ?_
                            · obtain ⟨_, hp⟩ := hp
                              refine st_move hf (wantY hf rfl rfl hb127) rfl (by decide) ?_
                              clear hf; intro a ha hf
                              exact st_nil hf (th_n ⟨ha, rfl⟩)
                            clear hf; intro a hf
                            refine dr_take 5 (.int .i64 i15) rfl (by kernel_rfl) (by kernel_rfl) (by kernel_rfl) (by kernel_rfl) rfl rfl hf (by decide) (wantY hf rfl rfl hb127) (fun w hp => ?_) ⟨_, hp⟩ ?_
                            · obtain ⟨_, hp⟩ := hp
                              refine st_move hf (wantY hf rfl rfl hb127) rfl (by decide) ?_
                              clear hf; intro a ha hf
                              exact st_nil hf (th_n ⟨ha, rfl⟩)
                            clear hf; intro a hf
                            refine dr_take 6 (.int .i64 (IntKind.i64.wrap (i15 + (1 : Int)))) rfl (by kernel_rfl) (by kernel_rfl) (by kernel_rfl) (by kernel_rfl) rfl rfl hf (by decide) (wantY hf rfl rfl hb127) (fun w hp => ?_) ⟨_, hp⟩ ?_
                            · obtain ⟨_, hp⟩ := hp
                              refine st_iadd hf (by decide) (wantY hf rfl rfl hb127) rfl rfl ?_
                              clear hf; intro a ha hf
                              exact st_nil hf (th_n ⟨ha, rfl⟩)
                            clear hf; intro a hf
                            refine dr_take 7 ((GL.cut v86 ((IntKind.i64.wrap (i15 + (1 : Int)))).toNat ((a11.set (i15).toNat none).length) 1)) rfl (by kernel_rfl) (by kernel_rfl) (by kernel_rfl) (by kernel_rfl) rfl rfl hf (by decide) (wantY hf rfl rfl hb127) (fun w hp => ?_) ⟨_, hp⟩ ?_
                            · obtain ⟨_, hp⟩ := hp
                              refine st_cutR hf (by decide) Try.underlying23 eltv22 (wantY hf rfl rfl hb127) rfl (rl124.ob hp) (.inr ⟨_, _, rfl, evI rfl hc128.1⟩) (.inl ⟨rfl, rfl⟩) hc129 hc130 ?_
                              clear hf; intro a ha hf
                              exact st_nil hf (th_n ⟨ha, rfl⟩)
                            clear hf; intro a hf
                            refine dr_take 8 (v14) rfl (by kernel_rfl) (by kernel_rfl) (by kernel_rfl) (by kernel_rfl) rfl rfl hf (by decide) (wantY hf rfl rfl hb127) (fun w hp => ?_) ⟨_, hp⟩ ?_
                            · obtain ⟨_, hp⟩ := hp
                              refine st_move hf (wantY hf rfl rfl hb127) rfl (by decide) ?_
                              clear hf; intro a ha hf
                              exact st_nil hf (th_n ⟨ha, rfl⟩)
                            clear hf; intro a hf
                            refine dr_take 9 (.int .i64 i15) rfl (by kernel_rfl) (by kernel_rfl) (by kernel_rfl) (by kernel_rfl) rfl rfl hf (by decide) (wantY hf rfl rfl hb127) (fun w hp => ?_) ⟨_, hp⟩ ?_
                            · obtain ⟨_, hp⟩ := hp
                              refine st_move hf (wantY hf rfl rfl hb127) rfl (by decide) ?_
                              clear hf; intro a ha hf
                              exact st_nil hf (th_n ⟨ha, rfl⟩)
                            clear hf; intro a hf
                            refine dr_take 10 (.int .i64 (IntKind.i64.wrap (i15 + (1 : Int)))) rfl (by kernel_rfl) (by kernel_rfl) (by kernel_rfl) (by kernel_rfl) rfl rfl hf (by decide) (wantY hf rfl rfl hb127) (fun w hp => ?_) ⟨_, hp⟩ ?_
                            · obtain ⟨_, hp⟩ := hp
                              refine st_iadd hf (by decide) (wantY hf rfl rfl hb127) rfl rfl ?_
                              clear hf; intro a ha hf
                              exact st_nil hf (th_n ⟨ha, rfl⟩)
                            clear hf; intro a hf
                            refine dr_take 11 ((GL.cut v14 ((IntKind.i64.wrap (i15 + (1 : Int)))).toNat q12.1.length 1)) rfl (by kernel_rfl) (by kernel_rfl) (by kernel_rfl) (by kernel_rfl) rfl rfl hf (by decide) (wantY hf rfl rfl hb127) (fun w hp => ?_) ⟨_, hp⟩ ?_
                            · obtain ⟨_, hp⟩ := hp
                              refine st_cutR hf (by decide) Try.underlying23 eltv22 (wantY hf rfl rfl hb127) rfl (rl123.ob hp) (.inr ⟨_, _, rfl, evI rfl hc133.1⟩) (.inl ⟨rfl, by rw [List.length_map]⟩) hc134 (by rw [List.length_map]; exact hc135) ?_
                              clear hf; intro a ha hf
                              exact st_nil hf (th_n ⟨ha, rfl⟩)
                            clear hf; intro a hf
                            refine dr_one 12 rfl (by kernel_rfl) ?_
                            refine st_call hf (by decide) Try.func14 rfl rfl (wantY hf rfl rfl hb127) rfl rfl (f_foghornref17_Lists_c hp _ _ _ (RdR.cutO rl124 hc129 hc130 hq132) _ _ _ (RdR.cutY rl123 hc134 hc135) hcall137) ?_
                            rintro _ w ⟨rfl, hp0⟩
                            clear hp; have hp := hp0; clear hp0
                            replace hp : Hp _ _ w (Res.rows (RowK.sl (Ek.int .i64) 3) 22 v34 v35 q27.1 :: ow) := hp
                            refine ⟨_, rfl, ?_⟩
                            clear hf; intro a hf
                            refine st_nil hf (th_n ⟨fun _ _ => ⟨_, hp⟩, ?_⟩)
                            refine dr_take 13 (.bool (!q136)) rfl (by kernel_rfl) (by kernel_rfl) (by kernel_rfl) (by kernel_rfl) rfl rfl hf (by decide) (wantY hf rfl rfl hb127) (fun w hp => ?_) ⟨_, hp⟩ ?_
                            · obtain ⟨_, hp⟩ := hp
                              refine st_not hf (by decide) (wantY hf rfl rfl hb127) rfl ?_
                              clear hf; intro a ha hf
                              exact st_nil hf (th_n ⟨ha, rfl⟩)
                            clear hf; intro a hf
                            refine dr_take 14 (.bool z138) rfl (by kernel_rfl) (by kernel_rfl) (by kernel_rfl) (by kernel_rfl) rfl rfl hf (by decide) rfl (fun w hp => ?_) ⟨_, hp⟩ ?_
                            · obtain ⟨_, hp⟩ := hp
                              refine st_pick (v := .bool z138) hf rfl rfl (fun hb' => absurd (hb127.symm.trans hb') (by decide)) (fun _ => by rw [← hz126]; rfl) (by decide) ?_
                              clear hf; intro a ha hf
                              exact st_nil hf (th_n ⟨ha, rfl⟩)
                            clear hf; intro a hf
                            refine dr_take 15 (.bool z138) rfl (by kernel_rfl) (by kernel_rfl) (by kernel_rfl) (by kernel_rfl) rfl rfl hf (by decide) rfl (fun w hp => ?_) ⟨_, hp⟩ ?_
                            · obtain ⟨_, hp⟩ := hp
                              refine st_move hf rfl rfl (by decide) ?_
                              clear hf; intro a ha hf
                              exact st_nil hf (th_n ⟨ha, rfl⟩)
                            clear hf; intro a hf
                            refine dr_take 16 (v34) rfl (by kernel_rfl) (by kernel_rfl) (by kernel_rfl) (by kernel_rfl) rfl rfl hf (by decide) (wantY hf rfl rfl hb140) (fun w hp => ?_) ⟨_, hp⟩ ?_
                            · obtain ⟨_, hp⟩ := hp
                              refine st_move hf (wantY hf rfl rfl hb140) rfl (by decide) ?_
                              clear hf; intro a ha hf
                              exact st_nil hf (th_n ⟨ha, rfl⟩)
                            clear hf; intro a hf
                            refine dr_take 17 (v14) rfl (by kernel_rfl) (by kernel_rfl) (by kernel_rfl) (by kernel_rfl) rfl rfl hf (by decide) (wantY hf rfl rfl hb140) (fun w hp => ?_) ⟨_, hp⟩ ?_
                            · obtain ⟨_, hp⟩ := hp
                              refine st_move hf (wantY hf rfl rfl hb140) rfl (by decide) ?_
                              clear hf; intro a ha hf
                              exact st_nil hf (th_n ⟨ha, rfl⟩)
                            clear hf; intro a hf
                            refine dr_one 18 rfl (by kernel_rfl) ?_
                            obtain ⟨S143, hp144, rd145, up146, bk147⟩ := Hp.lendR hp (i := 0) rfl
                            refine st_call hf (by decide) Try.func14 rfl rfl (wantY hf rfl rfl hb140) rfl rfl (f_foghornref17_Lists_c hp144 _ _ _ rd145 _ _ _ ((rl123.now hp).mono up146) hcall142) ?_
                            rintro _ w ⟨rfl, hp0⟩
                            have hp0 := bk147 _ _ hp0
                            clear hp; have hp := hp0; clear hp0
                            replace hp : Hp _ _ w (Res.rows (RowK.sl (Ek.int .i64) 3) 22 v34 v35 q27.1 :: ow) := hp
                            refine ⟨_, rfl, ?_⟩
                            clear hf; intro a hf
                            refine st_nil hf (th_n ⟨fun _ _ => ⟨_, hp⟩, ?_⟩)
                            refine dr_take 19 (.bool (!q141)) rfl (by kernel_rfl) (by kernel_rfl) (by kernel_rfl) (by kernel_rfl) rfl rfl hf (by decide) (wantY hf rfl rfl hb140) (fun w hp => ?_) ⟨_, hp⟩ ?_
                            · obtain ⟨_, hp⟩ := hp
                              refine st_not hf (by decide) (wantY hf rfl rfl hb140) rfl ?_
                              clear hf; intro a ha hf
                              exact st_nil hf (th_n ⟨ha, rfl⟩)
                            clear hf; intro a hf
                            refine dr_take 20 (.bool z148) rfl (by kernel_rfl) (by kernel_rfl) (by kernel_rfl) (by kernel_rfl) rfl rfl hf (by decide) rfl (fun w hp => ?_) ⟨_, hp⟩ ?_
                            · obtain ⟨_, hp⟩ := hp
                              refine st_pick (v := .bool z148) hf rfl rfl (fun hb' => absurd (hb140.symm.trans hb') (by decide)) (fun _ => by rw [← hz139]; rfl) (by decide) ?_
                              clear hf; intro a ha hf
                              exact st_nil hf (th_n ⟨ha, rfl⟩)
                            clear hf; intro a hf
                            refine dr_end (by kernel_rfl) ?_ _
                            have hp := bk122 _ _ hp
                            have hp := bk117 _ _ hp
                            have hp := bk112 _ _ hp
                            exact ⟨hf.sub ⟨rfl, rfl, rfl, rfl, rfl, trivial⟩, hp⟩
                      · rintro a w ⟨hf, hp⟩
                        refine th_n ?_
                        refine wp_if hf rfl (fun hb => ?_) (fun hb => ?_)
                        · replace h := ifT h hb
                          refine wp_seq ?_
                          refine wp_reg ?_
                          refine st_assign hf rfl rfl (by decide) ?_
                          clear hf; intro a ha hf; clear ha
                          refine st_nil hf ?_
                          refine th_n ?_
                          refine wp_ret ?_
                          refine ib_r ?_
                          refine th_r ?_
                          obtain rfl := Option.some.inj h
                          have hp : Hp _ _ w (ow) := Hp.sel (pre := [Res.sl (Ek.int .i64) 3 v101 q107, Res.rowsH (RowK.sl (Ek.int .i64) 3) 22 v86 vs87 (a11.set (i15).toNat none), Res.rows (RowK.sl (Ek.int .i64) 3) 22 v14 v15 q12.1, Res.rows (RowK.sl (Ek.int .i64) 3) 22 v34 v35 q27.1]) (tail := ow) (rs' := []) hp [] (by decide) (by simp) rfl
                          exact rnd_r (by simp) ⟨rfl, ⟨hf.sub ⟨rfl, trivial⟩, hp⟩⟩
                        · replace h := ifF h hb
                          refine wp_skip ?_
                          refine ib_n ?_
                          refine th_n ?_
                          refine wp_reg ?_
                          refine st_move hf rfl rfl (by decide) ?_
                          clear hf; intro a ha hf; clear ha
                          refine st_iadd hf (by decide) rfl rfl rfl ?_
                          clear hf; intro a ha hf; clear ha
                          refine st_assign hf rfl rfl (by decide) ?_
                          clear hf; intro a ha hf; clear ha
                          refine st_nil hf ?_
                          obtain rfl := Option.some.inj h
                          have hp : Hp _ _ w (Res.rowsH (RowK.sl (Ek.int .i64) 3) 22 v86 vs87 (a11.set (i15).toNat none) :: Res.rows (RowK.sl (Ek.int .i64) 3) 22 v14 v15 q12.1 :: Res.rows (RowK.sl (Ek.int .i64) 3) 22 v34 v35 q27.1 :: ow) := Hp.sel (pre := [Res.sl (Ek.int .i64) 3 v101 q107, Res.rowsH (RowK.sl (Ek.int .i64) 3) 22 v86 vs87 (a11.set (i15).toNat none), Res.rows (RowK.sl (Ek.int .i64) 3) 22 v14 v15 q12.1, Res.rows (RowK.sl (Ek.int .i64) 3) 22 v34 v35 q27.1]) (tail := ow) (rs' := [Res.rowsH (RowK.sl (Ek.int .i64) 3) 22 v86 vs87 (a11.set (i15).toNat none), Res.rows (RowK.sl (Ek.int .i64) 3) 22 v14 v15 q12.1, Res.rows (RowK.sl (Ek.int .i64) 3) 22 v34 v35 q27.1]) hp [1, 2, 3] (by decide) (by simp) rfl
                          exact rnd_l ⟨_, _, hf.sub ⟨rfl, rfl, rfl, rfl, trivial⟩, hp⟩
                · replace h := ifF h hb
                  refine wp_exit ?_
                  refine th_e ?_
                  obtain rfl := Option.some.inj h
                  have hp : Hp _ _ w (ow) := Hp.sel (pre := [Res.rowsH (RowK.sl (Ek.int .i64) 3) 22 v86 vs87 a11, Res.rows (RowK.sl (Ek.int .i64) 3) 22 v14 v15 q12.1, Res.rows (RowK.sl (Ek.int .i64) 3) 22 v34 v35 q27.1]) (tail := ow) (rs' := []) hp [] (by decide) (by simp) rfl
                  exact rnd_r (by simp) ⟨rfl, hf.sub trivial, hp⟩
              · clear hl hf hp
                intro e a w hne hO
                cases q149 with
                | inl q150 =>
                  replace h := smL h
                  obtain ⟨rfl, hf, hp⟩ := hO
                  refine ib_same ?_
                  refine th_n ?_
                  refine wp_seq ?_
                  refine wp_reg ?_
                  refine st_assign hf rfl rfl (by decide) ?_
                  clear hf; intro a ha hf; clear ha
                  refine st_nil hf ?_
                  refine th_n ?_
                  refine wp_ret ?_
                  obtain rfl := Option.some.inj h
                  exact ⟨rfl, ⟨hf.sub ⟨rfl, trivial⟩, hp⟩⟩
                | inr q151 =>
                  replace h := smR h
                  obtain ⟨rfl, hf, hp⟩ := hO
                  refine ib_r ?_
                  refine th_r ?_
                  obtain rfl := Option.some.inj h
                  exact ⟨rfl, ⟨hf.sub ⟨rfl, trivial⟩, hp⟩⟩

end Go.Proofs.Ythoigfonjpmibaa
