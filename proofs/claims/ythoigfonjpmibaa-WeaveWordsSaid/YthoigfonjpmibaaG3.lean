/- The functions foghorn foghornlaw17.WeaveWords: what each answers, as a plain function, and that its call answers it; printed by gen.py. -/
import Derived.Test.YthoigfonjpmibaaProg
import Derived.Test.YthoigfonjpmibaaGlL
import Derived.KernelRfl
set_option linter.unusedVariables false
set_option maxRecDepth 100000
set_option maxHeartbeats 4000000
namespace Go.Proofs.Ythoigfonjpmibaa
open GL
theorem elt5 : ElT Try.prog (Ek.int .u8) 5 1 (0 : Int) := ElT.of (z := .int .u8 0) (by kernel_rfl) rfl
theorem pl5 : Plain Try.prog 5 := ⟨⟨_, Try.underlying5, trivial⟩⟩
theorem elt9 : ElT Try.prog Ek.str 9 16 ByteArray.empty := ElT.of (z := .string ByteArray.empty) (by kernel_rfl) rfl
theorem pl9 : Plain Try.prog 9 := ⟨⟨_, Try.underlying9, trivial⟩⟩
noncomputable def f_foghornref17_Of (count0 : Int) (length1 : Int) : Option Bool := (some ((((decide ((1 : Int) ≤ count0)) && (decide (count0 ≤ (255 : Int)))) && (decide ((1 : Int) ≤ length1))) && (decide (length1 ≤ (255 : Int)))))
theorem f_foghornref17_Of_c {S : Nat → Prop} {w0 w : World} {ow : List Res} (hp : Hp S w0 w ow) (count0 : Int) (length1 : Int) {r : Bool} (h : f_foghornref17_Of count0 length1 = some r) :
    Calls Try.prog 37 #[.int .i64 count0, .int .i64 length1] w (fun e w' => e = .returned (.bool r) ∧ Hp S w0 w' (ow)) := by
  unfold f_foghornref17_Of at h
  refine enter (n := 19) (args := [.int .i64 count0, .int .i64 length1]) Try.func37 rfl rfl (Nat.le_of_ble_eq_true rfl) fun a hf => ?_
  replace hf : Fr 19 a [(0, .int .i64 count0), (1, .int .i64 length1)] := hf
  refine wp_mono (Q := fun e a w => e = .ret ∧ Fr 19 a [(4, .bool r)] ∧ Hp S w0 w (ow)) ?_ ?_
  rotate_left
  · rintro e a w ⟨rfl, hf, hp⟩
    exact ret1 hf rfl rfl ⟨rfl, hp⟩
  refine wp_seq ?_
  refine wp_reg ?_
  refine st_assign hf rfl rfl (by decide) ?_
  clear hf; intro a ha hf; clear ha
  refine st_nil hf ?_
  refine th_n ?_
  refine wp_seq ?_
  refine wp_reg ?_
  refine st_move hf rfl rfl (by decide) ?_
  clear hf; intro a ha hf; clear ha
  refine st_igeq hf (by decide) rfl rfl rfl ?_
  clear hf; intro a ha hf; clear ha
  refine st_move hf rfl rfl (by decide) ?_
  clear hf; intro a ha hf; clear ha
  refine wpList_cut 3 (fun a w => Fr 19 a [(1, .int .i64 length1), (10, .bool ((decide ((1 : Int) ≤ count0)) && (decide (count0 ≤ (255 : Int)))))] ∧ Hp S w0 w (ow)) ?_ ?_
  · rcases Bool.eq_false_or_eq_true (decide ((1 : Int) ≤ count0)) with hb2 | hb2
    · skip
      refine st_move hf (wantY hf rfl rfl hb2) rfl (by decide) ?_
      clear hf; intro a ha hf; clear ha
      refine st_ileq hf (by decide) (wantY hf rfl rfl hb2) rfl rfl ?_
      clear hf; intro a ha hf; clear ha
      refine st_pick (v := .bool (decide (count0 ≤ (255 : Int)))) hf rfl rfl (fun hb' => ?_) (fun hb' => ?_) (by decide) ?_
      · rfl
      · exact absurd (hb2.symm.trans hb') (by decide)
      clear hf; intro a ha hf; clear ha
      refine st_nil hf (th_n ?_)
      exact ⟨hf.sub ⟨rfl, (by rw [hb2]; rfl), trivial⟩, hp⟩
    · skip
      refine st_skip hf (wantN hf rfl rfl hb2) rfl (by decide) ?_ rfl
      clear hf; intro a hf
      refine st_skip hf (wantN hf rfl rfl hb2) rfl (by decide) ?_ rfl
      clear hf; intro a hf
      refine st_pick (v := .bool false) hf rfl rfl (fun hb' => ?_) (fun hb' => ?_) (by decide) ?_
      · exact absurd (hb2.symm.trans hb') (by decide)
      · rfl
      clear hf; intro a ha hf; clear ha
      refine st_nil hf (th_n ?_)
      exact ⟨hf.sub ⟨rfl, (by rw [hb2]; rfl), trivial⟩, hp⟩
  · rintro a w ⟨hf, hp⟩
    refine st_move hf rfl rfl (by decide) ?_
    clear hf; intro a ha hf; clear ha
    refine wpList_cut 3 (fun a w => Fr 19 a [(1, .int .i64 length1), (14, .bool (((decide ((1 : Int) ≤ count0)) && (decide (count0 ≤ (255 : Int)))) && (decide ((1 : Int) ≤ length1))))] ∧ Hp S w0 w (ow)) ?_ ?_
    · rcases Bool.eq_false_or_eq_true ((decide ((1 : Int) ≤ count0)) && (decide (count0 ≤ (255 : Int)))) with hb4 | hb4
      · skip
        refine st_move hf (wantY hf rfl rfl hb4) rfl (by decide) ?_
        clear hf; intro a ha hf; clear ha
        refine st_igeq hf (by decide) (wantY hf rfl rfl hb4) rfl rfl ?_
        clear hf; intro a ha hf; clear ha
        refine st_pick (v := .bool (decide ((1 : Int) ≤ length1))) hf rfl rfl (fun hb' => ?_) (fun hb' => ?_) (by decide) ?_
        · rfl
        · exact absurd (hb4.symm.trans hb') (by decide)
        clear hf; intro a ha hf; clear ha
        refine st_nil hf (th_n ?_)
        exact ⟨hf.sub ⟨rfl, (by rw [hb4]; rfl), trivial⟩, hp⟩
      · skip
        refine st_skip hf (wantN hf rfl rfl hb4) rfl (by decide) ?_ rfl
        clear hf; intro a hf
        refine st_skip hf (wantN hf rfl rfl hb4) rfl (by decide) ?_ rfl
        clear hf; intro a hf
        refine st_pick (v := .bool false) hf rfl rfl (fun hb' => ?_) (fun hb' => ?_) (by decide) ?_
        · exact absurd (hb4.symm.trans hb') (by decide)
        · rfl
        clear hf; intro a ha hf; clear ha
        refine st_nil hf (th_n ?_)
        exact ⟨hf.sub ⟨rfl, (by rw [hb4]; rfl), trivial⟩, hp⟩
    · rintro a w ⟨hf, hp⟩
      refine st_move hf rfl rfl (by decide) ?_
      clear hf; intro a ha hf; clear ha
      refine wpList_cut 3 (fun a w => Fr 19 a [(18, .bool ((((decide ((1 : Int) ≤ count0)) && (decide (count0 ≤ (255 : Int)))) && (decide ((1 : Int) ≤ length1))) && (decide (length1 ≤ (255 : Int)))))] ∧ Hp S w0 w (ow)) ?_ ?_
      · rcases Bool.eq_false_or_eq_true (((decide ((1 : Int) ≤ count0)) && (decide (count0 ≤ (255 : Int)))) && (decide ((1 : Int) ≤ length1))) with hb6 | hb6
        · skip
          refine st_move hf (wantY hf rfl rfl hb6) rfl (by decide) ?_
          clear hf; intro a ha hf; clear ha
          refine st_ileq hf (by decide) (wantY hf rfl rfl hb6) rfl rfl ?_
          clear hf; intro a ha hf; clear ha
          refine st_pick (v := .bool (decide (length1 ≤ (255 : Int)))) hf rfl rfl (fun hb' => ?_) (fun hb' => ?_) (by decide) ?_
          · rfl
          · exact absurd (hb6.symm.trans hb') (by decide)
          clear hf; intro a ha hf; clear ha
          refine st_nil hf (th_n ?_)
          exact ⟨hf.sub ⟨(by rw [hb6]; rfl), trivial⟩, hp⟩
        · skip
          refine st_skip hf (wantN hf rfl rfl hb6) rfl (by decide) ?_ rfl
          clear hf; intro a hf
          refine st_skip hf (wantN hf rfl rfl hb6) rfl (by decide) ?_ rfl
          clear hf; intro a hf
          refine st_pick (v := .bool false) hf rfl rfl (fun hb' => ?_) (fun hb' => ?_) (by decide) ?_
          · exact absurd (hb6.symm.trans hb') (by decide)
          · rfl
          clear hf; intro a ha hf; clear ha
          refine st_nil hf (th_n ?_)
          exact ⟨hf.sub ⟨(by rw [hb6]; rfl), trivial⟩, hp⟩
      · rintro a w ⟨hf, hp⟩
        refine st_assign hf rfl rfl (by decide) ?_
        clear hf; intro a ha hf; clear ha
        refine st_nil hf ?_
        refine th_n ?_
        refine wp_ret ?_
        obtain rfl := Option.some.inj h
        exact ⟨rfl, ⟨hf.sub ⟨rfl, trivial⟩, hp⟩⟩

noncomputable def f_foghornref17_In.s1c (words0 : (List ByteArray)) (i4 : Int) : Option (Int ⊕ (Unit ⊕ (ByteArray × Int))) := (if (decide (i4 < (words0.length : Int))) = true then (if 0 ≤ i4 ∧ i4 < (words0.length : Int) then (if 0 ≤ (0 : Int) ∧ (0 : Int) < (words0.length : Int) then (if (((gt words0 i4).size : Int) != ((gt words0 (0 : Int)).size : Int)) = true then (some (Sum.inr (Sum.inr ((ByteArray.mk #[]), (1 : Int))))) else (some (Sum.inl (IntKind.i64.wrap (i4 + (1 : Int)))))) else none) else none) else (some (Sum.inr (Sum.inl ()))))
noncomputable def f_foghornref17_In.s1 (words0 : (List ByteArray)) (s : Int) : Option (Int ⊕ (Unit ⊕ (ByteArray × Int))) := f_foghornref17_In.s1c words0 s
noncomputable def f_foghornref17_In.s3c (words0 : (List ByteArray)) (at6 : Int) (b5 : (List Int)) (w7 : Int) : Option (((List Int) × Int) ⊕ (List Int)) := (if (decide (w7 < (words0.length : Int))) = true then (if 0 ≤ w7 ∧ w7 < (words0.length : Int) then (if 0 ≤ at6 ∧ at6 < ((gt words0 w7).size : Int) then (if (b5.length + ([(bt (gt words0 w7) at6)]).length) * 1 ≤ 140737488355328 then (some (Sum.inl ((b5 ++ [(bt (gt words0 w7) at6)]), (IntKind.i64.wrap (w7 + (1 : Int)))))) else none) else none) else none) else (some (Sum.inr b5)))
noncomputable def f_foghornref17_In.s3 (words0 : (List ByteArray)) (at6 : Int) (s : ((List Int) × Int)) : Option (((List Int) × Int) ⊕ (List Int)) := f_foghornref17_In.s3c words0 at6 s.1 s.2
noncomputable def f_foghornref17_In.s2c (words0 : (List ByteArray)) (b5 : (List Int)) (at6 : Int) : Option (((List Int) × Int) ⊕ (List Int)) := (if 0 ≤ (0 : Int) ∧ (0 : Int) < (words0.length : Int) then (if (decide (at6 < ((gt words0 (0 : Int)).size : Int))) = true then ((loop (f_foghornref17_In.s3 words0 at6) (b5, (0 : Int))).bind (fun q27 => (some (Sum.inl (q27, (IntKind.i64.wrap (at6 + (1 : Int)))))))) else (some (Sum.inr b5))) else none)
noncomputable def f_foghornref17_In.s2 (words0 : (List ByteArray)) (s : ((List Int) × Int)) : Option (((List Int) × Int) ⊕ (List Int)) := f_foghornref17_In.s2c words0 s.1 s.2
noncomputable def f_foghornref17_In (words0 : (List ByteArray)) : Option (ByteArray × Int) := ((if ((words0.length : Int) == (0 : Int)) = true then (some true) else (if 0 ≤ (0 : Int) ∧ (0 : Int) < (words0.length : Int) then ((f_foghornref17_Of (words0.length : Int) ((gt words0 (0 : Int)).size : Int)).bind fun q5 => (some (!q5))) else none)).bind fun z3 => (if z3 = true then (some ((ByteArray.mk #[]), (1 : Int))) else ((loop (f_foghornref17_In.s1 words0) (0 : Int)).bind (fun q9 => sm q9 (fun q10 => ((loop (f_foghornref17_In.s2 words0) ([], (0 : Int))).bind (fun q28 => (some ((bstr q28), (0 : Int)))))) (fun q11 => (some (q11.1, q11.2)))))))
theorem f_foghornref17_In_c {S : Nat → Prop} {w0 w : World} {ow : List Res} (hp : Hp S w0 w ow) (vwords0 : Value) (words0 : (List ByteArray)) (hwords0 : RdS Ek.str S w0 vwords0 words0) {r : (ByteArray × Int)} (h : f_foghornref17_In words0 = some r) :
    Calls Try.prog 22 #[vwords0] w (fun e w' => e = .returned (.tuple #[.string r.1, .int .i64 r.2]) ∧ Hp S w0 w' (ow)) := by
  unfold f_foghornref17_In at h
  refine enter (n := 62) (args := [vwords0]) Try.func22 rfl rfl (Nat.le_of_ble_eq_true rfl) fun a hf => ?_
  replace hf : Fr 62 a [(0, vwords0)] := hf
  refine wp_mono (Q := fun e a w => e = .ret ∧ Fr 62 a [(2, .string r.1), (3, .int .i64 r.2)] ∧ Hp S w0 w (ow)) ?_ ?_
  rotate_left
  · rintro e a w ⟨rfl, hf, hp⟩
    exact ret2 hf rfl rfl rfl ⟨rfl, hp⟩
  refine wp_seq ?_
  refine wp_reg ?_
  refine st_assign hf rfl rfl (by decide) ?_
  clear hf; intro a ha hf; clear ha
  refine st_assign hf rfl rfl (by decide) ?_
  clear hf; intro a ha hf; clear ha
  refine st_nil hf ?_
  refine th_n ?_
  refine wp_seq ?_
  refine wp_seq ?_
  refine wp_reg ?_
  refine st_move hf rfl rfl (by decide) ?_
  clear hf; intro a ha hf; clear ha
  refine st_len (E := Ek.str) hf (by decide) Try.underlying37 rfl rfl (hwords0.sl hp) ?_
  clear hf; intro a ha hf; clear ha
  refine st_ieql hf (by decide) rfl rfl rfl ?_
  clear hf; intro a ha hf; clear ha
  refine st_move hf rfl rfl (by decide) ?_
  clear hf; intro a ha hf; clear ha
  obtain ⟨z3, hz1, h⟩ := bnd h
  refine wpList_cut 9 (fun a w => Fr 62 a [(0, vwords0), (20, .bool z3)] ∧ Hp S w0 w (ow)) ?_ ?_
  · rcases Bool.eq_false_or_eq_true ((words0.length : Int) == (0 : Int)) with hb2 | hb2
    · skip
      replace hz1 := ifT hz1 hb2
      refine st_skip hf (wantN hf rfl rfl hb2) rfl (by decide) ?_ rfl
      clear hf; intro a hf
      refine st_skip hf (wantN hf rfl rfl hb2) rfl (by decide) ?_ rfl
      clear hf; intro a hf
      refine st_skip hf (wantN hf rfl rfl hb2) rfl (by decide) ?_ rfl
      clear hf; intro a hf
      refine st_skip hf (wantN hf rfl rfl hb2) rfl (by decide) ?_ rfl
      clear hf; intro a hf
      refine st_skip hf (wantN hf rfl rfl hb2) rfl (by decide) ?_ rfl
      clear hf; intro a hf
      refine st_skip hf (wantN hf rfl rfl hb2) rfl (by decide) ?_ rfl
      clear hf; intro a hf
      refine st_skip hf (wantN hf rfl rfl hb2) rfl (by decide) ?_ rfl
      clear hf; intro a hf
      refine st_skip hf (wantN hf rfl rfl hb2) rfl (by decide) ?_ rfl
      clear hf; intro a hf
      obtain rfl := Option.some.inj hz1
      refine st_pick (v := .bool true) hf rfl rfl (fun hb' => ?_) (fun hb' => ?_) (by decide) ?_
      · rfl
      · exact absurd (hb2.symm.trans hb') (by decide)
      clear hf; intro a ha hf; clear ha
      refine st_nil hf (th_n ?_)
      exact ⟨hf.sub ⟨rfl, rfl, trivial⟩, hp⟩
    · skip
      replace hz1 := ifF hz1 hb2
      refine st_move hf (wantY hf rfl rfl hb2) rfl (by decide) ?_
      clear hf; intro a ha hf; clear ha
      refine st_len (E := Ek.str) hf (by decide) Try.underlying37 (wantY hf rfl rfl hb2) rfl (hwords0.sl hp) ?_
      clear hf; intro a ha hf; clear ha
      refine st_move hf (wantY hf rfl rfl hb2) rfl (by decide) ?_
      clear hf; intro a ha hf; clear ha
      obtain ⟨hc4, hz1⟩ := chk hz1
      refine st_index (E := Ek.str) hf (by decide) Try.underlying37 elt9 (wantY hf rfl rfl hb2) rfl rfl (hwords0.sl hp) hc4.1 hc4.2 ?_
      clear hf; intro a ha hf; clear ha
      refine st_ldS hf (by decide) pl9 (wantY hf rfl rfl hb2) rfl (hwords0.sl hp) hc4.1 hc4.2 ?_
      clear hf; intro a ha hf; clear ha
      refine st_slen hf (by decide) Try.underlying9 (wantY hf rfl rfl hb2) rfl ?_
      clear hf; intro a ha hf; clear ha
      obtain ⟨q5, hcall6, hz1⟩ := bnd hz1
      refine st_call hf (by decide) Try.func37 rfl rfl (wantY hf rfl rfl hb2) rfl rfl (f_foghornref17_Of_c hp _ _ hcall6) ?_
      rintro _ w ⟨rfl, hp0⟩
      clear hp; have hp := hp0; clear hp0
      replace hp : Hp S w0 w (ow) := hp
      refine ⟨_, rfl, ?_⟩
      clear hf; intro a hf
      refine st_not hf (by decide) (wantY hf rfl rfl hb2) rfl ?_
      clear hf; intro a ha hf; clear ha
      obtain rfl := Option.some.inj hz1
      refine st_pick (v := .bool (!q5)) hf rfl rfl (fun hb' => ?_) (fun hb' => ?_) (by decide) ?_
      · exact absurd (hb2.symm.trans hb') (by decide)
      · rfl
      clear hf; intro a ha hf; clear ha
      refine st_nil hf (th_n ?_)
      exact ⟨hf.sub ⟨rfl, rfl, trivial⟩, hp⟩
  · rintro a w ⟨hf, hp⟩
    refine st_nil hf ?_
    refine th_n ?_
    refine wp_if hf rfl (fun hb => ?_) (fun hb => ?_)
    · replace h := ifT h hb
      refine wp_seq ?_
      refine wp_reg ?_
      refine st_assign hf rfl rfl (by decide) ?_
      clear hf; intro a ha hf; clear ha
      refine st_assign hf rfl rfl (by decide) ?_
      clear hf; intro a ha hf; clear ha
      refine st_nil hf ?_
      refine th_n ?_
      refine wp_ret ?_
      refine th_r ?_
      obtain rfl := Option.some.inj h
      exact ⟨rfl, ⟨hf.sub ⟨rfl, rfl, trivial⟩, hp⟩⟩
    · replace h := ifF h hb
      refine wp_skip ?_
      refine th_n ?_
      refine wp_seq ?_
      refine wp_seq ?_
      refine wp_reg ?_
      refine st_assign hf rfl rfl (by decide) ?_
      clear hf; intro a ha hf; clear ha
      refine st_nil hf ?_
      refine th_n ?_
      refine wp_block ?_
      obtain ⟨q9, hl, h⟩ := bnd h
      refine wp_loop_pure (f := (f_foghornref17_In.s1 words0)) (s := (0 : Int)) (fun s a w => Fr 62 a [(0, vwords0), (4, .int .i64 s)] ∧ Hp S w0 w (ow)) (fun q e a w => match q with | (Sum.inl q) => e = .exit 0 ∧ Fr 62 a [(0, vwords0)] ∧ Hp S w0 w (ow) | (Sum.inr q) => e = .ret ∧ Fr 62 a [(2, .string q.1), (3, .int .i64 q.2)] ∧ Hp S w0 w (ow)) ?_ hl ⟨hf.sub ⟨rfl, rfl, trivial⟩, hp⟩ ?_
      · clear hl hf hp
        intro s x a w h hI
        obtain ⟨i4, hs⟩ : ∃ z, z = s := ⟨s, rfl⟩; subst hs
        obtain ⟨hf, hp⟩ : Fr 62 a [(0, vwords0), (4, .int .i64 i4)] ∧ Hp S w0 w (ow) := hI
        replace h : f_foghornref17_In.s1c words0 i4 = some x := h
        unfold f_foghornref17_In.s1c at h
        refine wp_seq ?_
        refine wp_seq ?_
        refine wp_reg ?_
        refine st_move hf rfl rfl (by decide) ?_
        clear hf; intro a ha hf; clear ha
        refine st_move hf rfl rfl (by decide) ?_
        clear hf; intro a ha hf; clear ha
        refine st_len (E := Ek.str) hf (by decide) Try.underlying37 rfl rfl (hwords0.sl hp) ?_
        clear hf; intro a ha hf; clear ha
        refine st_ilss hf (by decide) rfl rfl rfl ?_
        clear hf; intro a ha hf; clear ha
        refine st_nil hf ?_
        refine th_n ?_
        refine wp_if hf rfl (fun hb => ?_) (fun hb => ?_)
        · replace h := ifT h hb
          refine wp_skip ?_
          refine th_n ?_
          refine wp_seq ?_
          refine wp_block ?_
          refine wp_seq ?_
          obtain ⟨hc7, h⟩ := chk h
          obtain ⟨hc8, h⟩ := chk h
          refine wp_cutN (fun a w => Fr 62 a [(0, vwords0), (4, .int .i64 i4), (36, .bool (((gt words0 i4).size : Int) != ((gt words0 (0 : Int)).size : Int)))] ∧ Hp S w0 w (ow)) ?_ ?_
          · have hp := hp.same (Same.drew w)
            refine dr_begin' (fun a w => Fr 62 a [(0, vwords0), (4, .int .i64 i4), (36, .bool (((gt words0 i4).size : Int) != ((gt words0 (0 : Int)).size : Int)))] ∧ Hp S w0 w (ow)) (fun w => Hp S w0 w (ow)) [] (by kernel_rfl) ?_
            refine dr_take 0 (vwords0) rfl (by kernel_rfl) (by kernel_rfl) (by kernel_rfl) (by kernel_rfl) rfl rfl hf (by decide) rfl (fun w hp => ?_) hp ?_
            · skip
              refine st_move hf rfl rfl (by decide) ?_
              clear hf; intro a ha hf
              exact st_nil hf (th_n ⟨ha, rfl⟩)
            clear hf; intro a hf
            refine dr_take 1 (.int .i64 i4) rfl (by kernel_rfl) (by kernel_rfl) (by kernel_rfl) (by kernel_rfl) rfl rfl hf (by decide) rfl (fun w hp => ?_) hp ?_
            · skip
              refine st_move hf rfl rfl (by decide) ?_
              clear hf; intro a ha hf
              exact st_nil hf (th_n ⟨ha, rfl⟩)
            clear hf; intro a hf
            refine dr_take 2 (eptr vwords0 i4 1) rfl (by kernel_rfl) (by kernel_rfl) (by kernel_rfl) (by kernel_rfl) rfl rfl hf (by decide) rfl (fun w hp => ?_) hp ?_
            · skip
              refine st_index (E := Ek.str) hf (by decide) Try.underlying37 elt9 rfl rfl rfl (hwords0.sl hp) hc7.1 hc7.2 ?_
              clear hf; intro a ha hf
              exact st_nil hf (th_n ⟨ha, rfl⟩)
            clear hf; intro a hf
            refine dr_take 3 (.string (gt words0 i4)) rfl (by kernel_rfl) (by kernel_rfl) (by kernel_rfl) (by kernel_rfl) rfl rfl hf (by decide) rfl (fun w hp => ?_) hp ?_
            · skip
              refine st_ldS hf (by decide) pl9 rfl rfl (hwords0.sl hp) hc7.1 hc7.2 ?_
              clear hf; intro a ha hf
              exact st_nil hf (th_n ⟨ha, rfl⟩)
            clear hf; intro a hf
            refine dr_take 4 (.int .i64 ((gt words0 i4).size : Int)) rfl (by kernel_rfl) (by kernel_rfl) (by kernel_rfl) (by kernel_rfl) rfl rfl hf (by decide) rfl (fun w hp => ?_) hp ?_
            · skip
              refine st_slen hf (by decide) Try.underlying9 rfl rfl ?_
              clear hf; intro a ha hf
              exact st_nil hf (th_n ⟨ha, rfl⟩)
            clear hf; intro a hf
            refine dr_take 5 (vwords0) rfl (by kernel_rfl) (by kernel_rfl) (by kernel_rfl) (by kernel_rfl) rfl rfl hf (by decide) rfl (fun w hp => ?_) hp ?_
            · skip
              refine st_move hf rfl rfl (by decide) ?_
              clear hf; intro a ha hf
              exact st_nil hf (th_n ⟨ha, rfl⟩)
            clear hf; intro a hf
            refine dr_take 6 (eptr vwords0 (0 : Int) 1) rfl (by kernel_rfl) (by kernel_rfl) (by kernel_rfl) (by kernel_rfl) rfl rfl hf (by decide) rfl (fun w hp => ?_) hp ?_
            · skip
              refine st_index (E := Ek.str) hf (by decide) Try.underlying37 elt9 rfl rfl rfl (hwords0.sl hp) hc8.1 hc8.2 ?_
              clear hf; intro a ha hf
              exact st_nil hf (th_n ⟨ha, rfl⟩)
            clear hf; intro a hf
            refine dr_take 7 (.string (gt words0 (0 : Int))) rfl (by kernel_rfl) (by kernel_rfl) (by kernel_rfl) (by kernel_rfl) rfl rfl hf (by decide) rfl (fun w hp => ?_) hp ?_
            · skip
              refine st_ldS hf (by decide) pl9 rfl rfl (hwords0.sl hp) hc8.1 hc8.2 ?_
              clear hf; intro a ha hf
              exact st_nil hf (th_n ⟨ha, rfl⟩)
            clear hf; intro a hf
            refine dr_take 8 (.int .i64 ((gt words0 (0 : Int)).size : Int)) rfl (by kernel_rfl) (by kernel_rfl) (by kernel_rfl) (by kernel_rfl) rfl rfl hf (by decide) rfl (fun w hp => ?_) hp ?_
            · skip
              refine st_slen hf (by decide) Try.underlying9 rfl rfl ?_
              clear hf; intro a ha hf
              exact st_nil hf (th_n ⟨ha, rfl⟩)
            clear hf; intro a hf
            refine dr_take 9 (.bool (((gt words0 i4).size : Int) != ((gt words0 (0 : Int)).size : Int))) rfl (by kernel_rfl) (by kernel_rfl) (by kernel_rfl) (by kernel_rfl) rfl rfl hf (by decide) rfl (fun w hp => ?_) hp ?_
            · skip
              refine st_ineq hf (by decide) rfl rfl rfl ?_
              clear hf; intro a ha hf
              exact st_nil hf (th_n ⟨ha, rfl⟩)
            clear hf; intro a hf
            refine dr_end (by kernel_rfl) ?_ _
            exact ⟨hf.sub ⟨rfl, rfl, rfl, trivial⟩, hp⟩
          · rintro a w ⟨hf, hp⟩
            refine th_n ?_
            refine wp_if hf rfl (fun hb => ?_) (fun hb => ?_)
            · replace h := ifT h hb
              refine wp_seq ?_
              refine wp_reg ?_
              refine st_assign hf rfl rfl (by decide) ?_
              clear hf; intro a ha hf; clear ha
              refine st_assign hf rfl rfl (by decide) ?_
              clear hf; intro a ha hf; clear ha
              refine st_nil hf ?_
              refine th_n ?_
              refine wp_ret ?_
              refine ib_r ?_
              refine th_r ?_
              obtain rfl := Option.some.inj h
              exact rnd_r (by simp) ⟨rfl, ⟨hf.sub ⟨rfl, rfl, trivial⟩, hp⟩⟩
            · replace h := ifF h hb
              refine wp_skip ?_
              refine ib_n ?_
              refine th_n ?_
              refine wp_reg ?_
              refine st_move hf rfl rfl (by decide) ?_
              clear hf; intro a ha hf; clear ha
              refine st_iadd hf (by decide) rfl rfl rfl ?_
              clear hf; intro a ha hf; clear ha
              refine st_assign hf rfl rfl (by decide) ?_
              clear hf; intro a ha hf; clear ha
              refine st_nil hf ?_
              obtain rfl := Option.some.inj h
              exact rnd_l ⟨hf.sub ⟨rfl, rfl, trivial⟩, hp⟩
        · replace h := ifF h hb
          refine wp_exit ?_
          refine th_e ?_
          obtain rfl := Option.some.inj h
          exact rnd_r (by simp) ⟨rfl, hf.sub ⟨rfl, trivial⟩, hp⟩
      · clear hl hf hp
        intro e a w hne hO
        cases q9 with
        | inl q10 =>
          replace h := smL h
          obtain ⟨rfl, hf, hp⟩ := hO
          refine ib_same ?_
          refine th_n ?_
          refine wp_seq ?_
          refine wp_reg ?_
          refine st_assign hf rfl rfl (by decide) ?_
          clear hf; intro a ha hf; clear ha
          refine st_nil hf ?_
          refine th_n ?_
          refine wp_seq ?_
          refine wp_seq ?_
          refine wp_reg ?_
          refine st_assign hf rfl rfl (by decide) ?_
          clear hf; intro a ha hf; clear ha
          refine st_nil hf ?_
          refine th_n ?_
          refine wp_block ?_
          obtain ⟨q28, hl, h⟩ := bnd h
          have hp := hp.nil (Ek.int .u8) 5
          refine wp_loop_pure (f := (f_foghornref17_In.s2 words0)) (s := ([], (0 : Int))) (fun s a w => ∃ (v12 : Value), Fr 62 a [(0, vwords0), (5, v12), (6, .int .i64 s.2)] ∧ Hp S w0 w (Res.sl (Ek.int .u8) 5 v12 s.1 :: ow)) (fun q e a w => e = .exit 2 ∧ ∃ (v14 : Value), Fr 62 a [(5, v14)] ∧ Hp S w0 w (Res.sl (Ek.int .u8) 5 v14 q :: ow)) ?_ hl ⟨_, hf.sub ⟨rfl, rfl, rfl, trivial⟩, hp⟩ ?_
          · clear hl hf hp
            intro s x a w h hI
            obtain ⟨b5, at6⟩ := s
            obtain ⟨v12, hf, hp⟩ : ∃ (v12 : Value), Fr 62 a [(0, vwords0), (5, v12), (6, .int .i64 at6)] ∧ Hp S w0 w (Res.sl (Ek.int .u8) 5 v12 b5 :: ow) := hI
            replace h : f_foghornref17_In.s2c words0 b5 at6 = some x := h
            unfold f_foghornref17_In.s2c at h
            refine wp_seq ?_
            refine wp_seq ?_
            refine wp_reg ?_
            refine st_move hf rfl rfl (by decide) ?_
            clear hf; intro a ha hf; clear ha
            refine st_move hf rfl rfl (by decide) ?_
            clear hf; intro a ha hf; clear ha
            obtain ⟨hc16, h⟩ := chk h
            refine st_index (E := Ek.str) hf (by decide) Try.underlying37 elt9 rfl rfl rfl (hwords0.sl hp) hc16.1 hc16.2 ?_
            clear hf; intro a ha hf; clear ha
            refine st_ldS hf (by decide) pl9 rfl rfl (hwords0.sl hp) hc16.1 hc16.2 ?_
            clear hf; intro a ha hf; clear ha
            refine st_slen hf (by decide) Try.underlying9 rfl rfl ?_
            clear hf; intro a ha hf; clear ha
            refine st_ilss hf (by decide) rfl rfl rfl ?_
            clear hf; intro a ha hf; clear ha
            refine st_nil hf ?_
            refine th_n ?_
            refine wp_if hf rfl (fun hb => ?_) (fun hb => ?_)
            · replace h := ifT h hb
              refine wp_skip ?_
              refine th_n ?_
              refine wp_seq ?_
              refine wp_block ?_
              refine wp_seq ?_
              refine wp_reg ?_
              refine st_assign hf rfl rfl (by decide) ?_
              clear hf; intro a ha hf; clear ha
              refine st_nil hf ?_
              refine th_n ?_
              refine wp_block ?_
              obtain ⟨q27, hl, h⟩ := bnd h
              refine wp_loop_pure (f := (f_foghornref17_In.s3 words0 at6)) (s := (b5, (0 : Int))) (fun s a w => ∃ (v17 : Value), Fr 62 a [(0, vwords0), (5, v17), (6, .int .i64 at6), (7, .int .i64 s.2)] ∧ Hp S w0 w (Res.sl (Ek.int .u8) 5 v17 s.1 :: ow)) (fun q e a w => e = .exit 4 ∧ ∃ (v19 : Value), Fr 62 a [(0, vwords0), (5, v19), (6, .int .i64 at6)] ∧ Hp S w0 w (Res.sl (Ek.int .u8) 5 v19 q :: ow)) ?_ hl ⟨_, hf.sub ⟨rfl, rfl, rfl, rfl, trivial⟩, hp⟩ ?_
              · clear hl hf hp
                intro s x a w h hI
                obtain ⟨b5, w7⟩ := s
                obtain ⟨v17, hf, hp⟩ : ∃ (v17 : Value), Fr 62 a [(0, vwords0), (5, v17), (6, .int .i64 at6), (7, .int .i64 w7)] ∧ Hp S w0 w (Res.sl (Ek.int .u8) 5 v17 b5 :: ow) := hI
                replace h : f_foghornref17_In.s3c words0 at6 b5 w7 = some x := h
                unfold f_foghornref17_In.s3c at h
                refine wp_seq ?_
                refine wp_seq ?_
                refine wp_reg ?_
                refine st_move hf rfl rfl (by decide) ?_
                clear hf; intro a ha hf; clear ha
                refine st_move hf rfl rfl (by decide) ?_
                clear hf; intro a ha hf; clear ha
                refine st_len (E := Ek.str) hf (by decide) Try.underlying37 rfl rfl (hwords0.sl hp) ?_
                clear hf; intro a ha hf; clear ha
                refine st_ilss hf (by decide) rfl rfl rfl ?_
                clear hf; intro a ha hf; clear ha
                refine st_nil hf ?_
                refine th_n ?_
                refine wp_if hf rfl (fun hb => ?_) (fun hb => ?_)
                · replace h := ifT h hb
                  refine wp_skip ?_
                  refine th_n ?_
                  refine wp_seq ?_
                  refine wp_block ?_
                  refine wp_reg ?_
                  refine st_move hf rfl rfl (by decide) ?_
                  clear hf; intro a ha hf; clear ha
                  refine st_move hf rfl rfl (by decide) ?_
                  clear hf; intro a ha hf; clear ha
                  refine st_move hf rfl rfl (by decide) ?_
                  clear hf; intro a ha hf; clear ha
                  obtain ⟨hc21, h⟩ := chk h
                  refine st_index (E := Ek.str) hf (by decide) Try.underlying37 elt9 rfl rfl rfl (hwords0.sl hp) hc21.1 hc21.2 ?_
                  clear hf; intro a ha hf; clear ha
                  refine st_ldS hf (by decide) pl9 rfl rfl (hwords0.sl hp) hc21.1 hc21.2 ?_
                  clear hf; intro a ha hf; clear ha
                  refine st_move hf rfl rfl (by decide) ?_
                  clear hf; intro a ha hf; clear ha
                  obtain ⟨hc22, h⟩ := chk h
                  refine st_sidx hf (by decide) Try.underlying9 rfl rfl rfl hc22.1 hc22.2 ?_
                  clear hf; intro a ha hf; clear ha
                  refine st_build (E := (Ek.int .u8)) (xs := [(bt (gt words0 w7) at6)]) hf (by decide) elt5 Try.underlying59 hp (vals := #[(0, .int .u8 (bt (gt words0 w7) at6))]) (cells := #[.int .u8 (bt (gt words0 w7) at6)]) rfl (by simp [hf.ev (x := (Operand.tmp 57)) rfl]) (by decide) (by decide) (z := .int .u8 0) (by kernel_rfl) (by kernel_rfl) rfl (reps_cons (cs := [.int .u8 (bt (gt words0 w7) at6)]) rfl (reps_nil _)) ?_
                  clear hf; intro a w v23 hf hp0; clear hp; have hp := hp0; clear hp0
                  replace hp : Hp S w0 w (Res.sl (Ek.int .u8) 5 v23 ([(bt (gt words0 w7) at6)]) :: Res.sl (Ek.int .u8) 5 v17 b5 :: ow) := hp
                  obtain ⟨hc25, h⟩ := chk h
                  refine st_append (E := (Ek.int .u8)) hf (by decide) elt5 Try.underlying59 (by decide) hp (i := 1) rfl rfl rfl rfl (hp.sl (i := 0) rfl) hc25 ?_
                  clear hf; intro a w v26 hf hp0; clear hp; have hp := hp0; clear hp0
                  replace hp : Hp S w0 w (Res.sl (Ek.int .u8) 5 v23 ([(bt (gt words0 w7) at6)]) :: Res.sl (Ek.int .u8) 5 v26 (b5 ++ [(bt (gt words0 w7) at6)]) :: ow) := hp
                  refine st_assign hf rfl rfl (by decide) ?_
                  clear hf; intro a ha hf; clear ha
                  refine st_nil hf ?_
                  refine ib_n ?_
                  refine th_n ?_
                  refine wp_reg ?_
                  refine st_move hf rfl rfl (by decide) ?_
                  clear hf; intro a ha hf; clear ha
                  refine st_iadd hf (by decide) rfl rfl rfl ?_
                  clear hf; intro a ha hf; clear ha
                  refine st_assign hf rfl rfl (by decide) ?_
                  clear hf; intro a ha hf; clear ha
                  refine st_nil hf ?_
                  obtain rfl := Option.some.inj h
                  have hp : Hp S w0 w (Res.sl (Ek.int .u8) 5 v26 (b5 ++ [(bt (gt words0 w7) at6)]) :: ow) := Hp.sel (pre := [Res.sl (Ek.int .u8) 5 v23 ([(bt (gt words0 w7) at6)]), Res.sl (Ek.int .u8) 5 v26 (b5 ++ [(bt (gt words0 w7) at6)])]) (tail := ow) (rs' := [Res.sl (Ek.int .u8) 5 v26 (b5 ++ [(bt (gt words0 w7) at6)])]) hp [1] (by decide) (by simp) rfl
                  exact rnd_l ⟨_, hf.sub ⟨rfl, rfl, rfl, rfl, trivial⟩, hp⟩
                · replace h := ifF h hb
                  refine wp_exit ?_
                  refine th_e ?_
                  obtain rfl := Option.some.inj h
                  exact rnd_r (by simp) ⟨rfl, _, hf.sub ⟨rfl, rfl, rfl, trivial⟩, hp⟩
              · clear hl hf hp
                intro e a w hne hO
                obtain ⟨rfl, v19, hf, hp⟩ := hO
                refine ib_same ?_
                refine ib_n ?_
                refine th_n ?_
                refine wp_reg ?_
                refine st_move hf rfl rfl (by decide) ?_
                clear hf; intro a ha hf; clear ha
                refine st_iadd hf (by decide) rfl rfl rfl ?_
                clear hf; intro a ha hf; clear ha
                refine st_assign hf rfl rfl (by decide) ?_
                clear hf; intro a ha hf; clear ha
                refine st_nil hf ?_
                obtain rfl := Option.some.inj h
                exact rnd_l ⟨_, hf.sub ⟨rfl, rfl, rfl, trivial⟩, hp⟩
            · replace h := ifF h hb
              refine wp_exit ?_
              refine th_e ?_
              obtain rfl := Option.some.inj h
              exact rnd_r (by simp) ⟨rfl, _, hf.sub ⟨rfl, trivial⟩, hp⟩
          · clear hl hf hp
            intro e a w hne hO
            obtain ⟨rfl, v14, hf, hp⟩ := hO
            refine ib_same ?_
            refine th_n ?_
            refine wp_seq ?_
            refine wp_reg ?_
            refine st_move hf rfl rfl (by decide) ?_
            clear hf; intro a ha hf; clear ha
            refine st_convBS hf (by decide) Try.underlying59 Try.underlying5 Try.underlying9 rfl rfl (hp.sl (i := 0) rfl) ?_
            clear hf; intro a ha hf; clear ha
            refine st_assign hf rfl rfl (by decide) ?_
            clear hf; intro a ha hf; clear ha
            refine st_assign hf rfl rfl (by decide) ?_
            clear hf; intro a ha hf; clear ha
            refine st_nil hf ?_
            refine th_n ?_
            refine wp_ret ?_
            obtain rfl := Option.some.inj h
            have hp : Hp S w0 w (ow) := Hp.sel (pre := [Res.sl (Ek.int .u8) 5 v14 q28]) (tail := ow) (rs' := []) hp [] (by decide) (by simp) rfl
            exact ⟨rfl, ⟨hf.sub ⟨rfl, rfl, trivial⟩, hp⟩⟩
        | inr q11 =>
          replace h := smR h
          obtain ⟨rfl, hf, hp⟩ := hO
          refine ib_r ?_
          refine th_r ?_
          obtain rfl := Option.some.inj h
          exact ⟨rfl, ⟨hf.sub ⟨rfl, rfl, trivial⟩, hp⟩⟩

noncomputable def f_weave_may (count0 : Int) (length1 : Int) : Option Bool := (some ((((decide ((1 : Int) ≤ count0)) && (decide (count0 ≤ (255 : Int)))) && (decide ((1 : Int) ≤ length1))) && (decide (length1 ≤ (255 : Int)))))
theorem f_weave_may_c {S : Nat → Prop} {w0 w : World} {ow : List Res} (hp : Hp S w0 w ow) (count0 : Int) (length1 : Int) {r : Bool} (h : f_weave_may count0 length1 = some r) :
    Calls Try.prog 38 #[.int .i64 count0, .int .i64 length1] w (fun e w' => e = .returned (.bool r) ∧ Hp S w0 w' (ow)) := by
  unfold f_weave_may at h
  refine enter (n := 19) (args := [.int .i64 count0, .int .i64 length1]) Try.func38 rfl rfl (Nat.le_of_ble_eq_true rfl) fun a hf => ?_
  replace hf : Fr 19 a [(0, .int .i64 count0), (1, .int .i64 length1)] := hf
  refine wp_mono (Q := fun e a w => e = .ret ∧ Fr 19 a [(4, .bool r)] ∧ Hp S w0 w (ow)) ?_ ?_
  rotate_left
  · rintro e a w ⟨rfl, hf, hp⟩
    exact ret1 hf rfl rfl ⟨rfl, hp⟩
  refine wp_seq ?_
  refine wp_reg ?_
  refine st_assign hf rfl rfl (by decide) ?_
  clear hf; intro a ha hf; clear ha
  refine st_nil hf ?_
  refine th_n ?_
  refine wp_seq ?_
  refine wp_reg ?_
  refine st_move hf rfl rfl (by decide) ?_
  clear hf; intro a ha hf; clear ha
  refine st_igeq hf (by decide) rfl rfl rfl ?_
  clear hf; intro a ha hf; clear ha
  refine st_move hf rfl rfl (by decide) ?_
  clear hf; intro a ha hf; clear ha
  refine wpList_cut 3 (fun a w => Fr 19 a [(1, .int .i64 length1), (10, .bool ((decide ((1 : Int) ≤ count0)) && (decide (count0 ≤ (255 : Int)))))] ∧ Hp S w0 w (ow)) ?_ ?_
  · rcases Bool.eq_false_or_eq_true (decide ((1 : Int) ≤ count0)) with hb2 | hb2
    · skip
      refine st_move hf (wantY hf rfl rfl hb2) rfl (by decide) ?_
      clear hf; intro a ha hf; clear ha
      refine st_ileq hf (by decide) (wantY hf rfl rfl hb2) rfl rfl ?_
      clear hf; intro a ha hf; clear ha
      refine st_pick (v := .bool (decide (count0 ≤ (255 : Int)))) hf rfl rfl (fun hb' => ?_) (fun hb' => ?_) (by decide) ?_
      · rfl
      · exact absurd (hb2.symm.trans hb') (by decide)
      clear hf; intro a ha hf; clear ha
      refine st_nil hf (th_n ?_)
      exact ⟨hf.sub ⟨rfl, (by rw [hb2]; rfl), trivial⟩, hp⟩
    · skip
      refine st_skip hf (wantN hf rfl rfl hb2) rfl (by decide) ?_ rfl
      clear hf; intro a hf
      refine st_skip hf (wantN hf rfl rfl hb2) rfl (by decide) ?_ rfl
      clear hf; intro a hf
      refine st_pick (v := .bool false) hf rfl rfl (fun hb' => ?_) (fun hb' => ?_) (by decide) ?_
      · exact absurd (hb2.symm.trans hb') (by decide)
      · rfl
      clear hf; intro a ha hf; clear ha
      refine st_nil hf (th_n ?_)
      exact ⟨hf.sub ⟨rfl, (by rw [hb2]; rfl), trivial⟩, hp⟩
  · rintro a w ⟨hf, hp⟩
    refine st_move hf rfl rfl (by decide) ?_
    clear hf; intro a ha hf; clear ha
    refine wpList_cut 3 (fun a w => Fr 19 a [(1, .int .i64 length1), (14, .bool (((decide ((1 : Int) ≤ count0)) && (decide (count0 ≤ (255 : Int)))) && (decide ((1 : Int) ≤ length1))))] ∧ Hp S w0 w (ow)) ?_ ?_
    · rcases Bool.eq_false_or_eq_true ((decide ((1 : Int) ≤ count0)) && (decide (count0 ≤ (255 : Int)))) with hb4 | hb4
      · skip
        refine st_move hf (wantY hf rfl rfl hb4) rfl (by decide) ?_
        clear hf; intro a ha hf; clear ha
        refine st_igeq hf (by decide) (wantY hf rfl rfl hb4) rfl rfl ?_
        clear hf; intro a ha hf; clear ha
        refine st_pick (v := .bool (decide ((1 : Int) ≤ length1))) hf rfl rfl (fun hb' => ?_) (fun hb' => ?_) (by decide) ?_
        · rfl
        · exact absurd (hb4.symm.trans hb') (by decide)
        clear hf; intro a ha hf; clear ha
        refine st_nil hf (th_n ?_)
        exact ⟨hf.sub ⟨rfl, (by rw [hb4]; rfl), trivial⟩, hp⟩
      · skip
        refine st_skip hf (wantN hf rfl rfl hb4) rfl (by decide) ?_ rfl
        clear hf; intro a hf
        refine st_skip hf (wantN hf rfl rfl hb4) rfl (by decide) ?_ rfl
        clear hf; intro a hf
        refine st_pick (v := .bool false) hf rfl rfl (fun hb' => ?_) (fun hb' => ?_) (by decide) ?_
        · exact absurd (hb4.symm.trans hb') (by decide)
        · rfl
        clear hf; intro a ha hf; clear ha
        refine st_nil hf (th_n ?_)
        exact ⟨hf.sub ⟨rfl, (by rw [hb4]; rfl), trivial⟩, hp⟩
    · rintro a w ⟨hf, hp⟩
      refine st_move hf rfl rfl (by decide) ?_
      clear hf; intro a ha hf; clear ha
      refine wpList_cut 3 (fun a w => Fr 19 a [(18, .bool ((((decide ((1 : Int) ≤ count0)) && (decide (count0 ≤ (255 : Int)))) && (decide ((1 : Int) ≤ length1))) && (decide (length1 ≤ (255 : Int)))))] ∧ Hp S w0 w (ow)) ?_ ?_
      · rcases Bool.eq_false_or_eq_true (((decide ((1 : Int) ≤ count0)) && (decide (count0 ≤ (255 : Int)))) && (decide ((1 : Int) ≤ length1))) with hb6 | hb6
        · skip
          refine st_move hf (wantY hf rfl rfl hb6) rfl (by decide) ?_
          clear hf; intro a ha hf; clear ha
          refine st_ileq hf (by decide) (wantY hf rfl rfl hb6) rfl rfl ?_
          clear hf; intro a ha hf; clear ha
          refine st_pick (v := .bool (decide (length1 ≤ (255 : Int)))) hf rfl rfl (fun hb' => ?_) (fun hb' => ?_) (by decide) ?_
          · rfl
          · exact absurd (hb6.symm.trans hb') (by decide)
          clear hf; intro a ha hf; clear ha
          refine st_nil hf (th_n ?_)
          exact ⟨hf.sub ⟨(by rw [hb6]; rfl), trivial⟩, hp⟩
        · skip
          refine st_skip hf (wantN hf rfl rfl hb6) rfl (by decide) ?_ rfl
          clear hf; intro a hf
          refine st_skip hf (wantN hf rfl rfl hb6) rfl (by decide) ?_ rfl
          clear hf; intro a hf
          refine st_pick (v := .bool false) hf rfl rfl (fun hb' => ?_) (fun hb' => ?_) (by decide) ?_
          · exact absurd (hb6.symm.trans hb') (by decide)
          · rfl
          clear hf; intro a ha hf; clear ha
          refine st_nil hf (th_n ?_)
          exact ⟨hf.sub ⟨(by rw [hb6]; rfl), trivial⟩, hp⟩
      · rintro a w ⟨hf, hp⟩
        refine st_assign hf rfl rfl (by decide) ?_
        clear hf; intro a ha hf; clear ha
        refine st_nil hf ?_
        refine th_n ?_
        refine wp_ret ?_
        obtain rfl := Option.some.inj h
        exact ⟨rfl, ⟨hf.sub ⟨rfl, trivial⟩, hp⟩⟩

noncomputable def f_weave_In.s1c (words0 : (List ByteArray)) (row5 : (List Int)) (t35 : Int) : Option (((List Int) × Int) ⊕ ((List Int) ⊕ (ByteArray × Int))) := (if (decide (t35 < (words0.length : Int))) = true then (if 0 ≤ t35 ∧ t35 < (words0.length : Int) then (if (((gt words0 t35).size : Int) != ((gt words0 (0 : Int)).size : Int)) = true then (some (Sum.inr (Sum.inr ((ByteArray.mk #[]), (1 : Int))))) else (if 0 ≤ (IntKind.i64.wrap (t35 * ((gt words0 (0 : Int)).size : Int))) ∧ (IntKind.i64.wrap (t35 * ((gt words0 (0 : Int)).size : Int))) ≤ (row5.length : Int) then (if ((IntKind.i64.wrap (t35 * ((gt words0 (0 : Int)).size : Int)))).toNat + (gt words0 t35).size ≤ row5.length then (some (Sum.inl ((row5.take (((IntKind.i64.wrap (t35 * ((gt words0 (0 : Int)).size : Int)))).toNat) ++ sbytes (gt words0 t35) ++ row5.drop (((IntKind.i64.wrap (t35 * ((gt words0 (0 : Int)).size : Int)))).toNat + (gt words0 t35).size)), (IntKind.i64.wrap (t35 + (1 : Int)))))) else none) else none)) else none) else (some (Sum.inr (Sum.inl row5))))
noncomputable def f_weave_In.s1 (words0 : (List ByteArray)) (s : ((List Int) × Int)) : Option (((List Int) × Int) ⊕ ((List Int) ⊕ (ByteArray × Int))) := f_weave_In.s1c words0 s.1 s.2
noncomputable def f_weave_In.s3c (words0 : (List ByteArray)) (q22 : (List Int)) (t56 : Int) (out8 : (List Int)) (t61 : Int) : Option (((List Int) × Int) ⊕ (List Int)) := (if (decide (t61 < (words0.length : Int))) = true then (if 0 ≤ (IntKind.i64.wrap ((IntKind.i64.wrap (t61 * ((gt words0 (0 : Int)).size : Int))) + t56)) ∧ (IntKind.i64.wrap ((IntKind.i64.wrap (t61 * ((gt words0 (0 : Int)).size : Int))) + t56)) < (q22.length : Int) then (if (out8.length + ([(gt q22 (IntKind.i64.wrap ((IntKind.i64.wrap (t61 * ((gt words0 (0 : Int)).size : Int))) + t56)))]).length) * 1 ≤ 140737488355328 then (some (Sum.inl ((out8 ++ [(gt q22 (IntKind.i64.wrap ((IntKind.i64.wrap (t61 * ((gt words0 (0 : Int)).size : Int))) + t56)))]), (IntKind.i64.wrap (t61 + (1 : Int)))))) else none) else none) else (some (Sum.inr out8)))
noncomputable def f_weave_In.s3 (words0 : (List ByteArray)) (q22 : (List Int)) (t56 : Int) (s : ((List Int) × Int)) : Option (((List Int) × Int) ⊕ (List Int)) := f_weave_In.s3c words0 q22 t56 s.1 s.2
noncomputable def f_weave_In.s2c (words0 : (List ByteArray)) (q22 : (List Int)) (out8 : (List Int)) (t56 : Int) : Option (((List Int) × Int) ⊕ (List Int)) := (if (decide (t56 < ((gt words0 (0 : Int)).size : Int))) = true then ((loop (f_weave_In.s3 words0 q22 t56) (out8, (0 : Int))).bind (fun q40 => (some (Sum.inl (q40, (IntKind.i64.wrap (t56 + (1 : Int)))))))) else (some (Sum.inr out8)))
noncomputable def f_weave_In.s2 (words0 : (List ByteArray)) (q22 : (List Int)) (s : ((List Int) × Int)) : Option (((List Int) × Int) ⊕ (List Int)) := f_weave_In.s2c words0 q22 s.1 s.2
noncomputable def f_weave_In (words0 : (List ByteArray)) : Option (ByteArray × Int) := ((if ((words0.length : Int) == (0 : Int)) = true then (some true) else (if 0 ≤ (0 : Int) ∧ (0 : Int) < (words0.length : Int) then ((f_weave_may (words0.length : Int) ((gt words0 (0 : Int)).size : Int)).bind fun q5 => (some (!q5))) else none)).bind fun z3 => (if z3 = true then (some ((ByteArray.mk #[]), (1 : Int))) else (if 0 ≤ (0 : Int) ∧ (0 : Int) < (words0.length : Int) then (if 0 ≤ (IntKind.i64.wrap (((gt words0 (0 : Int)).size : Int) * (words0.length : Int))) ∧ (IntKind.i64.wrap (((gt words0 (0 : Int)).size : Int) * (words0.length : Int))) ≤ (IntKind.i64.wrap (((gt words0 (0 : Int)).size : Int) * (words0.length : Int))) ∧ (IntKind.i64.wrap (((gt words0 (0 : Int)).size : Int) * (words0.length : Int))) * 1 ≤ 281474976710656 then ((loop (f_weave_In.s1 words0) ((List.replicate ((IntKind.i64.wrap (((gt words0 (0 : Int)).size : Int) * (words0.length : Int)))).toNat (0 : Int)), (0 : Int))).bind (fun q21 => sm q21 (fun q22 => (if 0 ≤ (0 : Int) ∧ (0 : Int) ≤ (q22.length : Int) ∧ (q22.length : Int) * 1 ≤ 281474976710656 then ((loop (f_weave_In.s2 words0 q22) ((List.replicate ((0 : Int)).toNat (0 : Int)), (0 : Int))).bind (fun q41 => (some ((bstr q41), (0 : Int))))) else none)) (fun q23 => (some (q23.1, q23.2))))) else none) else none)))
theorem f_weave_In_c {S : Nat → Prop} {w0 w : World} {ow : List Res} (hp : Hp S w0 w ow) (vwords0 : Value) (words0 : (List ByteArray)) (hwords0 : RdS Ek.str S w0 vwords0 words0) {r : (ByteArray × Int)} (h : f_weave_In words0 = some r) :
    Calls Try.prog 23 #[vwords0] w (fun e w' => e = .returned (.tuple #[.string r.1, .int .i64 r.2]) ∧ Hp S w0 w' (ow)) := by
  unfold f_weave_In at h
  refine enter (n := 79) (args := [vwords0]) Try.func23 rfl rfl (Nat.le_of_ble_eq_true rfl) fun a hf => ?_
  replace hf : Fr 79 a [(0, vwords0)] := hf
  refine wp_mono (Q := fun e a w => e = .ret ∧ Fr 79 a [(2, .string r.1), (3, .int .i64 r.2)] ∧ Hp S w0 w (ow)) ?_ ?_
  rotate_left
  · rintro e a w ⟨rfl, hf, hp⟩
    exact ret2 hf rfl rfl rfl ⟨rfl, hp⟩
  refine wp_seq ?_
  refine wp_reg ?_
  refine st_assign hf rfl rfl (by decide) ?_
  clear hf; intro a ha hf; clear ha
  refine st_assign hf rfl rfl (by decide) ?_
  clear hf; intro a ha hf; clear ha
  refine st_nil hf ?_
  refine th_n ?_
  refine wp_seq ?_
  refine wp_seq ?_
  refine wp_reg ?_
  refine st_move hf rfl rfl (by decide) ?_
  clear hf; intro a ha hf; clear ha
  refine st_len (E := Ek.str) hf (by decide) Try.underlying37 rfl rfl (hwords0.sl hp) ?_
  clear hf; intro a ha hf; clear ha
  refine st_ieql hf (by decide) rfl rfl rfl ?_
  clear hf; intro a ha hf; clear ha
  refine st_move hf rfl rfl (by decide) ?_
  clear hf; intro a ha hf; clear ha
  obtain ⟨z3, hz1, h⟩ := bnd h
  refine wpList_cut 9 (fun a w => Fr 79 a [(0, vwords0), (23, .bool z3)] ∧ Hp S w0 w (ow)) ?_ ?_
  · rcases Bool.eq_false_or_eq_true ((words0.length : Int) == (0 : Int)) with hb2 | hb2
    · skip
      replace hz1 := ifT hz1 hb2
      refine st_skip hf (wantN hf rfl rfl hb2) rfl (by decide) ?_ rfl
      clear hf; intro a hf
      refine st_skip hf (wantN hf rfl rfl hb2) rfl (by decide) ?_ rfl
      clear hf; intro a hf
      refine st_skip hf (wantN hf rfl rfl hb2) rfl (by decide) ?_ rfl
      clear hf; intro a hf
      refine st_skip hf (wantN hf rfl rfl hb2) rfl (by decide) ?_ rfl
      clear hf; intro a hf
      refine st_skip hf (wantN hf rfl rfl hb2) rfl (by decide) ?_ rfl
      clear hf; intro a hf
      refine st_skip hf (wantN hf rfl rfl hb2) rfl (by decide) ?_ rfl
      clear hf; intro a hf
      refine st_skip hf (wantN hf rfl rfl hb2) rfl (by decide) ?_ rfl
      clear hf; intro a hf
      refine st_skip hf (wantN hf rfl rfl hb2) rfl (by decide) ?_ rfl
      clear hf; intro a hf
      obtain rfl := Option.some.inj hz1
      refine st_pick (v := .bool true) hf rfl rfl (fun hb' => ?_) (fun hb' => ?_) (by decide) ?_
      · rfl
      · exact absurd (hb2.symm.trans hb') (by decide)
      clear hf; intro a ha hf; clear ha
      refine st_nil hf (th_n ?_)
      exact ⟨hf.sub ⟨rfl, rfl, trivial⟩, hp⟩
    · skip
      replace hz1 := ifF hz1 hb2
      refine st_move hf (wantY hf rfl rfl hb2) rfl (by decide) ?_
      clear hf; intro a ha hf; clear ha
      refine st_len (E := Ek.str) hf (by decide) Try.underlying37 (wantY hf rfl rfl hb2) rfl (hwords0.sl hp) ?_
      clear hf; intro a ha hf; clear ha
      refine st_move hf (wantY hf rfl rfl hb2) rfl (by decide) ?_
      clear hf; intro a ha hf; clear ha
      obtain ⟨hc4, hz1⟩ := chk hz1
      refine st_index (E := Ek.str) hf (by decide) Try.underlying37 elt9 (wantY hf rfl rfl hb2) rfl rfl (hwords0.sl hp) hc4.1 hc4.2 ?_
      clear hf; intro a ha hf; clear ha
      refine st_ldS hf (by decide) pl9 (wantY hf rfl rfl hb2) rfl (hwords0.sl hp) hc4.1 hc4.2 ?_
      clear hf; intro a ha hf; clear ha
      refine st_slen hf (by decide) Try.underlying9 (wantY hf rfl rfl hb2) rfl ?_
      clear hf; intro a ha hf; clear ha
      obtain ⟨q5, hcall6, hz1⟩ := bnd hz1
      refine st_call hf (by decide) Try.func38 rfl rfl (wantY hf rfl rfl hb2) rfl rfl (f_weave_may_c hp _ _ hcall6) ?_
      rintro _ w ⟨rfl, hp0⟩
      clear hp; have hp := hp0; clear hp0
      replace hp : Hp S w0 w (ow) := hp
      refine ⟨_, rfl, ?_⟩
      clear hf; intro a hf
      refine st_not hf (by decide) (wantY hf rfl rfl hb2) rfl ?_
      clear hf; intro a ha hf; clear ha
      obtain rfl := Option.some.inj hz1
      refine st_pick (v := .bool (!q5)) hf rfl rfl (fun hb' => ?_) (fun hb' => ?_) (by decide) ?_
      · exact absurd (hb2.symm.trans hb') (by decide)
      · rfl
      clear hf; intro a ha hf; clear ha
      refine st_nil hf (th_n ?_)
      exact ⟨hf.sub ⟨rfl, rfl, trivial⟩, hp⟩
  · rintro a w ⟨hf, hp⟩
    refine st_nil hf ?_
    refine th_n ?_
    refine wp_if hf rfl (fun hb => ?_) (fun hb => ?_)
    · replace h := ifT h hb
      refine wp_seq ?_
      refine wp_reg ?_
      refine st_assign hf rfl rfl (by decide) ?_
      clear hf; intro a ha hf; clear ha
      refine st_assign hf rfl rfl (by decide) ?_
      clear hf; intro a ha hf; clear ha
      refine st_nil hf ?_
      refine th_n ?_
      refine wp_ret ?_
      refine th_r ?_
      obtain rfl := Option.some.inj h
      exact ⟨rfl, ⟨hf.sub ⟨rfl, rfl, trivial⟩, hp⟩⟩
    · replace h := ifF h hb
      refine wp_skip ?_
      refine th_n ?_
      refine wp_seq ?_
      refine wp_reg ?_
      refine st_move hf rfl rfl (by decide) ?_
      clear hf; intro a ha hf; clear ha
      obtain ⟨hc7, h⟩ := chk h
      refine st_index (E := Ek.str) hf (by decide) Try.underlying37 elt9 rfl rfl rfl (hwords0.sl hp) hc7.1 hc7.2 ?_
      clear hf; intro a ha hf; clear ha
      refine st_ldS hf (by decide) pl9 rfl rfl (hwords0.sl hp) hc7.1 hc7.2 ?_
      clear hf; intro a ha hf; clear ha
      refine st_slen hf (by decide) Try.underlying9 rfl rfl ?_
      clear hf; intro a ha hf; clear ha
      refine st_assign hf rfl rfl (by decide) ?_
      clear hf; intro a ha hf; clear ha
      refine st_nil hf ?_
      refine th_n ?_
      refine wp_seq ?_
      refine wp_reg ?_
      refine st_move hf rfl rfl (by decide) ?_
      clear hf; intro a ha hf; clear ha
      refine st_move hf rfl rfl (by decide) ?_
      clear hf; intro a ha hf; clear ha
      refine st_len (E := Ek.str) hf (by decide) Try.underlying37 rfl rfl (hwords0.sl hp) ?_
      clear hf; intro a ha hf; clear ha
      refine st_imul hf (by decide) rfl rfl rfl ?_
      clear hf; intro a ha hf; clear ha
      obtain ⟨hc8, h⟩ := chk h
      refine st_make (E := (Ek.int .u8)) hf (by decide) elt5 Try.underlying59 (by decide) hp rfl rfl rfl hc8.1 hc8.2.1 hc8.2.2 ?_
      clear hf; intro a w v9 hf hp0; clear hp; have hp := hp0; clear hp0
      replace hp : Hp S w0 w (Res.sl (Ek.int .u8) 5 v9 (List.replicate ((IntKind.i64.wrap (((gt words0 (0 : Int)).size : Int) * (words0.length : Int)))).toNat (0 : Int)) :: ow) := hp
      refine st_assign hf rfl rfl (by decide) ?_
      clear hf; intro a ha hf; clear ha
      refine st_nil hf ?_
      refine th_n ?_
      refine wp_seq ?_
      refine wp_seq ?_
      refine wp_reg ?_
      refine st_move hf rfl rfl (by decide) ?_
      clear hf; intro a ha hf; clear ha
      refine st_len (E := Ek.str) hf (by decide) Try.underlying37 rfl rfl (hwords0.sl hp) ?_
      clear hf; intro a ha hf; clear ha
      refine st_move hf rfl rfl (by decide) ?_
      clear hf; intro a ha hf; clear ha
      refine st_nil hf ?_
      refine th_n ?_
      refine wp_block ?_
      obtain ⟨q21, hl, h⟩ := bnd h
      refine wp_loop_pure (f := (f_weave_In.s1 words0)) (s := ((List.replicate ((IntKind.i64.wrap (((gt words0 (0 : Int)).size : Int) * (words0.length : Int)))).toNat (0 : Int)), (0 : Int))) (fun s a w => ∃ (v11 : Value), Fr 79 a [(0, vwords0), (4, .int .i64 ((gt words0 (0 : Int)).size : Int)), (5, v11), (33, vwords0), (34, .int .i64 (words0.length : Int)), (35, .int .i64 s.2)] ∧ Hp S w0 w (Res.sl (Ek.int .u8) 5 v11 s.1 :: ow)) (fun q e a w => match q with | (Sum.inl q) => e = .exit 0 ∧ ∃ (v13 : Value), Fr 79 a [(0, vwords0), (4, .int .i64 ((gt words0 (0 : Int)).size : Int)), (5, v13)] ∧ Hp S w0 w (Res.sl (Ek.int .u8) 5 v13 q :: ow) | (Sum.inr q) => e = .ret ∧ Fr 79 a [(2, .string q.1), (3, .int .i64 q.2)] ∧ Hp S w0 w (ow)) ?_ hl ⟨_, hf.sub ⟨rfl, rfl, rfl, rfl, rfl, rfl, trivial⟩, hp⟩ ?_
      · clear hl hf hp
        intro s x a w h hI
        obtain ⟨row5, t35⟩ := s
        obtain ⟨v11, hf, hp⟩ : ∃ (v11 : Value), Fr 79 a [(0, vwords0), (4, .int .i64 ((gt words0 (0 : Int)).size : Int)), (5, v11), (33, vwords0), (34, .int .i64 (words0.length : Int)), (35, .int .i64 t35)] ∧ Hp S w0 w (Res.sl (Ek.int .u8) 5 v11 row5 :: ow) := hI
        replace h : f_weave_In.s1c words0 row5 t35 = some x := h
        unfold f_weave_In.s1c at h
        refine wp_seq ?_
        refine wp_reg ?_
        refine st_ilss hf (by decide) rfl rfl rfl ?_
        clear hf; intro a ha hf; clear ha
        refine st_nil hf ?_
        refine th_n ?_
        refine wp_seq ?_
        refine wp_if hf rfl (fun hb => ?_) (fun hb => ?_)
        · replace h := ifT h hb
          refine wp_skip ?_
          refine th_n ?_
          refine wp_seq ?_
          refine wp_block ?_
          refine wp_seq ?_
          refine wp_reg ?_
          refine st_move hf rfl rfl (by decide) ?_
          clear hf; intro a ha hf; clear ha
          obtain ⟨hc15, h⟩ := chk h
          refine st_index (E := Ek.str) hf (by decide) Try.underlying37 elt9 rfl rfl rfl (hwords0.sl hp) hc15.1 hc15.2 ?_
          clear hf; intro a ha hf; clear ha
          refine st_ldS hf (by decide) pl9 rfl rfl (hwords0.sl hp) hc15.1 hc15.2 ?_
          clear hf; intro a ha hf; clear ha
          refine st_assign hf rfl rfl (by decide) ?_
          clear hf; intro a ha hf; clear ha
          refine st_assign hf rfl rfl (by decide) ?_
          clear hf; intro a ha hf; clear ha
          refine st_nil hf ?_
          refine th_n ?_
          refine wp_seq ?_
          refine wp_seq ?_
          refine wp_reg ?_
          refine st_move hf rfl rfl (by decide) ?_
          clear hf; intro a ha hf; clear ha
          refine st_slen hf (by decide) Try.underlying9 rfl rfl ?_
          clear hf; intro a ha hf; clear ha
          refine st_move hf rfl rfl (by decide) ?_
          clear hf; intro a ha hf; clear ha
          refine st_ineq hf (by decide) rfl rfl rfl ?_
          clear hf; intro a ha hf; clear ha
          refine st_nil hf ?_
          refine th_n ?_
          refine wp_if hf rfl (fun hb => ?_) (fun hb => ?_)
          · replace h := ifT h hb
            refine wp_seq ?_
            refine wp_reg ?_
            refine st_assign hf rfl rfl (by decide) ?_
            clear hf; intro a ha hf; clear ha
            refine st_assign hf rfl rfl (by decide) ?_
            clear hf; intro a ha hf; clear ha
            refine st_nil hf ?_
            refine th_n ?_
            refine wp_ret ?_
            refine th_r ?_
            refine ib_r ?_
            refine th_r ?_
            obtain rfl := Option.some.inj h
            have hp : Hp S w0 w (ow) := Hp.sel (pre := [Res.sl (Ek.int .u8) 5 v11 row5]) (tail := ow) (rs' := []) hp [] (by decide) (by simp) rfl
            exact rnd_r (by simp) ⟨rfl, ⟨hf.sub ⟨rfl, rfl, trivial⟩, hp⟩⟩
          · replace h := ifF h hb
            refine wp_skip ?_
            refine th_n ?_
            refine wp_reg ?_
            refine st_move hf rfl rfl (by decide) ?_
            clear hf; intro a ha hf; clear ha
            refine st_move hf rfl rfl (by decide) ?_
            clear hf; intro a ha hf; clear ha
            refine st_move hf rfl rfl (by decide) ?_
            clear hf; intro a ha hf; clear ha
            refine st_imul hf (by decide) rfl rfl rfl ?_
            clear hf; intro a ha hf; clear ha
            obtain ⟨hc16, h⟩ := chk h
            have hc17 : ((IntKind.i64.wrap (t35 * ((gt words0 (0 : Int)).size : Int)))).toNat ≤ row5.length := by omega
            have hc18 : row5.length ≤ row5.length := by omega
            refine st_cutS (E := (Ek.int .u8)) hf (by decide) Try.underlying59 elt5 rfl rfl (hp.sl (i := 0) rfl) (.inr ⟨_, _, rfl, evI rfl hc16.1⟩) (.inl ⟨rfl, rfl⟩) hc17 hc18 ?_
            clear hf; intro a ha hf; clear ha
            refine st_move hf rfl rfl (by decide) ?_
            clear hf; intro a ha hf; clear ha
            obtain ⟨hc19, h⟩ := chk h
            refine st_copyStr (lo := ((IntKind.i64.wrap (t35 * ((gt words0 (0 : Int)).size : Int)))).toNat) (hi := 0) hf (by decide) elt5 Try.underlying59 hp (i := 0) rfl rfl rfl rfl hc19 ?_
            clear hf; intro a w hf hp0; clear hp; have hp := hp0; clear hp0
            replace hp : Hp S w0 w (Res.sl (Ek.int .u8) 5 v11 (row5.take (((IntKind.i64.wrap (t35 * ((gt words0 (0 : Int)).size : Int)))).toNat) ++ sbytes (gt words0 t35) ++ row5.drop (((IntKind.i64.wrap (t35 * ((gt words0 (0 : Int)).size : Int)))).toNat + (gt words0 t35).size)) :: ow) := hp
            refine st_nil hf ?_
            refine ib_n ?_
            refine th_n ?_
            refine wp_reg ?_
            refine st_iadd hf (by decide) rfl rfl rfl ?_
            clear hf; intro a ha hf; clear ha
            refine st_move hf rfl rfl (by decide) ?_
            clear hf; intro a ha hf; clear ha
            refine st_nil hf ?_
            obtain rfl := Option.some.inj h
            exact rnd_l ⟨_, hf.sub ⟨rfl, rfl, rfl, rfl, rfl, rfl, trivial⟩, hp⟩
        · replace h := ifF h hb
          refine wp_exit ?_
          refine th_e ?_
          obtain rfl := Option.some.inj h
          exact rnd_r (by simp) ⟨rfl, _, hf.sub ⟨rfl, rfl, rfl, trivial⟩, hp⟩
      · clear hl hf hp
        intro e a w hne hO
        cases q21 with
        | inl q22 =>
          replace h := smL h
          obtain ⟨rfl, v13, hf, hp⟩ := hO
          refine ib_same ?_
          refine th_n ?_
          refine wp_seq ?_
          refine wp_reg ?_
          refine st_move hf rfl rfl (by decide) ?_
          clear hf; intro a ha hf; clear ha
          refine st_len (E := (Ek.int .u8)) hf (by decide) Try.underlying59 rfl rfl (hp.sl (i := 0) rfl) ?_
          clear hf; intro a ha hf; clear ha
          obtain ⟨hc24, h⟩ := chk h
          refine st_make (E := (Ek.int .u8)) hf (by decide) elt5 Try.underlying59 (by decide) hp rfl rfl rfl hc24.1 hc24.2.1 hc24.2.2 ?_
          clear hf; intro a w v25 hf hp0; clear hp; have hp := hp0; clear hp0
          replace hp : Hp S w0 w (Res.sl (Ek.int .u8) 5 v25 (List.replicate ((0 : Int)).toNat (0 : Int)) :: Res.sl (Ek.int .u8) 5 v13 q22 :: ow) := hp
          refine st_assign hf rfl rfl (by decide) ?_
          clear hf; intro a ha hf; clear ha
          refine st_nil hf ?_
          refine th_n ?_
          refine wp_seq ?_
          refine wp_seq ?_
          refine wp_reg ?_
          refine st_move hf rfl rfl (by decide) ?_
          clear hf; intro a ha hf; clear ha
          refine st_move hf rfl rfl (by decide) ?_
          clear hf; intro a ha hf; clear ha
          refine st_nil hf ?_
          refine th_n ?_
          refine wp_block ?_
          obtain ⟨q41, hl, h⟩ := bnd h
          refine wp_loop_pure (f := (f_weave_In.s2 words0 q22)) (s := ((List.replicate ((0 : Int)).toNat (0 : Int)), (0 : Int))) (fun s a w => ∃ (v27 : Value), Fr 79 a [(0, vwords0), (4, .int .i64 ((gt words0 (0 : Int)).size : Int)), (5, v13), (8, v27), (55, .int .i64 ((gt words0 (0 : Int)).size : Int)), (56, .int .i64 s.2)] ∧ Hp S w0 w (Res.sl (Ek.int .u8) 5 v27 s.1 :: Res.sl (Ek.int .u8) 5 v13 q22 :: ow)) (fun q e a w => e = .exit 2 ∧ ∃ (v29 : Value), Fr 79 a [(8, v29)] ∧ Hp S w0 w (Res.sl (Ek.int .u8) 5 v29 q :: ow)) ?_ hl ⟨_, hf.sub ⟨rfl, rfl, rfl, rfl, rfl, rfl, trivial⟩, hp⟩ ?_
          · clear hl hf hp
            intro s x a w h hI
            obtain ⟨out8, t56⟩ := s
            obtain ⟨v27, hf, hp⟩ : ∃ (v27 : Value), Fr 79 a [(0, vwords0), (4, .int .i64 ((gt words0 (0 : Int)).size : Int)), (5, v13), (8, v27), (55, .int .i64 ((gt words0 (0 : Int)).size : Int)), (56, .int .i64 t56)] ∧ Hp S w0 w (Res.sl (Ek.int .u8) 5 v27 out8 :: Res.sl (Ek.int .u8) 5 v13 q22 :: ow) := hI
            replace h : f_weave_In.s2c words0 q22 out8 t56 = some x := h
            unfold f_weave_In.s2c at h
            refine wp_seq ?_
            refine wp_reg ?_
            refine st_ilss hf (by decide) rfl rfl rfl ?_
            clear hf; intro a ha hf; clear ha
            refine st_nil hf ?_
            refine th_n ?_
            refine wp_seq ?_
            refine wp_if hf rfl (fun hb => ?_) (fun hb => ?_)
            · replace h := ifT h hb
              refine wp_skip ?_
              refine th_n ?_
              refine wp_seq ?_
              refine wp_block ?_
              refine wp_seq ?_
              refine wp_reg ?_
              refine st_move hf rfl rfl (by decide) ?_
              clear hf; intro a ha hf; clear ha
              refine st_assign hf rfl rfl (by decide) ?_
              clear hf; intro a ha hf; clear ha
              refine st_nil hf ?_
              refine th_n ?_
              refine wp_seq ?_
              refine wp_reg ?_
              refine st_move hf rfl rfl (by decide) ?_
              clear hf; intro a ha hf; clear ha
              refine st_len (E := Ek.str) hf (by decide) Try.underlying37 rfl rfl (hwords0.sl hp) ?_
              clear hf; intro a ha hf; clear ha
              refine st_move hf rfl rfl (by decide) ?_
              clear hf; intro a ha hf; clear ha
              refine st_nil hf ?_
              refine th_n ?_
              refine wp_block ?_
              obtain ⟨q40, hl, h⟩ := bnd h
              refine wp_loop_pure (f := (f_weave_In.s3 words0 q22 t56)) (s := (out8, (0 : Int))) (fun s a w => ∃ (v31 : Value), Fr 79 a [(0, vwords0), (4, .int .i64 ((gt words0 (0 : Int)).size : Int)), (5, v13), (8, v31), (9, .int .i64 t56), (55, .int .i64 ((gt words0 (0 : Int)).size : Int)), (56, .int .i64 t56), (60, .int .i64 (words0.length : Int)), (61, .int .i64 s.2)] ∧ Hp S w0 w (Res.sl (Ek.int .u8) 5 v31 s.1 :: Res.sl (Ek.int .u8) 5 v13 q22 :: ow)) (fun q e a w => e = .exit 4 ∧ ∃ (v33 : Value), Fr 79 a [(0, vwords0), (4, .int .i64 ((gt words0 (0 : Int)).size : Int)), (5, v13), (8, v33), (55, .int .i64 ((gt words0 (0 : Int)).size : Int)), (56, .int .i64 t56)] ∧ Hp S w0 w (Res.sl (Ek.int .u8) 5 v33 q :: Res.sl (Ek.int .u8) 5 v13 q22 :: ow)) ?_ hl ⟨_, hf.sub ⟨rfl, rfl, rfl, rfl, rfl, rfl, rfl, rfl, rfl, trivial⟩, hp⟩ ?_
              · clear hl hf hp
                intro s x a w h hI
                obtain ⟨out8, t61⟩ := s
                obtain ⟨v31, hf, hp⟩ : ∃ (v31 : Value), Fr 79 a [(0, vwords0), (4, .int .i64 ((gt words0 (0 : Int)).size : Int)), (5, v13), (8, v31), (9, .int .i64 t56), (55, .int .i64 ((gt words0 (0 : Int)).size : Int)), (56, .int .i64 t56), (60, .int .i64 (words0.length : Int)), (61, .int .i64 t61)] ∧ Hp S w0 w (Res.sl (Ek.int .u8) 5 v31 out8 :: Res.sl (Ek.int .u8) 5 v13 q22 :: ow) := hI
                replace h : f_weave_In.s3c words0 q22 t56 out8 t61 = some x := h
                unfold f_weave_In.s3c at h
                refine wp_seq ?_
                refine wp_reg ?_
                refine st_ilss hf (by decide) rfl rfl rfl ?_
                clear hf; intro a ha hf; clear ha
                refine st_nil hf ?_
                refine th_n ?_
                refine wp_seq ?_
                refine wp_if hf rfl (fun hb => ?_) (fun hb => ?_)
                · replace h := ifT h hb
                  refine wp_skip ?_
                  refine th_n ?_
                  refine wp_seq ?_
                  refine wp_block ?_
                  refine wp_seq ?_
                  refine wp_reg ?_
                  refine st_move hf rfl rfl (by decide) ?_
                  clear hf; intro a ha hf; clear ha
                  refine st_assign hf rfl rfl (by decide) ?_
                  clear hf; intro a ha hf; clear ha
                  refine st_nil hf ?_
                  refine th_n ?_
                  refine wp_reg ?_
                  refine st_move hf rfl rfl (by decide) ?_
                  clear hf; intro a ha hf; clear ha
                  refine st_move hf rfl rfl (by decide) ?_
                  clear hf; intro a ha hf; clear ha
                  refine st_move hf rfl rfl (by decide) ?_
                  clear hf; intro a ha hf; clear ha
                  refine st_move hf rfl rfl (by decide) ?_
                  clear hf; intro a ha hf; clear ha
                  refine st_imul hf (by decide) rfl rfl rfl ?_
                  clear hf; intro a ha hf; clear ha
                  refine st_move hf rfl rfl (by decide) ?_
                  clear hf; intro a ha hf; clear ha
                  refine st_iadd hf (by decide) rfl rfl rfl ?_
                  clear hf; intro a ha hf; clear ha
                  obtain ⟨hc35, h⟩ := chk h
                  refine st_index (E := (Ek.int .u8)) hf (by decide) Try.underlying59 elt5 rfl rfl rfl (hp.sl (i := 1) rfl) hc35.1 hc35.2 ?_
                  clear hf; intro a ha hf; clear ha
                  refine st_ldI hf (by decide) pl5 rfl rfl (hp.sl (i := 1) rfl) hc35.1 hc35.2 ?_
                  clear hf; intro a ha hf; clear ha
                  refine st_build (E := (Ek.int .u8)) (xs := [(gt q22 (IntKind.i64.wrap ((IntKind.i64.wrap (t61 * ((gt words0 (0 : Int)).size : Int))) + t56)))]) hf (by decide) elt5 Try.underlying59 hp (vals := #[(0, .int .u8 (gt q22 (IntKind.i64.wrap ((IntKind.i64.wrap (t61 * ((gt words0 (0 : Int)).size : Int))) + t56))))]) (cells := #[.int .u8 (gt q22 (IntKind.i64.wrap ((IntKind.i64.wrap (t61 * ((gt words0 (0 : Int)).size : Int))) + t56)))]) rfl (by simp [hf.ev (x := (Operand.tmp 72)) rfl]) (by decide) (by decide) (z := .int .u8 0) (by kernel_rfl) (by kernel_rfl) rfl (reps_cons (cs := [.int .u8 (gt q22 (IntKind.i64.wrap ((IntKind.i64.wrap (t61 * ((gt words0 (0 : Int)).size : Int))) + t56)))]) rfl (reps_nil _)) ?_
                  clear hf; intro a w v36 hf hp0; clear hp; have hp := hp0; clear hp0
                  replace hp : Hp S w0 w (Res.sl (Ek.int .u8) 5 v36 ([(gt q22 (IntKind.i64.wrap ((IntKind.i64.wrap (t61 * ((gt words0 (0 : Int)).size : Int))) + t56)))]) :: Res.sl (Ek.int .u8) 5 v31 out8 :: Res.sl (Ek.int .u8) 5 v13 q22 :: ow) := hp
                  obtain ⟨hc38, h⟩ := chk h
                  refine st_append (E := (Ek.int .u8)) hf (by decide) elt5 Try.underlying59 (by decide) hp (i := 1) rfl rfl rfl rfl (hp.sl (i := 0) rfl) hc38 ?_
                  clear hf; intro a w v39 hf hp0; clear hp; have hp := hp0; clear hp0
                  replace hp : Hp S w0 w (Res.sl (Ek.int .u8) 5 v36 ([(gt q22 (IntKind.i64.wrap ((IntKind.i64.wrap (t61 * ((gt words0 (0 : Int)).size : Int))) + t56)))]) :: Res.sl (Ek.int .u8) 5 v39 (out8 ++ [(gt q22 (IntKind.i64.wrap ((IntKind.i64.wrap (t61 * ((gt words0 (0 : Int)).size : Int))) + t56)))]) :: Res.sl (Ek.int .u8) 5 v13 q22 :: ow) := hp
                  refine st_assign hf rfl rfl (by decide) ?_
                  clear hf; intro a ha hf; clear ha
                  refine st_nil hf ?_
                  refine ib_n ?_
                  refine th_n ?_
                  refine wp_reg ?_
                  refine st_iadd hf (by decide) rfl rfl rfl ?_
                  clear hf; intro a ha hf; clear ha
                  refine st_move hf rfl rfl (by decide) ?_
                  clear hf; intro a ha hf; clear ha
                  refine st_nil hf ?_
                  obtain rfl := Option.some.inj h
                  have hp : Hp S w0 w (Res.sl (Ek.int .u8) 5 v39 (out8 ++ [(gt q22 (IntKind.i64.wrap ((IntKind.i64.wrap (t61 * ((gt words0 (0 : Int)).size : Int))) + t56)))]) :: Res.sl (Ek.int .u8) 5 v13 q22 :: ow) := Hp.sel (pre := [Res.sl (Ek.int .u8) 5 v36 ([(gt q22 (IntKind.i64.wrap ((IntKind.i64.wrap (t61 * ((gt words0 (0 : Int)).size : Int))) + t56)))]), Res.sl (Ek.int .u8) 5 v39 (out8 ++ [(gt q22 (IntKind.i64.wrap ((IntKind.i64.wrap (t61 * ((gt words0 (0 : Int)).size : Int))) + t56)))]), Res.sl (Ek.int .u8) 5 v13 q22]) (tail := ow) (rs' := [Res.sl (Ek.int .u8) 5 v39 (out8 ++ [(gt q22 (IntKind.i64.wrap ((IntKind.i64.wrap (t61 * ((gt words0 (0 : Int)).size : Int))) + t56)))]), Res.sl (Ek.int .u8) 5 v13 q22]) hp [1, 2] (by decide) (by simp) rfl
                  exact rnd_l ⟨_, hf.sub ⟨rfl, rfl, rfl, rfl, rfl, rfl, rfl, rfl, rfl, trivial⟩, hp⟩
                · replace h := ifF h hb
                  refine wp_exit ?_
                  refine th_e ?_
                  obtain rfl := Option.some.inj h
                  exact rnd_r (by simp) ⟨rfl, _, hf.sub ⟨rfl, rfl, rfl, rfl, rfl, rfl, trivial⟩, hp⟩
              · clear hl hf hp
                intro e a w hne hO
                obtain ⟨rfl, v33, hf, hp⟩ := hO
                refine ib_same ?_
                refine ib_n ?_
                refine th_n ?_
                refine wp_reg ?_
                refine st_iadd hf (by decide) rfl rfl rfl ?_
                clear hf; intro a ha hf; clear ha
                refine st_move hf rfl rfl (by decide) ?_
                clear hf; intro a ha hf; clear ha
                refine st_nil hf ?_
                obtain rfl := Option.some.inj h
                exact rnd_l ⟨_, hf.sub ⟨rfl, rfl, rfl, rfl, rfl, rfl, trivial⟩, hp⟩
            · replace h := ifF h hb
              refine wp_exit ?_
              refine th_e ?_
              obtain rfl := Option.some.inj h
              have hp : Hp S w0 w (Res.sl (Ek.int .u8) 5 v27 out8 :: ow) := Hp.sel (pre := [Res.sl (Ek.int .u8) 5 v27 out8, Res.sl (Ek.int .u8) 5 v13 q22]) (tail := ow) (rs' := [Res.sl (Ek.int .u8) 5 v27 out8]) hp [0] (by decide) (by simp) rfl
              exact rnd_r (by simp) ⟨rfl, _, hf.sub ⟨rfl, trivial⟩, hp⟩
          · clear hl hf hp
            intro e a w hne hO
            obtain ⟨rfl, v29, hf, hp⟩ := hO
            refine ib_same ?_
            refine th_n ?_
            refine wp_seq ?_
            refine wp_reg ?_
            refine st_move hf rfl rfl (by decide) ?_
            clear hf; intro a ha hf; clear ha
            refine st_convBS hf (by decide) Try.underlying59 Try.underlying5 Try.underlying9 rfl rfl (hp.sl (i := 0) rfl) ?_
            clear hf; intro a ha hf; clear ha
            refine st_assign hf rfl rfl (by decide) ?_
            clear hf; intro a ha hf; clear ha
            refine st_assign hf rfl rfl (by decide) ?_
            clear hf; intro a ha hf; clear ha
            refine st_nil hf ?_
            refine th_n ?_
            refine wp_ret ?_
            obtain rfl := Option.some.inj h
            have hp : Hp S w0 w (ow) := Hp.sel (pre := [Res.sl (Ek.int .u8) 5 v29 q41]) (tail := ow) (rs' := []) hp [] (by decide) (by simp) rfl
            exact ⟨rfl, ⟨hf.sub ⟨rfl, rfl, trivial⟩, hp⟩⟩
        | inr q23 =>
          replace h := smR h
          obtain ⟨rfl, hf, hp⟩ := hO
          refine ib_r ?_
          refine th_r ?_
          obtain rfl := Option.some.inj h
          exact ⟨rfl, ⟨hf.sub ⟨rfl, rfl, trivial⟩, hp⟩⟩

noncomputable def f_foghornref17_Texts.s1c (a0 : (List ByteArray)) (b1 : (List ByteArray)) (i5 : Int) : Option (Int ⊕ (Unit ⊕ Bool)) := (if (decide (i5 < (a0.length : Int))) = true then (if 0 ≤ i5 ∧ i5 < (a0.length : Int) then (if 0 ≤ i5 ∧ i5 < (b1.length : Int) then (if (!seq (gt a0 i5) (gt b1 i5)) = true then (some (Sum.inr (Sum.inr false))) else (some (Sum.inl (IntKind.i64.wrap (i5 + (1 : Int)))))) else none) else none) else (some (Sum.inr (Sum.inl ()))))
noncomputable def f_foghornref17_Texts.s1 (a0 : (List ByteArray)) (b1 : (List ByteArray)) (s : Int) : Option (Int ⊕ (Unit ⊕ Bool)) := f_foghornref17_Texts.s1c a0 b1 s
noncomputable def f_foghornref17_Texts (a0 : (List ByteArray)) (b1 : (List ByteArray)) : Option Bool := (if ((a0.length : Int) != (b1.length : Int)) = true then (some false) else ((loop (f_foghornref17_Texts.s1 a0 b1) (0 : Int)).bind (fun q3 => sm q3 (fun q4 => (some true)) (fun q5 => (some q5)))))
theorem f_foghornref17_Texts_c {S : Nat → Prop} {w0 w : World} {ow : List Res} (hp : Hp S w0 w ow) (va0 : Value) (a0 : (List ByteArray)) (ha0 : RdS Ek.str S w0 va0 a0) (vb1 : Value) (b1 : (List ByteArray)) (hb1 : RdS Ek.str S w0 vb1 b1) {r : Bool} (h : f_foghornref17_Texts a0 b1 = some r) :
    Calls Try.prog 24 #[va0, vb1] w (fun e w' => e = .returned (.bool r) ∧ Hp S w0 w' (ow)) := by
  unfold f_foghornref17_Texts at h
  refine enter (n := 26) (args := [va0, vb1]) Try.func24 rfl rfl (Nat.le_of_ble_eq_true rfl) fun a hf => ?_
  replace hf : Fr 26 a [(0, va0), (1, vb1)] := hf
  refine wp_mono (Q := fun e a w => e = .ret ∧ Fr 26 a [(4, .bool r)] ∧ Hp S w0 w (ow)) ?_ ?_
  rotate_left
  · rintro e a w ⟨rfl, hf, hp⟩
    exact ret1 hf rfl rfl ⟨rfl, hp⟩
  refine wp_seq ?_
  refine wp_reg ?_
  refine st_assign hf rfl rfl (by decide) ?_
  clear hf; intro a ha hf; clear ha
  refine st_nil hf ?_
  refine th_n ?_
  refine wp_seq ?_
  refine wp_seq ?_
  refine wp_reg ?_
  refine st_move hf rfl rfl (by decide) ?_
  clear hf; intro a ha hf; clear ha
  refine st_len (E := Ek.str) hf (by decide) Try.underlying37 rfl rfl (ha0.sl hp) ?_
  clear hf; intro a ha hf; clear ha
  refine st_move hf rfl rfl (by decide) ?_
  clear hf; intro a ha hf; clear ha
  refine st_len (E := Ek.str) hf (by decide) Try.underlying37 rfl rfl (hb1.sl hp) ?_
  clear hf; intro a ha hf; clear ha
  refine st_ineq hf (by decide) rfl rfl rfl ?_
  clear hf; intro a ha hf; clear ha
  refine st_nil hf ?_
  refine th_n ?_
  refine wp_if hf rfl (fun hb => ?_) (fun hb => ?_)
  · replace h := ifT h hb
    refine wp_seq ?_
    refine wp_reg ?_
    refine st_assign hf rfl rfl (by decide) ?_
    clear hf; intro a ha hf; clear ha
    refine st_nil hf ?_
    refine th_n ?_
    refine wp_ret ?_
    refine th_r ?_
    obtain rfl := Option.some.inj h
    exact ⟨rfl, ⟨hf.sub ⟨rfl, trivial⟩, hp⟩⟩
  · replace h := ifF h hb
    refine wp_skip ?_
    refine th_n ?_
    refine wp_seq ?_
    refine wp_seq ?_
    refine wp_reg ?_
    refine st_assign hf rfl rfl (by decide) ?_
    clear hf; intro a ha hf; clear ha
    refine st_nil hf ?_
    refine th_n ?_
    refine wp_block ?_
    obtain ⟨q3, hl, h⟩ := bnd h
    refine wp_loop_pure (f := (f_foghornref17_Texts.s1 a0 b1)) (s := (0 : Int)) (fun s a w => Fr 26 a [(0, va0), (1, vb1), (5, .int .i64 s)] ∧ Hp S w0 w (ow)) (fun q e a w => match q with | (Sum.inl q) => e = .exit 0 ∧ Fr 26 a [] ∧ Hp S w0 w (ow) | (Sum.inr q) => e = .ret ∧ Fr 26 a [(4, .bool q)] ∧ Hp S w0 w (ow)) ?_ hl ⟨hf.sub ⟨rfl, rfl, rfl, trivial⟩, hp⟩ ?_
    · clear hl hf hp
      intro s x a w h hI
      obtain ⟨i5, hs⟩ : ∃ z, z = s := ⟨s, rfl⟩; subst hs
      obtain ⟨hf, hp⟩ : Fr 26 a [(0, va0), (1, vb1), (5, .int .i64 i5)] ∧ Hp S w0 w (ow) := hI
      replace h : f_foghornref17_Texts.s1c a0 b1 i5 = some x := h
      unfold f_foghornref17_Texts.s1c at h
      refine wp_seq ?_
      refine wp_seq ?_
      refine wp_reg ?_
      refine st_move hf rfl rfl (by decide) ?_
      clear hf; intro a ha hf; clear ha
      refine st_move hf rfl rfl (by decide) ?_
      clear hf; intro a ha hf; clear ha
      refine st_len (E := Ek.str) hf (by decide) Try.underlying37 rfl rfl (ha0.sl hp) ?_
      clear hf; intro a ha hf; clear ha
      refine st_ilss hf (by decide) rfl rfl rfl ?_
      clear hf; intro a ha hf; clear ha
      refine st_nil hf ?_
      refine th_n ?_
      refine wp_if hf rfl (fun hb => ?_) (fun hb => ?_)
      · replace h := ifT h hb
        refine wp_skip ?_
        refine th_n ?_
        refine wp_seq ?_
        refine wp_block ?_
        refine wp_seq ?_
        obtain ⟨hc1, h⟩ := chk h
        obtain ⟨hc2, h⟩ := chk h
        refine wp_cutN (fun a w => Fr 26 a [(0, va0), (1, vb1), (5, .int .i64 i5), (25, .bool (!seq (gt a0 i5) (gt b1 i5)))] ∧ Hp S w0 w (ow)) ?_ ?_
        · have hp := hp.same (Same.drew w)
          refine dr_begin' (fun a w => Fr 26 a [(0, va0), (1, vb1), (5, .int .i64 i5), (25, .bool (!seq (gt a0 i5) (gt b1 i5)))] ∧ Hp S w0 w (ow)) (fun w => Hp S w0 w (ow)) [] (by kernel_rfl) ?_
          refine dr_take 0 (va0) rfl (by kernel_rfl) (by kernel_rfl) (by kernel_rfl) (by kernel_rfl) rfl rfl hf (by decide) rfl (fun w hp => ?_) hp ?_
          · skip
            refine st_move hf rfl rfl (by decide) ?_
            clear hf; intro a ha hf
            exact st_nil hf (th_n ⟨ha, rfl⟩)
          clear hf; intro a hf
          refine dr_take 1 (.int .i64 i5) rfl (by kernel_rfl) (by kernel_rfl) (by kernel_rfl) (by kernel_rfl) rfl rfl hf (by decide) rfl (fun w hp => ?_) hp ?_
          · skip
            refine st_move hf rfl rfl (by decide) ?_
            clear hf; intro a ha hf
            exact st_nil hf (th_n ⟨ha, rfl⟩)
          clear hf; intro a hf
          refine dr_take 2 (eptr va0 i5 1) rfl (by kernel_rfl) (by kernel_rfl) (by kernel_rfl) (by kernel_rfl) rfl rfl hf (by decide) rfl (fun w hp => ?_) hp ?_
          · skip
            refine st_index (E := Ek.str) hf (by decide) Try.underlying37 elt9 rfl rfl rfl (ha0.sl hp) hc1.1 hc1.2 ?_
            clear hf; intro a ha hf
            exact st_nil hf (th_n ⟨ha, rfl⟩)
          clear hf; intro a hf
          refine dr_take 3 (.string (gt a0 i5)) rfl (by kernel_rfl) (by kernel_rfl) (by kernel_rfl) (by kernel_rfl) rfl rfl hf (by decide) rfl (fun w hp => ?_) hp ?_
          · skip
            refine st_ldS hf (by decide) pl9 rfl rfl (ha0.sl hp) hc1.1 hc1.2 ?_
            clear hf; intro a ha hf
            exact st_nil hf (th_n ⟨ha, rfl⟩)
          clear hf; intro a hf
          refine dr_take 4 (vb1) rfl (by kernel_rfl) (by kernel_rfl) (by kernel_rfl) (by kernel_rfl) rfl rfl hf (by decide) rfl (fun w hp => ?_) hp ?_
          · skip
            refine st_move hf rfl rfl (by decide) ?_
            clear hf; intro a ha hf
            exact st_nil hf (th_n ⟨ha, rfl⟩)
          clear hf; intro a hf
          refine dr_take 5 (.int .i64 i5) rfl (by kernel_rfl) (by kernel_rfl) (by kernel_rfl) (by kernel_rfl) rfl rfl hf (by decide) rfl (fun w hp => ?_) hp ?_
          · skip
            refine st_move hf rfl rfl (by decide) ?_
            clear hf; intro a ha hf
            exact st_nil hf (th_n ⟨ha, rfl⟩)
          clear hf; intro a hf
          refine dr_take 6 (eptr vb1 i5 1) rfl (by kernel_rfl) (by kernel_rfl) (by kernel_rfl) (by kernel_rfl) rfl rfl hf (by decide) rfl (fun w hp => ?_) hp ?_
          · skip
            refine st_index (E := Ek.str) hf (by decide) Try.underlying37 elt9 rfl rfl rfl (hb1.sl hp) hc2.1 hc2.2 ?_
            clear hf; intro a ha hf
            exact st_nil hf (th_n ⟨ha, rfl⟩)
          clear hf; intro a hf
          refine dr_take 7 (.string (gt b1 i5)) rfl (by kernel_rfl) (by kernel_rfl) (by kernel_rfl) (by kernel_rfl) rfl rfl hf (by decide) rfl (fun w hp => ?_) hp ?_
          · skip
            refine st_ldS hf (by decide) pl9 rfl rfl (hb1.sl hp) hc2.1 hc2.2 ?_
            clear hf; intro a ha hf
            exact st_nil hf (th_n ⟨ha, rfl⟩)
          clear hf; intro a hf
          refine dr_take 8 (.bool (!seq (gt a0 i5) (gt b1 i5))) rfl (by kernel_rfl) (by kernel_rfl) (by kernel_rfl) (by kernel_rfl) rfl rfl hf (by decide) rfl (fun w hp => ?_) hp ?_
          · skip
            refine st_sneq hf (by decide) rfl rfl rfl ?_
            clear hf; intro a ha hf
            exact st_nil hf (th_n ⟨ha, rfl⟩)
          clear hf; intro a hf
          refine dr_end (by kernel_rfl) ?_ _
          exact ⟨hf.sub ⟨rfl, rfl, rfl, rfl, trivial⟩, hp⟩
        · rintro a w ⟨hf, hp⟩
          refine th_n ?_
          refine wp_if hf rfl (fun hb => ?_) (fun hb => ?_)
          · replace h := ifT h hb
            refine wp_seq ?_
            refine wp_reg ?_
            refine st_assign hf rfl rfl (by decide) ?_
            clear hf; intro a ha hf; clear ha
            refine st_nil hf ?_
            refine th_n ?_
            refine wp_ret ?_
            refine ib_r ?_
            refine th_r ?_
            obtain rfl := Option.some.inj h
            exact rnd_r (by simp) ⟨rfl, ⟨hf.sub ⟨rfl, trivial⟩, hp⟩⟩
          · replace h := ifF h hb
            refine wp_skip ?_
            refine ib_n ?_
            refine th_n ?_
            refine wp_reg ?_
            refine st_move hf rfl rfl (by decide) ?_
            clear hf; intro a ha hf; clear ha
            refine st_iadd hf (by decide) rfl rfl rfl ?_
            clear hf; intro a ha hf; clear ha
            refine st_assign hf rfl rfl (by decide) ?_
            clear hf; intro a ha hf; clear ha
            refine st_nil hf ?_
            obtain rfl := Option.some.inj h
            exact rnd_l ⟨hf.sub ⟨rfl, rfl, rfl, trivial⟩, hp⟩
      · replace h := ifF h hb
        refine wp_exit ?_
        refine th_e ?_
        obtain rfl := Option.some.inj h
        exact rnd_r (by simp) ⟨rfl, hf.sub trivial, hp⟩
    · clear hl hf hp
      intro e a w hne hO
      cases q3 with
      | inl q4 =>
        replace h := smL h
        obtain ⟨rfl, hf, hp⟩ := hO
        refine ib_same ?_
        refine th_n ?_
        refine wp_seq ?_
        refine wp_reg ?_
        refine st_assign hf rfl rfl (by decide) ?_
        clear hf; intro a ha hf; clear ha
        refine st_nil hf ?_
        refine th_n ?_
        refine wp_ret ?_
        obtain rfl := Option.some.inj h
        exact ⟨rfl, ⟨hf.sub ⟨rfl, trivial⟩, hp⟩⟩
      | inr q5 =>
        replace h := smR h
        obtain ⟨rfl, hf, hp⟩ := hO
        refine ib_r ?_
        refine th_r ?_
        obtain rfl := Option.some.inj h
        exact ⟨rfl, ⟨hf.sub ⟨rfl, trivial⟩, hp⟩⟩

noncomputable def f_foghornref17_Out.s2c (s0 : ByteArray) (count1 : Int) (b8 : (List Int)) (at9 : Int) : Option (((List Int) × Int) ⊕ (List Int)) := (if (decide (at9 < (s0.size : Int))) = true then (if 0 ≤ at9 ∧ at9 < (s0.size : Int) then (if (b8.length + ([(bt s0 at9)]).length) * 1 ≤ 140737488355328 then (some (Sum.inl ((b8 ++ [(bt s0 at9)]), (IntKind.i64.wrap (at9 + count1))))) else none) else none) else (some (Sum.inr b8)))
noncomputable def f_foghornref17_Out.s2 (s0 : ByteArray) (count1 : Int) (s : ((List Int) × Int)) : Option (((List Int) × Int) ⊕ (List Int)) := f_foghornref17_Out.s2c s0 count1 s.1 s.2
noncomputable def f_foghornref17_Out.s1c (s0 : ByteArray) (count1 : Int) (out6 : (List ByteArray)) (w7 : Int) : Option (((List ByteArray) × Int) ⊕ (List ByteArray)) := (if (decide (w7 < count1)) = true then ((loop (f_foghornref17_Out.s2 s0 count1) ([], w7)).bind (fun q27 => (if (out6.length + ([(bstr q27)]).length) * 16 ≤ 140737488355328 then (some (Sum.inl ((out6 ++ [(bstr q27)]), (IntKind.i64.wrap (w7 + (1 : Int)))))) else none))) else (some (Sum.inr out6)))
noncomputable def f_foghornref17_Out.s1 (s0 : ByteArray) (count1 : Int) (s : ((List ByteArray) × Int)) : Option (((List ByteArray) × Int) ⊕ (List ByteArray)) := f_foghornref17_Out.s1c s0 count1 s.1 s.2
noncomputable def f_foghornref17_Out (s0 : ByteArray) (count1 : Int) : Option ((List ByteArray) × Int) := ((if ((decide (count1 < (1 : Int))) || (decide ((255 : Int) < count1))) = true then (some true) else (if count1 ≠ 0 then (some ((((s0.size : Int)).tmod count1) != (0 : Int))) else none)).bind fun z5 => ((if z5 = true then (some true) else (if count1 ≠ 0 then ((f_foghornref17_Of count1 (IntKind.i64.wrap (((s0.size : Int)).tdiv count1))).bind fun q11 => (some (!q11))) else none)).bind fun z9 => (if z9 = true then (some ([], (1 : Int))) else ((loop (f_foghornref17_Out.s1 s0 count1) ([], (0 : Int))).bind (fun q33 => (some (q33, (0 : Int))))))))
theorem f_foghornref17_Out_c {S : Nat → Prop} {w0 w : World} {ow : List Res} (hp : Hp S w0 w ow) (s0 : ByteArray) (count1 : Int) {r : ((List ByteArray) × Int)} (h : f_foghornref17_Out s0 count1 = some r) :
    Calls Try.prog 25 #[.string s0, .int .i64 count1] w (fun e w' => ∃ (u0 : Value), e = .returned (.tuple #[u0, .int .i64 r.2]) ∧ Hp S w0 w' (Res.sl Ek.str 9 u0 r.1 :: ow)) := by
  unfold f_foghornref17_Out at h
  refine enter (n := 57) (args := [.string s0, .int .i64 count1]) Try.func25 rfl rfl (Nat.le_of_ble_eq_true rfl) fun a hf => ?_
  replace hf : Fr 57 a [(0, .string s0), (1, .int .i64 count1)] := hf
  refine wp_mono (Q := fun e a w => e = .ret ∧ ∃ (u0 : Value), Fr 57 a [(4, u0), (5, .int .i64 r.2)] ∧ Hp S w0 w (Res.sl Ek.str 9 u0 r.1 :: ow)) ?_ ?_
  rotate_left
  · rintro e a w ⟨rfl, x0, hf, hp⟩
    exact ret2 hf rfl rfl rfl ⟨x0, rfl, hp⟩
  refine wp_seq ?_
  refine wp_reg ?_
  refine st_assign hf rfl rfl (by decide) ?_
  clear hf; intro a ha hf; clear ha
  refine st_assign hf rfl rfl (by decide) ?_
  clear hf; intro a ha hf; clear ha
  refine st_nil hf ?_
  refine th_n ?_
  refine wp_seq ?_
  refine wp_seq ?_
  refine wp_reg ?_
  refine st_move hf rfl rfl (by decide) ?_
  clear hf; intro a ha hf; clear ha
  refine st_ilss hf (by decide) rfl rfl rfl ?_
  clear hf; intro a ha hf; clear ha
  refine st_move hf rfl rfl (by decide) ?_
  clear hf; intro a ha hf; clear ha
  refine wpList_cut 3 (fun a w => Fr 57 a [(0, .string s0), (1, .int .i64 count1), (15, .bool ((decide (count1 < (1 : Int))) || (decide ((255 : Int) < count1))))] ∧ Hp S w0 w (ow)) ?_ ?_
  · rcases Bool.eq_false_or_eq_true (decide (count1 < (1 : Int))) with hb2 | hb2
    · skip
      refine st_skip hf (wantN hf rfl rfl hb2) rfl (by decide) ?_ rfl
      clear hf; intro a hf
      refine st_skip hf (wantN hf rfl rfl hb2) rfl (by decide) ?_ rfl
      clear hf; intro a hf
      refine st_pick (v := .bool true) hf rfl rfl (fun hb' => ?_) (fun hb' => ?_) (by decide) ?_
      · rfl
      · exact absurd (hb2.symm.trans hb') (by decide)
      clear hf; intro a ha hf; clear ha
      refine st_nil hf (th_n ?_)
      exact ⟨hf.sub ⟨rfl, rfl, (by rw [hb2]; rfl), trivial⟩, hp⟩
    · skip
      refine st_move hf (wantY hf rfl rfl hb2) rfl (by decide) ?_
      clear hf; intro a ha hf; clear ha
      refine st_igtr hf (by decide) (wantY hf rfl rfl hb2) rfl rfl ?_
      clear hf; intro a ha hf; clear ha
      refine st_pick (v := .bool (decide ((255 : Int) < count1))) hf rfl rfl (fun hb' => ?_) (fun hb' => ?_) (by decide) ?_
      · exact absurd (hb2.symm.trans hb') (by decide)
      · rfl
      clear hf; intro a ha hf; clear ha
      refine st_nil hf (th_n ?_)
      exact ⟨hf.sub ⟨rfl, rfl, (by rw [hb2]; rfl), trivial⟩, hp⟩
  · rintro a w ⟨hf, hp⟩
    refine st_move hf rfl rfl (by decide) ?_
    clear hf; intro a ha hf; clear ha
    obtain ⟨z5, hz3, h⟩ := bnd h
    refine wpList_cut 6 (fun a w => Fr 57 a [(0, .string s0), (1, .int .i64 count1), (22, .bool z5)] ∧ Hp S w0 w (ow)) ?_ ?_
    · rcases Bool.eq_false_or_eq_true ((decide (count1 < (1 : Int))) || (decide ((255 : Int) < count1))) with hb4 | hb4
      · skip
        replace hz3 := ifT hz3 hb4
        refine st_skip hf (wantN hf rfl rfl hb4) rfl (by decide) ?_ rfl
        clear hf; intro a hf
        refine st_skip hf (wantN hf rfl rfl hb4) rfl (by decide) ?_ rfl
        clear hf; intro a hf
        refine st_skip hf (wantN hf rfl rfl hb4) rfl (by decide) ?_ rfl
        clear hf; intro a hf
        refine st_skip hf (wantN hf rfl rfl hb4) rfl (by decide) ?_ rfl
        clear hf; intro a hf
        refine st_skip hf (wantN hf rfl rfl hb4) rfl (by decide) ?_ rfl
        clear hf; intro a hf
        obtain rfl := Option.some.inj hz3
        refine st_pick (v := .bool true) hf rfl rfl (fun hb' => ?_) (fun hb' => ?_) (by decide) ?_
        · rfl
        · exact absurd (hb4.symm.trans hb') (by decide)
        clear hf; intro a ha hf; clear ha
        refine st_nil hf (th_n ?_)
        exact ⟨hf.sub ⟨rfl, rfl, rfl, trivial⟩, hp⟩
      · skip
        replace hz3 := ifF hz3 hb4
        refine st_move hf (wantY hf rfl rfl hb4) rfl (by decide) ?_
        clear hf; intro a ha hf; clear ha
        refine st_slen hf (by decide) Try.underlying9 (wantY hf rfl rfl hb4) rfl ?_
        clear hf; intro a ha hf; clear ha
        refine st_move hf (wantY hf rfl rfl hb4) rfl (by decide) ?_
        clear hf; intro a ha hf; clear ha
        obtain ⟨hc6, hz3⟩ := chk hz3
        refine st_irem hf (by decide) (wantY hf rfl rfl hb4) rfl rfl hc6 ?_
        clear hf; intro a ha hf; clear ha
        refine st_ineq hf (by decide) (wantY hf rfl rfl hb4) rfl rfl ?_
        clear hf; intro a ha hf; clear ha
        obtain rfl := Option.some.inj hz3
        refine st_pick (v := .bool ((((s0.size : Int)).tmod count1) != (0 : Int))) hf rfl rfl (fun hb' => ?_) (fun hb' => ?_) (by decide) ?_
        · exact absurd (hb4.symm.trans hb') (by decide)
        · rfl
        clear hf; intro a ha hf; clear ha
        refine st_nil hf (th_n ?_)
        exact ⟨hf.sub ⟨rfl, rfl, rfl, trivial⟩, hp⟩
    · rintro a w ⟨hf, hp⟩
      refine st_move hf rfl rfl (by decide) ?_
      clear hf; intro a ha hf; clear ha
      obtain ⟨z9, hz7, h⟩ := bnd h
      refine wpList_cut 8 (fun a w => Fr 57 a [(0, .string s0), (1, .int .i64 count1), (31, .bool z9)] ∧ Hp S w0 w (ow)) ?_ ?_
      · rcases Bool.eq_false_or_eq_true z5 with hb8 | hb8
        · skip
          replace hz7 := ifT hz7 hb8
          refine st_skip hf (wantN hf rfl rfl hb8) rfl (by decide) ?_ rfl
          clear hf; intro a hf
          refine st_skip hf (wantN hf rfl rfl hb8) rfl (by decide) ?_ rfl
          clear hf; intro a hf
          refine st_skip hf (wantN hf rfl rfl hb8) rfl (by decide) ?_ rfl
          clear hf; intro a hf
          refine st_skip hf (wantN hf rfl rfl hb8) rfl (by decide) ?_ rfl
          clear hf; intro a hf
          refine st_skip hf (wantN hf rfl rfl hb8) rfl (by decide) ?_ rfl
          clear hf; intro a hf
          refine st_skip hf (wantN hf rfl rfl hb8) rfl (by decide) ?_ rfl
          clear hf; intro a hf
          refine st_skip hf (wantN hf rfl rfl hb8) rfl (by decide) ?_ rfl
          clear hf; intro a hf
          obtain rfl := Option.some.inj hz7
          refine st_pick (v := .bool true) hf rfl rfl (fun hb' => ?_) (fun hb' => ?_) (by decide) ?_
          · rfl
          · exact absurd (hb8.symm.trans hb') (by decide)
          clear hf; intro a ha hf; clear ha
          refine st_nil hf (th_n ?_)
          exact ⟨hf.sub ⟨rfl, rfl, rfl, trivial⟩, hp⟩
        · skip
          replace hz7 := ifF hz7 hb8
          refine st_move hf (wantY hf rfl rfl hb8) rfl (by decide) ?_
          clear hf; intro a ha hf; clear ha
          refine st_move hf (wantY hf rfl rfl hb8) rfl (by decide) ?_
          clear hf; intro a ha hf; clear ha
          refine st_slen hf (by decide) Try.underlying9 (wantY hf rfl rfl hb8) rfl ?_
          clear hf; intro a ha hf; clear ha
          refine st_move hf (wantY hf rfl rfl hb8) rfl (by decide) ?_
          clear hf; intro a ha hf; clear ha
          obtain ⟨hc10, hz7⟩ := chk hz7
          refine st_iquo hf (by decide) (wantY hf rfl rfl hb8) rfl rfl hc10 ?_
          clear hf; intro a ha hf; clear ha
          obtain ⟨q11, hcall12, hz7⟩ := bnd hz7
          refine st_call hf (by decide) Try.func37 rfl rfl (wantY hf rfl rfl hb8) rfl rfl (f_foghornref17_Of_c hp _ _ hcall12) ?_
          rintro _ w ⟨rfl, hp0⟩
          clear hp; have hp := hp0; clear hp0
          replace hp : Hp S w0 w (ow) := hp
          refine ⟨_, rfl, ?_⟩
          clear hf; intro a hf
          refine st_not hf (by decide) (wantY hf rfl rfl hb8) rfl ?_
          clear hf; intro a ha hf; clear ha
          obtain rfl := Option.some.inj hz7
          refine st_pick (v := .bool (!q11)) hf rfl rfl (fun hb' => ?_) (fun hb' => ?_) (by decide) ?_
          · exact absurd (hb8.symm.trans hb') (by decide)
          · rfl
          clear hf; intro a ha hf; clear ha
          refine st_nil hf (th_n ?_)
          exact ⟨hf.sub ⟨rfl, rfl, rfl, trivial⟩, hp⟩
      · rintro a w ⟨hf, hp⟩
        refine st_nil hf ?_
        refine th_n ?_
        refine wp_if hf rfl (fun hb => ?_) (fun hb => ?_)
        · replace h := ifT h hb
          refine wp_seq ?_
          refine wp_reg ?_
          refine st_assign hf rfl rfl (by decide) ?_
          clear hf; intro a ha hf; clear ha
          refine st_assign hf rfl rfl (by decide) ?_
          clear hf; intro a ha hf; clear ha
          refine st_nil hf ?_
          refine th_n ?_
          refine wp_ret ?_
          refine th_r ?_
          obtain rfl := Option.some.inj h
          have hp := hp.nil Ek.str 9
          exact ⟨rfl, ⟨_, hf.sub ⟨rfl, rfl, trivial⟩, hp⟩⟩
        · replace h := ifF h hb
          refine wp_skip ?_
          refine th_n ?_
          refine wp_seq ?_
          refine wp_reg ?_
          refine st_assign hf rfl rfl (by decide) ?_
          clear hf; intro a ha hf; clear ha
          refine st_nil hf ?_
          refine th_n ?_
          refine wp_seq ?_
          refine wp_seq ?_
          refine wp_reg ?_
          refine st_assign hf rfl rfl (by decide) ?_
          clear hf; intro a ha hf; clear ha
          refine st_nil hf ?_
          refine th_n ?_
          refine wp_block ?_
          obtain ⟨q33, hl, h⟩ := bnd h
          have hp := hp.nil Ek.str 9
          refine wp_loop_pure (f := (f_foghornref17_Out.s1 s0 count1)) (s := ([], (0 : Int))) (fun s a w => ∃ (v14 : Value), Fr 57 a [(0, .string s0), (1, .int .i64 count1), (6, v14), (7, .int .i64 s.2)] ∧ Hp S w0 w (Res.sl Ek.str 9 v14 s.1 :: ow)) (fun q e a w => e = .exit 0 ∧ ∃ (v16 : Value), Fr 57 a [(6, v16)] ∧ Hp S w0 w (Res.sl Ek.str 9 v16 q :: ow)) ?_ hl ⟨_, hf.sub ⟨rfl, rfl, rfl, rfl, trivial⟩, hp⟩ ?_
          · clear hl hf hp
            intro s x a w h hI
            obtain ⟨out6, w7⟩ := s
            obtain ⟨v14, hf, hp⟩ : ∃ (v14 : Value), Fr 57 a [(0, .string s0), (1, .int .i64 count1), (6, v14), (7, .int .i64 w7)] ∧ Hp S w0 w (Res.sl Ek.str 9 v14 out6 :: ow) := hI
            replace h : f_foghornref17_Out.s1c s0 count1 out6 w7 = some x := h
            unfold f_foghornref17_Out.s1c at h
            refine wp_seq ?_
            refine wp_seq ?_
            refine wp_reg ?_
            refine st_move hf rfl rfl (by decide) ?_
            clear hf; intro a ha hf; clear ha
            refine st_move hf rfl rfl (by decide) ?_
            clear hf; intro a ha hf; clear ha
            refine st_ilss hf (by decide) rfl rfl rfl ?_
            clear hf; intro a ha hf; clear ha
            refine st_nil hf ?_
            refine th_n ?_
            refine wp_if hf rfl (fun hb => ?_) (fun hb => ?_)
            · replace h := ifT h hb
              refine wp_skip ?_
              refine th_n ?_
              refine wp_seq ?_
              refine wp_block ?_
              refine wp_seq ?_
              refine wp_reg ?_
              refine st_assign hf rfl rfl (by decide) ?_
              clear hf; intro a ha hf; clear ha
              refine st_nil hf ?_
              refine th_n ?_
              refine wp_seq ?_
              refine wp_seq ?_
              refine wp_reg ?_
              refine st_move hf rfl rfl (by decide) ?_
              clear hf; intro a ha hf; clear ha
              refine st_assign hf rfl rfl (by decide) ?_
              clear hf; intro a ha hf; clear ha
              refine st_nil hf ?_
              refine th_n ?_
              refine wp_block ?_
              obtain ⟨q27, hl, h⟩ := bnd h
              have hp := hp.nil (Ek.int .u8) 5
              refine wp_loop_pure (f := (f_foghornref17_Out.s2 s0 count1)) (s := ([], w7)) (fun s a w => ∃ (v18 : Value), Fr 57 a [(0, .string s0), (1, .int .i64 count1), (6, v14), (7, .int .i64 w7), (8, v18), (9, .int .i64 s.2)] ∧ Hp S w0 w (Res.sl (Ek.int .u8) 5 v18 s.1 :: Res.sl Ek.str 9 v14 out6 :: ow)) (fun q e a w => e = .exit 2 ∧ ∃ (v20 : Value), Fr 57 a [(0, .string s0), (1, .int .i64 count1), (6, v14), (7, .int .i64 w7), (8, v20)] ∧ Hp S w0 w (Res.sl (Ek.int .u8) 5 v20 q :: Res.sl Ek.str 9 v14 out6 :: ow)) ?_ hl ⟨_, hf.sub ⟨rfl, rfl, rfl, rfl, rfl, rfl, trivial⟩, hp⟩ ?_
              · clear hl hf hp
                intro s x a w h hI
                obtain ⟨b8, at9⟩ := s
                obtain ⟨v18, hf, hp⟩ : ∃ (v18 : Value), Fr 57 a [(0, .string s0), (1, .int .i64 count1), (6, v14), (7, .int .i64 w7), (8, v18), (9, .int .i64 at9)] ∧ Hp S w0 w (Res.sl (Ek.int .u8) 5 v18 b8 :: Res.sl Ek.str 9 v14 out6 :: ow) := hI
                replace h : f_foghornref17_Out.s2c s0 count1 b8 at9 = some x := h
                unfold f_foghornref17_Out.s2c at h
                refine wp_seq ?_
                refine wp_seq ?_
                refine wp_reg ?_
                refine st_move hf rfl rfl (by decide) ?_
                clear hf; intro a ha hf; clear ha
                refine st_move hf rfl rfl (by decide) ?_
                clear hf; intro a ha hf; clear ha
                refine st_slen hf (by decide) Try.underlying9 rfl rfl ?_
                clear hf; intro a ha hf; clear ha
                refine st_ilss hf (by decide) rfl rfl rfl ?_
                clear hf; intro a ha hf; clear ha
                refine st_nil hf ?_
                refine th_n ?_
                refine wp_if hf rfl (fun hb => ?_) (fun hb => ?_)
                · replace h := ifT h hb
                  refine wp_skip ?_
                  refine th_n ?_
                  refine wp_seq ?_
                  refine wp_block ?_
                  refine wp_reg ?_
                  refine st_move hf rfl rfl (by decide) ?_
                  clear hf; intro a ha hf; clear ha
                  refine st_move hf rfl rfl (by decide) ?_
                  clear hf; intro a ha hf; clear ha
                  refine st_move hf rfl rfl (by decide) ?_
                  clear hf; intro a ha hf; clear ha
                  obtain ⟨hc22, h⟩ := chk h
                  refine st_sidx hf (by decide) Try.underlying9 rfl rfl rfl hc22.1 hc22.2 ?_
                  clear hf; intro a ha hf; clear ha
                  refine st_build (E := (Ek.int .u8)) (xs := [(bt s0 at9)]) hf (by decide) elt5 Try.underlying59 hp (vals := #[(0, .int .u8 (bt s0 at9))]) (cells := #[.int .u8 (bt s0 at9)]) rfl (by simp [hf.ev (x := (Operand.tmp 48)) rfl]) (by decide) (by decide) (z := .int .u8 0) (by kernel_rfl) (by kernel_rfl) rfl (reps_cons (cs := [.int .u8 (bt s0 at9)]) rfl (reps_nil _)) ?_
                  clear hf; intro a w v23 hf hp0; clear hp; have hp := hp0; clear hp0
                  replace hp : Hp S w0 w (Res.sl (Ek.int .u8) 5 v23 ([(bt s0 at9)]) :: Res.sl (Ek.int .u8) 5 v18 b8 :: Res.sl Ek.str 9 v14 out6 :: ow) := hp
                  obtain ⟨hc25, h⟩ := chk h
                  refine st_append (E := (Ek.int .u8)) hf (by decide) elt5 Try.underlying59 (by decide) hp (i := 1) rfl rfl rfl rfl (hp.sl (i := 0) rfl) hc25 ?_
                  clear hf; intro a w v26 hf hp0; clear hp; have hp := hp0; clear hp0
                  replace hp : Hp S w0 w (Res.sl (Ek.int .u8) 5 v23 ([(bt s0 at9)]) :: Res.sl (Ek.int .u8) 5 v26 (b8 ++ [(bt s0 at9)]) :: Res.sl Ek.str 9 v14 out6 :: ow) := hp
                  refine st_assign hf rfl rfl (by decide) ?_
                  clear hf; intro a ha hf; clear ha
                  refine st_nil hf ?_
                  refine ib_n ?_
                  refine th_n ?_
                  refine wp_reg ?_
                  refine st_move hf rfl rfl (by decide) ?_
                  clear hf; intro a ha hf; clear ha
                  refine st_move hf rfl rfl (by decide) ?_
                  clear hf; intro a ha hf; clear ha
                  refine st_iadd hf (by decide) rfl rfl rfl ?_
                  clear hf; intro a ha hf; clear ha
                  refine st_assign hf rfl rfl (by decide) ?_
                  clear hf; intro a ha hf; clear ha
                  refine st_nil hf ?_
                  obtain rfl := Option.some.inj h
                  have hp : Hp S w0 w (Res.sl (Ek.int .u8) 5 v26 (b8 ++ [(bt s0 at9)]) :: Res.sl Ek.str 9 v14 out6 :: ow) := Hp.sel (pre := [Res.sl (Ek.int .u8) 5 v23 ([(bt s0 at9)]), Res.sl (Ek.int .u8) 5 v26 (b8 ++ [(bt s0 at9)]), Res.sl Ek.str 9 v14 out6]) (tail := ow) (rs' := [Res.sl (Ek.int .u8) 5 v26 (b8 ++ [(bt s0 at9)]), Res.sl Ek.str 9 v14 out6]) hp [1, 2] (by decide) (by simp) rfl
                  exact rnd_l ⟨_, hf.sub ⟨rfl, rfl, rfl, rfl, rfl, rfl, trivial⟩, hp⟩
                · replace h := ifF h hb
                  refine wp_exit ?_
                  refine th_e ?_
                  obtain rfl := Option.some.inj h
                  exact rnd_r (by simp) ⟨rfl, _, hf.sub ⟨rfl, rfl, rfl, rfl, rfl, trivial⟩, hp⟩
              · clear hl hf hp
                intro e a w hne hO
                obtain ⟨rfl, v20, hf, hp⟩ := hO
                refine ib_same ?_
                refine th_n ?_
                refine wp_reg ?_
                refine st_move hf rfl rfl (by decide) ?_
                clear hf; intro a ha hf; clear ha
                refine st_move hf rfl rfl (by decide) ?_
                clear hf; intro a ha hf; clear ha
                refine st_convBS hf (by decide) Try.underlying59 Try.underlying5 Try.underlying9 rfl rfl (hp.sl (i := 0) rfl) ?_
                clear hf; intro a ha hf; clear ha
                refine st_build (E := Ek.str) (xs := [(bstr q27)]) hf (by decide) elt9 Try.underlying37 hp (vals := #[(0, .string (bstr q27))]) (cells := #[.string (bstr q27)]) rfl (by simp [hf.ev (x := (Operand.tmp 53)) rfl]) (by decide) (by decide) (z := .string ByteArray.empty) (by kernel_rfl) (by kernel_rfl) rfl (reps_cons (cs := [.string (bstr q27)]) rfl (reps_nil _)) ?_
                clear hf; intro a w v29 hf hp0; clear hp; have hp := hp0; clear hp0
                replace hp : Hp S w0 w (Res.sl Ek.str 9 v29 ([(bstr q27)]) :: Res.sl (Ek.int .u8) 5 v20 q27 :: Res.sl Ek.str 9 v14 out6 :: ow) := hp
                obtain ⟨hc31, h⟩ := chk h
                refine st_append (E := Ek.str) hf (by decide) elt9 Try.underlying37 (by decide) hp (i := 2) rfl rfl rfl rfl (hp.sl (i := 0) rfl) hc31 ?_
                clear hf; intro a w v32 hf hp0; clear hp; have hp := hp0; clear hp0
                replace hp : Hp S w0 w (Res.sl Ek.str 9 v29 ([(bstr q27)]) :: Res.sl (Ek.int .u8) 5 v20 q27 :: Res.sl Ek.str 9 v32 (out6 ++ [(bstr q27)]) :: ow) := hp
                refine st_assign hf rfl rfl (by decide) ?_
                clear hf; intro a ha hf; clear ha
                refine st_nil hf ?_
                refine ib_n ?_
                refine th_n ?_
                refine wp_reg ?_
                refine st_move hf rfl rfl (by decide) ?_
                clear hf; intro a ha hf; clear ha
                refine st_iadd hf (by decide) rfl rfl rfl ?_
                clear hf; intro a ha hf; clear ha
                refine st_assign hf rfl rfl (by decide) ?_
                clear hf; intro a ha hf; clear ha
                refine st_nil hf ?_
                obtain rfl := Option.some.inj h
                have hp : Hp S w0 w (Res.sl Ek.str 9 v32 (out6 ++ [(bstr q27)]) :: ow) := Hp.sel (pre := [Res.sl Ek.str 9 v29 ([(bstr q27)]), Res.sl (Ek.int .u8) 5 v20 q27, Res.sl Ek.str 9 v32 (out6 ++ [(bstr q27)])]) (tail := ow) (rs' := [Res.sl Ek.str 9 v32 (out6 ++ [(bstr q27)])]) hp [2] (by decide) (by simp) rfl
                exact rnd_l ⟨_, hf.sub ⟨rfl, rfl, rfl, rfl, trivial⟩, hp⟩
            · replace h := ifF h hb
              refine wp_exit ?_
              refine th_e ?_
              obtain rfl := Option.some.inj h
              exact rnd_r (by simp) ⟨rfl, _, hf.sub ⟨rfl, trivial⟩, hp⟩
          · clear hl hf hp
            intro e a w hne hO
            obtain ⟨rfl, v16, hf, hp⟩ := hO
            refine ib_same ?_
            refine th_n ?_
            refine wp_seq ?_
            refine wp_reg ?_
            refine st_move hf rfl rfl (by decide) ?_
            clear hf; intro a ha hf; clear ha
            refine st_assign hf rfl rfl (by decide) ?_
            clear hf; intro a ha hf; clear ha
            refine st_assign hf rfl rfl (by decide) ?_
            clear hf; intro a ha hf; clear ha
            refine st_nil hf ?_
            refine th_n ?_
            refine wp_ret ?_
            obtain rfl := Option.some.inj h
            exact ⟨rfl, ⟨_, hf.sub ⟨rfl, rfl, trivial⟩, hp⟩⟩

noncomputable def f_weave_Out.s2c (s0 : ByteArray) (count1 : Int) (b8 : (List Int)) (at9 : Int) : Option (((List Int) × Int) ⊕ (List Int)) := (if (decide (at9 < (s0.size : Int))) = true then (if 0 ≤ at9 ∧ at9 < (s0.size : Int) then (if (b8.length + ([(bt s0 at9)]).length) * 1 ≤ 140737488355328 then (some (Sum.inl ((b8 ++ [(bt s0 at9)]), (IntKind.i64.wrap (at9 + count1))))) else none) else none) else (some (Sum.inr b8)))
noncomputable def f_weave_Out.s2 (s0 : ByteArray) (count1 : Int) (s : ((List Int) × Int)) : Option (((List Int) × Int) ⊕ (List Int)) := f_weave_Out.s2c s0 count1 s.1 s.2
noncomputable def f_weave_Out.s1c (s0 : ByteArray) (count1 : Int) (words6 : (List ByteArray)) (t35 : Int) : Option (((List ByteArray) × Int) ⊕ (List ByteArray)) := (if (decide (t35 < count1)) = true then (if count1 ≠ 0 then (if 0 ≤ (0 : Int) ∧ (0 : Int) ≤ (IntKind.i64.wrap (((s0.size : Int)).tdiv count1)) ∧ (IntKind.i64.wrap (((s0.size : Int)).tdiv count1)) * 1 ≤ 281474976710656 then ((loop (f_weave_Out.s2 s0 count1) ((List.replicate ((0 : Int)).toNat (0 : Int)), t35)).bind (fun q34 => (if (words6.length + ([(bstr q34)]).length) * 16 ≤ 140737488355328 then (some (Sum.inl ((words6 ++ [(bstr q34)]), (IntKind.i64.wrap (t35 + (1 : Int)))))) else none))) else none) else none) else (some (Sum.inr words6)))
noncomputable def f_weave_Out.s1 (s0 : ByteArray) (count1 : Int) (s : ((List ByteArray) × Int)) : Option (((List ByteArray) × Int) ⊕ (List ByteArray)) := f_weave_Out.s1c s0 count1 s.1 s.2
noncomputable def f_weave_Out (s0 : ByteArray) (count1 : Int) : Option ((List ByteArray) × Int) := ((if ((decide (count1 < (1 : Int))) || (decide ((255 : Int) < count1))) = true then (some true) else (if count1 ≠ 0 then (some ((((s0.size : Int)).tmod count1) != (0 : Int))) else none)).bind fun z5 => ((if z5 = true then (some true) else (if count1 ≠ 0 then ((f_weave_may count1 (IntKind.i64.wrap (((s0.size : Int)).tdiv count1))).bind fun q11 => (some (!q11))) else none)).bind fun z9 => (if z9 = true then (some ([], (1 : Int))) else (if 0 ≤ (0 : Int) ∧ (0 : Int) ≤ count1 ∧ count1 * 16 ≤ 281474976710656 then ((loop (f_weave_Out.s1 s0 count1) ((List.replicate ((0 : Int)).toNat ByteArray.empty), (0 : Int))).bind (fun q39 => (some (q39, (0 : Int))))) else none))))
theorem f_weave_Out_c {S : Nat → Prop} {w0 w : World} {ow : List Res} (hp : Hp S w0 w ow) (s0 : ByteArray) (count1 : Int) {r : ((List ByteArray) × Int)} (h : f_weave_Out s0 count1 = some r) :
    Calls Try.prog 26 #[.string s0, .int .i64 count1] w (fun e w' => ∃ (u0 : Value), e = .returned (.tuple #[u0, .int .i64 r.2]) ∧ Hp S w0 w' (Res.sl Ek.str 9 u0 r.1 :: ow)) := by
  unfold f_weave_Out at h
  refine enter (n := 64) (args := [.string s0, .int .i64 count1]) Try.func26 rfl rfl (Nat.le_of_ble_eq_true rfl) fun a hf => ?_
  replace hf : Fr 64 a [(0, .string s0), (1, .int .i64 count1)] := hf
  refine wp_mono (Q := fun e a w => e = .ret ∧ ∃ (u0 : Value), Fr 64 a [(4, u0), (5, .int .i64 r.2)] ∧ Hp S w0 w (Res.sl Ek.str 9 u0 r.1 :: ow)) ?_ ?_
  rotate_left
  · rintro e a w ⟨rfl, x0, hf, hp⟩
    exact ret2 hf rfl rfl rfl ⟨x0, rfl, hp⟩
  refine wp_seq ?_
  refine wp_reg ?_
  refine st_assign hf rfl rfl (by decide) ?_
  clear hf; intro a ha hf; clear ha
  refine st_assign hf rfl rfl (by decide) ?_
  clear hf; intro a ha hf; clear ha
  refine st_nil hf ?_
  refine th_n ?_
  refine wp_seq ?_
  refine wp_seq ?_
  refine wp_reg ?_
  refine st_move hf rfl rfl (by decide) ?_
  clear hf; intro a ha hf; clear ha
  refine st_ilss hf (by decide) rfl rfl rfl ?_
  clear hf; intro a ha hf; clear ha
  refine st_move hf rfl rfl (by decide) ?_
  clear hf; intro a ha hf; clear ha
  refine wpList_cut 3 (fun a w => Fr 64 a [(0, .string s0), (1, .int .i64 count1), (15, .bool ((decide (count1 < (1 : Int))) || (decide ((255 : Int) < count1))))] ∧ Hp S w0 w (ow)) ?_ ?_
  · rcases Bool.eq_false_or_eq_true (decide (count1 < (1 : Int))) with hb2 | hb2
    · skip
      refine st_skip hf (wantN hf rfl rfl hb2) rfl (by decide) ?_ rfl
      clear hf; intro a hf
      refine st_skip hf (wantN hf rfl rfl hb2) rfl (by decide) ?_ rfl
      clear hf; intro a hf
      refine st_pick (v := .bool true) hf rfl rfl (fun hb' => ?_) (fun hb' => ?_) (by decide) ?_
      · rfl
      · exact absurd (hb2.symm.trans hb') (by decide)
      clear hf; intro a ha hf; clear ha
      refine st_nil hf (th_n ?_)
      exact ⟨hf.sub ⟨rfl, rfl, (by rw [hb2]; rfl), trivial⟩, hp⟩
    · skip
      refine st_move hf (wantY hf rfl rfl hb2) rfl (by decide) ?_
      clear hf; intro a ha hf; clear ha
      refine st_igtr hf (by decide) (wantY hf rfl rfl hb2) rfl rfl ?_
      clear hf; intro a ha hf; clear ha
      refine st_pick (v := .bool (decide ((255 : Int) < count1))) hf rfl rfl (fun hb' => ?_) (fun hb' => ?_) (by decide) ?_
      · exact absurd (hb2.symm.trans hb') (by decide)
      · rfl
      clear hf; intro a ha hf; clear ha
      refine st_nil hf (th_n ?_)
      exact ⟨hf.sub ⟨rfl, rfl, (by rw [hb2]; rfl), trivial⟩, hp⟩
  · rintro a w ⟨hf, hp⟩
    refine st_move hf rfl rfl (by decide) ?_
    clear hf; intro a ha hf; clear ha
    obtain ⟨z5, hz3, h⟩ := bnd h
    refine wpList_cut 6 (fun a w => Fr 64 a [(0, .string s0), (1, .int .i64 count1), (22, .bool z5)] ∧ Hp S w0 w (ow)) ?_ ?_
    · rcases Bool.eq_false_or_eq_true ((decide (count1 < (1 : Int))) || (decide ((255 : Int) < count1))) with hb4 | hb4
      · skip
        replace hz3 := ifT hz3 hb4
        refine st_skip hf (wantN hf rfl rfl hb4) rfl (by decide) ?_ rfl
        clear hf; intro a hf
        refine st_skip hf (wantN hf rfl rfl hb4) rfl (by decide) ?_ rfl
        clear hf; intro a hf
        refine st_skip hf (wantN hf rfl rfl hb4) rfl (by decide) ?_ rfl
        clear hf; intro a hf
        refine st_skip hf (wantN hf rfl rfl hb4) rfl (by decide) ?_ rfl
        clear hf; intro a hf
        refine st_skip hf (wantN hf rfl rfl hb4) rfl (by decide) ?_ rfl
        clear hf; intro a hf
        obtain rfl := Option.some.inj hz3
        refine st_pick (v := .bool true) hf rfl rfl (fun hb' => ?_) (fun hb' => ?_) (by decide) ?_
        · rfl
        · exact absurd (hb4.symm.trans hb') (by decide)
        clear hf; intro a ha hf; clear ha
        refine st_nil hf (th_n ?_)
        exact ⟨hf.sub ⟨rfl, rfl, rfl, trivial⟩, hp⟩
      · skip
        replace hz3 := ifF hz3 hb4
        refine st_move hf (wantY hf rfl rfl hb4) rfl (by decide) ?_
        clear hf; intro a ha hf; clear ha
        refine st_slen hf (by decide) Try.underlying9 (wantY hf rfl rfl hb4) rfl ?_
        clear hf; intro a ha hf; clear ha
        refine st_move hf (wantY hf rfl rfl hb4) rfl (by decide) ?_
        clear hf; intro a ha hf; clear ha
        obtain ⟨hc6, hz3⟩ := chk hz3
        refine st_irem hf (by decide) (wantY hf rfl rfl hb4) rfl rfl hc6 ?_
        clear hf; intro a ha hf; clear ha
        refine st_ineq hf (by decide) (wantY hf rfl rfl hb4) rfl rfl ?_
        clear hf; intro a ha hf; clear ha
        obtain rfl := Option.some.inj hz3
        refine st_pick (v := .bool ((((s0.size : Int)).tmod count1) != (0 : Int))) hf rfl rfl (fun hb' => ?_) (fun hb' => ?_) (by decide) ?_
        · exact absurd (hb4.symm.trans hb') (by decide)
        · rfl
        clear hf; intro a ha hf; clear ha
        refine st_nil hf (th_n ?_)
        exact ⟨hf.sub ⟨rfl, rfl, rfl, trivial⟩, hp⟩
    · rintro a w ⟨hf, hp⟩
      refine st_move hf rfl rfl (by decide) ?_
      clear hf; intro a ha hf; clear ha
      obtain ⟨z9, hz7, h⟩ := bnd h
      refine wpList_cut 8 (fun a w => Fr 64 a [(0, .string s0), (1, .int .i64 count1), (31, .bool z9)] ∧ Hp S w0 w (ow)) ?_ ?_
      · rcases Bool.eq_false_or_eq_true z5 with hb8 | hb8
        · skip
          replace hz7 := ifT hz7 hb8
          refine st_skip hf (wantN hf rfl rfl hb8) rfl (by decide) ?_ rfl
          clear hf; intro a hf
          refine st_skip hf (wantN hf rfl rfl hb8) rfl (by decide) ?_ rfl
          clear hf; intro a hf
          refine st_skip hf (wantN hf rfl rfl hb8) rfl (by decide) ?_ rfl
          clear hf; intro a hf
          refine st_skip hf (wantN hf rfl rfl hb8) rfl (by decide) ?_ rfl
          clear hf; intro a hf
          refine st_skip hf (wantN hf rfl rfl hb8) rfl (by decide) ?_ rfl
          clear hf; intro a hf
          refine st_skip hf (wantN hf rfl rfl hb8) rfl (by decide) ?_ rfl
          clear hf; intro a hf
          refine st_skip hf (wantN hf rfl rfl hb8) rfl (by decide) ?_ rfl
          clear hf; intro a hf
          obtain rfl := Option.some.inj hz7
          refine st_pick (v := .bool true) hf rfl rfl (fun hb' => ?_) (fun hb' => ?_) (by decide) ?_
          · rfl
          · exact absurd (hb8.symm.trans hb') (by decide)
          clear hf; intro a ha hf; clear ha
          refine st_nil hf (th_n ?_)
          exact ⟨hf.sub ⟨rfl, rfl, rfl, trivial⟩, hp⟩
        · skip
          replace hz7 := ifF hz7 hb8
          refine st_move hf (wantY hf rfl rfl hb8) rfl (by decide) ?_
          clear hf; intro a ha hf; clear ha
          refine st_move hf (wantY hf rfl rfl hb8) rfl (by decide) ?_
          clear hf; intro a ha hf; clear ha
          refine st_slen hf (by decide) Try.underlying9 (wantY hf rfl rfl hb8) rfl ?_
          clear hf; intro a ha hf; clear ha
          refine st_move hf (wantY hf rfl rfl hb8) rfl (by decide) ?_
          clear hf; intro a ha hf; clear ha
          obtain ⟨hc10, hz7⟩ := chk hz7
          refine st_iquo hf (by decide) (wantY hf rfl rfl hb8) rfl rfl hc10 ?_
          clear hf; intro a ha hf; clear ha
          obtain ⟨q11, hcall12, hz7⟩ := bnd hz7
          refine st_call hf (by decide) Try.func38 rfl rfl (wantY hf rfl rfl hb8) rfl rfl (f_weave_may_c hp _ _ hcall12) ?_
          rintro _ w ⟨rfl, hp0⟩
          clear hp; have hp := hp0; clear hp0
          replace hp : Hp S w0 w (ow) := hp
          refine ⟨_, rfl, ?_⟩
          clear hf; intro a hf
          refine st_not hf (by decide) (wantY hf rfl rfl hb8) rfl ?_
          clear hf; intro a ha hf; clear ha
          obtain rfl := Option.some.inj hz7
          refine st_pick (v := .bool (!q11)) hf rfl rfl (fun hb' => ?_) (fun hb' => ?_) (by decide) ?_
          · exact absurd (hb8.symm.trans hb') (by decide)
          · rfl
          clear hf; intro a ha hf; clear ha
          refine st_nil hf (th_n ?_)
          exact ⟨hf.sub ⟨rfl, rfl, rfl, trivial⟩, hp⟩
      · rintro a w ⟨hf, hp⟩
        refine st_nil hf ?_
        refine th_n ?_
        refine wp_if hf rfl (fun hb => ?_) (fun hb => ?_)
        · replace h := ifT h hb
          refine wp_seq ?_
          refine wp_reg ?_
          refine st_assign hf rfl rfl (by decide) ?_
          clear hf; intro a ha hf; clear ha
          refine st_assign hf rfl rfl (by decide) ?_
          clear hf; intro a ha hf; clear ha
          refine st_nil hf ?_
          refine th_n ?_
          refine wp_ret ?_
          refine th_r ?_
          obtain rfl := Option.some.inj h
          have hp := hp.nil Ek.str 9
          exact ⟨rfl, ⟨_, hf.sub ⟨rfl, rfl, trivial⟩, hp⟩⟩
        · replace h := ifF h hb
          refine wp_skip ?_
          refine th_n ?_
          refine wp_seq ?_
          refine wp_reg ?_
          refine st_move hf rfl rfl (by decide) ?_
          clear hf; intro a ha hf; clear ha
          obtain ⟨hc14, h⟩ := chk h
          refine st_make (E := Ek.str) hf (by decide) elt9 Try.underlying37 (by decide) hp rfl rfl rfl hc14.1 hc14.2.1 hc14.2.2 ?_
          clear hf; intro a w v15 hf hp0; clear hp; have hp := hp0; clear hp0
          replace hp : Hp S w0 w (Res.sl Ek.str 9 v15 (List.replicate ((0 : Int)).toNat ByteArray.empty) :: ow) := hp
          refine st_assign hf rfl rfl (by decide) ?_
          clear hf; intro a ha hf; clear ha
          refine st_nil hf ?_
          refine th_n ?_
          refine wp_seq ?_
          refine wp_seq ?_
          refine wp_reg ?_
          refine st_move hf rfl rfl (by decide) ?_
          clear hf; intro a ha hf; clear ha
          refine st_move hf rfl rfl (by decide) ?_
          clear hf; intro a ha hf; clear ha
          refine st_nil hf ?_
          refine th_n ?_
          refine wp_block ?_
          obtain ⟨q39, hl, h⟩ := bnd h
          refine wp_loop_pure (f := (f_weave_Out.s1 s0 count1)) (s := ((List.replicate ((0 : Int)).toNat ByteArray.empty), (0 : Int))) (fun s a w => ∃ (v17 : Value), Fr 64 a [(0, .string s0), (1, .int .i64 count1), (6, v17), (34, .int .i64 count1), (35, .int .i64 s.2)] ∧ Hp S w0 w (Res.sl Ek.str 9 v17 s.1 :: ow)) (fun q e a w => e = .exit 0 ∧ ∃ (v19 : Value), Fr 64 a [(6, v19)] ∧ Hp S w0 w (Res.sl Ek.str 9 v19 q :: ow)) ?_ hl ⟨_, hf.sub ⟨rfl, rfl, rfl, rfl, rfl, trivial⟩, hp⟩ ?_
          · clear hl hf hp
            intro s x a w h hI
            obtain ⟨words6, t35⟩ := s
            obtain ⟨v17, hf, hp⟩ : ∃ (v17 : Value), Fr 64 a [(0, .string s0), (1, .int .i64 count1), (6, v17), (34, .int .i64 count1), (35, .int .i64 t35)] ∧ Hp S w0 w (Res.sl Ek.str 9 v17 words6 :: ow) := hI
            replace h : f_weave_Out.s1c s0 count1 words6 t35 = some x := h
            unfold f_weave_Out.s1c at h
            refine wp_seq ?_
            refine wp_reg ?_
            refine st_ilss hf (by decide) rfl rfl rfl ?_
            clear hf; intro a ha hf; clear ha
            refine st_nil hf ?_
            refine th_n ?_
            refine wp_seq ?_
            refine wp_if hf rfl (fun hb => ?_) (fun hb => ?_)
            · replace h := ifT h hb
              refine wp_skip ?_
              refine th_n ?_
              refine wp_seq ?_
              refine wp_block ?_
              refine wp_seq ?_
              refine wp_reg ?_
              refine st_move hf rfl rfl (by decide) ?_
              clear hf; intro a ha hf; clear ha
              refine st_assign hf rfl rfl (by decide) ?_
              clear hf; intro a ha hf; clear ha
              refine st_nil hf ?_
              refine th_n ?_
              refine wp_seq ?_
              refine wp_reg ?_
              refine st_move hf rfl rfl (by decide) ?_
              clear hf; intro a ha hf; clear ha
              refine st_slen hf (by decide) Try.underlying9 rfl rfl ?_
              clear hf; intro a ha hf; clear ha
              refine st_move hf rfl rfl (by decide) ?_
              clear hf; intro a ha hf; clear ha
              obtain ⟨hc21, h⟩ := chk h
              refine st_iquo hf (by decide) rfl rfl rfl hc21 ?_
              clear hf; intro a ha hf; clear ha
              obtain ⟨hc22, h⟩ := chk h
              refine st_make (E := (Ek.int .u8)) hf (by decide) elt5 Try.underlying59 (by decide) hp rfl rfl rfl hc22.1 hc22.2.1 hc22.2.2 ?_
              clear hf; intro a w v23 hf hp0; clear hp; have hp := hp0; clear hp0
              replace hp : Hp S w0 w (Res.sl (Ek.int .u8) 5 v23 (List.replicate ((0 : Int)).toNat (0 : Int)) :: Res.sl Ek.str 9 v17 words6 :: ow) := hp
              refine st_assign hf rfl rfl (by decide) ?_
              clear hf; intro a ha hf; clear ha
              refine st_nil hf ?_
              refine th_n ?_
              refine wp_seq ?_
              refine wp_seq ?_
              refine wp_reg ?_
              refine st_move hf rfl rfl (by decide) ?_
              clear hf; intro a ha hf; clear ha
              refine st_assign hf rfl rfl (by decide) ?_
              clear hf; intro a ha hf; clear ha
              refine st_nil hf ?_
              refine th_n ?_
              refine wp_block ?_
              obtain ⟨q34, hl, h⟩ := bnd h
              refine wp_loop_pure (f := (f_weave_Out.s2 s0 count1)) (s := ((List.replicate ((0 : Int)).toNat (0 : Int)), t35)) (fun s a w => ∃ (v25 : Value), Fr 64 a [(0, .string s0), (1, .int .i64 count1), (6, v17), (8, v25), (9, .int .i64 s.2), (34, .int .i64 count1), (35, .int .i64 t35)] ∧ Hp S w0 w (Res.sl (Ek.int .u8) 5 v25 s.1 :: Res.sl Ek.str 9 v17 words6 :: ow)) (fun q e a w => e = .exit 2 ∧ ∃ (v27 : Value), Fr 64 a [(0, .string s0), (1, .int .i64 count1), (6, v17), (8, v27), (34, .int .i64 count1), (35, .int .i64 t35)] ∧ Hp S w0 w (Res.sl (Ek.int .u8) 5 v27 q :: Res.sl Ek.str 9 v17 words6 :: ow)) ?_ hl ⟨_, hf.sub ⟨rfl, rfl, rfl, rfl, rfl, rfl, rfl, trivial⟩, hp⟩ ?_
              · clear hl hf hp
                intro s x a w h hI
                obtain ⟨b8, at9⟩ := s
                obtain ⟨v25, hf, hp⟩ : ∃ (v25 : Value), Fr 64 a [(0, .string s0), (1, .int .i64 count1), (6, v17), (8, v25), (9, .int .i64 at9), (34, .int .i64 count1), (35, .int .i64 t35)] ∧ Hp S w0 w (Res.sl (Ek.int .u8) 5 v25 b8 :: Res.sl Ek.str 9 v17 words6 :: ow) := hI
                replace h : f_weave_Out.s2c s0 count1 b8 at9 = some x := h
                unfold f_weave_Out.s2c at h
                refine wp_seq ?_
                refine wp_seq ?_
                refine wp_reg ?_
                refine st_move hf rfl rfl (by decide) ?_
                clear hf; intro a ha hf; clear ha
                refine st_move hf rfl rfl (by decide) ?_
                clear hf; intro a ha hf; clear ha
                refine st_slen hf (by decide) Try.underlying9 rfl rfl ?_
                clear hf; intro a ha hf; clear ha
                refine st_ilss hf (by decide) rfl rfl rfl ?_
                clear hf; intro a ha hf; clear ha
                refine st_nil hf ?_
                refine th_n ?_
                refine wp_if hf rfl (fun hb => ?_) (fun hb => ?_)
                · replace h := ifT h hb
                  refine wp_skip ?_
                  refine th_n ?_
                  refine wp_seq ?_
                  refine wp_block ?_
                  refine wp_reg ?_
                  refine st_move hf rfl rfl (by decide) ?_
                  clear hf; intro a ha hf; clear ha
                  refine st_move hf rfl rfl (by decide) ?_
                  clear hf; intro a ha hf; clear ha
                  refine st_move hf rfl rfl (by decide) ?_
                  clear hf; intro a ha hf; clear ha
                  obtain ⟨hc29, h⟩ := chk h
                  refine st_sidx hf (by decide) Try.underlying9 rfl rfl rfl hc29.1 hc29.2 ?_
                  clear hf; intro a ha hf; clear ha
                  refine st_build (E := (Ek.int .u8)) (xs := [(bt s0 at9)]) hf (by decide) elt5 Try.underlying59 hp (vals := #[(0, .int .u8 (bt s0 at9))]) (cells := #[.int .u8 (bt s0 at9)]) rfl (by simp [hf.ev (x := (Operand.tmp 54)) rfl]) (by decide) (by decide) (z := .int .u8 0) (by kernel_rfl) (by kernel_rfl) rfl (reps_cons (cs := [.int .u8 (bt s0 at9)]) rfl (reps_nil _)) ?_
                  clear hf; intro a w v30 hf hp0; clear hp; have hp := hp0; clear hp0
                  replace hp : Hp S w0 w (Res.sl (Ek.int .u8) 5 v30 ([(bt s0 at9)]) :: Res.sl (Ek.int .u8) 5 v25 b8 :: Res.sl Ek.str 9 v17 words6 :: ow) := hp
                  obtain ⟨hc32, h⟩ := chk h
                  refine st_append (E := (Ek.int .u8)) hf (by decide) elt5 Try.underlying59 (by decide) hp (i := 1) rfl rfl rfl rfl (hp.sl (i := 0) rfl) hc32 ?_
                  clear hf; intro a w v33 hf hp0; clear hp; have hp := hp0; clear hp0
                  replace hp : Hp S w0 w (Res.sl (Ek.int .u8) 5 v30 ([(bt s0 at9)]) :: Res.sl (Ek.int .u8) 5 v33 (b8 ++ [(bt s0 at9)]) :: Res.sl Ek.str 9 v17 words6 :: ow) := hp
                  refine st_assign hf rfl rfl (by decide) ?_
                  clear hf; intro a ha hf; clear ha
                  refine st_nil hf ?_
                  refine ib_n ?_
                  refine th_n ?_
                  refine wp_reg ?_
                  refine st_move hf rfl rfl (by decide) ?_
                  clear hf; intro a ha hf; clear ha
                  refine st_move hf rfl rfl (by decide) ?_
                  clear hf; intro a ha hf; clear ha
                  refine st_iadd hf (by decide) rfl rfl rfl ?_
                  clear hf; intro a ha hf; clear ha
                  refine st_assign hf rfl rfl (by decide) ?_
                  clear hf; intro a ha hf; clear ha
                  refine st_nil hf ?_
                  obtain rfl := Option.some.inj h
                  have hp : Hp S w0 w (Res.sl (Ek.int .u8) 5 v33 (b8 ++ [(bt s0 at9)]) :: Res.sl Ek.str 9 v17 words6 :: ow) := Hp.sel (pre := [Res.sl (Ek.int .u8) 5 v30 ([(bt s0 at9)]), Res.sl (Ek.int .u8) 5 v33 (b8 ++ [(bt s0 at9)]), Res.sl Ek.str 9 v17 words6]) (tail := ow) (rs' := [Res.sl (Ek.int .u8) 5 v33 (b8 ++ [(bt s0 at9)]), Res.sl Ek.str 9 v17 words6]) hp [1, 2] (by decide) (by simp) rfl
                  exact rnd_l ⟨_, hf.sub ⟨rfl, rfl, rfl, rfl, rfl, rfl, rfl, trivial⟩, hp⟩
                · replace h := ifF h hb
                  refine wp_exit ?_
                  refine th_e ?_
                  obtain rfl := Option.some.inj h
                  exact rnd_r (by simp) ⟨rfl, _, hf.sub ⟨rfl, rfl, rfl, rfl, rfl, rfl, trivial⟩, hp⟩
              · clear hl hf hp
                intro e a w hne hO
                obtain ⟨rfl, v27, hf, hp⟩ := hO
                refine ib_same ?_
                refine th_n ?_
                refine wp_reg ?_
                refine st_move hf rfl rfl (by decide) ?_
                clear hf; intro a ha hf; clear ha
                refine st_move hf rfl rfl (by decide) ?_
                clear hf; intro a ha hf; clear ha
                refine st_convBS hf (by decide) Try.underlying59 Try.underlying5 Try.underlying9 rfl rfl (hp.sl (i := 0) rfl) ?_
                clear hf; intro a ha hf; clear ha
                refine st_build (E := Ek.str) (xs := [(bstr q34)]) hf (by decide) elt9 Try.underlying37 hp (vals := #[(0, .string (bstr q34))]) (cells := #[.string (bstr q34)]) rfl (by simp [hf.ev (x := (Operand.tmp 59)) rfl]) (by decide) (by decide) (z := .string ByteArray.empty) (by kernel_rfl) (by kernel_rfl) rfl (reps_cons (cs := [.string (bstr q34)]) rfl (reps_nil _)) ?_
                clear hf; intro a w v35 hf hp0; clear hp; have hp := hp0; clear hp0
                replace hp : Hp S w0 w (Res.sl Ek.str 9 v35 ([(bstr q34)]) :: Res.sl (Ek.int .u8) 5 v27 q34 :: Res.sl Ek.str 9 v17 words6 :: ow) := hp
                obtain ⟨hc37, h⟩ := chk h
                refine st_append (E := Ek.str) hf (by decide) elt9 Try.underlying37 (by decide) hp (i := 2) rfl rfl rfl rfl (hp.sl (i := 0) rfl) hc37 ?_
                clear hf; intro a w v38 hf hp0; clear hp; have hp := hp0; clear hp0
                replace hp : Hp S w0 w (Res.sl Ek.str 9 v35 ([(bstr q34)]) :: Res.sl (Ek.int .u8) 5 v27 q34 :: Res.sl Ek.str 9 v38 (words6 ++ [(bstr q34)]) :: ow) := hp
                refine st_assign hf rfl rfl (by decide) ?_
                clear hf; intro a ha hf; clear ha
                refine st_nil hf ?_
                refine ib_n ?_
                refine th_n ?_
                refine wp_reg ?_
                refine st_iadd hf (by decide) rfl rfl rfl ?_
                clear hf; intro a ha hf; clear ha
                refine st_move hf rfl rfl (by decide) ?_
                clear hf; intro a ha hf; clear ha
                refine st_nil hf ?_
                obtain rfl := Option.some.inj h
                have hp : Hp S w0 w (Res.sl Ek.str 9 v38 (words6 ++ [(bstr q34)]) :: ow) := Hp.sel (pre := [Res.sl Ek.str 9 v35 ([(bstr q34)]), Res.sl (Ek.int .u8) 5 v27 q34, Res.sl Ek.str 9 v38 (words6 ++ [(bstr q34)])]) (tail := ow) (rs' := [Res.sl Ek.str 9 v38 (words6 ++ [(bstr q34)])]) hp [2] (by decide) (by simp) rfl
                exact rnd_l ⟨_, hf.sub ⟨rfl, rfl, rfl, rfl, rfl, trivial⟩, hp⟩
            · replace h := ifF h hb
              refine wp_exit ?_
              refine th_e ?_
              obtain rfl := Option.some.inj h
              exact rnd_r (by simp) ⟨rfl, _, hf.sub ⟨rfl, trivial⟩, hp⟩
          · clear hl hf hp
            intro e a w hne hO
            obtain ⟨rfl, v19, hf, hp⟩ := hO
            refine ib_same ?_
            refine th_n ?_
            refine wp_seq ?_
            refine wp_reg ?_
            refine st_move hf rfl rfl (by decide) ?_
            clear hf; intro a ha hf; clear ha
            refine st_assign hf rfl rfl (by decide) ?_
            clear hf; intro a ha hf; clear ha
            refine st_assign hf rfl rfl (by decide) ?_
            clear hf; intro a ha hf; clear ha
            refine st_nil hf ?_
            refine th_n ?_
            refine wp_ret ?_
            obtain rfl := Option.some.inj h
            exact ⟨rfl, ⟨_, hf.sub ⟨rfl, rfl, trivial⟩, hp⟩⟩

noncomputable def f_foghornlaw17_WeaveWords.s2c (words0 : (List ByteArray)) (in8 : (List ByteArray)) (i14 : Int) : Option (((List ByteArray) × Int) ⊕ (List ByteArray)) := (if (decide (i14 < (words0.length : Int))) = true then (if 0 ≤ (IntKind.i64.wrap ((IntKind.i64.wrap ((words0.length : Int) - (1 : Int))) - i14)) ∧ (IntKind.i64.wrap ((IntKind.i64.wrap ((words0.length : Int) - (1 : Int))) - i14)) < (in8.length : Int) then (if 0 ≤ i14 ∧ i14 < (in8.length : Int) then (some (Sum.inl ((in8.set (i14).toNat (gt in8 (IntKind.i64.wrap ((IntKind.i64.wrap ((words0.length : Int) - (1 : Int))) - i14)))), (IntKind.i64.wrap (i14 + (1 : Int)))))) else none) else none) else (some (Sum.inr in8)))
noncomputable def f_foghornlaw17_WeaveWords.s2 (words0 : (List ByteArray)) (s : ((List ByteArray) × Int)) : Option (((List ByteArray) × Int) ⊕ (List ByteArray)) := f_foghornlaw17_WeaveWords.s2c words0 s.1 s.2
noncomputable def f_foghornlaw17_WeaveWords.s1c (words0 : (List ByteArray)) (in8 : (List ByteArray)) (round9 : Int) : Option (((List ByteArray) × Int) ⊕ (Unit ⊕ Bool)) := (if (decide (round9 < (2 : Int))) = true then (if (([] : List ByteArray).length + in8.length) * 16 ≤ 140737488355328 then ((f_foghornref17_In (([] : List ByteArray) ++ in8)).bind fun q18 => ((f_weave_In in8).bind fun q25 => ((if ((!seq q25.1 q18.1) || (q25.2 != q18.2)) = true then (some true) else (if 0 ≤ (IntKind.i64.wrap ((words0.length : Int) + (1 : Int))) ∧ (IntKind.i64.wrap ((words0.length : Int) + (1 : Int))) ≤ ((in8 ++ ((((([] : List ByteArray) ++ words0) ++ [(ByteArray.mk #[109, 97, 114, 107])]) ++ ([] : List ByteArray)).drop (((words0.length : Int)).toNat))).length : Int) then (if 0 ≤ (words0.length : Int) ∧ (words0.length : Int) < (((in8 ++ ((((([] : List ByteArray) ++ words0) ++ [(ByteArray.mk #[109, 97, 114, 107])]) ++ ([] : List ByteArray)).drop (((words0.length : Int)).toNat))).take (((IntKind.i64.wrap ((words0.length : Int) + (1 : Int)))).toNat)).length : Int) then (some (!seq (gt ((in8 ++ ((((([] : List ByteArray) ++ words0) ++ [(ByteArray.mk #[109, 97, 114, 107])]) ++ ([] : List ByteArray)).drop (((words0.length : Int)).toNat))).take (((IntKind.i64.wrap ((words0.length : Int) + (1 : Int)))).toNat)) (words0.length : Int)) (ByteArray.mk #[109, 97, 114, 107]))) else none) else none)).bind fun z36 => ((if z36 = true then (some true) else ((if (round9 == (0 : Int)) = true then ((f_foghornref17_Texts in8 words0).bind fun q47 => (some (!q47))) else (some false)).bind fun z46 => (some z46))).bind fun z43 => (if z43 = true then (some (Sum.inr (Sum.inr false))) else ((loop (f_foghornlaw17_WeaveWords.s2 words0) (in8, (0 : Int))).bind (fun q60 => (some (Sum.inl (q60, (IntKind.i64.wrap (round9 + (1 : Int))))))))))))) else none) else (some (Sum.inr (Sum.inl ()))))
noncomputable def f_foghornlaw17_WeaveWords.s1 (words0 : (List ByteArray)) (s : ((List ByteArray) × Int)) : Option (((List ByteArray) × Int) ⊕ (Unit ⊕ Bool)) := f_foghornlaw17_WeaveWords.s1c words0 s.1 s.2
noncomputable def f_foghornlaw17_WeaveWords.s3c (b17 : (List ByteArray)) (i21 : Int) : Option (((List ByteArray) × Int) ⊕ (List ByteArray)) := (if (decide (i21 < (b17.length : Int))) = true then (if 0 ≤ i21 ∧ i21 < (b17.length : Int) then (some (Sum.inl ((b17.set (i21).toNat (ByteArray.mk #[115, 112, 111, 105, 108, 116])), (IntKind.i64.wrap (i21 + (1 : Int)))))) else none) else (some (Sum.inr b17)))
noncomputable def f_foghornlaw17_WeaveWords.s3  (s : ((List ByteArray) × Int)) : Option (((List ByteArray) × Int) ⊕ (List ByteArray)) := f_foghornlaw17_WeaveWords.s3c s.1 s.2
noncomputable def f_foghornlaw17_WeaveWords.s4c (b17 : (List ByteArray)) (k22 : Int) : Option (((List ByteArray) × Int) ⊕ (List ByteArray)) := (if (decide (k22 < (20 : Int))) = true then (if (b17.length + ([(ByteArray.mk #[98, 101, 104, 105, 110, 100])]).length) * 16 ≤ 140737488355328 then (some (Sum.inl ((b17 ++ [(ByteArray.mk #[98, 101, 104, 105, 110, 100])]), (IntKind.i64.wrap (k22 + (1 : Int)))))) else none) else (some (Sum.inr b17)))
noncomputable def f_foghornlaw17_WeaveWords.s4  (s : ((List ByteArray) × Int)) : Option (((List ByteArray) × Int) ⊕ (List ByteArray)) := f_foghornlaw17_WeaveWords.s4c s.1 s.2
noncomputable def f_foghornlaw17_WeaveWords (words0 : (List ByteArray)) (s1 : ByteArray) (count2 : Int) : Option Bool := (if (([] : List ByteArray).length + words0.length) * 16 ≤ 140737488355328 then (if ((([] : List ByteArray) ++ words0).length + ([(ByteArray.mk #[109, 97, 114, 107])]).length) * 16 ≤ 140737488355328 then (if 0 ≤ (words0.length : Int) ∧ (words0.length : Int) ≤ ((((([] : List ByteArray) ++ words0) ++ [(ByteArray.mk #[109, 97, 114, 107])]) ++ ([] : List ByteArray)).length : Int) then ((loop (f_foghornlaw17_WeaveWords.s1 words0) (((((([] : List ByteArray) ++ words0) ++ [(ByteArray.mk #[109, 97, 114, 107])]) ++ ([] : List ByteArray)).take (((words0.length : Int)).toNat)), (0 : Int))).bind (fun q61 => sm q61 (fun q62 => ((f_foghornref17_Out s1 count2).bind fun q64 => ((f_weave_Out s1 count2).bind fun q68 => ((f_weave_Out s1 count2).bind fun q72 => ((if (q68.2 != q64.2) = true then (some true) else ((f_foghornref17_Texts q68.1 q64.1).bind fun q79 => (some (!q79)))).bind fun z78 => ((if z78 = true then (some true) else ((f_foghornref17_Texts q72.1 q64.1).bind fun q94 => (some (!q94)))).bind fun z93 => (if z93 = true then (some false) else ((loop f_foghornlaw17_WeaveWords.s3 (q68.1, (0 : Int))).bind (fun q111 => ((loop f_foghornlaw17_WeaveWords.s4 (q111, (0 : Int))).bind (fun q120 => ((f_foghornref17_Texts q72.1 q64.1).bind fun q121 => (some (q121 && ((q120.length : Int) == (IntKind.i64.wrap ((q64.1.length : Int) + (20 : Int)))))))))))))))))) (fun q63 => (some q63)))) else none) else none) else none)
theorem f_foghornlaw17_WeaveWords_c {S : Nat → Prop} {w0 w : World} {ow : List Res} (hp : Hp S w0 w ow) (vwords0 : Value) (words0 : (List ByteArray)) (hwords0 : RdS Ek.str S w0 vwords0 words0) (s1 : ByteArray) (count2 : Int) {r : Bool} (h : f_foghornlaw17_WeaveWords words0 s1 count2 = some r) :
    Calls Try.prog 5 #[vwords0, .string s1, .int .i64 count2] w (fun e w' => e = .returned (.bool r) ∧ Hp S w0 w' (ow)) := by
  unfold f_foghornlaw17_WeaveWords at h
  refine enter (n := 151) (args := [vwords0, .string s1, .int .i64 count2]) Try.func5 rfl rfl (Nat.le_of_ble_eq_true rfl) fun a hf => ?_
  replace hf : Fr 151 a [(0, vwords0), (1, .string s1), (2, .int .i64 count2)] := hf
  refine wp_mono (Q := fun e a w => e = .ret ∧ Fr 151 a [(6, .bool r)] ∧ Hp S w0 w (ow)) ?_ ?_
  rotate_left
  · rintro e a w ⟨rfl, hf, hp⟩
    exact ret1 hf rfl rfl ⟨rfl, hp⟩
  refine wp_seq ?_
  refine wp_reg ?_
  refine st_assign hf rfl rfl (by decide) ?_
  clear hf; intro a ha hf; clear ha
  refine st_nil hf ?_
  refine th_n ?_
  refine wp_seq ?_
  refine wp_reg ?_
  refine st_move hf rfl rfl (by decide) ?_
  clear hf; intro a ha hf; clear ha
  refine st_len (E := Ek.str) hf (by decide) Try.underlying37 rfl rfl (hwords0.sl hp) ?_
  clear hf; intro a ha hf; clear ha
  refine st_assign hf rfl rfl (by decide) ?_
  clear hf; intro a ha hf; clear ha
  refine st_nil hf ?_
  refine th_n ?_
  refine wp_seq ?_
  refine wp_reg ?_
  refine st_build0 (E := Ek.str) hf (by decide) elt9 Try.underlying37 hp rfl ?_
  clear hf; intro a w v1 hf hp0; clear hp; have hp := hp0; clear hp0
  replace hp : Hp S w0 w (Res.sl Ek.str 9 v1 ([] : List ByteArray) :: ow) := hp
  refine st_move hf rfl rfl (by decide) ?_
  clear hf; intro a ha hf; clear ha
  obtain ⟨hc3, h⟩ := chk h
  refine st_append (E := Ek.str) hf (by decide) elt9 Try.underlying37 (by decide) hp (i := 0) rfl rfl rfl rfl (hwords0.sl hp) hc3 ?_
  clear hf; intro a w v4 hf hp0; clear hp; have hp := hp0; clear hp0
  replace hp : Hp S w0 w (Res.sl Ek.str 9 v4 (([] : List ByteArray) ++ words0) :: ow) := hp
  refine st_build (E := Ek.str) (xs := [(ByteArray.mk #[109, 97, 114, 107])]) hf (by decide) elt9 Try.underlying37 hp (vals := #[(0, .string (ByteArray.mk #[109, 97, 114, 107]))]) (cells := #[.string (ByteArray.mk #[109, 97, 114, 107])]) rfl (by simp [hf.ev (x := (Operand.const (.string (ByteArray.mk #[109, 97, 114, 107])))) rfl]) (by decide) (by decide) (z := .string ByteArray.empty) (by kernel_rfl) (by kernel_rfl) rfl (reps_cons (cs := [.string (ByteArray.mk #[109, 97, 114, 107])]) rfl (reps_nil _)) ?_
  clear hf; intro a w v5 hf hp0; clear hp; have hp := hp0; clear hp0
  replace hp : Hp S w0 w (Res.sl Ek.str 9 v5 ([(ByteArray.mk #[109, 97, 114, 107])]) :: Res.sl Ek.str 9 v4 (([] : List ByteArray) ++ words0) :: ow) := hp
  obtain ⟨hc7, h⟩ := chk h
  refine st_append (E := Ek.str) hf (by decide) elt9 Try.underlying37 (by decide) hp (i := 1) rfl rfl rfl rfl (hp.sl (i := 0) rfl) hc7 ?_
  clear hf; intro a w v8 hf hp0; clear hp; have hp := hp0; clear hp0
  replace hp : Hp S w0 w (Res.sl Ek.str 9 v5 ([(ByteArray.mk #[109, 97, 114, 107])]) :: Res.sl Ek.str 9 v8 ((([] : List ByteArray) ++ words0) ++ [(ByteArray.mk #[109, 97, 114, 107])]) :: ow) := hp
  refine st_move hf rfl rfl (by decide) ?_
  clear hf; intro a ha hf; clear ha
  obtain ⟨hc9, h⟩ := chk h
  have hc10 : 0 ≤ ((words0.length : Int)).toNat := by omega
  have hc11 : ((words0.length : Int)).toNat ≤ (((([] : List ByteArray) ++ words0) ++ [(ByteArray.mk #[109, 97, 114, 107])]) ++ ([] : List ByteArray)).length := by omega
  refine st_cutX (E := Ek.str) hf (by decide) Try.underlying37 elt9 hp (i := 1) rfl rfl rfl (.inl ⟨rfl, rfl⟩) (.inr ⟨_, _, rfl, evI rfl (by omega)⟩) hc10 hc11 ?_
  clear hf; intro a ha hf; clear ha
  replace hp : Hp S w0 w (Res.sl Ek.str 9 v5 ([(ByteArray.mk #[109, 97, 114, 107])]) :: Res.slx Ek.str 9 (GL.cut v8 0 (((words0.length : Int)).toNat) 1) ((((([] : List ByteArray) ++ words0) ++ [(ByteArray.mk #[109, 97, 114, 107])]) ++ ([] : List ByteArray)).take (((words0.length : Int)).toNat)) ((((([] : List ByteArray) ++ words0) ++ [(ByteArray.mk #[109, 97, 114, 107])]) ++ ([] : List ByteArray)).drop (((words0.length : Int)).toNat)) :: ow) := hp.cutOwn (i := 1) rfl hc11
  refine st_assign hf rfl rfl (by decide) ?_
  clear hf; intro a ha hf; clear ha
  refine st_nil hf ?_
  refine th_n ?_
  refine wp_seq ?_
  refine wp_seq ?_
  refine wp_reg ?_
  refine st_assign hf rfl rfl (by decide) ?_
  clear hf; intro a ha hf; clear ha
  refine st_nil hf ?_
  refine th_n ?_
  refine wp_block ?_
  obtain ⟨q61, hl, h⟩ := bnd h
  have hp : Hp S w0 w (Res.slx Ek.str 9 (GL.cut v8 0 (((words0.length : Int)).toNat) 1) ((((([] : List ByteArray) ++ words0) ++ [(ByteArray.mk #[109, 97, 114, 107])]) ++ ([] : List ByteArray)).take (((words0.length : Int)).toNat)) ((((([] : List ByteArray) ++ words0) ++ [(ByteArray.mk #[109, 97, 114, 107])]) ++ ([] : List ByteArray)).drop (((words0.length : Int)).toNat)) :: ow) := Hp.sel (pre := [Res.sl Ek.str 9 v5 ([(ByteArray.mk #[109, 97, 114, 107])]), Res.slx Ek.str 9 (GL.cut v8 0 (((words0.length : Int)).toNat) 1) ((((([] : List ByteArray) ++ words0) ++ [(ByteArray.mk #[109, 97, 114, 107])]) ++ ([] : List ByteArray)).take (((words0.length : Int)).toNat)) ((((([] : List ByteArray) ++ words0) ++ [(ByteArray.mk #[109, 97, 114, 107])]) ++ ([] : List ByteArray)).drop (((words0.length : Int)).toNat))]) (tail := ow) (rs' := [Res.slx Ek.str 9 (GL.cut v8 0 (((words0.length : Int)).toNat) 1) ((((([] : List ByteArray) ++ words0) ++ [(ByteArray.mk #[109, 97, 114, 107])]) ++ ([] : List ByteArray)).take (((words0.length : Int)).toNat)) ((((([] : List ByteArray) ++ words0) ++ [(ByteArray.mk #[109, 97, 114, 107])]) ++ ([] : List ByteArray)).drop (((words0.length : Int)).toNat))]) hp [1] (by decide) (by simp) rfl
  refine wp_loop_pure (f := (f_foghornlaw17_WeaveWords.s1 words0)) (s := (((((([] : List ByteArray) ++ words0) ++ [(ByteArray.mk #[109, 97, 114, 107])]) ++ ([] : List ByteArray)).take (((words0.length : Int)).toNat)), (0 : Int))) (fun s a w => ∃ (v12 : Value), Fr 151 a [(0, vwords0), (1, .string s1), (2, .int .i64 count2), (7, .int .i64 (words0.length : Int)), (8, v12), (9, .int .i64 s.2)] ∧ Hp S w0 w (Res.slx Ek.str 9 v12 s.1 ((((([] : List ByteArray) ++ words0) ++ [(ByteArray.mk #[109, 97, 114, 107])]) ++ ([] : List ByteArray)).drop (((words0.length : Int)).toNat)) :: ow)) (fun q e a w => match q with | (Sum.inl q) => e = .exit 0 ∧ Fr 151 a [(1, .string s1), (2, .int .i64 count2)] ∧ Hp S w0 w (ow) | (Sum.inr q) => e = .ret ∧ Fr 151 a [(6, .bool q)] ∧ Hp S w0 w (ow)) ?_ hl ⟨_, hf.sub ⟨rfl, rfl, rfl, rfl, rfl, rfl, trivial⟩, hp⟩ ?_
  · clear hl hf hp
    intro s x a w h hI
    obtain ⟨in8, round9⟩ := s
    obtain ⟨v12, hf, hp⟩ : ∃ (v12 : Value), Fr 151 a [(0, vwords0), (1, .string s1), (2, .int .i64 count2), (7, .int .i64 (words0.length : Int)), (8, v12), (9, .int .i64 round9)] ∧ Hp S w0 w (Res.slx Ek.str 9 v12 in8 ((((([] : List ByteArray) ++ words0) ++ [(ByteArray.mk #[109, 97, 114, 107])]) ++ ([] : List ByteArray)).drop (((words0.length : Int)).toNat)) :: ow) := hI
    replace h : f_foghornlaw17_WeaveWords.s1c words0 in8 round9 = some x := h
    unfold f_foghornlaw17_WeaveWords.s1c at h
    refine wp_seq ?_
    refine wp_seq ?_
    refine wp_reg ?_
    refine st_move hf rfl rfl (by decide) ?_
    clear hf; intro a ha hf; clear ha
    refine st_ilss hf (by decide) rfl rfl rfl ?_
    clear hf; intro a ha hf; clear ha
    refine st_nil hf ?_
    refine th_n ?_
    refine wp_if hf rfl (fun hb => ?_) (fun hb => ?_)
    · replace h := ifT h hb
      refine wp_skip ?_
      refine th_n ?_
      refine wp_seq ?_
      refine wp_block ?_
      refine wp_seq ?_
      refine wp_reg ?_
      refine st_build0 (E := Ek.str) hf (by decide) elt9 Try.underlying37 hp rfl ?_
      clear hf; intro a w v14 hf hp0; clear hp; have hp := hp0; clear hp0
      replace hp : Hp S w0 w (Res.sl Ek.str 9 v14 ([] : List ByteArray) :: Res.slx Ek.str 9 v12 in8 ((((([] : List ByteArray) ++ words0) ++ [(ByteArray.mk #[109, 97, 114, 107])]) ++ ([] : List ByteArray)).drop (((words0.length : Int)).toNat)) :: ow) := hp
      refine st_move hf rfl rfl (by decide) ?_
      clear hf; intro a ha hf; clear ha
      obtain ⟨hc16, h⟩ := chk h
      refine st_append (E := Ek.str) hf (by decide) elt9 Try.underlying37 (by decide) hp (i := 0) rfl rfl rfl rfl (hp.sl (i := 1) rfl) hc16 ?_
      clear hf; intro a w v17 hf hp0; clear hp; have hp := hp0; clear hp0
      replace hp : Hp S w0 w (Res.sl Ek.str 9 v17 (([] : List ByteArray) ++ in8) :: Res.slx Ek.str 9 v12 in8 ((((([] : List ByteArray) ++ words0) ++ [(ByteArray.mk #[109, 97, 114, 107])]) ++ ([] : List ByteArray)).drop (((words0.length : Int)).toNat)) :: ow) := hp
      obtain ⟨q18, hcall19, h⟩ := bnd h
      obtain ⟨S20, hp21, rd22, up23, bk24⟩ := Hp.lendS hp (i := 0) rfl
      refine st_call hf (by decide) Try.func22 rfl rfl rfl rfl rfl (f_foghornref17_In_c hp21 _ _ rd22 hcall19) ?_
      rintro _ w ⟨rfl, hp0⟩
      have hp0 := bk24 _ _ hp0
      clear hp; have hp := hp0; clear hp0
      replace hp : Hp S w0 w (Res.sl Ek.str 9 v17 (([] : List ByteArray) ++ in8) :: Res.slx Ek.str 9 v12 in8 ((((([] : List ByteArray) ++ words0) ++ [(ByteArray.mk #[109, 97, 114, 107])]) ++ ([] : List ByteArray)).drop (((words0.length : Int)).toNat)) :: ow) := hp
      refine ⟨_, rfl, ?_⟩
      clear hf; intro a hf
      refine st_move hf rfl rfl (by decide) ?_
      clear hf; intro a ha hf; clear ha
      refine st_extract hf (by decide) rfl rfl rfl ?_
      clear hf; intro a ha hf; clear ha
      refine st_extract hf (by decide) rfl rfl rfl ?_
      clear hf; intro a ha hf; clear ha
      refine st_assign hf rfl rfl (by decide) ?_
      clear hf; intro a ha hf; clear ha
      refine st_assign hf rfl rfl (by decide) ?_
      clear hf; intro a ha hf; clear ha
      refine st_nil hf ?_
      refine th_n ?_
      refine wp_seq ?_
      refine wp_reg ?_
      refine st_move hf rfl rfl (by decide) ?_
      clear hf; intro a ha hf; clear ha
      obtain ⟨q25, hcall26, h⟩ := bnd h
      obtain ⟨S27, hp28, rd29, up30, bk31⟩ := Hp.lendS hp (i := 1) rfl
      refine st_call hf (by decide) Try.func23 rfl rfl rfl rfl rfl (f_weave_In_c hp28 _ _ rd29 hcall26) ?_
      rintro _ w ⟨rfl, hp0⟩
      have hp0 := bk31 _ _ hp0
      clear hp; have hp := hp0; clear hp0
      replace hp : Hp S w0 w (Res.slx Ek.str 9 v12 in8 ((((([] : List ByteArray) ++ words0) ++ [(ByteArray.mk #[109, 97, 114, 107])]) ++ ([] : List ByteArray)).drop (((words0.length : Int)).toNat)) :: Res.sl Ek.str 9 v17 (([] : List ByteArray) ++ in8) :: ow) := hp
      refine ⟨_, rfl, ?_⟩
      clear hf; intro a hf
      refine st_move hf rfl rfl (by decide) ?_
      clear hf; intro a ha hf; clear ha
      refine st_extract hf (by decide) rfl rfl rfl ?_
      clear hf; intro a ha hf; clear ha
      refine st_extract hf (by decide) rfl rfl rfl ?_
      clear hf; intro a ha hf; clear ha
      refine st_assign hf rfl rfl (by decide) ?_
      clear hf; intro a ha hf; clear ha
      refine st_assign hf rfl rfl (by decide) ?_
      clear hf; intro a ha hf; clear ha
      refine st_nil hf ?_
      refine th_n ?_
      refine wp_seq ?_
      refine wp_seq ?_
      refine wp_reg ?_
      refine st_move hf rfl rfl (by decide) ?_
      clear hf; intro a ha hf; clear ha
      refine st_move hf rfl rfl (by decide) ?_
      clear hf; intro a ha hf; clear ha
      refine st_sneq hf (by decide) rfl rfl rfl ?_
      clear hf; intro a ha hf; clear ha
      refine st_move hf rfl rfl (by decide) ?_
      clear hf; intro a ha hf; clear ha
      refine wpList_cut 4 (fun a w => Fr 151 a [(0, vwords0), (1, .string s1), (2, .int .i64 count2), (7, .int .i64 (words0.length : Int)), (8, v12), (9, .int .i64 round9), (55, .bool ((!seq q25.1 q18.1) || (q25.2 != q18.2)))] ∧ Hp S w0 w (Res.slx Ek.str 9 v12 in8 ((((([] : List ByteArray) ++ words0) ++ [(ByteArray.mk #[109, 97, 114, 107])]) ++ ([] : List ByteArray)).drop (((words0.length : Int)).toNat)) :: Res.sl Ek.str 9 v17 (([] : List ByteArray) ++ in8) :: ow)) ?_ ?_
      · rcases Bool.eq_false_or_eq_true (!seq q25.1 q18.1) with hb33 | hb33
        · skip
          refine st_skip hf (wantN hf rfl rfl hb33) rfl (by decide) ?_ rfl
          clear hf; intro a hf
          refine st_skip hf (wantN hf rfl rfl hb33) rfl (by decide) ?_ rfl
          clear hf; intro a hf
          refine st_skip hf (wantN hf rfl rfl hb33) rfl (by decide) ?_ rfl
          clear hf; intro a hf
          refine st_pick (v := .bool true) hf rfl rfl (fun hb' => ?_) (fun hb' => ?_) (by decide) ?_
          · rfl
          · exact absurd (hb33.symm.trans hb') (by decide)
          clear hf; intro a ha hf; clear ha
          refine st_nil hf (th_n ?_)
          exact ⟨hf.sub ⟨rfl, rfl, rfl, rfl, rfl, rfl, (by rw [hb33]; rfl), trivial⟩, hp⟩
        · skip
          refine st_move hf (wantY hf rfl rfl hb33) rfl (by decide) ?_
          clear hf; intro a ha hf; clear ha
          refine st_move hf (wantY hf rfl rfl hb33) rfl (by decide) ?_
          clear hf; intro a ha hf; clear ha
          refine st_ineq hf (by decide) (wantY hf rfl rfl hb33) rfl rfl ?_
          clear hf; intro a ha hf; clear ha
          refine st_pick (v := .bool (q25.2 != q18.2)) hf rfl rfl (fun hb' => ?_) (fun hb' => ?_) (by decide) ?_
          · exact absurd (hb33.symm.trans hb') (by decide)
          · rfl
          clear hf; intro a ha hf; clear ha
          refine st_nil hf (th_n ?_)
          exact ⟨hf.sub ⟨rfl, rfl, rfl, rfl, rfl, rfl, (by rw [hb33]; rfl), trivial⟩, hp⟩
      · rintro a w ⟨hf, hp⟩
        refine st_move hf rfl rfl (by decide) ?_
        clear hf; intro a ha hf; clear ha
        obtain ⟨z36, hz34, h⟩ := bnd h
        refine wpList_cut 9 (fun a w => Fr 151 a [(0, vwords0), (1, .string s1), (2, .int .i64 count2), (7, .int .i64 (words0.length : Int)), (8, v12), (9, .int .i64 round9), (65, .bool z36)] ∧ Hp S w0 w (Res.slx Ek.str 9 v12 in8 ((((([] : List ByteArray) ++ words0) ++ [(ByteArray.mk #[109, 97, 114, 107])]) ++ ([] : List ByteArray)).drop (((words0.length : Int)).toNat)) :: Res.sl Ek.str 9 v17 (([] : List ByteArray) ++ in8) :: ow)) ?_ ?_
        · rcases Bool.eq_false_or_eq_true ((!seq q25.1 q18.1) || (q25.2 != q18.2)) with hb35 | hb35
          · skip
            replace hz34 := ifT hz34 hb35
            refine st_skip hf (wantN hf rfl rfl hb35) rfl (by decide) ?_ rfl
            clear hf; intro a hf
            refine st_skip hf (wantN hf rfl rfl hb35) rfl (by decide) ?_ rfl
            clear hf; intro a hf
            refine st_skip hf (wantN hf rfl rfl hb35) rfl (by decide) ?_ rfl
            clear hf; intro a hf
            refine st_skip hf (wantN hf rfl rfl hb35) rfl (by decide) ?_ rfl
            clear hf; intro a hf
            refine st_skip hf (wantN hf rfl rfl hb35) rfl (by decide) ?_ rfl
            clear hf; intro a hf
            refine st_skip hf (wantN hf rfl rfl hb35) rfl (by decide) ?_ rfl
            clear hf; intro a hf
            refine st_skip hf (wantN hf rfl rfl hb35) rfl (by decide) ?_ rfl
            clear hf; intro a hf
            refine st_skip hf (wantN hf rfl rfl hb35) rfl (by decide) ?_ rfl
            clear hf; intro a hf
            obtain rfl := Option.some.inj hz34
            refine st_pick (v := .bool true) hf rfl rfl (fun hb' => ?_) (fun hb' => ?_) (by decide) ?_
            · rfl
            · exact absurd (hb35.symm.trans hb') (by decide)
            clear hf; intro a ha hf; clear ha
            refine st_nil hf (th_n ?_)
            exact ⟨hf.sub ⟨rfl, rfl, rfl, rfl, rfl, rfl, rfl, trivial⟩, hp⟩
          · skip
            replace hz34 := ifF hz34 hb35
            refine st_move hf (wantY hf rfl rfl hb35) rfl (by decide) ?_
            clear hf; intro a ha hf; clear ha
            refine st_move hf (wantY hf rfl rfl hb35) rfl (by decide) ?_
            clear hf; intro a ha hf; clear ha
            refine st_iadd hf (by decide) (wantY hf rfl rfl hb35) rfl rfl ?_
            clear hf; intro a ha hf; clear ha
            obtain ⟨hc37, hz34⟩ := chk hz34
            have hc38 : 0 ≤ ((IntKind.i64.wrap ((words0.length : Int) + (1 : Int)))).toNat := by omega
            have hc39 : ((IntKind.i64.wrap ((words0.length : Int) + (1 : Int)))).toNat ≤ (in8 ++ ((((([] : List ByteArray) ++ words0) ++ [(ByteArray.mk #[109, 97, 114, 107])]) ++ ([] : List ByteArray)).drop (((words0.length : Int)).toNat))).length := by omega
            refine st_cutX (E := Ek.str) hf (by decide) Try.underlying37 elt9 hp (i := 0) rfl (wantY hf rfl rfl hb35) rfl (.inl ⟨rfl, rfl⟩) (.inr ⟨_, _, rfl, evI rfl (by omega)⟩) hc38 hc39 ?_
            clear hf; intro a ha hf; clear ha
            refine st_move hf (wantY hf rfl rfl hb35) rfl (by decide) ?_
            clear hf; intro a ha hf; clear ha
            obtain ⟨hc40, hz34⟩ := chk hz34
            refine st_index (E := Ek.str) hf (by decide) Try.underlying37 elt9 (wantY hf rfl rfl hb35) rfl rfl (hp.slAll (i := 0) rfl hc39) hc40.1 hc40.2 ?_
            clear hf; intro a ha hf; clear ha
            refine st_ldS hf (by decide) pl9 (wantY hf rfl rfl hb35) rfl (hp.slAll (i := 0) rfl hc39) hc40.1 hc40.2 ?_
            clear hf; intro a ha hf; clear ha
            refine st_sneq hf (by decide) (wantY hf rfl rfl hb35) rfl rfl ?_
            clear hf; intro a ha hf; clear ha
            obtain rfl := Option.some.inj hz34
            refine st_pick (v := .bool (!seq (gt ((in8 ++ ((((([] : List ByteArray) ++ words0) ++ [(ByteArray.mk #[109, 97, 114, 107])]) ++ ([] : List ByteArray)).drop (((words0.length : Int)).toNat))).take (((IntKind.i64.wrap ((words0.length : Int) + (1 : Int)))).toNat)) (words0.length : Int)) (ByteArray.mk #[109, 97, 114, 107]))) hf rfl rfl (fun hb' => ?_) (fun hb' => ?_) (by decide) ?_
            · exact absurd (hb35.symm.trans hb') (by decide)
            · rfl
            clear hf; intro a ha hf; clear ha
            refine st_nil hf (th_n ?_)
            exact ⟨hf.sub ⟨rfl, rfl, rfl, rfl, rfl, rfl, rfl, trivial⟩, hp⟩
        · rintro a w ⟨hf, hp⟩
          refine st_move hf rfl rfl (by decide) ?_
          clear hf; intro a ha hf; clear ha
          obtain ⟨z43, hz41, h⟩ := bnd h
          refine wpList_cut 9 (fun a w => Fr 151 a [(0, vwords0), (1, .string s1), (2, .int .i64 count2), (7, .int .i64 (words0.length : Int)), (8, v12), (9, .int .i64 round9), (75, .bool z43)] ∧ Hp S w0 w (Res.slx Ek.str 9 v12 in8 ((((([] : List ByteArray) ++ words0) ++ [(ByteArray.mk #[109, 97, 114, 107])]) ++ ([] : List ByteArray)).drop (((words0.length : Int)).toNat)) :: Res.sl Ek.str 9 v17 (([] : List ByteArray) ++ in8) :: ow)) ?_ ?_
          · rcases Bool.eq_false_or_eq_true z36 with hb42 | hb42
            · skip
              replace hz41 := ifT hz41 hb42
              refine st_skip hf (wantN hf rfl rfl hb42) rfl (by decide) ?_ rfl
              clear hf; intro a hf
              refine st_skip hf (wantN hf rfl rfl hb42) rfl (by decide) ?_ rfl
              clear hf; intro a hf
              refine st_skipU hf (wantN hf rfl rfl hb42) rfl (by decide) ?_
              clear hf; intro a hf
              refine st_skip hf (wantU hf rfl rfl) rfl (by decide) ?_ rfl
              clear hf; intro a hf
              refine st_skip hf (wantU hf rfl rfl) rfl (by decide) ?_ rfl
              clear hf; intro a hf
              refine st_skip hf (wantU hf rfl rfl) rfl (by decide) ?_ rfl
              clear hf; intro a hf
              refine st_skip hf (wantU hf rfl rfl) rfl (by decide) ?_ rfl
              clear hf; intro a hf
              refine st_skip hf (wantN hf rfl rfl hb42) rfl (by decide) ?_ rfl
              clear hf; intro a hf
              obtain rfl := Option.some.inj hz41
              refine st_pick (v := .bool true) hf rfl rfl (fun hb' => ?_) (fun hb' => ?_) (by decide) ?_
              · rfl
              · exact absurd (hb42.symm.trans hb') (by decide)
              clear hf; intro a ha hf; clear ha
              refine st_nil hf (th_n ?_)
              exact ⟨hf.sub ⟨rfl, rfl, rfl, rfl, rfl, rfl, rfl, trivial⟩, hp⟩
            · skip
              replace hz41 := ifF hz41 hb42
              refine st_move hf (wantY hf rfl rfl hb42) rfl (by decide) ?_
              clear hf; intro a ha hf; clear ha
              refine st_ieql hf (by decide) (wantY hf rfl rfl hb42) rfl rfl ?_
              clear hf; intro a ha hf; clear ha
              refine st_move hf (wantY hf rfl rfl hb42) rfl (by decide) ?_
              clear hf; intro a ha hf; clear ha
              obtain ⟨z46, hz44, hz41⟩ := bnd hz41
              refine wpList_cut 5 (fun a w => Fr 151 a [(0, vwords0), (1, .string s1), (2, .int .i64 count2), (7, .int .i64 (words0.length : Int)), (8, v12), (9, .int .i64 round9), (66, .bool z36), (74, .bool z46)] ∧ Hp S w0 w (Res.slx Ek.str 9 v12 in8 ((((([] : List ByteArray) ++ words0) ++ [(ByteArray.mk #[109, 97, 114, 107])]) ++ ([] : List ByteArray)).drop (((words0.length : Int)).toNat)) :: Res.sl Ek.str 9 v17 (([] : List ByteArray) ++ in8) :: ow)) ?_ ?_
              · rcases Bool.eq_false_or_eq_true (round9 == (0 : Int)) with hb45 | hb45
                · skip
                  replace hz44 := ifT hz44 hb45
                  refine st_move hf (wantY hf rfl rfl hb45) rfl (by decide) ?_
                  clear hf; intro a ha hf; clear ha
                  refine st_move hf (wantY hf rfl rfl hb45) rfl (by decide) ?_
                  clear hf; intro a ha hf; clear ha
                  obtain ⟨q47, hcall48, hz44⟩ := bnd hz44
                  obtain ⟨S49, hp50, rd51, up52, bk53⟩ := Hp.lendS hp (i := 0) rfl
                  refine st_call hf (by decide) Try.func24 rfl rfl (wantY hf rfl rfl hb45) rfl rfl (f_foghornref17_Texts_c hp50 _ _ rd51 _ _ ((hwords0.now hp).mono up52) hcall48) ?_
                  rintro _ w ⟨rfl, hp0⟩
                  have hp0 := bk53 _ _ hp0
                  clear hp; have hp := hp0; clear hp0
                  replace hp : Hp S w0 w (Res.slx Ek.str 9 v12 in8 ((((([] : List ByteArray) ++ words0) ++ [(ByteArray.mk #[109, 97, 114, 107])]) ++ ([] : List ByteArray)).drop (((words0.length : Int)).toNat)) :: Res.sl Ek.str 9 v17 (([] : List ByteArray) ++ in8) :: ow) := hp
                  refine ⟨_, rfl, ?_⟩
                  clear hf; intro a hf
                  refine st_not hf (by decide) (wantY hf rfl rfl hb45) rfl ?_
                  clear hf; intro a ha hf; clear ha
                  obtain rfl := Option.some.inj hz44
                  refine st_pick (v := .bool (!q47)) hf (wantY hf rfl rfl hb42) rfl (fun hb' => ?_) (fun hb' => ?_) (by decide) ?_
                  · rfl
                  · exact absurd (hb45.symm.trans hb') (by decide)
                  clear hf; intro a ha hf; clear ha
                  refine st_nil hf (th_n ?_)
                  exact ⟨hf.sub ⟨rfl, rfl, rfl, rfl, rfl, rfl, rfl, rfl, trivial⟩, hp⟩
                · skip
                  replace hz44 := ifF hz44 hb45
                  refine st_skip hf (wantN hf rfl rfl hb45) rfl (by decide) ?_ rfl
                  clear hf; intro a hf
                  refine st_skip hf (wantN hf rfl rfl hb45) rfl (by decide) ?_ rfl
                  clear hf; intro a hf
                  refine st_skip hf (wantN hf rfl rfl hb45) rfl (by decide) ?_ rfl
                  clear hf; intro a hf
                  refine st_skip hf (wantN hf rfl rfl hb45) rfl (by decide) ?_ rfl
                  clear hf; intro a hf
                  obtain rfl := Option.some.inj hz44
                  refine st_pick (v := .bool false) hf (wantY hf rfl rfl hb42) rfl (fun hb' => ?_) (fun hb' => ?_) (by decide) ?_
                  · exact absurd (hb45.symm.trans hb') (by decide)
                  · rfl
                  clear hf; intro a ha hf; clear ha
                  refine st_nil hf (th_n ?_)
                  exact ⟨hf.sub ⟨rfl, rfl, rfl, rfl, rfl, rfl, rfl, rfl, trivial⟩, hp⟩
              · rintro a w ⟨hf, hp⟩
                obtain rfl := Option.some.inj hz41
                refine st_pick (v := .bool z46) hf rfl rfl (fun hb' => ?_) (fun hb' => ?_) (by decide) ?_
                · exact absurd (hb42.symm.trans hb') (by decide)
                · rfl
                clear hf; intro a ha hf; clear ha
                refine st_nil hf (th_n ?_)
                exact ⟨hf.sub ⟨rfl, rfl, rfl, rfl, rfl, rfl, rfl, trivial⟩, hp⟩
          · rintro a w ⟨hf, hp⟩
            refine st_nil hf ?_
            refine th_n ?_
            refine wp_if hf rfl (fun hb => ?_) (fun hb => ?_)
            · replace h := ifT h hb
              refine wp_seq ?_
              refine wp_reg ?_
              refine st_assign hf rfl rfl (by decide) ?_
              clear hf; intro a ha hf; clear ha
              refine st_nil hf ?_
              refine th_n ?_
              refine wp_ret ?_
              refine th_r ?_
              refine ib_r ?_
              refine th_r ?_
              obtain rfl := Option.some.inj h
              have hp : Hp S w0 w (ow) := Hp.sel (pre := [Res.slx Ek.str 9 v12 in8 ((((([] : List ByteArray) ++ words0) ++ [(ByteArray.mk #[109, 97, 114, 107])]) ++ ([] : List ByteArray)).drop (((words0.length : Int)).toNat)), Res.sl Ek.str 9 v17 (([] : List ByteArray) ++ in8)]) (tail := ow) (rs' := []) hp [] (by decide) (by simp) rfl
              exact rnd_r (by simp) ⟨rfl, ⟨hf.sub ⟨rfl, trivial⟩, hp⟩⟩
            · replace h := ifF h hb
              refine wp_skip ?_
              refine th_n ?_
              refine wp_seq ?_
              refine wp_reg ?_
              refine st_assign hf rfl rfl (by decide) ?_
              clear hf; intro a ha hf; clear ha
              refine st_nil hf ?_
              refine th_n ?_
              refine wp_block ?_
              obtain ⟨q60, hl, h⟩ := bnd h
              have hp : Hp S w0 w (Res.slx Ek.str 9 v12 in8 ((((([] : List ByteArray) ++ words0) ++ [(ByteArray.mk #[109, 97, 114, 107])]) ++ ([] : List ByteArray)).drop (((words0.length : Int)).toNat)) :: ow) := Hp.sel (pre := [Res.slx Ek.str 9 v12 in8 ((((([] : List ByteArray) ++ words0) ++ [(ByteArray.mk #[109, 97, 114, 107])]) ++ ([] : List ByteArray)).drop (((words0.length : Int)).toNat)), Res.sl Ek.str 9 v17 (([] : List ByteArray) ++ in8)]) (tail := ow) (rs' := [Res.slx Ek.str 9 v12 in8 ((((([] : List ByteArray) ++ words0) ++ [(ByteArray.mk #[109, 97, 114, 107])]) ++ ([] : List ByteArray)).drop (((words0.length : Int)).toNat))]) hp [0] (by decide) (by simp) rfl
              refine wp_loop_pure (f := (f_foghornlaw17_WeaveWords.s2 words0)) (s := (in8, (0 : Int))) (fun s a w => ∃ (v54 : Value), Fr 151 a [(0, vwords0), (1, .string s1), (2, .int .i64 count2), (7, .int .i64 (words0.length : Int)), (8, v54), (9, .int .i64 round9), (14, .int .i64 s.2)] ∧ Hp S w0 w (Res.slx Ek.str 9 v54 s.1 ((((([] : List ByteArray) ++ words0) ++ [(ByteArray.mk #[109, 97, 114, 107])]) ++ ([] : List ByteArray)).drop (((words0.length : Int)).toNat)) :: ow)) (fun q e a w => e = .exit 2 ∧ ∃ (v56 : Value), Fr 151 a [(0, vwords0), (1, .string s1), (2, .int .i64 count2), (7, .int .i64 (words0.length : Int)), (8, v56), (9, .int .i64 round9)] ∧ Hp S w0 w (Res.slx Ek.str 9 v56 q ((((([] : List ByteArray) ++ words0) ++ [(ByteArray.mk #[109, 97, 114, 107])]) ++ ([] : List ByteArray)).drop (((words0.length : Int)).toNat)) :: ow)) ?_ hl ⟨_, hf.sub ⟨rfl, rfl, rfl, rfl, rfl, rfl, rfl, trivial⟩, hp⟩ ?_
              · clear hl hf hp
                intro s x a w h hI
                obtain ⟨in8, i14⟩ := s
                obtain ⟨v54, hf, hp⟩ : ∃ (v54 : Value), Fr 151 a [(0, vwords0), (1, .string s1), (2, .int .i64 count2), (7, .int .i64 (words0.length : Int)), (8, v54), (9, .int .i64 round9), (14, .int .i64 i14)] ∧ Hp S w0 w (Res.slx Ek.str 9 v54 in8 ((((([] : List ByteArray) ++ words0) ++ [(ByteArray.mk #[109, 97, 114, 107])]) ++ ([] : List ByteArray)).drop (((words0.length : Int)).toNat)) :: ow) := hI
                replace h : f_foghornlaw17_WeaveWords.s2c words0 in8 i14 = some x := h
                unfold f_foghornlaw17_WeaveWords.s2c at h
                refine wp_seq ?_
                refine wp_seq ?_
                refine wp_reg ?_
                refine st_move hf rfl rfl (by decide) ?_
                clear hf; intro a ha hf; clear ha
                refine st_move hf rfl rfl (by decide) ?_
                clear hf; intro a ha hf; clear ha
                refine st_ilss hf (by decide) rfl rfl rfl ?_
                clear hf; intro a ha hf; clear ha
                refine st_nil hf ?_
                refine th_n ?_
                refine wp_if hf rfl (fun hb => ?_) (fun hb => ?_)
                · replace h := ifT h hb
                  refine wp_skip ?_
                  refine th_n ?_
                  refine wp_seq ?_
                  refine wp_block ?_
                  refine wp_reg ?_
                  refine st_move hf rfl rfl (by decide) ?_
                  clear hf; intro a ha hf; clear ha
                  refine st_move hf rfl rfl (by decide) ?_
                  clear hf; intro a ha hf; clear ha
                  refine st_move hf rfl rfl (by decide) ?_
                  clear hf; intro a ha hf; clear ha
                  refine st_move hf rfl rfl (by decide) ?_
                  clear hf; intro a ha hf; clear ha
                  refine st_isub hf (by decide) rfl rfl rfl ?_
                  clear hf; intro a ha hf; clear ha
                  refine st_move hf rfl rfl (by decide) ?_
                  clear hf; intro a ha hf; clear ha
                  refine st_isub hf (by decide) rfl rfl rfl ?_
                  clear hf; intro a ha hf; clear ha
                  obtain ⟨hc58, h⟩ := chk h
                  refine st_index (E := Ek.str) hf (by decide) Try.underlying37 elt9 rfl rfl rfl (hp.sl (i := 0) rfl) hc58.1 hc58.2 ?_
                  clear hf; intro a ha hf; clear ha
                  refine st_ldS hf (by decide) pl9 rfl rfl (hp.sl (i := 0) rfl) hc58.1 hc58.2 ?_
                  clear hf; intro a ha hf; clear ha
                  obtain ⟨hc59, h⟩ := chk h
                  refine st_index (E := Ek.str) hf (by decide) Try.underlying37 elt9 rfl rfl rfl (hp.sl (i := 0) rfl) hc59.1 hc59.2 ?_
                  clear hf; intro a ha hf; clear ha
                  refine st_store (E := Ek.str) hf elt9 hp (i := 0) rfl rfl rfl rfl rfl hc59.1 hc59.2 ?_
                  clear hf; intro a w hf hp0; clear hp; have hp := hp0; clear hp0
                  replace hp : Hp S w0 w (Res.slx Ek.str 9 v54 (in8.set (i14).toNat (gt in8 (IntKind.i64.wrap ((IntKind.i64.wrap ((words0.length : Int) - (1 : Int))) - i14)))) ((((([] : List ByteArray) ++ words0) ++ [(ByteArray.mk #[109, 97, 114, 107])]) ++ ([] : List ByteArray)).drop (((words0.length : Int)).toNat)) :: ow) := hp
                  refine st_nil hf ?_
                  refine ib_n ?_
                  refine th_n ?_
                  refine wp_reg ?_
                  refine st_move hf rfl rfl (by decide) ?_
                  clear hf; intro a ha hf; clear ha
                  refine st_iadd hf (by decide) rfl rfl rfl ?_
                  clear hf; intro a ha hf; clear ha
                  refine st_assign hf rfl rfl (by decide) ?_
                  clear hf; intro a ha hf; clear ha
                  refine st_nil hf ?_
                  obtain rfl := Option.some.inj h
                  exact rnd_l ⟨_, hf.sub ⟨rfl, rfl, rfl, rfl, rfl, rfl, rfl, trivial⟩, hp⟩
                · replace h := ifF h hb
                  refine wp_exit ?_
                  refine th_e ?_
                  obtain rfl := Option.some.inj h
                  exact rnd_r (by simp) ⟨rfl, _, hf.sub ⟨rfl, rfl, rfl, rfl, rfl, rfl, trivial⟩, hp⟩
              · clear hl hf hp
                intro e a w hne hO
                obtain ⟨rfl, v56, hf, hp⟩ := hO
                refine ib_same ?_
                refine ib_n ?_
                refine th_n ?_
                refine wp_reg ?_
                refine st_move hf rfl rfl (by decide) ?_
                clear hf; intro a ha hf; clear ha
                refine st_iadd hf (by decide) rfl rfl rfl ?_
                clear hf; intro a ha hf; clear ha
                refine st_assign hf rfl rfl (by decide) ?_
                clear hf; intro a ha hf; clear ha
                refine st_nil hf ?_
                obtain rfl := Option.some.inj h
                exact rnd_l ⟨_, hf.sub ⟨rfl, rfl, rfl, rfl, rfl, rfl, trivial⟩, hp⟩
    · replace h := ifF h hb
      refine wp_exit ?_
      refine th_e ?_
      obtain rfl := Option.some.inj h
      have hp : Hp S w0 w (ow) := Hp.sel (pre := [Res.slx Ek.str 9 v12 in8 ((((([] : List ByteArray) ++ words0) ++ [(ByteArray.mk #[109, 97, 114, 107])]) ++ ([] : List ByteArray)).drop (((words0.length : Int)).toNat))]) (tail := ow) (rs' := []) hp [] (by decide) (by simp) rfl
      exact rnd_r (by simp) ⟨rfl, hf.sub ⟨rfl, rfl, trivial⟩, hp⟩
  · clear hl hf hp
    intro e a w hne hO
    cases q61 with
    | inl q62 =>
      replace h := smL h
      obtain ⟨rfl, hf, hp⟩ := hO
      refine ib_same ?_
      refine th_n ?_
      refine wp_seq ?_
      refine wp_reg ?_
      refine st_move hf rfl rfl (by decide) ?_
      clear hf; intro a ha hf; clear ha
      refine st_move hf rfl rfl (by decide) ?_
      clear hf; intro a ha hf; clear ha
      obtain ⟨q64, hcall65, h⟩ := bnd h
      refine st_call hf (by decide) Try.func25 rfl rfl rfl rfl rfl (f_foghornref17_Out_c hp _ _ hcall65) ?_
      rintro _ w ⟨v66, rfl, hp0⟩
      clear hp; have hp := hp0; clear hp0
      replace hp : Hp S w0 w (Res.sl Ek.str 9 v66 q64.1 :: ow) := hp
      refine ⟨_, rfl, ?_⟩
      clear hf; intro a hf
      refine st_move hf rfl rfl (by decide) ?_
      clear hf; intro a ha hf; clear ha
      refine st_extract hf (by decide) rfl rfl rfl ?_
      clear hf; intro a ha hf; clear ha
      refine st_extract hf (by decide) rfl rfl rfl ?_
      clear hf; intro a ha hf; clear ha
      refine st_assign hf rfl rfl (by decide) ?_
      clear hf; intro a ha hf; clear ha
      refine st_assign hf rfl rfl (by decide) ?_
      clear hf; intro a ha hf; clear ha
      refine st_nil hf ?_
      refine th_n ?_
      refine wp_seq ?_
      refine wp_reg ?_
      refine st_move hf rfl rfl (by decide) ?_
      clear hf; intro a ha hf; clear ha
      refine st_move hf rfl rfl (by decide) ?_
      clear hf; intro a ha hf; clear ha
      obtain ⟨q68, hcall69, h⟩ := bnd h
      refine st_call hf (by decide) Try.func26 rfl rfl rfl rfl rfl (f_weave_Out_c hp _ _ hcall69) ?_
      rintro _ w ⟨v70, rfl, hp0⟩
      clear hp; have hp := hp0; clear hp0
      replace hp : Hp S w0 w (Res.sl Ek.str 9 v70 q68.1 :: Res.sl Ek.str 9 v66 q64.1 :: ow) := hp
      refine ⟨_, rfl, ?_⟩
      clear hf; intro a hf
      refine st_move hf rfl rfl (by decide) ?_
      clear hf; intro a ha hf; clear ha
      refine st_extract hf (by decide) rfl rfl rfl ?_
      clear hf; intro a ha hf; clear ha
      refine st_extract hf (by decide) rfl rfl rfl ?_
      clear hf; intro a ha hf; clear ha
      refine st_assign hf rfl rfl (by decide) ?_
      clear hf; intro a ha hf; clear ha
      refine st_assign hf rfl rfl (by decide) ?_
      clear hf; intro a ha hf; clear ha
      refine st_nil hf ?_
      refine th_n ?_
      refine wp_seq ?_
      refine wp_reg ?_
      refine st_move hf rfl rfl (by decide) ?_
      clear hf; intro a ha hf; clear ha
      refine st_move hf rfl rfl (by decide) ?_
      clear hf; intro a ha hf; clear ha
      obtain ⟨q72, hcall73, h⟩ := bnd h
      refine st_call hf (by decide) Try.func26 rfl rfl rfl rfl rfl (f_weave_Out_c hp _ _ hcall73) ?_
      rintro _ w ⟨v74, rfl, hp0⟩
      clear hp; have hp := hp0; clear hp0
      replace hp : Hp S w0 w (Res.sl Ek.str 9 v74 q72.1 :: Res.sl Ek.str 9 v70 q68.1 :: Res.sl Ek.str 9 v66 q64.1 :: ow) := hp
      refine ⟨_, rfl, ?_⟩
      clear hf; intro a hf
      refine st_move hf rfl rfl (by decide) ?_
      clear hf; intro a ha hf; clear ha
      refine st_extract hf (by decide) rfl rfl rfl ?_
      clear hf; intro a ha hf; clear ha
      refine st_extract hf (by decide) rfl rfl rfl ?_
      clear hf; intro a ha hf; clear ha
      refine st_assign hf rfl rfl (by decide) ?_
      clear hf; intro a ha hf; clear ha
      refine st_assign hf rfl rfl (by decide) ?_
      clear hf; intro a ha hf; clear ha
      refine st_nil hf ?_
      refine th_n ?_
      refine wp_seq ?_
      refine wp_seq ?_
      refine wp_reg ?_
      refine st_move hf rfl rfl (by decide) ?_
      clear hf; intro a ha hf; clear ha
      refine st_move hf rfl rfl (by decide) ?_
      clear hf; intro a ha hf; clear ha
      refine st_ineq hf (by decide) rfl rfl rfl ?_
      clear hf; intro a ha hf; clear ha
      refine st_move hf rfl rfl (by decide) ?_
      clear hf; intro a ha hf; clear ha
      obtain ⟨z78, hz76, h⟩ := bnd h
      refine wpList_cut 5 (fun a w => Fr 151 a [(15, v66), (17, v70), (19, v74), (117, .bool z78)] ∧ Hp S w0 w (Res.sl Ek.str 9 v74 q72.1 :: Res.sl Ek.str 9 v70 q68.1 :: Res.sl Ek.str 9 v66 q64.1 :: ow)) ?_ ?_
      · rcases Bool.eq_false_or_eq_true (q68.2 != q64.2) with hb77 | hb77
        · skip
          replace hz76 := ifT hz76 hb77
          refine st_skip hf (wantN hf rfl rfl hb77) rfl (by decide) ?_ rfl
          clear hf; intro a hf
          refine st_skip hf (wantN hf rfl rfl hb77) rfl (by decide) ?_ rfl
          clear hf; intro a hf
          refine st_skip hf (wantN hf rfl rfl hb77) rfl (by decide) ?_ rfl
          clear hf; intro a hf
          refine st_skip hf (wantN hf rfl rfl hb77) rfl (by decide) ?_ rfl
          clear hf; intro a hf
          obtain rfl := Option.some.inj hz76
          refine st_pick (v := .bool true) hf rfl rfl (fun hb' => ?_) (fun hb' => ?_) (by decide) ?_
          · rfl
          · exact absurd (hb77.symm.trans hb') (by decide)
          clear hf; intro a ha hf; clear ha
          refine st_nil hf (th_n ?_)
          exact ⟨hf.sub ⟨rfl, rfl, rfl, rfl, trivial⟩, hp⟩
        · skip
          replace hz76 := ifF hz76 hb77
          refine st_move hf (wantY hf rfl rfl hb77) rfl (by decide) ?_
          clear hf; intro a ha hf; clear ha
          refine st_move hf (wantY hf rfl rfl hb77) rfl (by decide) ?_
          clear hf; intro a ha hf; clear ha
          obtain ⟨q79, hcall80, hz76⟩ := bnd hz76
          obtain ⟨S81, hp82, rd83, up84, bk85⟩ := Hp.lendS hp (i := 1) rfl
          obtain ⟨S86, hp87, rd88, up89, bk90⟩ := Hp.lendS hp82 (i := 1) rfl
          refine st_call hf (by decide) Try.func24 rfl rfl (wantY hf rfl rfl hb77) rfl rfl (f_foghornref17_Texts_c hp87 _ _ ((rd83.now hp82).mono up89) _ _ rd88 hcall80) ?_
          rintro _ w ⟨rfl, hp0⟩
          have hp0 := bk90 _ _ hp0
          have hp0 := bk85 _ _ hp0
          clear hp; have hp := hp0; clear hp0
          replace hp : Hp S w0 w (Res.sl Ek.str 9 v70 q68.1 :: Res.sl Ek.str 9 v66 q64.1 :: Res.sl Ek.str 9 v74 q72.1 :: ow) := hp
          refine ⟨_, rfl, ?_⟩
          clear hf; intro a hf
          refine st_not hf (by decide) (wantY hf rfl rfl hb77) rfl ?_
          clear hf; intro a ha hf; clear ha
          obtain rfl := Option.some.inj hz76
          refine st_pick (v := .bool (!q79)) hf rfl rfl (fun hb' => ?_) (fun hb' => ?_) (by decide) ?_
          · exact absurd (hb77.symm.trans hb') (by decide)
          · rfl
          clear hf; intro a ha hf; clear ha
          refine st_nil hf (th_n ?_)
          have hp : Hp S w0 w (Res.sl Ek.str 9 v74 q72.1 :: Res.sl Ek.str 9 v70 q68.1 :: Res.sl Ek.str 9 v66 q64.1 :: ow) := Hp.sel (pre := [Res.sl Ek.str 9 v70 q68.1, Res.sl Ek.str 9 v66 q64.1, Res.sl Ek.str 9 v74 q72.1]) (tail := ow) (rs' := [Res.sl Ek.str 9 v74 q72.1, Res.sl Ek.str 9 v70 q68.1, Res.sl Ek.str 9 v66 q64.1]) hp [2, 0, 1] (by decide) (by simp) rfl
          exact ⟨hf.sub ⟨rfl, rfl, rfl, rfl, trivial⟩, hp⟩
      · rintro a w ⟨hf, hp⟩
        refine st_move hf rfl rfl (by decide) ?_
        clear hf; intro a ha hf; clear ha
        obtain ⟨z93, hz91, h⟩ := bnd h
        refine wpList_cut 5 (fun a w => Fr 151 a [(15, v66), (17, v70), (19, v74), (123, .bool z93)] ∧ Hp S w0 w (Res.sl Ek.str 9 v74 q72.1 :: Res.sl Ek.str 9 v70 q68.1 :: Res.sl Ek.str 9 v66 q64.1 :: ow)) ?_ ?_
        · rcases Bool.eq_false_or_eq_true z78 with hb92 | hb92
          · skip
            replace hz91 := ifT hz91 hb92
            refine st_skip hf (wantN hf rfl rfl hb92) rfl (by decide) ?_ rfl
            clear hf; intro a hf
            refine st_skip hf (wantN hf rfl rfl hb92) rfl (by decide) ?_ rfl
            clear hf; intro a hf
            refine st_skip hf (wantN hf rfl rfl hb92) rfl (by decide) ?_ rfl
            clear hf; intro a hf
            refine st_skip hf (wantN hf rfl rfl hb92) rfl (by decide) ?_ rfl
            clear hf; intro a hf
            obtain rfl := Option.some.inj hz91
            refine st_pick (v := .bool true) hf rfl rfl (fun hb' => ?_) (fun hb' => ?_) (by decide) ?_
            · rfl
            · exact absurd (hb92.symm.trans hb') (by decide)
            clear hf; intro a ha hf; clear ha
            refine st_nil hf (th_n ?_)
            exact ⟨hf.sub ⟨rfl, rfl, rfl, rfl, trivial⟩, hp⟩
          · skip
            replace hz91 := ifF hz91 hb92
            refine st_move hf (wantY hf rfl rfl hb92) rfl (by decide) ?_
            clear hf; intro a ha hf; clear ha
            refine st_move hf (wantY hf rfl rfl hb92) rfl (by decide) ?_
            clear hf; intro a ha hf; clear ha
            obtain ⟨q94, hcall95, hz91⟩ := bnd hz91
            obtain ⟨S96, hp97, rd98, up99, bk100⟩ := Hp.lendS hp (i := 0) rfl
            obtain ⟨S101, hp102, rd103, up104, bk105⟩ := Hp.lendS hp97 (i := 1) rfl
            refine st_call hf (by decide) Try.func24 rfl rfl (wantY hf rfl rfl hb92) rfl rfl (f_foghornref17_Texts_c hp102 _ _ ((rd98.now hp97).mono up104) _ _ rd103 hcall95) ?_
            rintro _ w ⟨rfl, hp0⟩
            have hp0 := bk105 _ _ hp0
            have hp0 := bk100 _ _ hp0
            clear hp; have hp := hp0; clear hp0
            replace hp : Hp S w0 w (Res.sl Ek.str 9 v74 q72.1 :: Res.sl Ek.str 9 v66 q64.1 :: Res.sl Ek.str 9 v70 q68.1 :: ow) := hp
            refine ⟨_, rfl, ?_⟩
            clear hf; intro a hf
            refine st_not hf (by decide) (wantY hf rfl rfl hb92) rfl ?_
            clear hf; intro a ha hf; clear ha
            obtain rfl := Option.some.inj hz91
            refine st_pick (v := .bool (!q94)) hf rfl rfl (fun hb' => ?_) (fun hb' => ?_) (by decide) ?_
            · exact absurd (hb92.symm.trans hb') (by decide)
            · rfl
            clear hf; intro a ha hf; clear ha
            refine st_nil hf (th_n ?_)
            have hp : Hp S w0 w (Res.sl Ek.str 9 v74 q72.1 :: Res.sl Ek.str 9 v70 q68.1 :: Res.sl Ek.str 9 v66 q64.1 :: ow) := Hp.sel (pre := [Res.sl Ek.str 9 v74 q72.1, Res.sl Ek.str 9 v66 q64.1, Res.sl Ek.str 9 v70 q68.1]) (tail := ow) (rs' := [Res.sl Ek.str 9 v74 q72.1, Res.sl Ek.str 9 v70 q68.1, Res.sl Ek.str 9 v66 q64.1]) hp [0, 2, 1] (by decide) (by simp) rfl
            exact ⟨hf.sub ⟨rfl, rfl, rfl, rfl, trivial⟩, hp⟩
        · rintro a w ⟨hf, hp⟩
          refine st_nil hf ?_
          refine th_n ?_
          refine wp_if hf rfl (fun hb => ?_) (fun hb => ?_)
          · replace h := ifT h hb
            refine wp_seq ?_
            refine wp_reg ?_
            refine st_assign hf rfl rfl (by decide) ?_
            clear hf; intro a ha hf; clear ha
            refine st_nil hf ?_
            refine th_n ?_
            refine wp_ret ?_
            refine th_r ?_
            obtain rfl := Option.some.inj h
            have hp : Hp S w0 w (ow) := Hp.sel (pre := [Res.sl Ek.str 9 v74 q72.1, Res.sl Ek.str 9 v70 q68.1, Res.sl Ek.str 9 v66 q64.1]) (tail := ow) (rs' := []) hp [] (by decide) (by simp) rfl
            exact ⟨rfl, ⟨hf.sub ⟨rfl, trivial⟩, hp⟩⟩
          · replace h := ifF h hb
            refine wp_skip ?_
            refine th_n ?_
            refine wp_seq ?_
            refine wp_seq ?_
            refine wp_reg ?_
            refine st_assign hf rfl rfl (by decide) ?_
            clear hf; intro a ha hf; clear ha
            refine st_nil hf ?_
            refine th_n ?_
            refine wp_block ?_
            obtain ⟨q111, hl, h⟩ := bnd h
            have hp : Hp S w0 w (Res.sl Ek.str 9 v70 q68.1 :: Res.sl Ek.str 9 v66 q64.1 :: Res.sl Ek.str 9 v74 q72.1 :: ow) := Hp.sel (pre := [Res.sl Ek.str 9 v74 q72.1, Res.sl Ek.str 9 v70 q68.1, Res.sl Ek.str 9 v66 q64.1]) (tail := ow) (rs' := [Res.sl Ek.str 9 v70 q68.1, Res.sl Ek.str 9 v66 q64.1, Res.sl Ek.str 9 v74 q72.1]) hp [1, 2, 0] (by decide) (by simp) rfl
            refine wp_loop_pure (f := f_foghornlaw17_WeaveWords.s3) (s := (q68.1, (0 : Int))) (fun s a w => ∃ (v106 : Value), Fr 151 a [(15, v66), (17, v106), (19, v74), (21, .int .i64 s.2)] ∧ Hp S w0 w (Res.sl Ek.str 9 v106 s.1 :: Res.sl Ek.str 9 v66 q64.1 :: Res.sl Ek.str 9 v74 q72.1 :: ow)) (fun q e a w => e = .exit 4 ∧ ∃ (v108 : Value), Fr 151 a [(15, v66), (17, v108), (19, v74)] ∧ Hp S w0 w (Res.sl Ek.str 9 v108 q :: Res.sl Ek.str 9 v66 q64.1 :: Res.sl Ek.str 9 v74 q72.1 :: ow)) ?_ hl ⟨_, hf.sub ⟨rfl, rfl, rfl, rfl, trivial⟩, hp⟩ ?_
            · clear hl hf hp
              intro s x a w h hI
              obtain ⟨b17, i21⟩ := s
              obtain ⟨v106, hf, hp⟩ : ∃ (v106 : Value), Fr 151 a [(15, v66), (17, v106), (19, v74), (21, .int .i64 i21)] ∧ Hp S w0 w (Res.sl Ek.str 9 v106 b17 :: Res.sl Ek.str 9 v66 q64.1 :: Res.sl Ek.str 9 v74 q72.1 :: ow) := hI
              replace h : f_foghornlaw17_WeaveWords.s3c b17 i21 = some x := h
              unfold f_foghornlaw17_WeaveWords.s3c at h
              refine wp_seq ?_
              refine wp_seq ?_
              refine wp_reg ?_
              refine st_move hf rfl rfl (by decide) ?_
              clear hf; intro a ha hf; clear ha
              refine st_move hf rfl rfl (by decide) ?_
              clear hf; intro a ha hf; clear ha
              refine st_len (E := Ek.str) hf (by decide) Try.underlying37 rfl rfl (hp.sl (i := 0) rfl) ?_
              clear hf; intro a ha hf; clear ha
              refine st_ilss hf (by decide) rfl rfl rfl ?_
              clear hf; intro a ha hf; clear ha
              refine st_nil hf ?_
              refine th_n ?_
              refine wp_if hf rfl (fun hb => ?_) (fun hb => ?_)
              · replace h := ifT h hb
                refine wp_skip ?_
                refine th_n ?_
                refine wp_seq ?_
                refine wp_block ?_
                refine wp_reg ?_
                refine st_move hf rfl rfl (by decide) ?_
                clear hf; intro a ha hf; clear ha
                refine st_move hf rfl rfl (by decide) ?_
                clear hf; intro a ha hf; clear ha
                obtain ⟨hc110, h⟩ := chk h
                refine st_index (E := Ek.str) hf (by decide) Try.underlying37 elt9 rfl rfl rfl (hp.sl (i := 0) rfl) hc110.1 hc110.2 ?_
                clear hf; intro a ha hf; clear ha
                refine st_store (E := Ek.str) hf elt9 hp (i := 0) rfl rfl rfl rfl rfl hc110.1 hc110.2 ?_
                clear hf; intro a w hf hp0; clear hp; have hp := hp0; clear hp0
                replace hp : Hp S w0 w (Res.sl Ek.str 9 v106 (b17.set (i21).toNat (ByteArray.mk #[115, 112, 111, 105, 108, 116])) :: Res.sl Ek.str 9 v66 q64.1 :: Res.sl Ek.str 9 v74 q72.1 :: ow) := hp
                refine st_nil hf ?_
                refine ib_n ?_
                refine th_n ?_
                refine wp_reg ?_
                refine st_move hf rfl rfl (by decide) ?_
                clear hf; intro a ha hf; clear ha
                refine st_iadd hf (by decide) rfl rfl rfl ?_
                clear hf; intro a ha hf; clear ha
                refine st_assign hf rfl rfl (by decide) ?_
                clear hf; intro a ha hf; clear ha
                refine st_nil hf ?_
                obtain rfl := Option.some.inj h
                exact rnd_l ⟨_, hf.sub ⟨rfl, rfl, rfl, rfl, trivial⟩, hp⟩
              · replace h := ifF h hb
                refine wp_exit ?_
                refine th_e ?_
                obtain rfl := Option.some.inj h
                exact rnd_r (by simp) ⟨rfl, _, hf.sub ⟨rfl, rfl, rfl, trivial⟩, hp⟩
            · clear hl hf hp
              intro e a w hne hO
              obtain ⟨rfl, v108, hf, hp⟩ := hO
              refine ib_same ?_
              refine th_n ?_
              refine wp_seq ?_
              refine wp_seq ?_
              refine wp_reg ?_
              refine st_assign hf rfl rfl (by decide) ?_
              clear hf; intro a ha hf; clear ha
              refine st_nil hf ?_
              refine th_n ?_
              refine wp_block ?_
              obtain ⟨q120, hl, h⟩ := bnd h
              refine wp_loop_pure (f := f_foghornlaw17_WeaveWords.s4) (s := (q111, (0 : Int))) (fun s a w => ∃ (v112 : Value), Fr 151 a [(15, v66), (17, v112), (19, v74), (22, .int .i64 s.2)] ∧ Hp S w0 w (Res.sl Ek.str 9 v112 s.1 :: Res.sl Ek.str 9 v66 q64.1 :: Res.sl Ek.str 9 v74 q72.1 :: ow)) (fun q e a w => e = .exit 6 ∧ ∃ (v114 : Value), Fr 151 a [(15, v66), (17, v114), (19, v74)] ∧ Hp S w0 w (Res.sl Ek.str 9 v114 q :: Res.sl Ek.str 9 v66 q64.1 :: Res.sl Ek.str 9 v74 q72.1 :: ow)) ?_ hl ⟨_, hf.sub ⟨rfl, rfl, rfl, rfl, trivial⟩, hp⟩ ?_
              · clear hl hf hp
                intro s x a w h hI
                obtain ⟨b17, k22⟩ := s
                obtain ⟨v112, hf, hp⟩ : ∃ (v112 : Value), Fr 151 a [(15, v66), (17, v112), (19, v74), (22, .int .i64 k22)] ∧ Hp S w0 w (Res.sl Ek.str 9 v112 b17 :: Res.sl Ek.str 9 v66 q64.1 :: Res.sl Ek.str 9 v74 q72.1 :: ow) := hI
                replace h : f_foghornlaw17_WeaveWords.s4c b17 k22 = some x := h
                unfold f_foghornlaw17_WeaveWords.s4c at h
                refine wp_seq ?_
                refine wp_seq ?_
                refine wp_reg ?_
                refine st_move hf rfl rfl (by decide) ?_
                clear hf; intro a ha hf; clear ha
                refine st_ilss hf (by decide) rfl rfl rfl ?_
                clear hf; intro a ha hf; clear ha
                refine st_nil hf ?_
                refine th_n ?_
                refine wp_if hf rfl (fun hb => ?_) (fun hb => ?_)
                · replace h := ifT h hb
                  refine wp_skip ?_
                  refine th_n ?_
                  refine wp_seq ?_
                  refine wp_block ?_
                  refine wp_reg ?_
                  refine st_move hf rfl rfl (by decide) ?_
                  clear hf; intro a ha hf; clear ha
                  refine st_build (E := Ek.str) (xs := [(ByteArray.mk #[98, 101, 104, 105, 110, 100])]) hf (by decide) elt9 Try.underlying37 hp (vals := #[(0, .string (ByteArray.mk #[98, 101, 104, 105, 110, 100]))]) (cells := #[.string (ByteArray.mk #[98, 101, 104, 105, 110, 100])]) rfl (by simp [hf.ev (x := (Operand.const (.string (ByteArray.mk #[98, 101, 104, 105, 110, 100])))) rfl]) (by decide) (by decide) (z := .string ByteArray.empty) (by kernel_rfl) (by kernel_rfl) rfl (reps_cons (cs := [.string (ByteArray.mk #[98, 101, 104, 105, 110, 100])]) rfl (reps_nil _)) ?_
                  clear hf; intro a w v116 hf hp0; clear hp; have hp := hp0; clear hp0
                  replace hp : Hp S w0 w (Res.sl Ek.str 9 v116 ([(ByteArray.mk #[98, 101, 104, 105, 110, 100])]) :: Res.sl Ek.str 9 v112 b17 :: Res.sl Ek.str 9 v66 q64.1 :: Res.sl Ek.str 9 v74 q72.1 :: ow) := hp
                  obtain ⟨hc118, h⟩ := chk h
                  refine st_append (E := Ek.str) hf (by decide) elt9 Try.underlying37 (by decide) hp (i := 1) rfl rfl rfl rfl (hp.sl (i := 0) rfl) hc118 ?_
                  clear hf; intro a w v119 hf hp0; clear hp; have hp := hp0; clear hp0
                  replace hp : Hp S w0 w (Res.sl Ek.str 9 v116 ([(ByteArray.mk #[98, 101, 104, 105, 110, 100])]) :: Res.sl Ek.str 9 v119 (b17 ++ [(ByteArray.mk #[98, 101, 104, 105, 110, 100])]) :: Res.sl Ek.str 9 v66 q64.1 :: Res.sl Ek.str 9 v74 q72.1 :: ow) := hp
                  refine st_assign hf rfl rfl (by decide) ?_
                  clear hf; intro a ha hf; clear ha
                  refine st_nil hf ?_
                  refine ib_n ?_
                  refine th_n ?_
                  refine wp_reg ?_
                  refine st_move hf rfl rfl (by decide) ?_
                  clear hf; intro a ha hf; clear ha
                  refine st_iadd hf (by decide) rfl rfl rfl ?_
                  clear hf; intro a ha hf; clear ha
                  refine st_assign hf rfl rfl (by decide) ?_
                  clear hf; intro a ha hf; clear ha
                  refine st_nil hf ?_
                  obtain rfl := Option.some.inj h
                  have hp : Hp S w0 w (Res.sl Ek.str 9 v119 (b17 ++ [(ByteArray.mk #[98, 101, 104, 105, 110, 100])]) :: Res.sl Ek.str 9 v66 q64.1 :: Res.sl Ek.str 9 v74 q72.1 :: ow) := Hp.sel (pre := [Res.sl Ek.str 9 v116 ([(ByteArray.mk #[98, 101, 104, 105, 110, 100])]), Res.sl Ek.str 9 v119 (b17 ++ [(ByteArray.mk #[98, 101, 104, 105, 110, 100])]), Res.sl Ek.str 9 v66 q64.1, Res.sl Ek.str 9 v74 q72.1]) (tail := ow) (rs' := [Res.sl Ek.str 9 v119 (b17 ++ [(ByteArray.mk #[98, 101, 104, 105, 110, 100])]), Res.sl Ek.str 9 v66 q64.1, Res.sl Ek.str 9 v74 q72.1]) hp [1, 2, 3] (by decide) (by simp) rfl
                  exact rnd_l ⟨_, hf.sub ⟨rfl, rfl, rfl, rfl, trivial⟩, hp⟩
                · replace h := ifF h hb
                  refine wp_exit ?_
                  refine th_e ?_
                  obtain rfl := Option.some.inj h
                  exact rnd_r (by simp) ⟨rfl, _, hf.sub ⟨rfl, rfl, rfl, trivial⟩, hp⟩
              · clear hl hf hp
                intro e a w hne hO
                obtain ⟨rfl, v114, hf, hp⟩ := hO
                refine ib_same ?_
                refine th_n ?_
                refine wp_seq ?_
                refine wp_reg ?_
                refine st_move hf rfl rfl (by decide) ?_
                clear hf; intro a ha hf; clear ha
                refine st_move hf rfl rfl (by decide) ?_
                clear hf; intro a ha hf; clear ha
                obtain ⟨q121, hcall122, h⟩ := bnd h
                obtain ⟨S123, hp124, rd125, up126, bk127⟩ := Hp.lendS hp (i := 2) rfl
                obtain ⟨S128, hp129, rd130, up131, bk132⟩ := Hp.lendS hp124 (i := 1) rfl
                refine st_call hf (by decide) Try.func24 rfl rfl rfl rfl rfl (f_foghornref17_Texts_c hp129 _ _ ((rd125.now hp124).mono up131) _ _ rd130 hcall122) ?_
                rintro _ w ⟨rfl, hp0⟩
                have hp0 := bk132 _ _ hp0
                have hp0 := bk127 _ _ hp0
                clear hp; have hp := hp0; clear hp0
                replace hp : Hp S w0 w (Res.sl Ek.str 9 v74 q72.1 :: Res.sl Ek.str 9 v66 q64.1 :: Res.sl Ek.str 9 v114 q120 :: ow) := hp
                refine ⟨_, rfl, ?_⟩
                clear hf; intro a hf
                refine st_move hf rfl rfl (by decide) ?_
                clear hf; intro a ha hf; clear ha
                refine wpList_cut 7 (fun a w => Fr 151 a [(150, .bool (q121 && ((q120.length : Int) == (IntKind.i64.wrap ((q64.1.length : Int) + (20 : Int))))))] ∧ Hp S w0 w (Res.sl Ek.str 9 v74 q72.1 :: Res.sl Ek.str 9 v66 q64.1 :: Res.sl Ek.str 9 v114 q120 :: ow)) ?_ ?_
                · rcases Bool.eq_false_or_eq_true q121 with hb134 | hb134
                  · skip
                    refine st_move hf (wantY hf rfl rfl hb134) rfl (by decide) ?_
                    clear hf; intro a ha hf; clear ha
                    refine st_len (E := Ek.str) hf (by decide) Try.underlying37 (wantY hf rfl rfl hb134) rfl (hp.sl (i := 2) rfl) ?_
                    clear hf; intro a ha hf; clear ha
                    refine st_move hf (wantY hf rfl rfl hb134) rfl (by decide) ?_
                    clear hf; intro a ha hf; clear ha
                    refine st_len (E := Ek.str) hf (by decide) Try.underlying37 (wantY hf rfl rfl hb134) rfl (hp.sl (i := 1) rfl) ?_
                    clear hf; intro a ha hf; clear ha
                    refine st_iadd hf (by decide) (wantY hf rfl rfl hb134) rfl rfl ?_
                    clear hf; intro a ha hf; clear ha
                    refine st_ieql hf (by decide) (wantY hf rfl rfl hb134) rfl rfl ?_
                    clear hf; intro a ha hf; clear ha
                    refine st_pick (v := .bool ((q120.length : Int) == (IntKind.i64.wrap ((q64.1.length : Int) + (20 : Int))))) hf rfl rfl (fun hb' => ?_) (fun hb' => ?_) (by decide) ?_
                    · rfl
                    · exact absurd (hb134.symm.trans hb') (by decide)
                    clear hf; intro a ha hf; clear ha
                    refine st_nil hf (th_n ?_)
                    exact ⟨hf.sub ⟨(by rw [hb134]; rfl), trivial⟩, hp⟩
                  · skip
                    refine st_skip hf (wantN hf rfl rfl hb134) rfl (by decide) ?_ rfl
                    clear hf; intro a hf
                    refine st_skip hf (wantN hf rfl rfl hb134) rfl (by decide) ?_ rfl
                    clear hf; intro a hf
                    refine st_skip hf (wantN hf rfl rfl hb134) rfl (by decide) ?_ rfl
                    clear hf; intro a hf
                    refine st_skip hf (wantN hf rfl rfl hb134) rfl (by decide) ?_ rfl
                    clear hf; intro a hf
                    refine st_skip hf (wantN hf rfl rfl hb134) rfl (by decide) ?_ rfl
                    clear hf; intro a hf
                    refine st_skip hf (wantN hf rfl rfl hb134) rfl (by decide) ?_ rfl
                    clear hf; intro a hf
                    refine st_pick (v := .bool false) hf rfl rfl (fun hb' => ?_) (fun hb' => ?_) (by decide) ?_
                    · exact absurd (hb134.symm.trans hb') (by decide)
                    · rfl
                    clear hf; intro a ha hf; clear ha
                    refine st_nil hf (th_n ?_)
                    exact ⟨hf.sub ⟨(by rw [hb134]; rfl), trivial⟩, hp⟩
                · rintro a w ⟨hf, hp⟩
                  refine st_assign hf rfl rfl (by decide) ?_
                  clear hf; intro a ha hf; clear ha
                  refine st_nil hf ?_
                  refine th_n ?_
                  refine wp_ret ?_
                  obtain rfl := Option.some.inj h
                  have hp : Hp S w0 w (ow) := Hp.sel (pre := [Res.sl Ek.str 9 v74 q72.1, Res.sl Ek.str 9 v66 q64.1, Res.sl Ek.str 9 v114 q120]) (tail := ow) (rs' := []) hp [] (by decide) (by simp) rfl
                  exact ⟨rfl, ⟨hf.sub ⟨rfl, trivial⟩, hp⟩⟩
    | inr q63 =>
      replace h := smR h
      obtain ⟨rfl, hf, hp⟩ := hO
      refine ib_r ?_
      refine th_r ?_
      obtain rfl := Option.some.inj h
      exact ⟨rfl, ⟨hf.sub ⟨rfl, trivial⟩, hp⟩⟩

end Go.Proofs.Ythoigfonjpmibaa
