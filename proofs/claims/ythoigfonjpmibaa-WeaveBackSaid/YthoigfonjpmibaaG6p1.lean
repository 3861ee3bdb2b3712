/- The functions 10: what each answers, as a plain function, and that its call answers it; printed by gen.py. -/
import Derived.Test.YthoigfonjpmibaaProg
import Derived.Test.YthoigfonjpmibaaGlS
import Derived.KernelRfl
set_option linter.unusedVariables false
set_option maxRecDepth 100000
set_option maxHeartbeats 4000000
namespace Go.Proofs.Ythoigfonjpmibaa
open GL
theorem elt5 : ElT Try.prog (Ek.int .u8) 5 1 (0 : Int) := ElT.of (z := .int .u8 0) (by kernel_rfl) rfl
theorem elt9 : ElT Try.prog Ek.str 9 16 ByteArray.empty := ElT.of (z := .string ByteArray.empty) (by kernel_rfl) rfl
theorem pl3 : Plain Try.prog 3 := ⟨⟨_, Try.underlying3, trivial⟩⟩
theorem pl5 : Plain Try.prog 5 := ⟨⟨_, Try.underlying5, trivial⟩⟩
theorem pl9 : Plain Try.prog 9 := ⟨⟨_, Try.underlying9, trivial⟩⟩
theorem pl59 : Plain Try.prog 59 := ⟨⟨_, Try.underlying59, trivial⟩⟩
noncomputable def f_weave_may (count0 : Int) (length1 : Int) : Option Bool := (some ((((decide ((1 : Int) ≤ count0)) && (decide (count0 ≤ (255 : Int)))) && (decide ((1 : Int) ≤ length1))) && (decide (length1 ≤ (255 : Int)))))
theorem f_weave_may_c {S : Nat → Prop} {w0 w : World} {ow : List Res} (hp : Hp S w0 w ow) (count0 : Int) (length1 : Int) {r : Bool} (h : f_weave_may count0 length1 = some r) :
    Calls Try.prog 38 #[.int .i64 count0, .int .i64 length1] w (fun e w' => e = .returned (.bool r) ∧ Hp S w0 w' (ow)) := by
  unfold f_weave_may at h
  refine enter (n := 19) (args := [.int .i64 count0, .int .i64 length1]) Try.func38 rfl rfl (Nat.le_of_ble_eq_true rfl) fun a hf => ?_
  replace hf : Fr 19 a [(0, .int .i64 count0), (1, .int .i64 length1)] := hf
  refine wp_mono (Q := fun e a w => e = .ret ∧ Fr 19 a [(4, .bool r)] ∧ Hp S w0 w (ow)) ?_ ?_
  rotate_left
  · rintro e a w ⟨rfl, hf, hp⟩
    exact ret1 hf rfl rfl ⟨rfl, hp⟩
  refine wp_seq ?_
  refine wp_reg ?_
  refine st_assign hf rfl rfl (by decide) ?_
  clear hf; intro a ha hf; clear ha
  refine st_nil hf ?_
  refine th_n ?_
  refine wp_seq ?_
  refine wp_reg ?_
  refine st_move hf rfl rfl (by decide) ?_
  clear hf; intro a ha hf; clear ha
  refine st_igeq hf (by decide) rfl rfl rfl ?_
  clear hf; intro a ha hf; clear ha
  refine st_move hf rfl rfl (by decide) ?_
  clear hf; intro a ha hf; clear ha
  refine wpList_cut 3 (fun a w => Fr 19 a [(1, .int .i64 length1), (10, .bool ((decide ((1 : Int) ≤ count0)) && (decide (count0 ≤ (255 : Int)))))] ∧ Hp S w0 w (ow)) ?_ ?_
  · rcases Bool.eq_false_or_eq_true (decide ((1 : Int) ≤ count0)) with hb2 | hb2
    · skip
      refine st_move hf (wantY hf rfl rfl hb2) rfl (by decide) ?_
      clear hf; intro a ha hf; clear ha
      refine st_ileq hf (by decide) (wantY hf rfl rfl hb2) rfl rfl ?_
      clear hf; intro a ha hf; clear ha
      refine st_pick (v := .bool (decide (count0 ≤ (255 : Int)))) hf rfl rfl (fun hb' => ?_) (fun hb' => ?_) (by decide) ?_
      · rfl
      · exact absurd (hb2.symm.trans hb') (by decide)
      clear hf; intro a ha hf; clear ha
      refine st_nil hf (th_n ?_)
      exact ⟨hf.sub ⟨rfl, (by rw [hb2]; rfl), trivial⟩, hp⟩
    · skip
      refine st_skip hf (wantN hf rfl rfl hb2) rfl (by decide) ?_ rfl
      clear hf; intro a hf
      refine st_skip hf (wantN hf rfl rfl hb2) rfl (by decide) ?_ rfl
      clear hf; intro a hf
      refine st_pick (v := .bool false) hf rfl rfl (fun hb' => ?_) (fun hb' => ?_) (by decide) ?_
      · exact absurd (hb2.symm.trans hb') (by decide)
      · rfl
      clear hf; intro a ha hf; clear ha
      refine st_nil hf (th_n ?_)
      exact ⟨hf.sub ⟨rfl, (by rw [hb2]; rfl), trivial⟩, hp⟩
  · rintro a w ⟨hf, hp⟩
    refine st_move hf rfl rfl (by decide) ?_
    clear hf; intro a ha hf; clear ha
    refine wpList_cut 3 (fun a w => Fr 19 a [(1, .int .i64 length1), (14, .bool (((decide ((1 : Int) ≤ count0)) && (decide (count0 ≤ (255 : Int)))) && (decide ((1 : Int) ≤ length1))))] ∧ Hp S w0 w (ow)) ?_ ?_
    · rcases Bool.eq_false_or_eq_true ((decide ((1 : Int) ≤ count0)) && (decide (count0 ≤ (255 : Int)))) with hb4 | hb4
      · skip
        refine st_move hf (wantY hf rfl rfl hb4) rfl (by decide) ?_
        clear hf; intro a ha hf; clear ha
        refine st_igeq hf (by decide) (wantY hf rfl rfl hb4) rfl rfl ?_
        clear hf; intro a ha hf; clear ha
        refine st_pick (v := .bool (decide ((1 : Int) ≤ length1))) hf rfl rfl (fun hb' => ?_) (fun hb' => ?_) (by decide) ?_
        · rfl
        · exact absurd (hb4.symm.trans hb') (by decide)
        clear hf; intro a ha hf; clear ha
        refine st_nil hf (th_n ?_)
        exact ⟨hf.sub ⟨rfl, (by rw [hb4]; rfl), trivial⟩, hp⟩
      · skip
        refine st_skip hf (wantN hf rfl rfl hb4) rfl (by decide) ?_ rfl
        clear hf; intro a hf
        refine st_skip hf (wantN hf rfl rfl hb4) rfl (by decide) ?_ rfl
        clear hf; intro a hf
        refine st_pick (v := .bool false) hf rfl rfl (fun hb' => ?_) (fun hb' => ?_) (by decide) ?_
        · exact absurd (hb4.symm.trans hb') (by decide)
        · rfl
        clear hf; intro a ha hf; clear ha
        refine st_nil hf (th_n ?_)
        exact ⟨hf.sub ⟨rfl, (by rw [hb4]; rfl), trivial⟩, hp⟩
    · rintro a w ⟨hf, hp⟩
      refine st_move hf rfl rfl (by decide) ?_
      clear hf; intro a ha hf; clear ha
      refine wpList_cut 3 (fun a w => Fr 19 a [(18, .bool ((((decide ((1 : Int) ≤ count0)) && (decide (count0 ≤ (255 : Int)))) && (decide ((1 : Int) ≤ length1))) && (decide (length1 ≤ (255 : Int)))))] ∧ Hp S w0 w (ow)) ?_ ?_
      · rcases Bool.eq_false_or_eq_true (((decide ((1 : Int) ≤ count0)) && (decide (count0 ≤ (255 : Int)))) && (decide ((1 : Int) ≤ length1))) with hb6 | hb6
        · skip
          refine st_move hf (wantY hf rfl rfl hb6) rfl (by decide) ?_
          clear hf; intro a ha hf; clear ha
          refine st_ileq hf (by decide) (wantY hf rfl rfl hb6) rfl rfl ?_
          clear hf; intro a ha hf; clear ha
          refine st_pick (v := .bool (decide (length1 ≤ (255 : Int)))) hf rfl rfl (fun hb' => ?_) (fun hb' => ?_) (by decide) ?_
          · rfl
          · exact absurd (hb6.symm.trans hb') (by decide)
          clear hf; intro a ha hf; clear ha
          refine st_nil hf (th_n ?_)
          exact ⟨hf.sub ⟨(by rw [hb6]; rfl), trivial⟩, hp⟩
        · skip
          refine st_skip hf (wantN hf rfl rfl hb6) rfl (by decide) ?_ rfl
          clear hf; intro a hf
          refine st_skip hf (wantN hf rfl rfl hb6) rfl (by decide) ?_ rfl
          clear hf; intro a hf
          refine st_pick (v := .bool false) hf rfl rfl (fun hb' => ?_) (fun hb' => ?_) (by decide) ?_
          · exact absurd (hb6.symm.trans hb') (by decide)
          · rfl
          clear hf; intro a ha hf; clear ha
          refine st_nil hf (th_n ?_)
          exact ⟨hf.sub ⟨(by rw [hb6]; rfl), trivial⟩, hp⟩
      · rintro a w ⟨hf, hp⟩
        refine st_assign hf rfl rfl (by decide) ?_
        clear hf; intro a ha hf; clear ha
        refine st_nil hf ?_
        refine th_n ?_
        refine wp_ret ?_
        obtain rfl := Option.some.inj h
        exact ⟨rfl, ⟨hf.sub ⟨rfl, trivial⟩, hp⟩⟩

noncomputable def f_weave_In.s1c (words0 : (List ByteArray)) (row5 : (List Int)) (t35 : Int) : Option (((List Int) × Int) ⊕ ((List Int) ⊕ (ByteArray × Int))) := (if (decide (t35 < (words0.length : Int))) = true then (if 0 ≤ t35 ∧ t35 < (words0.length : Int) then (if (((gt words0 t35).size : Int) != ((gt words0 (0 : Int)).size : Int)) = true then (some (Sum.inr (Sum.inr ((ByteArray.mk #[]), (1 : Int))))) else (if 0 ≤ (IntKind.i64.wrap (t35 * ((gt words0 (0 : Int)).size : Int))) ∧ (IntKind.i64.wrap (t35 * ((gt words0 (0 : Int)).size : Int))) ≤ (row5.length : Int) then (if ((IntKind.i64.wrap (t35 * ((gt words0 (0 : Int)).size : Int)))).toNat + (gt words0 t35).size ≤ row5.length then (some (Sum.inl ((row5.take (((IntKind.i64.wrap (t35 * ((gt words0 (0 : Int)).size : Int)))).toNat) ++ sbytes (gt words0 t35) ++ row5.drop (((IntKind.i64.wrap (t35 * ((gt words0 (0 : Int)).size : Int)))).toNat + (gt words0 t35).size)), (IntKind.i64.wrap (t35 + (1 : Int)))))) else none) else none)) else none) else (some (Sum.inr (Sum.inl row5))))
noncomputable def f_weave_In.s1 (words0 : (List ByteArray)) (s : ((List Int) × Int)) : Option (((List Int) × Int) ⊕ ((List Int) ⊕ (ByteArray × Int))) := f_weave_In.s1c words0 s.1 s.2
noncomputable def f_weave_In.s3c (words0 : (List ByteArray)) (q22 : (List Int)) (t56 : Int) (out8 : (List Int)) (t61 : Int) : Option (((List Int) × Int) ⊕ (List Int)) := (if (decide (t61 < (words0.length : Int))) = true then (if 0 ≤ (IntKind.i64.wrap ((IntKind.i64.wrap (t61 * ((gt words0 (0 : Int)).size : Int))) + t56)) ∧ (IntKind.i64.wrap ((IntKind.i64.wrap (t61 * ((gt words0 (0 : Int)).size : Int))) + t56)) < (q22.length : Int) then (if (out8.length + ([(gt q22 (IntKind.i64.wrap ((IntKind.i64.wrap (t61 * ((gt words0 (0 : Int)).size : Int))) + t56)))]).length) * 1 ≤ 140737488355328 then (some (Sum.inl ((out8 ++ [(gt q22 (IntKind.i64.wrap ((IntKind.i64.wrap (t61 * ((gt words0 (0 : Int)).size : Int))) + t56)))]), (IntKind.i64.wrap (t61 + (1 : Int)))))) else none) else none) else (some (Sum.inr out8)))
noncomputable def f_weave_In.s3 (words0 : (List ByteArray)) (q22 : (List Int)) (t56 : Int) (s : ((List Int) × Int)) : Option (((List Int) × Int) ⊕ (List Int)) := f_weave_In.s3c words0 q22 t56 s.1 s.2
noncomputable def f_weave_In.s2c (words0 : (List ByteArray)) (q22 : (List Int)) (out8 : (List Int)) (t56 : Int) : Option (((List Int) × Int) ⊕ (List Int)) := (if (decide (t56 < ((gt words0 (0 : Int)).size : Int))) = true then ((loop (f_weave_In.s3 words0 q22 t56) (out8, (0 : Int))).bind (fun q40 => (some (Sum.inl (q40, (IntKind.i64.wrap (t56 + (1 : Int)))))))) else (some (Sum.inr out8)))
noncomputable def f_weave_In.s2 (words0 : (List ByteArray)) (q22 : (List Int)) (s : ((List Int) × Int)) : Option (((List Int) × Int) ⊕ (List Int)) := f_weave_In.s2c words0 q22 s.1 s.2
noncomputable def f_weave_In (words0 : (List ByteArray)) : Option (ByteArray × Int) := ((if ((words0.length : Int) == (0 : Int)) = true then (some true) else (if 0 ≤ (0 : Int) ∧ (0 : Int) < (words0.length : Int) then ((f_weave_may (words0.length : Int) ((gt words0 (0 : Int)).size : Int)).bind fun q5 => (some (!q5))) else none)).bind fun z3 => (if z3 = true then (some ((ByteArray.mk #[]), (1 : Int))) else (if 0 ≤ (0 : Int) ∧ (0 : Int) < (words0.length : Int) then (if 0 ≤ (IntKind.i64.wrap (((gt words0 (0 : Int)).size : Int) * (words0.length : Int))) ∧ (IntKind.i64.wrap (((gt words0 (0 : Int)).size : Int) * (words0.length : Int))) ≤ (IntKind.i64.wrap (((gt words0 (0 : Int)).size : Int) * (words0.length : Int))) ∧ (IntKind.i64.wrap (((gt words0 (0 : Int)).size : Int) * (words0.length : Int))) * 1 ≤ 281474976710656 then ((loop (f_weave_In.s1 words0) ((List.replicate ((IntKind.i64.wrap (((gt words0 (0 : Int)).size : Int) * (words0.length : Int)))).toNat (0 : Int)), (0 : Int))).bind (fun q21 => sm q21 (fun q22 => (if 0 ≤ (0 : Int) ∧ (0 : Int) ≤ (q22.length : Int) ∧ (q22.length : Int) * 1 ≤ 281474976710656 then ((loop (f_weave_In.s2 words0 q22) ((List.replicate ((0 : Int)).toNat (0 : Int)), (0 : Int))).bind (fun q41 => (some ((bstr q41), (0 : Int))))) else none)) (fun q23 => (some (q23.1, q23.2))))) else none) else none)))
theorem f_weave_In_c {S : Nat → Prop} {w0 w : World} {ow : List Res} (hp : Hp S w0 w ow) (vwords0 : Value) (words0 : (List ByteArray)) (hwords0 : RdS Ek.str S w0 vwords0 words0) {r : (ByteArray × Int)} (h : f_weave_In words0 = some r) :
    Calls Try.prog 23 #[vwords0] w (fun e w' => e = .returned (.tuple #[.string r.1, .int .i64 r.2]) ∧ Hp S w0 w' (ow)) := by
  unfold f_weave_In at h
  refine enter (n := 79) (args := [vwords0]) Try.func23 rfl rfl (Nat.le_of_ble_eq_true rfl) fun a hf => ?_
  replace hf : Fr 79 a [(0, vwords0)] := hf
  refine wp_mono (Q := fun e a w => e = .ret ∧ Fr 79 a [(2, .string r.1), (3, .int .i64 r.2)] ∧ Hp S w0 w (ow)) ?_ ?_
  rotate_left
  · rintro e a w ⟨rfl, hf, hp⟩
    exact ret2 hf rfl rfl rfl ⟨rfl, hp⟩
  refine wp_seq ?_
  refine wp_reg ?_
  refine st_assign hf rfl rfl (by decide) ?_
  clear hf; intro a ha hf; clear ha
  refine st_assign hf rfl rfl (by decide) ?_
  clear hf; intro a ha hf; clear ha
  refine st_nil hf ?_
  refine th_n ?_
  refine wp_seq ?_
  refine wp_seq ?_
  refine wp_reg ?_
  refine st_move hf rfl rfl (by decide) ?_
  clear hf; intro a ha hf; clear ha
  refine st_len (E := Ek.str) hf (by decide) Try.underlying37 rfl rfl (hwords0.sl hp) ?_
  clear hf; intro a ha hf; clear ha
  refine st_ieql hf (by decide) rfl rfl rfl ?_
  clear hf; intro a ha hf; clear ha
  refine st_move hf rfl rfl (by decide) ?_
  clear hf; intro a ha hf; clear ha
  obtain ⟨z3, hz1, h⟩ := bnd h
  refine wpList_cut 9 (fun a w => Fr 79 a [(0, vwords0), (23, .bool z3)] ∧ Hp S w0 w (ow)) ?_ ?_
  · rcases Bool.eq_false_or_eq_true ((words0.length : Int) == (0 : Int)) with hb2 | hb2
    · skip
      replace hz1 := ifT hz1 hb2
      refine st_skip hf (wantN hf rfl rfl hb2) rfl (by decide) ?_ rfl
      clear hf; intro a hf
      refine st_skip hf (wantN hf rfl rfl hb2) rfl (by decide) ?_ rfl
      clear hf; intro a hf
      refine st_skip hf (wantN hf rfl rfl hb2) rfl (by decide) ?_ rfl
      clear hf; intro a hf
      refine st_skip hf (wantN hf rfl rfl hb2) rfl (by decide) ?_ rfl
      clear hf; intro a hf
      refine st_skip hf (wantN hf rfl rfl hb2) rfl (by decide) ?_ rfl
      clear hf; intro a hf
      refine st_skip hf (wantN hf rfl rfl hb2) rfl (by decide) ?_ rfl
      clear hf; intro a hf
      refine st_skip hf (wantN hf rfl rfl hb2) rfl (by decide) ?_ rfl
      clear hf; intro a hf
      refine st_skip hf (wantN hf rfl rfl hb2) rfl (by decide) ?_ rfl
      clear hf; intro a hf
      obtain rfl := Option.some.inj hz1
      refine st_pick (v := .bool true) hf rfl rfl (fun hb' => ?_) (fun hb' => ?_) (by decide) ?_
      · rfl
      · exact absurd (hb2.symm.trans hb') (by decide)
      clear hf; intro a ha hf; clear ha
      refine st_nil hf (th_n ?_)
      exact ⟨hf.sub ⟨rfl, rfl, trivial⟩, hp⟩
    · skip
      replace hz1 := ifF hz1 hb2
      refine st_move hf (wantY hf rfl rfl hb2) rfl (by decide) ?_
      clear hf; intro a ha hf; clear ha
      refine st_len (E := Ek.str) hf (by decide) Try.underlying37 (wantY hf rfl rfl hb2) rfl (hwords0.sl hp) ?_
      clear hf; intro a ha hf; clear ha
      refine st_move hf (wantY hf rfl rfl hb2) rfl (by decide) ?_
      clear hf; intro a ha hf; clear ha
      obtain ⟨hc4, hz1⟩ := chk hz1
      refine st_index (E := Ek.str) hf (by decide) Try.underlying37 elt9 (wantY hf rfl rfl hb2) rfl rfl (hwords0.sl hp) hc4.1 hc4.2 ?_
      clear hf; intro a ha hf; clear ha
      refine st_ldS hf (by decide) pl9 (wantY hf rfl rfl hb2) rfl (hwords0.sl hp) hc4.1 hc4.2 ?_
      clear hf; intro a ha hf; clear ha
      refine st_slen hf (by decide) Try.underlying9 (wantY hf rfl rfl hb2) rfl ?_
      clear hf; intro a ha hf; clear ha
      obtain ⟨q5, hcall6, hz1⟩ := bnd hz1
      refine st_call hf (by decide) Try.func38 rfl rfl (wantY hf rfl rfl hb2) rfl rfl (f_weave_may_c hp _ _ hcall6) ?_
      rintro _ w ⟨rfl, hp0⟩
      clear hp; have hp := hp0; clear hp0
      replace hp : Hp _ _ _ (ow) := hp
      refine ⟨_, rfl, ?_⟩
      clear hf; intro a hf
      refine st_not hf (by decide) (wantY hf rfl rfl hb2) rfl ?_
      clear hf; intro a ha hf; clear ha
      obtain rfl := Option.some.inj hz1
      refine st_pick (v := .bool (!q5)) hf rfl rfl (fun hb' => ?_) (fun hb' => ?_) (by decide) ?_
      · exact absurd (hb2.symm.trans hb') (by decide)
      · rfl
      clear hf; intro a ha hf; clear ha
      refine st_nil hf (th_n ?_)
      exact ⟨hf.sub ⟨rfl, rfl, trivial⟩, hp⟩
  · rintro a w ⟨hf, hp⟩
    refine st_nil hf ?_
    refine th_n ?_
    refine wp_if hf rfl (fun hb => ?_) (fun hb => ?_)
    · replace h := ifT h hb
      refine wp_seq ?_
      refine wp_reg ?_
      refine st_assign hf rfl rfl (by decide) ?_
      clear hf; intro a ha hf; clear ha
      refine st_assign hf rfl rfl (by decide) ?_
      clear hf; intro a ha hf; clear ha
      refine st_nil hf ?_
      refine th_n ?_
      refine wp_ret ?_
      refine th_r ?_
      obtain rfl := Option.some.inj h
      exact ⟨rfl, ⟨hf.sub ⟨rfl, rfl, trivial⟩, hp⟩⟩
    · replace h := ifF h hb
      refine wp_skip ?_
      refine th_n ?_
      refine wp_seq ?_
      refine wp_reg ?_
      refine st_move hf rfl rfl (by decide) ?_
      clear hf; intro a ha hf; clear ha
      obtain ⟨hc7, h⟩ := chk h
      refine st_index (E := Ek.str) hf (by decide) Try.underlying37 elt9 rfl rfl rfl (hwords0.sl hp) hc7.1 hc7.2 ?_
      clear hf; intro a ha hf; clear ha
      refine st_ldS hf (by decide) pl9 rfl rfl (hwords0.sl hp) hc7.1 hc7.2 ?_
      clear hf; intro a ha hf; clear ha
      refine st_slen hf (by decide) Try.underlying9 rfl rfl ?_
      clear hf; intro a ha hf; clear ha
      refine st_assign hf rfl rfl (by decide) ?_
      clear hf; intro a ha hf; clear ha
      refine st_nil hf ?_
      refine th_n ?_
      refine wp_seq ?_
      refine wp_reg ?_
      refine st_move hf rfl rfl (by decide) ?_
      clear hf; intro a ha hf; clear ha
      refine st_move hf rfl rfl (by decide) ?_
      clear hf; intro a ha hf; clear ha
      refine st_len (E := Ek.str) hf (by decide) Try.underlying37 rfl rfl (hwords0.sl hp) ?_
      clear hf; intro a ha hf; clear ha
      refine st_imul hf (by decide) rfl rfl rfl ?_
      clear hf; intro a ha hf; clear ha
      obtain ⟨hc8, h⟩ := chk h
      refine st_make (E := (Ek.int .u8)) hf (by decide) elt5 Try.underlying59 (by decide) hp rfl rfl rfl hc8.1 hc8.2.1 hc8.2.2 ?_
      clear hf; intro a w v9 hf hp0; clear hp; have hp := hp0; clear hp0
      replace hp : Hp _ _ _ (Res.sl (Ek.int .u8) 5 v9 (List.replicate ((IntKind.i64.wrap (((gt words0 (0 : Int)).size : Int) * (words0.length : Int)))).toNat (0 : Int)) :: ow) := hp
      refine st_assign hf rfl rfl (by decide) ?_
      clear hf; intro a ha hf; clear ha
      refine st_nil hf ?_
      refine th_n ?_
      refine wp_seq ?_
      refine wp_seq ?_
      refine wp_reg ?_
      refine st_move hf rfl rfl (by decide) ?_
      clear hf; intro a ha hf; clear ha
      refine st_len (E := Ek.str) hf (by decide) Try.underlying37 rfl rfl (hwords0.sl hp) ?_
      clear hf; intro a ha hf; clear ha
      refine st_move hf rfl rfl (by decide) ?_
      clear hf; intro a ha hf; clear ha
      refine st_nil hf ?_
      refine th_n ?_
      refine wp_block ?_
      obtain ⟨q21, hl, h⟩ := bnd h
      refine wp_loop_pure (f := (f_weave_In.s1 words0)) (s := ((List.replicate ((IntKind.i64.wrap (((gt words0 (0 : Int)).size : Int) * (words0.length : Int)))).toNat (0 : Int)), (0 : Int))) (fun s a w => ∃ (v11 : Value), Fr 79 a [(0, vwords0), (4, .int .i64 ((gt words0 (0 : Int)).size : Int)), (5, v11), (33, vwords0), (34, .int .i64 (words0.length : Int)), (35, .int .i64 s.2)] ∧ Hp S w0 w (Res.sl (Ek.int .u8) 5 v11 s.1 :: ow)) (fun q e a w => match q with | (Sum.inl q) => e = .exit 0 ∧ ∃ (v13 : Value), Fr 79 a [(0, vwords0), (4, .int .i64 ((gt words0 (0 : Int)).size : Int)), (5, v13)] ∧ Hp S w0 w (Res.sl (Ek.int .u8) 5 v13 q :: ow) | (Sum.inr q) => e = .ret ∧ Fr 79 a [(2, .string q.1), (3, .int .i64 q.2)] ∧ Hp S w0 w (ow)) ?_ hl ⟨_, hf.sub ⟨rfl, rfl, rfl, rfl, rfl, rfl, trivial⟩, hp⟩ ?_
      · clear hl hf hp
        intro s x a w h hI
        obtain ⟨row5, t35⟩ := s
        obtain ⟨v11, hf, hp⟩ : ∃ (v11 : Value), Fr 79 a [(0, vwords0), (4, .int .i64 ((gt words0 (0 : Int)).size : Int)), (5, v11), (33, vwords0), (34, .int .i64 (words0.length : Int)), (35, .int .i64 t35)] ∧ Hp S w0 w (Res.sl (Ek.int .u8) 5 v11 row5 :: ow) := hI
        replace h : f_weave_In.s1c words0 row5 t35 = some x := h
        unfold f_weave_In.s1c at h
        refine wp_seq ?_
        refine wp_reg ?_
        refine st_ilss hf (by decide) rfl rfl rfl ?_
        clear hf; intro a ha hf; clear ha
        refine st_nil hf ?_
        refine th_n ?_
        refine wp_seq ?_
        refine wp_if hf rfl (fun hb => ?_) (fun hb => ?_)
        · replace h := ifT h hb
          refine wp_skip ?_
          refine th_n ?_
          refine wp_seq ?_
          refine wp_block ?_
          refine wp_seq ?_
          refine wp_reg ?_
          refine st_move hf rfl rfl (by decide) ?_
          clear hf; intro a ha hf; clear ha
          obtain ⟨hc15, h⟩ := chk h
          refine st_index (E := Ek.str) hf (by decide) Try.underlying37 elt9 rfl rfl rfl (hwords0.sl hp) hc15.1 hc15.2 ?_
          clear hf; intro a ha hf; clear ha
          refine st_ldS hf (by decide) pl9 rfl rfl (hwords0.sl hp) hc15.1 hc15.2 ?_
          clear hf; intro a ha hf; clear ha
          refine st_assign hf rfl rfl (by decide) ?_
          clear hf; intro a ha hf; clear ha
          refine st_assign hf rfl rfl (by decide) ?_
          clear hf; intro a ha hf; clear ha
          refine st_nil hf ?_
          refine th_n ?_
          refine wp_seq ?_
          refine wp_seq ?_
          refine wp_reg ?_
          refine st_move hf rfl rfl (by decide) ?_
          clear hf; intro a ha hf; clear ha
          refine st_slen hf (by decide) Try.underlying9 rfl rfl ?_
          clear hf; intro a ha hf; clear ha
          refine st_move hf rfl rfl (by decide) ?_
          clear hf; intro a ha hf; clear ha
          refine st_ineq hf (by decide) rfl rfl rfl ?_
          clear hf; intro a ha hf; clear ha
          refine st_nil hf ?_
          refine th_n ?_
          refine wp_if hf rfl (fun hb => ?_) (fun hb => ?_)
          · replace h := ifT h hb
            refine wp_seq ?_
            refine wp_reg ?_
            refine st_assign hf rfl rfl (by decide) ?_
            clear hf; intro a ha hf; clear ha
            refine st_assign hf rfl rfl (by decide) ?_
            clear hf; intro a ha hf; clear ha
            refine st_nil hf ?_
            refine th_n ?_
            refine wp_ret ?_
            refine th_r ?_
            refine ib_r ?_
            refine th_r ?_
            obtain rfl := Option.some.inj h
            have hp : Hp _ _ _ (ow) := Hp.sel (pre := [Res.sl (Ek.int .u8) 5 v11 row5]) (tail := ow) (rs' := []) hp [] (by decide) (by simp) rfl
            exact rnd_r (by simp) ⟨rfl, ⟨hf.sub ⟨rfl, rfl, trivial⟩, hp⟩⟩
          · replace h := ifF h hb
            refine wp_skip ?_
            refine th_n ?_
            refine wp_reg ?_
            refine st_move hf rfl rfl (by decide) ?_
            clear hf; intro a ha hf; clear ha
            refine st_move hf rfl rfl (by decide) ?_
            clear hf; intro a ha hf; clear ha
            refine st_move hf rfl rfl (by decide) ?_
            clear hf; intro a ha hf; clear ha
            refine st_imul hf (by decide) rfl rfl rfl ?_
            clear hf; intro a ha hf; clear ha
            obtain ⟨hc16, h⟩ := chk h
            have hc17 : ((IntKind.i64.wrap (t35 * ((gt words0 (0 : Int)).size : Int)))).toNat ≤ row5.length := by omega
            have hc18 : row5.length ≤ row5.length := by omega
            refine st_cutS (E := (Ek.int .u8)) hf (by decide) Try.underlying59 elt5 rfl rfl (hp.sl (i := 0) rfl) (.inr ⟨_, _, rfl, evI rfl hc16.1⟩) (.inl ⟨rfl, rfl⟩) hc17 hc18 ?_
            clear hf; intro a ha hf; clear ha
            refine st_move hf rfl rfl (by decide) ?_
            clear hf; intro a ha hf; clear ha
            obtain ⟨hc19, h⟩ := chk h
            refine st_copyStr (lo := ((IntKind.i64.wrap (t35 * ((gt words0 (0 : Int)).size : Int)))).toNat) (hi := 0) hf (by decide) elt5 Try.underlying59 hp (i := 0) rfl rfl rfl rfl hc19 ?_
            clear hf; intro a w hf hp0; clear hp; have hp := hp0; clear hp0
            replace hp : Hp _ _ _ (Res.sl (Ek.int .u8) 5 v11 (row5.take (((IntKind.i64.wrap (t35 * ((gt words0 (0 : Int)).size : Int)))).toNat) ++ sbytes (gt words0 t35) ++ row5.drop (((IntKind.i64.wrap (t35 * ((gt words0 (0 : Int)).size : Int)))).toNat + (gt words0 t35).size)) :: ow) := hp
            refine st_nil hf ?_
            refine ib_n ?_
            refine th_n ?_
            refine wp_reg ?_
            refine st_iadd hf (by decide) rfl rfl rfl ?_
            clear hf; intro a ha hf; clear ha
            refine st_move hf rfl rfl (by decide) ?_
            clear hf; intro a ha hf; clear ha
            refine st_nil hf ?_
            obtain rfl := Option.some.inj h
            exact rnd_l ⟨_, hf.sub ⟨rfl, rfl, rfl, rfl, rfl, rfl, trivial⟩, hp⟩
        · replace h := ifF h hb
          refine wp_exit ?_
          refine th_e ?_
          obtain rfl := Option.some.inj h
          exact rnd_r (by simp) ⟨rfl, _, hf.sub ⟨rfl, rfl, rfl, trivial⟩, hp⟩
      · clear hl hf hp
        intro e a w hne hO
        cases q21 with
        | inl q22 =>
          replace h := smL h
          obtain ⟨rfl, v13, hf, hp⟩ := hO
          refine ib_same ?_
          refine th_n ?_
          refine wp_seq ?_
          refine wp_reg ?_
          refine st_move hf rfl rfl (by decide) ?_
          clear hf; intro a ha hf; clear ha
          refine st_len (E := (Ek.int .u8)) hf (by decide) Try.underlying59 rfl rfl (hp.sl (i := 0) rfl) ?_
          clear hf; intro a ha hf; clear ha
          obtain ⟨hc24, h⟩ := chk h
          refine st_make (E := (Ek.int .u8)) hf (by decide) elt5 Try.underlying59 (by decide) hp rfl rfl rfl hc24.1 hc24.2.1 hc24.2.2 ?_
          clear hf; intro a w v25 hf hp0; clear hp; have hp := hp0; clear hp0
          replace hp : Hp _ _ _ (Res.sl (Ek.int .u8) 5 v25 (List.replicate ((0 : Int)).toNat (0 : Int)) :: Res.sl (Ek.int .u8) 5 v13 q22 :: ow) := hp
          refine st_assign hf rfl rfl (by decide) ?_
          clear hf; intro a ha hf; clear ha
          refine st_nil hf ?_
          refine th_n ?_
          refine wp_seq ?_
          refine wp_seq ?_
          refine wp_reg ?_
          refine st_move hf rfl rfl (by decide) ?_
          clear hf; intro a ha hf; clear ha
          refine st_move hf rfl rfl (by decide) ?_
          clear hf; intro a ha hf; clear ha
          refine st_nil hf ?_
          refine th_n ?_
          refine wp_block ?_
          obtain ⟨q41, hl, h⟩ := bnd h
          refine wp_loop_pure (f := (f_weave_In.s2 words0 q22)) (s := ((List.replicate ((0 : Int)).toNat (0 : Int)), (0 : Int))) (fun s a w => ∃ (v27 : Value), Fr 79 a [(0, vwords0), (4, .int .i64 ((gt words0 (0 : Int)).size : Int)), (5, v13), (8, v27), (55, .int .i64 ((gt words0 (0 : Int)).size : Int)), (56, .int .i64 s.2)] ∧ Hp S w0 w (Res.sl (Ek.int .u8) 5 v27 s.1 :: Res.sl (Ek.int .u8) 5 v13 q22 :: ow)) (fun q e a w => e = .exit 2 ∧ ∃ (v29 : Value), Fr 79 a [(8, v29)] ∧ Hp S w0 w (Res.sl (Ek.int .u8) 5 v29 q :: ow)) ?_ hl ⟨_, hf.sub ⟨rfl, rfl, rfl, rfl, rfl, rfl, trivial⟩, hp⟩ ?_
          · clear hl hf hp
            intro s x a w h hI
            obtain ⟨out8, t56⟩ := s
            obtain ⟨v27, hf, hp⟩ : ∃ (v27 : Value), Fr 79 a [(0, vwords0), (4, .int .i64 ((gt words0 (0 : Int)).size : Int)), (5, v13), (8, v27), (55, .int .i64 ((gt words0 (0 : Int)).size : Int)), (56, .int .i64 t56)] ∧ Hp S w0 w (Res.sl (Ek.int .u8) 5 v27 out8 :: Res.sl (Ek.int .u8) 5 v13 q22 :: ow) := hI
            replace h : f_weave_In.s2c words0 q22 out8 t56 = some x := h
            unfold f_weave_In.s2c at h
            refine wp_seq ?_
            refine wp_reg ?_
            refine st_ilss hf (by decide) rfl rfl rfl ?_
            clear hf; intro a ha hf; clear ha
            refine st_nil hf ?_
            refine th_n ?_
            refine wp_seq ?_
            refine wp_if hf rfl (fun hb => ?_) (fun hb => ?_)
            · replace h := ifT h hb
              refine wp_skip ?_
              refine th_n ?_
              refine wp_seq ?_
              refine wp_block ?_
              refine wp_seq ?_
              refine wp_reg ?_
              refine st_move hf rfl rfl (by decide) ?_
              clear hf; intro a ha hf; clear ha
              refine st_assign hf rfl rfl (by decide) ?_
              clear hf; intro a ha hf; clear ha
              refine st_nil hf ?_
              refine th_n ?_
              refine wp_seq ?_
              refine wp_reg ?_
              refine st_move hf rfl rfl (by decide) ?_
              clear hf; intro a ha hf; clear ha
              refine st_len (E := Ek.str) hf (by decide) Try.underlying37 rfl rfl (hwords0.sl hp) ?_
              clear hf; intro a ha hf; clear ha
              refine st_move hf rfl rfl (by decide) ?_
              clear hf; intro a ha hf; clear ha
              refine st_nil hf ?_
              refine th_n ?_
              refine wp_block ?_
              obtain ⟨q40, hl, h⟩ := bnd h
              refine wp_loop_pure (f := (f_weave_In.s3 words0 q22 t56)) (s := (out8, (0 : Int))) (fun s a w => ∃ (v31 : Value), Fr 79 a [(0, vwords0), (4, .int .i64 ((gt words0 (0 : Int)).size : Int)), (5, v13), (8, v31), (9, .int .i64 t56), (55, .int .i64 ((gt words0 (0 : Int)).size : Int)), (56, .int .i64 t56), (60, .int .i64 (words0.length : Int)), (61, .int .i64 s.2)] ∧ Hp S w0 w (Res.sl (Ek.int .u8) 5 v31 s.1 :: Res.sl (Ek.int .u8) 5 v13 q22 :: ow)) (fun q e a w => e = .exit 4 ∧ ∃ (v33 : Value), Fr 79 a [(0, vwords0), (4, .int .i64 ((gt words0 (0 : Int)).size : Int)), (5, v13), (8, v33), (55, .int .i64 ((gt words0 (0 : Int)).size : Int)), (56, .int .i64 t56)] ∧ Hp S w0 w (Res.sl (Ek.int .u8) 5 v33 q :: Res.sl (Ek.int .u8) 5 v13 q22 :: ow)) ?_ hl ⟨_, hf.sub ⟨rfl, rfl, rfl, rfl, rfl, rfl, rfl, rfl, rfl, trivial⟩, hp⟩ ?_
              · clear hl hf hp
                intro s x a w h hI
                obtain ⟨out8, t61⟩ := s
                obtain ⟨v31, hf, hp⟩ : ∃ (v31 : Value), Fr 79 a [(0, vwords0), (4, .int .i64 ((gt words0 (0 : Int)).size : Int)), (5, v13), (8, v31), (9, .int .i64 t56), (55, .int .i64 ((gt words0 (0 : Int)).size : Int)), (56, .int .i64 t56), (60, .int .i64 (words0.length : Int)), (61, .int .i64 t61)] ∧ Hp S w0 w (Res.sl (Ek.int .u8) 5 v31 out8 :: Res.sl (Ek.int .u8) 5 v13 q22 :: ow) := hI
                replace h : f_weave_In.s3c words0 q22 t56 out8 t61 = some x := h
                unfold f_weave_In.s3c at h
                refine wp_seq ?_
                refine wp_reg ?_
                refine st_ilss hf (by decide) rfl rfl rfl ?_
                clear hf; intro a ha hf; clear ha
                refine st_nil hf ?_
                refine th_n ?_
                refine wp_seq ?_
                refine wp_if hf rfl (fun hb => ?_) (fun hb => ?_)
                · replace h := ifT h hb
                  refine wp_skip ?_
                  refine th_n ?_
                  refine wp_seq ?_
                  refine wp_block ?_
                  refine wp_seq ?_
                  refine wp_reg ?_
                  refine st_move hf rfl rfl (by decide) ?_
                  clear hf; intro a ha hf; clear ha
                  refine st_assign hf rfl rfl (by decide) ?_
                  clear hf; intro a ha hf; clear ha
                  refine st_nil hf ?_
                  refine th_n ?_
                  refine wp_reg ?_
                  refine st_move hf rfl rfl (by decide) ?_
                  clear hf; intro a ha hf; clear ha
                  refine st_move hf rfl rfl (by decide) ?_
                  clear hf; intro a ha hf; clear ha
                  refine st_move hf rfl rfl (by decide) ?_
                  clear hf; intro a ha hf; clear ha
                  refine st_move hf rfl rfl (by decide) ?_
                  clear hf; intro a ha hf; clear ha
                  refine st_imul hf (by decide) rfl rfl rfl ?_
                  clear hf; intro a ha hf; clear ha
                  refine st_move hf rfl rfl (by decide) ?_
                  clear hf; intro a ha hf; clear ha
                  refine st_iadd hf (by decide) rfl rfl rfl ?_
                  clear hf; intro a ha hf; clear ha
                  obtain ⟨hc35, h⟩ := chk h
                  refine st_index (E := (Ek.int .u8)) hf (by decide) Try.underlying59 elt5 rfl rfl rfl (hp.sl (i := 1) rfl) hc35.1 hc35.2 ?_
                  clear hf; intro a ha hf; clear ha
                  refine st_ldI hf (by decide) pl5 rfl rfl (hp.sl (i := 1) rfl) hc35.1 hc35.2 ?_
                  clear hf; intro a ha hf; clear ha
                  refine st_build (E := (Ek.int .u8)) (xs := [(gt q22 (IntKind.i64.wrap ((IntKind.i64.wrap (t61 * ((gt words0 (0 : Int)).size : Int))) + t56)))]) hf (by decide) elt5 Try.underlying59 hp (vals := #[(0, .int .u8 (gt q22 (IntKind.i64.wrap ((IntKind.i64.wrap (t61 * ((gt words0 (0 : Int)).size : Int))) + t56))))]) (cells := #[.int .u8 (gt q22 (IntKind.i64.wrap ((IntKind.i64.wrap (t61 * ((gt words0 (0 : Int)).size : Int))) + t56)))]) rfl (by simp [hf.ev (x := (Operand.tmp 72)) rfl]) (by decide) (by decide) (z := .int .u8 0) (by kernel_rfl) (by kernel_rfl) rfl (reps_cons (cs := [.int .u8 (gt q22 (IntKind.i64.wrap ((IntKind.i64.wrap (t61 * ((gt words0 (0 : Int)).size : Int))) + t56)))]) rfl (reps_nil _)) ?_
                  clear hf; intro a w v36 hf hp0; clear hp; have hp := hp0; clear hp0
                  replace hp : Hp _ _ _ (Res.sl (Ek.int .u8) 5 v36 ([(gt q22 (IntKind.i64.wrap ((IntKind.i64.wrap (t61 * ((gt words0 (0 : Int)).size : Int))) + t56)))]) :: Res.sl (Ek.int .u8) 5 v31 out8 :: Res.sl (Ek.int .u8) 5 v13 q22 :: ow) := hp
                  obtain ⟨hc38, h⟩ := chk h
                  refine st_append (E := (Ek.int .u8)) hf (by decide) elt5 Try.underlying59 (by decide) hp (i := 1) rfl rfl rfl rfl (hp.sl (i := 0) rfl) hc38 ?_
                  clear hf; intro a w v39 hf hp0; clear hp; have hp := hp0; clear hp0
                  replace hp : Hp _ _ _ (Res.sl (Ek.int .u8) 5 v36 ([(gt q22 (IntKind.i64.wrap ((IntKind.i64.wrap (t61 * ((gt words0 (0 : Int)).size : Int))) + t56)))]) :: Res.sl (Ek.int .u8) 5 v39 (out8 ++ [(gt q22 (IntKind.i64.wrap ((IntKind.i64.wrap (t61 * ((gt words0 (0 : Int)).size : Int))) + t56)))]) :: Res.sl (Ek.int .u8) 5 v13 q22 :: ow) := hp
                  refine st_assign hf rfl rfl (by decide) ?_
                  clear hf; intro a ha hf; clear ha
                  refine st_nil hf ?_
                  refine ib_n ?_
                  refine th_n ?_
                  refine wp_reg ?_
                  refine st_iadd hf (by decide) rfl rfl rfl ?_
                  clear hf; intro a ha hf; clear ha
                  refine st_move hf rfl rfl (by decide) ?_
                  clear hf; intro a ha hf; clear ha
                  refine st_nil hf ?_
                  obtain rfl := Option.some.inj h
                  have hp : Hp _ _ _ (Res.sl (Ek.int .u8) 5 v39 (out8 ++ [(gt q22 (IntKind.i64.wrap ((IntKind.i64.wrap (t61 * ((gt words0 (0 : Int)).size : Int))) + t56)))]) :: Res.sl (Ek.int .u8) 5 v13 q22 :: ow) := Hp.sel (pre := [Res.sl (Ek.int .u8) 5 v36 ([(gt q22 (IntKind.i64.wrap ((IntKind.i64.wrap (t61 * ((gt words0 (0 : Int)).size : Int))) + t56)))]), Res.sl (Ek.int .u8) 5 v39 (out8 ++ [(gt q22 (IntKind.i64.wrap ((IntKind.i64.wrap (t61 * ((gt words0 (0 : Int)).size : Int))) + t56)))]), Res.sl (Ek.int .u8) 5 v13 q22]) (tail := ow) (rs' := [Res.sl (Ek.int .u8) 5 v39 (out8 ++ [(gt q22 (IntKind.i64.wrap ((IntKind.i64.wrap (t61 * ((gt words0 (0 : Int)).size : Int))) + t56)))]), Res.sl (Ek.int .u8) 5 v13 q22]) hp [1, 2] (by decide) (by simp) rfl
                  exact rnd_l ⟨_, hf.sub ⟨rfl, rfl, rfl, rfl, rfl, rfl, rfl, rfl, rfl, trivial⟩, hp⟩
                · replace h := ifF h hb
                  refine wp_exit ?_
                  refine th_e ?_
                  obtain rfl := Option.some.inj h
                  exact rnd_r (by simp) ⟨rfl, _, hf.sub ⟨rfl, rfl, rfl, rfl, rfl, rfl, trivial⟩, hp⟩
              · clear hl hf hp
                intro e a w hne hO
                obtain ⟨rfl, v33, hf, hp⟩ := hO
                refine ib_same ?_
                refine ib_n ?_
                refine th_n ?_
                refine wp_reg ?_
                refine st_iadd hf (by decide) rfl rfl rfl ?_
                clear hf; intro a ha hf; clear ha
                refine st_move hf rfl rfl (by decide) ?_
                clear hf; intro a ha hf; clear ha
                refine st_nil hf ?_
                obtain rfl := Option.some.inj h
                exact rnd_l ⟨_, hf.sub ⟨rfl, rfl, rfl, rfl, rfl, rfl, trivial⟩, hp⟩
            · replace h := ifF h hb
              refine wp_exit ?_
              refine th_e ?_
              obtain rfl := Option.some.inj h
              have hp : Hp _ _ _ (Res.sl (Ek.int .u8) 5 v27 out8 :: ow) := Hp.sel (pre := [Res.sl (Ek.int .u8) 5 v27 out8, Res.sl (Ek.int .u8) 5 v13 q22]) (tail := ow) (rs' := [Res.sl (Ek.int .u8) 5 v27 out8]) hp [0] (by decide) (by simp) rfl
              exact rnd_r (by simp) ⟨rfl, _, hf.sub ⟨rfl, trivial⟩, hp⟩
          · clear hl hf hp
            intro e a w hne hO
            obtain ⟨rfl, v29, hf, hp⟩ := hO
            refine ib_same ?_
            refine th_n ?_
            refine wp_seq ?_
            refine wp_reg ?_
            refine st_move hf rfl rfl (by decide) ?_
            clear hf; intro a ha hf; clear ha
            refine st_convBS hf (by decide) Try.underlying59 Try.underlying5 Try.underlying9 rfl rfl (hp.sl (i := 0) rfl) ?_
            clear hf; intro a ha hf; clear ha
            refine st_assign hf rfl rfl (by decide) ?_
            clear hf; intro a ha hf; clear ha
            refine st_assign hf rfl rfl (by decide) ?_
            clear hf; intro a ha hf; clear ha
            refine st_nil hf ?_
            refine th_n ?_
            refine wp_ret ?_
            obtain rfl := Option.some.inj h
            have hp : Hp _ _ _ (ow) := Hp.sel (pre := [Res.sl (Ek.int .u8) 5 v29 q41]) (tail := ow) (rs' := []) hp [] (by decide) (by simp) rfl
            exact ⟨rfl, ⟨hf.sub ⟨rfl, rfl, trivial⟩, hp⟩⟩
        | inr q23 =>
          replace h := smR h
          obtain ⟨rfl, hf, hp⟩ := hO
          refine ib_r ?_
          refine th_r ?_
          obtain rfl := Option.some.inj h
          exact ⟨rfl, ⟨hf.sub ⟨rfl, rfl, trivial⟩, hp⟩⟩

noncomputable def f_weave_New_1 (i0 : Int) : Option Int := (some i0)
theorem f_weave_New_1_c {S : Nat → Prop} {w0 w : World} {ow : List Res} (hp : Hp S w0 w ow) (i0 : Int) {r : Int} (h : f_weave_New_1 i0 = some r) :
    Calls Try.prog 41 #[.int .i64 i0] w (fun e w' => e = .returned (.int .i64 r) ∧ Hp S w0 w' (ow)) := by
  unfold f_weave_New_1 at h
  refine enter (n := 4) (args := [.int .i64 i0]) Try.func41 rfl rfl (Nat.le_of_ble_eq_true rfl) fun a hf => ?_
  replace hf : Fr 4 a [(0, .int .i64 i0)] := hf
  refine wp_mono (Q := fun e a w => e = .ret ∧ Fr 4 a [(2, .int .i64 r)] ∧ Hp S w0 w (ow)) ?_ ?_
  rotate_left
  · rintro e a w ⟨rfl, hf, hp⟩
    exact ret1 hf rfl rfl ⟨rfl, hp⟩
  refine wp_seq ?_
  refine wp_reg ?_
  refine st_assign hf rfl rfl (by decide) ?_
  clear hf; intro a ha hf; clear ha
  refine st_nil hf ?_
  refine th_n ?_
  refine wp_seq ?_
  refine wp_reg ?_
  refine st_move hf rfl rfl (by decide) ?_
  clear hf; intro a ha hf; clear ha
  refine st_assign hf rfl rfl (by decide) ?_
  clear hf; intro a ha hf; clear ha
  refine st_nil hf ?_
  refine th_n ?_
  refine wp_ret ?_
  obtain rfl := Option.some.inj h
  exact ⟨rfl, ⟨hf.sub ⟨rfl, trivial⟩, hp⟩⟩

noncomputable def f_weave_made.s1c (branches0 : Int) (steps1 : Int) (l8 : LoomS) (t29 : Int) : Option ((LoomS × Int) ⊕ LoomS) := (if (decide (t29 < branches0)) = true then ((f_weave_New_1 t29).bind fun q21 => (if 0 ≤ (IntKind.i64.wrap (q21 * steps1)) ∧ (IntKind.i64.wrap (q21 * steps1)) ≤ (IntKind.i64.wrap (q21 * steps1)) ∧ (IntKind.i64.wrap (q21 * steps1)) * 1 ≤ 281474976710656 then (if 0 ≤ t29 ∧ t29 < (64 : Int) then (some (Sum.inl ((l8.1.set (t29).toNat ((List.replicate ((IntKind.i64.wrap (q21 * steps1))).toNat (0 : Int)), (gt l8.1 t29).2), l8.2), (IntKind.i64.wrap (t29 + (1 : Int)))))) else none) else none)) else (some (Sum.inr l8)))
noncomputable def f_weave_made.s1 (branches0 : Int) (steps1 : Int) (s : (LoomS × Int)) : Option ((LoomS × Int) ⊕ LoomS) := f_weave_made.s1c branches0 steps1 s.1 s.2
noncomputable def f_weave_made (branches0 : Int) (steps1 : Int) : Option ((Option LoomS) × Int) := (if ((((decide (branches0 < (1 : Int))) || (decide ((64 : Int) < branches0))) || (decide (steps1 < (1 : Int)))) || (decide ((64 : Int) < steps1))) = true then (some (none, (1 : Int))) else ((loop (f_weave_made.s1 branches0 steps1) ((List.replicate 64 ([], 0), branches0, steps1, (0 : Int)), (0 : Int))).bind (fun q27 => (some ((some q27), (0 : Int))))))
theorem f_weave_made_c {S : Nat → Prop} {w0 w : World} {ow : List Res} (hp : Hp S w0 w ow) (branches0 : Int) (steps1 : Int) {r : ((Option LoomS) × Int)} (h : f_weave_made branches0 steps1 = some r) :
    Calls Try.prog 40 #[.int .i64 branches0, .int .i64 steps1, .func (.func 41) #[] #[]] w (fun e w' => ∃ (u0 : Value), e = .returned (.tuple #[u0, .int .i64 r.2]) ∧ Hp S w0 w' (Res.opt (LoomK 75 5) u0 r.1 :: ow)) := by
  unfold f_weave_made at h
  refine enter (n := 46) (args := [.int .i64 branches0, .int .i64 steps1, .func (.func 41) #[] #[]]) Try.func40 rfl rfl (Nat.le_of_ble_eq_true rfl) fun a hf => ?_
  replace hf : Fr 46 a [(0, .int .i64 branches0), (1, .int .i64 steps1), (2, .func (.func 41) #[] #[])] := hf
  refine wp_mono (Q := fun e a w => e = .ret ∧ ∃ (u0 : Value), Fr 46 a [(6, u0), (7, .int .i64 r.2)] ∧ Hp S w0 w (Res.opt (LoomK 75 5) u0 r.1 :: ow)) ?_ ?_
  rotate_left
  · rintro e a w ⟨rfl, x0, hf, hp⟩
    exact ret2 hf rfl rfl rfl ⟨x0, rfl, hp⟩
  refine wp_seq ?_
  refine wp_reg ?_
  refine st_assign hf rfl rfl (by decide) ?_
  clear hf; intro a ha hf; clear ha
  refine st_assign hf rfl rfl (by decide) ?_
  clear hf; intro a ha hf; clear ha
  refine st_nil hf ?_
  refine th_n ?_
  refine wp_seq ?_
  refine wp_seq ?_
  refine wp_reg ?_
  refine st_move hf rfl rfl (by decide) ?_
  clear hf; intro a ha hf; clear ha
  refine st_ilss hf (by decide) rfl rfl rfl ?_
  clear hf; intro a ha hf; clear ha
  refine st_move hf rfl rfl (by decide) ?_
  clear hf; intro a ha hf; clear ha
  refine wpList_cut 3 (fun a w => Fr 46 a [(0, .int .i64 branches0), (1, .int .i64 steps1), (2, .func (.func 41) #[] #[]), (15, .bool ((decide (branches0 < (1 : Int))) || (decide ((64 : Int) < branches0))))] ∧ Hp S w0 w (ow)) ?_ ?_
  · rcases Bool.eq_false_or_eq_true (decide (branches0 < (1 : Int))) with hb2 | hb2
    · skip
      refine st_skip hf (wantN hf rfl rfl hb2) rfl (by decide) ?_ rfl
      clear hf; intro a hf
      refine st_skip hf (wantN hf rfl rfl hb2) rfl (by decide) ?_ rfl
      clear hf; intro a hf
      refine st_pick (v := .bool true) hf rfl rfl (fun hb' => ?_) (fun hb' => ?_) (by decide) ?_
      · rfl
      · exact absurd (hb2.symm.trans hb') (by decide)
      clear hf; intro a ha hf; clear ha
      refine st_nil hf (th_n ?_)
      exact ⟨hf.sub ⟨rfl, rfl, rfl, (by rw [hb2]; rfl), trivial⟩, hp⟩
    · skip
      refine st_move hf (wantY hf rfl rfl hb2) rfl (by decide) ?_
      clear hf; intro a ha hf; clear ha
      refine st_igtr hf (by decide) (wantY hf rfl rfl hb2) rfl rfl ?_
      clear hf; intro a ha hf; clear ha
      refine st_pick (v := .bool (decide ((64 : Int) < branches0))) hf rfl rfl (fun hb' => ?_) (fun hb' => ?_) (by decide) ?_
      · exact absurd (hb2.symm.trans hb') (by decide)
      · rfl
      clear hf; intro a ha hf; clear ha
      refine st_nil hf (th_n ?_)
      exact ⟨hf.sub ⟨rfl, rfl, rfl, (by rw [hb2]; rfl), trivial⟩, hp⟩
  · rintro a w ⟨hf, hp⟩
    refine st_move hf rfl rfl (by decide) ?_
    clear hf; intro a ha hf; clear ha
    refine wpList_cut 3 (fun a w => Fr 46 a [(0, .int .i64 branches0), (1, .int .i64 steps1), (2, .func (.func 41) #[] #[]), (19, .bool (((decide (branches0 < (1 : Int))) || (decide ((64 : Int) < branches0))) || (decide (steps1 < (1 : Int)))))] ∧ Hp S w0 w (ow)) ?_ ?_
    · rcases Bool.eq_false_or_eq_true ((decide (branches0 < (1 : Int))) || (decide ((64 : Int) < branches0))) with hb4 | hb4
      · skip
        refine st_skip hf (wantN hf rfl rfl hb4) rfl (by decide) ?_ rfl
        clear hf; intro a hf
        refine st_skip hf (wantN hf rfl rfl hb4) rfl (by decide) ?_ rfl
        clear hf; intro a hf
        refine st_pick (v := .bool true) hf rfl rfl (fun hb' => ?_) (fun hb' => ?_) (by decide) ?_
        · rfl
        · exact absurd (hb4.symm.trans hb') (by decide)
        clear hf; intro a ha hf; clear ha
        refine st_nil hf (th_n ?_)
        exact ⟨hf.sub ⟨rfl, rfl, rfl, (by rw [hb4]; rfl), trivial⟩, hp⟩
      · skip
        refine st_move hf (wantY hf rfl rfl hb4) rfl (by decide) ?_
        clear hf; intro a ha hf; clear ha
        refine st_ilss hf (by decide) (wantY hf rfl rfl hb4) rfl rfl ?_
        clear hf; intro a ha hf; clear ha
        refine st_pick (v := .bool (decide (steps1 < (1 : Int)))) hf rfl rfl (fun hb' => ?_) (fun hb' => ?_) (by decide) ?_
        · exact absurd (hb4.symm.trans hb') (by decide)
        · rfl
        clear hf; intro a ha hf; clear ha
        refine st_nil hf (th_n ?_)
        exact ⟨hf.sub ⟨rfl, rfl, rfl, (by rw [hb4]; rfl), trivial⟩, hp⟩
    · rintro a w ⟨hf, hp⟩
      refine st_move hf rfl rfl (by decide) ?_
      clear hf; intro a ha hf; clear ha
      refine wpList_cut 3 (fun a w => Fr 46 a [(0, .int .i64 branches0), (1, .int .i64 steps1), (2, .func (.func 41) #[] #[]), (23, .bool ((((decide (branches0 < (1 : Int))) || (decide ((64 : Int) < branches0))) || (decide (steps1 < (1 : Int)))) || (decide ((64 : Int) < steps1))))] ∧ Hp S w0 w (ow)) ?_ ?_
      · rcases Bool.eq_false_or_eq_true (((decide (branches0 < (1 : Int))) || (decide ((64 : Int) < branches0))) || (decide (steps1 < (1 : Int)))) with hb6 | hb6
        · skip
          refine st_skip hf (wantN hf rfl rfl hb6) rfl (by decide) ?_ rfl
          clear hf; intro a hf
          refine st_skip hf (wantN hf rfl rfl hb6) rfl (by decide) ?_ rfl
          clear hf; intro a hf
          refine st_pick (v := .bool true) hf rfl rfl (fun hb' => ?_) (fun hb' => ?_) (by decide) ?_
          · rfl
          · exact absurd (hb6.symm.trans hb') (by decide)
          clear hf; intro a ha hf; clear ha
          refine st_nil hf (th_n ?_)
          exact ⟨hf.sub ⟨rfl, rfl, rfl, (by rw [hb6]; rfl), trivial⟩, hp⟩
        · skip
          refine st_move hf (wantY hf rfl rfl hb6) rfl (by decide) ?_
          clear hf; intro a ha hf; clear ha
          refine st_igtr hf (by decide) (wantY hf rfl rfl hb6) rfl rfl ?_
          clear hf; intro a ha hf; clear ha
          refine st_pick (v := .bool (decide ((64 : Int) < steps1))) hf rfl rfl (fun hb' => ?_) (fun hb' => ?_) (by decide) ?_
          · exact absurd (hb6.symm.trans hb') (by decide)
          · rfl
          clear hf; intro a ha hf; clear ha
          refine st_nil hf (th_n ?_)
          exact ⟨hf.sub ⟨rfl, rfl, rfl, (by rw [hb6]; rfl), trivial⟩, hp⟩
      · rintro a w ⟨hf, hp⟩
        refine st_nil hf ?_
        refine th_n ?_
        refine wp_if hf rfl (fun hb => ?_) (fun hb => ?_)
        · replace h := ifT h hb
          refine wp_seq ?_
          refine wp_reg ?_
          refine st_assign hf rfl rfl (by decide) ?_
          clear hf; intro a ha hf; clear ha
          refine st_assign hf rfl rfl (by decide) ?_
          clear hf; intro a ha hf; clear ha
          refine st_nil hf ?_
          refine th_n ?_
          refine wp_ret ?_
          refine th_r ?_
          obtain rfl := Option.some.inj h
          have hp := hp.optNil (LoomK 75 5)
          exact ⟨rfl, ⟨_, hf.sub ⟨rfl, rfl, trivial⟩, hp⟩⟩
        · replace h := ifF h hb
          refine wp_skip ?_
          refine th_n ?_
          refine wp_seq ?_
          refine wp_reg ?_
          refine st_move hf rfl rfl (by decide) ?_
          clear hf; intro a ha hf; clear ha
          refine st_move hf rfl rfl (by decide) ?_
          clear hf; intro a ha hf; clear ha
          refine st_buildA (vals := [(1, .int .i64 branches0), (2, .int .i64 steps1)]) (cells := loomCells (List.replicate 64 (.slice none 0 0)) (List.replicate 64 ([], 0), branches0, steps1, (0 : Int))) hf (by decide) rfl (by simp [hf.ev (x := (Operand.tmp 24)) rfl, hf.ev (x := (Operand.tmp 25)) rfl]) (fun w => by kernel_rfl) ?_
          clear hf; intro a ha hf; clear ha
          refine st_boxO (cs := loomCells (List.replicate 64 (.slice none 0 0)) (List.replicate 64 ([], 0), branches0, steps1, (0 : Int))) hf (by decide) hp rfl rfl rfl ?_
          clear hf; intro a w v8 hf hp0; clear hp; have hp := hp0; clear hp0
          rw [(hp.ob (i := 0) rfl).eq0] at hf
          replace hp : Hp _ _ _ (Res.loom 75 5 v8 (List.replicate 64 ([], 0), branches0, steps1, (0 : Int)) :: ow) := Hp.loomNew hp
          obtain ⟨vs10, hp⟩ := Hp.loomIn hp
          replace hp : Hp _ _ _ (Res.loomX 75 5 v8 vs10 (List.replicate 64 ([], 0), branches0, steps1, (0 : Int)) :: ow) := hp
          refine st_assign hf rfl rfl (by decide) ?_
          clear hf; intro a ha hf; clear ha
          refine st_nil hf ?_
          refine th_n ?_
          refine wp_seq ?_
          refine wp_seq ?_
          refine wp_reg ?_
          refine st_move hf rfl rfl (by decide) ?_
          clear hf; intro a ha hf; clear ha
          refine st_move hf rfl rfl (by decide) ?_
          clear hf; intro a ha hf; clear ha
          refine st_nil hf ?_
          refine th_n ?_
          refine wp_block ?_
          obtain ⟨q27, hl, h⟩ := bnd h
          refine wp_loop_pure (f := (f_weave_made.s1 branches0 steps1)) (s := ((List.replicate 64 ([], 0), branches0, steps1, (0 : Int)), (0 : Int))) (fun s a w => ∃ (vs12 : List Value), Fr 46 a [(1, .int .i64 steps1), (2, .func (.func 41) #[] #[]), (8, v8), (28, .int .i64 branches0), (29, .int .i64 s.2)] ∧ Hp S w0 w (Res.loomX 75 5 v8 vs12 s.1 :: ow)) (fun q e a w => e = .exit 0 ∧ ∃ (vs14 : List Value), Fr 46 a [(8, v8)] ∧ Hp S w0 w (Res.loomX 75 5 v8 vs14 q :: ow)) ?_ hl ⟨_, hf.sub ⟨rfl, rfl, rfl, rfl, rfl, trivial⟩, hp⟩ ?_
          · clear hl hf hp
            intro s x a w h hI
            obtain ⟨l8, t29⟩ := s
            obtain ⟨vs12, hf, hp⟩ : ∃ (vs12 : List Value), Fr 46 a [(1, .int .i64 steps1), (2, .func (.func 41) #[] #[]), (8, v8), (28, .int .i64 branches0), (29, .int .i64 t29)] ∧ Hp S w0 w (Res.loomX 75 5 v8 vs12 l8 :: ow) := hI
            replace h : f_weave_made.s1c branches0 steps1 l8 t29 = some x := h
            unfold f_weave_made.s1c at h
            refine wp_seq ?_
            refine wp_reg ?_
            refine st_ilss hf (by decide) rfl rfl rfl ?_
            clear hf; intro a ha hf; clear ha
            refine st_nil hf ?_
            refine th_n ?_
            refine wp_seq ?_
            refine wp_if hf rfl (fun hb => ?_) (fun hb => ?_)
            · replace h := ifT h hb
              refine wp_skip ?_
              refine th_n ?_
              refine wp_seq ?_
              refine wp_block ?_
              refine wp_seq ?_
              refine wp_reg ?_
              refine st_move hf rfl rfl (by decide) ?_
              clear hf; intro a ha hf; clear ha
              refine st_assign hf rfl rfl (by decide) ?_
              clear hf; intro a ha hf; clear ha
              refine st_nil hf ?_
              refine th_n ?_
              obtain ⟨S15, hp16, rd17, up18, bk19⟩ := Hp.lendL hp (i := 0) rfl
              have rl20 := rd17
              obtain ⟨q21, hcall22, h⟩ := bnd h
              obtain ⟨hc23, h⟩ := chk h
              obtain ⟨hc26, h⟩ := chk h
              refine wp_cutN (fun a w => ∃ (v24 : Value), Fr 46 a [(1, .int .i64 steps1), (2, .func (.func 41) #[] #[]), (8, v8), (28, .int .i64 branches0), (29, .int .i64 t29)] ∧ Hp S w0 w (Res.loomX 75 5 v8 (vs12.set (t29).toNat v24) (l8.1.set (t29).toNat ((List.replicate ((IntKind.i64.wrap (q21 * steps1))).toNat (0 : Int)), (gt l8.1 t29).2), l8.2) :: ow)) ?_ ?_
              · have hp := hp16.same (Same.drew w)
                refine dr_begin' (fun a w => ∃ (v24 : Value), Fr 46 a [(1, .int .i64 steps1), (2, .func (.func 41) #[] #[]), (8, v8), (28, .int .i64 branches0), (29, .int .i64 t29)] ∧ Hp S w0 w (Res.loomX 75 5 v8 (vs12.set (t29).toNat v24) (l8.1.set (t29).toNat ((List.replicate ((IntKind.i64.wrap (q21 * steps1))).toNat (0 : Int)), (gt l8.1 t29).2), l8.2) :: ow)) (fun w' => ∃ l, Hp S15 w w' l) [12] (by kernel_rfl) ?_
                refine dr_takeP 0 (v8) rfl (by kernel_rfl) (by kernel_rfl) (by kernel_rfl) rfl rfl hf (by decide) rfl (fun w => ?_) ?_
                · skip
                  refine st_move hf rfl rfl (by decide) ?_
                  clear hf; intro a ha hf
                  exact st_nil hf (th_n ⟨ha, rfl⟩)
                clear hf; intro a hf
                refine dr_takeP 1 (.int .i64 t29) rfl (by kernel_rfl) (by kernel_rfl) (by kernel_rfl) rfl rfl hf (by decide) rfl (fun w => ?_) ?_
                · skip
                  refine st_move hf rfl rfl (by decide) ?_
                  clear hf; intro a ha hf
                  exact st_nil hf (th_n ⟨ha, rfl⟩)
                clear hf; intro a hf
                refine dr_takeP 2 (.func (.func 41) #[] #[]) rfl (by kernel_rfl) (by kernel_rfl) (by kernel_rfl) rfl rfl hf (by decide) rfl (fun w => ?_) ?_
                · skip
                  refine st_move hf rfl rfl (by decide) ?_
                  clear hf; intro a ha hf
                  exact st_nil hf (th_n ⟨ha, rfl⟩)
                clear hf; intro a hf
                refine dr_takeP 3 (.int .i64 t29) rfl (by kernel_rfl) (by kernel_rfl) (by kernel_rfl) rfl rfl hf (by decide) rfl (fun w => ?_) ?_
                · skip
                  refine st_move hf rfl rfl (by decide) ?_
                  clear hf; intro a ha hf
                  exact st_nil hf (th_n ⟨ha, rfl⟩)
                clear hf; intro a hf
                refine dr_takeP 5 (.int .i64 steps1) rfl (by kernel_rfl) (by kernel_rfl) (by kernel_rfl) rfl rfl hf (by decide) rfl (fun w => ?_) ?_
                · skip
                  refine st_move hf rfl rfl (by decide) ?_
                  clear hf; intro a ha hf
                  exact st_nil hf (th_n ⟨ha, rfl⟩)
                clear hf; intro a hf
                refine dr_nilV 8 rfl (by kernel_rfl) (by kernel_rfl) (by kernel_rfl) hf (by decide) rfl rfl rl20.shO ?_
                clear hf; intro a hf
                refine dr_takeP 9 (optr v8 0) rfl (by kernel_rfl) (by kernel_rfl) (by kernel_rfl) rfl rfl hf (by decide) rfl (fun w => ?_) ?_
                · skip
                  refine st_fa (o' := 0) hf (by decide) (off := 0) (sz := 128) (by kernel_rfl) (by decide) rfl rfl rl20.shO rfl ?_
                  clear hf; intro a ha hf
                  exact st_nil hf (th_n ⟨ha, rfl⟩)
                clear hf; intro a hf
                refine dr_one 4 rfl (by kernel_rfl) ?_
                refine st_call hf (by decide) Try.func41 rfl rfl rfl rfl rfl (f_weave_New_1_c hp _ hcall22) ?_
                rintro _ w ⟨rfl, hp0⟩
                clear hp; have hp := hp0; clear hp0
                replace hp : Hp _ _ _ (ow) := hp
                refine ⟨_, rfl, ?_⟩
                clear hf; intro a hf
                refine st_nil hf (th_n ⟨fun _ _ => ⟨_, hp⟩, ?_⟩)
                refine dr_takeP 6 (.int .i64 (IntKind.i64.wrap (q21 * steps1))) rfl (by kernel_rfl) (by kernel_rfl) (by kernel_rfl) rfl rfl hf (by decide) rfl (fun w => ?_) ?_
                · skip
                  refine st_imul hf (by decide) rfl rfl rfl ?_
                  clear hf; intro a ha hf
                  exact st_nil hf (th_n ⟨ha, rfl⟩)
                clear hf; intro a hf
                refine dr_one 7 rfl (by kernel_rfl) ?_
                refine st_make (E := (Ek.int .u8)) hf (by decide) elt5 Try.underlying59 (by decide) hp rfl rfl rfl hc23.1 hc23.2.1 hc23.2.2 ?_
                clear hf; intro a w v24 hf hp0; clear hp; have hp := hp0; clear hp0
                replace hp : Hp _ _ _ (Res.sl (Ek.int .u8) 5 v24 (List.replicate ((IntKind.i64.wrap (q21 * steps1))).toNat (0 : Int)) :: ow) := hp
                refine st_nil hf (th_n ⟨fun _ _ => ⟨_, hp⟩, ?_⟩)
                refine dr_takeP 10 (optr v8 (0 + (t29).toNat * 2)) rfl (by kernel_rfl) (by kernel_rfl) (by kernel_rfl) rfl rfl hf (by decide) rfl (fun w => ?_) ?_
                · skip
                  refine st_ia (o' := 0 + (t29).toNat * 2) hf (by decide) Try.underlying73 (sz := 2) (by kernel_rfl) rfl rfl rfl rl20.shO hc26.1 hc26.2 rfl ?_
                  clear hf; intro a ha hf
                  exact st_nil hf (th_n ⟨ha, rfl⟩)
                clear hf; intro a hf
                refine dr_takeP 11 (optr v8 (0 + (t29).toNat * 2 + 0)) rfl (by kernel_rfl) (by kernel_rfl) (by kernel_rfl) rfl rfl hf (by decide) rfl (fun w => ?_) ?_
                · skip
                  refine st_fa (o' := 0 + (t29).toNat * 2 + 0) hf (by decide) (off := 0) (sz := 1) (by kernel_rfl) (by decide) rfl rfl rl20.shO rfl ?_
                  clear hf; intro a ha hf
                  exact st_nil hf (th_n ⟨ha, rfl⟩)
                clear hf; intro a hf
                have hp := bk19 _ _ hp
                refine dr_one 12 rfl (by kernel_rfl) ?_
                refine st_loomHeld (j := t29) hf hp (hp.sl (i := 1) rfl).shapeV (by kernel_rfl) rfl hc26 rfl rfl ?_
                clear hf; intro a w hf hp0; clear hp; have hp := hp0; clear hp0
                replace hp : Hp _ _ _ (Res.loomX 75 5 v8 (vs12.set (t29).toNat v24) (l8.1.set (t29).toNat ((List.replicate ((IntKind.i64.wrap (q21 * steps1))).toNat (0 : Int)), (gt l8.1 t29).2), l8.2) :: ow) := hp
                refine st_nil hf (th_n ⟨fun hn => absurd hn (by decide), ?_⟩)
                refine dr_end (by kernel_rfl) ?_ _
                exact ⟨v24, hf.sub ⟨rfl, rfl, rfl, rfl, rfl, trivial⟩, hp⟩
              · rintro a w ⟨v24, hf, hp⟩
                refine ib_n ?_
                refine th_n ?_
                refine wp_reg ?_
                refine st_iadd hf (by decide) rfl rfl rfl ?_
                clear hf; intro a ha hf; clear ha
                refine st_move hf rfl rfl (by decide) ?_
                clear hf; intro a ha hf; clear ha
                refine st_nil hf ?_
                obtain rfl := Option.some.inj h
                exact rnd_l ⟨_, hf.sub ⟨rfl, rfl, rfl, rfl, rfl, trivial⟩, hp⟩
            · replace h := ifF h hb
              refine wp_exit ?_
              refine th_e ?_
              obtain rfl := Option.some.inj h
              exact rnd_r (by simp) ⟨rfl, _, hf.sub ⟨rfl, trivial⟩, hp⟩
          · clear hl hf hp
            intro e a w hne hO
            obtain ⟨rfl, vs14, hf, hp⟩ := hO
            refine ib_same ?_
            refine th_n ?_
            refine wp_seq ?_
            refine wp_reg ?_
            refine st_move hf rfl rfl (by decide) ?_
            clear hf; intro a ha hf; clear ha
            refine st_assign hf rfl rfl (by decide) ?_
            clear hf; intro a ha hf; clear ha
            refine st_assign hf rfl rfl (by decide) ?_
            clear hf; intro a ha hf; clear ha
            refine st_nil hf ?_
            refine th_n ?_
            refine wp_ret ?_
            replace hp : Hp _ _ _ (Res.opt (LoomK 75 5) v8 (some q27) :: ow) := Hp.loomOut hp
            obtain rfl := Option.some.inj h
            exact ⟨rfl, ⟨_, hf.sub ⟨rfl, rfl, trivial⟩, hp⟩⟩

noncomputable def f_weave_New (branches0 : Int) (steps1 : Int) : Option ((Option LoomS) × Int) := ((f_weave_made branches0 steps1).bind fun q1 => (some (q1.1, q1.2)))
theorem f_weave_New_c {S : Nat → Prop} {w0 w : World} {ow : List Res} (hp : Hp S w0 w ow) (branches0 : Int) (steps1 : Int) {r : ((Option LoomS) × Int)} (h : f_weave_New branches0 steps1 = some r) :
    Calls Try.prog 27 #[.int .i64 branches0, .int .i64 steps1] w (fun e w' => ∃ (u0 : Value), e = .returned (.tuple #[u0, .int .i64 r.2]) ∧ Hp S w0 w' (Res.opt (LoomK 75 5) u0 r.1 :: ow)) := by
  unfold f_weave_New at h
  refine enter (n := 11) (args := [.int .i64 branches0, .int .i64 steps1]) Try.func27 rfl rfl (Nat.le_of_ble_eq_true rfl) fun a hf => ?_
  replace hf : Fr 11 a [(0, .int .i64 branches0), (1, .int .i64 steps1)] := hf
  refine wp_mono (Q := fun e a w => e = .ret ∧ ∃ (u0 : Value), Fr 11 a [(4, u0), (5, .int .i64 r.2)] ∧ Hp S w0 w (Res.opt (LoomK 75 5) u0 r.1 :: ow)) ?_ ?_
  rotate_left
  · rintro e a w ⟨rfl, x0, hf, hp⟩
    exact ret2 hf rfl rfl rfl ⟨x0, rfl, hp⟩
  refine wp_seq ?_
  refine wp_reg ?_
  refine st_assign hf rfl rfl (by decide) ?_
  clear hf; intro a ha hf; clear ha
  refine st_assign hf rfl rfl (by decide) ?_
  clear hf; intro a ha hf; clear ha
  refine st_nil hf ?_
  refine th_n ?_
  refine wp_seq ?_
  refine wp_reg ?_
  refine st_move hf rfl rfl (by decide) ?_
  clear hf; intro a ha hf; clear ha
  refine st_move hf rfl rfl (by decide) ?_
  clear hf; intro a ha hf; clear ha
  obtain ⟨q1, hcall2, h⟩ := bnd h
  refine st_call hf (by decide) Try.func40 rfl rfl rfl rfl rfl (f_weave_made_c hp _ _ hcall2) ?_
  rintro _ w ⟨v3, rfl, hp0⟩
  clear hp; have hp := hp0; clear hp0
  replace hp : Hp _ _ _ (Res.opt (LoomK 75 5) v3 q1.1 :: ow) := hp
  refine ⟨_, rfl, ?_⟩
  clear hf; intro a hf
  refine st_extract hf (by decide) rfl rfl rfl ?_
  clear hf; intro a ha hf; clear ha
  refine st_extract hf (by decide) rfl rfl rfl ?_
  clear hf; intro a ha hf; clear ha
  refine st_assign hf rfl rfl (by decide) ?_
  clear hf; intro a ha hf; clear ha
  refine st_assign hf rfl rfl (by decide) ?_
  clear hf; intro a ha hf; clear ha
  refine st_nil hf ?_
  refine th_n ?_
  refine wp_ret ?_
  obtain rfl := Option.some.inj h
  exact ⟨rfl, ⟨_, hf.sub ⟨rfl, rfl, trivial⟩, hp⟩⟩

noncomputable def f_weave_ring_push (r0 : LoomS) (pr0 : Int) (b1 : Int) : Option (Int × LoomS) := (if ((((gt r0.1 pr0).1).length : Int) == (0 : Int)) = true then (some (b1, r0)) else (if 0 ≤ (gt r0.1 pr0).2 ∧ (gt r0.1 pr0).2 < (((gt r0.1 pr0).1).length : Int) then (if 0 ≤ (gt r0.1 pr0).2 ∧ (gt r0.1 pr0).2 < (((gt r0.1 pr0).1).length : Int) then (if (((gt (r0.1.set (pr0).toNat ((gt r0.1 pr0).1.set ((gt r0.1 pr0).2).toNat b1, (gt r0.1 pr0).2), r0.2).1 pr0).1).length : Int) ≠ 0 then (some ((gt ((gt r0.1 pr0).1) ((gt r0.1 pr0).2)), ((r0.1.set (pr0).toNat ((gt r0.1 pr0).1.set ((gt r0.1 pr0).2).toNat b1, (gt r0.1 pr0).2), r0.2).1.set (pr0).toNat ((gt (r0.1.set (pr0).toNat ((gt r0.1 pr0).1.set ((gt r0.1 pr0).2).toNat b1, (gt r0.1 pr0).2), r0.2).1 pr0).1, (((IntKind.i64.wrap ((gt (r0.1.set (pr0).toNat ((gt r0.1 pr0).1.set ((gt r0.1 pr0).2).toNat b1, (gt r0.1 pr0).2), r0.2).1 pr0).2 + (1 : Int)))).tmod (((gt (r0.1.set (pr0).toNat ((gt r0.1 pr0).1.set ((gt r0.1 pr0).2).toNat b1, (gt r0.1 pr0).2), r0.2).1 pr0).1).length : Int))), (r0.1.set (pr0).toNat ((gt r0.1 pr0).1.set ((gt r0.1 pr0).2).toNat b1, (gt r0.1 pr0).2), r0.2).2))) else none) else none) else none))
theorem f_weave_ring_push_c {S : Nat → Prop} {w0 w : World} {ow : List Res} (vr0 : Value) (r0 : LoomS) (pr0 : Int) (cr0 : 0 ≤ pr0 ∧ pr0 < 64) (b1 : Int) (hp : Hp S w0 w (Res.loom 75 5 vr0 r0 :: ow)) {r : (Int × LoomS)} (h : f_weave_ring_push r0 pr0 b1 = some r) :
    Calls Try.prog 43 #[optr vr0 (0 + (pr0).toNat * 2), .int .u8 b1] w (fun e w' => e = .returned (.int .u8 r.1) ∧ Hp S w0 w' (Res.loom 75 5 vr0 r.2 :: ow)) := by
  unfold f_weave_ring_push at h
  refine enter (n := 48) (args := [optr vr0 (0 + (pr0).toNat * 2), .int .u8 b1]) Try.func43 rfl rfl (Nat.le_of_ble_eq_true rfl) fun a hf => ?_
  replace hf : Fr 48 a [(0, optr vr0 (0 + (pr0).toNat * 2)), (1, .int .u8 b1)] := hf
  refine wp_mono (Q := fun e a w => e = .ret ∧ Fr 48 a [(4, .int .u8 r.1)] ∧ Hp S w0 w (Res.loom 75 5 vr0 r.2 :: ow)) ?_ ?_
  rotate_left
  · rintro e a w ⟨rfl, hf, hp⟩
    exact ret1 hf rfl rfl ⟨rfl, hp⟩
  obtain ⟨vs2, hp⟩ := Hp.loomIn hp
  replace hp : Hp _ _ _ (Res.loomX 75 5 vr0 vs2 r0 :: ow) := hp
  refine wp_seq ?_
  refine wp_reg ?_
  refine st_assign hf rfl rfl (by decide) ?_
  clear hf; intro a ha hf; clear ha
  refine st_nil hf ?_
  refine th_n ?_
  refine wp_seq ?_
  refine wp_seq ?_
  refine wp_reg ?_
  refine st_move hf rfl rfl (by decide) ?_
  clear hf; intro a ha hf; clear ha
  refine st_nilO hf (by decide) rfl rfl (hp.shX (i := 0) rfl) ?_
  clear hf; intro a ha hf; clear ha
  refine st_fa (o' := 0 + (pr0).toNat * 2 + 0) hf (by decide) (off := 0) (sz := 1) (by kernel_rfl) (by decide) rfl rfl (hp.shX (i := 0) rfl) rfl ?_
  clear hf; intro a ha hf; clear ha
  refine st_ldP hf (by decide) pl59 rfl rfl ((hp.ldX (i := 0) rfl).ldH cr0) ?_
  clear hf; intro a ha hf; clear ha
  refine st_len (E := (Ek.int .u8)) hf (by decide) Try.underlying59 rfl rfl (RdL.rowP (hp.ldX (i := 0) rfl) cr0) ?_
  clear hf; intro a ha hf; clear ha
  refine st_ieql hf (by decide) rfl rfl rfl ?_
  clear hf; intro a ha hf; clear ha
  refine st_nil hf ?_
  refine th_n ?_
  refine wp_if hf rfl (fun hb => ?_) (fun hb => ?_)
  · replace h := ifT h hb
    refine wp_seq ?_
    refine wp_reg ?_
    refine st_move hf rfl rfl (by decide) ?_
    clear hf; intro a ha hf; clear ha
    refine st_assign hf rfl rfl (by decide) ?_
    clear hf; intro a ha hf; clear ha
    refine st_nil hf ?_
    refine th_n ?_
    refine wp_ret ?_
    refine th_r ?_
    replace hp : Hp _ _ _ (Res.loom 75 5 vr0 r0 :: ow) := Hp.loomOut hp
    obtain rfl := Option.some.inj h
    exact ⟨rfl, ⟨hf.sub ⟨rfl, trivial⟩, hp⟩⟩
  · replace h := ifF h hb
    refine wp_skip ?_
    refine th_n ?_
    refine wp_seq ?_
    obtain ⟨S3, hp4, rd5, up6, bk7⟩ := Hp.lendL hp (i := 0) rfl
    have rl8 := rd5
    have rl9 := (RdL.rowP rd5 cr0)
    obtain ⟨hc10, h⟩ := chk h
    refine wp_cutN (fun a w => Fr 48 a [(0, optr vr0 (0 + (pr0).toNat * 2)), (1, .int .u8 b1), (5, .int .u8 (gt ((gt r0.1 pr0).1) ((gt r0.1 pr0).2)))] ∧ Hp S w0 w (Res.loomX 75 5 vr0 vs2 r0 :: ow)) ?_ ?_
    · have hp := hp4.same (Same.drew w)
      refine dr_begin' (fun a w => Fr 48 a [(0, optr vr0 (0 + (pr0).toNat * 2)), (1, .int .u8 b1), (5, .int .u8 (gt ((gt r0.1 pr0).1) ((gt r0.1 pr0).2)))] ∧ Hp S w0 w (Res.loomX 75 5 vr0 vs2 r0 :: ow)) (fun w' => ∃ l, Hp S3 w w' l) [] (by kernel_rfl) ?_
      refine dr_take 0 (optr vr0 (0 + (pr0).toNat * 2)) rfl (by kernel_rfl) (by kernel_rfl) (by kernel_rfl) (by kernel_rfl) rfl rfl hf (by decide) rfl (fun w hp => ?_) ⟨_, hp⟩ ?_
      · obtain ⟨_, hp⟩ := hp
        refine st_move hf rfl rfl (by decide) ?_
        clear hf; intro a ha hf
        exact st_nil hf (th_n ⟨ha, rfl⟩)
      clear hf; intro a hf
      refine dr_nilO 1 rfl (by kernel_rfl) (by kernel_rfl) (by kernel_rfl) hf (by decide) rfl rfl rl8.shO ?_
      clear hf; intro a hf
      refine dr_take 2 (optr vr0 (0 + (pr0).toNat * 2 + 0)) rfl (by kernel_rfl) (by kernel_rfl) (by kernel_rfl) (by kernel_rfl) rfl rfl hf (by decide) rfl (fun w hp => ?_) ⟨_, hp⟩ ?_
      · obtain ⟨_, hp⟩ := hp
        refine st_fa (o' := 0 + (pr0).toNat * 2 + 0) hf (by decide) (off := 0) (sz := 1) (by kernel_rfl) (by decide) rfl rfl rl8.shO rfl ?_
        clear hf; intro a ha hf
        exact st_nil hf (th_n ⟨ha, rfl⟩)
      clear hf; intro a hf
      refine dr_take 3 ((gtv vs2 pr0)) rfl (by kernel_rfl) (by kernel_rfl) (by kernel_rfl) (by kernel_rfl) rfl rfl hf (by decide) rfl (fun w hp => ?_) ⟨_, hp⟩ ?_
      · obtain ⟨_, hp⟩ := hp
        refine st_ldP hf (by decide) pl59 rfl rfl ((rl8.obx hp).ldH cr0) ?_
        clear hf; intro a ha hf
        exact st_nil hf (th_n ⟨ha, rfl⟩)
      clear hf; intro a hf
      refine dr_take 4 (optr vr0 (0 + (pr0).toNat * 2)) rfl (by kernel_rfl) (by kernel_rfl) (by kernel_rfl) (by kernel_rfl) rfl rfl hf (by decide) rfl (fun w hp => ?_) ⟨_, hp⟩ ?_
      · obtain ⟨_, hp⟩ := hp
        refine st_move hf rfl rfl (by decide) ?_
        clear hf; intro a ha hf
        exact st_nil hf (th_n ⟨ha, rfl⟩)
      clear hf; intro a hf
      refine dr_nilO 5 rfl (by kernel_rfl) (by kernel_rfl) (by kernel_rfl) hf (by decide) rfl rfl rl8.shO ?_
      clear hf; intro a hf
      refine dr_take 6 (optr vr0 (0 + (pr0).toNat * 2 + 1)) rfl (by kernel_rfl) (by kernel_rfl) (by kernel_rfl) (by kernel_rfl) rfl rfl hf (by decide) rfl (fun w hp => ?_) ⟨_, hp⟩ ?_
      · obtain ⟨_, hp⟩ := hp
        refine st_fa (o' := 0 + (pr0).toNat * 2 + 1) hf (by decide) (off := 1) (sz := 1) (by kernel_rfl) (by decide) rfl rfl rl8.shO rfl ?_
        clear hf; intro a ha hf
        exact st_nil hf (th_n ⟨ha, rfl⟩)
      clear hf; intro a hf
      refine dr_take 7 (.int .i64 ((gt r0.1 pr0).2)) rfl (by kernel_rfl) (by kernel_rfl) (by kernel_rfl) (by kernel_rfl) rfl rfl hf (by decide) rfl (fun w hp => ?_) ⟨_, hp⟩ ?_
      · obtain ⟨_, hp⟩ := hp
        refine st_ldP hf (by decide) pl3 rfl rfl ((rl8.obx hp).ldA cr0) ?_
        clear hf; intro a ha hf
        exact st_nil hf (th_n ⟨ha, rfl⟩)
      clear hf; intro a hf
      refine dr_take 8 (eptr (gtv vs2 pr0) ((gt r0.1 pr0).2) 1) rfl (by kernel_rfl) (by kernel_rfl) (by kernel_rfl) (by kernel_rfl) rfl rfl hf (by decide) rfl (fun w hp => ?_) ⟨_, hp⟩ ?_
      · obtain ⟨_, hp⟩ := hp
        refine st_index (E := (Ek.int .u8)) hf (by decide) Try.underlying59 elt5 rfl rfl rfl ((RdL.rowP rl8 cr0).sl hp) hc10.1 hc10.2 ?_
        clear hf; intro a ha hf
        exact st_nil hf (th_n ⟨ha, rfl⟩)
      clear hf; intro a hf
      refine dr_take 9 (.int .u8 (gt ((gt r0.1 pr0).1) ((gt r0.1 pr0).2))) rfl (by kernel_rfl) (by kernel_rfl) (by kernel_rfl) (by kernel_rfl) rfl rfl hf (by decide) rfl (fun w hp => ?_) ⟨_, hp⟩ ?_
      · obtain ⟨_, hp⟩ := hp
        refine st_ldI hf (by decide) pl5 rfl rfl ((RdL.rowP rl8 cr0).sl hp) hc10.1 hc10.2 ?_
        clear hf; intro a ha hf
        exact st_nil hf (th_n ⟨ha, rfl⟩)
      clear hf; intro a hf
      refine dr_take 10 (.int .u8 (gt ((gt r0.1 pr0).1) ((gt r0.1 pr0).2))) rfl (by kernel_rfl) (by kernel_rfl) (by kernel_rfl) (by kernel_rfl) rfl rfl hf (by decide) rfl (fun w hp => ?_) ⟨_, hp⟩ ?_
      · obtain ⟨_, hp⟩ := hp
        refine st_assign hf rfl rfl (by decide) ?_
        clear hf; intro a ha hf
        exact st_nil hf (th_n ⟨ha, rfl⟩)
      clear hf; intro a hf
      refine dr_end (by kernel_rfl) ?_ _
      have hp := bk7 _ _ hp
      exact ⟨hf.sub ⟨rfl, rfl, rfl, trivial⟩, hp⟩
    · rintro a w ⟨hf, hp⟩
      refine th_n ?_
      refine wp_seq ?_
      obtain ⟨S11, hp12, rd13, up14, bk15⟩ := Hp.lendL hp (i := 0) rfl
      have rl16 := rd13
      obtain ⟨hc17, h⟩ := chk h
      refine wp_cutN (fun a w => Fr 48 a [(0, optr vr0 (0 + (pr0).toNat * 2)), (5, .int .u8 (gt ((gt r0.1 pr0).1) ((gt r0.1 pr0).2)))] ∧ Hp S w0 w (Res.loomX 75 5 vr0 vs2 (r0.1.set (pr0).toNat ((gt r0.1 pr0).1.set ((gt r0.1 pr0).2).toNat b1, (gt r0.1 pr0).2), r0.2) :: ow)) ?_ ?_
      · have hp := hp12.same (Same.drew w)
        refine dr_begin' (fun a w => Fr 48 a [(0, optr vr0 (0 + (pr0).toNat * 2)), (5, .int .u8 (gt ((gt r0.1 pr0).1) ((gt r0.1 pr0).2)))] ∧ Hp S w0 w (Res.loomX 75 5 vr0 vs2 (r0.1.set (pr0).toNat ((gt r0.1 pr0).1.set ((gt r0.1 pr0).2).toNat b1, (gt r0.1 pr0).2), r0.2) :: ow)) (fun w' => ∃ l, Hp S11 w w' l) [10] (by kernel_rfl) ?_
        refine dr_takeP 0 (optr vr0 (0 + (pr0).toNat * 2)) rfl (by kernel_rfl) (by kernel_rfl) (by kernel_rfl) rfl rfl hf (by decide) rfl (fun w => ?_) ?_
        · skip
          refine st_move hf rfl rfl (by decide) ?_
          clear hf; intro a ha hf
          exact st_nil hf (th_n ⟨ha, rfl⟩)
        clear hf; intro a hf
        refine dr_nilO 1 rfl (by kernel_rfl) (by kernel_rfl) (by kernel_rfl) hf (by decide) rfl rfl rl16.shO ?_
        clear hf; intro a hf
        refine dr_takeP 2 (optr vr0 (0 + (pr0).toNat * 2 + 0)) rfl (by kernel_rfl) (by kernel_rfl) (by kernel_rfl) rfl rfl hf (by decide) rfl (fun w => ?_) ?_
        · skip
          refine st_fa (o' := 0 + (pr0).toNat * 2 + 0) hf (by decide) (off := 0) (sz := 1) (by kernel_rfl) (by decide) rfl rfl rl16.shO rfl ?_
          clear hf; intro a ha hf
          exact st_nil hf (th_n ⟨ha, rfl⟩)
        clear hf; intro a hf
        refine dr_take2 3 ((gtv vs2 pr0)) rfl (by kernel_rfl) (by kernel_rfl) (by kernel_rfl) (by kernel_rfl) (by kernel_rfl) rfl rfl hf (by decide) rfl (fun w hp => ?_) ⟨_, hp⟩ ?_
        · obtain ⟨_, hp⟩ := hp
          refine st_ldP hf (by decide) pl59 rfl rfl ((rl16.obx hp).ldH cr0) ?_
          clear hf; intro a ha hf
          exact st_nil hf (th_n ⟨ha, rfl⟩)
        clear hf; intro a hf
        refine dr_takeP 4 (optr vr0 (0 + (pr0).toNat * 2)) rfl (by kernel_rfl) (by kernel_rfl) (by kernel_rfl) rfl rfl hf (by decide) rfl (fun w => ?_) ?_
        · skip
          refine st_move hf rfl rfl (by decide) ?_
          clear hf; intro a ha hf
          exact st_nil hf (th_n ⟨ha, rfl⟩)
        clear hf; intro a hf
        refine dr_nilO 5 rfl (by kernel_rfl) (by kernel_rfl) (by kernel_rfl) hf (by decide) rfl rfl rl16.shO ?_
        clear hf; intro a hf
        refine dr_takeP 6 (optr vr0 (0 + (pr0).toNat * 2 + 1)) rfl (by kernel_rfl) (by kernel_rfl) (by kernel_rfl) rfl rfl hf (by decide) rfl (fun w => ?_) ?_
        · skip
          refine st_fa (o' := 0 + (pr0).toNat * 2 + 1) hf (by decide) (off := 1) (sz := 1) (by kernel_rfl) (by decide) rfl rfl rl16.shO rfl ?_
          clear hf; intro a ha hf
          exact st_nil hf (th_n ⟨ha, rfl⟩)
        clear hf; intro a hf
        refine dr_take2 7 (.int .i64 ((gt r0.1 pr0).2)) rfl (by kernel_rfl) (by kernel_rfl) (by kernel_rfl) (by kernel_rfl) (by kernel_rfl) rfl rfl hf (by decide) rfl (fun w hp => ?_) ⟨_, hp⟩ ?_
        · obtain ⟨_, hp⟩ := hp
          refine st_ldP hf (by decide) pl3 rfl rfl ((rl16.obx hp).ldA cr0) ?_
          clear hf; intro a ha hf
          exact st_nil hf (th_n ⟨ha, rfl⟩)
        clear hf; intro a hf
        refine dr_takeP 8 (.int .u8 b1) rfl (by kernel_rfl) (by kernel_rfl) (by kernel_rfl) rfl rfl hf (by decide) rfl (fun w => ?_) ?_
        · skip
          refine st_move hf rfl rfl (by decide) ?_
          clear hf; intro a ha hf
          exact st_nil hf (th_n ⟨ha, rfl⟩)
        clear hf; intro a hf
        refine dr_takeP 9 (eptr (gtv vs2 pr0) ((gt r0.1 pr0).2) 1) rfl (by kernel_rfl) (by kernel_rfl) (by kernel_rfl) rfl rfl hf (by decide) rfl (fun w => ?_) ?_
        · skip
          refine st_index (E := (Ek.int .u8)) hf (by decide) Try.underlying59 elt5 rfl rfl rfl (RdL.rowP rl16 cr0).any hc17.1 hc17.2 ?_
          clear hf; intro a ha hf
          exact st_nil hf (th_n ⟨ha, rfl⟩)
        clear hf; intro a hf
        have hp := bk15 _ _ hp
        refine dr_one 10 rfl (by kernel_rfl) ?_
        refine st_loomByte (j := pr0) (i := (gt r0.1 pr0).2) hf elt5 hp rfl cr0 rfl rfl hc17.1 hc17.2 ?_
        clear hf; intro a w hf hp0; clear hp; have hp := hp0; clear hp0
        replace hp : Hp _ _ _ (Res.loomX 75 5 vr0 vs2 (r0.1.set (pr0).toNat ((gt r0.1 pr0).1.set ((gt r0.1 pr0).2).toNat b1, (gt r0.1 pr0).2), r0.2) :: ow) := hp
        refine st_nil hf (th_n ⟨fun hn => absurd hn (by decide), ?_⟩)
        refine dr_end (by kernel_rfl) ?_ _
        exact ⟨hf.sub ⟨rfl, rfl, trivial⟩, hp⟩
      · rintro a w ⟨hf, hp⟩
        refine th_n ?_
        refine wp_seq ?_
        obtain ⟨S18, hp19, rd20, up21, bk22⟩ := Hp.lendL hp (i := 0) rfl
        have rl23 := rd20
        obtain ⟨hc24, h⟩ := chk h
        refine wp_cutN (fun a w => Fr 48 a [(0, optr vr0 (0 + (pr0).toNat * 2)), (5, .int .u8 (gt ((gt r0.1 pr0).1) ((gt r0.1 pr0).2)))] ∧ Hp S w0 w (Res.loomX 75 5 vr0 vs2 ((r0.1.set (pr0).toNat ((gt r0.1 pr0).1.set ((gt r0.1 pr0).2).toNat b1, (gt r0.1 pr0).2), r0.2).1.set (pr0).toNat ((gt (r0.1.set (pr0).toNat ((gt r0.1 pr0).1.set ((gt r0.1 pr0).2).toNat b1, (gt r0.1 pr0).2), r0.2).1 pr0).1, (((IntKind.i64.wrap ((gt (r0.1.set (pr0).toNat ((gt r0.1 pr0).1.set ((gt r0.1 pr0).2).toNat b1, (gt r0.1 pr0).2), r0.2).1 pr0).2 + (1 : Int)))).tmod (((gt (r0.1.set (pr0).toNat ((gt r0.1 pr0).1.set ((gt r0.1 pr0).2).toNat b1, (gt r0.1 pr0).2), r0.2).1 pr0).1).length : Int))), (r0.1.set (pr0).toNat ((gt r0.1 pr0).1.set ((gt r0.1 pr0).2).toNat b1, (gt r0.1 pr0).2), r0.2).2) :: ow)) ?_ ?_
        · have hp := hp19.same (Same.drew w)
          refine dr_begin' (fun a w => Fr 48 a [(0, optr vr0 (0 + (pr0).toNat * 2)), (5, .int .u8 (gt ((gt r0.1 pr0).1) ((gt r0.1 pr0).2)))] ∧ Hp S w0 w (Res.loomX 75 5 vr0 vs2 ((r0.1.set (pr0).toNat ((gt r0.1 pr0).1.set ((gt r0.1 pr0).2).toNat b1, (gt r0.1 pr0).2), r0.2).1.set (pr0).toNat ((gt (r0.1.set (pr0).toNat ((gt r0.1 pr0).1.set ((gt r0.1 pr0).2).toNat b1, (gt r0.1 pr0).2), r0.2).1 pr0).1, (((IntKind.i64.wrap ((gt (r0.1.set (pr0).toNat ((gt r0.1 pr0).1.set ((gt r0.1 pr0).2).toNat b1, (gt r0.1 pr0).2), r0.2).1 pr0).2 + (1 : Int)))).tmod (((gt (r0.1.set (pr0).toNat ((gt r0.1 pr0).1.set ((gt r0.1 pr0).2).toNat b1, (gt r0.1 pr0).2), r0.2).1 pr0).1).length : Int))), (r0.1.set (pr0).toNat ((gt r0.1 pr0).1.set ((gt r0.1 pr0).2).toNat b1, (gt r0.1 pr0).2), r0.2).2) :: ow)) (fun w' => ∃ l, Hp S18 w w' l) [14] (by kernel_rfl) ?_
          refine dr_takeP 0 (optr vr0 (0 + (pr0).toNat * 2)) rfl (by kernel_rfl) (by kernel_rfl) (by kernel_rfl) rfl rfl hf (by decide) rfl (fun w => ?_) ?_
          · skip
            refine st_move hf rfl rfl (by decide) ?_
            clear hf; intro a ha hf
            exact st_nil hf (th_n ⟨ha, rfl⟩)
          clear hf; intro a hf
          refine dr_takeP 1 (optr vr0 (0 + (pr0).toNat * 2)) rfl (by kernel_rfl) (by kernel_rfl) (by kernel_rfl) rfl rfl hf (by decide) rfl (fun w => ?_) ?_
          · skip
            refine st_move hf rfl rfl (by decide) ?_
            clear hf; intro a ha hf
            exact st_nil hf (th_n ⟨ha, rfl⟩)
          clear hf; intro a hf
          refine dr_nilO 2 rfl (by kernel_rfl) (by kernel_rfl) (by kernel_rfl) hf (by decide) rfl rfl rl23.shO ?_
          clear hf; intro a hf
          refine dr_takeP 3 (optr vr0 (0 + (pr0).toNat * 2 + 1)) rfl (by kernel_rfl) (by kernel_rfl) (by kernel_rfl) rfl rfl hf (by decide) rfl (fun w => ?_) ?_
          · skip
            refine st_fa (o' := 0 + (pr0).toNat * 2 + 1) hf (by decide) (off := 1) (sz := 1) (by kernel_rfl) (by decide) rfl rfl rl23.shO rfl ?_
            clear hf; intro a ha hf
            exact st_nil hf (th_n ⟨ha, rfl⟩)
          clear hf; intro a hf
          refine dr_take2 4 (.int .i64 ((gt (r0.1.set (pr0).toNat ((gt r0.1 pr0).1.set ((gt r0.1 pr0).2).toNat b1, (gt r0.1 pr0).2), r0.2).1 pr0).2)) rfl (by kernel_rfl) (by kernel_rfl) (by kernel_rfl) (by kernel_rfl) (by kernel_rfl) rfl rfl hf (by decide) rfl (fun w hp => ?_) ⟨_, hp⟩ ?_
          · obtain ⟨_, hp⟩ := hp
            refine st_ldP hf (by decide) pl3 rfl rfl ((rl23.obx hp).ldA cr0) ?_
            clear hf; intro a ha hf
            exact st_nil hf (th_n ⟨ha, rfl⟩)
          clear hf; intro a hf
          refine dr_takeP 5 (.int .i64 (IntKind.i64.wrap ((gt (r0.1.set (pr0).toNat ((gt r0.1 pr0).1.set ((gt r0.1 pr0).2).toNat b1, (gt r0.1 pr0).2), r0.2).1 pr0).2 + (1 : Int)))) rfl (by kernel_rfl) (by kernel_rfl) (by kernel_rfl) rfl rfl hf (by decide) rfl (fun w => ?_) ?_
          · skip
            refine st_iadd hf (by decide) rfl rfl rfl ?_
            clear hf; intro a ha hf
            exact st_nil hf (th_n ⟨ha, rfl⟩)
          clear hf; intro a hf
          refine dr_takeP 6 (optr vr0 (0 + (pr0).toNat * 2)) rfl (by kernel_rfl) (by kernel_rfl) (by kernel_rfl) rfl rfl hf (by decide) rfl (fun w => ?_) ?_
          · skip
            refine st_move hf rfl rfl (by decide) ?_
            clear hf; intro a ha hf
            exact st_nil hf (th_n ⟨ha, rfl⟩)
          clear hf; intro a hf
          refine dr_nilO 7 rfl (by kernel_rfl) (by kernel_rfl) (by kernel_rfl) hf (by decide) rfl rfl rl23.shO ?_
          clear hf; intro a hf
          refine dr_takeP 8 (optr vr0 (0 + (pr0).toNat * 2 + 0)) rfl (by kernel_rfl) (by kernel_rfl) (by kernel_rfl) rfl rfl hf (by decide) rfl (fun w => ?_) ?_
          · skip
            refine st_fa (o' := 0 + (pr0).toNat * 2 + 0) hf (by decide) (off := 0) (sz := 1) (by kernel_rfl) (by decide) rfl rfl rl23.shO rfl ?_
            clear hf; intro a ha hf
            exact st_nil hf (th_n ⟨ha, rfl⟩)
          clear hf; intro a hf
          refine dr_take2 9 ((gtv vs2 pr0)) rfl (by kernel_rfl) (by kernel_rfl) (by kernel_rfl) (by kernel_rfl) (by kernel_rfl) rfl rfl hf (by decide) rfl (fun w hp => ?_) ⟨_, hp⟩ ?_
          · obtain ⟨_, hp⟩ := hp
            refine st_ldP hf (by decide) pl59 rfl rfl ((rl23.obx hp).ldH cr0) ?_
            clear hf; intro a ha hf
            exact st_nil hf (th_n ⟨ha, rfl⟩)
          clear hf; intro a hf
          refine dr_takeP 10 (.int .i64 (((gt (r0.1.set (pr0).toNat ((gt r0.1 pr0).1.set ((gt r0.1 pr0).2).toNat b1, (gt r0.1 pr0).2), r0.2).1 pr0).1).length : Int)) rfl (by kernel_rfl) (by kernel_rfl) (by kernel_rfl) rfl rfl hf (by decide) rfl (fun w => ?_) ?_
          · skip
            refine st_len (E := (Ek.int .u8)) hf (by decide) Try.underlying59 rfl rfl (RdL.rowP rl23 cr0).any ?_
            clear hf; intro a ha hf
            exact st_nil hf (th_n ⟨ha, rfl⟩)
          clear hf; intro a hf
          refine dr_takeP 11 (.int .i64 (((IntKind.i64.wrap ((gt (r0.1.set (pr0).toNat ((gt r0.1 pr0).1.set ((gt r0.1 pr0).2).toNat b1, (gt r0.1 pr0).2), r0.2).1 pr0).2 + (1 : Int)))).tmod (((gt (r0.1.set (pr0).toNat ((gt r0.1 pr0).1.set ((gt r0.1 pr0).2).toNat b1, (gt r0.1 pr0).2), r0.2).1 pr0).1).length : Int))) rfl (by kernel_rfl) (by kernel_rfl) (by kernel_rfl) rfl rfl hf (by decide) rfl (fun w => ?_) ?_
          · skip
            refine st_irem hf (by decide) rfl rfl rfl hc24 ?_
            clear hf; intro a ha hf
            exact st_nil hf (th_n ⟨ha, rfl⟩)
          clear hf; intro a hf
          refine dr_nilO 12 rfl (by kernel_rfl) (by kernel_rfl) (by kernel_rfl) hf (by decide) rfl rfl rl23.shO ?_
          clear hf; intro a hf
          refine dr_takeP 13 (optr vr0 (0 + (pr0).toNat * 2 + 1)) rfl (by kernel_rfl) (by kernel_rfl) (by kernel_rfl) rfl rfl hf (by decide) rfl (fun w => ?_) ?_
          · skip
            refine st_fa (o' := 0 + (pr0).toNat * 2 + 1) hf (by decide) (off := 1) (sz := 1) (by kernel_rfl) (by decide) rfl rfl rl23.shO rfl ?_
            clear hf; intro a ha hf
            exact st_nil hf (th_n ⟨ha, rfl⟩)
          clear hf; intro a hf
          have hp := bk22 _ _ hp
          refine dr_one 14 rfl (by kernel_rfl) ?_
          refine st_loomAt (j := pr0) hf hp (by kernel_rfl) rfl cr0 rfl rfl ?_
          clear hf; intro a w hf hp0; clear hp; have hp := hp0; clear hp0
          replace hp : Hp _ _ _ (Res.loomX 75 5 vr0 vs2 ((r0.1.set (pr0).toNat ((gt r0.1 pr0).1.set ((gt r0.1 pr0).2).toNat b1, (gt r0.1 pr0).2), r0.2).1.set (pr0).toNat ((gt (r0.1.set (pr0).toNat ((gt r0.1 pr0).1.set ((gt r0.1 pr0).2).toNat b1, (gt r0.1 pr0).2), r0.2).1 pr0).1, (((IntKind.i64.wrap ((gt (r0.1.set (pr0).toNat ((gt r0.1 pr0).1.set ((gt r0.1 pr0).2).toNat b1, (gt r0.1 pr0).2), r0.2).1 pr0).2 + (1 : Int)))).tmod (((gt (r0.1.set (pr0).toNat ((gt r0.1 pr0).1.set ((gt r0.1 pr0).2).toNat b1, (gt r0.1 pr0).2), r0.2).1 pr0).1).length : Int))), (r0.1.set (pr0).toNat ((gt r0.1 pr0).1.set ((gt r0.1 pr0).2).toNat b1, (gt r0.1 pr0).2), r0.2).2) :: ow) := hp
          refine st_nil hf (th_n ⟨fun hn => absurd hn (by decide), ?_⟩)
          refine dr_end (by kernel_rfl) ?_ _
          exact ⟨hf.sub ⟨rfl, rfl, trivial⟩, hp⟩
        · rintro a w ⟨hf, hp⟩
          refine th_n ?_
          refine wp_seq ?_
          refine wp_reg ?_
          refine st_move hf rfl rfl (by decide) ?_
          clear hf; intro a ha hf; clear ha
          refine st_assign hf rfl rfl (by decide) ?_
          clear hf; intro a ha hf; clear ha
          refine st_nil hf ?_
          refine th_n ?_
          refine wp_ret ?_
          replace hp : Hp _ _ _ (Res.loom 75 5 vr0 ((r0.1.set (pr0).toNat ((gt r0.1 pr0).1.set ((gt r0.1 pr0).2).toNat b1, (gt r0.1 pr0).2), r0.2).1.set (pr0).toNat ((gt (r0.1.set (pr0).toNat ((gt r0.1 pr0).1.set ((gt r0.1 pr0).2).toNat b1, (gt r0.1 pr0).2), r0.2).1 pr0).1, (((IntKind.i64.wrap ((gt (r0.1.set (pr0).toNat ((gt r0.1 pr0).1.set ((gt r0.1 pr0).2).toNat b1, (gt r0.1 pr0).2), r0.2).1 pr0).2 + (1 : Int)))).tmod (((gt (r0.1.set (pr0).toNat ((gt r0.1 pr0).1.set ((gt r0.1 pr0).2).toNat b1, (gt r0.1 pr0).2), r0.2).1 pr0).1).length : Int))), (r0.1.set (pr0).toNat ((gt r0.1 pr0).1.set ((gt r0.1 pr0).2).toNat b1, (gt r0.1 pr0).2), r0.2).2) :: ow) := Hp.loomOut hp
          obtain rfl := Option.some.inj h
          exact ⟨rfl, ⟨hf.sub ⟨rfl, trivial⟩, hp⟩⟩

noncomputable def f_weave_Loom_Push (l0 : (Option LoomS)) (b1 : Int) : Option (Int × Int × (Option LoomS)) := (if ((l0).isNone) = true then (some ((0 : Int), (2 : Int), l0)) else ((l0).bind fun s2 => (if 0 ≤ s2.2.2.2 ∧ s2.2.2.2 < (64 : Int) then ((f_weave_ring_push s2 s2.2.2.2 b1).bind fun q12 => (if q12.2.2.1 ≠ 0 then (some (q12.1, (0 : Int), (some (q12.2.1, q12.2.2.1, q12.2.2.2.1, (((IntKind.i64.wrap (q12.2.2.2.2 + (1 : Int)))).tmod q12.2.2.1))))) else none)) else none)))
theorem f_weave_Loom_Push_c {S : Nat → Prop} {w0 w : World} {ow : List Res} (vl0 : Value) (l0 : Option LoomS) (b1 : Int) (hp : Hp S w0 w (Res.opt (LoomK 75 5) vl0 l0 :: ow)) {r : (Int × Int × (Option LoomS))} (h : f_weave_Loom_Push l0 b1 = some r) :
    Calls Try.prog 30 #[vl0, .int .u8 b1] w (fun e w' => e = .returned (.tuple #[.int .u8 r.1, .int .i64 r.2.1]) ∧ Hp S w0 w' (Res.opt (LoomK 75 5) vl0 r.2.2 :: ow)) := by
  unfold f_weave_Loom_Push at h
  refine enter (n := 33) (args := [vl0, .int .u8 b1]) Try.func30 rfl rfl (Nat.le_of_ble_eq_true rfl) fun a hf => ?_
  replace hf : Fr 33 a [(0, vl0), (1, .int .u8 b1)] := hf
  refine wp_mono (Q := fun e a w => e = .ret ∧ Fr 33 a [(4, .int .u8 r.1), (5, .int .i64 r.2.1)] ∧ Hp S w0 w (Res.opt (LoomK 75 5) vl0 r.2.2 :: ow)) ?_ ?_
  rotate_left
  · rintro e a w ⟨rfl, hf, hp⟩
    exact ret2 hf rfl rfl rfl ⟨rfl, hp⟩
  refine wp_seq ?_
  refine wp_reg ?_
  refine st_assign hf rfl rfl (by decide) ?_
  clear hf; intro a ha hf; clear ha
  refine st_assign hf rfl rfl (by decide) ?_
  clear hf; intro a ha hf; clear ha
  refine st_nil hf ?_
  refine th_n ?_
  refine wp_seq ?_
  refine wp_seq ?_
  refine wp_reg ?_
  refine st_move hf rfl rfl (by decide) ?_
  clear hf; intro a ha hf; clear ha
  refine st_peql hf (by decide) Try.underlying45 rfl rfl rfl (hp.nilB (i := 0) rfl) ?_
  clear hf; intro a ha hf; clear ha
  refine st_nil hf ?_
  refine th_n ?_
  refine wp_if hf rfl (fun hb => ?_) (fun hb => ?_)
  · replace h := ifT h hb
    refine wp_seq ?_
    refine wp_reg ?_
    refine st_assign hf rfl rfl (by decide) ?_
    clear hf; intro a ha hf; clear ha
    refine st_assign hf rfl rfl (by decide) ?_
    clear hf; intro a ha hf; clear ha
    refine st_nil hf ?_
    refine th_n ?_
    refine wp_ret ?_
    refine th_r ?_
    obtain rfl := Option.some.inj h
    exact ⟨rfl, ⟨hf.sub ⟨rfl, rfl, trivial⟩, hp⟩⟩
  · replace h := ifF h hb
    obtain ⟨s2, hs3, h⟩ := bnd h
    replace hp : Hp _ _ _ (Res.loom 75 5 vl0 s2 :: ow) := hp.optSome hs3
    obtain ⟨vs4, hp⟩ := Hp.loomIn hp
    replace hp : Hp _ _ _ (Res.loomX 75 5 vl0 vs4 s2 :: ow) := hp
    refine wp_skip ?_
    refine th_n ?_
    refine wp_seq ?_
    obtain ⟨S5, hp6, rd7, up8, bk9⟩ := Hp.lendL hp (i := 0) rfl
    have rl10 := rd7
    obtain ⟨hc11, h⟩ := chk h
    obtain ⟨q12, hcall13, h⟩ := bnd h
    refine wp_cutN (fun a w => ∃ (vs15 : List Value), Fr 33 a [(0, vl0), (6, .int .u8 q12.1)] ∧ Hp S w0 w (Res.loomX 75 5 vl0 vs15 q12.2 :: ow)) ?_ ?_
    · have hp := hp6.same (Same.drew w)
      refine dr_begin' (fun a w => ∃ (vs15 : List Value), Fr 33 a [(0, vl0), (6, .int .u8 q12.1)] ∧ Hp S w0 w (Res.loomX 75 5 vl0 vs15 q12.2 :: ow)) (fun w' => ∃ l, Hp S5 w w' l) [9] (by kernel_rfl) ?_
      refine dr_takeP 0 (vl0) rfl (by kernel_rfl) (by kernel_rfl) (by kernel_rfl) rfl rfl hf (by decide) rfl (fun w => ?_) ?_
      · skip
        refine st_move hf rfl rfl (by decide) ?_
        clear hf; intro a ha hf
        exact st_nil hf (th_n ⟨ha, rfl⟩)
      clear hf; intro a hf
      refine dr_takeP 1 (vl0) rfl (by kernel_rfl) (by kernel_rfl) (by kernel_rfl) rfl rfl hf (by decide) rfl (fun w => ?_) ?_
      · skip
        refine st_move hf rfl rfl (by decide) ?_
        clear hf; intro a ha hf
        exact st_nil hf (th_n ⟨ha, rfl⟩)
      clear hf; intro a hf
      refine dr_nilV 2 rfl (by kernel_rfl) (by kernel_rfl) (by kernel_rfl) hf (by decide) rfl rfl rl10.shO ?_
      clear hf; intro a hf
      refine dr_takeP 3 (optr vl0 130) rfl (by kernel_rfl) (by kernel_rfl) (by kernel_rfl) rfl rfl hf (by decide) rfl (fun w => ?_) ?_
      · skip
        refine st_fa (o' := 130) hf (by decide) (off := 130) (sz := 1) (by kernel_rfl) (by decide) rfl rfl rl10.shO rfl ?_
        clear hf; intro a ha hf
        exact st_nil hf (th_n ⟨ha, rfl⟩)
      clear hf; intro a hf
      refine dr_take2 4 (.int .i64 s2.2.2.2) rfl (by kernel_rfl) (by kernel_rfl) (by kernel_rfl) (by kernel_rfl) (by kernel_rfl) rfl rfl hf (by decide) rfl (fun w hp => ?_) ⟨_, hp⟩ ?_
      · obtain ⟨_, hp⟩ := hp
        refine st_ldP hf (by decide) pl3 rfl rfl (rl10.obx hp).ld3 ?_
        clear hf; intro a ha hf
        exact st_nil hf (th_n ⟨ha, rfl⟩)
      clear hf; intro a hf
      refine dr_nilV 5 rfl (by kernel_rfl) (by kernel_rfl) (by kernel_rfl) hf (by decide) rfl rfl rl10.shO ?_
      clear hf; intro a hf
      refine dr_takeP 6 (optr vl0 0) rfl (by kernel_rfl) (by kernel_rfl) (by kernel_rfl) rfl rfl hf (by decide) rfl (fun w => ?_) ?_
      · skip
        refine st_fa (o' := 0) hf (by decide) (off := 0) (sz := 128) (by kernel_rfl) (by decide) rfl rfl rl10.shO rfl ?_
        clear hf; intro a ha hf
        exact st_nil hf (th_n ⟨ha, rfl⟩)
      clear hf; intro a hf
      refine dr_takeP 7 (optr vl0 (0 + (s2.2.2.2).toNat * 2)) rfl (by kernel_rfl) (by kernel_rfl) (by kernel_rfl) rfl rfl hf (by decide) rfl (fun w => ?_) ?_
      · skip
        refine st_ia (o' := 0 + (s2.2.2.2).toNat * 2) hf (by decide) Try.underlying73 (sz := 2) (by kernel_rfl) rfl rfl rfl rl10.shO hc11.1 hc11.2 rfl ?_
        clear hf; intro a ha hf
        exact st_nil hf (th_n ⟨ha, rfl⟩)
      clear hf; intro a hf
      refine dr_takeP 8 (.int .u8 b1) rfl (by kernel_rfl) (by kernel_rfl) (by kernel_rfl) rfl rfl hf (by decide) rfl (fun w => ?_) ?_
      · skip
        refine st_move hf rfl rfl (by decide) ?_
        clear hf; intro a ha hf
        exact st_nil hf (th_n ⟨ha, rfl⟩)
      clear hf; intro a hf
      have hp := bk9 _ _ hp
      refine dr_one 9 rfl (by kernel_rfl) ?_
      replace hp : Hp _ _ _ (Res.loom 75 5 vl0 s2 :: ow) := Hp.loomOut hp
      have hp14 : Hp _ _ _ (Res.loom 75 5 vl0 s2 :: ow) := Hp.sel (pre := [Res.loom 75 5 vl0 s2]) (tail := ow) (rs' := [Res.loom 75 5 vl0 s2]) hp [0] (by decide) (by simp) rfl
      refine st_call hf (by decide) Try.func43 rfl rfl rfl rfl rfl (f_weave_ring_push_c _ _ _ hc11 _ hp14 hcall13) ?_
      rintro _ w ⟨rfl, hp0⟩
      clear hp; have hp := hp0; clear hp0
      replace hp : Hp _ _ _ (Res.loom 75 5 vl0 q12.2 :: ow) := hp
      obtain ⟨vs15, hp⟩ := Hp.loomIn hp
      replace hp : Hp _ _ _ (Res.loomX 75 5 vl0 vs15 q12.2 :: ow) := hp
      refine ⟨_, rfl, ?_⟩
      clear hf; intro a hf
      refine st_nil hf (th_n ⟨fun hn => absurd hn (by decide), ?_⟩)
      refine dr_takeP 10 (.int .u8 q12.1) rfl (by kernel_rfl) (by kernel_rfl) (by kernel_rfl) rfl rfl hf (by decide) rfl (fun w => ?_) ?_
      · skip
        refine st_assign hf rfl rfl (by decide) ?_
        clear hf; intro a ha hf
        exact st_nil hf (th_n ⟨ha, rfl⟩)
      clear hf; intro a hf
      refine dr_end (by kernel_rfl) ?_ _
      exact ⟨vs15, hf.sub ⟨rfl, rfl, trivial⟩, hp⟩
    · rintro a w ⟨vs15, hf, hp⟩
      refine th_n ?_
      refine wp_seq ?_
      obtain ⟨S16, hp17, rd18, up19, bk20⟩ := Hp.lendL hp (i := 0) rfl
      have rl21 := rd18
      obtain ⟨hc22, h⟩ := chk h
      refine wp_cutN (fun a w => Fr 33 a [(0, vl0), (6, .int .u8 q12.1)] ∧ Hp S w0 w (Res.loomX 75 5 vl0 vs15 (q12.2.1, q12.2.2.1, q12.2.2.2.1, (((IntKind.i64.wrap (q12.2.2.2.2 + (1 : Int)))).tmod q12.2.2.1)) :: ow)) ?_ ?_
      · have hp := hp17.same (Same.drew w)
        refine dr_begin' (fun a w => Fr 33 a [(0, vl0), (6, .int .u8 q12.1)] ∧ Hp S w0 w (Res.loomX 75 5 vl0 vs15 (q12.2.1, q12.2.2.1, q12.2.2.2.1, (((IntKind.i64.wrap (q12.2.2.2.2 + (1 : Int)))).tmod q12.2.2.1)) :: ow)) (fun w' => ∃ l, Hp S16 w w' l) [13] (by kernel_rfl) ?_
        refine dr_takeP 0 (vl0) rfl (by kernel_rfl) (by kernel_rfl) (by kernel_rfl) rfl rfl hf (by decide) rfl (fun w => ?_) ?_
        · skip
          refine st_move hf rfl rfl (by decide) ?_
          clear hf; intro a ha hf
          exact st_nil hf (th_n ⟨ha, rfl⟩)
        clear hf; intro a hf
        refine dr_takeP 1 (vl0) rfl (by kernel_rfl) (by kernel_rfl) (by kernel_rfl) rfl rfl hf (by decide) rfl (fun w => ?_) ?_
        · skip
          refine st_move hf rfl rfl (by decide) ?_
          clear hf; intro a ha hf
          exact st_nil hf (th_n ⟨ha, rfl⟩)
        clear hf; intro a hf
        refine dr_nilV 2 rfl (by kernel_rfl) (by kernel_rfl) (by kernel_rfl) hf (by decide) rfl rfl rl21.shO ?_
        clear hf; intro a hf
        refine dr_takeP 3 (optr vl0 130) rfl (by kernel_rfl) (by kernel_rfl) (by kernel_rfl) rfl rfl hf (by decide) rfl (fun w => ?_) ?_
        · skip
          refine st_fa (o' := 130) hf (by decide) (off := 130) (sz := 1) (by kernel_rfl) (by decide) rfl rfl rl21.shO rfl ?_
          clear hf; intro a ha hf
          exact st_nil hf (th_n ⟨ha, rfl⟩)
        clear hf; intro a hf
        refine dr_take2 4 (.int .i64 q12.2.2.2.2) rfl (by kernel_rfl) (by kernel_rfl) (by kernel_rfl) (by kernel_rfl) (by kernel_rfl) rfl rfl hf (by decide) rfl (fun w hp => ?_) ⟨_, hp⟩ ?_
        · obtain ⟨_, hp⟩ := hp
          refine st_ldP hf (by decide) pl3 rfl rfl (rl21.obx hp).ld3 ?_
          clear hf; intro a ha hf
          exact st_nil hf (th_n ⟨ha, rfl⟩)
        clear hf; intro a hf
        refine dr_takeP 5 (.int .i64 (IntKind.i64.wrap (q12.2.2.2.2 + (1 : Int)))) rfl (by kernel_rfl) (by kernel_rfl) (by kernel_rfl) rfl rfl hf (by decide) rfl (fun w => ?_) ?_
        · skip
          refine st_iadd hf (by decide) rfl rfl rfl ?_
          clear hf; intro a ha hf
          exact st_nil hf (th_n ⟨ha, rfl⟩)
        clear hf; intro a hf
        refine dr_takeP 6 (vl0) rfl (by kernel_rfl) (by kernel_rfl) (by kernel_rfl) rfl rfl hf (by decide) rfl (fun w => ?_) ?_
        · skip
          refine st_move hf rfl rfl (by decide) ?_
          clear hf; intro a ha hf
          exact st_nil hf (th_n ⟨ha, rfl⟩)
        clear hf; intro a hf
        refine dr_nilV 7 rfl (by kernel_rfl) (by kernel_rfl) (by kernel_rfl) hf (by decide) rfl rfl rl21.shO ?_
        clear hf; intro a hf
        refine dr_takeP 8 (optr vl0 128) rfl (by kernel_rfl) (by kernel_rfl) (by kernel_rfl) rfl rfl hf (by decide) rfl (fun w => ?_) ?_
        · skip
          refine st_fa (o' := 128) hf (by decide) (off := 128) (sz := 1) (by kernel_rfl) (by decide) rfl rfl rl21.shO rfl ?_
          clear hf; intro a ha hf
          exact st_nil hf (th_n ⟨ha, rfl⟩)
        clear hf; intro a hf
        refine dr_take2 9 (.int .i64 q12.2.2.1) rfl (by kernel_rfl) (by kernel_rfl) (by kernel_rfl) (by kernel_rfl) (by kernel_rfl) rfl rfl hf (by decide) rfl (fun w hp => ?_) ⟨_, hp⟩ ?_
        · obtain ⟨_, hp⟩ := hp
          refine st_ldP hf (by decide) pl3 rfl rfl (rl21.obx hp).ld1 ?_
          clear hf; intro a ha hf
          exact st_nil hf (th_n ⟨ha, rfl⟩)
        clear hf; intro a hf
        refine dr_takeP 10 (.int .i64 (((IntKind.i64.wrap (q12.2.2.2.2 + (1 : Int)))).tmod q12.2.2.1)) rfl (by kernel_rfl) (by kernel_rfl) (by kernel_rfl) rfl rfl hf (by decide) rfl (fun w => ?_) ?_
        · skip
          refine st_irem hf (by decide) rfl rfl rfl hc22 ?_
          clear hf; intro a ha hf
          exact st_nil hf (th_n ⟨ha, rfl⟩)
        clear hf; intro a hf
        refine dr_nilV 11 rfl (by kernel_rfl) (by kernel_rfl) (by kernel_rfl) hf (by decide) rfl rfl rl21.shO ?_
        clear hf; intro a hf
        refine dr_takeP 12 (optr vl0 130) rfl (by kernel_rfl) (by kernel_rfl) (by kernel_rfl) rfl rfl hf (by decide) rfl (fun w => ?_) ?_
        · skip
          refine st_fa (o' := 130) hf (by decide) (off := 130) (sz := 1) (by kernel_rfl) (by decide) rfl rfl rl21.shO rfl ?_
          clear hf; intro a ha hf
          exact st_nil hf (th_n ⟨ha, rfl⟩)
        clear hf; intro a hf
        have hp := bk20 _ _ hp
        refine dr_one 13 rfl (by kernel_rfl) ?_
        refine st_loomTurn hf hp (by kernel_rfl) rfl rfl rfl ?_
        clear hf; intro a w hf hp0; clear hp; have hp := hp0; clear hp0
        replace hp : Hp _ _ _ (Res.loomX 75 5 vl0 vs15 (q12.2.1, q12.2.2.1, q12.2.2.2.1, (((IntKind.i64.wrap (q12.2.2.2.2 + (1 : Int)))).tmod q12.2.2.1)) :: ow) := hp
        refine st_nil hf (th_n ⟨fun hn => absurd hn (by decide), ?_⟩)
        refine dr_end (by kernel_rfl) ?_ _
        exact ⟨hf.sub ⟨rfl, rfl, trivial⟩, hp⟩
      · rintro a w ⟨hf, hp⟩
        refine th_n ?_
        refine wp_seq ?_
        refine wp_reg ?_
        refine st_move hf rfl rfl (by decide) ?_
        clear hf; intro a ha hf; clear ha
        refine st_assign hf rfl rfl (by decide) ?_
        clear hf; intro a ha hf; clear ha
        refine st_assign hf rfl rfl (by decide) ?_
        clear hf; intro a ha hf; clear ha
        refine st_nil hf ?_
        refine th_n ?_
        refine wp_ret ?_
        replace hp : Hp _ _ _ (Res.opt (LoomK 75 5) vl0 (some (q12.2.1, q12.2.2.1, q12.2.2.2.1, (((IntKind.i64.wrap (q12.2.2.2.2 + (1 : Int)))).tmod q12.2.2.1))) :: ow) := Hp.loomOut hp
        obtain rfl := Option.some.inj h
        exact ⟨rfl, ⟨hf.sub ⟨rfl, rfl, trivial⟩, hp⟩⟩

noncomputable def f_weave_Loom_Run.s1c (s1 : ByteArray) (l0 : (Option LoomS)) (out6 : (List Int)) (t24 : Int) : Option (((Option LoomS) × (List Int) × Int) ⊕ ((Option LoomS) × (List Int))) := (if (decide (t24 < ((sbytes s1).length : Int))) = true then (if 0 ≤ t24 ∧ t24 < ((sbytes s1).length : Int) then ((f_weave_Loom_Push l0 (gt (sbytes s1) t24)).bind fun q18 => (if (out6.length + ([q18.1]).length) * 1 ≤ 140737488355328 then (some (Sum.inl (q18.2.2, (out6 ++ [q18.1]), (IntKind.i64.wrap (t24 + (1 : Int)))))) else none)) else none) else (some (Sum.inr (l0, out6))))
noncomputable def f_weave_Loom_Run.s1 (s1 : ByteArray) (s : ((Option LoomS) × (List Int) × Int)) : Option (((Option LoomS) × (List Int) × Int) ⊕ ((Option LoomS) × (List Int))) := f_weave_Loom_Run.s1c s1 s.1 s.2.1 s.2.2
noncomputable def f_weave_Loom_Run (l0 : (Option LoomS)) (s1 : ByteArray) : Option (ByteArray × Int × (Option LoomS)) := (if ((l0).isNone) = true then (some ((ByteArray.mk #[]), (2 : Int), l0)) else ((l0).bind fun s2 => (if (decide ((32768 : Int) < (s1.size : Int))) = true then (some ((ByteArray.mk #[]), (1 : Int), (some s2))) else (if 0 ≤ (0 : Int) ∧ (0 : Int) ≤ (s1.size : Int) ∧ (s1.size : Int) * 1 ≤ 281474976710656 then (if s1.size ≤ 140737488355328 then ((loop (f_weave_Loom_Run.s1 s1) ((some s2), (List.replicate ((0 : Int)).toNat (0 : Int)), (0 : Int))).bind (fun q25 => (some ((bstr q25.2), (0 : Int), q25.1)))) else none) else none))))
theorem f_weave_Loom_Run_c {S : Nat → Prop} {w0 w : World} {ow : List Res} (vl0 : Value) (l0 : Option LoomS) (s1 : ByteArray) (hp : Hp S w0 w (Res.opt (LoomK 75 5) vl0 l0 :: ow)) {r : (ByteArray × Int × (Option LoomS))} (h : f_weave_Loom_Run l0 s1 = some r) :
    Calls Try.prog 32 #[vl0, .string s1] w (fun e w' => e = .returned (.tuple #[.string r.1, .int .i64 r.2.1]) ∧ Hp S w0 w' (Res.opt (LoomK 75 5) vl0 r.2.2 :: ow)) := by
  unfold f_weave_Loom_Run at h
  refine enter (n := 41) (args := [vl0, .string s1]) Try.func32 rfl rfl (Nat.le_of_ble_eq_true rfl) fun a hf => ?_
  replace hf : Fr 41 a [(0, vl0), (1, .string s1)] := hf
  refine wp_mono (Q := fun e a w => e = .ret ∧ Fr 41 a [(4, .string r.1), (5, .int .i64 r.2.1)] ∧ Hp S w0 w (Res.opt (LoomK 75 5) vl0 r.2.2 :: ow)) ?_ ?_
  rotate_left
  · rintro e a w ⟨rfl, hf, hp⟩
    exact ret2 hf rfl rfl rfl ⟨rfl, hp⟩
  refine wp_seq ?_
  refine wp_reg ?_
  refine st_assign hf rfl rfl (by decide) ?_
  clear hf; intro a ha hf; clear ha
  refine st_assign hf rfl rfl (by decide) ?_
  clear hf; intro a ha hf; clear ha
  refine st_nil hf ?_
  refine th_n ?_
  refine wp_seq ?_
  refine wp_block ?_
  refine wp_seq ?_
  refine wp_reg ?_
  refine st_move hf rfl rfl (by decide) ?_
  clear hf; intro a ha hf; clear ha
  refine st_peql hf (by decide) Try.underlying45 rfl rfl rfl (hp.nilB (i := 0) rfl) ?_
  clear hf; intro a ha hf; clear ha
  refine st_assign hf rfl rfl (by decide) ?_
  clear hf; intro a ha hf; clear ha
  refine st_nil hf ?_
  refine th_n ?_
  refine wp_if hf rfl (fun hb => ?_) (fun hb => ?_)
  · replace h := ifT h hb
    refine wp_seq ?_
    refine wp_reg ?_
    refine st_assign hf rfl rfl (by decide) ?_
    clear hf; intro a ha hf; clear ha
    refine st_assign hf rfl rfl (by decide) ?_
    clear hf; intro a ha hf; clear ha
    refine st_nil hf ?_
    refine th_n ?_
    refine wp_ret ?_
    refine ib_r ?_
    refine th_r ?_
    obtain rfl := Option.some.inj h
    exact ⟨rfl, ⟨hf.sub ⟨rfl, rfl, trivial⟩, hp⟩⟩
  · replace h := ifF h hb
    obtain ⟨s2, hs3, h⟩ := bnd h
    replace hp : Hp _ _ _ (Res.loom 75 5 vl0 s2 :: ow) := hp.optSome hs3
    obtain ⟨vs4, hp⟩ := Hp.loomIn hp
    replace hp : Hp _ _ _ (Res.loomX 75 5 vl0 vs4 s2 :: ow) := hp
    refine wp_seq ?_
    refine wp_reg ?_
    refine st_move hf rfl rfl (by decide) ?_
    clear hf; intro a ha hf; clear ha
    refine st_slen hf (by decide) Try.underlying9 rfl rfl ?_
    clear hf; intro a ha hf; clear ha
    refine st_igtr hf (by decide) rfl rfl rfl ?_
    clear hf; intro a ha hf; clear ha
    refine st_assign hf rfl rfl (by decide) ?_
    clear hf; intro a ha hf; clear ha
    refine st_nil hf ?_
    refine th_n ?_
    refine wp_if hf rfl (fun hb => ?_) (fun hb => ?_)
    · replace h := ifT h hb
      refine wp_seq ?_
      refine wp_reg ?_
      refine st_assign hf rfl rfl (by decide) ?_
      clear hf; intro a ha hf; clear ha
      refine st_assign hf rfl rfl (by decide) ?_
      clear hf; intro a ha hf; clear ha
      refine st_nil hf ?_
      refine th_n ?_
      refine wp_ret ?_
      refine ib_r ?_
      refine th_r ?_
      replace hp : Hp _ _ _ (Res.opt (LoomK 75 5) vl0 (some s2) :: ow) := Hp.loomOut hp
      obtain rfl := Option.some.inj h
      exact ⟨rfl, ⟨hf.sub ⟨rfl, rfl, trivial⟩, hp⟩⟩
    · replace h := ifF h hb
      refine wp_skip ?_
      refine ib_n ?_
      refine th_n ?_
      refine wp_seq ?_
      refine wp_reg ?_
      refine st_move hf rfl rfl (by decide) ?_
      clear hf; intro a ha hf; clear ha
      refine st_slen hf (by decide) Try.underlying9 rfl rfl ?_
      clear hf; intro a ha hf; clear ha
      obtain ⟨hc5, h⟩ := chk h
      refine st_make (E := (Ek.int .u8)) hf (by decide) elt5 Try.underlying59 (by decide) hp rfl rfl rfl hc5.1 hc5.2.1 hc5.2.2 ?_
      clear hf; intro a w v6 hf hp0; clear hp; have hp := hp0; clear hp0
      replace hp : Hp _ _ _ (Res.sl (Ek.int .u8) 5 v6 (List.replicate ((0 : Int)).toNat (0 : Int)) :: Res.loomX 75 5 vl0 vs4 s2 :: ow) := hp
      refine st_assign hf rfl rfl (by decide) ?_
      clear hf; intro a ha hf; clear ha
      refine st_nil hf ?_
      refine th_n ?_
      refine wp_seq ?_
      refine wp_seq ?_
      refine wp_reg ?_
      refine st_move hf rfl rfl (by decide) ?_
      clear hf; intro a ha hf; clear ha
      obtain ⟨hc9, h⟩ := chk h
      refine st_convSB hf (by decide) Try.underlying9 Try.underlying59 Try.underlying5 hp rfl rfl hc9 ?_
      clear hf; intro a w v8 hf hp0; clear hp; have hp := hp0; clear hp0
      replace hp : Hp _ _ _ (Res.rsl (Ek.int .u8) v8 (sbytes s1) :: Res.sl (Ek.int .u8) 5 v6 (List.replicate ((0 : Int)).toNat (0 : Int)) :: Res.loomX 75 5 vl0 vs4 s2 :: ow) := hp
      refine st_len (E := (Ek.int .u8)) hf (by decide) Try.underlying59 rfl rfl (hp.rsl (i := 0) rfl) ?_
      clear hf; intro a ha hf; clear ha
      refine st_move hf rfl rfl (by decide) ?_
      clear hf; intro a ha hf; clear ha
      refine st_nil hf ?_
      refine th_n ?_
      refine wp_block ?_
      obtain ⟨q25, hl, h⟩ := bnd h
      have hp : Hp _ _ _ (Res.loomX 75 5 vl0 vs4 s2 :: Res.rsl (Ek.int .u8) v8 (sbytes s1) :: Res.sl (Ek.int .u8) 5 v6 (List.replicate ((0 : Int)).toNat (0 : Int)) :: ow) := Hp.sel (pre := [Res.rsl (Ek.int .u8) v8 (sbytes s1), Res.sl (Ek.int .u8) 5 v6 (List.replicate ((0 : Int)).toNat (0 : Int)), Res.loomX 75 5 vl0 vs4 s2]) (tail := ow) (rs' := [Res.loomX 75 5 vl0 vs4 s2, Res.rsl (Ek.int .u8) v8 (sbytes s1), Res.sl (Ek.int .u8) 5 v6 (List.replicate ((0 : Int)).toNat (0 : Int))]) hp [2, 0, 1] (by decide) (by simp) rfl
      replace hp : Hp _ _ _ (Res.opt (LoomK 75 5) vl0 (some s2) :: Res.rsl (Ek.int .u8) v8 (sbytes s1) :: Res.sl (Ek.int .u8) 5 v6 (List.replicate ((0 : Int)).toNat (0 : Int)) :: ow) := Hp.loomOut hp
      have hp : Hp _ _ _ (Res.opt (LoomK 75 5) vl0 (some s2) :: Res.sl (Ek.int .u8) 5 v6 (List.replicate ((0 : Int)).toNat (0 : Int)) :: Res.rsl (Ek.int .u8) v8 (sbytes s1) :: ow) := Hp.sel (pre := [Res.opt (LoomK 75 5) vl0 (some s2), Res.rsl (Ek.int .u8) v8 (sbytes s1), Res.sl (Ek.int .u8) 5 v6 (List.replicate ((0 : Int)).toNat (0 : Int))]) (tail := ow) (rs' := [Res.opt (LoomK 75 5) vl0 (some s2), Res.sl (Ek.int .u8) 5 v6 (List.replicate ((0 : Int)).toNat (0 : Int)), Res.rsl (Ek.int .u8) v8 (sbytes s1)]) hp [0, 2, 1] (by decide) (by simp) rfl
      refine wp_loop_pure (f := (f_weave_Loom_Run.s1 s1)) (s := ((some s2), (List.replicate ((0 : Int)).toNat (0 : Int)), (0 : Int))) (fun s a w => ∃ (v12 : Value), Fr 41 a [(0, vl0), (6, v12), (22, v8), (23, .int .i64 ((sbytes s1).length : Int)), (24, .int .i64 s.2.2)] ∧ Hp S w0 w (Res.opt (LoomK 75 5) vl0 s.1 :: Res.sl (Ek.int .u8) 5 v12 s.2.1 :: Res.rsl (Ek.int .u8) v8 (sbytes s1) :: ow)) (fun q e a w => e = .exit 1 ∧ ∃ (v15 : Value), Fr 41 a [(0, vl0), (6, v15)] ∧ Hp S w0 w (Res.opt (LoomK 75 5) vl0 q.1 :: Res.sl (Ek.int .u8) 5 v15 q.2 :: ow)) ?_ hl ⟨_, hf.sub ⟨rfl, rfl, rfl, rfl, rfl, trivial⟩, hp⟩ ?_
      · clear hl hf hp
        intro s x a w h hI
        obtain ⟨l0, out6, t24⟩ := s
        obtain ⟨v12, hf, hp⟩ : ∃ (v12 : Value), Fr 41 a [(0, vl0), (6, v12), (22, v8), (23, .int .i64 ((sbytes s1).length : Int)), (24, .int .i64 t24)] ∧ Hp S w0 w (Res.opt (LoomK 75 5) vl0 l0 :: Res.sl (Ek.int .u8) 5 v12 out6 :: Res.rsl (Ek.int .u8) v8 (sbytes s1) :: ow) := hI
        replace h : f_weave_Loom_Run.s1c s1 l0 out6 t24 = some x := h
        unfold f_weave_Loom_Run.s1c at h
        refine wp_seq ?_
        refine wp_reg ?_
        refine st_ilss hf (by decide) rfl rfl rfl ?_
        clear hf; intro a ha hf; clear ha
        refine st_nil hf ?_
        refine th_n ?_
        refine wp_seq ?_
        refine wp_if hf rfl (fun hb => ?_) (fun hb => ?_)
        · replace h := ifT h hb
          refine wp_skip ?_
          refine th_n ?_
          refine wp_seq ?_
          refine wp_block ?_
          refine wp_seq ?_
          refine wp_reg ?_
          obtain ⟨hc17, h⟩ := chk h
          refine st_index (E := (Ek.int .u8)) hf (by decide) Try.underlying59 elt5 rfl rfl rfl (hp.rsl (i := 2) rfl) hc17.1 hc17.2 ?_
          clear hf; intro a ha hf; clear ha
          refine st_ldI hf (by decide) pl5 rfl rfl (hp.rsl (i := 2) rfl) hc17.1 hc17.2 ?_
          clear hf; intro a ha hf; clear ha
          refine st_assign hf rfl rfl (by decide) ?_
          clear hf; intro a ha hf; clear ha
          refine st_nil hf ?_
          refine th_n ?_
          refine wp_seq ?_
          refine wp_reg ?_
          refine st_move hf rfl rfl (by decide) ?_
          clear hf; intro a ha hf; clear ha
          refine st_move hf rfl rfl (by decide) ?_
          clear hf; intro a ha hf; clear ha
          obtain ⟨q18, hcall19, h⟩ := bnd h
          have hp20 : Hp _ _ _ (Res.opt (LoomK 75 5) vl0 l0 :: Res.sl (Ek.int .u8) 5 v12 out6 :: Res.rsl (Ek.int .u8) v8 (sbytes s1) :: ow) := Hp.sel (pre := [Res.opt (LoomK 75 5) vl0 l0, Res.sl (Ek.int .u8) 5 v12 out6, Res.rsl (Ek.int .u8) v8 (sbytes s1)]) (tail := ow) (rs' := [Res.opt (LoomK 75 5) vl0 l0, Res.sl (Ek.int .u8) 5 v12 out6, Res.rsl (Ek.int .u8) v8 (sbytes s1)]) hp [0, 1, 2] (by decide) (by simp) rfl
          refine st_call hf (by decide) Try.func30 rfl rfl rfl rfl rfl (f_weave_Loom_Push_c _ _ _ hp20 hcall19) ?_
          rintro _ w ⟨rfl, hp0⟩
          clear hp; have hp := hp0; clear hp0
          replace hp : Hp _ _ _ (Res.opt (LoomK 75 5) vl0 q18.2.2 :: Res.sl (Ek.int .u8) 5 v12 out6 :: Res.rsl (Ek.int .u8) v8 (sbytes s1) :: ow) := hp
          refine ⟨_, rfl, ?_⟩
          clear hf; intro a hf
          refine st_move hf rfl rfl (by decide) ?_
          clear hf; intro a ha hf; clear ha
          refine st_extract hf (by decide) rfl rfl rfl ?_
          clear hf; intro a ha hf; clear ha
          refine st_extract hf (by decide) rfl rfl rfl ?_
          clear hf; intro a ha hf; clear ha
          refine st_assign hf rfl rfl (by decide) ?_
          clear hf; intro a ha hf; clear ha
          refine st_assign hf rfl rfl (by decide) ?_
          clear hf; intro a ha hf; clear ha
          refine st_nil hf ?_
          refine th_n ?_
          refine wp_reg ?_
          refine st_move hf rfl rfl (by decide) ?_
          clear hf; intro a ha hf; clear ha
          refine st_move hf rfl rfl (by decide) ?_
          clear hf; intro a ha hf; clear ha
          refine st_build (E := (Ek.int .u8)) (xs := [q18.1]) hf (by decide) elt5 Try.underlying59 hp (vals := #[(0, .int .u8 q18.1)]) (cells := #[.int .u8 q18.1]) rfl (by simp [hf.ev (x := (Operand.tmp 35)) rfl]) (by decide) (by decide) (z := .int .u8 0) (by kernel_rfl) (by kernel_rfl) rfl (reps_cons (cs := [.int .u8 q18.1]) rfl (reps_nil _)) ?_
          clear hf; intro a w v21 hf hp0; clear hp; have hp := hp0; clear hp0
          replace hp : Hp _ _ _ (Res.sl (Ek.int .u8) 5 v21 ([q18.1]) :: Res.opt (LoomK 75 5) vl0 q18.2.2 :: Res.sl (Ek.int .u8) 5 v12 out6 :: Res.rsl (Ek.int .u8) v8 (sbytes s1) :: ow) := hp
          obtain ⟨hc23, h⟩ := chk h
          refine st_append (E := (Ek.int .u8)) hf (by decide) elt5 Try.underlying59 (by decide) hp (i := 2) rfl rfl rfl rfl (hp.sl (i := 0) rfl) hc23 ?_
          clear hf; intro a w v24 hf hp0; clear hp; have hp := hp0; clear hp0
          replace hp : Hp _ _ _ (Res.sl (Ek.int .u8) 5 v21 ([q18.1]) :: Res.opt (LoomK 75 5) vl0 q18.2.2 :: Res.sl (Ek.int .u8) 5 v24 (out6 ++ [q18.1]) :: Res.rsl (Ek.int .u8) v8 (sbytes s1) :: ow) := hp
          refine st_assign hf rfl rfl (by decide) ?_
          clear hf; intro a ha hf; clear ha
          refine st_nil hf ?_
          refine ib_n ?_
          refine th_n ?_
          refine wp_reg ?_
          refine st_iadd hf (by decide) rfl rfl rfl ?_
          clear hf; intro a ha hf; clear ha
          refine st_move hf rfl rfl (by decide) ?_
          clear hf; intro a ha hf; clear ha
          refine st_nil hf ?_
          obtain rfl := Option.some.inj h
          have hp : Hp _ _ _ (Res.opt (LoomK 75 5) vl0 q18.2.2 :: Res.sl (Ek.int .u8) 5 v24 (out6 ++ [q18.1]) :: Res.rsl (Ek.int .u8) v8 (sbytes s1) :: ow) := Hp.sel (pre := [Res.sl (Ek.int .u8) 5 v21 ([q18.1]), Res.opt (LoomK 75 5) vl0 q18.2.2, Res.sl (Ek.int .u8) 5 v24 (out6 ++ [q18.1]), Res.rsl (Ek.int .u8) v8 (sbytes s1)]) (tail := ow) (rs' := [Res.opt (LoomK 75 5) vl0 q18.2.2, Res.sl (Ek.int .u8) 5 v24 (out6 ++ [q18.1]), Res.rsl (Ek.int .u8) v8 (sbytes s1)]) hp [1, 2, 3] (by decide) (by simp) rfl
          exact rnd_l ⟨_, hf.sub ⟨rfl, rfl, rfl, rfl, rfl, trivial⟩, hp⟩
        · replace h := ifF h hb
          refine wp_exit ?_
          refine th_e ?_
          obtain rfl := Option.some.inj h
          have hp : Hp _ _ _ (Res.opt (LoomK 75 5) vl0 l0 :: Res.sl (Ek.int .u8) 5 v12 out6 :: ow) := Hp.sel (pre := [Res.opt (LoomK 75 5) vl0 l0, Res.sl (Ek.int .u8) 5 v12 out6, Res.rsl (Ek.int .u8) v8 (sbytes s1)]) (tail := ow) (rs' := [Res.opt (LoomK 75 5) vl0 l0, Res.sl (Ek.int .u8) 5 v12 out6]) hp [0, 1] (by decide) (by simp) rfl
          exact rnd_r (by simp) ⟨rfl, _, hf.sub ⟨rfl, rfl, trivial⟩, hp⟩
      · clear hl hf hp
        intro e a w hne hO
        obtain ⟨rfl, v15, hf, hp⟩ := hO
        refine ib_same ?_
        refine th_n ?_
        refine wp_seq ?_
        refine wp_reg ?_
        refine st_move hf rfl rfl (by decide) ?_
        clear hf; intro a ha hf; clear ha
        refine st_convBS hf (by decide) Try.underlying59 Try.underlying5 Try.underlying9 rfl rfl (hp.sl (i := 1) rfl) ?_
        clear hf; intro a ha hf; clear ha
        refine st_assign hf rfl rfl (by decide) ?_
        clear hf; intro a ha hf; clear ha
        refine st_assign hf rfl rfl (by decide) ?_
        clear hf; intro a ha hf; clear ha
        refine st_nil hf ?_
        refine th_n ?_
        refine wp_ret ?_
        obtain rfl := Option.some.inj h
        have hp : Hp _ _ _ (Res.opt (LoomK 75 5) vl0 q25.1 :: ow) := Hp.sel (pre := [Res.opt (LoomK 75 5) vl0 q25.1, Res.sl (Ek.int .u8) 5 v15 q25.2]) (tail := ow) (rs' := [Res.opt (LoomK 75 5) vl0 q25.1]) hp [0] (by decide) (by simp) rfl
        exact ⟨rfl, ⟨hf.sub ⟨rfl, rfl, trivial⟩, hp⟩⟩

noncomputable def f_foghornlaw17_awake  : Option Bool := ((f_weave_In ([(ByteArray.mk #[97, 98, 99]), (ByteArray.mk #[100, 101, 102])])).bind fun q3 => ((f_weave_New (2 : Int) (1 : Int)).bind fun q10 => (if (((q3.2 != (0 : Int)) || (q10.2 != (0 : Int))) || (!seq q3.1 (ByteArray.mk #[97, 100, 98, 101, 99, 102]))) = true then (some false) else ((f_weave_Loom_Run q10.1 (ByteArray.mk #[97, 98, 99, 100])).bind fun q18 => (some ((q18.2.1 == (0 : Int)) && (seq q18.1 (ByteArray.mk #[97, 0, 99, 98]))))))))
theorem f_foghornlaw17_awake_c {S : Nat → Prop} {w0 w : World} {ow : List Res} (hp : Hp S w0 w ow) {r : Bool} (h : f_foghornlaw17_awake = some r) :
    Calls Try.prog 36 #[] w (fun e w' => e = .returned (.bool r) ∧ Hp S w0 w' (ow)) := by
  unfold f_foghornlaw17_awake at h
  refine enter (n := 37) (args := []) Try.func36 rfl rfl (Nat.le_of_ble_eq_true rfl) fun a hf => ?_
  replace hf : Fr 37 a [] := hf
  refine wp_mono (Q := fun e a w => e = .ret ∧ Fr 37 a [(0, .bool r)] ∧ Hp S w0 w (ow)) ?_ ?_
  rotate_left
  · rintro e a w ⟨rfl, hf, hp⟩
    exact ret1 hf rfl rfl ⟨rfl, hp⟩
  refine wp_seq ?_
  refine wp_reg ?_
  refine st_assign hf rfl rfl (by decide) ?_
  clear hf; intro a ha hf; clear ha
  refine st_nil hf ?_
  refine th_n ?_
  refine wp_seq ?_
  refine wp_reg ?_
  refine st_build (E := Ek.str) (xs := [(ByteArray.mk #[97, 98, 99]), (ByteArray.mk #[100, 101, 102])]) hf (by decide) elt9 Try.underlying37 hp (vals := #[(0, .string (ByteArray.mk #[97, 98, 99])), (1, .string (ByteArray.mk #[100, 101, 102]))]) (cells := #[.string (ByteArray.mk #[97, 98, 99]), .string (ByteArray.mk #[100, 101, 102])]) rfl (by simp [hf.ev (x := (Operand.const (.string (ByteArray.mk #[97, 98, 99])))) rfl, hf.ev (x := (Operand.const (.string (ByteArray.mk #[100, 101, 102])))) rfl]) (by decide) (by decide) (z := .string ByteArray.empty) (by kernel_rfl) (by kernel_rfl) rfl (reps_cons (cs := [.string (ByteArray.mk #[97, 98, 99])]) rfl (reps_cons (cs := [.string (ByteArray.mk #[100, 101, 102])]) rfl (reps_nil _))) ?_
  clear hf; intro a w v1 hf hp0; clear hp; have hp := hp0; clear hp0
  replace hp : Hp _ _ _ (Res.sl Ek.str 9 v1 ([(ByteArray.mk #[97, 98, 99]), (ByteArray.mk #[100, 101, 102])]) :: ow) := hp
  obtain ⟨q3, hcall4, h⟩ := bnd h
  obtain ⟨S5, hp6, rd7, up8, bk9⟩ := Hp.lendS hp (i := 0) rfl
  refine st_call hf (by decide) Try.func23 rfl rfl rfl rfl rfl (f_weave_In_c hp6 _ _ rd7 hcall4) ?_
  rintro _ w ⟨rfl, hp0⟩
  have hp0 := bk9 _ _ hp0
  clear hp; have hp := hp0; clear hp0
  replace hp : Hp _ _ _ (Res.sl Ek.str 9 v1 ([(ByteArray.mk #[97, 98, 99]), (ByteArray.mk #[100, 101, 102])]) :: ow) := hp
  refine ⟨_, rfl, ?_⟩
  clear hf; intro a hf
  refine st_move hf rfl rfl (by decide) ?_
  clear hf; intro a ha hf; clear ha
  refine st_extract hf (by decide) rfl rfl rfl ?_
  clear hf; intro a ha hf; clear ha
  refine st_extract hf (by decide) rfl rfl rfl ?_
  clear hf; intro a ha hf; clear ha
  refine st_assign hf rfl rfl (by decide) ?_
  clear hf; intro a ha hf; clear ha
  refine st_assign hf rfl rfl (by decide) ?_
  clear hf; intro a ha hf; clear ha
  refine st_nil hf ?_
  refine th_n ?_
  refine wp_seq ?_
  refine wp_reg ?_
  obtain ⟨q10, hcall11, h⟩ := bnd h
  refine st_call hf (by decide) Try.func27 rfl rfl rfl rfl rfl (f_weave_New_c hp _ _ hcall11) ?_
  rintro _ w ⟨v12, rfl, hp0⟩
  clear hp; have hp := hp0; clear hp0
  replace hp : Hp _ _ _ (Res.opt (LoomK 75 5) v12 q10.1 :: Res.sl Ek.str 9 v1 ([(ByteArray.mk #[97, 98, 99]), (ByteArray.mk #[100, 101, 102])]) :: ow) := hp
  refine ⟨_, rfl, ?_⟩
  clear hf; intro a hf
  refine st_move hf rfl rfl (by decide) ?_
  clear hf; intro a ha hf; clear ha
  refine st_extract hf (by decide) rfl rfl rfl ?_
  clear hf; intro a ha hf; clear ha
  refine st_extract hf (by decide) rfl rfl rfl ?_
  clear hf; intro a ha hf; clear ha
  refine st_assign hf rfl rfl (by decide) ?_
  clear hf; intro a ha hf; clear ha
  refine st_assign hf rfl rfl (by decide) ?_
  clear hf; intro a ha hf; clear ha
  refine st_nil hf ?_
  refine th_n ?_
  refine wp_seq ?_
  refine wp_seq ?_
  refine wp_reg ?_
  refine st_move hf rfl rfl (by decide) ?_
  clear hf; intro a ha hf; clear ha
  refine st_ineq hf (by decide) rfl rfl rfl ?_
  clear hf; intro a ha hf; clear ha
  refine st_move hf rfl rfl (by decide) ?_
  clear hf; intro a ha hf; clear ha
  refine wpList_cut 3 (fun a w => Fr 37 a [(1, .string q3.1), (3, v12), (21, .bool ((q3.2 != (0 : Int)) || (q10.2 != (0 : Int))))] ∧ Hp S w0 w (Res.opt (LoomK 75 5) v12 q10.1 :: Res.sl Ek.str 9 v1 ([(ByteArray.mk #[97, 98, 99]), (ByteArray.mk #[100, 101, 102])]) :: ow)) ?_ ?_
  · rcases Bool.eq_false_or_eq_true (q3.2 != (0 : Int)) with hb15 | hb15
    · skip
      refine st_skip hf (wantN hf rfl rfl hb15) rfl (by decide) ?_ rfl
      clear hf; intro a hf
      refine st_skip hf (wantN hf rfl rfl hb15) rfl (by decide) ?_ rfl
      clear hf; intro a hf
      refine st_pick (v := .bool true) hf rfl rfl (fun hb' => ?_) (fun hb' => ?_) (by decide) ?_
      · rfl
      · exact absurd (hb15.symm.trans hb') (by decide)
      clear hf; intro a ha hf; clear ha
      refine st_nil hf (th_n ?_)
      exact ⟨hf.sub ⟨rfl, rfl, (by rw [hb15]; rfl), trivial⟩, hp⟩
    · skip
      refine st_move hf (wantY hf rfl rfl hb15) rfl (by decide) ?_
      clear hf; intro a ha hf; clear ha
      refine st_ineq hf (by decide) (wantY hf rfl rfl hb15) rfl rfl ?_
      clear hf; intro a ha hf; clear ha
      refine st_pick (v := .bool (q10.2 != (0 : Int))) hf rfl rfl (fun hb' => ?_) (fun hb' => ?_) (by decide) ?_
      · exact absurd (hb15.symm.trans hb') (by decide)
      · rfl
      clear hf; intro a ha hf; clear ha
      refine st_nil hf (th_n ?_)
      exact ⟨hf.sub ⟨rfl, rfl, (by rw [hb15]; rfl), trivial⟩, hp⟩
  · rintro a w ⟨hf, hp⟩
    refine st_move hf rfl rfl (by decide) ?_
    clear hf; intro a ha hf; clear ha
    refine wpList_cut 3 (fun a w => Fr 37 a [(3, v12), (25, .bool (((q3.2 != (0 : Int)) || (q10.2 != (0 : Int))) || (!seq q3.1 (ByteArray.mk #[97, 100, 98, 101, 99, 102]))))] ∧ Hp S w0 w (Res.opt (LoomK 75 5) v12 q10.1 :: Res.sl Ek.str 9 v1 ([(ByteArray.mk #[97, 98, 99]), (ByteArray.mk #[100, 101, 102])]) :: ow)) ?_ ?_
    · rcases Bool.eq_false_or_eq_true ((q3.2 != (0 : Int)) || (q10.2 != (0 : Int))) with hb17 | hb17
      · skip
        refine st_skip hf (wantN hf rfl rfl hb17) rfl (by decide) ?_ rfl
        clear hf; intro a hf
        refine st_skip hf (wantN hf rfl rfl hb17) rfl (by decide) ?_ rfl
        clear hf; intro a hf
        refine st_pick (v := .bool true) hf rfl rfl (fun hb' => ?_) (fun hb' => ?_) (by decide) ?_
        · rfl
        · exact absurd (hb17.symm.trans hb') (by decide)
        clear hf; intro a ha hf; clear ha
        refine st_nil hf (th_n ?_)
        exact ⟨hf.sub ⟨rfl, (by rw [hb17]; rfl), trivial⟩, hp⟩
      · skip
        refine st_move hf (wantY hf rfl rfl hb17) rfl (by decide) ?_
        clear hf; intro a ha hf; clear ha
        refine st_sneq hf (by decide) (wantY hf rfl rfl hb17) rfl rfl ?_
        clear hf; intro a ha hf; clear ha
        refine st_pick (v := .bool (!seq q3.1 (ByteArray.mk #[97, 100, 98, 101, 99, 102]))) hf rfl rfl (fun hb' => ?_) (fun hb' => ?_) (by decide) ?_
        · exact absurd (hb17.symm.trans hb') (by decide)
        · rfl
        clear hf; intro a ha hf; clear ha
        refine st_nil hf (th_n ?_)
        exact ⟨hf.sub ⟨rfl, (by rw [hb17]; rfl), trivial⟩, hp⟩
    · rintro a w ⟨hf, hp⟩
      refine st_nil hf ?_
      refine th_n ?_
      refine wp_if hf rfl (fun hb => ?_) (fun hb => ?_)
      · replace h := ifT h hb
        refine wp_seq ?_
        refine wp_reg ?_
        refine st_assign hf rfl rfl (by decide) ?_
        clear hf; intro a ha hf; clear ha
        refine st_nil hf ?_
        refine th_n ?_
        refine wp_ret ?_
        refine th_r ?_
        obtain rfl := Option.some.inj h
        have hp : Hp _ _ _ (ow) := Hp.sel (pre := [Res.opt (LoomK 75 5) v12 q10.1, Res.sl Ek.str 9 v1 ([(ByteArray.mk #[97, 98, 99]), (ByteArray.mk #[100, 101, 102])])]) (tail := ow) (rs' := []) hp [] (by decide) (by simp) rfl
        exact ⟨rfl, ⟨hf.sub ⟨rfl, trivial⟩, hp⟩⟩
      · replace h := ifF h hb
        refine wp_skip ?_
        refine th_n ?_
        refine wp_seq ?_
        refine wp_reg ?_
        refine st_move hf rfl rfl (by decide) ?_
        clear hf; intro a ha hf; clear ha
        obtain ⟨q18, hcall19, h⟩ := bnd h
        have hp20 : Hp _ _ _ (Res.opt (LoomK 75 5) v12 q10.1 :: Res.sl Ek.str 9 v1 ([(ByteArray.mk #[97, 98, 99]), (ByteArray.mk #[100, 101, 102])]) :: ow) := Hp.sel (pre := [Res.opt (LoomK 75 5) v12 q10.1, Res.sl Ek.str 9 v1 ([(ByteArray.mk #[97, 98, 99]), (ByteArray.mk #[100, 101, 102])])]) (tail := ow) (rs' := [Res.opt (LoomK 75 5) v12 q10.1, Res.sl Ek.str 9 v1 ([(ByteArray.mk #[97, 98, 99]), (ByteArray.mk #[100, 101, 102])])]) hp [0, 1] (by decide) (by simp) rfl
        refine st_call hf (by decide) Try.func32 rfl rfl rfl rfl rfl (f_weave_Loom_Run_c _ _ _ hp20 hcall19) ?_
        rintro _ w ⟨rfl, hp0⟩
        clear hp; have hp := hp0; clear hp0
        replace hp : Hp _ _ _ (Res.opt (LoomK 75 5) v12 q18.2.2 :: Res.sl Ek.str 9 v1 ([(ByteArray.mk #[97, 98, 99]), (ByteArray.mk #[100, 101, 102])]) :: ow) := hp
        refine ⟨_, rfl, ?_⟩
        clear hf; intro a hf
        refine st_move hf rfl rfl (by decide) ?_
        clear hf; intro a ha hf; clear ha
        refine st_extract hf (by decide) rfl rfl rfl ?_
        clear hf; intro a ha hf; clear ha
        refine st_extract hf (by decide) rfl rfl rfl ?_
        clear hf; intro a ha hf; clear ha
        refine st_assign hf rfl rfl (by decide) ?_
        clear hf; intro a ha hf; clear ha
        refine st_assign hf rfl rfl (by decide) ?_
        clear hf; intro a ha hf; clear ha
        refine st_nil hf ?_
        refine th_n ?_
        refine wp_seq ?_
        refine wp_reg ?_
        refine st_move hf rfl rfl (by decide) ?_
        clear hf; intro a ha hf; clear ha
        refine st_ieql hf (by decide) rfl rfl rfl ?_
        clear hf; intro a ha hf; clear ha
        refine st_move hf rfl rfl (by decide) ?_
        clear hf; intro a ha hf; clear ha
        refine wpList_cut 3 (fun a w => Fr 37 a [(36, .bool ((q18.2.1 == (0 : Int)) && (seq q18.1 (ByteArray.mk #[97, 0, 99, 98]))))] ∧ Hp S w0 w (Res.opt (LoomK 75 5) v12 q18.2.2 :: Res.sl Ek.str 9 v1 ([(ByteArray.mk #[97, 98, 99]), (ByteArray.mk #[100, 101, 102])]) :: ow)) ?_ ?_
        · rcases Bool.eq_false_or_eq_true (q18.2.1 == (0 : Int)) with hb22 | hb22
          · skip
            refine st_move hf (wantY hf rfl rfl hb22) rfl (by decide) ?_
            clear hf; intro a ha hf; clear ha
            refine st_seql hf (by decide) (wantY hf rfl rfl hb22) rfl rfl ?_
            clear hf; intro a ha hf; clear ha
            refine st_pick (v := .bool (seq q18.1 (ByteArray.mk #[97, 0, 99, 98]))) hf rfl rfl (fun hb' => ?_) (fun hb' => ?_) (by decide) ?_
            · rfl
            · exact absurd (hb22.symm.trans hb') (by decide)
            clear hf; intro a ha hf; clear ha
            refine st_nil hf (th_n ?_)
            exact ⟨hf.sub ⟨(by rw [hb22]; rfl), trivial⟩, hp⟩
          · skip
            refine st_skip hf (wantN hf rfl rfl hb22) rfl (by decide) ?_ rfl
            clear hf; intro a hf
            refine st_skip hf (wantN hf rfl rfl hb22) rfl (by decide) ?_ rfl
            clear hf; intro a hf
            refine st_pick (v := .bool false) hf rfl rfl (fun hb' => ?_) (fun hb' => ?_) (by decide) ?_
            · exact absurd (hb22.symm.trans hb') (by decide)
            · rfl
            clear hf; intro a ha hf; clear ha
            refine st_nil hf (th_n ?_)
            exact ⟨hf.sub ⟨(by rw [hb22]; rfl), trivial⟩, hp⟩
        · rintro a w ⟨hf, hp⟩
          refine st_assign hf rfl rfl (by decide) ?_
          clear hf; intro a ha hf; clear ha
          refine st_nil hf ?_
          refine th_n ?_
          refine wp_ret ?_
          obtain rfl := Option.some.inj h
          have hp : Hp _ _ _ (ow) := Hp.sel (pre := [Res.opt (LoomK 75 5) v12 q18.2.2, Res.sl Ek.str 9 v1 ([(ByteArray.mk #[97, 98, 99]), (ByteArray.mk #[100, 101, 102])])]) (tail := ow) (rs' := []) hp [] (by decide) (by simp) rfl
          exact ⟨rfl, ⟨hf.sub ⟨rfl, trivial⟩, hp⟩⟩

noncomputable def f_weave_Out.s2c (s0 : ByteArray) (count1 : Int) (b8 : (List Int)) (at9 : Int) : Option (((List Int) × Int) ⊕ (List Int)) := (if (decide (at9 < (s0.size : Int))) = true then (if 0 ≤ at9 ∧ at9 < (s0.size : Int) then (if (b8.length + ([(bt s0 at9)]).length) * 1 ≤ 140737488355328 then (some (Sum.inl ((b8 ++ [(bt s0 at9)]), (IntKind.i64.wrap (at9 + count1))))) else none) else none) else (some (Sum.inr b8)))
noncomputable def f_weave_Out.s2 (s0 : ByteArray) (count1 : Int) (s : ((List Int) × Int)) : Option (((List Int) × Int) ⊕ (List Int)) := f_weave_Out.s2c s0 count1 s.1 s.2
noncomputable def f_weave_Out.s1c (s0 : ByteArray) (count1 : Int) (words6 : (List ByteArray)) (t35 : Int) : Option (((List ByteArray) × Int) ⊕ (List ByteArray)) := (if (decide (t35 < count1)) = true then (if count1 ≠ 0 then (if 0 ≤ (0 : Int) ∧ (0 : Int) ≤ (IntKind.i64.wrap (((s0.size : Int)).tdiv count1)) ∧ (IntKind.i64.wrap (((s0.size : Int)).tdiv count1)) * 1 ≤ 281474976710656 then ((loop (f_weave_Out.s2 s0 count1) ((List.replicate ((0 : Int)).toNat (0 : Int)), t35)).bind (fun q34 => (if (words6.length + ([(bstr q34)]).length) * 16 ≤ 140737488355328 then (some (Sum.inl ((words6 ++ [(bstr q34)]), (IntKind.i64.wrap (t35 + (1 : Int)))))) else none))) else none) else none) else (some (Sum.inr words6)))
noncomputable def f_weave_Out.s1 (s0 : ByteArray) (count1 : Int) (s : ((List ByteArray) × Int)) : Option (((List ByteArray) × Int) ⊕ (List ByteArray)) := f_weave_Out.s1c s0 count1 s.1 s.2
noncomputable def f_weave_Out (s0 : ByteArray) (count1 : Int) : Option ((List ByteArray) × Int) := ((if ((decide (count1 < (1 : Int))) || (decide ((255 : Int) < count1))) = true then (some true) else (if count1 ≠ 0 then (some ((((s0.size : Int)).tmod count1) != (0 : Int))) else none)).bind fun z5 => ((if z5 = true then (some true) else (if count1 ≠ 0 then ((f_weave_may count1 (IntKind.i64.wrap (((s0.size : Int)).tdiv count1))).bind fun q11 => (some (!q11))) else none)).bind fun z9 => (if z9 = true then (some ([], (1 : Int))) else (if 0 ≤ (0 : Int) ∧ (0 : Int) ≤ count1 ∧ count1 * 16 ≤ 281474976710656 then ((loop (f_weave_Out.s1 s0 count1) ((List.replicate ((0 : Int)).toNat ByteArray.empty), (0 : Int))).bind (fun q39 => (some (q39, (0 : Int))))) else none))))
theorem f_weave_Out_c {S : Nat → Prop} {w0 w : World} {ow : List Res} (hp : Hp S w0 w ow) (s0 : ByteArray) (count1 : Int) {r : ((List ByteArray) × Int)} (h : f_weave_Out s0 count1 = some r) :
    Calls Try.prog 26 #[.string s0, .int .i64 count1] w (fun e w' => ∃ (u0 : Value), e = .returned (.tuple #[u0, .int .i64 r.2]) ∧ Hp S w0 w' (Res.sl Ek.str 9 u0 r.1 :: ow)) := by
  unfold f_weave_Out at h
  refine enter (n := 64) (args := [.string s0, .int .i64 count1]) Try.func26 rfl rfl (Nat.le_of_ble_eq_true rfl) fun a hf => ?_
  replace hf : Fr 64 a [(0, .string s0), (1, .int .i64 count1)] := hf
  refine wp_mono (Q := fun e a w => e = .ret ∧ ∃ (u0 : Value), Fr 64 a [(4, u0), (5, .int .i64 r.2)] ∧ Hp S w0 w (Res.sl Ek.str 9 u0 r.1 :: ow)) ?_ ?_
  rotate_left
  · rintro e a w ⟨rfl, x0, hf, hp⟩
    exact ret2 hf rfl rfl rfl ⟨x0, rfl, hp⟩
  refine wp_seq ?_
  refine wp_reg ?_
  refine st_assign hf rfl rfl (by decide) ?_
  clear hf; intro a ha hf; clear ha
  refine st_assign hf rfl rfl (by decide) ?_
  clear hf; intro a ha hf; clear ha
  refine st_nil hf ?_
  refine th_n ?_
  refine wp_seq ?_
  refine wp_seq ?_
  refine wp_reg ?_
  refine st_move hf rfl rfl (by decide) ?_
  clear hf; intro a ha hf; clear ha
  refine st_ilss hf (by decide) rfl rfl rfl ?_
  clear hf; intro a ha hf; clear ha
  refine st_move hf rfl rfl (by decide) ?_
  clear hf; intro a ha hf; clear ha
  refine wpList_cut 3 (fun a w => Fr 64 a [(0, .string s0), (1, .int .i64 count1), (15, .bool ((decide (count1 < (1 : Int))) || (decide ((255 : Int) < count1))))] ∧ Hp S w0 w (ow)) ?_ ?_
  · rcases Bool.eq_false_or_eq_true (decide (count1 < (1 : Int))) with hb2 | hb2
    · skip
      refine st_skip hf (wantN hf rfl rfl hb2) rfl (by decide) ?_ rfl
      clear hf; intro a hf
      refine st_skip hf (wantN hf rfl rfl hb2) rfl (by decide) ?_ rfl
      clear hf; intro a hf
      refine st_pick (v := .bool true) hf rfl rfl (fun hb' => ?_) (fun hb' => ?_) (by decide) ?_
      · rfl
      · exact absurd (hb2.symm.trans hb') (by decide)
      clear hf; intro a ha hf; clear ha
      refine st_nil hf (th_n ?_)
      exact ⟨hf.sub ⟨rfl, rfl, (by rw [hb2]; rfl), trivial⟩, hp⟩
    · skip
      refine st_move hf (wantY hf rfl rfl hb2) rfl (by decide) ?_
      clear hf; intro a ha hf; clear ha
      refine st_igtr hf (by decide) (wantY hf rfl rfl hb2) rfl rfl ?_
      clear hf; intro a ha hf; clear ha
      refine st_pick (v := .bool (decide ((255 : Int) < count1))) hf rfl rfl (fun hb' => ?_) (fun hb' => ?_) (by decide) ?_
      · exact absurd (hb2.symm.trans hb') (by decide)
      · rfl
      clear hf; intro a ha hf; clear ha
      refine st_nil hf (th_n ?_)
      exact ⟨hf.sub ⟨rfl, rfl, (by rw [hb2]; rfl), trivial⟩, hp⟩
  · rintro a w ⟨hf, hp⟩
    refine st_move hf rfl rfl (by decide) ?_
    clear hf; intro a ha hf; clear ha
    obtain ⟨z5, hz3, h⟩ := bnd h
    refine wpList_cut 6 (fun a w => Fr 64 a [(0, .string s0), (1, .int .i64 count1), (22, .bool z5)] ∧ Hp S w0 w (ow)) ?_ ?_
    · rcases Bool.eq_false_or_eq_true ((decide (count1 < (1 : Int))) || (decide ((255 : Int) < count1))) with hb4 | hb4
      · skip
        replace hz3 := ifT hz3 hb4
        refine st_skip hf (wantN hf rfl rfl hb4) rfl (by decide) ?_ rfl
        clear hf; intro a hf
        refine st_skip hf (wantN hf rfl rfl hb4) rfl (by decide) ?_ rfl
        clear hf; intro a hf
        refine st_skip hf (wantN hf rfl rfl hb4) rfl (by decide) ?_ rfl
        clear hf; intro a hf
        refine st_skip hf (wantN hf rfl rfl hb4) rfl (by decide) ?_ rfl
        clear hf; intro a hf
        refine st_skip hf (wantN hf rfl rfl hb4) rfl (by decide) ?_ rfl
        clear hf; intro a hf
        obtain rfl := Option.some.inj hz3
        refine st_pick (v := .bool true) hf rfl rfl (fun hb' => ?_) (fun hb' => ?_) (by decide) ?_
        · rfl
        · exact absurd (hb4.symm.trans hb') (by decide)
        clear hf; intro a ha hf; clear ha
        refine st_nil hf (th_n ?_)
        exact ⟨hf.sub ⟨rfl, rfl, rfl, trivial⟩, hp⟩
      · skip
        replace hz3 := ifF hz3 hb4
        refine st_move hf (wantY hf rfl rfl hb4) rfl (by decide) ?_
        clear hf; intro a ha hf; clear ha
        refine st_slen hf (by decide) Try.underlying9 (wantY hf rfl rfl hb4) rfl ?_
        clear hf; intro a ha hf; clear ha
        refine st_move hf (wantY hf rfl rfl hb4) rfl (by decide) ?_
        clear hf; intro a ha hf; clear ha
        obtain ⟨hc6, hz3⟩ := chk hz3
        refine st_irem hf (by decide) (wantY hf rfl rfl hb4) rfl rfl hc6 ?_
        clear hf; intro a ha hf; clear ha
        refine st_ineq hf (by decide) (wantY hf rfl rfl hb4) rfl rfl ?_
        clear hf; intro a ha hf; clear ha
        obtain rfl := Option.some.inj hz3
        refine st_pick (v := .bool ((((s0.size : Int)).tmod count1) != (0 : Int))) hf rfl rfl (fun hb' => ?_) (fun hb' => ?_) (by decide) ?_
        · exact absurd (hb4.symm.trans hb') (by decide)
        · rfl
        clear hf; intro a ha hf; clear ha
        refine st_nil hf (th_n ?_)
        exact ⟨hf.sub ⟨rfl, rfl, rfl, trivial⟩, hp⟩
    · rintro a w ⟨hf, hp⟩
      refine st_move hf rfl rfl (by decide) ?_
      clear hf; intro a ha hf; clear ha
      obtain ⟨z9, hz7, h⟩ := bnd h
      refine wpList_cut 8 (fun a w => Fr 64 a [(0, .string s0), (1, .int .i64 count1), (31, .bool z9)] ∧ Hp S w0 w (ow)) ?_ ?_
      · rcases Bool.eq_false_or_eq_true z5 with hb8 | hb8
        · skip
          replace hz7 := ifT hz7 hb8
          refine st_skip hf (wantN hf rfl rfl hb8) rfl (by decide) ?_ rfl
          clear hf; intro a hf
          refine st_skip hf (wantN hf rfl rfl hb8) rfl (by decide) ?_ rfl
          clear hf; intro a hf
          refine st_skip hf (wantN hf rfl rfl hb8) rfl (by decide) ?_ rfl
          clear hf; intro a hf
          refine st_skip hf (wantN hf rfl rfl hb8) rfl (by decide) ?_ rfl
          clear hf; intro a hf
          refine st_skip hf (wantN hf rfl rfl hb8) rfl (by decide) ?_ rfl
          clear hf; intro a hf
          refine st_skip hf (wantN hf rfl rfl hb8) rfl (by decide) ?_ rfl
          clear hf; intro a hf
          refine st_skip hf (wantN hf rfl rfl hb8) rfl (by decide) ?_ rfl
          clear hf; intro a hf
          obtain rfl := Option.some.inj hz7
          refine st_pick (v := .bool true) hf rfl rfl (fun hb' => ?_) (fun hb' => ?_) (by decide) ?_
          · rfl
          · exact absurd (hb8.symm.trans hb') (by decide)
          clear hf; intro a ha hf; clear ha
          refine st_nil hf (th_n ?_)
          exact ⟨hf.sub ⟨rfl, rfl, rfl, trivial⟩, hp⟩
        · skip
          replace hz7 := ifF hz7 hb8
          refine st_move hf (wantY hf rfl rfl hb8) rfl (by decide) ?_
          clear hf; intro a ha hf; clear ha
          refine st_move hf (wantY hf rfl rfl hb8) rfl (by decide) ?_
          clear hf; intro a ha hf; clear ha
          refine st_slen hf (by decide) Try.underlying9 (wantY hf rfl rfl hb8) rfl ?_
          clear hf; intro a ha hf; clear ha
          refine st_move hf (wantY hf rfl rfl hb8) rfl (by decide) ?_
          clear hf; intro a ha hf; clear ha
          obtain ⟨hc10, hz7⟩ := chk hz7
          refine st_iquo hf (by decide) (wantY hf rfl rfl hb8) rfl rfl hc10 ?_
          clear hf; intro a ha hf; clear ha
          obtain ⟨q11, hcall12, hz7⟩ := bnd hz7
          refine st_call hf (by decide) Try.func38 rfl rfl (wantY hf rfl rfl hb8) rfl rfl (f_weave_may_c hp _ _ hcall12) ?_
          rintro _ w ⟨rfl, hp0⟩
          clear hp; have hp := hp0; clear hp0
          replace hp : Hp _ _ _ (ow) := hp
          refine ⟨_, rfl, ?_⟩
          clear hf; intro a hf
          refine st_not hf (by decide) (wantY hf rfl rfl hb8) rfl ?_
          clear hf; intro a ha hf; clear ha
          obtain rfl := Option.some.inj hz7
          refine st_pick (v := .bool (!q11)) hf rfl rfl (fun hb' => ?_) (fun hb' => ?_) (by decide) ?_
          · exact absurd (hb8.symm.trans hb') (by decide)
          · rfl
          clear hf; intro a ha hf; clear ha
          refine st_nil hf (th_n ?_)
          exact ⟨hf.sub ⟨rfl, rfl, rfl, trivial⟩, hp⟩
      · rintro a w ⟨hf, hp⟩
        refine st_nil hf ?_
        refine th_n ?_
        refine wp_if hf rfl (fun hb => ?_) (fun hb => ?_)
        · replace h := ifT h hb
          refine wp_seq ?_
          refine wp_reg ?_
          refine st_assign hf rfl rfl (by decide) ?_
          clear hf; intro a ha hf; clear ha
          refine st_assign hf rfl rfl (by decide) ?_
          clear hf; intro a ha hf; clear ha
          refine st_nil hf ?_
          refine th_n ?_
          refine wp_ret ?_
          refine th_r ?_
          obtain rfl := Option.some.inj h
          have hp := hp.nil Ek.str 9
          exact ⟨rfl, ⟨_, hf.sub ⟨rfl, rfl, trivial⟩, hp⟩⟩
        · replace h := ifF h hb
          refine wp_skip ?_
          refine th_n ?_
          refine wp_seq ?_
          refine wp_reg ?_
          refine st_move hf rfl rfl (by decide) ?_
          clear hf; intro a ha hf; clear ha
          obtain ⟨hc14, h⟩ := chk h
          refine st_make (E := Ek.str) hf (by decide) elt9 Try.underlying37 (by decide) hp rfl rfl rfl hc14.1 hc14.2.1 hc14.2.2 ?_
          clear hf; intro a w v15 hf hp0; clear hp; have hp := hp0; clear hp0
          replace hp : Hp _ _ _ (Res.sl Ek.str 9 v15 (List.replicate ((0 : Int)).toNat ByteArray.empty) :: ow) := hp
          refine st_assign hf rfl rfl (by decide) ?_
          clear hf; intro a ha hf; clear ha
          refine st_nil hf ?_
          refine th_n ?_
          refine wp_seq ?_
          refine wp_seq ?_
          refine wp_reg ?_
          refine st_move hf rfl rfl (by decide) ?_
          clear hf; intro a ha hf; clear ha
          refine st_move hf rfl rfl (by decide) ?_
          clear hf; intro a ha hf; clear ha
          refine st_nil hf ?_
          refine th_n ?_
          refine wp_block ?_
          obtain ⟨q39, hl, h⟩ := bnd h
          refine wp_loop_pure (f := (f_weave_Out.s1 s0 count1)) (s := ((List.replicate ((0 : Int)).toNat ByteArray.empty), (0 : Int))) (fun s a w => ∃ (v17 : Value), Fr 64 a [(0, .string s0), (1, .int .i64 count1), (6, v17), (34, .int .i64 count1), (35, .int .i64 s.2)] ∧ Hp S w0 w (Res.sl Ek.str 9 v17 s.1 :: ow)) (fun q e a w => e = .exit 0 ∧ ∃ (v19 : Value), Fr 64 a [(6, v19)] ∧ Hp S w0 w (Res.sl Ek.str 9 v19 q :: ow)) ?_ hl ⟨_, hf.sub ⟨rfl, rfl, rfl, rfl, rfl, trivial⟩, hp⟩ ?_
          · clear hl hf hp
            intro s x a w h hI
            obtain ⟨words6, t35⟩ := s
            obtain ⟨v17, hf, hp⟩ : ∃ (v17 : Value), Fr 64 a [(0, .string s0), (1, .int .i64 count1), (6, v17), (34, .int .i64 count1), (35, .int .i64 t35)] ∧ Hp S w0 w (Res.sl Ek.str 9 v17 words6 :: ow) := hI
            replace h : f_weave_Out.s1c s0 count1 words6 t35 = some x := h
            unfold f_weave_Out.s1c at h
            refine wp_seq ?_
            refine wp_reg ?_
            refine st_ilss hf (by decide) rfl rfl rfl ?_
            clear hf; intro a ha hf; clear ha
            refine st_nil hf ?_
            refine th_n ?_
            refine wp_seq ?_
            refine wp_if hf rfl (fun hb => ?_) (fun hb => ?_)
            · replace h := ifT h hb
              refine wp_skip ?_
              refine th_n ?_
              refine wp_seq ?_
              refine wp_block ?_
              refine wp_seq ?_
              refine wp_reg ?_
              refine st_move hf rfl rfl (by decide) ?_
              clear hf; intro a ha hf; clear ha
              refine st_assign hf rfl rfl (by decide) ?_
              clear hf; intro a ha hf; clear ha
              refine st_nil hf ?_
              refine th_n ?_
              refine wp_seq ?_
              refine wp_reg ?_
              refine st_move hf rfl rfl (by decide) ?_
              clear hf; intro a ha hf; clear ha
              refine st_slen hf (by decide) Try.underlying9 rfl rfl ?_
              clear hf; intro a ha hf; clear ha
              refine st_move hf rfl rfl (by decide) ?_
              clear hf; intro a ha hf; clear ha
              obtain ⟨hc21, h⟩ := chk h
              refine st_iquo hf (by decide) rfl rfl rfl hc21 ?_
              clear hf; intro a ha hf; clear ha
              obtain ⟨hc22, h⟩ := chk h
              refine st_make (E := (Ek.int .u8)) hf (by decide) elt5 Try.underlying59 (by decide) hp rfl rfl rfl hc22.1 hc22.2.1 hc22.2.2 ?_
              clear hf; intro a w v23 hf hp0; clear hp; have hp := hp0; clear hp0
              replace hp : Hp _ _ _ (Res.sl (Ek.int .u8) 5 v23 (List.replicate ((0 : Int)).toNat (0 : Int)) :: Res.sl Ek.str 9 v17 words6 :: ow) := hp
              refine st_assign hf rfl rfl (by decide) ?_
              clear hf; intro a ha hf; clear ha
              refine st_nil hf ?_
              refine th_n ?_
              refine wp_seq ?_
              refine wp_seq ?_
              refine wp_reg ?_
              refine st_move hf rfl rfl (by decide) ?_
              clear hf; intro a ha hf; clear ha
              refine st_assign hf rfl rfl (by decide) ?_
              clear hf; intro a ha hf; clear ha
              refine st_nil hf ?_
              refine th_n ?_
              refine wp_block ?_
              obtain ⟨q34, hl, h⟩ := bnd h
              refine wp_loop_pure (f := (f_weave_Out.s2 s0 count1)) (s := ((List.replicate ((0 : Int)).toNat (0 : Int)), t35)) (fun s a w => ∃ (v25 : Value), Fr 64 a [(0, .string s0), (1, .int .i64 count1), (6, v17), (8, v25), (9, .int .i64 s.2), (34, .int .i64 count1), (35, .int .i64 t35)] ∧ Hp S w0 w (Res.sl (Ek.int .u8) 5 v25 s.1 :: Res.sl Ek.str 9 v17 words6 :: ow)) (fun q e a w => e = .exit 2 ∧ ∃ (v27 : Value), Fr 64 a [(0, .string s0), (1, .int .i64 count1), (6, v17), (8, v27), (34, .int .i64 count1), (35, .int .i64 t35)] ∧ Hp S w0 w (Res.sl (Ek.int .u8) 5 v27 q :: Res.sl Ek.str 9 v17 words6 :: ow)) ?_ hl ⟨_, hf.sub ⟨rfl, rfl, rfl, rfl, rfl, rfl, rfl, trivial⟩, hp⟩ ?_
              · clear hl hf hp
                intro s x a w h hI
                obtain ⟨b8, at9⟩ := s
                obtain ⟨v25, hf, hp⟩ : ∃ (v25 : Value), Fr 64 a [(0, .string s0), (1, .int .i64 count1), (6, v17), (8, v25), (9, .int .i64 at9), (34, .int .i64 count1), (35, .int .i64 t35)] ∧ Hp S w0 w (Res.sl (Ek.int .u8) 5 v25 b8 :: Res.sl Ek.str 9 v17 words6 :: ow) := hI
                replace h : f_weave_Out.s2c s0 count1 b8 at9 = some x := h
                unfold f_weave_Out.s2c at h
                refine wp_seq ?_
                refine wp_seq ?_
                refine wp_reg ?_
                refine st_move hf rfl rfl (by decide) ?_
                clear hf; intro a ha hf; clear ha
                refine st_move hf rfl rfl (by decide) ?_
                clear hf; intro a ha hf; clear ha
                refine st_slen hf (by decide) Try.underlying9 rfl rfl ?_
                clear hf; intro a ha hf; clear ha
                refine st_ilss hf (by decide) rfl rfl rfl ?_
                clear hf; intro a ha hf; clear ha
                refine st_nil hf ?_
                refine th_n ?_
                refine wp_if hf rfl (fun hb => ?_) (fun hb => ?_)
                · replace h := ifT h hb
                  refine wp_skip ?_
                  refine th_n ?_
                  refine wp_seq ?_
                  refine wp_block ?_
                  refine wp_reg ?_
                  refine st_move hf rfl rfl (by decide) ?_
                  clear hf; intro a ha hf; clear ha
                  refine st_move hf rfl rfl (by decide) ?_
                  clear hf; intro a ha hf; clear ha
                  refine st_move hf rfl rfl (by decide) ?_
                  clear hf; intro a ha hf; clear ha
                  obtain ⟨hc29, h⟩ := chk h
                  refine st_sidx hf (by decide) Try.underlying9 rfl rfl rfl hc29.1 hc29.2 ?_
                  clear hf; intro a ha hf; clear ha
                  refine st_build (E := (Ek.int .u8)) (xs := [(bt s0 at9)]) hf (by decide) elt5 Try.underlying59 hp (vals := #[(0, .int .u8 (bt s0 at9))]) (cells := #[.int .u8 (bt s0 at9)]) rfl (by simp [hf.ev (x := (Operand.tmp 54)) rfl]) (by decide) (by decide) (z := .int .u8 0) (by kernel_rfl) (by kernel_rfl) rfl (reps_cons (cs := [.int .u8 (bt s0 at9)]) rfl (reps_nil _)) ?_
                  clear hf; intro a w v30 hf hp0; clear hp; have hp := hp0; clear hp0
                  replace hp : Hp _ _ _ (Res.sl (Ek.int .u8) 5 v30 ([(bt s0 at9)]) :: Res.sl (Ek.int .u8) 5 v25 b8 :: Res.sl Ek.str 9 v17 words6 :: ow) := hp
                  obtain ⟨hc32, h⟩ := chk h
                  refine st_append (E := (Ek.int .u8)) hf (by decide) elt5 Try.underlying59 (by decide) hp (i := 1) rfl rfl rfl rfl (hp.sl (i := 0) rfl) hc32 ?_
                  clear hf; intro a w v33 hf hp0; clear hp; have hp := hp0; clear hp0
                  replace hp : Hp _ _ _ (Res.sl (Ek.int .u8) 5 v30 ([(bt s0 at9)]) :: Res.sl (Ek.int .u8) 5 v33 (b8 ++ [(bt s0 at9)]) :: Res.sl Ek.str 9 v17 words6 :: ow) := hp
                  refine st_assign hf rfl rfl (by decide) ?_
                  clear hf; intro a ha hf; clear ha
                  refine st_nil hf ?_
                  refine ib_n ?_
                  refine th_n ?_
                  refine wp_reg ?_
                  refine st_move hf rfl rfl (by decide) ?_
                  clear hf; intro a ha hf; clear ha
                  refine st_move hf rfl rfl (by decide) ?_
                  clear hf; intro a ha hf; clear ha
                  refine st_iadd hf (by decide) rfl rfl rfl ?_
                  clear hf; intro a ha hf; clear ha
                  refine st_assign hf rfl rfl (by decide) ?_
                  clear hf; intro a ha hf; clear ha
                  refine st_nil hf ?_
                  obtain rfl := Option.some.inj h
                  have hp : Hp _ _ _ (Res.sl (Ek.int .u8) 5 v33 (b8 ++ [(bt s0 at9)]) :: Res.sl Ek.str 9 v17 words6 :: ow) := Hp.sel (pre := [Res.sl (Ek.int .u8) 5 v30 ([(bt s0 at9)]), Res.sl (Ek.int .u8) 5 v33 (b8 ++ [(bt s0 at9)]), Res.sl Ek.str 9 v17 words6]) (tail := ow) (rs' := [Res.sl (Ek.int .u8) 5 v33 (b8 ++ [(bt s0 at9)]), Res.sl Ek.str 9 v17 words6]) hp [1, 2] (by decide) (by simp) rfl
                  exact rnd_l ⟨_, hf.sub ⟨rfl, rfl, rfl, rfl, rfl, rfl, rfl, trivial⟩, hp⟩
                · replace h := ifF h hb
                  refine wp_exit ?_
                  refine th_e ?_
                  obtain rfl := Option.some.inj h
                  exact rnd_r (by simp) ⟨rfl, _, hf.sub ⟨rfl, rfl, rfl, rfl, rfl, rfl, trivial⟩, hp⟩
              · clear hl hf hp
                intro e a w hne hO
                obtain ⟨rfl, v27, hf, hp⟩ := hO
                refine ib_same ?_
                refine th_n ?_
                refine wp_reg ?_
                refine st_move hf rfl rfl (by decide) ?_
                clear hf; intro a ha hf; clear ha
                refine st_move hf rfl rfl (by decide) ?_
                clear hf; intro a ha hf; clear ha
                refine st_convBS hf (by decide) Try.underlying59 Try.underlying5 Try.underlying9 rfl rfl (hp.sl (i := 0) rfl) ?_
                clear hf; intro a ha hf; clear ha
                refine st_build (E := Ek.str) (xs := [(bstr q34)]) hf (by decide) elt9 Try.underlying37 hp (vals := #[(0, .string (bstr q34))]) (cells := #[.string (bstr q34)]) rfl (by simp [hf.ev (x := (Operand.tmp 59)) rfl]) (by decide) (by decide) (z := .string ByteArray.empty) (by kernel_rfl) (by kernel_rfl) rfl (reps_cons (cs := [.string (bstr q34)]) rfl (reps_nil _)) ?_
                clear hf; intro a w v35 hf hp0; clear hp; have hp := hp0; clear hp0
                replace hp : Hp _ _ _ (Res.sl Ek.str 9 v35 ([(bstr q34)]) :: Res.sl (Ek.int .u8) 5 v27 q34 :: Res.sl Ek.str 9 v17 words6 :: ow) := hp
                obtain ⟨hc37, h⟩ := chk h
                refine st_append (E := Ek.str) hf (by decide) elt9 Try.underlying37 (by decide) hp (i := 2) rfl rfl rfl rfl (hp.sl (i := 0) rfl) hc37 ?_
                clear hf; intro a w v38 hf hp0; clear hp; have hp := hp0; clear hp0
                replace hp : Hp _ _ _ (Res.sl Ek.str 9 v35 ([(bstr q34)]) :: Res.sl (Ek.int .u8) 5 v27 q34 :: Res.sl Ek.str 9 v38 (words6 ++ [(bstr q34)]) :: ow) := hp
                refine st_assign hf rfl rfl (by decide) ?_
                clear hf; intro a ha hf; clear ha
                refine st_nil hf ?_
                refine ib_n ?_
                refine th_n ?_
                refine wp_reg ?_
                refine st_iadd hf (by decide) rfl rfl rfl ?_
                clear hf; intro a ha hf; clear ha
                refine st_move hf rfl rfl (by decide) ?_
                clear hf; intro a ha hf; clear ha
                refine st_nil hf ?_
                obtain rfl := Option.some.inj h
                have hp : Hp _ _ _ (Res.sl Ek.str 9 v38 (words6 ++ [(bstr q34)]) :: ow) := Hp.sel (pre := [Res.sl Ek.str 9 v35 ([(bstr q34)]), Res.sl (Ek.int .u8) 5 v27 q34, Res.sl Ek.str 9 v38 (words6 ++ [(bstr q34)])]) (tail := ow) (rs' := [Res.sl Ek.str 9 v38 (words6 ++ [(bstr q34)])]) hp [2] (by decide) (by simp) rfl
                exact rnd_l ⟨_, hf.sub ⟨rfl, rfl, rfl, rfl, rfl, trivial⟩, hp⟩
            · replace h := ifF h hb
              refine wp_exit ?_
              refine th_e ?_
              obtain rfl := Option.some.inj h
              exact rnd_r (by simp) ⟨rfl, _, hf.sub ⟨rfl, trivial⟩, hp⟩
          · clear hl hf hp
            intro e a w hne hO
            obtain ⟨rfl, v19, hf, hp⟩ := hO
            refine ib_same ?_
            refine th_n ?_
            refine wp_seq ?_
            refine wp_reg ?_
            refine st_move hf rfl rfl (by decide) ?_
            clear hf; intro a ha hf; clear ha
            refine st_assign hf rfl rfl (by decide) ?_
            clear hf; intro a ha hf; clear ha
            refine st_assign hf rfl rfl (by decide) ?_
            clear hf; intro a ha hf; clear ha
            refine st_nil hf ?_
            refine th_n ?_
            refine wp_ret ?_
            obtain rfl := Option.some.inj h
            exact ⟨rfl, ⟨_, hf.sub ⟨rfl, rfl, trivial⟩, hp⟩⟩

noncomputable def f_foghornref17_Texts.s1c (a0 : (List ByteArray)) (b1 : (List ByteArray)) (i5 : Int) : Option (Int ⊕ (Unit ⊕ Bool)) := (if (decide (i5 < (a0.length : Int))) = true then (if 0 ≤ i5 ∧ i5 < (a0.length : Int) then (if 0 ≤ i5 ∧ i5 < (b1.length : Int) then (if (!seq (gt a0 i5) (gt b1 i5)) = true then (some (Sum.inr (Sum.inr false))) else (some (Sum.inl (IntKind.i64.wrap (i5 + (1 : Int)))))) else none) else none) else (some (Sum.inr (Sum.inl ()))))
noncomputable def f_foghornref17_Texts.s1 (a0 : (List ByteArray)) (b1 : (List ByteArray)) (s : Int) : Option (Int ⊕ (Unit ⊕ Bool)) := f_foghornref17_Texts.s1c a0 b1 s
noncomputable def f_foghornref17_Texts (a0 : (List ByteArray)) (b1 : (List ByteArray)) : Option Bool := (if ((a0.length : Int) != (b1.length : Int)) = true then (some false) else ((loop (f_foghornref17_Texts.s1 a0 b1) (0 : Int)).bind (fun q3 => sm q3 (fun q4 => (some true)) (fun q5 => (some q5)))))
theorem f_foghornref17_Texts_c {S : Nat → Prop} {w0 w : World} {ow : List Res} (hp : Hp S w0 w ow) (va0 : Value) (a0 : (List ByteArray)) (ha0 : RdS Ek.str S w0 va0 a0) (vb1 : Value) (b1 : (List ByteArray)) (hb1 : RdS Ek.str S w0 vb1 b1) {r : Bool} (h : f_foghornref17_Texts a0 b1 = some r) :
    Calls Try.prog 24 #[va0, vb1] w (fun e w' => e = .returned (.bool r) ∧ Hp S w0 w' (ow)) := by
  unfold f_foghornref17_Texts at h
  refine enter (n := 26) (args := [va0, vb1]) Try.func24 rfl rfl (Nat.le_of_ble_eq_true rfl) fun a hf => ?_
  replace hf : Fr 26 a [(0, va0), (1, vb1)] := hf
  refine wp_mono (Q := fun e a w => e = .ret ∧ Fr 26 a [(4, .bool r)] ∧ Hp S w0 w (ow)) ?_ ?_
  rotate_left
  · rintro e a w ⟨rfl, hf, hp⟩
    exact ret1 hf rfl rfl ⟨rfl, hp⟩
  refine wp_seq ?_
  refine wp_reg ?_
  refine st_assign hf rfl rfl (by decide) ?_
  clear hf; intro a ha hf; clear ha
  refine st_nil hf ?_
  refine th_n ?_
  refine wp_seq ?_
  refine wp_seq ?_
  refine wp_reg ?_
  refine st_move hf rfl rfl (by decide) ?_
  clear hf; intro a ha hf; clear ha
  refine st_len (E := Ek.str) hf (by decide) Try.underlying37 rfl rfl (ha0.sl hp) ?_
  clear hf; intro a ha hf; clear ha
  refine st_move hf rfl rfl (by decide) ?_
  clear hf; intro a ha hf; clear ha
  refine st_len (E := Ek.str) hf (by decide) Try.underlying37 rfl rfl (hb1.sl hp) ?_
  clear hf; intro a ha hf; clear ha
  refine st_ineq hf (by decide) rfl rfl rfl ?_
  clear hf; intro a ha hf; clear ha
  refine st_nil hf ?_
  refine th_n ?_
  refine wp_if hf rfl (fun hb => ?_) (fun hb => ?_)
  · replace h := ifT h hb
    refine wp_seq ?_
    refine wp_reg ?_
    refine st_assign hf rfl rfl (by decide) ?_
    clear hf; intro a ha hf; clear ha
    refine st_nil hf ?_
    refine th_n ?_
    refine wp_ret ?_
    refine th_r ?_
    obtain rfl := Option.some.inj h
    exact ⟨rfl, ⟨hf.sub ⟨rfl, trivial⟩, hp⟩⟩
  · replace h := ifF h hb
    refine wp_skip ?_
    refine th_n ?_
    refine wp_seq ?_
    refine wp_seq ?_
    refine wp_reg ?_
    refine st_assign hf rfl rfl (by decide) ?_
    clear hf; intro a ha hf; clear ha
    refine st_nil hf ?_
    refine th_n ?_
    refine wp_block ?_
    obtain ⟨q3, hl, h⟩ := bnd h
    refine wp_loop_pure (f := (f_foghornref17_Texts.s1 a0 b1)) (s := (0 : Int)) (fun s a w => Fr 26 a [(0, va0), (1, vb1), (5, .int .i64 s)] ∧ Hp S w0 w (ow)) (fun q e a w => match q with | (Sum.inl q) => e = .exit 0 ∧ Fr 26 a [] ∧ Hp S w0 w (ow) | (Sum.inr q) => e = .ret ∧ Fr 26 a [(4, .bool q)] ∧ Hp S w0 w (ow)) ?_ hl ⟨hf.sub ⟨rfl, rfl, rfl, trivial⟩, hp⟩ ?_
    · clear hl hf hp
      intro s x a w h hI
      obtain ⟨i5, hs⟩ : ∃ z, z = s := ⟨s, rfl⟩; subst hs
      obtain ⟨hf, hp⟩ : Fr 26 a [(0, va0), (1, vb1), (5, .int .i64 i5)] ∧ Hp S w0 w (ow) := hI
      replace h : f_foghornref17_Texts.s1c a0 b1 i5 = some x := h
      unfold f_foghornref17_Texts.s1c at h
      refine wp_seq ?_
      refine wp_seq ?_
      refine wp_reg ?_
      refine st_move hf rfl rfl (by decide) ?_
      clear hf; intro a ha hf; clear ha
      refine st_move hf rfl rfl (by decide) ?_
      clear hf; intro a ha hf; clear ha
      refine st_len (E := Ek.str) hf (by decide) Try.underlying37 rfl rfl (ha0.sl hp) ?_
      clear hf; intro a ha hf; clear ha
      refine st_ilss hf (by decide) rfl rfl rfl ?_
      clear hf; intro a ha hf; clear ha
      refine st_nil hf ?_
      refine th_n ?_
      refine wp_if hf rfl (fun hb => ?_) (fun hb => ?_)
      · replace h := ifT h hb
        refine wp_skip ?_
        refine th_n ?_
        refine wp_seq ?_
        refine wp_block ?_
        refine wp_seq ?_
        obtain ⟨hc1, h⟩ := chk h
        obtain ⟨hc2, h⟩ := chk h
        refine wp_cutN (fun a w => Fr 26 a [(0, va0), (1, vb1), (5, .int .i64 i5), (25, .bool (!seq (gt a0 i5) (gt b1 i5)))] ∧ Hp S w0 w (ow)) ?_ ?_
        · have hp := hp.same (Same.drew w)
          refine dr_begin' (fun a w => Fr 26 a [(0, va0), (1, vb1), (5, .int .i64 i5), (25, .bool (!seq (gt a0 i5) (gt b1 i5)))] ∧ Hp S w0 w (ow)) (fun w' => ∃ l, Hp S w0 w' l) [] (by kernel_rfl) ?_
          refine dr_take 0 (va0) rfl (by kernel_rfl) (by kernel_rfl) (by kernel_rfl) (by kernel_rfl) rfl rfl hf (by decide) rfl (fun w hp => ?_) ⟨_, hp⟩ ?_
          · obtain ⟨_, hp⟩ := hp
            refine st_move hf rfl rfl (by decide) ?_
            clear hf; intro a ha hf
            exact st_nil hf (th_n ⟨ha, rfl⟩)
          clear hf; intro a hf
          refine dr_take 1 (.int .i64 i5) rfl (by kernel_rfl) (by kernel_rfl) (by kernel_rfl) (by kernel_rfl) rfl rfl hf (by decide) rfl (fun w hp => ?_) ⟨_, hp⟩ ?_
          · obtain ⟨_, hp⟩ := hp
            refine st_move hf rfl rfl (by decide) ?_
            clear hf; intro a ha hf
            exact st_nil hf (th_n ⟨ha, rfl⟩)
          clear hf; intro a hf
          refine dr_take 2 (eptr va0 i5 1) rfl (by kernel_rfl) (by kernel_rfl) (by kernel_rfl) (by kernel_rfl) rfl rfl hf (by decide) rfl (fun w hp => ?_) ⟨_, hp⟩ ?_
          · obtain ⟨_, hp⟩ := hp
            refine st_index (E := Ek.str) hf (by decide) Try.underlying37 elt9 rfl rfl rfl (ha0.sl hp) hc1.1 hc1.2 ?_
            clear hf; intro a ha hf
            exact st_nil hf (th_n ⟨ha, rfl⟩)
          clear hf; intro a hf
          refine dr_take 3 (.string (gt a0 i5)) rfl (by kernel_rfl) (by kernel_rfl) (by kernel_rfl) (by kernel_rfl) rfl rfl hf (by decide) rfl (fun w hp => ?_) ⟨_, hp⟩ ?_
          · obtain ⟨_, hp⟩ := hp
            refine st_ldS hf (by decide) pl9 rfl rfl (ha0.sl hp) hc1.1 hc1.2 ?_
            clear hf; intro a ha hf
            exact st_nil hf (th_n ⟨ha, rfl⟩)
          clear hf; intro a hf
          refine dr_take 4 (vb1) rfl (by kernel_rfl) (by kernel_rfl) (by kernel_rfl) (by kernel_rfl) rfl rfl hf (by decide) rfl (fun w hp => ?_) ⟨_, hp⟩ ?_
          · obtain ⟨_, hp⟩ := hp
            refine st_move hf rfl rfl (by decide) ?_
            clear hf; intro a ha hf
            exact st_nil hf (th_n ⟨ha, rfl⟩)
          clear hf; intro a hf
          refine dr_take 5 (.int .i64 i5) rfl (by kernel_rfl) (by kernel_rfl) (by kernel_rfl) (by kernel_rfl) rfl rfl hf (by decide) rfl (fun w hp => ?_) ⟨_, hp⟩ ?_
          · obtain ⟨_, hp⟩ := hp
            refine st_move hf rfl rfl (by decide) ?_
            clear hf; intro a ha hf
            exact st_nil hf (th_n ⟨ha, rfl⟩)
          clear hf; intro a hf
          refine dr_take 6 (eptr vb1 i5 1) rfl (by kernel_rfl) (by kernel_rfl) (by kernel_rfl) (by kernel_rfl) rfl rfl hf (by decide) rfl (fun w hp => ?_) ⟨_, hp⟩ ?_
          · obtain ⟨_, hp⟩ := hp
            refine st_index (E := Ek.str) hf (by decide) Try.underlying37 elt9 rfl rfl rfl (hb1.sl hp) hc2.1 hc2.2 ?_
            clear hf; intro a ha hf
            exact st_nil hf (th_n ⟨ha, rfl⟩)
          clear hf; intro a hf
          refine dr_take 7 (.string (gt b1 i5)) rfl (by kernel_rfl) (by kernel_rfl) (by kernel_rfl) (by kernel_rfl) rfl rfl hf (by decide) rfl (fun w hp => ?_) ⟨_, hp⟩ ?_
          · obtain ⟨_, hp⟩ := hp
            refine st_ldS hf (by decide) pl9 rfl rfl (hb1.sl hp) hc2.1 hc2.2 ?_
            clear hf; intro a ha hf
            exact st_nil hf (th_n ⟨ha, rfl⟩)
          clear hf; intro a hf
          refine dr_take 8 (.bool (!seq (gt a0 i5) (gt b1 i5))) rfl (by kernel_rfl) (by kernel_rfl) (by kernel_rfl) (by kernel_rfl) rfl rfl hf (by decide) rfl (fun w hp => ?_) ⟨_, hp⟩ ?_
          · obtain ⟨_, hp⟩ := hp
            refine st_sneq hf (by decide) rfl rfl rfl ?_
            clear hf; intro a ha hf
            exact st_nil hf (th_n ⟨ha, rfl⟩)
          clear hf; intro a hf
          refine dr_end (by kernel_rfl) ?_ _
          exact ⟨hf.sub ⟨rfl, rfl, rfl, rfl, trivial⟩, hp⟩
        · rintro a w ⟨hf, hp⟩
          refine th_n ?_
          refine wp_if hf rfl (fun hb => ?_) (fun hb => ?_)
          · replace h := ifT h hb
            refine wp_seq ?_
            refine wp_reg ?_
            refine st_assign hf rfl rfl (by decide) ?_
            clear hf; intro a ha hf; clear ha
            refine st_nil hf ?_
            refine th_n ?_
            refine wp_ret ?_
            refine ib_r ?_
            refine th_r ?_
            obtain rfl := Option.some.inj h
            exact rnd_r (by simp) ⟨rfl, ⟨hf.sub ⟨rfl, trivial⟩, hp⟩⟩
          · replace h := ifF h hb
            refine wp_skip ?_
            refine ib_n ?_
            refine th_n ?_
            refine wp_reg ?_
            refine st_move hf rfl rfl (by decide) ?_
            clear hf; intro a ha hf; clear ha
            refine st_iadd hf (by decide) rfl rfl rfl ?_
            clear hf; intro a ha hf; clear ha
            refine st_assign hf rfl rfl (by decide) ?_
            clear hf; intro a ha hf; clear ha
            refine st_nil hf ?_
            obtain rfl := Option.some.inj h
            exact rnd_l ⟨hf.sub ⟨rfl, rfl, rfl, trivial⟩, hp⟩
      · replace h := ifF h hb
        refine wp_exit ?_
        refine th_e ?_
        obtain rfl := Option.some.inj h
        exact rnd_r (by simp) ⟨rfl, hf.sub trivial, hp⟩
    · clear hl hf hp
      intro e a w hne hO
      cases q3 with
      | inl q4 =>
        replace h := smL h
        obtain ⟨rfl, hf, hp⟩ := hO
        refine ib_same ?_
        refine th_n ?_
        refine wp_seq ?_
        refine wp_reg ?_
        refine st_assign hf rfl rfl (by decide) ?_
        clear hf; intro a ha hf; clear ha
        refine st_nil hf ?_
        refine th_n ?_
        refine wp_ret ?_
        obtain rfl := Option.some.inj h
        exact ⟨rfl, ⟨hf.sub ⟨rfl, trivial⟩, hp⟩⟩
      | inr q5 =>
        replace h := smR h
        obtain ⟨rfl, hf, hp⟩ := hO
        refine ib_r ?_
        refine th_r ?_
        obtain rfl := Option.some.inj h
        exact ⟨rfl, ⟨hf.sub ⟨rfl, trivial⟩, hp⟩⟩

noncomputable def f_weave_Place (word0 : Int) (at1 : Int) (count2 : Int) (length3 : Int) : Option (Int × Int) := ((f_weave_may count2 length3).bind fun q1 => (if (((((!q1) || (decide (word0 < (0 : Int)))) || (decide (count2 ≤ word0))) || (decide (at1 < (0 : Int)))) || (decide (length3 ≤ at1))) = true then (some ((0 : Int), (1 : Int))) else (some ((IntKind.i64.wrap ((IntKind.i64.wrap (at1 * count2)) + word0)), (0 : Int)))))
theorem f_weave_Place_c {S : Nat → Prop} {w0 w : World} {ow : List Res} (hp : Hp S w0 w ow) (word0 : Int) (at1 : Int) (count2 : Int) (length3 : Int) {r : (Int × Int)} (h : f_weave_Place word0 at1 count2 length3 = some r) :
    Calls Try.prog 17 #[.int .i64 word0, .int .i64 at1, .int .i64 count2, .int .i64 length3] w (fun e w' => e = .returned (.tuple #[.int .i64 r.1, .int .i64 r.2]) ∧ Hp S w0 w' (ow)) := by
  unfold f_weave_Place at h
  refine enter (n := 37) (args := [.int .i64 word0, .int .i64 at1, .int .i64 count2, .int .i64 length3]) Try.func17 rfl rfl (Nat.le_of_ble_eq_true rfl) fun a hf => ?_
  replace hf : Fr 37 a [(0, .int .i64 word0), (1, .int .i64 at1), (2, .int .i64 count2), (3, .int .i64 length3)] := hf
  refine wp_mono (Q := fun e a w => e = .ret ∧ Fr 37 a [(8, .int .i64 r.1), (9, .int .i64 r.2)] ∧ Hp S w0 w (ow)) ?_ ?_
  rotate_left
  · rintro e a w ⟨rfl, hf, hp⟩
    exact ret2 hf rfl rfl rfl ⟨rfl, hp⟩
  refine wp_seq ?_
  refine wp_reg ?_
  refine st_assign hf rfl rfl (by decide) ?_
  clear hf; intro a ha hf; clear ha
  refine st_assign hf rfl rfl (by decide) ?_
  clear hf; intro a ha hf; clear ha
  refine st_nil hf ?_
  refine th_n ?_
  refine wp_seq ?_
  refine wp_seq ?_
  refine wp_reg ?_
  refine st_move hf rfl rfl (by decide) ?_
  clear hf; intro a ha hf; clear ha
  refine st_move hf rfl rfl (by decide) ?_
  clear hf; intro a ha hf; clear ha
  obtain ⟨q1, hcall2, h⟩ := bnd h
  refine st_call hf (by decide) Try.func38 rfl rfl rfl rfl rfl (f_weave_may_c hp _ _ hcall2) ?_
  rintro _ w ⟨rfl, hp0⟩
  clear hp; have hp := hp0; clear hp0
  replace hp : Hp _ _ _ (ow) := hp
  refine ⟨_, rfl, ?_⟩
  clear hf; intro a hf
  refine st_not hf (by decide) rfl rfl ?_
  clear hf; intro a ha hf; clear ha
  refine st_move hf rfl rfl (by decide) ?_
  clear hf; intro a ha hf; clear ha
  refine wpList_cut 3 (fun a w => Fr 37 a [(0, .int .i64 word0), (1, .int .i64 at1), (2, .int .i64 count2), (3, .int .i64 length3), (17, .bool ((!q1) || (decide (word0 < (0 : Int)))))] ∧ Hp S w0 w (ow)) ?_ ?_
  · rcases Bool.eq_false_or_eq_true (!q1) with hb4 | hb4
    · skip
      refine st_skip hf (wantN hf rfl rfl hb4) rfl (by decide) ?_ rfl
      clear hf; intro a hf
      refine st_skip hf (wantN hf rfl rfl hb4) rfl (by decide) ?_ rfl
      clear hf; intro a hf
      refine st_pick (v := .bool true) hf rfl rfl (fun hb' => ?_) (fun hb' => ?_) (by decide) ?_
      · rfl
      · exact absurd (hb4.symm.trans hb') (by decide)
      clear hf; intro a ha hf; clear ha
      refine st_nil hf (th_n ?_)
      exact ⟨hf.sub ⟨rfl, rfl, rfl, rfl, (by rw [hb4]; rfl), trivial⟩, hp⟩
    · skip
      refine st_move hf (wantY hf rfl rfl hb4) rfl (by decide) ?_
      clear hf; intro a ha hf; clear ha
      refine st_ilss hf (by decide) (wantY hf rfl rfl hb4) rfl rfl ?_
      clear hf; intro a ha hf; clear ha
      refine st_pick (v := .bool (decide (word0 < (0 : Int)))) hf rfl rfl (fun hb' => ?_) (fun hb' => ?_) (by decide) ?_
      · exact absurd (hb4.symm.trans hb') (by decide)
      · rfl
      clear hf; intro a ha hf; clear ha
      refine st_nil hf (th_n ?_)
      exact ⟨hf.sub ⟨rfl, rfl, rfl, rfl, (by rw [hb4]; rfl), trivial⟩, hp⟩
  · rintro a w ⟨hf, hp⟩
    refine st_move hf rfl rfl (by decide) ?_
    clear hf; intro a ha hf; clear ha
    refine wpList_cut 4 (fun a w => Fr 37 a [(0, .int .i64 word0), (1, .int .i64 at1), (2, .int .i64 count2), (3, .int .i64 length3), (22, .bool (((!q1) || (decide (word0 < (0 : Int)))) || (decide (count2 ≤ word0))))] ∧ Hp S w0 w (ow)) ?_ ?_
    · rcases Bool.eq_false_or_eq_true ((!q1) || (decide (word0 < (0 : Int)))) with hb6 | hb6
      · skip
        refine st_skip hf (wantN hf rfl rfl hb6) rfl (by decide) ?_ rfl
        clear hf; intro a hf
        refine st_skip hf (wantN hf rfl rfl hb6) rfl (by decide) ?_ rfl
        clear hf; intro a hf
        refine st_skip hf (wantN hf rfl rfl hb6) rfl (by decide) ?_ rfl
        clear hf; intro a hf
        refine st_pick (v := .bool true) hf rfl rfl (fun hb' => ?_) (fun hb' => ?_) (by decide) ?_
        · rfl
        · exact absurd (hb6.symm.trans hb') (by decide)
        clear hf; intro a ha hf; clear ha
        refine st_nil hf (th_n ?_)
        exact ⟨hf.sub ⟨rfl, rfl, rfl, rfl, (by rw [hb6]; rfl), trivial⟩, hp⟩
      · skip
        refine st_move hf (wantY hf rfl rfl hb6) rfl (by decide) ?_
        clear hf; intro a ha hf; clear ha
        refine st_move hf (wantY hf rfl rfl hb6) rfl (by decide) ?_
        clear hf; intro a ha hf; clear ha
        refine st_igeq hf (by decide) (wantY hf rfl rfl hb6) rfl rfl ?_
        clear hf; intro a ha hf; clear ha
        refine st_pick (v := .bool (decide (count2 ≤ word0))) hf rfl rfl (fun hb' => ?_) (fun hb' => ?_) (by decide) ?_
        · exact absurd (hb6.symm.trans hb') (by decide)
        · rfl
        clear hf; intro a ha hf; clear ha
        refine st_nil hf (th_n ?_)
        exact ⟨hf.sub ⟨rfl, rfl, rfl, rfl, (by rw [hb6]; rfl), trivial⟩, hp⟩
    · rintro a w ⟨hf, hp⟩
      refine st_move hf rfl rfl (by decide) ?_
      clear hf; intro a ha hf; clear ha
      refine wpList_cut 3 (fun a w => Fr 37 a [(0, .int .i64 word0), (1, .int .i64 at1), (2, .int .i64 count2), (3, .int .i64 length3), (26, .bool ((((!q1) || (decide (word0 < (0 : Int)))) || (decide (count2 ≤ word0))) || (decide (at1 < (0 : Int)))))] ∧ Hp S w0 w (ow)) ?_ ?_
      · rcases Bool.eq_false_or_eq_true (((!q1) || (decide (word0 < (0 : Int)))) || (decide (count2 ≤ word0))) with hb8 | hb8
        · skip
          refine st_skip hf (wantN hf rfl rfl hb8) rfl (by decide) ?_ rfl
          clear hf; intro a hf
          refine st_skip hf (wantN hf rfl rfl hb8) rfl (by decide) ?_ rfl
          clear hf; intro a hf
          refine st_pick (v := .bool true) hf rfl rfl (fun hb' => ?_) (fun hb' => ?_) (by decide) ?_
          · rfl
          · exact absurd (hb8.symm.trans hb') (by decide)
          clear hf; intro a ha hf; clear ha
          refine st_nil hf (th_n ?_)
          exact ⟨hf.sub ⟨rfl, rfl, rfl, rfl, (by rw [hb8]; rfl), trivial⟩, hp⟩
        · skip
          refine st_move hf (wantY hf rfl rfl hb8) rfl (by decide) ?_
          clear hf; intro a ha hf; clear ha
          refine st_ilss hf (by decide) (wantY hf rfl rfl hb8) rfl rfl ?_
          clear hf; intro a ha hf; clear ha
          refine st_pick (v := .bool (decide (at1 < (0 : Int)))) hf rfl rfl (fun hb' => ?_) (fun hb' => ?_) (by decide) ?_
          · exact absurd (hb8.symm.trans hb') (by decide)
          · rfl
          clear hf; intro a ha hf; clear ha
          refine st_nil hf (th_n ?_)
          exact ⟨hf.sub ⟨rfl, rfl, rfl, rfl, (by rw [hb8]; rfl), trivial⟩, hp⟩
      · rintro a w ⟨hf, hp⟩
        refine st_move hf rfl rfl (by decide) ?_
        clear hf; intro a ha hf; clear ha
        refine wpList_cut 4 (fun a w => Fr 37 a [(0, .int .i64 word0), (1, .int .i64 at1), (2, .int .i64 count2), (31, .bool (((((!q1) || (decide (word0 < (0 : Int)))) || (decide (count2 ≤ word0))) || (decide (at1 < (0 : Int)))) || (decide (length3 ≤ at1))))] ∧ Hp S w0 w (ow)) ?_ ?_
        · rcases Bool.eq_false_or_eq_true ((((!q1) || (decide (word0 < (0 : Int)))) || (decide (count2 ≤ word0))) || (decide (at1 < (0 : Int)))) with hb10 | hb10
          · skip
            refine st_skip hf (wantN hf rfl rfl hb10) rfl (by decide) ?_ rfl
            clear hf; intro a hf
            refine st_skip hf (wantN hf rfl rfl hb10) rfl (by decide) ?_ rfl
            clear hf; intro a hf
            refine st_skip hf (wantN hf rfl rfl hb10) rfl (by decide) ?_ rfl
            clear hf; intro a hf
            refine st_pick (v := .bool true) hf rfl rfl (fun hb' => ?_) (fun hb' => ?_) (by decide) ?_
            · rfl
            · exact absurd (hb10.symm.trans hb') (by decide)
            clear hf; intro a ha hf; clear ha
            refine st_nil hf (th_n ?_)
            exact ⟨hf.sub ⟨rfl, rfl, rfl, (by rw [hb10]; rfl), trivial⟩, hp⟩
          · skip
            refine st_move hf (wantY hf rfl rfl hb10) rfl (by decide) ?_
            clear hf; intro a ha hf; clear ha
            refine st_move hf (wantY hf rfl rfl hb10) rfl (by decide) ?_
            clear hf; intro a ha hf; clear ha
            refine st_igeq hf (by decide) (wantY hf rfl rfl hb10) rfl rfl ?_
            clear hf; intro a ha hf; clear ha
            refine st_pick (v := .bool (decide (length3 ≤ at1))) hf rfl rfl (fun hb' => ?_) (fun hb' => ?_) (by decide) ?_
            · exact absurd (hb10.symm.trans hb') (by decide)
            · rfl
            clear hf; intro a ha hf; clear ha
            refine st_nil hf (th_n ?_)
            exact ⟨hf.sub ⟨rfl, rfl, rfl, (by rw [hb10]; rfl), trivial⟩, hp⟩
        · rintro a w ⟨hf, hp⟩
          refine st_nil hf ?_
          refine th_n ?_
          refine wp_if hf rfl (fun hb => ?_) (fun hb => ?_)
          · replace h := ifT h hb
            refine wp_seq ?_
            refine wp_reg ?_
            refine st_assign hf rfl rfl (by decide) ?_
            clear hf; intro a ha hf; clear ha
            refine st_assign hf rfl rfl (by decide) ?_
            clear hf; intro a ha hf; clear ha
            refine st_nil hf ?_
            refine th_n ?_
            refine wp_ret ?_
            refine th_r ?_
            obtain rfl := Option.some.inj h
            exact ⟨rfl, ⟨hf.sub ⟨rfl, rfl, trivial⟩, hp⟩⟩
          · replace h := ifF h hb
            refine wp_skip ?_
            refine th_n ?_
            refine wp_seq ?_
            refine wp_reg ?_
            refine st_move hf rfl rfl (by decide) ?_
            clear hf; intro a ha hf; clear ha
            refine st_move hf rfl rfl (by decide) ?_
            clear hf; intro a ha hf; clear ha
            refine st_imul hf (by decide) rfl rfl rfl ?_
            clear hf; intro a ha hf; clear ha
            refine st_move hf rfl rfl (by decide) ?_
            clear hf; intro a ha hf; clear ha
            refine st_iadd hf (by decide) rfl rfl rfl ?_
            clear hf; intro a ha hf; clear ha
            refine st_assign hf rfl rfl (by decide) ?_
            clear hf; intro a ha hf; clear ha
            refine st_assign hf rfl rfl (by decide) ?_
            clear hf; intro a ha hf; clear ha
            refine st_nil hf ?_
            refine th_n ?_
            refine wp_ret ?_
            obtain rfl := Option.some.inj h
            exact ⟨rfl, ⟨hf.sub ⟨rfl, rfl, trivial⟩, hp⟩⟩

noncomputable def f_weave_Back (place0 : Int) (count1 : Int) (length2 : Int) : Option (Int × Int × Int) := ((f_weave_may count1 length2).bind fun q1 => (if (((!q1) || (decide (place0 < (0 : Int)))) || (decide ((IntKind.i64.wrap (count1 * length2)) ≤ place0))) = true then (some ((0 : Int), (0 : Int), (1 : Int))) else (if count1 ≠ 0 then (if count1 ≠ 0 then (some (((place0).tmod count1), (IntKind.i64.wrap ((place0).tdiv count1)), (0 : Int))) else none) else none)))
theorem f_weave_Back_c {S : Nat → Prop} {w0 w : World} {ow : List Res} (hp : Hp S w0 w ow) (place0 : Int) (count1 : Int) (length2 : Int) {r : (Int × Int × Int)} (h : f_weave_Back place0 count1 length2 = some r) :
    Calls Try.prog 19 #[.int .i64 place0, .int .i64 count1, .int .i64 length2] w (fun e w' => e = .returned (.tuple #[.int .i64 r.1, .int .i64 r.2.1, .int .i64 r.2.2]) ∧ Hp S w0 w' (ow)) := by
  unfold f_weave_Back at h
  refine enter (n := 30) (args := [.int .i64 place0, .int .i64 count1, .int .i64 length2]) Try.func19 rfl rfl (Nat.le_of_ble_eq_true rfl) fun a hf => ?_
  replace hf : Fr 30 a [(0, .int .i64 place0), (1, .int .i64 count1), (2, .int .i64 length2)] := hf
  refine wp_mono (Q := fun e a w => e = .ret ∧ Fr 30 a [(6, .int .i64 r.1), (7, .int .i64 r.2.1), (8, .int .i64 r.2.2)] ∧ Hp S w0 w (ow)) ?_ ?_
  rotate_left
  · rintro e a w ⟨rfl, hf, hp⟩
    exact ret3 hf rfl rfl rfl rfl ⟨rfl, hp⟩
  refine wp_seq ?_
  refine wp_reg ?_
  refine st_assign hf rfl rfl (by decide) ?_
  clear hf; intro a ha hf; clear ha
  refine st_assign hf rfl rfl (by decide) ?_
  clear hf; intro a ha hf; clear ha
  refine st_assign hf rfl rfl (by decide) ?_
  clear hf; intro a ha hf; clear ha
  refine st_nil hf ?_
  refine th_n ?_
  refine wp_seq ?_
  refine wp_seq ?_
  refine wp_reg ?_
  refine st_move hf rfl rfl (by decide) ?_
  clear hf; intro a ha hf; clear ha
  refine st_move hf rfl rfl (by decide) ?_
  clear hf; intro a ha hf; clear ha
  obtain ⟨q1, hcall2, h⟩ := bnd h
  refine st_call hf (by decide) Try.func38 rfl rfl rfl rfl rfl (f_weave_may_c hp _ _ hcall2) ?_
  rintro _ w ⟨rfl, hp0⟩
  clear hp; have hp := hp0; clear hp0
  replace hp : Hp _ _ _ (ow) := hp
  refine ⟨_, rfl, ?_⟩
  clear hf; intro a hf
  refine st_not hf (by decide) rfl rfl ?_
  clear hf; intro a ha hf; clear ha
  refine st_move hf rfl rfl (by decide) ?_
  clear hf; intro a ha hf; clear ha
  refine wpList_cut 3 (fun a w => Fr 30 a [(0, .int .i64 place0), (1, .int .i64 count1), (2, .int .i64 length2), (16, .bool ((!q1) || (decide (place0 < (0 : Int)))))] ∧ Hp S w0 w (ow)) ?_ ?_
  · rcases Bool.eq_false_or_eq_true (!q1) with hb4 | hb4
    · skip
      refine st_skip hf (wantN hf rfl rfl hb4) rfl (by decide) ?_ rfl
      clear hf; intro a hf
      refine st_skip hf (wantN hf rfl rfl hb4) rfl (by decide) ?_ rfl
      clear hf; intro a hf
      refine st_pick (v := .bool true) hf rfl rfl (fun hb' => ?_) (fun hb' => ?_) (by decide) ?_
      · rfl
      · exact absurd (hb4.symm.trans hb') (by decide)
      clear hf; intro a ha hf; clear ha
      refine st_nil hf (th_n ?_)
      exact ⟨hf.sub ⟨rfl, rfl, rfl, (by rw [hb4]; rfl), trivial⟩, hp⟩
    · skip
      refine st_move hf (wantY hf rfl rfl hb4) rfl (by decide) ?_
      clear hf; intro a ha hf; clear ha
      refine st_ilss hf (by decide) (wantY hf rfl rfl hb4) rfl rfl ?_
      clear hf; intro a ha hf; clear ha
      refine st_pick (v := .bool (decide (place0 < (0 : Int)))) hf rfl rfl (fun hb' => ?_) (fun hb' => ?_) (by decide) ?_
      · exact absurd (hb4.symm.trans hb') (by decide)
      · rfl
      clear hf; intro a ha hf; clear ha
      refine st_nil hf (th_n ?_)
      exact ⟨hf.sub ⟨rfl, rfl, rfl, (by rw [hb4]; rfl), trivial⟩, hp⟩
  · rintro a w ⟨hf, hp⟩
    refine st_move hf rfl rfl (by decide) ?_
    clear hf; intro a ha hf; clear ha
    refine wpList_cut 6 (fun a w => Fr 30 a [(0, .int .i64 place0), (1, .int .i64 count1), (23, .bool (((!q1) || (decide (place0 < (0 : Int)))) || (decide ((IntKind.i64.wrap (count1 * length2)) ≤ place0))))] ∧ Hp S w0 w (ow)) ?_ ?_
    · rcases Bool.eq_false_or_eq_true ((!q1) || (decide (place0 < (0 : Int)))) with hb6 | hb6
      · skip
        refine st_skip hf (wantN hf rfl rfl hb6) rfl (by decide) ?_ rfl
        clear hf; intro a hf
        refine st_skip hf (wantN hf rfl rfl hb6) rfl (by decide) ?_ rfl
        clear hf; intro a hf
        refine st_skip hf (wantN hf rfl rfl hb6) rfl (by decide) ?_ rfl
        clear hf; intro a hf
        refine st_skip hf (wantN hf rfl rfl hb6) rfl (by decide) ?_ rfl
        clear hf; intro a hf
        refine st_skip hf (wantN hf rfl rfl hb6) rfl (by decide) ?_ rfl
        clear hf; intro a hf
        refine st_pick (v := .bool true) hf rfl rfl (fun hb' => ?_) (fun hb' => ?_) (by decide) ?_
        · rfl
        · exact absurd (hb6.symm.trans hb') (by decide)
        clear hf; intro a ha hf; clear ha
        refine st_nil hf (th_n ?_)
        exact ⟨hf.sub ⟨rfl, rfl, (by rw [hb6]; rfl), trivial⟩, hp⟩
      · skip
        refine st_move hf (wantY hf rfl rfl hb6) rfl (by decide) ?_
        clear hf; intro a ha hf; clear ha
        refine st_move hf (wantY hf rfl rfl hb6) rfl (by decide) ?_
        clear hf; intro a ha hf; clear ha
        refine st_move hf (wantY hf rfl rfl hb6) rfl (by decide) ?_
        clear hf; intro a ha hf; clear ha
        refine st_imul hf (by decide) (wantY hf rfl rfl hb6) rfl rfl ?_
        clear hf; intro a ha hf; clear ha
        refine st_igeq hf (by decide) (wantY hf rfl rfl hb6) rfl rfl ?_
        clear hf; intro a ha hf; clear ha
        refine st_pick (v := .bool (decide ((IntKind.i64.wrap (count1 * length2)) ≤ place0))) hf rfl rfl (fun hb' => ?_) (fun hb' => ?_) (by decide) ?_
        · exact absurd (hb6.symm.trans hb') (by decide)
        · rfl
        clear hf; intro a ha hf; clear ha
        refine st_nil hf (th_n ?_)
        exact ⟨hf.sub ⟨rfl, rfl, (by rw [hb6]; rfl), trivial⟩, hp⟩
    · rintro a w ⟨hf, hp⟩
      refine st_nil hf ?_
      refine th_n ?_
      refine wp_if hf rfl (fun hb => ?_) (fun hb => ?_)
      · replace h := ifT h hb
        refine wp_seq ?_
        refine wp_reg ?_
        refine st_assign hf rfl rfl (by decide) ?_
        clear hf; intro a ha hf; clear ha
        refine st_assign hf rfl rfl (by decide) ?_
        clear hf; intro a ha hf; clear ha
        refine st_assign hf rfl rfl (by decide) ?_
        clear hf; intro a ha hf; clear ha
        refine st_nil hf ?_
        refine th_n ?_
        refine wp_ret ?_
        refine th_r ?_
        obtain rfl := Option.some.inj h
        exact ⟨rfl, ⟨hf.sub ⟨rfl, rfl, rfl, trivial⟩, hp⟩⟩
      · replace h := ifF h hb
        refine wp_skip ?_
        refine th_n ?_
        refine wp_seq ?_
        obtain ⟨hc7, h⟩ := chk h
        obtain ⟨hc8, h⟩ := chk h
        refine wp_cutN (fun a w => Fr 30 a [(6, .int .i64 ((place0).tmod count1)), (7, .int .i64 (IntKind.i64.wrap ((place0).tdiv count1))), (8, .int .i64 (0 : Int))] ∧ Hp S w0 w (ow)) ?_ ?_
        · have hp := hp.same (Same.drew w)
          refine dr_begin' (fun a w => Fr 30 a [(6, .int .i64 ((place0).tmod count1)), (7, .int .i64 (IntKind.i64.wrap ((place0).tdiv count1))), (8, .int .i64 (0 : Int))] ∧ Hp S w0 w (ow)) (fun w' => ∃ l, Hp S w0 w' l) [] (by kernel_rfl) ?_
          refine dr_take 0 (.int .i64 place0) rfl (by kernel_rfl) (by kernel_rfl) (by kernel_rfl) (by kernel_rfl) rfl rfl hf (by decide) rfl (fun w hp => ?_) ⟨_, hp⟩ ?_
          · obtain ⟨_, hp⟩ := hp
            refine st_move hf rfl rfl (by decide) ?_
            clear hf; intro a ha hf
            exact st_nil hf (th_n ⟨ha, rfl⟩)
          clear hf; intro a hf
          refine dr_take 1 (.int .i64 count1) rfl (by kernel_rfl) (by kernel_rfl) (by kernel_rfl) (by kernel_rfl) rfl rfl hf (by decide) rfl (fun w hp => ?_) ⟨_, hp⟩ ?_
          · obtain ⟨_, hp⟩ := hp
            refine st_move hf rfl rfl (by decide) ?_
            clear hf; intro a ha hf
            exact st_nil hf (th_n ⟨ha, rfl⟩)
          clear hf; intro a hf
          refine dr_take 2 (.int .i64 ((place0).tmod count1)) rfl (by kernel_rfl) (by kernel_rfl) (by kernel_rfl) (by kernel_rfl) rfl rfl hf (by decide) rfl (fun w hp => ?_) ⟨_, hp⟩ ?_
          · obtain ⟨_, hp⟩ := hp
            refine st_irem hf (by decide) rfl rfl rfl hc7 ?_
            clear hf; intro a ha hf
            exact st_nil hf (th_n ⟨ha, rfl⟩)
          clear hf; intro a hf
          refine dr_take 3 (.int .i64 place0) rfl (by kernel_rfl) (by kernel_rfl) (by kernel_rfl) (by kernel_rfl) rfl rfl hf (by decide) rfl (fun w hp => ?_) ⟨_, hp⟩ ?_
          · obtain ⟨_, hp⟩ := hp
            refine st_move hf rfl rfl (by decide) ?_
            clear hf; intro a ha hf
            exact st_nil hf (th_n ⟨ha, rfl⟩)
          clear hf; intro a hf
          refine dr_take 4 (.int .i64 count1) rfl (by kernel_rfl) (by kernel_rfl) (by kernel_rfl) (by kernel_rfl) rfl rfl hf (by decide) rfl (fun w hp => ?_) ⟨_, hp⟩ ?_
          · obtain ⟨_, hp⟩ := hp
            refine st_move hf rfl rfl (by decide) ?_
            clear hf; intro a ha hf
            exact st_nil hf (th_n ⟨ha, rfl⟩)
          clear hf; intro a hf
          refine dr_take 5 (.int .i64 (IntKind.i64.wrap ((place0).tdiv count1))) rfl (by kernel_rfl) (by kernel_rfl) (by kernel_rfl) (by kernel_rfl) rfl rfl hf (by decide) rfl (fun w hp => ?_) ⟨_, hp⟩ ?_
          · obtain ⟨_, hp⟩ := hp
            refine st_iquo hf (by decide) rfl rfl rfl hc8 ?_
            clear hf; intro a ha hf
            exact st_nil hf (th_n ⟨ha, rfl⟩)
          clear hf; intro a hf
          refine dr_take 6 (.int .i64 ((place0).tmod count1)) rfl (by kernel_rfl) (by kernel_rfl) (by kernel_rfl) (by kernel_rfl) rfl rfl hf (by decide) rfl (fun w hp => ?_) ⟨_, hp⟩ ?_
          · obtain ⟨_, hp⟩ := hp
            refine st_assign hf rfl rfl (by decide) ?_
            clear hf; intro a ha hf
            exact st_nil hf (th_n ⟨ha, rfl⟩)
          clear hf; intro a hf
          refine dr_take 7 (.int .i64 (IntKind.i64.wrap ((place0).tdiv count1))) rfl (by kernel_rfl) (by kernel_rfl) (by kernel_rfl) (by kernel_rfl) rfl rfl hf (by decide) rfl (fun w hp => ?_) ⟨_, hp⟩ ?_
          · obtain ⟨_, hp⟩ := hp
            refine st_assign hf rfl rfl (by decide) ?_
            clear hf; intro a ha hf
            exact st_nil hf (th_n ⟨ha, rfl⟩)
          clear hf; intro a hf
          refine dr_take 8 (.int .i64 (0 : Int)) rfl (by kernel_rfl) (by kernel_rfl) (by kernel_rfl) (by kernel_rfl) rfl rfl hf (by decide) rfl (fun w hp => ?_) ⟨_, hp⟩ ?_
          · obtain ⟨_, hp⟩ := hp
            refine st_assign hf rfl rfl (by decide) ?_
            clear hf; intro a ha hf
            exact st_nil hf (th_n ⟨ha, rfl⟩)
          clear hf; intro a hf
          refine dr_end (by kernel_rfl) ?_ _
          exact ⟨hf.sub ⟨rfl, rfl, rfl, trivial⟩, hp⟩
        · rintro a w ⟨hf, hp⟩
          refine th_n ?_
          refine wp_ret ?_
          obtain rfl := Option.some.inj h
          exact ⟨rfl, ⟨hf.sub ⟨rfl, rfl, rfl, trivial⟩, hp⟩⟩

end Go.Proofs.Ythoigfonjpmibaa
