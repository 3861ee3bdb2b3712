/- The functions foghorn foghornlaw17.WeavePlaces: what each answers, as a plain function, and that its call answers it; printed by gen.py. -/
import Derived.Test.YthoigfonjpmibaaProg
import Derived.Test.YthoigfonjpmibaaGlI
import Derived.KernelRfl
set_option linter.unusedVariables false
set_option maxRecDepth 100000
set_option maxHeartbeats 4000000
namespace Go.Proofs.Ythoigfonjpmibaa
open GL
theorem elt3 : ElT Try.prog (Ek.int .i64) 3 8 (0 : Int) := ElT.of (z := .int .i64 0) (by kernel_rfl) rfl
theorem pl3 : Plain Try.prog 3 := ⟨⟨_, Try.underlying3, trivial⟩⟩
noncomputable def f_foghornref17_Of (count0 : Int) (length1 : Int) : Option Bool := (some ((((decide (1 ≤ count0)) && (decide (count0 ≤ 255))) && (decide (1 ≤ length1))) && (decide (length1 ≤ 255))))
theorem f_foghornref17_Of_c {S : Nat → Prop} {w0 w : World} {ow : List Res} (hp : Hp S w0 w ow) (count0 : Int) (length1 : Int) {r : Bool} (h : f_foghornref17_Of count0 length1 = some r) :
    Calls Try.prog 37 #[.int .i64 count0, .int .i64 length1] w (fun e w' => e = .returned (.bool r) ∧ Hp S w0 w' (ow)) := by
  unfold f_foghornref17_Of at h
  refine enter (n := 19) (args := [.int .i64 count0, .int .i64 length1]) Try.func37 rfl rfl (Nat.le_of_ble_eq_true rfl) fun a hf => ?_
  replace hf : Fr 19 a [(0, .int .i64 count0), (1, .int .i64 length1)] := hf
  refine wp_mono (Q := fun e a w => e = .ret ∧ Fr 19 a [(4, .bool r)] ∧ Hp S w0 w (ow)) ?_ ?_
  rotate_left
  · rintro e a w ⟨rfl, hf, hp⟩
    exact ret1 hf rfl rfl ⟨rfl, hp⟩
  refine wp_seq ?_
  refine wp_reg ?_
  refine st_assign hf rfl rfl (by decide) ?_
  clear hf; intro a ha hf; clear ha
  refine st_nil hf ?_
  refine th_n ?_
  refine wp_seq ?_
  refine wp_reg ?_
  refine st_move hf rfl rfl (by decide) ?_
  clear hf; intro a ha hf; clear ha
  refine st_igeq hf (by decide) rfl rfl rfl ?_
  clear hf; intro a ha hf; clear ha
  refine st_move hf rfl rfl (by decide) ?_
  clear hf; intro a ha hf; clear ha
  refine wpList_cut 3 (fun a w => Fr 19 a [(1, .int .i64 length1), (10, .bool ((decide (1 ≤ count0)) && (decide (count0 ≤ 255))))] ∧ Hp S w0 w (ow)) ?_ ?_
  · rcases Bool.eq_false_or_eq_true (decide (1 ≤ count0)) with hb | hb
    · skip
      refine st_move hf (wantY hf rfl rfl hb) rfl (by decide) ?_
      clear hf; intro a ha hf; clear ha
      refine st_ileq hf (by decide) (wantY hf rfl rfl hb) rfl rfl ?_
      clear hf; intro a ha hf; clear ha
      refine st_pick (v := .bool (decide (count0 ≤ 255))) hf rfl rfl (fun hb' => ?_) (fun hb' => ?_) (by decide) ?_
      · rfl
      · exact absurd (hb.symm.trans hb') (by decide)
      clear hf; intro a ha hf; clear ha
      refine st_nil hf (th_n ?_)
      exact ⟨hf.sub ⟨rfl, (by rw [hb]; rfl), trivial⟩, hp⟩
    · skip
      refine st_skip hf (wantN hf rfl rfl hb) rfl (by decide) ?_ rfl
      clear hf; intro a hf
      refine st_skip hf (wantN hf rfl rfl hb) rfl (by decide) ?_ rfl
      clear hf; intro a hf
      refine st_pick (v := .bool false) hf rfl rfl (fun hb' => ?_) (fun hb' => ?_) (by decide) ?_
      · exact absurd (hb.symm.trans hb') (by decide)
      · rfl
      clear hf; intro a ha hf; clear ha
      refine st_nil hf (th_n ?_)
      exact ⟨hf.sub ⟨rfl, (by rw [hb]; rfl), trivial⟩, hp⟩
  · rintro a w ⟨hf, hp⟩
    refine st_move hf rfl rfl (by decide) ?_
    clear hf; intro a ha hf; clear ha
    refine wpList_cut 3 (fun a w => Fr 19 a [(1, .int .i64 length1), (14, .bool (((decide (1 ≤ count0)) && (decide (count0 ≤ 255))) && (decide (1 ≤ length1))))] ∧ Hp S w0 w (ow)) ?_ ?_
    · rcases Bool.eq_false_or_eq_true ((decide (1 ≤ count0)) && (decide (count0 ≤ 255))) with hb | hb
      · skip
        refine st_move hf (wantY hf rfl rfl hb) rfl (by decide) ?_
        clear hf; intro a ha hf; clear ha
        refine st_igeq hf (by decide) (wantY hf rfl rfl hb) rfl rfl ?_
        clear hf; intro a ha hf; clear ha
        refine st_pick (v := .bool (decide (1 ≤ length1))) hf rfl rfl (fun hb' => ?_) (fun hb' => ?_) (by decide) ?_
        · rfl
        · exact absurd (hb.symm.trans hb') (by decide)
        clear hf; intro a ha hf; clear ha
        refine st_nil hf (th_n ?_)
        exact ⟨hf.sub ⟨rfl, (by rw [hb]; rfl), trivial⟩, hp⟩
      · skip
        refine st_skip hf (wantN hf rfl rfl hb) rfl (by decide) ?_ rfl
        clear hf; intro a hf
        refine st_skip hf (wantN hf rfl rfl hb) rfl (by decide) ?_ rfl
        clear hf; intro a hf
        refine st_pick (v := .bool false) hf rfl rfl (fun hb' => ?_) (fun hb' => ?_) (by decide) ?_
        · exact absurd (hb.symm.trans hb') (by decide)
        · rfl
        clear hf; intro a ha hf; clear ha
        refine st_nil hf (th_n ?_)
        exact ⟨hf.sub ⟨rfl, (by rw [hb]; rfl), trivial⟩, hp⟩
    · rintro a w ⟨hf, hp⟩
      refine st_move hf rfl rfl (by decide) ?_
      clear hf; intro a ha hf; clear ha
      refine wpList_cut 3 (fun a w => Fr 19 a [(18, .bool ((((decide (1 ≤ count0)) && (decide (count0 ≤ 255))) && (decide (1 ≤ length1))) && (decide (length1 ≤ 255))))] ∧ Hp S w0 w (ow)) ?_ ?_
      · rcases Bool.eq_false_or_eq_true (((decide (1 ≤ count0)) && (decide (count0 ≤ 255))) && (decide (1 ≤ length1))) with hb | hb
        · skip
          refine st_move hf (wantY hf rfl rfl hb) rfl (by decide) ?_
          clear hf; intro a ha hf; clear ha
          refine st_ileq hf (by decide) (wantY hf rfl rfl hb) rfl rfl ?_
          clear hf; intro a ha hf; clear ha
          refine st_pick (v := .bool (decide (length1 ≤ 255))) hf rfl rfl (fun hb' => ?_) (fun hb' => ?_) (by decide) ?_
          · rfl
          · exact absurd (hb.symm.trans hb') (by decide)
          clear hf; intro a ha hf; clear ha
          refine st_nil hf (th_n ?_)
          exact ⟨hf.sub ⟨(by rw [hb]; rfl), trivial⟩, hp⟩
        · skip
          refine st_skip hf (wantN hf rfl rfl hb) rfl (by decide) ?_ rfl
          clear hf; intro a hf
          refine st_skip hf (wantN hf rfl rfl hb) rfl (by decide) ?_ rfl
          clear hf; intro a hf
          refine st_pick (v := .bool false) hf rfl rfl (fun hb' => ?_) (fun hb' => ?_) (by decide) ?_
          · exact absurd (hb.symm.trans hb') (by decide)
          · rfl
          clear hf; intro a ha hf; clear ha
          refine st_nil hf (th_n ?_)
          exact ⟨hf.sub ⟨(by rw [hb]; rfl), trivial⟩, hp⟩
      · rintro a w ⟨hf, hp⟩
        refine st_assign hf rfl rfl (by decide) ?_
        clear hf; intro a ha hf; clear ha
        refine st_nil hf ?_
        refine th_n ?_
        refine wp_ret ?_
        obtain rfl := Option.some.inj h
        exact ⟨rfl, ⟨hf.sub ⟨rfl, trivial⟩, hp⟩⟩

noncomputable def f_foghornref17_Place (word0 : Int) (at1 : Int) (count2 : Int) (length3 : Int) : Option (Int × Int) := ((f_foghornref17_Of count2 length3).bind fun q1 => (if (((((!q1) || (decide (word0 < 0))) || (decide (count2 ≤ word0))) || (decide (at1 < 0))) || (decide (length3 ≤ at1))) = true then (some (0, 1)) else (some ((IntKind.i64.wrap ((IntKind.i64.wrap (at1 * count2)) + word0)), 0))))
theorem f_foghornref17_Place_c {S : Nat → Prop} {w0 w : World} {ow : List Res} (hp : Hp S w0 w ow) (word0 : Int) (at1 : Int) (count2 : Int) (length3 : Int) {r : (Int × Int)} (h : f_foghornref17_Place word0 at1 count2 length3 = some r) :
    Calls Try.prog 16 #[.int .i64 word0, .int .i64 at1, .int .i64 count2, .int .i64 length3] w (fun e w' => e = .returned (.tuple #[.int .i64 r.1, .int .i64 r.2]) ∧ Hp S w0 w' (ow)) := by
  unfold f_foghornref17_Place at h
  refine enter (n := 37) (args := [.int .i64 word0, .int .i64 at1, .int .i64 count2, .int .i64 length3]) Try.func16 rfl rfl (Nat.le_of_ble_eq_true rfl) fun a hf => ?_
  replace hf : Fr 37 a [(0, .int .i64 word0), (1, .int .i64 at1), (2, .int .i64 count2), (3, .int .i64 length3)] := hf
  refine wp_mono (Q := fun e a w => e = .ret ∧ Fr 37 a [(8, .int .i64 r.1), (9, .int .i64 r.2)] ∧ Hp S w0 w (ow)) ?_ ?_
  rotate_left
  · rintro e a w ⟨rfl, hf, hp⟩
    exact ret2 hf rfl rfl rfl ⟨rfl, hp⟩
  refine wp_seq ?_
  refine wp_reg ?_
  refine st_assign hf rfl rfl (by decide) ?_
  clear hf; intro a ha hf; clear ha
  refine st_assign hf rfl rfl (by decide) ?_
  clear hf; intro a ha hf; clear ha
  refine st_nil hf ?_
  refine th_n ?_
  refine wp_seq ?_
  refine wp_seq ?_
  refine wp_reg ?_
  refine st_move hf rfl rfl (by decide) ?_
  clear hf; intro a ha hf; clear ha
  refine st_move hf rfl rfl (by decide) ?_
  clear hf; intro a ha hf; clear ha
  obtain ⟨q1, hcall2, h⟩ := bnd h
  refine st_call hf (by decide) Try.func37 rfl rfl rfl rfl rfl (f_foghornref17_Of_c hp _ _ hcall2) ?_
  rintro _ w ⟨rfl, hp0⟩
  clear hp; have hp := hp0; clear hp0
  replace hp : Hp S w0 w (ow) := hp
  refine ⟨_, rfl, ?_⟩
  clear hf; intro a hf
  refine st_not hf (by decide) rfl rfl ?_
  clear hf; intro a ha hf; clear ha
  refine st_move hf rfl rfl (by decide) ?_
  clear hf; intro a ha hf; clear ha
  refine wpList_cut 3 (fun a w => Fr 37 a [(0, .int .i64 word0), (1, .int .i64 at1), (2, .int .i64 count2), (3, .int .i64 length3), (17, .bool ((!q1) || (decide (word0 < 0))))] ∧ Hp S w0 w (ow)) ?_ ?_
  · rcases Bool.eq_false_or_eq_true (!q1) with hb | hb
    · skip
      refine st_skip hf (wantN hf rfl rfl hb) rfl (by decide) ?_ rfl
      clear hf; intro a hf
      refine st_skip hf (wantN hf rfl rfl hb) rfl (by decide) ?_ rfl
      clear hf; intro a hf
      refine st_pick (v := .bool true) hf rfl rfl (fun hb' => ?_) (fun hb' => ?_) (by decide) ?_
      · rfl
      · exact absurd (hb.symm.trans hb') (by decide)
      clear hf; intro a ha hf; clear ha
      refine st_nil hf (th_n ?_)
      exact ⟨hf.sub ⟨rfl, rfl, rfl, rfl, (by rw [hb]; rfl), trivial⟩, hp⟩
    · skip
      refine st_move hf (wantY hf rfl rfl hb) rfl (by decide) ?_
      clear hf; intro a ha hf; clear ha
      refine st_ilss hf (by decide) (wantY hf rfl rfl hb) rfl rfl ?_
      clear hf; intro a ha hf; clear ha
      refine st_pick (v := .bool (decide (word0 < 0))) hf rfl rfl (fun hb' => ?_) (fun hb' => ?_) (by decide) ?_
      · exact absurd (hb.symm.trans hb') (by decide)
      · rfl
      clear hf; intro a ha hf; clear ha
      refine st_nil hf (th_n ?_)
      exact ⟨hf.sub ⟨rfl, rfl, rfl, rfl, (by rw [hb]; rfl), trivial⟩, hp⟩
  · rintro a w ⟨hf, hp⟩
    refine st_move hf rfl rfl (by decide) ?_
    clear hf; intro a ha hf; clear ha
    refine wpList_cut 4 (fun a w => Fr 37 a [(0, .int .i64 word0), (1, .int .i64 at1), (2, .int .i64 count2), (3, .int .i64 length3), (22, .bool (((!q1) || (decide (word0 < 0))) || (decide (count2 ≤ word0))))] ∧ Hp S w0 w (ow)) ?_ ?_
    · rcases Bool.eq_false_or_eq_true ((!q1) || (decide (word0 < 0))) with hb | hb
      · skip
        refine st_skip hf (wantN hf rfl rfl hb) rfl (by decide) ?_ rfl
        clear hf; intro a hf
        refine st_skip hf (wantN hf rfl rfl hb) rfl (by decide) ?_ rfl
        clear hf; intro a hf
        refine st_skip hf (wantN hf rfl rfl hb) rfl (by decide) ?_ rfl
        clear hf; intro a hf
        refine st_pick (v := .bool true) hf rfl rfl (fun hb' => ?_) (fun hb' => ?_) (by decide) ?_
        · rfl
        · exact absurd (hb.symm.trans hb') (by decide)
        clear hf; intro a ha hf; clear ha
        refine st_nil hf (th_n ?_)
        exact ⟨hf.sub ⟨rfl, rfl, rfl, rfl, (by rw [hb]; rfl), trivial⟩, hp⟩
      · skip
        refine st_move hf (wantY hf rfl rfl hb) rfl (by decide) ?_
        clear hf; intro a ha hf; clear ha
        refine st_move hf (wantY hf rfl rfl hb) rfl (by decide) ?_
        clear hf; intro a ha hf; clear ha
        refine st_igeq hf (by decide) (wantY hf rfl rfl hb) rfl rfl ?_
        clear hf; intro a ha hf; clear ha
        refine st_pick (v := .bool (decide (count2 ≤ word0))) hf rfl rfl (fun hb' => ?_) (fun hb' => ?_) (by decide) ?_
        · exact absurd (hb.symm.trans hb') (by decide)
        · rfl
        clear hf; intro a ha hf; clear ha
        refine st_nil hf (th_n ?_)
        exact ⟨hf.sub ⟨rfl, rfl, rfl, rfl, (by rw [hb]; rfl), trivial⟩, hp⟩
    · rintro a w ⟨hf, hp⟩
      refine st_move hf rfl rfl (by decide) ?_
      clear hf; intro a ha hf; clear ha
      refine wpList_cut 3 (fun a w => Fr 37 a [(0, .int .i64 word0), (1, .int .i64 at1), (2, .int .i64 count2), (3, .int .i64 length3), (26, .bool ((((!q1) || (decide (word0 < 0))) || (decide (count2 ≤ word0))) || (decide (at1 < 0))))] ∧ Hp S w0 w (ow)) ?_ ?_
      · rcases Bool.eq_false_or_eq_true (((!q1) || (decide (word0 < 0))) || (decide (count2 ≤ word0))) with hb | hb
        · skip
          refine st_skip hf (wantN hf rfl rfl hb) rfl (by decide) ?_ rfl
          clear hf; intro a hf
          refine st_skip hf (wantN hf rfl rfl hb) rfl (by decide) ?_ rfl
          clear hf; intro a hf
          refine st_pick (v := .bool true) hf rfl rfl (fun hb' => ?_) (fun hb' => ?_) (by decide) ?_
          · rfl
          · exact absurd (hb.symm.trans hb') (by decide)
          clear hf; intro a ha hf; clear ha
          refine st_nil hf (th_n ?_)
          exact ⟨hf.sub ⟨rfl, rfl, rfl, rfl, (by rw [hb]; rfl), trivial⟩, hp⟩
        · skip
          refine st_move hf (wantY hf rfl rfl hb) rfl (by decide) ?_
          clear hf; intro a ha hf; clear ha
          refine st_ilss hf (by decide) (wantY hf rfl rfl hb) rfl rfl ?_
          clear hf; intro a ha hf; clear ha
          refine st_pick (v := .bool (decide (at1 < 0))) hf rfl rfl (fun hb' => ?_) (fun hb' => ?_) (by decide) ?_
          · exact absurd (hb.symm.trans hb') (by decide)
          · rfl
          clear hf; intro a ha hf; clear ha
          refine st_nil hf (th_n ?_)
          exact ⟨hf.sub ⟨rfl, rfl, rfl, rfl, (by rw [hb]; rfl), trivial⟩, hp⟩
      · rintro a w ⟨hf, hp⟩
        refine st_move hf rfl rfl (by decide) ?_
        clear hf; intro a ha hf; clear ha
        refine wpList_cut 4 (fun a w => Fr 37 a [(0, .int .i64 word0), (1, .int .i64 at1), (2, .int .i64 count2), (31, .bool (((((!q1) || (decide (word0 < 0))) || (decide (count2 ≤ word0))) || (decide (at1 < 0))) || (decide (length3 ≤ at1))))] ∧ Hp S w0 w (ow)) ?_ ?_
        · rcases Bool.eq_false_or_eq_true ((((!q1) || (decide (word0 < 0))) || (decide (count2 ≤ word0))) || (decide (at1 < 0))) with hb | hb
          · skip
            refine st_skip hf (wantN hf rfl rfl hb) rfl (by decide) ?_ rfl
            clear hf; intro a hf
            refine st_skip hf (wantN hf rfl rfl hb) rfl (by decide) ?_ rfl
            clear hf; intro a hf
            refine st_skip hf (wantN hf rfl rfl hb) rfl (by decide) ?_ rfl
            clear hf; intro a hf
            refine st_pick (v := .bool true) hf rfl rfl (fun hb' => ?_) (fun hb' => ?_) (by decide) ?_
            · rfl
            · exact absurd (hb.symm.trans hb') (by decide)
            clear hf; intro a ha hf; clear ha
            refine st_nil hf (th_n ?_)
            exact ⟨hf.sub ⟨rfl, rfl, rfl, (by rw [hb]; rfl), trivial⟩, hp⟩
          · skip
            refine st_move hf (wantY hf rfl rfl hb) rfl (by decide) ?_
            clear hf; intro a ha hf; clear ha
            refine st_move hf (wantY hf rfl rfl hb) rfl (by decide) ?_
            clear hf; intro a ha hf; clear ha
            refine st_igeq hf (by decide) (wantY hf rfl rfl hb) rfl rfl ?_
            clear hf; intro a ha hf; clear ha
            refine st_pick (v := .bool (decide (length3 ≤ at1))) hf rfl rfl (fun hb' => ?_) (fun hb' => ?_) (by decide) ?_
            · exact absurd (hb.symm.trans hb') (by decide)
            · rfl
            clear hf; intro a ha hf; clear ha
            refine st_nil hf (th_n ?_)
            exact ⟨hf.sub ⟨rfl, rfl, rfl, (by rw [hb]; rfl), trivial⟩, hp⟩
        · rintro a w ⟨hf, hp⟩
          refine st_nil hf ?_
          refine th_n ?_
          refine wp_if hf rfl (fun hb => ?_) (fun hb => ?_)
          · replace h := ifT h hb
            refine wp_seq ?_
            refine wp_reg ?_
            refine st_assign hf rfl rfl (by decide) ?_
            clear hf; intro a ha hf; clear ha
            refine st_assign hf rfl rfl (by decide) ?_
            clear hf; intro a ha hf; clear ha
            refine st_nil hf ?_
            refine th_n ?_
            refine wp_ret ?_
            refine th_r ?_
            obtain rfl := Option.some.inj h
            exact ⟨rfl, ⟨hf.sub ⟨rfl, rfl, trivial⟩, hp⟩⟩
          · replace h := ifF h hb
            refine wp_skip ?_
            refine th_n ?_
            refine wp_seq ?_
            refine wp_reg ?_
            refine st_move hf rfl rfl (by decide) ?_
            clear hf; intro a ha hf; clear ha
            refine st_move hf rfl rfl (by decide) ?_
            clear hf; intro a ha hf; clear ha
            refine st_imul hf (by decide) rfl rfl rfl ?_
            clear hf; intro a ha hf; clear ha
            refine st_move hf rfl rfl (by decide) ?_
            clear hf; intro a ha hf; clear ha
            refine st_iadd hf (by decide) rfl rfl rfl ?_
            clear hf; intro a ha hf; clear ha
            refine st_assign hf rfl rfl (by decide) ?_
            clear hf; intro a ha hf; clear ha
            refine st_assign hf rfl rfl (by decide) ?_
            clear hf; intro a ha hf; clear ha
            refine st_nil hf ?_
            refine th_n ?_
            refine wp_ret ?_
            obtain rfl := Option.some.inj h
            exact ⟨rfl, ⟨hf.sub ⟨rfl, rfl, trivial⟩, hp⟩⟩

noncomputable def f_weave_may (count0 : Int) (length1 : Int) : Option Bool := (some ((((decide (1 ≤ count0)) && (decide (count0 ≤ 255))) && (decide (1 ≤ length1))) && (decide (length1 ≤ 255))))
theorem f_weave_may_c {S : Nat → Prop} {w0 w : World} {ow : List Res} (hp : Hp S w0 w ow) (count0 : Int) (length1 : Int) {r : Bool} (h : f_weave_may count0 length1 = some r) :
    Calls Try.prog 38 #[.int .i64 count0, .int .i64 length1] w (fun e w' => e = .returned (.bool r) ∧ Hp S w0 w' (ow)) := by
  unfold f_weave_may at h
  refine enter (n := 19) (args := [.int .i64 count0, .int .i64 length1]) Try.func38 rfl rfl (Nat.le_of_ble_eq_true rfl) fun a hf => ?_
  replace hf : Fr 19 a [(0, .int .i64 count0), (1, .int .i64 length1)] := hf
  refine wp_mono (Q := fun e a w => e = .ret ∧ Fr 19 a [(4, .bool r)] ∧ Hp S w0 w (ow)) ?_ ?_
  rotate_left
  · rintro e a w ⟨rfl, hf, hp⟩
    exact ret1 hf rfl rfl ⟨rfl, hp⟩
  refine wp_seq ?_
  refine wp_reg ?_
  refine st_assign hf rfl rfl (by decide) ?_
  clear hf; intro a ha hf; clear ha
  refine st_nil hf ?_
  refine th_n ?_
  refine wp_seq ?_
  refine wp_reg ?_
  refine st_move hf rfl rfl (by decide) ?_
  clear hf; intro a ha hf; clear ha
  refine st_igeq hf (by decide) rfl rfl rfl ?_
  clear hf; intro a ha hf; clear ha
  refine st_move hf rfl rfl (by decide) ?_
  clear hf; intro a ha hf; clear ha
  refine wpList_cut 3 (fun a w => Fr 19 a [(1, .int .i64 length1), (10, .bool ((decide (1 ≤ count0)) && (decide (count0 ≤ 255))))] ∧ Hp S w0 w (ow)) ?_ ?_
  · rcases Bool.eq_false_or_eq_true (decide (1 ≤ count0)) with hb | hb
    · skip
      refine st_move hf (wantY hf rfl rfl hb) rfl (by decide) ?_
      clear hf; intro a ha hf; clear ha
      refine st_ileq hf (by decide) (wantY hf rfl rfl hb) rfl rfl ?_
      clear hf; intro a ha hf; clear ha
      refine st_pick (v := .bool (decide (count0 ≤ 255))) hf rfl rfl (fun hb' => ?_) (fun hb' => ?_) (by decide) ?_
      · rfl
      · exact absurd (hb.symm.trans hb') (by decide)
      clear hf; intro a ha hf; clear ha
      refine st_nil hf (th_n ?_)
      exact ⟨hf.sub ⟨rfl, (by rw [hb]; rfl), trivial⟩, hp⟩
    · skip
      refine st_skip hf (wantN hf rfl rfl hb) rfl (by decide) ?_ rfl
      clear hf; intro a hf
      refine st_skip hf (wantN hf rfl rfl hb) rfl (by decide) ?_ rfl
      clear hf; intro a hf
      refine st_pick (v := .bool false) hf rfl rfl (fun hb' => ?_) (fun hb' => ?_) (by decide) ?_
      · exact absurd (hb.symm.trans hb') (by decide)
      · rfl
      clear hf; intro a ha hf; clear ha
      refine st_nil hf (th_n ?_)
      exact ⟨hf.sub ⟨rfl, (by rw [hb]; rfl), trivial⟩, hp⟩
  · rintro a w ⟨hf, hp⟩
    refine st_move hf rfl rfl (by decide) ?_
    clear hf; intro a ha hf; clear ha
    refine wpList_cut 3 (fun a w => Fr 19 a [(1, .int .i64 length1), (14, .bool (((decide (1 ≤ count0)) && (decide (count0 ≤ 255))) && (decide (1 ≤ length1))))] ∧ Hp S w0 w (ow)) ?_ ?_
    · rcases Bool.eq_false_or_eq_true ((decide (1 ≤ count0)) && (decide (count0 ≤ 255))) with hb | hb
      · skip
        refine st_move hf (wantY hf rfl rfl hb) rfl (by decide) ?_
        clear hf; intro a ha hf; clear ha
        refine st_igeq hf (by decide) (wantY hf rfl rfl hb) rfl rfl ?_
        clear hf; intro a ha hf; clear ha
        refine st_pick (v := .bool (decide (1 ≤ length1))) hf rfl rfl (fun hb' => ?_) (fun hb' => ?_) (by decide) ?_
        · rfl
        · exact absurd (hb.symm.trans hb') (by decide)
        clear hf; intro a ha hf; clear ha
        refine st_nil hf (th_n ?_)
        exact ⟨hf.sub ⟨rfl, (by rw [hb]; rfl), trivial⟩, hp⟩
      · skip
        refine st_skip hf (wantN hf rfl rfl hb) rfl (by decide) ?_ rfl
        clear hf; intro a hf
        refine st_skip hf (wantN hf rfl rfl hb) rfl (by decide) ?_ rfl
        clear hf; intro a hf
        refine st_pick (v := .bool false) hf rfl rfl (fun hb' => ?_) (fun hb' => ?_) (by decide) ?_
        · exact absurd (hb.symm.trans hb') (by decide)
        · rfl
        clear hf; intro a ha hf; clear ha
        refine st_nil hf (th_n ?_)
        exact ⟨hf.sub ⟨rfl, (by rw [hb]; rfl), trivial⟩, hp⟩
    · rintro a w ⟨hf, hp⟩
      refine st_move hf rfl rfl (by decide) ?_
      clear hf; intro a ha hf; clear ha
      refine wpList_cut 3 (fun a w => Fr 19 a [(18, .bool ((((decide (1 ≤ count0)) && (decide (count0 ≤ 255))) && (decide (1 ≤ length1))) && (decide (length1 ≤ 255))))] ∧ Hp S w0 w (ow)) ?_ ?_
      · rcases Bool.eq_false_or_eq_true (((decide (1 ≤ count0)) && (decide (count0 ≤ 255))) && (decide (1 ≤ length1))) with hb | hb
        · skip
          refine st_move hf (wantY hf rfl rfl hb) rfl (by decide) ?_
          clear hf; intro a ha hf; clear ha
          refine st_ileq hf (by decide) (wantY hf rfl rfl hb) rfl rfl ?_
          clear hf; intro a ha hf; clear ha
          refine st_pick (v := .bool (decide (length1 ≤ 255))) hf rfl rfl (fun hb' => ?_) (fun hb' => ?_) (by decide) ?_
          · rfl
          · exact absurd (hb.symm.trans hb') (by decide)
          clear hf; intro a ha hf; clear ha
          refine st_nil hf (th_n ?_)
          exact ⟨hf.sub ⟨(by rw [hb]; rfl), trivial⟩, hp⟩
        · skip
          refine st_skip hf (wantN hf rfl rfl hb) rfl (by decide) ?_ rfl
          clear hf; intro a hf
          refine st_skip hf (wantN hf rfl rfl hb) rfl (by decide) ?_ rfl
          clear hf; intro a hf
          refine st_pick (v := .bool false) hf rfl rfl (fun hb' => ?_) (fun hb' => ?_) (by decide) ?_
          · exact absurd (hb.symm.trans hb') (by decide)
          · rfl
          clear hf; intro a ha hf; clear ha
          refine st_nil hf (th_n ?_)
          exact ⟨hf.sub ⟨(by rw [hb]; rfl), trivial⟩, hp⟩
      · rintro a w ⟨hf, hp⟩
        refine st_assign hf rfl rfl (by decide) ?_
        clear hf; intro a ha hf; clear ha
        refine st_nil hf ?_
        refine th_n ?_
        refine wp_ret ?_
        obtain rfl := Option.some.inj h
        exact ⟨rfl, ⟨hf.sub ⟨rfl, trivial⟩, hp⟩⟩

noncomputable def f_weave_Place (word0 : Int) (at1 : Int) (count2 : Int) (length3 : Int) : Option (Int × Int) := ((f_weave_may count2 length3).bind fun q1 => (if (((((!q1) || (decide (word0 < 0))) || (decide (count2 ≤ word0))) || (decide (at1 < 0))) || (decide (length3 ≤ at1))) = true then (some (0, 1)) else (some ((IntKind.i64.wrap ((IntKind.i64.wrap (at1 * count2)) + word0)), 0))))
theorem f_weave_Place_c {S : Nat → Prop} {w0 w : World} {ow : List Res} (hp : Hp S w0 w ow) (word0 : Int) (at1 : Int) (count2 : Int) (length3 : Int) {r : (Int × Int)} (h : f_weave_Place word0 at1 count2 length3 = some r) :
    Calls Try.prog 17 #[.int .i64 word0, .int .i64 at1, .int .i64 count2, .int .i64 length3] w (fun e w' => e = .returned (.tuple #[.int .i64 r.1, .int .i64 r.2]) ∧ Hp S w0 w' (ow)) := by
  unfold f_weave_Place at h
  refine enter (n := 37) (args := [.int .i64 word0, .int .i64 at1, .int .i64 count2, .int .i64 length3]) Try.func17 rfl rfl (Nat.le_of_ble_eq_true rfl) fun a hf => ?_
  replace hf : Fr 37 a [(0, .int .i64 word0), (1, .int .i64 at1), (2, .int .i64 count2), (3, .int .i64 length3)] := hf
  refine wp_mono (Q := fun e a w => e = .ret ∧ Fr 37 a [(8, .int .i64 r.1), (9, .int .i64 r.2)] ∧ Hp S w0 w (ow)) ?_ ?_
  rotate_left
  · rintro e a w ⟨rfl, hf, hp⟩
    exact ret2 hf rfl rfl rfl ⟨rfl, hp⟩
  refine wp_seq ?_
  refine wp_reg ?_
  refine st_assign hf rfl rfl (by decide) ?_
  clear hf; intro a ha hf; clear ha
  refine st_assign hf rfl rfl (by decide) ?_
  clear hf; intro a ha hf; clear ha
  refine st_nil hf ?_
  refine th_n ?_
  refine wp_seq ?_
  refine wp_seq ?_
  refine wp_reg ?_
  refine st_move hf rfl rfl (by decide) ?_
  clear hf; intro a ha hf; clear ha
  refine st_move hf rfl rfl (by decide) ?_
  clear hf; intro a ha hf; clear ha
  obtain ⟨q1, hcall2, h⟩ := bnd h
  refine st_call hf (by decide) Try.func38 rfl rfl rfl rfl rfl (f_weave_may_c hp _ _ hcall2) ?_
  rintro _ w ⟨rfl, hp0⟩
  clear hp; have hp := hp0; clear hp0
  replace hp : Hp S w0 w (ow) := hp
  refine ⟨_, rfl, ?_⟩
  clear hf; intro a hf
  refine st_not hf (by decide) rfl rfl ?_
  clear hf; intro a ha hf; clear ha
  refine st_move hf rfl rfl (by decide) ?_
  clear hf; intro a ha hf; clear ha
  refine wpList_cut 3 (fun a w => Fr 37 a [(0, .int .i64 word0), (1, .int .i64 at1), (2, .int .i64 count2), (3, .int .i64 length3), (17, .bool ((!q1) || (decide (word0 < 0))))] ∧ Hp S w0 w (ow)) ?_ ?_
  · rcases Bool.eq_false_or_eq_true (!q1) with hb | hb
    · skip
      refine st_skip hf (wantN hf rfl rfl hb) rfl (by decide) ?_ rfl
      clear hf; intro a hf
      refine st_skip hf (wantN hf rfl rfl hb) rfl (by decide) ?_ rfl
      clear hf; intro a hf
      refine st_pick (v := .bool true) hf rfl rfl (fun hb' => ?_) (fun hb' => ?_) (by decide) ?_
      · rfl
      · exact absurd (hb.symm.trans hb') (by decide)
      clear hf; intro a ha hf; clear ha
      refine st_nil hf (th_n ?_)
      exact ⟨hf.sub ⟨rfl, rfl, rfl, rfl, (by rw [hb]; rfl), trivial⟩, hp⟩
    · skip
      refine st_move hf (wantY hf rfl rfl hb) rfl (by decide) ?_
      clear hf; intro a ha hf; clear ha
      refine st_ilss hf (by decide) (wantY hf rfl rfl hb) rfl rfl ?_
      clear hf; intro a ha hf; clear ha
      refine st_pick (v := .bool (decide (word0 < 0))) hf rfl rfl (fun hb' => ?_) (fun hb' => ?_) (by decide) ?_
      · exact absurd (hb.symm.trans hb') (by decide)
      · rfl
      clear hf; intro a ha hf; clear ha
      refine st_nil hf (th_n ?_)
      exact ⟨hf.sub ⟨rfl, rfl, rfl, rfl, (by rw [hb]; rfl), trivial⟩, hp⟩
  · rintro a w ⟨hf, hp⟩
    refine st_move hf rfl rfl (by decide) ?_
    clear hf; intro a ha hf; clear ha
    refine wpList_cut 4 (fun a w => Fr 37 a [(0, .int .i64 word0), (1, .int .i64 at1), (2, .int .i64 count2), (3, .int .i64 length3), (22, .bool (((!q1) || (decide (word0 < 0))) || (decide (count2 ≤ word0))))] ∧ Hp S w0 w (ow)) ?_ ?_
    · rcases Bool.eq_false_or_eq_true ((!q1) || (decide (word0 < 0))) with hb | hb
      · skip
        refine st_skip hf (wantN hf rfl rfl hb) rfl (by decide) ?_ rfl
        clear hf; intro a hf
        refine st_skip hf (wantN hf rfl rfl hb) rfl (by decide) ?_ rfl
        clear hf; intro a hf
        refine st_skip hf (wantN hf rfl rfl hb) rfl (by decide) ?_ rfl
        clear hf; intro a hf
        refine st_pick (v := .bool true) hf rfl rfl (fun hb' => ?_) (fun hb' => ?_) (by decide) ?_
        · rfl
        · exact absurd (hb.symm.trans hb') (by decide)
        clear hf; intro a ha hf; clear ha
        refine st_nil hf (th_n ?_)
        exact ⟨hf.sub ⟨rfl, rfl, rfl, rfl, (by rw [hb]; rfl), trivial⟩, hp⟩
      · skip
        refine st_move hf (wantY hf rfl rfl hb) rfl (by decide) ?_
        clear hf; intro a ha hf; clear ha
        refine st_move hf (wantY hf rfl rfl hb) rfl (by decide) ?_
        clear hf; intro a ha hf; clear ha
        refine st_igeq hf (by decide) (wantY hf rfl rfl hb) rfl rfl ?_
        clear hf; intro a ha hf; clear ha
        refine st_pick (v := .bool (decide (count2 ≤ word0))) hf rfl rfl (fun hb' => ?_) (fun hb' => ?_) (by decide) ?_
        · exact absurd (hb.symm.trans hb') (by decide)
        · rfl
        clear hf; intro a ha hf; clear ha
        refine st_nil hf (th_n ?_)
        exact ⟨hf.sub ⟨rfl, rfl, rfl, rfl, (by rw [hb]; rfl), trivial⟩, hp⟩
    · rintro a w ⟨hf, hp⟩
      refine st_move hf rfl rfl (by decide) ?_
      clear hf; intro a ha hf; clear ha
      refine wpList_cut 3 (fun a w => Fr 37 a [(0, .int .i64 word0), (1, .int .i64 at1), (2, .int .i64 count2), (3, .int .i64 length3), (26, .bool ((((!q1) || (decide (word0 < 0))) || (decide (count2 ≤ word0))) || (decide (at1 < 0))))] ∧ Hp S w0 w (ow)) ?_ ?_
      · rcases Bool.eq_false_or_eq_true (((!q1) || (decide (word0 < 0))) || (decide (count2 ≤ word0))) with hb | hb
        · skip
          refine st_skip hf (wantN hf rfl rfl hb) rfl (by decide) ?_ rfl
          clear hf; intro a hf
          refine st_skip hf (wantN hf rfl rfl hb) rfl (by decide) ?_ rfl
          clear hf; intro a hf
          refine st_pick (v := .bool true) hf rfl rfl (fun hb' => ?_) (fun hb' => ?_) (by decide) ?_
          · rfl
          · exact absurd (hb.symm.trans hb') (by decide)
          clear hf; intro a ha hf; clear ha
          refine st_nil hf (th_n ?_)
          exact ⟨hf.sub ⟨rfl, rfl, rfl, rfl, (by rw [hb]; rfl), trivial⟩, hp⟩
        · skip
          refine st_move hf (wantY hf rfl rfl hb) rfl (by decide) ?_
          clear hf; intro a ha hf; clear ha
          refine st_ilss hf (by decide) (wantY hf rfl rfl hb) rfl rfl ?_
          clear hf; intro a ha hf; clear ha
          refine st_pick (v := .bool (decide (at1 < 0))) hf rfl rfl (fun hb' => ?_) (fun hb' => ?_) (by decide) ?_
          · exact absurd (hb.symm.trans hb') (by decide)
          · rfl
          clear hf; intro a ha hf; clear ha
          refine st_nil hf (th_n ?_)
          exact ⟨hf.sub ⟨rfl, rfl, rfl, rfl, (by rw [hb]; rfl), trivial⟩, hp⟩
      · rintro a w ⟨hf, hp⟩
        refine st_move hf rfl rfl (by decide) ?_
        clear hf; intro a ha hf; clear ha
        refine wpList_cut 4 (fun a w => Fr 37 a [(0, .int .i64 word0), (1, .int .i64 at1), (2, .int .i64 count2), (31, .bool (((((!q1) || (decide (word0 < 0))) || (decide (count2 ≤ word0))) || (decide (at1 < 0))) || (decide (length3 ≤ at1))))] ∧ Hp S w0 w (ow)) ?_ ?_
        · rcases Bool.eq_false_or_eq_true ((((!q1) || (decide (word0 < 0))) || (decide (count2 ≤ word0))) || (decide (at1 < 0))) with hb | hb
          · skip
            refine st_skip hf (wantN hf rfl rfl hb) rfl (by decide) ?_ rfl
            clear hf; intro a hf
            refine st_skip hf (wantN hf rfl rfl hb) rfl (by decide) ?_ rfl
            clear hf; intro a hf
            refine st_skip hf (wantN hf rfl rfl hb) rfl (by decide) ?_ rfl
            clear hf; intro a hf
            refine st_pick (v := .bool true) hf rfl rfl (fun hb' => ?_) (fun hb' => ?_) (by decide) ?_
            · rfl
            · exact absurd (hb.symm.trans hb') (by decide)
            clear hf; intro a ha hf; clear ha
            refine st_nil hf (th_n ?_)
            exact ⟨hf.sub ⟨rfl, rfl, rfl, (by rw [hb]; rfl), trivial⟩, hp⟩
          · skip
            refine st_move hf (wantY hf rfl rfl hb) rfl (by decide) ?_
            clear hf; intro a ha hf; clear ha
            refine st_move hf (wantY hf rfl rfl hb) rfl (by decide) ?_
            clear hf; intro a ha hf; clear ha
            refine st_igeq hf (by decide) (wantY hf rfl rfl hb) rfl rfl ?_
            clear hf; intro a ha hf; clear ha
            refine st_pick (v := .bool (decide (length3 ≤ at1))) hf rfl rfl (fun hb' => ?_) (fun hb' => ?_) (by decide) ?_
            · exact absurd (hb.symm.trans hb') (by decide)
            · rfl
            clear hf; intro a ha hf; clear ha
            refine st_nil hf (th_n ?_)
            exact ⟨hf.sub ⟨rfl, rfl, rfl, (by rw [hb]; rfl), trivial⟩, hp⟩
        · rintro a w ⟨hf, hp⟩
          refine st_nil hf ?_
          refine th_n ?_
          refine wp_if hf rfl (fun hb => ?_) (fun hb => ?_)
          · replace h := ifT h hb
            refine wp_seq ?_
            refine wp_reg ?_
            refine st_assign hf rfl rfl (by decide) ?_
            clear hf; intro a ha hf; clear ha
            refine st_assign hf rfl rfl (by decide) ?_
            clear hf; intro a ha hf; clear ha
            refine st_nil hf ?_
            refine th_n ?_
            refine wp_ret ?_
            refine th_r ?_
            obtain rfl := Option.some.inj h
            exact ⟨rfl, ⟨hf.sub ⟨rfl, rfl, trivial⟩, hp⟩⟩
          · replace h := ifF h hb
            refine wp_skip ?_
            refine th_n ?_
            refine wp_seq ?_
            refine wp_reg ?_
            refine st_move hf rfl rfl (by decide) ?_
            clear hf; intro a ha hf; clear ha
            refine st_move hf rfl rfl (by decide) ?_
            clear hf; intro a ha hf; clear ha
            refine st_imul hf (by decide) rfl rfl rfl ?_
            clear hf; intro a ha hf; clear ha
            refine st_move hf rfl rfl (by decide) ?_
            clear hf; intro a ha hf; clear ha
            refine st_iadd hf (by decide) rfl rfl rfl ?_
            clear hf; intro a ha hf; clear ha
            refine st_assign hf rfl rfl (by decide) ?_
            clear hf; intro a ha hf; clear ha
            refine st_assign hf rfl rfl (by decide) ?_
            clear hf; intro a ha hf; clear ha
            refine st_nil hf ?_
            refine th_n ?_
            refine wp_ret ?_
            obtain rfl := Option.some.inj h
            exact ⟨rfl, ⟨hf.sub ⟨rfl, rfl, trivial⟩, hp⟩⟩

noncomputable def f_foghornref17_Back (place0 : Int) (count1 : Int) (length2 : Int) : Option (Int × Int × Int) := ((f_foghornref17_Of count1 length2).bind fun q1 => (if (((!q1) || (decide (place0 < 0))) || (decide ((IntKind.i64.wrap (count1 * length2)) ≤ place0))) = true then (some (0, 0, 1)) else (if count1 ≠ 0 then (if count1 ≠ 0 then (some (((place0).tmod count1), (IntKind.i64.wrap ((place0).tdiv count1)), 0)) else none) else none)))
theorem f_foghornref17_Back_c {S : Nat → Prop} {w0 w : World} {ow : List Res} (hp : Hp S w0 w ow) (place0 : Int) (count1 : Int) (length2 : Int) {r : (Int × Int × Int)} (h : f_foghornref17_Back place0 count1 length2 = some r) :
    Calls Try.prog 18 #[.int .i64 place0, .int .i64 count1, .int .i64 length2] w (fun e w' => e = .returned (.tuple #[.int .i64 r.1, .int .i64 r.2.1, .int .i64 r.2.2]) ∧ Hp S w0 w' (ow)) := by
  unfold f_foghornref17_Back at h
  refine enter (n := 30) (args := [.int .i64 place0, .int .i64 count1, .int .i64 length2]) Try.func18 rfl rfl (Nat.le_of_ble_eq_true rfl) fun a hf => ?_
  replace hf : Fr 30 a [(0, .int .i64 place0), (1, .int .i64 count1), (2, .int .i64 length2)] := hf
  refine wp_mono (Q := fun e a w => e = .ret ∧ Fr 30 a [(6, .int .i64 r.1), (7, .int .i64 r.2.1), (8, .int .i64 r.2.2)] ∧ Hp S w0 w (ow)) ?_ ?_
  rotate_left
  · rintro e a w ⟨rfl, hf, hp⟩
    exact ret3 hf rfl rfl rfl rfl ⟨rfl, hp⟩
  refine wp_seq ?_
  refine wp_reg ?_
  refine st_assign hf rfl rfl (by decide) ?_
  clear hf; intro a ha hf; clear ha
  refine st_assign hf rfl rfl (by decide) ?_
  clear hf; intro a ha hf; clear ha
  refine st_assign hf rfl rfl (by decide) ?_
  clear hf; intro a ha hf; clear ha
  refine st_nil hf ?_
  refine th_n ?_
  refine wp_seq ?_
  refine wp_seq ?_
  refine wp_reg ?_
  refine st_move hf rfl rfl (by decide) ?_
  clear hf; intro a ha hf; clear ha
  refine st_move hf rfl rfl (by decide) ?_
  clear hf; intro a ha hf; clear ha
  obtain ⟨q1, hcall2, h⟩ := bnd h
  refine st_call hf (by decide) Try.func37 rfl rfl rfl rfl rfl (f_foghornref17_Of_c hp _ _ hcall2) ?_
  rintro _ w ⟨rfl, hp0⟩
  clear hp; have hp := hp0; clear hp0
  replace hp : Hp S w0 w (ow) := hp
  refine ⟨_, rfl, ?_⟩
  clear hf; intro a hf
  refine st_not hf (by decide) rfl rfl ?_
  clear hf; intro a ha hf; clear ha
  refine st_move hf rfl rfl (by decide) ?_
  clear hf; intro a ha hf; clear ha
  refine wpList_cut 3 (fun a w => Fr 30 a [(0, .int .i64 place0), (1, .int .i64 count1), (2, .int .i64 length2), (16, .bool ((!q1) || (decide (place0 < 0))))] ∧ Hp S w0 w (ow)) ?_ ?_
  · rcases Bool.eq_false_or_eq_true (!q1) with hb | hb
    · skip
      refine st_skip hf (wantN hf rfl rfl hb) rfl (by decide) ?_ rfl
      clear hf; intro a hf
      refine st_skip hf (wantN hf rfl rfl hb) rfl (by decide) ?_ rfl
      clear hf; intro a hf
      refine st_pick (v := .bool true) hf rfl rfl (fun hb' => ?_) (fun hb' => ?_) (by decide) ?_
      · rfl
      · exact absurd (hb.symm.trans hb') (by decide)
      clear hf; intro a ha hf; clear ha
      refine st_nil hf (th_n ?_)
      exact ⟨hf.sub ⟨rfl, rfl, rfl, (by rw [hb]; rfl), trivial⟩, hp⟩
    · skip
      refine st_move hf (wantY hf rfl rfl hb) rfl (by decide) ?_
      clear hf; intro a ha hf; clear ha
      refine st_ilss hf (by decide) (wantY hf rfl rfl hb) rfl rfl ?_
      clear hf; intro a ha hf; clear ha
      refine st_pick (v := .bool (decide (place0 < 0))) hf rfl rfl (fun hb' => ?_) (fun hb' => ?_) (by decide) ?_
      · exact absurd (hb.symm.trans hb') (by decide)
      · rfl
      clear hf; intro a ha hf; clear ha
      refine st_nil hf (th_n ?_)
      exact ⟨hf.sub ⟨rfl, rfl, rfl, (by rw [hb]; rfl), trivial⟩, hp⟩
  · rintro a w ⟨hf, hp⟩
    refine st_move hf rfl rfl (by decide) ?_
    clear hf; intro a ha hf; clear ha
    refine wpList_cut 6 (fun a w => Fr 30 a [(0, .int .i64 place0), (1, .int .i64 count1), (23, .bool (((!q1) || (decide (place0 < 0))) || (decide ((IntKind.i64.wrap (count1 * length2)) ≤ place0))))] ∧ Hp S w0 w (ow)) ?_ ?_
    · rcases Bool.eq_false_or_eq_true ((!q1) || (decide (place0 < 0))) with hb | hb
      · skip
        refine st_skip hf (wantN hf rfl rfl hb) rfl (by decide) ?_ rfl
        clear hf; intro a hf
        refine st_skip hf (wantN hf rfl rfl hb) rfl (by decide) ?_ rfl
        clear hf; intro a hf
        refine st_skip hf (wantN hf rfl rfl hb) rfl (by decide) ?_ rfl
        clear hf; intro a hf
        refine st_skip hf (wantN hf rfl rfl hb) rfl (by decide) ?_ rfl
        clear hf; intro a hf
        refine st_skip hf (wantN hf rfl rfl hb) rfl (by decide) ?_ rfl
        clear hf; intro a hf
        refine st_pick (v := .bool true) hf rfl rfl (fun hb' => ?_) (fun hb' => ?_) (by decide) ?_
        · rfl
        · exact absurd (hb.symm.trans hb') (by decide)
        clear hf; intro a ha hf; clear ha
        refine st_nil hf (th_n ?_)
        exact ⟨hf.sub ⟨rfl, rfl, (by rw [hb]; rfl), trivial⟩, hp⟩
      · skip
        refine st_move hf (wantY hf rfl rfl hb) rfl (by decide) ?_
        clear hf; intro a ha hf; clear ha
        refine st_move hf (wantY hf rfl rfl hb) rfl (by decide) ?_
        clear hf; intro a ha hf; clear ha
        refine st_move hf (wantY hf rfl rfl hb) rfl (by decide) ?_
        clear hf; intro a ha hf; clear ha
        refine st_imul hf (by decide) (wantY hf rfl rfl hb) rfl rfl ?_
        clear hf; intro a ha hf; clear ha
        refine st_igeq hf (by decide) (wantY hf rfl rfl hb) rfl rfl ?_
        clear hf; intro a ha hf; clear ha
        refine st_pick (v := .bool (decide ((IntKind.i64.wrap (count1 * length2)) ≤ place0))) hf rfl rfl (fun hb' => ?_) (fun hb' => ?_) (by decide) ?_
        · exact absurd (hb.symm.trans hb') (by decide)
        · rfl
        clear hf; intro a ha hf; clear ha
        refine st_nil hf (th_n ?_)
        exact ⟨hf.sub ⟨rfl, rfl, (by rw [hb]; rfl), trivial⟩, hp⟩
    · rintro a w ⟨hf, hp⟩
      refine st_nil hf ?_
      refine th_n ?_
      refine wp_if hf rfl (fun hb => ?_) (fun hb => ?_)
      · replace h := ifT h hb
        refine wp_seq ?_
        refine wp_reg ?_
        refine st_assign hf rfl rfl (by decide) ?_
        clear hf; intro a ha hf; clear ha
        refine st_assign hf rfl rfl (by decide) ?_
        clear hf; intro a ha hf; clear ha
        refine st_assign hf rfl rfl (by decide) ?_
        clear hf; intro a ha hf; clear ha
        refine st_nil hf ?_
        refine th_n ?_
        refine wp_ret ?_
        refine th_r ?_
        obtain rfl := Option.some.inj h
        exact ⟨rfl, ⟨hf.sub ⟨rfl, rfl, rfl, trivial⟩, hp⟩⟩
      · replace h := ifF h hb
        refine wp_skip ?_
        refine th_n ?_
        refine wp_seq ?_
        obtain ⟨hc3, h⟩ := chk h
        obtain ⟨hc4, h⟩ := chk h
        refine wp_cutN (fun a w => Fr 30 a [(6, .int .i64 ((place0).tmod count1)), (7, .int .i64 (IntKind.i64.wrap ((place0).tdiv count1))), (8, .int .i64 0)] ∧ Hp S w0 w (ow)) ?_ ?_
        · have hp := hp.same (Same.drew w)
          refine dr_begin' (fun a w => Fr 30 a [(6, .int .i64 ((place0).tmod count1)), (7, .int .i64 (IntKind.i64.wrap ((place0).tdiv count1))), (8, .int .i64 0)] ∧ Hp S w0 w (ow)) (fun w => True) [] (by kernel_rfl) ?_
          refine dr_take 0 (.int .i64 place0) rfl (by kernel_rfl) (by kernel_rfl) (by kernel_rfl) (by kernel_rfl) rfl rfl hf (by decide) rfl (fun w hp => ?_) trivial ?_
          · skip
            refine st_move hf rfl rfl (by decide) ?_
            clear hf; intro a ha hf
            exact st_nil hf (th_n ⟨ha, rfl⟩)
          clear hf; intro a hf
          refine dr_take 1 (.int .i64 count1) rfl (by kernel_rfl) (by kernel_rfl) (by kernel_rfl) (by kernel_rfl) rfl rfl hf (by decide) rfl (fun w hp => ?_) trivial ?_
          · skip
            refine st_move hf rfl rfl (by decide) ?_
            clear hf; intro a ha hf
            exact st_nil hf (th_n ⟨ha, rfl⟩)
          clear hf; intro a hf
          refine dr_take 2 (.int .i64 ((place0).tmod count1)) rfl (by kernel_rfl) (by kernel_rfl) (by kernel_rfl) (by kernel_rfl) rfl rfl hf (by decide) rfl (fun w hp => ?_) trivial ?_
          · skip
            refine st_irem hf (by decide) rfl rfl rfl hc3 ?_
            clear hf; intro a ha hf
            exact st_nil hf (th_n ⟨ha, rfl⟩)
          clear hf; intro a hf
          refine dr_take 3 (.int .i64 place0) rfl (by kernel_rfl) (by kernel_rfl) (by kernel_rfl) (by kernel_rfl) rfl rfl hf (by decide) rfl (fun w hp => ?_) trivial ?_
          · skip
            refine st_move hf rfl rfl (by decide) ?_
            clear hf; intro a ha hf
            exact st_nil hf (th_n ⟨ha, rfl⟩)
          clear hf; intro a hf
          refine dr_take 4 (.int .i64 count1) rfl (by kernel_rfl) (by kernel_rfl) (by kernel_rfl) (by kernel_rfl) rfl rfl hf (by decide) rfl (fun w hp => ?_) trivial ?_
          · skip
            refine st_move hf rfl rfl (by decide) ?_
            clear hf; intro a ha hf
            exact st_nil hf (th_n ⟨ha, rfl⟩)
          clear hf; intro a hf
          refine dr_take 5 (.int .i64 (IntKind.i64.wrap ((place0).tdiv count1))) rfl (by kernel_rfl) (by kernel_rfl) (by kernel_rfl) (by kernel_rfl) rfl rfl hf (by decide) rfl (fun w hp => ?_) trivial ?_
          · skip
            refine st_iquo hf (by decide) rfl rfl rfl hc4 ?_
            clear hf; intro a ha hf
            exact st_nil hf (th_n ⟨ha, rfl⟩)
          clear hf; intro a hf
          refine dr_take 6 (.int .i64 ((place0).tmod count1)) rfl (by kernel_rfl) (by kernel_rfl) (by kernel_rfl) (by kernel_rfl) rfl rfl hf (by decide) rfl (fun w hp => ?_) trivial ?_
          · skip
            refine st_assign hf rfl rfl (by decide) ?_
            clear hf; intro a ha hf
            exact st_nil hf (th_n ⟨ha, rfl⟩)
          clear hf; intro a hf
          refine dr_take 7 (.int .i64 (IntKind.i64.wrap ((place0).tdiv count1))) rfl (by kernel_rfl) (by kernel_rfl) (by kernel_rfl) (by kernel_rfl) rfl rfl hf (by decide) rfl (fun w hp => ?_) trivial ?_
          · skip
            refine st_assign hf rfl rfl (by decide) ?_
            clear hf; intro a ha hf
            exact st_nil hf (th_n ⟨ha, rfl⟩)
          clear hf; intro a hf
          refine dr_take 8 (.int .i64 0) rfl (by kernel_rfl) (by kernel_rfl) (by kernel_rfl) (by kernel_rfl) rfl rfl hf (by decide) rfl (fun w hp => ?_) trivial ?_
          · skip
            refine st_assign hf rfl rfl (by decide) ?_
            clear hf; intro a ha hf
            exact st_nil hf (th_n ⟨ha, rfl⟩)
          clear hf; intro a hf
          refine dr_end (by kernel_rfl) ?_ _
          exact ⟨hf.sub ⟨rfl, rfl, rfl, trivial⟩, hp⟩
        · rintro a w ⟨hf, hp⟩
          refine th_n ?_
          refine wp_ret ?_
          obtain rfl := Option.some.inj h
          exact ⟨rfl, ⟨hf.sub ⟨rfl, rfl, rfl, trivial⟩, hp⟩⟩

noncomputable def f_weave_Back (place0 : Int) (count1 : Int) (length2 : Int) : Option (Int × Int × Int) := ((f_weave_may count1 length2).bind fun q1 => (if (((!q1) || (decide (place0 < 0))) || (decide ((IntKind.i64.wrap (count1 * length2)) ≤ place0))) = true then (some (0, 0, 1)) else (if count1 ≠ 0 then (if count1 ≠ 0 then (some (((place0).tmod count1), (IntKind.i64.wrap ((place0).tdiv count1)), 0)) else none) else none)))
theorem f_weave_Back_c {S : Nat → Prop} {w0 w : World} {ow : List Res} (hp : Hp S w0 w ow) (place0 : Int) (count1 : Int) (length2 : Int) {r : (Int × Int × Int)} (h : f_weave_Back place0 count1 length2 = some r) :
    Calls Try.prog 19 #[.int .i64 place0, .int .i64 count1, .int .i64 length2] w (fun e w' => e = .returned (.tuple #[.int .i64 r.1, .int .i64 r.2.1, .int .i64 r.2.2]) ∧ Hp S w0 w' (ow)) := by
  unfold f_weave_Back at h
  refine enter (n := 30) (args := [.int .i64 place0, .int .i64 count1, .int .i64 length2]) Try.func19 rfl rfl (Nat.le_of_ble_eq_true rfl) fun a hf => ?_
  replace hf : Fr 30 a [(0, .int .i64 place0), (1, .int .i64 count1), (2, .int .i64 length2)] := hf
  refine wp_mono (Q := fun e a w => e = .ret ∧ Fr 30 a [(6, .int .i64 r.1), (7, .int .i64 r.2.1), (8, .int .i64 r.2.2)] ∧ Hp S w0 w (ow)) ?_ ?_
  rotate_left
  · rintro e a w ⟨rfl, hf, hp⟩
    exact ret3 hf rfl rfl rfl rfl ⟨rfl, hp⟩
  refine wp_seq ?_
  refine wp_reg ?_
  refine st_assign hf rfl rfl (by decide) ?_
  clear hf; intro a ha hf; clear ha
  refine st_assign hf rfl rfl (by decide) ?_
  clear hf; intro a ha hf; clear ha
  refine st_assign hf rfl rfl (by decide) ?_
  clear hf; intro a ha hf; clear ha
  refine st_nil hf ?_
  refine th_n ?_
  refine wp_seq ?_
  refine wp_seq ?_
  refine wp_reg ?_
  refine st_move hf rfl rfl (by decide) ?_
  clear hf; intro a ha hf; clear ha
  refine st_move hf rfl rfl (by decide) ?_
  clear hf; intro a ha hf; clear ha
  obtain ⟨q1, hcall2, h⟩ := bnd h
  refine st_call hf (by decide) Try.func38 rfl rfl rfl rfl rfl (f_weave_may_c hp _ _ hcall2) ?_
  rintro _ w ⟨rfl, hp0⟩
  clear hp; have hp := hp0; clear hp0
  replace hp : Hp S w0 w (ow) := hp
  refine ⟨_, rfl, ?_⟩
  clear hf; intro a hf
  refine st_not hf (by decide) rfl rfl ?_
  clear hf; intro a ha hf; clear ha
  refine st_move hf rfl rfl (by decide) ?_
  clear hf; intro a ha hf; clear ha
  refine wpList_cut 3 (fun a w => Fr 30 a [(0, .int .i64 place0), (1, .int .i64 count1), (2, .int .i64 length2), (16, .bool ((!q1) || (decide (place0 < 0))))] ∧ Hp S w0 w (ow)) ?_ ?_
  · rcases Bool.eq_false_or_eq_true (!q1) with hb | hb
    · skip
      refine st_skip hf (wantN hf rfl rfl hb) rfl (by decide) ?_ rfl
      clear hf; intro a hf
      refine st_skip hf (wantN hf rfl rfl hb) rfl (by decide) ?_ rfl
      clear hf; intro a hf
      refine st_pick (v := .bool true) hf rfl rfl (fun hb' => ?_) (fun hb' => ?_) (by decide) ?_
      · rfl
      · exact absurd (hb.symm.trans hb') (by decide)
      clear hf; intro a ha hf; clear ha
      refine st_nil hf (th_n ?_)
      exact ⟨hf.sub ⟨rfl, rfl, rfl, (by rw [hb]; rfl), trivial⟩, hp⟩
    · skip
      refine st_move hf (wantY hf rfl rfl hb) rfl (by decide) ?_
      clear hf; intro a ha hf; clear ha
      refine st_ilss hf (by decide) (wantY hf rfl rfl hb) rfl rfl ?_
      clear hf; intro a ha hf; clear ha
      refine st_pick (v := .bool (decide (place0 < 0))) hf rfl rfl (fun hb' => ?_) (fun hb' => ?_) (by decide) ?_
      · exact absurd (hb.symm.trans hb') (by decide)
      · rfl
      clear hf; intro a ha hf; clear ha
      refine st_nil hf (th_n ?_)
      exact ⟨hf.sub ⟨rfl, rfl, rfl, (by rw [hb]; rfl), trivial⟩, hp⟩
  · rintro a w ⟨hf, hp⟩
    refine st_move hf rfl rfl (by decide) ?_
    clear hf; intro a ha hf; clear ha
    refine wpList_cut 6 (fun a w => Fr 30 a [(0, .int .i64 place0), (1, .int .i64 count1), (23, .bool (((!q1) || (decide (place0 < 0))) || (decide ((IntKind.i64.wrap (count1 * length2)) ≤ place0))))] ∧ Hp S w0 w (ow)) ?_ ?_
    · rcases Bool.eq_false_or_eq_true ((!q1) || (decide (place0 < 0))) with hb | hb
      · skip
        refine st_skip hf (wantN hf rfl rfl hb) rfl (by decide) ?_ rfl
        clear hf; intro a hf
        refine st_skip hf (wantN hf rfl rfl hb) rfl (by decide) ?_ rfl
        clear hf; intro a hf
        refine st_skip hf (wantN hf rfl rfl hb) rfl (by decide) ?_ rfl
        clear hf; intro a hf
        refine st_skip hf (wantN hf rfl rfl hb) rfl (by decide) ?_ rfl
        clear hf; intro a hf
        refine st_skip hf (wantN hf rfl rfl hb) rfl (by decide) ?_ rfl
        clear hf; intro a hf
        refine st_pick (v := .bool true) hf rfl rfl (fun hb' => ?_) (fun hb' => ?_) (by decide) ?_
        · rfl
        · exact absurd (hb.symm.trans hb') (by decide)
        clear hf; intro a ha hf; clear ha
        refine st_nil hf (th_n ?_)
        exact ⟨hf.sub ⟨rfl, rfl, (by rw [hb]; rfl), trivial⟩, hp⟩
      · skip
        refine st_move hf (wantY hf rfl rfl hb) rfl (by decide) ?_
        clear hf; intro a ha hf; clear ha
        refine st_move hf (wantY hf rfl rfl hb) rfl (by decide) ?_
        clear hf; intro a ha hf; clear ha
        refine st_move hf (wantY hf rfl rfl hb) rfl (by decide) ?_
        clear hf; intro a ha hf; clear ha
        refine st_imul hf (by decide) (wantY hf rfl rfl hb) rfl rfl ?_
        clear hf; intro a ha hf; clear ha
        refine st_igeq hf (by decide) (wantY hf rfl rfl hb) rfl rfl ?_
        clear hf; intro a ha hf; clear ha
        refine st_pick (v := .bool (decide ((IntKind.i64.wrap (count1 * length2)) ≤ place0))) hf rfl rfl (fun hb' => ?_) (fun hb' => ?_) (by decide) ?_
        · exact absurd (hb.symm.trans hb') (by decide)
        · rfl
        clear hf; intro a ha hf; clear ha
        refine st_nil hf (th_n ?_)
        exact ⟨hf.sub ⟨rfl, rfl, (by rw [hb]; rfl), trivial⟩, hp⟩
    · rintro a w ⟨hf, hp⟩
      refine st_nil hf ?_
      refine th_n ?_
      refine wp_if hf rfl (fun hb => ?_) (fun hb => ?_)
      · replace h := ifT h hb
        refine wp_seq ?_
        refine wp_reg ?_
        refine st_assign hf rfl rfl (by decide) ?_
        clear hf; intro a ha hf; clear ha
        refine st_assign hf rfl rfl (by decide) ?_
        clear hf; intro a ha hf; clear ha
        refine st_assign hf rfl rfl (by decide) ?_
        clear hf; intro a ha hf; clear ha
        refine st_nil hf ?_
        refine th_n ?_
        refine wp_ret ?_
        refine th_r ?_
        obtain rfl := Option.some.inj h
        exact ⟨rfl, ⟨hf.sub ⟨rfl, rfl, rfl, trivial⟩, hp⟩⟩
      · replace h := ifF h hb
        refine wp_skip ?_
        refine th_n ?_
        refine wp_seq ?_
        obtain ⟨hc3, h⟩ := chk h
        obtain ⟨hc4, h⟩ := chk h
        refine wp_cutN (fun a w => Fr 30 a [(6, .int .i64 ((place0).tmod count1)), (7, .int .i64 (IntKind.i64.wrap ((place0).tdiv count1))), (8, .int .i64 0)] ∧ Hp S w0 w (ow)) ?_ ?_
        · have hp := hp.same (Same.drew w)
          refine dr_begin' (fun a w => Fr 30 a [(6, .int .i64 ((place0).tmod count1)), (7, .int .i64 (IntKind.i64.wrap ((place0).tdiv count1))), (8, .int .i64 0)] ∧ Hp S w0 w (ow)) (fun w => True) [] (by kernel_rfl) ?_
          refine dr_take 0 (.int .i64 place0) rfl (by kernel_rfl) (by kernel_rfl) (by kernel_rfl) (by kernel_rfl) rfl rfl hf (by decide) rfl (fun w hp => ?_) trivial ?_
          · skip
            refine st_move hf rfl rfl (by decide) ?_
            clear hf; intro a ha hf
            exact st_nil hf (th_n ⟨ha, rfl⟩)
          clear hf; intro a hf
          refine dr_take 1 (.int .i64 count1) rfl (by kernel_rfl) (by kernel_rfl) (by kernel_rfl) (by kernel_rfl) rfl rfl hf (by decide) rfl (fun w hp => ?_) trivial ?_
          · skip
            refine st_move hf rfl rfl (by decide) ?_
            clear hf; intro a ha hf
            exact st_nil hf (th_n ⟨ha, rfl⟩)
          clear hf; intro a hf
          refine dr_take 2 (.int .i64 ((place0).tmod count1)) rfl (by kernel_rfl) (by kernel_rfl) (by kernel_rfl) (by kernel_rfl) rfl rfl hf (by decide) rfl (fun w hp => ?_) trivial ?_
          · skip
            refine st_irem hf (by decide) rfl rfl rfl hc3 ?_
            clear hf; intro a ha hf
            exact st_nil hf (th_n ⟨ha, rfl⟩)
          clear hf; intro a hf
          refine dr_take 3 (.int .i64 place0) rfl (by kernel_rfl) (by kernel_rfl) (by kernel_rfl) (by kernel_rfl) rfl rfl hf (by decide) rfl (fun w hp => ?_) trivial ?_
          · skip
            refine st_move hf rfl rfl (by decide) ?_
            clear hf; intro a ha hf
            exact st_nil hf (th_n ⟨ha, rfl⟩)
          clear hf; intro a hf
          refine dr_take 4 (.int .i64 count1) rfl (by kernel_rfl) (by kernel_rfl) (by kernel_rfl) (by kernel_rfl) rfl rfl hf (by decide) rfl (fun w hp => ?_) trivial ?_
          · skip
            refine st_move hf rfl rfl (by decide) ?_
            clear hf; intro a ha hf
            exact st_nil hf (th_n ⟨ha, rfl⟩)
          clear hf; intro a hf
          refine dr_take 5 (.int .i64 (IntKind.i64.wrap ((place0).tdiv count1))) rfl (by kernel_rfl) (by kernel_rfl) (by kernel_rfl) (by kernel_rfl) rfl rfl hf (by decide) rfl (fun w hp => ?_) trivial ?_
          · skip
            refine st_iquo hf (by decide) rfl rfl rfl hc4 ?_
            clear hf; intro a ha hf
            exact st_nil hf (th_n ⟨ha, rfl⟩)
          clear hf; intro a hf
          refine dr_take 6 (.int .i64 ((place0).tmod count1)) rfl (by kernel_rfl) (by kernel_rfl) (by kernel_rfl) (by kernel_rfl) rfl rfl hf (by decide) rfl (fun w hp => ?_) trivial ?_
          · skip
            refine st_assign hf rfl rfl (by decide) ?_
            clear hf; intro a ha hf
            exact st_nil hf (th_n ⟨ha, rfl⟩)
          clear hf; intro a hf
          refine dr_take 7 (.int .i64 (IntKind.i64.wrap ((place0).tdiv count1))) rfl (by kernel_rfl) (by kernel_rfl) (by kernel_rfl) (by kernel_rfl) rfl rfl hf (by decide) rfl (fun w hp => ?_) trivial ?_
          · skip
            refine st_assign hf rfl rfl (by decide) ?_
            clear hf; intro a ha hf
            exact st_nil hf (th_n ⟨ha, rfl⟩)
          clear hf; intro a hf
          refine dr_take 8 (.int .i64 0) rfl (by kernel_rfl) (by kernel_rfl) (by kernel_rfl) (by kernel_rfl) rfl rfl hf (by decide) rfl (fun w hp => ?_) trivial ?_
          · skip
            refine st_assign hf rfl rfl (by decide) ?_
            clear hf; intro a ha hf
            exact st_nil hf (th_n ⟨ha, rfl⟩)
          clear hf; intro a hf
          refine dr_end (by kernel_rfl) ?_ _
          exact ⟨hf.sub ⟨rfl, rfl, rfl, trivial⟩, hp⟩
        · rintro a w ⟨hf, hp⟩
          refine th_n ?_
          refine wp_ret ?_
          obtain rfl := Option.some.inj h
          exact ⟨rfl, ⟨hf.sub ⟨rfl, rfl, rfl, trivial⟩, hp⟩⟩

noncomputable def f_foghornref17_Hit.s1c (to1 : Int) (count2 : Int) (out10 : (List Int)) (p11 : Int) : Option (((List Int) × Int) ⊕ (List Int)) := (if (decide (p11 < to1)) = true then (if count2 ≠ 0 then (if 0 ≤ ((p11).tmod count2) ∧ ((p11).tmod count2) < (out10.length : Int) then (if 0 ≤ ((p11).tmod count2) ∧ ((p11).tmod count2) < (out10.length : Int) then (some (Sum.inl ((out10.set (((p11).tmod count2)).toNat (IntKind.i64.wrap ((gt out10 ((p11).tmod count2)) + 1))), (IntKind.i64.wrap (p11 + 1))))) else none) else none) else none) else (some (Sum.inr out10)))
noncomputable def f_foghornref17_Hit.s1 (to1 : Int) (count2 : Int) (s : ((List Int) × Int)) : Option (((List Int) × Int) ⊕ (List Int)) := f_foghornref17_Hit.s1c to1 count2 s.1 s.2
noncomputable def f_foghornref17_Hit (from0 : Int) (to1 : Int) (count2 : Int) (length3 : Int) : Option ((List Int) × Int) := ((f_foghornref17_Of count2 length3).bind fun q1 => (if ((((!q1) || (decide (from0 < 0))) || (decide (to1 < from0))) || (decide ((IntKind.i64.wrap (count2 * length3)) < to1))) = true then (some ([], 1)) else (if 0 ≤ count2 ∧ count2 ≤ count2 ∧ count2 * 8 ≤ 281474976710656 then ((loop (f_foghornref17_Hit.s1 to1 count2) ((List.replicate (count2).toNat (0 : Int)), from0)).bind (fun q14 => (some (q14, 0)))) else none)))
theorem f_foghornref17_Hit_c {S : Nat → Prop} {w0 w : World} {ow : List Res} (hp : Hp S w0 w ow) (from0 : Int) (to1 : Int) (count2 : Int) (length3 : Int) {r : ((List Int) × Int)} (h : f_foghornref17_Hit from0 to1 count2 length3 = some r) :
    Calls Try.prog 20 #[.int .i64 from0, .int .i64 to1, .int .i64 count2, .int .i64 length3] w (fun e w' => ∃ (u0 : Value), e = .returned (.tuple #[u0, .int .i64 r.2]) ∧ Hp S w0 w' (Res.sl (Ek.int .i64) 3 u0 r.1 :: ow)) := by
  unfold f_foghornref17_Hit at h
  refine enter (n := 49) (args := [.int .i64 from0, .int .i64 to1, .int .i64 count2, .int .i64 length3]) Try.func20 rfl rfl (Nat.le_of_ble_eq_true rfl) fun a hf => ?_
  replace hf : Fr 49 a [(0, .int .i64 from0), (1, .int .i64 to1), (2, .int .i64 count2), (3, .int .i64 length3)] := hf
  refine wp_mono (Q := fun e a w => e = .ret ∧ ∃ (u0 : Value), Fr 49 a [(8, u0), (9, .int .i64 r.2)] ∧ Hp S w0 w (Res.sl (Ek.int .i64) 3 u0 r.1 :: ow)) ?_ ?_
  rotate_left
  · rintro e a w ⟨rfl, x0, hf, hp⟩
    exact ret2 hf rfl rfl rfl ⟨x0, rfl, hp⟩
  refine wp_seq ?_
  refine wp_reg ?_
  refine st_assign hf rfl rfl (by decide) ?_
  clear hf; intro a ha hf; clear ha
  refine st_assign hf rfl rfl (by decide) ?_
  clear hf; intro a ha hf; clear ha
  refine st_nil hf ?_
  refine th_n ?_
  refine wp_seq ?_
  refine wp_seq ?_
  refine wp_reg ?_
  refine st_move hf rfl rfl (by decide) ?_
  clear hf; intro a ha hf; clear ha
  refine st_move hf rfl rfl (by decide) ?_
  clear hf; intro a ha hf; clear ha
  obtain ⟨q1, hcall2, h⟩ := bnd h
  refine st_call hf (by decide) Try.func37 rfl rfl rfl rfl rfl (f_foghornref17_Of_c hp _ _ hcall2) ?_
  rintro _ w ⟨rfl, hp0⟩
  clear hp; have hp := hp0; clear hp0
  replace hp : Hp S w0 w (ow) := hp
  refine ⟨_, rfl, ?_⟩
  clear hf; intro a hf
  refine st_not hf (by decide) rfl rfl ?_
  clear hf; intro a ha hf; clear ha
  refine st_move hf rfl rfl (by decide) ?_
  clear hf; intro a ha hf; clear ha
  refine wpList_cut 3 (fun a w => Fr 49 a [(0, .int .i64 from0), (1, .int .i64 to1), (2, .int .i64 count2), (3, .int .i64 length3), (19, .bool ((!q1) || (decide (from0 < 0))))] ∧ Hp S w0 w (ow)) ?_ ?_
  · rcases Bool.eq_false_or_eq_true (!q1) with hb | hb
    · skip
      refine st_skip hf (wantN hf rfl rfl hb) rfl (by decide) ?_ rfl
      clear hf; intro a hf
      refine st_skip hf (wantN hf rfl rfl hb) rfl (by decide) ?_ rfl
      clear hf; intro a hf
      refine st_pick (v := .bool true) hf rfl rfl (fun hb' => ?_) (fun hb' => ?_) (by decide) ?_
      · rfl
      · exact absurd (hb.symm.trans hb') (by decide)
      clear hf; intro a ha hf; clear ha
      refine st_nil hf (th_n ?_)
      exact ⟨hf.sub ⟨rfl, rfl, rfl, rfl, (by rw [hb]; rfl), trivial⟩, hp⟩
    · skip
      refine st_move hf (wantY hf rfl rfl hb) rfl (by decide) ?_
      clear hf; intro a ha hf; clear ha
      refine st_ilss hf (by decide) (wantY hf rfl rfl hb) rfl rfl ?_
      clear hf; intro a ha hf; clear ha
      refine st_pick (v := .bool (decide (from0 < 0))) hf rfl rfl (fun hb' => ?_) (fun hb' => ?_) (by decide) ?_
      · exact absurd (hb.symm.trans hb') (by decide)
      · rfl
      clear hf; intro a ha hf; clear ha
      refine st_nil hf (th_n ?_)
      exact ⟨hf.sub ⟨rfl, rfl, rfl, rfl, (by rw [hb]; rfl), trivial⟩, hp⟩
  · rintro a w ⟨hf, hp⟩
    refine st_move hf rfl rfl (by decide) ?_
    clear hf; intro a ha hf; clear ha
    refine wpList_cut 4 (fun a w => Fr 49 a [(0, .int .i64 from0), (1, .int .i64 to1), (2, .int .i64 count2), (3, .int .i64 length3), (24, .bool (((!q1) || (decide (from0 < 0))) || (decide (to1 < from0))))] ∧ Hp S w0 w (ow)) ?_ ?_
    · rcases Bool.eq_false_or_eq_true ((!q1) || (decide (from0 < 0))) with hb | hb
      · skip
        refine st_skip hf (wantN hf rfl rfl hb) rfl (by decide) ?_ rfl
        clear hf; intro a hf
        refine st_skip hf (wantN hf rfl rfl hb) rfl (by decide) ?_ rfl
        clear hf; intro a hf
        refine st_skip hf (wantN hf rfl rfl hb) rfl (by decide) ?_ rfl
        clear hf; intro a hf
        refine st_pick (v := .bool true) hf rfl rfl (fun hb' => ?_) (fun hb' => ?_) (by decide) ?_
        · rfl
        · exact absurd (hb.symm.trans hb') (by decide)
        clear hf; intro a ha hf; clear ha
        refine st_nil hf (th_n ?_)
        exact ⟨hf.sub ⟨rfl, rfl, rfl, rfl, (by rw [hb]; rfl), trivial⟩, hp⟩
      · skip
        refine st_move hf (wantY hf rfl rfl hb) rfl (by decide) ?_
        clear hf; intro a ha hf; clear ha
        refine st_move hf (wantY hf rfl rfl hb) rfl (by decide) ?_
        clear hf; intro a ha hf; clear ha
        refine st_igtr hf (by decide) (wantY hf rfl rfl hb) rfl rfl ?_
        clear hf; intro a ha hf; clear ha
        refine st_pick (v := .bool (decide (to1 < from0))) hf rfl rfl (fun hb' => ?_) (fun hb' => ?_) (by decide) ?_
        · exact absurd (hb.symm.trans hb') (by decide)
        · rfl
        clear hf; intro a ha hf; clear ha
        refine st_nil hf (th_n ?_)
        exact ⟨hf.sub ⟨rfl, rfl, rfl, rfl, (by rw [hb]; rfl), trivial⟩, hp⟩
    · rintro a w ⟨hf, hp⟩
      refine st_move hf rfl rfl (by decide) ?_
      clear hf; intro a ha hf; clear ha
      refine wpList_cut 6 (fun a w => Fr 49 a [(0, .int .i64 from0), (1, .int .i64 to1), (2, .int .i64 count2), (31, .bool ((((!q1) || (decide (from0 < 0))) || (decide (to1 < from0))) || (decide ((IntKind.i64.wrap (count2 * length3)) < to1))))] ∧ Hp S w0 w (ow)) ?_ ?_
      · rcases Bool.eq_false_or_eq_true (((!q1) || (decide (from0 < 0))) || (decide (to1 < from0))) with hb | hb
        · skip
          refine st_skip hf (wantN hf rfl rfl hb) rfl (by decide) ?_ rfl
          clear hf; intro a hf
          refine st_skip hf (wantN hf rfl rfl hb) rfl (by decide) ?_ rfl
          clear hf; intro a hf
          refine st_skip hf (wantN hf rfl rfl hb) rfl (by decide) ?_ rfl
          clear hf; intro a hf
          refine st_skip hf (wantN hf rfl rfl hb) rfl (by decide) ?_ rfl
          clear hf; intro a hf
          refine st_skip hf (wantN hf rfl rfl hb) rfl (by decide) ?_ rfl
          clear hf; intro a hf
          refine st_pick (v := .bool true) hf rfl rfl (fun hb' => ?_) (fun hb' => ?_) (by decide) ?_
          · rfl
          · exact absurd (hb.symm.trans hb') (by decide)
          clear hf; intro a ha hf; clear ha
          refine st_nil hf (th_n ?_)
          exact ⟨hf.sub ⟨rfl, rfl, rfl, (by rw [hb]; rfl), trivial⟩, hp⟩
        · skip
          refine st_move hf (wantY hf rfl rfl hb) rfl (by decide) ?_
          clear hf; intro a ha hf; clear ha
          refine st_move hf (wantY hf rfl rfl hb) rfl (by decide) ?_
          clear hf; intro a ha hf; clear ha
          refine st_move hf (wantY hf rfl rfl hb) rfl (by decide) ?_
          clear hf; intro a ha hf; clear ha
          refine st_imul hf (by decide) (wantY hf rfl rfl hb) rfl rfl ?_
          clear hf; intro a ha hf; clear ha
          refine st_igtr hf (by decide) (wantY hf rfl rfl hb) rfl rfl ?_
          clear hf; intro a ha hf; clear ha
          refine st_pick (v := .bool (decide ((IntKind.i64.wrap (count2 * length3)) < to1))) hf rfl rfl (fun hb' => ?_) (fun hb' => ?_) (by decide) ?_
          · exact absurd (hb.symm.trans hb') (by decide)
          · rfl
          clear hf; intro a ha hf; clear ha
          refine st_nil hf (th_n ?_)
          exact ⟨hf.sub ⟨rfl, rfl, rfl, (by rw [hb]; rfl), trivial⟩, hp⟩
      · rintro a w ⟨hf, hp⟩
        refine st_nil hf ?_
        refine th_n ?_
        refine wp_if hf rfl (fun hb => ?_) (fun hb => ?_)
        · replace h := ifT h hb
          refine wp_seq ?_
          refine wp_reg ?_
          refine st_assign hf rfl rfl (by decide) ?_
          clear hf; intro a ha hf; clear ha
          refine st_assign hf rfl rfl (by decide) ?_
          clear hf; intro a ha hf; clear ha
          refine st_nil hf ?_
          refine th_n ?_
          refine wp_ret ?_
          refine th_r ?_
          obtain rfl := Option.some.inj h
          have hp := hp.nil (Ek.int .i64) 3
          exact ⟨rfl, ⟨_, hf.sub ⟨rfl, rfl, trivial⟩, hp⟩⟩
        · replace h := ifF h hb
          refine wp_skip ?_
          refine th_n ?_
          refine wp_seq ?_
          refine wp_reg ?_
          refine st_move hf rfl rfl (by decide) ?_
          clear hf; intro a ha hf; clear ha
          obtain ⟨hc4, h⟩ := chk h
          refine st_make (E := (Ek.int .i64)) hf (by decide) elt3 Try.underlying22 (by decide) hp rfl rfl rfl hc4.1 hc4.2.1 hc4.2.2 ?_
          clear hf; intro a w v5 hf hp0; clear hp; have hp := hp0; clear hp0
          replace hp : Hp S w0 w (Res.sl (Ek.int .i64) 3 v5 (List.replicate (count2).toNat (0 : Int)) :: ow) := hp
          refine st_assign hf rfl rfl (by decide) ?_
          clear hf; intro a ha hf; clear ha
          refine st_nil hf ?_
          refine th_n ?_
          refine wp_seq ?_
          refine wp_seq ?_
          refine wp_reg ?_
          refine st_move hf rfl rfl (by decide) ?_
          clear hf; intro a ha hf; clear ha
          refine st_assign hf rfl rfl (by decide) ?_
          clear hf; intro a ha hf; clear ha
          refine st_nil hf ?_
          refine th_n ?_
          refine wp_block ?_
          obtain ⟨q14, hl, h⟩ := bnd h
          refine wp_loop_pure (f := (f_foghornref17_Hit.s1 to1 count2)) (s := ((List.replicate (count2).toNat (0 : Int)), from0)) (fun s a w => ∃ (v7 : Value), Fr 49 a [(1, .int .i64 to1), (2, .int .i64 count2), (10, v7), (11, .int .i64 s.2)] ∧ Hp S w0 w (Res.sl (Ek.int .i64) 3 v7 s.1 :: ow)) (fun q e a w => e = .exit 0 ∧ ∃ (v9 : Value), Fr 49 a [(10, v9)] ∧ Hp S w0 w (Res.sl (Ek.int .i64) 3 v9 q :: ow)) ?_ hl ⟨_, hf.sub ⟨rfl, rfl, rfl, rfl, trivial⟩, hp⟩ ?_
          · clear hl hf hp
            intro s x a w h hI
            obtain ⟨out10, p11⟩ := s
            obtain ⟨v7, hf, hp⟩ : ∃ (v7 : Value), Fr 49 a [(1, .int .i64 to1), (2, .int .i64 count2), (10, v7), (11, .int .i64 p11)] ∧ Hp S w0 w (Res.sl (Ek.int .i64) 3 v7 out10 :: ow) := hI
            replace h : f_foghornref17_Hit.s1c to1 count2 out10 p11 = some x := h
            unfold f_foghornref17_Hit.s1c at h
            refine wp_seq ?_
            refine wp_seq ?_
            refine wp_reg ?_
            refine st_move hf rfl rfl (by decide) ?_
            clear hf; intro a ha hf; clear ha
            refine st_move hf rfl rfl (by decide) ?_
            clear hf; intro a ha hf; clear ha
            refine st_ilss hf (by decide) rfl rfl rfl ?_
            clear hf; intro a ha hf; clear ha
            refine st_nil hf ?_
            refine th_n ?_
            refine wp_if hf rfl (fun hb => ?_) (fun hb => ?_)
            · replace h := ifT h hb
              refine wp_skip ?_
              refine th_n ?_
              refine wp_seq ?_
              refine wp_block ?_
              refine wp_reg ?_
              refine st_move hf rfl rfl (by decide) ?_
              clear hf; intro a ha hf; clear ha
              refine st_move hf rfl rfl (by decide) ?_
              clear hf; intro a ha hf; clear ha
              refine st_move hf rfl rfl (by decide) ?_
              clear hf; intro a ha hf; clear ha
              obtain ⟨hc11, h⟩ := chk h
              refine st_irem hf (by decide) rfl rfl rfl hc11 ?_
              clear hf; intro a ha hf; clear ha
              obtain ⟨hc12, h⟩ := chk h
              refine st_index (E := (Ek.int .i64)) hf (by decide) Try.underlying22 elt3 rfl rfl rfl (hp.sl (i := 0) rfl) hc12.1 hc12.2 ?_
              clear hf; intro a ha hf; clear ha
              refine st_ldI hf (by decide) pl3 rfl rfl (hp.sl (i := 0) rfl) hc12.1 hc12.2 ?_
              clear hf; intro a ha hf; clear ha
              refine st_iadd hf (by decide) rfl rfl rfl ?_
              clear hf; intro a ha hf; clear ha
              obtain ⟨hc13, h⟩ := chk h
              refine st_index (E := (Ek.int .i64)) hf (by decide) Try.underlying22 elt3 rfl rfl rfl (hp.sl (i := 0) rfl) hc13.1 hc13.2 ?_
              clear hf; intro a ha hf; clear ha
              refine st_store (E := (Ek.int .i64)) hf elt3 hp (i := 0) rfl rfl rfl rfl rfl hc13.1 hc13.2 ?_
              clear hf; intro a w hf hp0; clear hp; have hp := hp0; clear hp0
              replace hp : Hp S w0 w (Res.sl (Ek.int .i64) 3 v7 (out10.set (((p11).tmod count2)).toNat (IntKind.i64.wrap ((gt out10 ((p11).tmod count2)) + 1))) :: ow) := hp
              refine st_nil hf ?_
              refine ib_n ?_
              refine th_n ?_
              refine wp_reg ?_
              refine st_move hf rfl rfl (by decide) ?_
              clear hf; intro a ha hf; clear ha
              refine st_iadd hf (by decide) rfl rfl rfl ?_
              clear hf; intro a ha hf; clear ha
              refine st_assign hf rfl rfl (by decide) ?_
              clear hf; intro a ha hf; clear ha
              refine st_nil hf ?_
              obtain rfl := Option.some.inj h
              exact rnd_l ⟨_, hf.sub ⟨rfl, rfl, rfl, rfl, trivial⟩, hp⟩
            · replace h := ifF h hb
              refine wp_exit ?_
              refine th_e ?_
              obtain rfl := Option.some.inj h
              exact rnd_r (by simp) ⟨rfl, _, hf.sub ⟨rfl, trivial⟩, hp⟩
          · clear hl hf hp
            intro e a w hne hO
            obtain ⟨rfl, v9, hf, hp⟩ := hO
            refine ib_same ?_
            refine th_n ?_
            refine wp_seq ?_
            refine wp_reg ?_
            refine st_move hf rfl rfl (by decide) ?_
            clear hf; intro a ha hf; clear ha
            refine st_assign hf rfl rfl (by decide) ?_
            clear hf; intro a ha hf; clear ha
            refine st_assign hf rfl rfl (by decide) ?_
            clear hf; intro a ha hf; clear ha
            refine st_nil hf ?_
            refine th_n ?_
            refine wp_ret ?_
            obtain rfl := Option.some.inj h
            exact ⟨rfl, ⟨_, hf.sub ⟨rfl, rfl, trivial⟩, hp⟩⟩

noncomputable def f_weave_Hit_1 (p0 : Int) (word1 : Int) (t2 : Int) : Option Int := (if t2 ≠ 0 then (some (IntKind.i64.wrap (((IntKind.i64.wrap ((IntKind.i64.wrap ((IntKind.i64.wrap (p0 + t2)) - 1)) - word1))).tdiv t2))) else none)
theorem f_weave_Hit_1_c {S : Nat → Prop} {w0 w : World} {ow : List Res} (hp : Hp S w0 w ow) (p0 : Int) (word1 : Int) (vt2 : Value) (t2 : Int) (ht2 : RdB (Ek.int .i64) S w0 vt2 t2) {r : Int} (h : f_weave_Hit_1 p0 word1 t2 = some r) :
    Calls Try.prog 39 #[.int .i64 p0, .int .i64 word1, vt2] w (fun e w' => e = .returned (.int .i64 r) ∧ Hp S w0 w' (ow)) := by
  unfold f_weave_Hit_1 at h
  refine enter (n := 14) (args := [.int .i64 p0, .int .i64 word1, vt2]) Try.func39 rfl rfl (Nat.le_of_ble_eq_true rfl) fun a hf => ?_
  replace hf : Fr 14 a [(0, .int .i64 p0), (1, .int .i64 word1), (2, vt2)] := hf
  refine wp_mono (Q := fun e a w => e = .ret ∧ Fr 14 a [(5, .int .i64 r)] ∧ Hp S w0 w (ow)) ?_ ?_
  rotate_left
  · rintro e a w ⟨rfl, hf, hp⟩
    exact ret1 hf rfl rfl ⟨rfl, hp⟩
  refine wp_seq ?_
  refine wp_reg ?_
  refine st_assign hf rfl rfl (by decide) ?_
  clear hf; intro a ha hf; clear ha
  refine st_nil hf ?_
  refine th_n ?_
  refine wp_seq ?_
  refine wp_reg ?_
  refine st_move hf rfl rfl (by decide) ?_
  clear hf; intro a ha hf; clear ha
  refine st_ldBox (E := (Ek.int .i64)) hf (by decide) pl3 (fun x => .int .i64 x) (fun _ _ h => h) rfl rfl (ht2.bx hp) ?_
  clear hf; intro a ha hf; clear ha
  refine st_iadd hf (by decide) rfl rfl rfl ?_
  clear hf; intro a ha hf; clear ha
  refine st_isub hf (by decide) rfl rfl rfl ?_
  clear hf; intro a ha hf; clear ha
  refine st_move hf rfl rfl (by decide) ?_
  clear hf; intro a ha hf; clear ha
  refine st_isub hf (by decide) rfl rfl rfl ?_
  clear hf; intro a ha hf; clear ha
  refine st_ldBox (E := (Ek.int .i64)) hf (by decide) pl3 (fun x => .int .i64 x) (fun _ _ h => h) rfl rfl (ht2.bx hp) ?_
  clear hf; intro a ha hf; clear ha
  obtain ⟨hc1, h⟩ := chk h
  refine st_iquo hf (by decide) rfl rfl rfl hc1 ?_
  clear hf; intro a ha hf; clear ha
  refine st_assign hf rfl rfl (by decide) ?_
  clear hf; intro a ha hf; clear ha
  refine st_nil hf ?_
  refine th_n ?_
  refine wp_ret ?_
  obtain rfl := Option.some.inj h
  exact ⟨rfl, ⟨hf.sub ⟨rfl, trivial⟩, hp⟩⟩

noncomputable def f_weave_Hit.s1c (from0 : Int) (to1 : Int) (count2 : Int) (out11 : (List Int)) (t38 : Int) : Option (((List Int) × Int) ⊕ (List Int)) := (if (decide (t38 < ((List.replicate (count2).toNat (0 : Int)).length : Int))) = true then ((f_weave_Hit_1 to1 t38 count2).bind fun q13 => ((f_weave_Hit_1 from0 t38 count2).bind fun q20 => (if 0 ≤ t38 ∧ t38 < (out11.length : Int) then (some (Sum.inl ((out11.set (t38).toNat (IntKind.i64.wrap (q13 - q20))), (IntKind.i64.wrap (t38 + 1))))) else none))) else (some (Sum.inr out11)))
noncomputable def f_weave_Hit.s1 (from0 : Int) (to1 : Int) (count2 : Int) (s : ((List Int) × Int)) : Option (((List Int) × Int) ⊕ (List Int)) := f_weave_Hit.s1c from0 to1 count2 s.1 s.2
noncomputable def f_weave_Hit (from0 : Int) (to1 : Int) (count2 : Int) (length3 : Int) : Option ((List Int) × Int) := ((f_weave_may count2 length3).bind fun q3 => (if ((((!q3) || (decide (from0 < 0))) || (decide (to1 < from0))) || (decide ((IntKind.i64.wrap (count2 * length3)) < to1))) = true then (some ([], 1)) else (if 0 ≤ count2 ∧ count2 ≤ count2 ∧ count2 * 8 ≤ 281474976710656 then ((loop (f_weave_Hit.s1 from0 to1 count2) ((List.replicate (count2).toNat (0 : Int)), 0)).bind (fun q28 => (some (q28, 0)))) else none)))
theorem f_weave_Hit_c {S : Nat → Prop} {w0 w : World} {ow : List Res} (hp : Hp S w0 w ow) (from0 : Int) (to1 : Int) (count2 : Int) (length3 : Int) {r : ((List Int) × Int)} (h : f_weave_Hit from0 to1 count2 length3 = some r) :
    Calls Try.prog 21 #[.int .i64 from0, .int .i64 to1, .int .i64 count2, .int .i64 length3] w (fun e w' => ∃ (u0 : Value), e = .returned (.tuple #[u0, .int .i64 r.2]) ∧ Hp S w0 w' (Res.sl (Ek.int .i64) 3 u0 r.1 :: ow)) := by
  unfold f_weave_Hit at h
  refine enter (n := 55) (args := [.int .i64 from0, .int .i64 to1, .int .i64 count2, .int .i64 length3]) Try.func21 rfl rfl (Nat.le_of_ble_eq_true rfl) fun a hf => ?_
  replace hf : Fr 55 a [(0, .int .i64 from0), (1, .int .i64 to1), (2, .int .i64 count2), (3, .int .i64 length3)] := hf
  refine wp_mono (Q := fun e a w => e = .ret ∧ ∃ (u0 : Value), Fr 55 a [(8, u0), (9, .int .i64 r.2)] ∧ Hp S w0 w (Res.sl (Ek.int .i64) 3 u0 r.1 :: ow)) ?_ ?_
  rotate_left
  · rintro e a w ⟨rfl, x0, hf, hp⟩
    exact ret2 hf rfl rfl rfl ⟨x0, rfl, hp⟩
  refine wp_seq ?_
  refine wp_reg ?_
  refine st_box (E := (Ek.int .i64)) hf (by decide) elt3 hp rfl rfl rfl ?_
  clear hf; intro a w v1 hf hp0; clear hp; have hp := hp0; clear hp0
  replace hp : Hp S w0 w (Res.box (Ek.int .i64) 3 v1 count2 :: ow) := hp
  refine st_assign hf rfl rfl (by decide) ?_
  clear hf; intro a ha hf; clear ha
  refine st_assign hf rfl rfl (by decide) ?_
  clear hf; intro a ha hf; clear ha
  refine st_nil hf ?_
  refine th_n ?_
  refine wp_seq ?_
  refine wp_seq ?_
  refine wp_reg ?_
  refine st_ldBox (E := (Ek.int .i64)) hf (by decide) pl3 (fun x => .int .i64 x) (fun _ _ h => h) rfl rfl (hp.bx (i := 0) rfl) ?_
  clear hf; intro a ha hf; clear ha
  refine st_move hf rfl rfl (by decide) ?_
  clear hf; intro a ha hf; clear ha
  obtain ⟨q3, hcall4, h⟩ := bnd h
  refine st_call hf (by decide) Try.func38 rfl rfl rfl rfl rfl (f_weave_may_c hp _ _ hcall4) ?_
  rintro _ w ⟨rfl, hp0⟩
  clear hp; have hp := hp0; clear hp0
  replace hp : Hp S w0 w (Res.box (Ek.int .i64) 3 v1 count2 :: ow) := hp
  refine ⟨_, rfl, ?_⟩
  clear hf; intro a hf
  refine st_not hf (by decide) rfl rfl ?_
  clear hf; intro a ha hf; clear ha
  refine st_move hf rfl rfl (by decide) ?_
  clear hf; intro a ha hf; clear ha
  refine wpList_cut 3 (fun a w => Fr 55 a [(0, .int .i64 from0), (1, .int .i64 to1), (3, .int .i64 length3), (6, v1), (20, .bool ((!q3) || (decide (from0 < 0))))] ∧ Hp S w0 w (Res.box (Ek.int .i64) 3 v1 count2 :: ow)) ?_ ?_
  · rcases Bool.eq_false_or_eq_true (!q3) with hb | hb
    · skip
      refine st_skip hf (wantN hf rfl rfl hb) rfl (by decide) ?_ rfl
      clear hf; intro a hf
      refine st_skip hf (wantN hf rfl rfl hb) rfl (by decide) ?_ rfl
      clear hf; intro a hf
      refine st_pick (v := .bool true) hf rfl rfl (fun hb' => ?_) (fun hb' => ?_) (by decide) ?_
      · rfl
      · exact absurd (hb.symm.trans hb') (by decide)
      clear hf; intro a ha hf; clear ha
      refine st_nil hf (th_n ?_)
      exact ⟨hf.sub ⟨rfl, rfl, rfl, rfl, (by rw [hb]; rfl), trivial⟩, hp⟩
    · skip
      refine st_move hf (wantY hf rfl rfl hb) rfl (by decide) ?_
      clear hf; intro a ha hf; clear ha
      refine st_ilss hf (by decide) (wantY hf rfl rfl hb) rfl rfl ?_
      clear hf; intro a ha hf; clear ha
      refine st_pick (v := .bool (decide (from0 < 0))) hf rfl rfl (fun hb' => ?_) (fun hb' => ?_) (by decide) ?_
      · exact absurd (hb.symm.trans hb') (by decide)
      · rfl
      clear hf; intro a ha hf; clear ha
      refine st_nil hf (th_n ?_)
      exact ⟨hf.sub ⟨rfl, rfl, rfl, rfl, (by rw [hb]; rfl), trivial⟩, hp⟩
  · rintro a w ⟨hf, hp⟩
    refine st_move hf rfl rfl (by decide) ?_
    clear hf; intro a ha hf; clear ha
    refine wpList_cut 4 (fun a w => Fr 55 a [(0, .int .i64 from0), (1, .int .i64 to1), (3, .int .i64 length3), (6, v1), (25, .bool (((!q3) || (decide (from0 < 0))) || (decide (to1 < from0))))] ∧ Hp S w0 w (Res.box (Ek.int .i64) 3 v1 count2 :: ow)) ?_ ?_
    · rcases Bool.eq_false_or_eq_true ((!q3) || (decide (from0 < 0))) with hb | hb
      · skip
        refine st_skip hf (wantN hf rfl rfl hb) rfl (by decide) ?_ rfl
        clear hf; intro a hf
        refine st_skip hf (wantN hf rfl rfl hb) rfl (by decide) ?_ rfl
        clear hf; intro a hf
        refine st_skip hf (wantN hf rfl rfl hb) rfl (by decide) ?_ rfl
        clear hf; intro a hf
        refine st_pick (v := .bool true) hf rfl rfl (fun hb' => ?_) (fun hb' => ?_) (by decide) ?_
        · rfl
        · exact absurd (hb.symm.trans hb') (by decide)
        clear hf; intro a ha hf; clear ha
        refine st_nil hf (th_n ?_)
        exact ⟨hf.sub ⟨rfl, rfl, rfl, rfl, (by rw [hb]; rfl), trivial⟩, hp⟩
      · skip
        refine st_move hf (wantY hf rfl rfl hb) rfl (by decide) ?_
        clear hf; intro a ha hf; clear ha
        refine st_move hf (wantY hf rfl rfl hb) rfl (by decide) ?_
        clear hf; intro a ha hf; clear ha
        refine st_igtr hf (by decide) (wantY hf rfl rfl hb) rfl rfl ?_
        clear hf; intro a ha hf; clear ha
        refine st_pick (v := .bool (decide (to1 < from0))) hf rfl rfl (fun hb' => ?_) (fun hb' => ?_) (by decide) ?_
        · exact absurd (hb.symm.trans hb') (by decide)
        · rfl
        clear hf; intro a ha hf; clear ha
        refine st_nil hf (th_n ?_)
        exact ⟨hf.sub ⟨rfl, rfl, rfl, rfl, (by rw [hb]; rfl), trivial⟩, hp⟩
    · rintro a w ⟨hf, hp⟩
      refine st_move hf rfl rfl (by decide) ?_
      clear hf; intro a ha hf; clear ha
      refine wpList_cut 6 (fun a w => Fr 55 a [(0, .int .i64 from0), (1, .int .i64 to1), (6, v1), (32, .bool ((((!q3) || (decide (from0 < 0))) || (decide (to1 < from0))) || (decide ((IntKind.i64.wrap (count2 * length3)) < to1))))] ∧ Hp S w0 w (Res.box (Ek.int .i64) 3 v1 count2 :: ow)) ?_ ?_
      · rcases Bool.eq_false_or_eq_true (((!q3) || (decide (from0 < 0))) || (decide (to1 < from0))) with hb | hb
        · skip
          refine st_skip hf (wantN hf rfl rfl hb) rfl (by decide) ?_ rfl
          clear hf; intro a hf
          refine st_skip hf (wantN hf rfl rfl hb) rfl (by decide) ?_ rfl
          clear hf; intro a hf
          refine st_skip hf (wantN hf rfl rfl hb) rfl (by decide) ?_ rfl
          clear hf; intro a hf
          refine st_skip hf (wantN hf rfl rfl hb) rfl (by decide) ?_ rfl
          clear hf; intro a hf
          refine st_skip hf (wantN hf rfl rfl hb) rfl (by decide) ?_ rfl
          clear hf; intro a hf
          refine st_pick (v := .bool true) hf rfl rfl (fun hb' => ?_) (fun hb' => ?_) (by decide) ?_
          · rfl
          · exact absurd (hb.symm.trans hb') (by decide)
          clear hf; intro a ha hf; clear ha
          refine st_nil hf (th_n ?_)
          exact ⟨hf.sub ⟨rfl, rfl, rfl, (by rw [hb]; rfl), trivial⟩, hp⟩
        · skip
          refine st_move hf (wantY hf rfl rfl hb) rfl (by decide) ?_
          clear hf; intro a ha hf; clear ha
          refine st_ldBox (E := (Ek.int .i64)) hf (by decide) pl3 (fun x => .int .i64 x) (fun _ _ h => h) (wantY hf rfl rfl hb) rfl (hp.bx (i := 0) rfl) ?_
          clear hf; intro a ha hf; clear ha
          refine st_move hf (wantY hf rfl rfl hb) rfl (by decide) ?_
          clear hf; intro a ha hf; clear ha
          refine st_imul hf (by decide) (wantY hf rfl rfl hb) rfl rfl ?_
          clear hf; intro a ha hf; clear ha
          refine st_igtr hf (by decide) (wantY hf rfl rfl hb) rfl rfl ?_
          clear hf; intro a ha hf; clear ha
          refine st_pick (v := .bool (decide ((IntKind.i64.wrap (count2 * length3)) < to1))) hf rfl rfl (fun hb' => ?_) (fun hb' => ?_) (by decide) ?_
          · exact absurd (hb.symm.trans hb') (by decide)
          · rfl
          clear hf; intro a ha hf; clear ha
          refine st_nil hf (th_n ?_)
          exact ⟨hf.sub ⟨rfl, rfl, rfl, (by rw [hb]; rfl), trivial⟩, hp⟩
      · rintro a w ⟨hf, hp⟩
        refine st_nil hf ?_
        refine th_n ?_
        refine wp_if hf rfl (fun hb => ?_) (fun hb => ?_)
        · replace h := ifT h hb
          refine wp_seq ?_
          refine wp_reg ?_
          refine st_assign hf rfl rfl (by decide) ?_
          clear hf; intro a ha hf; clear ha
          refine st_assign hf rfl rfl (by decide) ?_
          clear hf; intro a ha hf; clear ha
          refine st_nil hf ?_
          refine th_n ?_
          refine wp_ret ?_
          refine th_r ?_
          obtain rfl := Option.some.inj h
          have hp := hp.nil (Ek.int .i64) 3
          have hp : Hp S w0 w (Res.sl (Ek.int .i64) 3 (.slice none 0 0) ([]) :: ow) := Hp.sel (pre := [Res.sl (Ek.int .i64) 3 (.slice none 0 0) ([]), Res.box (Ek.int .i64) 3 v1 count2]) (tail := ow) (rs' := [Res.sl (Ek.int .i64) 3 (.slice none 0 0) ([])]) hp [0] (by decide) (by simp) rfl
          exact ⟨rfl, ⟨_, hf.sub ⟨rfl, rfl, trivial⟩, hp⟩⟩
        · replace h := ifF h hb
          refine wp_skip ?_
          refine th_n ?_
          refine wp_seq ?_
          refine wp_reg ?_
          refine st_makeFunc1 hf (by decide) rfl rfl ?_
          clear hf; intro a ha hf; clear ha
          refine st_assign hf rfl rfl (by decide) ?_
          clear hf; intro a ha hf; clear ha
          refine st_nil hf ?_
          refine th_n ?_
          refine wp_seq ?_
          refine wp_reg ?_
          refine st_ldBox (E := (Ek.int .i64)) hf (by decide) pl3 (fun x => .int .i64 x) (fun _ _ h => h) rfl rfl (hp.bx (i := 0) rfl) ?_
          clear hf; intro a ha hf; clear ha
          obtain ⟨hc6, h⟩ := chk h
          refine st_make (E := (Ek.int .i64)) hf (by decide) elt3 Try.underlying22 (by decide) hp rfl rfl rfl hc6.1 hc6.2.1 hc6.2.2 ?_
          clear hf; intro a w v7 hf hp0; clear hp; have hp := hp0; clear hp0
          replace hp : Hp S w0 w (Res.sl (Ek.int .i64) 3 v7 (List.replicate (count2).toNat (0 : Int)) :: Res.box (Ek.int .i64) 3 v1 count2 :: ow) := hp
          refine st_assign hf rfl rfl (by decide) ?_
          clear hf; intro a ha hf; clear ha
          refine st_nil hf ?_
          refine th_n ?_
          refine wp_seq ?_
          refine wp_seq ?_
          refine wp_reg ?_
          refine st_move hf rfl rfl (by decide) ?_
          clear hf; intro a ha hf; clear ha
          refine st_len (E := (Ek.int .i64)) hf (by decide) Try.underlying22 rfl rfl (hp.sl (i := 0) rfl) ?_
          clear hf; intro a ha hf; clear ha
          refine st_move hf rfl rfl (by decide) ?_
          clear hf; intro a ha hf; clear ha
          refine st_nil hf ?_
          refine th_n ?_
          refine wp_block ?_
          obtain ⟨q28, hl, h⟩ := bnd h
          refine wp_loop_pure (f := (f_weave_Hit.s1 from0 to1 count2)) (s := ((List.replicate (count2).toNat (0 : Int)), 0)) (fun s a w => ∃ (v9 : Value), Fr 55 a [(0, .int .i64 from0), (1, .int .i64 to1), (10, .func (.func 39) #[] #[v1]), (11, v9), (37, .int .i64 ((List.replicate (count2).toNat (0 : Int)).length : Int)), (38, .int .i64 s.2)] ∧ Hp S w0 w (Res.sl (Ek.int .i64) 3 v9 s.1 :: Res.box (Ek.int .i64) 3 v1 count2 :: ow)) (fun q e a w => e = .exit 0 ∧ ∃ (v11 : Value), Fr 55 a [(11, v11)] ∧ Hp S w0 w (Res.sl (Ek.int .i64) 3 v11 q :: ow)) ?_ hl ⟨_, hf.sub ⟨rfl, rfl, rfl, rfl, rfl, rfl, trivial⟩, hp⟩ ?_
          · clear hl hf hp
            intro s x a w h hI
            obtain ⟨out11, t38⟩ := s
            obtain ⟨v9, hf, hp⟩ : ∃ (v9 : Value), Fr 55 a [(0, .int .i64 from0), (1, .int .i64 to1), (10, .func (.func 39) #[] #[v1]), (11, v9), (37, .int .i64 ((List.replicate (count2).toNat (0 : Int)).length : Int)), (38, .int .i64 t38)] ∧ Hp S w0 w (Res.sl (Ek.int .i64) 3 v9 out11 :: Res.box (Ek.int .i64) 3 v1 count2 :: ow) := hI
            replace h : f_weave_Hit.s1c from0 to1 count2 out11 t38 = some x := h
            unfold f_weave_Hit.s1c at h
            refine wp_seq ?_
            refine wp_reg ?_
            refine st_ilss hf (by decide) rfl rfl rfl ?_
            clear hf; intro a ha hf; clear ha
            refine st_nil hf ?_
            refine th_n ?_
            refine wp_seq ?_
            refine wp_if hf rfl (fun hb => ?_) (fun hb => ?_)
            · replace h := ifT h hb
              refine wp_skip ?_
              refine th_n ?_
              refine wp_seq ?_
              refine wp_block ?_
              refine wp_seq ?_
              refine wp_reg ?_
              refine st_move hf rfl rfl (by decide) ?_
              clear hf; intro a ha hf; clear ha
              refine st_assign hf rfl rfl (by decide) ?_
              clear hf; intro a ha hf; clear ha
              refine st_nil hf ?_
              refine th_n ?_
              refine wp_reg ?_
              refine st_move hf rfl rfl (by decide) ?_
              clear hf; intro a ha hf; clear ha
              refine st_move hf rfl rfl (by decide) ?_
              clear hf; intro a ha hf; clear ha
              refine st_move hf rfl rfl (by decide) ?_
              clear hf; intro a ha hf; clear ha
              refine st_move hf rfl rfl (by decide) ?_
              clear hf; intro a ha hf; clear ha
              refine st_move hf rfl rfl (by decide) ?_
              clear hf; intro a ha hf; clear ha
              obtain ⟨q13, hcall14, h⟩ := bnd h
              obtain ⟨S15, hp16, rd17, up18, bk19⟩ := Hp.lendB hp (i := 1) rfl
              refine st_call hf (by decide) Try.func39 rfl rfl rfl rfl rfl (f_weave_Hit_1_c hp16 _ _ _ _ rd17 hcall14) ?_
              rintro _ w ⟨rfl, hp0⟩
              have hp0 := bk19 _ _ hp0
              clear hp; have hp := hp0; clear hp0
              replace hp : Hp S w0 w (Res.box (Ek.int .i64) 3 v1 count2 :: Res.sl (Ek.int .i64) 3 v9 out11 :: ow) := hp
              refine ⟨_, rfl, ?_⟩
              clear hf; intro a hf
              refine st_move hf rfl rfl (by decide) ?_
              clear hf; intro a ha hf; clear ha
              refine st_move hf rfl rfl (by decide) ?_
              clear hf; intro a ha hf; clear ha
              refine st_move hf rfl rfl (by decide) ?_
              clear hf; intro a ha hf; clear ha
              obtain ⟨q20, hcall21, h⟩ := bnd h
              obtain ⟨S22, hp23, rd24, up25, bk26⟩ := Hp.lendB hp (i := 0) rfl
              refine st_call hf (by decide) Try.func39 rfl rfl rfl rfl rfl (f_weave_Hit_1_c hp23 _ _ _ _ rd24 hcall21) ?_
              rintro _ w ⟨rfl, hp0⟩
              have hp0 := bk26 _ _ hp0
              clear hp; have hp := hp0; clear hp0
              replace hp : Hp S w0 w (Res.box (Ek.int .i64) 3 v1 count2 :: Res.sl (Ek.int .i64) 3 v9 out11 :: ow) := hp
              refine ⟨_, rfl, ?_⟩
              clear hf; intro a hf
              refine st_isub hf (by decide) rfl rfl rfl ?_
              clear hf; intro a ha hf; clear ha
              obtain ⟨hc27, h⟩ := chk h
              refine st_index (E := (Ek.int .i64)) hf (by decide) Try.underlying22 elt3 rfl rfl rfl (hp.sl (i := 1) rfl) hc27.1 hc27.2 ?_
              clear hf; intro a ha hf; clear ha
              refine st_store (E := (Ek.int .i64)) hf elt3 hp (i := 1) rfl rfl rfl rfl rfl hc27.1 hc27.2 ?_
              clear hf; intro a w hf hp0; clear hp; have hp := hp0; clear hp0
              replace hp : Hp S w0 w (Res.box (Ek.int .i64) 3 v1 count2 :: Res.sl (Ek.int .i64) 3 v9 (out11.set (t38).toNat (IntKind.i64.wrap (q13 - q20))) :: ow) := hp
              refine st_nil hf ?_
              refine ib_n ?_
              refine th_n ?_
              refine wp_reg ?_
              refine st_iadd hf (by decide) rfl rfl rfl ?_
              clear hf; intro a ha hf; clear ha
              refine st_move hf rfl rfl (by decide) ?_
              clear hf; intro a ha hf; clear ha
              refine st_nil hf ?_
              obtain rfl := Option.some.inj h
              have hp : Hp S w0 w (Res.sl (Ek.int .i64) 3 v9 (out11.set (t38).toNat (IntKind.i64.wrap (q13 - q20))) :: Res.box (Ek.int .i64) 3 v1 count2 :: ow) := Hp.sel (pre := [Res.box (Ek.int .i64) 3 v1 count2, Res.sl (Ek.int .i64) 3 v9 (out11.set (t38).toNat (IntKind.i64.wrap (q13 - q20)))]) (tail := ow) (rs' := [Res.sl (Ek.int .i64) 3 v9 (out11.set (t38).toNat (IntKind.i64.wrap (q13 - q20))), Res.box (Ek.int .i64) 3 v1 count2]) hp [1, 0] (by decide) (by simp) rfl
              exact rnd_l ⟨_, hf.sub ⟨rfl, rfl, rfl, rfl, rfl, rfl, trivial⟩, hp⟩
            · replace h := ifF h hb
              refine wp_exit ?_
              refine th_e ?_
              obtain rfl := Option.some.inj h
              have hp : Hp S w0 w (Res.sl (Ek.int .i64) 3 v9 out11 :: ow) := Hp.sel (pre := [Res.sl (Ek.int .i64) 3 v9 out11, Res.box (Ek.int .i64) 3 v1 count2]) (tail := ow) (rs' := [Res.sl (Ek.int .i64) 3 v9 out11]) hp [0] (by decide) (by simp) rfl
              exact rnd_r (by simp) ⟨rfl, _, hf.sub ⟨rfl, trivial⟩, hp⟩
          · clear hl hf hp
            intro e a w hne hO
            obtain ⟨rfl, v11, hf, hp⟩ := hO
            refine ib_same ?_
            refine th_n ?_
            refine wp_seq ?_
            refine wp_reg ?_
            refine st_move hf rfl rfl (by decide) ?_
            clear hf; intro a ha hf; clear ha
            refine st_assign hf rfl rfl (by decide) ?_
            clear hf; intro a ha hf; clear ha
            refine st_assign hf rfl rfl (by decide) ?_
            clear hf; intro a ha hf; clear ha
            refine st_nil hf ?_
            refine th_n ?_
            refine wp_ret ?_
            obtain rfl := Option.some.inj h
            exact ⟨rfl, ⟨_, hf.sub ⟨rfl, rfl, trivial⟩, hp⟩⟩

noncomputable def f_foghornref17_Numbers.s1c (a0 : (List Int)) (b1 : (List Int)) (i5 : Int) : Option (Int ⊕ (Unit ⊕ Bool)) := (if (decide (i5 < (a0.length : Int))) = true then (if 0 ≤ i5 ∧ i5 < (a0.length : Int) then (if 0 ≤ i5 ∧ i5 < (b1.length : Int) then (if ((gt a0 i5) != (gt b1 i5)) = true then (some (Sum.inr (Sum.inr false))) else (some (Sum.inl (IntKind.i64.wrap (i5 + 1))))) else none) else none) else (some (Sum.inr (Sum.inl ()))))
noncomputable def f_foghornref17_Numbers.s1 (a0 : (List Int)) (b1 : (List Int)) (s : Int) : Option (Int ⊕ (Unit ⊕ Bool)) := f_foghornref17_Numbers.s1c a0 b1 s
noncomputable def f_foghornref17_Numbers (a0 : (List Int)) (b1 : (List Int)) : Option Bool := (if ((a0.length : Int) != (b1.length : Int)) = true then (some false) else ((loop (f_foghornref17_Numbers.s1 a0 b1) 0).bind (fun q3 => sm q3 (fun q4 => (some true)) (fun q5 => (some q5)))))
theorem f_foghornref17_Numbers_c {S : Nat → Prop} {w0 w : World} {ow : List Res} (hp : Hp S w0 w ow) (va0 : Value) (a0 : (List Int)) (ha0 : RdS (Ek.int .i64) S w0 va0 a0) (vb1 : Value) (b1 : (List Int)) (hb1 : RdS (Ek.int .i64) S w0 vb1 b1) {r : Bool} (h : f_foghornref17_Numbers a0 b1 = some r) :
    Calls Try.prog 15 #[va0, vb1] w (fun e w' => e = .returned (.bool r) ∧ Hp S w0 w' (ow)) := by
  unfold f_foghornref17_Numbers at h
  refine enter (n := 26) (args := [va0, vb1]) Try.func15 rfl rfl (Nat.le_of_ble_eq_true rfl) fun a hf => ?_
  replace hf : Fr 26 a [(0, va0), (1, vb1)] := hf
  refine wp_mono (Q := fun e a w => e = .ret ∧ Fr 26 a [(4, .bool r)] ∧ Hp S w0 w (ow)) ?_ ?_
  rotate_left
  · rintro e a w ⟨rfl, hf, hp⟩
    exact ret1 hf rfl rfl ⟨rfl, hp⟩
  refine wp_seq ?_
  refine wp_reg ?_
  refine st_assign hf rfl rfl (by decide) ?_
  clear hf; intro a ha hf; clear ha
  refine st_nil hf ?_
  refine th_n ?_
  refine wp_seq ?_
  refine wp_seq ?_
  refine wp_reg ?_
  refine st_move hf rfl rfl (by decide) ?_
  clear hf; intro a ha hf; clear ha
  refine st_len (E := (Ek.int .i64)) hf (by decide) Try.underlying22 rfl rfl (ha0.sl hp) ?_
  clear hf; intro a ha hf; clear ha
  refine st_move hf rfl rfl (by decide) ?_
  clear hf; intro a ha hf; clear ha
  refine st_len (E := (Ek.int .i64)) hf (by decide) Try.underlying22 rfl rfl (hb1.sl hp) ?_
  clear hf; intro a ha hf; clear ha
  refine st_ineq hf (by decide) rfl rfl rfl ?_
  clear hf; intro a ha hf; clear ha
  refine st_nil hf ?_
  refine th_n ?_
  refine wp_if hf rfl (fun hb => ?_) (fun hb => ?_)
  · replace h := ifT h hb
    refine wp_seq ?_
    refine wp_reg ?_
    refine st_assign hf rfl rfl (by decide) ?_
    clear hf; intro a ha hf; clear ha
    refine st_nil hf ?_
    refine th_n ?_
    refine wp_ret ?_
    refine th_r ?_
    obtain rfl := Option.some.inj h
    exact ⟨rfl, ⟨hf.sub ⟨rfl, trivial⟩, hp⟩⟩
  · replace h := ifF h hb
    refine wp_skip ?_
    refine th_n ?_
    refine wp_seq ?_
    refine wp_seq ?_
    refine wp_reg ?_
    refine st_assign hf rfl rfl (by decide) ?_
    clear hf; intro a ha hf; clear ha
    refine st_nil hf ?_
    refine th_n ?_
    refine wp_block ?_
    obtain ⟨q3, hl, h⟩ := bnd h
    refine wp_loop_pure (f := (f_foghornref17_Numbers.s1 a0 b1)) (s := 0) (fun s a w => Fr 26 a [(0, va0), (1, vb1), (5, .int .i64 s)] ∧ Hp S w0 w (ow)) (fun q e a w => match q with | (Sum.inl q) => e = .exit 0 ∧ Fr 26 a [] ∧ Hp S w0 w (ow) | (Sum.inr q) => e = .ret ∧ Fr 26 a [(4, .bool q)] ∧ Hp S w0 w (ow)) ?_ hl ⟨hf.sub ⟨rfl, rfl, rfl, trivial⟩, hp⟩ ?_
    · clear hl hf hp
      intro s x a w h hI
      obtain ⟨i5, hs⟩ : ∃ z, z = s := ⟨s, rfl⟩; subst hs
      obtain ⟨hf, hp⟩ : Fr 26 a [(0, va0), (1, vb1), (5, .int .i64 i5)] ∧ Hp S w0 w (ow) := hI
      replace h : f_foghornref17_Numbers.s1c a0 b1 i5 = some x := h
      unfold f_foghornref17_Numbers.s1c at h
      refine wp_seq ?_
      refine wp_seq ?_
      refine wp_reg ?_
      refine st_move hf rfl rfl (by decide) ?_
      clear hf; intro a ha hf; clear ha
      refine st_move hf rfl rfl (by decide) ?_
      clear hf; intro a ha hf; clear ha
      refine st_len (E := (Ek.int .i64)) hf (by decide) Try.underlying22 rfl rfl (ha0.sl hp) ?_
      clear hf; intro a ha hf; clear ha
      refine st_ilss hf (by decide) rfl rfl rfl ?_
      clear hf; intro a ha hf; clear ha
      refine st_nil hf ?_
      refine th_n ?_
      refine wp_if hf rfl (fun hb => ?_) (fun hb => ?_)
      · replace h := ifT h hb
        refine wp_skip ?_
        refine th_n ?_
        refine wp_seq ?_
        refine wp_block ?_
        refine wp_seq ?_
        obtain ⟨hc1, h⟩ := chk h
        obtain ⟨hc2, h⟩ := chk h
        refine wp_cutN (fun a w => Fr 26 a [(0, va0), (1, vb1), (5, .int .i64 i5), (25, .bool ((gt a0 i5) != (gt b1 i5)))] ∧ Hp S w0 w (ow)) ?_ ?_
        · have hp := hp.same (Same.drew w)
          refine dr_begin' (fun a w => Fr 26 a [(0, va0), (1, vb1), (5, .int .i64 i5), (25, .bool ((gt a0 i5) != (gt b1 i5)))] ∧ Hp S w0 w (ow)) (fun w => Hp S w0 w (ow)) [] (by kernel_rfl) ?_
          refine dr_take 0 (va0) rfl (by kernel_rfl) (by kernel_rfl) (by kernel_rfl) (by kernel_rfl) rfl rfl hf (by decide) rfl (fun w hp => ?_) hp ?_
          · skip
            refine st_move hf rfl rfl (by decide) ?_
            clear hf; intro a ha hf
            exact st_nil hf (th_n ⟨ha, rfl⟩)
          clear hf; intro a hf
          refine dr_take 1 (.int .i64 i5) rfl (by kernel_rfl) (by kernel_rfl) (by kernel_rfl) (by kernel_rfl) rfl rfl hf (by decide) rfl (fun w hp => ?_) hp ?_
          · skip
            refine st_move hf rfl rfl (by decide) ?_
            clear hf; intro a ha hf
            exact st_nil hf (th_n ⟨ha, rfl⟩)
          clear hf; intro a hf
          refine dr_take 2 (eptr va0 i5 1) rfl (by kernel_rfl) (by kernel_rfl) (by kernel_rfl) (by kernel_rfl) rfl rfl hf (by decide) rfl (fun w hp => ?_) hp ?_
          · skip
            refine st_index (E := (Ek.int .i64)) hf (by decide) Try.underlying22 elt3 rfl rfl rfl (ha0.sl hp) hc1.1 hc1.2 ?_
            clear hf; intro a ha hf
            exact st_nil hf (th_n ⟨ha, rfl⟩)
          clear hf; intro a hf
          refine dr_take 3 (.int .i64 (gt a0 i5)) rfl (by kernel_rfl) (by kernel_rfl) (by kernel_rfl) (by kernel_rfl) rfl rfl hf (by decide) rfl (fun w hp => ?_) hp ?_
          · skip
            refine st_ldI hf (by decide) pl3 rfl rfl (ha0.sl hp) hc1.1 hc1.2 ?_
            clear hf; intro a ha hf
            exact st_nil hf (th_n ⟨ha, rfl⟩)
          clear hf; intro a hf
          refine dr_take 4 (vb1) rfl (by kernel_rfl) (by kernel_rfl) (by kernel_rfl) (by kernel_rfl) rfl rfl hf (by decide) rfl (fun w hp => ?_) hp ?_
          · skip
            refine st_move hf rfl rfl (by decide) ?_
            clear hf; intro a ha hf
            exact st_nil hf (th_n ⟨ha, rfl⟩)
          clear hf; intro a hf
          refine dr_take 5 (.int .i64 i5) rfl (by kernel_rfl) (by kernel_rfl) (by kernel_rfl) (by kernel_rfl) rfl rfl hf (by decide) rfl (fun w hp => ?_) hp ?_
          · skip
            refine st_move hf rfl rfl (by decide) ?_
            clear hf; intro a ha hf
            exact st_nil hf (th_n ⟨ha, rfl⟩)
          clear hf; intro a hf
          refine dr_take 6 (eptr vb1 i5 1) rfl (by kernel_rfl) (by kernel_rfl) (by kernel_rfl) (by kernel_rfl) rfl rfl hf (by decide) rfl (fun w hp => ?_) hp ?_
          · skip
            refine st_index (E := (Ek.int .i64)) hf (by decide) Try.underlying22 elt3 rfl rfl rfl (hb1.sl hp) hc2.1 hc2.2 ?_
            clear hf; intro a ha hf
            exact st_nil hf (th_n ⟨ha, rfl⟩)
          clear hf; intro a hf
          refine dr_take 7 (.int .i64 (gt b1 i5)) rfl (by kernel_rfl) (by kernel_rfl) (by kernel_rfl) (by kernel_rfl) rfl rfl hf (by decide) rfl (fun w hp => ?_) hp ?_
          · skip
            refine st_ldI hf (by decide) pl3 rfl rfl (hb1.sl hp) hc2.1 hc2.2 ?_
            clear hf; intro a ha hf
            exact st_nil hf (th_n ⟨ha, rfl⟩)
          clear hf; intro a hf
          refine dr_take 8 (.bool ((gt a0 i5) != (gt b1 i5))) rfl (by kernel_rfl) (by kernel_rfl) (by kernel_rfl) (by kernel_rfl) rfl rfl hf (by decide) rfl (fun w hp => ?_) hp ?_
          · skip
            refine st_ineq hf (by decide) rfl rfl rfl ?_
            clear hf; intro a ha hf
            exact st_nil hf (th_n ⟨ha, rfl⟩)
          clear hf; intro a hf
          refine dr_end (by kernel_rfl) ?_ _
          exact ⟨hf.sub ⟨rfl, rfl, rfl, rfl, trivial⟩, hp⟩
        · rintro a w ⟨hf, hp⟩
          refine th_n ?_
          refine wp_if hf rfl (fun hb => ?_) (fun hb => ?_)
          · replace h := ifT h hb
            refine wp_seq ?_
            refine wp_reg ?_
            refine st_assign hf rfl rfl (by decide) ?_
            clear hf; intro a ha hf; clear ha
            refine st_nil hf ?_
            refine th_n ?_
            refine wp_ret ?_
            refine ib_r ?_
            refine th_r ?_
            obtain rfl := Option.some.inj h
            exact rnd_r (by simp) ⟨rfl, ⟨hf.sub ⟨rfl, trivial⟩, hp⟩⟩
          · replace h := ifF h hb
            refine wp_skip ?_
            refine ib_n ?_
            refine th_n ?_
            refine wp_reg ?_
            refine st_move hf rfl rfl (by decide) ?_
            clear hf; intro a ha hf; clear ha
            refine st_iadd hf (by decide) rfl rfl rfl ?_
            clear hf; intro a ha hf; clear ha
            refine st_assign hf rfl rfl (by decide) ?_
            clear hf; intro a ha hf; clear ha
            refine st_nil hf ?_
            obtain rfl := Option.some.inj h
            exact rnd_l ⟨hf.sub ⟨rfl, rfl, rfl, trivial⟩, hp⟩
      · replace h := ifF h hb
        refine wp_exit ?_
        refine th_e ?_
        obtain rfl := Option.some.inj h
        exact rnd_r (by simp) ⟨rfl, hf.sub trivial, hp⟩
    · clear hl hf hp
      intro e a w hne hO
      cases q3 with
      | inl q4 =>
        replace h := smL h
        obtain ⟨rfl, hf, hp⟩ := hO
        refine ib_same ?_
        refine th_n ?_
        refine wp_seq ?_
        refine wp_reg ?_
        refine st_assign hf rfl rfl (by decide) ?_
        clear hf; intro a ha hf; clear ha
        refine st_nil hf ?_
        refine th_n ?_
        refine wp_ret ?_
        obtain rfl := Option.some.inj h
        exact ⟨rfl, ⟨hf.sub ⟨rfl, trivial⟩, hp⟩⟩
      | inr q5 =>
        replace h := smR h
        obtain ⟨rfl, hf, hp⟩ := hO
        refine ib_r ?_
        refine th_r ?_
        obtain rfl := Option.some.inj h
        exact ⟨rfl, ⟨hf.sub ⟨rfl, trivial⟩, hp⟩⟩

noncomputable def f_foghornlaw17_WeavePlaces.s1c (y27 : (List Int)) (k31 : Int) : Option (((List Int) × Int) ⊕ (List Int)) := (if (decide (k31 < (y27.length : Int))) = true then (if 0 ≤ k31 ∧ k31 < (y27.length : Int) then (some (Sum.inl ((y27.set (k31).toNat (-1)), (IntKind.i64.wrap (k31 + 1))))) else none) else (some (Sum.inr y27)))
noncomputable def f_foghornlaw17_WeavePlaces.s1  (s : ((List Int) × Int)) : Option (((List Int) × Int) ⊕ (List Int)) := f_foghornlaw17_WeavePlaces.s1c s.1 s.2
noncomputable def f_foghornlaw17_WeavePlaces.s2c (y27 : (List Int)) (k32 : Int) : Option (((List Int) × Int) ⊕ (List Int)) := (if (decide (k32 < 20)) = true then (if (y27.length + ([(-2)]).length) * 8 ≤ 140737488355328 then (some (Sum.inl ((y27 ++ [(-2)]), (IntKind.i64.wrap (k32 + 1))))) else none) else (some (Sum.inr y27)))
noncomputable def f_foghornlaw17_WeavePlaces.s2  (s : ((List Int) × Int)) : Option (((List Int) × Int) ⊕ (List Int)) := f_foghornlaw17_WeavePlaces.s2c s.1 s.2
noncomputable def f_foghornlaw17_WeavePlaces (word0 : Int) (at1 : Int) (count2 : Int) (length3 : Int) (place4 : Int) (from5 : Int) (to6 : Int) : Option Bool := ((f_foghornref17_Place word0 at1 count2 length3).bind fun q1 => ((f_weave_Place word0 at1 count2 length3).bind fun q3 => ((f_foghornref17_Back place4 count2 length3).bind fun q5 => ((f_weave_Back place4 count2 length3).bind fun q7 => ((f_foghornref17_Hit from5 to6 count2 length3).bind fun q9 => ((f_weave_Hit from5 to6 count2 length3).bind fun q13 => ((f_weave_Hit from5 to6 count2 length3).bind fun q17 => ((if ((((((q1.1 != q3.1) || (q1.2 != q3.2)) || (q5.1 != q7.1)) || (q5.2.1 != q7.2.1)) || (q5.2.2 != q7.2.2)) || (q9.2 != q13.2)) = true then (some true) else ((f_foghornref17_Numbers q13.1 q9.1).bind fun q22 => (some (!q22)))).bind fun z21 => ((if z21 = true then (some true) else ((f_foghornref17_Numbers q17.1 q9.1).bind fun q35 => (some (!q35)))).bind fun z34 => (if z34 = true then (some false) else ((loop f_foghornlaw17_WeavePlaces.s1 (q13.1, 0)).bind (fun q52 => ((loop f_foghornlaw17_WeavePlaces.s2 (q52, 0)).bind (fun q61 => ((f_foghornref17_Numbers q17.1 q9.1).bind fun q62 => (some (q62 && (decide (20 ≤ (q61.length : Int))))))))))))))))))))
theorem f_foghornlaw17_WeavePlaces_c {S : Nat → Prop} {w0 w : World} {ow : List Res} (hp : Hp S w0 w ow) (word0 : Int) (at1 : Int) (count2 : Int) (length3 : Int) (place4 : Int) (from5 : Int) (to6 : Int) {r : Bool} (h : f_foghornlaw17_WeavePlaces word0 at1 count2 length3 place4 from5 to6 = some r) :
    Calls Try.prog 4 #[.int .i64 word0, .int .i64 at1, .int .i64 count2, .int .i64 length3, .int .i64 place4, .int .i64 from5, .int .i64 to6] w (fun e w' => e = .returned (.bool r) ∧ Hp S w0 w' (ow)) := by
  unfold f_foghornlaw17_WeavePlaces at h
  refine enter (n := 153) (args := [.int .i64 word0, .int .i64 at1, .int .i64 count2, .int .i64 length3, .int .i64 place4, .int .i64 from5, .int .i64 to6]) Try.func4 rfl rfl (Nat.le_of_ble_eq_true rfl) fun a hf => ?_
  replace hf : Fr 153 a [(0, .int .i64 word0), (1, .int .i64 at1), (2, .int .i64 count2), (3, .int .i64 length3), (4, .int .i64 place4), (5, .int .i64 from5), (6, .int .i64 to6)] := hf
  refine wp_mono (Q := fun e a w => e = .ret ∧ Fr 153 a [(14, .bool r)] ∧ Hp S w0 w (ow)) ?_ ?_
  rotate_left
  · rintro e a w ⟨rfl, hf, hp⟩
    exact ret1 hf rfl rfl ⟨rfl, hp⟩
  refine wp_seq ?_
  refine wp_reg ?_
  refine st_assign hf rfl rfl (by decide) ?_
  clear hf; intro a ha hf; clear ha
  refine st_nil hf ?_
  refine th_n ?_
  refine wp_seq ?_
  refine wp_reg ?_
  refine st_move hf rfl rfl (by decide) ?_
  clear hf; intro a ha hf; clear ha
  refine st_move hf rfl rfl (by decide) ?_
  clear hf; intro a ha hf; clear ha
  refine st_move hf rfl rfl (by decide) ?_
  clear hf; intro a ha hf; clear ha
  refine st_move hf rfl rfl (by decide) ?_
  clear hf; intro a ha hf; clear ha
  obtain ⟨q1, hcall2, h⟩ := bnd h
  refine st_call hf (by decide) Try.func16 rfl rfl rfl rfl rfl (f_foghornref17_Place_c hp _ _ _ _ hcall2) ?_
  rintro _ w ⟨rfl, hp0⟩
  clear hp; have hp := hp0; clear hp0
  replace hp : Hp S w0 w (ow) := hp
  refine ⟨_, rfl, ?_⟩
  clear hf; intro a hf
  refine st_move hf rfl rfl (by decide) ?_
  clear hf; intro a ha hf; clear ha
  refine st_extract hf (by decide) rfl rfl rfl ?_
  clear hf; intro a ha hf; clear ha
  refine st_extract hf (by decide) rfl rfl rfl ?_
  clear hf; intro a ha hf; clear ha
  refine st_assign hf rfl rfl (by decide) ?_
  clear hf; intro a ha hf; clear ha
  refine st_assign hf rfl rfl (by decide) ?_
  clear hf; intro a ha hf; clear ha
  refine st_nil hf ?_
  refine th_n ?_
  refine wp_seq ?_
  refine wp_reg ?_
  refine st_move hf rfl rfl (by decide) ?_
  clear hf; intro a ha hf; clear ha
  refine st_move hf rfl rfl (by decide) ?_
  clear hf; intro a ha hf; clear ha
  refine st_move hf rfl rfl (by decide) ?_
  clear hf; intro a ha hf; clear ha
  refine st_move hf rfl rfl (by decide) ?_
  clear hf; intro a ha hf; clear ha
  obtain ⟨q3, hcall4, h⟩ := bnd h
  refine st_call hf (by decide) Try.func17 rfl rfl rfl rfl rfl (f_weave_Place_c hp _ _ _ _ hcall4) ?_
  rintro _ w ⟨rfl, hp0⟩
  clear hp; have hp := hp0; clear hp0
  replace hp : Hp S w0 w (ow) := hp
  refine ⟨_, rfl, ?_⟩
  clear hf; intro a hf
  refine st_move hf rfl rfl (by decide) ?_
  clear hf; intro a ha hf; clear ha
  refine st_extract hf (by decide) rfl rfl rfl ?_
  clear hf; intro a ha hf; clear ha
  refine st_extract hf (by decide) rfl rfl rfl ?_
  clear hf; intro a ha hf; clear ha
  refine st_assign hf rfl rfl (by decide) ?_
  clear hf; intro a ha hf; clear ha
  refine st_assign hf rfl rfl (by decide) ?_
  clear hf; intro a ha hf; clear ha
  refine st_nil hf ?_
  refine th_n ?_
  refine wp_seq ?_
  refine wp_reg ?_
  refine st_move hf rfl rfl (by decide) ?_
  clear hf; intro a ha hf; clear ha
  refine st_move hf rfl rfl (by decide) ?_
  clear hf; intro a ha hf; clear ha
  refine st_move hf rfl rfl (by decide) ?_
  clear hf; intro a ha hf; clear ha
  obtain ⟨q5, hcall6, h⟩ := bnd h
  refine st_call hf (by decide) Try.func18 rfl rfl rfl rfl rfl (f_foghornref17_Back_c hp _ _ _ hcall6) ?_
  rintro _ w ⟨rfl, hp0⟩
  clear hp; have hp := hp0; clear hp0
  replace hp : Hp S w0 w (ow) := hp
  refine ⟨_, rfl, ?_⟩
  clear hf; intro a hf
  refine st_move hf rfl rfl (by decide) ?_
  clear hf; intro a ha hf; clear ha
  refine st_extract hf (by decide) rfl rfl rfl ?_
  clear hf; intro a ha hf; clear ha
  refine st_extract hf (by decide) rfl rfl rfl ?_
  clear hf; intro a ha hf; clear ha
  refine st_extract hf (by decide) rfl rfl rfl ?_
  clear hf; intro a ha hf; clear ha
  refine st_assign hf rfl rfl (by decide) ?_
  clear hf; intro a ha hf; clear ha
  refine st_assign hf rfl rfl (by decide) ?_
  clear hf; intro a ha hf; clear ha
  refine st_assign hf rfl rfl (by decide) ?_
  clear hf; intro a ha hf; clear ha
  refine st_nil hf ?_
  refine th_n ?_
  refine wp_seq ?_
  refine wp_reg ?_
  refine st_move hf rfl rfl (by decide) ?_
  clear hf; intro a ha hf; clear ha
  refine st_move hf rfl rfl (by decide) ?_
  clear hf; intro a ha hf; clear ha
  refine st_move hf rfl rfl (by decide) ?_
  clear hf; intro a ha hf; clear ha
  obtain ⟨q7, hcall8, h⟩ := bnd h
  refine st_call hf (by decide) Try.func19 rfl rfl rfl rfl rfl (f_weave_Back_c hp _ _ _ hcall8) ?_
  rintro _ w ⟨rfl, hp0⟩
  clear hp; have hp := hp0; clear hp0
  replace hp : Hp S w0 w (ow) := hp
  refine ⟨_, rfl, ?_⟩
  clear hf; intro a hf
  refine st_move hf rfl rfl (by decide) ?_
  clear hf; intro a ha hf; clear ha
  refine st_extract hf (by decide) rfl rfl rfl ?_
  clear hf; intro a ha hf; clear ha
  refine st_extract hf (by decide) rfl rfl rfl ?_
  clear hf; intro a ha hf; clear ha
  refine st_extract hf (by decide) rfl rfl rfl ?_
  clear hf; intro a ha hf; clear ha
  refine st_assign hf rfl rfl (by decide) ?_
  clear hf; intro a ha hf; clear ha
  refine st_assign hf rfl rfl (by decide) ?_
  clear hf; intro a ha hf; clear ha
  refine st_assign hf rfl rfl (by decide) ?_
  clear hf; intro a ha hf; clear ha
  refine st_nil hf ?_
  refine th_n ?_
  refine wp_seq ?_
  refine wp_reg ?_
  refine st_move hf rfl rfl (by decide) ?_
  clear hf; intro a ha hf; clear ha
  refine st_move hf rfl rfl (by decide) ?_
  clear hf; intro a ha hf; clear ha
  refine st_move hf rfl rfl (by decide) ?_
  clear hf; intro a ha hf; clear ha
  refine st_move hf rfl rfl (by decide) ?_
  clear hf; intro a ha hf; clear ha
  obtain ⟨q9, hcall10, h⟩ := bnd h
  refine st_call hf (by decide) Try.func20 rfl rfl rfl rfl rfl (f_foghornref17_Hit_c hp _ _ _ _ hcall10) ?_
  rintro _ w ⟨v11, rfl, hp0⟩
  clear hp; have hp := hp0; clear hp0
  replace hp : Hp S w0 w (Res.sl (Ek.int .i64) 3 v11 q9.1 :: ow) := hp
  refine ⟨_, rfl, ?_⟩
  clear hf; intro a hf
  refine st_move hf rfl rfl (by decide) ?_
  clear hf; intro a ha hf; clear ha
  refine st_extract hf (by decide) rfl rfl rfl ?_
  clear hf; intro a ha hf; clear ha
  refine st_extract hf (by decide) rfl rfl rfl ?_
  clear hf; intro a ha hf; clear ha
  refine st_assign hf rfl rfl (by decide) ?_
  clear hf; intro a ha hf; clear ha
  refine st_assign hf rfl rfl (by decide) ?_
  clear hf; intro a ha hf; clear ha
  refine st_nil hf ?_
  refine th_n ?_
  refine wp_seq ?_
  refine wp_reg ?_
  refine st_move hf rfl rfl (by decide) ?_
  clear hf; intro a ha hf; clear ha
  refine st_move hf rfl rfl (by decide) ?_
  clear hf; intro a ha hf; clear ha
  refine st_move hf rfl rfl (by decide) ?_
  clear hf; intro a ha hf; clear ha
  refine st_move hf rfl rfl (by decide) ?_
  clear hf; intro a ha hf; clear ha
  obtain ⟨q13, hcall14, h⟩ := bnd h
  refine st_call hf (by decide) Try.func21 rfl rfl rfl rfl rfl (f_weave_Hit_c hp _ _ _ _ hcall14) ?_
  rintro _ w ⟨v15, rfl, hp0⟩
  clear hp; have hp := hp0; clear hp0
  replace hp : Hp S w0 w (Res.sl (Ek.int .i64) 3 v15 q13.1 :: Res.sl (Ek.int .i64) 3 v11 q9.1 :: ow) := hp
  refine ⟨_, rfl, ?_⟩
  clear hf; intro a hf
  refine st_move hf rfl rfl (by decide) ?_
  clear hf; intro a ha hf; clear ha
  refine st_extract hf (by decide) rfl rfl rfl ?_
  clear hf; intro a ha hf; clear ha
  refine st_extract hf (by decide) rfl rfl rfl ?_
  clear hf; intro a ha hf; clear ha
  refine st_assign hf rfl rfl (by decide) ?_
  clear hf; intro a ha hf; clear ha
  refine st_assign hf rfl rfl (by decide) ?_
  clear hf; intro a ha hf; clear ha
  refine st_nil hf ?_
  refine th_n ?_
  refine wp_seq ?_
  refine wp_reg ?_
  refine st_move hf rfl rfl (by decide) ?_
  clear hf; intro a ha hf; clear ha
  refine st_move hf rfl rfl (by decide) ?_
  clear hf; intro a ha hf; clear ha
  refine st_move hf rfl rfl (by decide) ?_
  clear hf; intro a ha hf; clear ha
  refine st_move hf rfl rfl (by decide) ?_
  clear hf; intro a ha hf; clear ha
  obtain ⟨q17, hcall18, h⟩ := bnd h
  refine st_call hf (by decide) Try.func21 rfl rfl rfl rfl rfl (f_weave_Hit_c hp _ _ _ _ hcall18) ?_
  rintro _ w ⟨v19, rfl, hp0⟩
  clear hp; have hp := hp0; clear hp0
  replace hp : Hp S w0 w (Res.sl (Ek.int .i64) 3 v19 q17.1 :: Res.sl (Ek.int .i64) 3 v15 q13.1 :: Res.sl (Ek.int .i64) 3 v11 q9.1 :: ow) := hp
  refine ⟨_, rfl, ?_⟩
  clear hf; intro a hf
  refine st_move hf rfl rfl (by decide) ?_
  clear hf; intro a ha hf; clear ha
  refine st_extract hf (by decide) rfl rfl rfl ?_
  clear hf; intro a ha hf; clear ha
  refine st_extract hf (by decide) rfl rfl rfl ?_
  clear hf; intro a ha hf; clear ha
  refine st_assign hf rfl rfl (by decide) ?_
  clear hf; intro a ha hf; clear ha
  refine st_assign hf rfl rfl (by decide) ?_
  clear hf; intro a ha hf; clear ha
  refine st_nil hf ?_
  refine th_n ?_
  refine wp_seq ?_
  refine wp_seq ?_
  refine wp_reg ?_
  refine st_move hf rfl rfl (by decide) ?_
  clear hf; intro a ha hf; clear ha
  refine st_move hf rfl rfl (by decide) ?_
  clear hf; intro a ha hf; clear ha
  refine st_ineq hf (by decide) rfl rfl rfl ?_
  clear hf; intro a ha hf; clear ha
  refine st_move hf rfl rfl (by decide) ?_
  clear hf; intro a ha hf; clear ha
  refine wpList_cut 4 (fun a w => Fr 153 a [(19, .int .i64 q5.1), (20, .int .i64 q5.2.1), (21, .int .i64 q5.2.2), (22, .int .i64 q7.1), (23, .int .i64 q7.2.1), (24, .int .i64 q7.2.2), (25, v11), (26, .int .i64 q9.2), (27, v15), (28, .int .i64 q13.2), (29, v19), (96, .bool ((q1.1 != q3.1) || (q1.2 != q3.2)))] ∧ Hp S w0 w (Res.sl (Ek.int .i64) 3 v19 q17.1 :: Res.sl (Ek.int .i64) 3 v15 q13.1 :: Res.sl (Ek.int .i64) 3 v11 q9.1 :: ow)) ?_ ?_
  · rcases Bool.eq_false_or_eq_true (q1.1 != q3.1) with hb | hb
    · skip
      refine st_skip hf (wantN hf rfl rfl hb) rfl (by decide) ?_ rfl
      clear hf; intro a hf
      refine st_skip hf (wantN hf rfl rfl hb) rfl (by decide) ?_ rfl
      clear hf; intro a hf
      refine st_skip hf (wantN hf rfl rfl hb) rfl (by decide) ?_ rfl
      clear hf; intro a hf
      refine st_pick (v := .bool true) hf rfl rfl (fun hb' => ?_) (fun hb' => ?_) (by decide) ?_
      · rfl
      · exact absurd (hb.symm.trans hb') (by decide)
      clear hf; intro a ha hf; clear ha
      refine st_nil hf (th_n ?_)
      exact ⟨hf.sub ⟨rfl, rfl, rfl, rfl, rfl, rfl, rfl, rfl, rfl, rfl, rfl, (by rw [hb]; rfl), trivial⟩, hp⟩
    · skip
      refine st_move hf (wantY hf rfl rfl hb) rfl (by decide) ?_
      clear hf; intro a ha hf; clear ha
      refine st_move hf (wantY hf rfl rfl hb) rfl (by decide) ?_
      clear hf; intro a ha hf; clear ha
      refine st_ineq hf (by decide) (wantY hf rfl rfl hb) rfl rfl ?_
      clear hf; intro a ha hf; clear ha
      refine st_pick (v := .bool (q1.2 != q3.2)) hf rfl rfl (fun hb' => ?_) (fun hb' => ?_) (by decide) ?_
      · exact absurd (hb.symm.trans hb') (by decide)
      · rfl
      clear hf; intro a ha hf; clear ha
      refine st_nil hf (th_n ?_)
      exact ⟨hf.sub ⟨rfl, rfl, rfl, rfl, rfl, rfl, rfl, rfl, rfl, rfl, rfl, (by rw [hb]; rfl), trivial⟩, hp⟩
  · rintro a w ⟨hf, hp⟩
    refine st_move hf rfl rfl (by decide) ?_
    clear hf; intro a ha hf; clear ha
    refine wpList_cut 4 (fun a w => Fr 153 a [(20, .int .i64 q5.2.1), (21, .int .i64 q5.2.2), (23, .int .i64 q7.2.1), (24, .int .i64 q7.2.2), (25, v11), (26, .int .i64 q9.2), (27, v15), (28, .int .i64 q13.2), (29, v19), (101, .bool (((q1.1 != q3.1) || (q1.2 != q3.2)) || (q5.1 != q7.1)))] ∧ Hp S w0 w (Res.sl (Ek.int .i64) 3 v19 q17.1 :: Res.sl (Ek.int .i64) 3 v15 q13.1 :: Res.sl (Ek.int .i64) 3 v11 q9.1 :: ow)) ?_ ?_
    · rcases Bool.eq_false_or_eq_true ((q1.1 != q3.1) || (q1.2 != q3.2)) with hb | hb
      · skip
        refine st_skip hf (wantN hf rfl rfl hb) rfl (by decide) ?_ rfl
        clear hf; intro a hf
        refine st_skip hf (wantN hf rfl rfl hb) rfl (by decide) ?_ rfl
        clear hf; intro a hf
        refine st_skip hf (wantN hf rfl rfl hb) rfl (by decide) ?_ rfl
        clear hf; intro a hf
        refine st_pick (v := .bool true) hf rfl rfl (fun hb' => ?_) (fun hb' => ?_) (by decide) ?_
        · rfl
        · exact absurd (hb.symm.trans hb') (by decide)
        clear hf; intro a ha hf; clear ha
        refine st_nil hf (th_n ?_)
        exact ⟨hf.sub ⟨rfl, rfl, rfl, rfl, rfl, rfl, rfl, rfl, rfl, (by rw [hb]; rfl), trivial⟩, hp⟩
      · skip
        refine st_move hf (wantY hf rfl rfl hb) rfl (by decide) ?_
        clear hf; intro a ha hf; clear ha
        refine st_move hf (wantY hf rfl rfl hb) rfl (by decide) ?_
        clear hf; intro a ha hf; clear ha
        refine st_ineq hf (by decide) (wantY hf rfl rfl hb) rfl rfl ?_
        clear hf; intro a ha hf; clear ha
        refine st_pick (v := .bool (q5.1 != q7.1)) hf rfl rfl (fun hb' => ?_) (fun hb' => ?_) (by decide) ?_
        · exact absurd (hb.symm.trans hb') (by decide)
        · rfl
        clear hf; intro a ha hf; clear ha
        refine st_nil hf (th_n ?_)
        exact ⟨hf.sub ⟨rfl, rfl, rfl, rfl, rfl, rfl, rfl, rfl, rfl, (by rw [hb]; rfl), trivial⟩, hp⟩
    · rintro a w ⟨hf, hp⟩
      refine st_move hf rfl rfl (by decide) ?_
      clear hf; intro a ha hf; clear ha
      refine wpList_cut 4 (fun a w => Fr 153 a [(21, .int .i64 q5.2.2), (24, .int .i64 q7.2.2), (25, v11), (26, .int .i64 q9.2), (27, v15), (28, .int .i64 q13.2), (29, v19), (106, .bool ((((q1.1 != q3.1) || (q1.2 != q3.2)) || (q5.1 != q7.1)) || (q5.2.1 != q7.2.1)))] ∧ Hp S w0 w (Res.sl (Ek.int .i64) 3 v19 q17.1 :: Res.sl (Ek.int .i64) 3 v15 q13.1 :: Res.sl (Ek.int .i64) 3 v11 q9.1 :: ow)) ?_ ?_
      · rcases Bool.eq_false_or_eq_true (((q1.1 != q3.1) || (q1.2 != q3.2)) || (q5.1 != q7.1)) with hb | hb
        · skip
          refine st_skip hf (wantN hf rfl rfl hb) rfl (by decide) ?_ rfl
          clear hf; intro a hf
          refine st_skip hf (wantN hf rfl rfl hb) rfl (by decide) ?_ rfl
          clear hf; intro a hf
          refine st_skip hf (wantN hf rfl rfl hb) rfl (by decide) ?_ rfl
          clear hf; intro a hf
          refine st_pick (v := .bool true) hf rfl rfl (fun hb' => ?_) (fun hb' => ?_) (by decide) ?_
          · rfl
          · exact absurd (hb.symm.trans hb') (by decide)
          clear hf; intro a ha hf; clear ha
          refine st_nil hf (th_n ?_)
          exact ⟨hf.sub ⟨rfl, rfl, rfl, rfl, rfl, rfl, rfl, (by rw [hb]; rfl), trivial⟩, hp⟩
        · skip
          refine st_move hf (wantY hf rfl rfl hb) rfl (by decide) ?_
          clear hf; intro a ha hf; clear ha
          refine st_move hf (wantY hf rfl rfl hb) rfl (by decide) ?_
          clear hf; intro a ha hf; clear ha
          refine st_ineq hf (by decide) (wantY hf rfl rfl hb) rfl rfl ?_
          clear hf; intro a ha hf; clear ha
          refine st_pick (v := .bool (q5.2.1 != q7.2.1)) hf rfl rfl (fun hb' => ?_) (fun hb' => ?_) (by decide) ?_
          · exact absurd (hb.symm.trans hb') (by decide)
          · rfl
          clear hf; intro a ha hf; clear ha
          refine st_nil hf (th_n ?_)
          exact ⟨hf.sub ⟨rfl, rfl, rfl, rfl, rfl, rfl, rfl, (by rw [hb]; rfl), trivial⟩, hp⟩
      · rintro a w ⟨hf, hp⟩
        refine st_move hf rfl rfl (by decide) ?_
        clear hf; intro a ha hf; clear ha
        refine wpList_cut 4 (fun a w => Fr 153 a [(25, v11), (26, .int .i64 q9.2), (27, v15), (28, .int .i64 q13.2), (29, v19), (111, .bool (((((q1.1 != q3.1) || (q1.2 != q3.2)) || (q5.1 != q7.1)) || (q5.2.1 != q7.2.1)) || (q5.2.2 != q7.2.2)))] ∧ Hp S w0 w (Res.sl (Ek.int .i64) 3 v19 q17.1 :: Res.sl (Ek.int .i64) 3 v15 q13.1 :: Res.sl (Ek.int .i64) 3 v11 q9.1 :: ow)) ?_ ?_
        · rcases Bool.eq_false_or_eq_true ((((q1.1 != q3.1) || (q1.2 != q3.2)) || (q5.1 != q7.1)) || (q5.2.1 != q7.2.1)) with hb | hb
          · skip
            refine st_skip hf (wantN hf rfl rfl hb) rfl (by decide) ?_ rfl
            clear hf; intro a hf
            refine st_skip hf (wantN hf rfl rfl hb) rfl (by decide) ?_ rfl
            clear hf; intro a hf
            refine st_skip hf (wantN hf rfl rfl hb) rfl (by decide) ?_ rfl
            clear hf; intro a hf
            refine st_pick (v := .bool true) hf rfl rfl (fun hb' => ?_) (fun hb' => ?_) (by decide) ?_
            · rfl
            · exact absurd (hb.symm.trans hb') (by decide)
            clear hf; intro a ha hf; clear ha
            refine st_nil hf (th_n ?_)
            exact ⟨hf.sub ⟨rfl, rfl, rfl, rfl, rfl, (by rw [hb]; rfl), trivial⟩, hp⟩
          · skip
            refine st_move hf (wantY hf rfl rfl hb) rfl (by decide) ?_
            clear hf; intro a ha hf; clear ha
            refine st_move hf (wantY hf rfl rfl hb) rfl (by decide) ?_
            clear hf; intro a ha hf; clear ha
            refine st_ineq hf (by decide) (wantY hf rfl rfl hb) rfl rfl ?_
            clear hf; intro a ha hf; clear ha
            refine st_pick (v := .bool (q5.2.2 != q7.2.2)) hf rfl rfl (fun hb' => ?_) (fun hb' => ?_) (by decide) ?_
            · exact absurd (hb.symm.trans hb') (by decide)
            · rfl
            clear hf; intro a ha hf; clear ha
            refine st_nil hf (th_n ?_)
            exact ⟨hf.sub ⟨rfl, rfl, rfl, rfl, rfl, (by rw [hb]; rfl), trivial⟩, hp⟩
        · rintro a w ⟨hf, hp⟩
          refine st_move hf rfl rfl (by decide) ?_
          clear hf; intro a ha hf; clear ha
          refine wpList_cut 4 (fun a w => Fr 153 a [(25, v11), (27, v15), (29, v19), (116, .bool ((((((q1.1 != q3.1) || (q1.2 != q3.2)) || (q5.1 != q7.1)) || (q5.2.1 != q7.2.1)) || (q5.2.2 != q7.2.2)) || (q9.2 != q13.2)))] ∧ Hp S w0 w (Res.sl (Ek.int .i64) 3 v19 q17.1 :: Res.sl (Ek.int .i64) 3 v15 q13.1 :: Res.sl (Ek.int .i64) 3 v11 q9.1 :: ow)) ?_ ?_
          · rcases Bool.eq_false_or_eq_true (((((q1.1 != q3.1) || (q1.2 != q3.2)) || (q5.1 != q7.1)) || (q5.2.1 != q7.2.1)) || (q5.2.2 != q7.2.2)) with hb | hb
            · skip
              refine st_skip hf (wantN hf rfl rfl hb) rfl (by decide) ?_ rfl
              clear hf; intro a hf
              refine st_skip hf (wantN hf rfl rfl hb) rfl (by decide) ?_ rfl
              clear hf; intro a hf
              refine st_skip hf (wantN hf rfl rfl hb) rfl (by decide) ?_ rfl
              clear hf; intro a hf
              refine st_pick (v := .bool true) hf rfl rfl (fun hb' => ?_) (fun hb' => ?_) (by decide) ?_
              · rfl
              · exact absurd (hb.symm.trans hb') (by decide)
              clear hf; intro a ha hf; clear ha
              refine st_nil hf (th_n ?_)
              exact ⟨hf.sub ⟨rfl, rfl, rfl, (by rw [hb]; rfl), trivial⟩, hp⟩
            · skip
              refine st_move hf (wantY hf rfl rfl hb) rfl (by decide) ?_
              clear hf; intro a ha hf; clear ha
              refine st_move hf (wantY hf rfl rfl hb) rfl (by decide) ?_
              clear hf; intro a ha hf; clear ha
              refine st_ineq hf (by decide) (wantY hf rfl rfl hb) rfl rfl ?_
              clear hf; intro a ha hf; clear ha
              refine st_pick (v := .bool (q9.2 != q13.2)) hf rfl rfl (fun hb' => ?_) (fun hb' => ?_) (by decide) ?_
              · exact absurd (hb.symm.trans hb') (by decide)
              · rfl
              clear hf; intro a ha hf; clear ha
              refine st_nil hf (th_n ?_)
              exact ⟨hf.sub ⟨rfl, rfl, rfl, (by rw [hb]; rfl), trivial⟩, hp⟩
          · rintro a w ⟨hf, hp⟩
            refine st_move hf rfl rfl (by decide) ?_
            clear hf; intro a ha hf; clear ha
            obtain ⟨z21, hz, h⟩ := bnd h
            refine wpList_cut 5 (fun a w => Fr 153 a [(25, v11), (27, v15), (29, v19), (122, .bool z21)] ∧ Hp S w0 w (Res.sl (Ek.int .i64) 3 v19 q17.1 :: Res.sl (Ek.int .i64) 3 v15 q13.1 :: Res.sl (Ek.int .i64) 3 v11 q9.1 :: ow)) ?_ ?_
            · rcases Bool.eq_false_or_eq_true ((((((q1.1 != q3.1) || (q1.2 != q3.2)) || (q5.1 != q7.1)) || (q5.2.1 != q7.2.1)) || (q5.2.2 != q7.2.2)) || (q9.2 != q13.2)) with hb | hb
              · skip
                replace hz := ifT hz hb
                refine st_skip hf (wantN hf rfl rfl hb) rfl (by decide) ?_ rfl
                clear hf; intro a hf
                refine st_skip hf (wantN hf rfl rfl hb) rfl (by decide) ?_ rfl
                clear hf; intro a hf
                refine st_skip hf (wantN hf rfl rfl hb) rfl (by decide) ?_ rfl
                clear hf; intro a hf
                refine st_skip hf (wantN hf rfl rfl hb) rfl (by decide) ?_ rfl
                clear hf; intro a hf
                obtain rfl := Option.some.inj hz
                refine st_pick (v := .bool true) hf rfl rfl (fun hb' => ?_) (fun hb' => ?_) (by decide) ?_
                · rfl
                · exact absurd (hb.symm.trans hb') (by decide)
                clear hf; intro a ha hf; clear ha
                refine st_nil hf (th_n ?_)
                exact ⟨hf.sub ⟨rfl, rfl, rfl, rfl, trivial⟩, hp⟩
              · skip
                replace hz := ifF hz hb
                refine st_move hf (wantY hf rfl rfl hb) rfl (by decide) ?_
                clear hf; intro a ha hf; clear ha
                refine st_move hf (wantY hf rfl rfl hb) rfl (by decide) ?_
                clear hf; intro a ha hf; clear ha
                obtain ⟨q22, hcall23, hz⟩ := bnd hz
                obtain ⟨S24, hp25, rd26, up27, bk28⟩ := Hp.lendS hp (i := 1) rfl
                obtain ⟨S29, hp30, rd31, up32, bk33⟩ := Hp.lendS hp25 (i := 1) rfl
                refine st_call hf (by decide) Try.func15 rfl rfl (wantY hf rfl rfl hb) rfl rfl (f_foghornref17_Numbers_c hp30 _ _ ((rd26.now hp25).mono up32) _ _ rd31 hcall23) ?_
                rintro _ w ⟨rfl, hp0⟩
                have hp0 := bk33 _ _ hp0
                have hp0 := bk28 _ _ hp0
                clear hp; have hp := hp0; clear hp0
                replace hp : Hp S w0 w (Res.sl (Ek.int .i64) 3 v15 q13.1 :: Res.sl (Ek.int .i64) 3 v11 q9.1 :: Res.sl (Ek.int .i64) 3 v19 q17.1 :: ow) := hp
                refine ⟨_, rfl, ?_⟩
                clear hf; intro a hf
                refine st_not hf (by decide) (wantY hf rfl rfl hb) rfl ?_
                clear hf; intro a ha hf; clear ha
                obtain rfl := Option.some.inj hz
                refine st_pick (v := .bool (!q22)) hf rfl rfl (fun hb' => ?_) (fun hb' => ?_) (by decide) ?_
                · exact absurd (hb.symm.trans hb') (by decide)
                · rfl
                clear hf; intro a ha hf; clear ha
                refine st_nil hf (th_n ?_)
                have hp : Hp S w0 w (Res.sl (Ek.int .i64) 3 v19 q17.1 :: Res.sl (Ek.int .i64) 3 v15 q13.1 :: Res.sl (Ek.int .i64) 3 v11 q9.1 :: ow) := Hp.sel (pre := [Res.sl (Ek.int .i64) 3 v15 q13.1, Res.sl (Ek.int .i64) 3 v11 q9.1, Res.sl (Ek.int .i64) 3 v19 q17.1]) (tail := ow) (rs' := [Res.sl (Ek.int .i64) 3 v19 q17.1, Res.sl (Ek.int .i64) 3 v15 q13.1, Res.sl (Ek.int .i64) 3 v11 q9.1]) hp [2, 0, 1] (by decide) (by simp) rfl
                exact ⟨hf.sub ⟨rfl, rfl, rfl, rfl, trivial⟩, hp⟩
            · rintro a w ⟨hf, hp⟩
              refine st_move hf rfl rfl (by decide) ?_
              clear hf; intro a ha hf; clear ha
              obtain ⟨z34, hz, h⟩ := bnd h
              refine wpList_cut 5 (fun a w => Fr 153 a [(25, v11), (27, v15), (29, v19), (128, .bool z34)] ∧ Hp S w0 w (Res.sl (Ek.int .i64) 3 v19 q17.1 :: Res.sl (Ek.int .i64) 3 v15 q13.1 :: Res.sl (Ek.int .i64) 3 v11 q9.1 :: ow)) ?_ ?_
              · rcases Bool.eq_false_or_eq_true z21 with hb | hb
                · skip
                  replace hz := ifT hz hb
                  refine st_skip hf (wantN hf rfl rfl hb) rfl (by decide) ?_ rfl
                  clear hf; intro a hf
                  refine st_skip hf (wantN hf rfl rfl hb) rfl (by decide) ?_ rfl
                  clear hf; intro a hf
                  refine st_skip hf (wantN hf rfl rfl hb) rfl (by decide) ?_ rfl
                  clear hf; intro a hf
                  refine st_skip hf (wantN hf rfl rfl hb) rfl (by decide) ?_ rfl
                  clear hf; intro a hf
                  obtain rfl := Option.some.inj hz
                  refine st_pick (v := .bool true) hf rfl rfl (fun hb' => ?_) (fun hb' => ?_) (by decide) ?_
                  · rfl
                  · exact absurd (hb.symm.trans hb') (by decide)
                  clear hf; intro a ha hf; clear ha
                  refine st_nil hf (th_n ?_)
                  exact ⟨hf.sub ⟨rfl, rfl, rfl, rfl, trivial⟩, hp⟩
                · skip
                  replace hz := ifF hz hb
                  refine st_move hf (wantY hf rfl rfl hb) rfl (by decide) ?_
                  clear hf; intro a ha hf; clear ha
                  refine st_move hf (wantY hf rfl rfl hb) rfl (by decide) ?_
                  clear hf; intro a ha hf; clear ha
                  obtain ⟨q35, hcall36, hz⟩ := bnd hz
                  obtain ⟨S37, hp38, rd39, up40, bk41⟩ := Hp.lendS hp (i := 0) rfl
                  obtain ⟨S42, hp43, rd44, up45, bk46⟩ := Hp.lendS hp38 (i := 1) rfl
                  refine st_call hf (by decide) Try.func15 rfl rfl (wantY hf rfl rfl hb) rfl rfl (f_foghornref17_Numbers_c hp43 _ _ ((rd39.now hp38).mono up45) _ _ rd44 hcall36) ?_
                  rintro _ w ⟨rfl, hp0⟩
                  have hp0 := bk46 _ _ hp0
                  have hp0 := bk41 _ _ hp0
                  clear hp; have hp := hp0; clear hp0
                  replace hp : Hp S w0 w (Res.sl (Ek.int .i64) 3 v19 q17.1 :: Res.sl (Ek.int .i64) 3 v11 q9.1 :: Res.sl (Ek.int .i64) 3 v15 q13.1 :: ow) := hp
                  refine ⟨_, rfl, ?_⟩
                  clear hf; intro a hf
                  refine st_not hf (by decide) (wantY hf rfl rfl hb) rfl ?_
                  clear hf; intro a ha hf; clear ha
                  obtain rfl := Option.some.inj hz
                  refine st_pick (v := .bool (!q35)) hf rfl rfl (fun hb' => ?_) (fun hb' => ?_) (by decide) ?_
                  · exact absurd (hb.symm.trans hb') (by decide)
                  · rfl
                  clear hf; intro a ha hf; clear ha
                  refine st_nil hf (th_n ?_)
                  have hp : Hp S w0 w (Res.sl (Ek.int .i64) 3 v19 q17.1 :: Res.sl (Ek.int .i64) 3 v15 q13.1 :: Res.sl (Ek.int .i64) 3 v11 q9.1 :: ow) := Hp.sel (pre := [Res.sl (Ek.int .i64) 3 v19 q17.1, Res.sl (Ek.int .i64) 3 v11 q9.1, Res.sl (Ek.int .i64) 3 v15 q13.1]) (tail := ow) (rs' := [Res.sl (Ek.int .i64) 3 v19 q17.1, Res.sl (Ek.int .i64) 3 v15 q13.1, Res.sl (Ek.int .i64) 3 v11 q9.1]) hp [0, 2, 1] (by decide) (by simp) rfl
                  exact ⟨hf.sub ⟨rfl, rfl, rfl, rfl, trivial⟩, hp⟩
              · rintro a w ⟨hf, hp⟩
                refine st_nil hf ?_
                refine th_n ?_
                refine wp_if hf rfl (fun hb => ?_) (fun hb => ?_)
                · replace h := ifT h hb
                  refine wp_seq ?_
                  refine wp_reg ?_
                  refine st_assign hf rfl rfl (by decide) ?_
                  clear hf; intro a ha hf; clear ha
                  refine st_nil hf ?_
                  refine th_n ?_
                  refine wp_ret ?_
                  refine th_r ?_
                  obtain rfl := Option.some.inj h
                  have hp : Hp S w0 w (ow) := Hp.sel (pre := [Res.sl (Ek.int .i64) 3 v19 q17.1, Res.sl (Ek.int .i64) 3 v15 q13.1, Res.sl (Ek.int .i64) 3 v11 q9.1]) (tail := ow) (rs' := []) hp [] (by decide) (by simp) rfl
                  exact ⟨rfl, ⟨hf.sub ⟨rfl, trivial⟩, hp⟩⟩
                · replace h := ifF h hb
                  refine wp_skip ?_
                  refine th_n ?_
                  refine wp_seq ?_
                  refine wp_seq ?_
                  refine wp_reg ?_
                  refine st_assign hf rfl rfl (by decide) ?_
                  clear hf; intro a ha hf; clear ha
                  refine st_nil hf ?_
                  refine th_n ?_
                  refine wp_block ?_
                  obtain ⟨q52, hl, h⟩ := bnd h
                  have hp : Hp S w0 w (Res.sl (Ek.int .i64) 3 v15 q13.1 :: Res.sl (Ek.int .i64) 3 v11 q9.1 :: Res.sl (Ek.int .i64) 3 v19 q17.1 :: ow) := Hp.sel (pre := [Res.sl (Ek.int .i64) 3 v19 q17.1, Res.sl (Ek.int .i64) 3 v15 q13.1, Res.sl (Ek.int .i64) 3 v11 q9.1]) (tail := ow) (rs' := [Res.sl (Ek.int .i64) 3 v15 q13.1, Res.sl (Ek.int .i64) 3 v11 q9.1, Res.sl (Ek.int .i64) 3 v19 q17.1]) hp [1, 2, 0] (by decide) (by simp) rfl
                  refine wp_loop_pure (f := f_foghornlaw17_WeavePlaces.s1) (s := (q13.1, 0)) (fun s a w => ∃ (v47 : Value), Fr 153 a [(25, v11), (27, v47), (29, v19), (31, .int .i64 s.2)] ∧ Hp S w0 w (Res.sl (Ek.int .i64) 3 v47 s.1 :: Res.sl (Ek.int .i64) 3 v11 q9.1 :: Res.sl (Ek.int .i64) 3 v19 q17.1 :: ow)) (fun q e a w => e = .exit 0 ∧ ∃ (v49 : Value), Fr 153 a [(25, v11), (27, v49), (29, v19)] ∧ Hp S w0 w (Res.sl (Ek.int .i64) 3 v49 q :: Res.sl (Ek.int .i64) 3 v11 q9.1 :: Res.sl (Ek.int .i64) 3 v19 q17.1 :: ow)) ?_ hl ⟨_, hf.sub ⟨rfl, rfl, rfl, rfl, trivial⟩, hp⟩ ?_
                  · clear hl hf hp
                    intro s x a w h hI
                    obtain ⟨y27, k31⟩ := s
                    obtain ⟨v47, hf, hp⟩ : ∃ (v47 : Value), Fr 153 a [(25, v11), (27, v47), (29, v19), (31, .int .i64 k31)] ∧ Hp S w0 w (Res.sl (Ek.int .i64) 3 v47 y27 :: Res.sl (Ek.int .i64) 3 v11 q9.1 :: Res.sl (Ek.int .i64) 3 v19 q17.1 :: ow) := hI
                    replace h : f_foghornlaw17_WeavePlaces.s1c y27 k31 = some x := h
                    unfold f_foghornlaw17_WeavePlaces.s1c at h
                    refine wp_seq ?_
                    refine wp_seq ?_
                    refine wp_reg ?_
                    refine st_move hf rfl rfl (by decide) ?_
                    clear hf; intro a ha hf; clear ha
                    refine st_move hf rfl rfl (by decide) ?_
                    clear hf; intro a ha hf; clear ha
                    refine st_len (E := (Ek.int .i64)) hf (by decide) Try.underlying22 rfl rfl (hp.sl (i := 0) rfl) ?_
                    clear hf; intro a ha hf; clear ha
                    refine st_ilss hf (by decide) rfl rfl rfl ?_
                    clear hf; intro a ha hf; clear ha
                    refine st_nil hf ?_
                    refine th_n ?_
                    refine wp_if hf rfl (fun hb => ?_) (fun hb => ?_)
                    · replace h := ifT h hb
                      refine wp_skip ?_
                      refine th_n ?_
                      refine wp_seq ?_
                      refine wp_block ?_
                      refine wp_reg ?_
                      refine st_move hf rfl rfl (by decide) ?_
                      clear hf; intro a ha hf; clear ha
                      refine st_move hf rfl rfl (by decide) ?_
                      clear hf; intro a ha hf; clear ha
                      obtain ⟨hc51, h⟩ := chk h
                      refine st_index (E := (Ek.int .i64)) hf (by decide) Try.underlying22 elt3 rfl rfl rfl (hp.sl (i := 0) rfl) hc51.1 hc51.2 ?_
                      clear hf; intro a ha hf; clear ha
                      refine st_store (E := (Ek.int .i64)) hf elt3 hp (i := 0) rfl rfl rfl rfl rfl hc51.1 hc51.2 ?_
                      clear hf; intro a w hf hp0; clear hp; have hp := hp0; clear hp0
                      replace hp : Hp S w0 w (Res.sl (Ek.int .i64) 3 v47 (y27.set (k31).toNat (-1)) :: Res.sl (Ek.int .i64) 3 v11 q9.1 :: Res.sl (Ek.int .i64) 3 v19 q17.1 :: ow) := hp
                      refine st_nil hf ?_
                      refine ib_n ?_
                      refine th_n ?_
                      refine wp_reg ?_
                      refine st_move hf rfl rfl (by decide) ?_
                      clear hf; intro a ha hf; clear ha
                      refine st_iadd hf (by decide) rfl rfl rfl ?_
                      clear hf; intro a ha hf; clear ha
                      refine st_assign hf rfl rfl (by decide) ?_
                      clear hf; intro a ha hf; clear ha
                      refine st_nil hf ?_
                      obtain rfl := Option.some.inj h
                      exact rnd_l ⟨_, hf.sub ⟨rfl, rfl, rfl, rfl, trivial⟩, hp⟩
                    · replace h := ifF h hb
                      refine wp_exit ?_
                      refine th_e ?_
                      obtain rfl := Option.some.inj h
                      exact rnd_r (by simp) ⟨rfl, _, hf.sub ⟨rfl, rfl, rfl, trivial⟩, hp⟩
                  · clear hl hf hp
                    intro e a w hne hO
                    obtain ⟨rfl, v49, hf, hp⟩ := hO
                    refine ib_same ?_
                    refine th_n ?_
                    refine wp_seq ?_
                    refine wp_seq ?_
                    refine wp_reg ?_
                    refine st_assign hf rfl rfl (by decide) ?_
                    clear hf; intro a ha hf; clear ha
                    refine st_nil hf ?_
                    refine th_n ?_
                    refine wp_block ?_
                    obtain ⟨q61, hl, h⟩ := bnd h
                    refine wp_loop_pure (f := f_foghornlaw17_WeavePlaces.s2) (s := (q52, 0)) (fun s a w => ∃ (v53 : Value), Fr 153 a [(25, v11), (27, v53), (29, v19), (32, .int .i64 s.2)] ∧ Hp S w0 w (Res.sl (Ek.int .i64) 3 v53 s.1 :: Res.sl (Ek.int .i64) 3 v11 q9.1 :: Res.sl (Ek.int .i64) 3 v19 q17.1 :: ow)) (fun q e a w => e = .exit 2 ∧ ∃ (v55 : Value), Fr 153 a [(25, v11), (27, v55), (29, v19)] ∧ Hp S w0 w (Res.sl (Ek.int .i64) 3 v55 q :: Res.sl (Ek.int .i64) 3 v11 q9.1 :: Res.sl (Ek.int .i64) 3 v19 q17.1 :: ow)) ?_ hl ⟨_, hf.sub ⟨rfl, rfl, rfl, rfl, trivial⟩, hp⟩ ?_
                    · clear hl hf hp
                      intro s x a w h hI
                      obtain ⟨y27, k32⟩ := s
                      obtain ⟨v53, hf, hp⟩ : ∃ (v53 : Value), Fr 153 a [(25, v11), (27, v53), (29, v19), (32, .int .i64 k32)] ∧ Hp S w0 w (Res.sl (Ek.int .i64) 3 v53 y27 :: Res.sl (Ek.int .i64) 3 v11 q9.1 :: Res.sl (Ek.int .i64) 3 v19 q17.1 :: ow) := hI
                      replace h : f_foghornlaw17_WeavePlaces.s2c y27 k32 = some x := h
                      unfold f_foghornlaw17_WeavePlaces.s2c at h
                      refine wp_seq ?_
                      refine wp_seq ?_
                      refine wp_reg ?_
                      refine st_move hf rfl rfl (by decide) ?_
                      clear hf; intro a ha hf; clear ha
                      refine st_ilss hf (by decide) rfl rfl rfl ?_
                      clear hf; intro a ha hf; clear ha
                      refine st_nil hf ?_
                      refine th_n ?_
                      refine wp_if hf rfl (fun hb => ?_) (fun hb => ?_)
                      · replace h := ifT h hb
                        refine wp_skip ?_
                        refine th_n ?_
                        refine wp_seq ?_
                        refine wp_block ?_
                        refine wp_reg ?_
                        refine st_move hf rfl rfl (by decide) ?_
                        clear hf; intro a ha hf; clear ha
                        refine st_build (E := (Ek.int .i64)) (xs := [(-2)]) hf (by decide) elt3 Try.underlying22 hp (vals := #[(0, .int .i64 (-2))]) (cells := #[.int .i64 (-2)]) rfl (by simp [hf.ev (x := (Operand.const (.int .i64 (-2)))) rfl]) (by decide) (by decide) (z := .int .i64 0) (by kernel_rfl) (by kernel_rfl) rfl (reps_cons (cs := [.int .i64 (-2)]) rfl (reps_nil _)) ?_
                        clear hf; intro a w v57 hf hp0; clear hp; have hp := hp0; clear hp0
                        replace hp : Hp S w0 w (Res.sl (Ek.int .i64) 3 v57 ([(-2)]) :: Res.sl (Ek.int .i64) 3 v53 y27 :: Res.sl (Ek.int .i64) 3 v11 q9.1 :: Res.sl (Ek.int .i64) 3 v19 q17.1 :: ow) := hp
                        obtain ⟨hc59, h⟩ := chk h
                        refine st_append (E := (Ek.int .i64)) hf (by decide) elt3 Try.underlying22 (by decide) hp (i := 1) rfl rfl rfl rfl (hp.sl (i := 0) rfl) hc59 ?_
                        clear hf; intro a w v60 hf hp0; clear hp; have hp := hp0; clear hp0
                        replace hp : Hp S w0 w (Res.sl (Ek.int .i64) 3 v57 ([(-2)]) :: Res.sl (Ek.int .i64) 3 v60 (y27 ++ [(-2)]) :: Res.sl (Ek.int .i64) 3 v11 q9.1 :: Res.sl (Ek.int .i64) 3 v19 q17.1 :: ow) := hp
                        refine st_assign hf rfl rfl (by decide) ?_
                        clear hf; intro a ha hf; clear ha
                        refine st_nil hf ?_
                        refine ib_n ?_
                        refine th_n ?_
                        refine wp_reg ?_
                        refine st_move hf rfl rfl (by decide) ?_
                        clear hf; intro a ha hf; clear ha
                        refine st_iadd hf (by decide) rfl rfl rfl ?_
                        clear hf; intro a ha hf; clear ha
                        refine st_assign hf rfl rfl (by decide) ?_
                        clear hf; intro a ha hf; clear ha
                        refine st_nil hf ?_
                        obtain rfl := Option.some.inj h
                        have hp : Hp S w0 w (Res.sl (Ek.int .i64) 3 v60 (y27 ++ [(-2)]) :: Res.sl (Ek.int .i64) 3 v11 q9.1 :: Res.sl (Ek.int .i64) 3 v19 q17.1 :: ow) := Hp.sel (pre := [Res.sl (Ek.int .i64) 3 v57 ([(-2)]), Res.sl (Ek.int .i64) 3 v60 (y27 ++ [(-2)]), Res.sl (Ek.int .i64) 3 v11 q9.1, Res.sl (Ek.int .i64) 3 v19 q17.1]) (tail := ow) (rs' := [Res.sl (Ek.int .i64) 3 v60 (y27 ++ [(-2)]), Res.sl (Ek.int .i64) 3 v11 q9.1, Res.sl (Ek.int .i64) 3 v19 q17.1]) hp [1, 2, 3] (by decide) (by simp) rfl
                        exact rnd_l ⟨_, hf.sub ⟨rfl, rfl, rfl, rfl, trivial⟩, hp⟩
                      · replace h := ifF h hb
                        refine wp_exit ?_
                        refine th_e ?_
                        obtain rfl := Option.some.inj h
                        exact rnd_r (by simp) ⟨rfl, _, hf.sub ⟨rfl, rfl, rfl, trivial⟩, hp⟩
                    · clear hl hf hp
                      intro e a w hne hO
                      obtain ⟨rfl, v55, hf, hp⟩ := hO
                      refine ib_same ?_
                      refine th_n ?_
                      refine wp_seq ?_
                      refine wp_reg ?_
                      refine st_move hf rfl rfl (by decide) ?_
                      clear hf; intro a ha hf; clear ha
                      refine st_move hf rfl rfl (by decide) ?_
                      clear hf; intro a ha hf; clear ha
                      obtain ⟨q62, hcall63, h⟩ := bnd h
                      obtain ⟨S64, hp65, rd66, up67, bk68⟩ := Hp.lendS hp (i := 2) rfl
                      obtain ⟨S69, hp70, rd71, up72, bk73⟩ := Hp.lendS hp65 (i := 1) rfl
                      refine st_call hf (by decide) Try.func15 rfl rfl rfl rfl rfl (f_foghornref17_Numbers_c hp70 _ _ ((rd66.now hp65).mono up72) _ _ rd71 hcall63) ?_
                      rintro _ w ⟨rfl, hp0⟩
                      have hp0 := bk73 _ _ hp0
                      have hp0 := bk68 _ _ hp0
                      clear hp; have hp := hp0; clear hp0
                      replace hp : Hp S w0 w (Res.sl (Ek.int .i64) 3 v19 q17.1 :: Res.sl (Ek.int .i64) 3 v11 q9.1 :: Res.sl (Ek.int .i64) 3 v55 q61 :: ow) := hp
                      refine ⟨_, rfl, ?_⟩
                      clear hf; intro a hf
                      refine st_move hf rfl rfl (by decide) ?_
                      clear hf; intro a ha hf; clear ha
                      refine wpList_cut 4 (fun a w => Fr 153 a [(152, .bool (q62 && (decide (20 ≤ (q61.length : Int)))))] ∧ Hp S w0 w (Res.sl (Ek.int .i64) 3 v19 q17.1 :: Res.sl (Ek.int .i64) 3 v11 q9.1 :: Res.sl (Ek.int .i64) 3 v55 q61 :: ow)) ?_ ?_
                      · rcases Bool.eq_false_or_eq_true q62 with hb | hb
                        · skip
                          refine st_move hf (wantY hf rfl rfl hb) rfl (by decide) ?_
                          clear hf; intro a ha hf; clear ha
                          refine st_len (E := (Ek.int .i64)) hf (by decide) Try.underlying22 (wantY hf rfl rfl hb) rfl (hp.sl (i := 2) rfl) ?_
                          clear hf; intro a ha hf; clear ha
                          refine st_igeq hf (by decide) (wantY hf rfl rfl hb) rfl rfl ?_
                          clear hf; intro a ha hf; clear ha
                          refine st_pick (v := .bool (decide (20 ≤ (q61.length : Int)))) hf rfl rfl (fun hb' => ?_) (fun hb' => ?_) (by decide) ?_
                          · rfl
                          · exact absurd (hb.symm.trans hb') (by decide)
                          clear hf; intro a ha hf; clear ha
                          refine st_nil hf (th_n ?_)
                          exact ⟨hf.sub ⟨(by rw [hb]; rfl), trivial⟩, hp⟩
                        · skip
                          refine st_skip hf (wantN hf rfl rfl hb) rfl (by decide) ?_ rfl
                          clear hf; intro a hf
                          refine st_skip hf (wantN hf rfl rfl hb) rfl (by decide) ?_ rfl
                          clear hf; intro a hf
                          refine st_skip hf (wantN hf rfl rfl hb) rfl (by decide) ?_ rfl
                          clear hf; intro a hf
                          refine st_pick (v := .bool false) hf rfl rfl (fun hb' => ?_) (fun hb' => ?_) (by decide) ?_
                          · exact absurd (hb.symm.trans hb') (by decide)
                          · rfl
                          clear hf; intro a ha hf; clear ha
                          refine st_nil hf (th_n ?_)
                          exact ⟨hf.sub ⟨(by rw [hb]; rfl), trivial⟩, hp⟩
                      · rintro a w ⟨hf, hp⟩
                        refine st_assign hf rfl rfl (by decide) ?_
                        clear hf; intro a ha hf; clear ha
                        refine st_nil hf ?_
                        refine th_n ?_
                        refine wp_ret ?_
                        obtain rfl := Option.some.inj h
                        have hp : Hp S w0 w (ow) := Hp.sel (pre := [Res.sl (Ek.int .i64) 3 v19 q17.1, Res.sl (Ek.int .i64) 3 v11 q9.1, Res.sl (Ek.int .i64) 3 v55 q61]) (tail := ow) (rs' := []) hp [] (by decide) (by simp) rfl
                        exact ⟨rfl, ⟨hf.sub ⟨rfl, trivial⟩, hp⟩⟩

end Go.Proofs.Ythoigfonjpmibaa
