/- The functions 10: what each answers, as a plain function, and that its call answers it; printed by gen.py. -/
import Derived.Test.YthoigfonjpmibaaProg
import Derived.Test.YthoigfonjpmibaaGlS
import Derived.KernelRfl
import Derived.Test.YthoigfonjpmibaaG6p1
set_option linter.unusedVariables false
set_option maxRecDepth 100000
set_option maxHeartbeats 4000000
namespace Go.Proofs.Ythoigfonjpmibaa
open GL
noncomputable def f_foghornlaw17_WeaveBack.j1 (s1 : ByteArray) (count2 : Int) : Option Bool := ((f_weave_Out s1 count2).bind fun q5 => (if (q5.2 != (0 : Int)) = true then (some ((q5.1.length : Int) == (0 : Int))) else ((f_weave_In q5.1).bind fun q9 => (some ((q9.2 == (0 : Int)) && (seq q9.1 s1))))))
noncomputable def f_foghornlaw17_WeaveBack.s2c (words0 : (List ByteArray)) (q3 : (ByteArray × Int)) (w11 : Int) (at12 : Int) : Option (Int ⊕ (Unit ⊕ Bool)) := (if 0 ≤ w11 ∧ w11 < (words0.length : Int) then (if (decide (at12 < ((gt words0 w11).size : Int))) = true then (if 0 ≤ (0 : Int) ∧ (0 : Int) < (words0.length : Int) then ((f_weave_Place w11 at12 (words0.length : Int) ((gt words0 (0 : Int)).size : Int)).bind fun q38 => (if 0 ≤ (0 : Int) ∧ (0 : Int) < (words0.length : Int) then ((f_weave_Back q38.1 (words0.length : Int) ((gt words0 (0 : Int)).size : Int)).bind fun q41 => ((if ((((((q38.2 != (0 : Int)) || (q41.2.2 != (0 : Int))) || (q41.1 != w11)) || (q41.2.1 != at12)) || (decide (q38.1 < (0 : Int)))) || (decide ((q3.1.size : Int) ≤ q38.1))) = true then (some true) else (if 0 ≤ q38.1 ∧ q38.1 < (q3.1.size : Int) then (if 0 ≤ w11 ∧ w11 < (words0.length : Int) then (if 0 ≤ at12 ∧ at12 < ((gt words0 w11).size : Int) then (some ((bt q3.1 q38.1) != (bt (gt words0 w11) at12))) else none) else none) else none)).bind fun z58 => (if z58 = true then (some (Sum.inr (Sum.inr false))) else (some (Sum.inl (IntKind.i64.wrap (at12 + (1 : Int)))))))) else none)) else none) else (some (Sum.inr (Sum.inl ())))) else none)
noncomputable def f_foghornlaw17_WeaveBack.s2 (words0 : (List ByteArray)) (q3 : (ByteArray × Int)) (w11 : Int) (s : Int) : Option (Int ⊕ (Unit ⊕ Bool)) := f_foghornlaw17_WeaveBack.s2c words0 q3 w11 s
noncomputable def f_foghornlaw17_WeaveBack.s1c (words0 : (List ByteArray)) (q3 : (ByteArray × Int)) (w11 : Int) : Option (Int ⊕ (Unit ⊕ Bool)) := (if (decide (w11 < (words0.length : Int))) = true then ((loop (f_foghornlaw17_WeaveBack.s2 words0 q3 w11) (0 : Int)).bind (fun q59 => sm q59 (fun q60 => (some (Sum.inl (IntKind.i64.wrap (w11 + (1 : Int)))))) (fun q61 => (some (Sum.inr (Sum.inr q61)))))) else (some (Sum.inr (Sum.inl ()))))
noncomputable def f_foghornlaw17_WeaveBack.s1 (words0 : (List ByteArray)) (q3 : (ByteArray × Int)) (s : Int) : Option (Int ⊕ (Unit ⊕ Bool)) := f_foghornlaw17_WeaveBack.s1c words0 q3 s
noncomputable def f_foghornlaw17_WeaveBack (words0 : (List ByteArray)) (s1 : ByteArray) (count2 : Int) : Option Bool := ((f_foghornlaw17_awake).bind fun q1 => (if (!q1) = true then (some false) else ((f_weave_In words0).bind fun q3 => (if (q3.2 == (0 : Int)) = true then ((f_weave_Out q3.1 (words0.length : Int)).bind fun q18 => ((if (q18.2 != (0 : Int)) = true then (some true) else ((f_foghornref17_Texts q18.1 words0).bind fun q25 => (some (!q25)))).bind fun z24 => ((if z24 = true then (some true) else (if 0 ≤ (0 : Int) ∧ (0 : Int) < (words0.length : Int) then (some ((q3.1.size : Int) != (IntKind.i64.wrap ((words0.length : Int) * ((gt words0 (0 : Int)).size : Int))))) else none)).bind fun z34 => (if z34 = true then (some false) else ((loop (f_foghornlaw17_WeaveBack.s1 words0 q3) (0 : Int)).bind (fun q62 => sm q62 (fun q63 => (f_foghornlaw17_WeaveBack.j1 s1 count2)) (fun q64 => (some q64)))))))) else (f_foghornlaw17_WeaveBack.j1 s1 count2)))))
theorem f_foghornlaw17_WeaveBack_c {S : Nat → Prop} {w0 w : World} {ow : List Res} (hp : Hp S w0 w ow) (vwords0 : Value) (words0 : (List ByteArray)) (hwords0 : RdS Ek.str S w0 vwords0 words0) (s1 : ByteArray) (count2 : Int) {r : Bool} (h : f_foghornlaw17_WeaveBack words0 s1 count2 = some r) :
    Calls Try.prog 10 #[vwords0, .string s1, .int .i64 count2] w (fun e w' => e = .returned (.bool r) ∧ Hp S w0 w' (ow)) := by
  unfold f_foghornlaw17_WeaveBack at h
  refine enter (n := 158) (args := [vwords0, .string s1, .int .i64 count2]) Try.func10 rfl rfl (Nat.le_of_ble_eq_true rfl) fun a hf => ?_
  replace hf : Fr 158 a [(0, vwords0), (1, .string s1), (2, .int .i64 count2)] := hf
  refine wp_mono (Q := fun e a w => e = .ret ∧ Fr 158 a [(6, .bool r)] ∧ Hp S w0 w (ow)) ?_ ?_
  rotate_left
  · rintro e a w ⟨rfl, hf, hp⟩
    exact ret1 hf rfl rfl ⟨rfl, hp⟩
  refine wp_seq ?_
  refine wp_reg ?_
  refine st_assign hf rfl rfl (by decide) ?_
  clear hf; intro a ha hf; clear ha
  refine st_nil hf ?_
  refine th_n ?_
  refine wp_seq ?_
  refine wp_seq ?_
  refine wp_reg ?_
  obtain ⟨q1, hcall2, h⟩ := bnd h
  refine st_call hf (by decide) Try.func36 rfl rfl rfl rfl rfl (f_foghornlaw17_awake_c hp  hcall2) ?_
  rintro _ w ⟨rfl, hp0⟩
  clear hp; have hp := hp0; clear hp0
  replace hp : Hp _ _ _ (ow) := hp
  refine ⟨_, rfl, ?_⟩
  clear hf; intro a hf
  refine st_not hf (by decide) rfl rfl ?_
  clear hf; intro a ha hf; clear ha
  refine st_nil hf ?_
  refine th_n ?_
  refine wp_if hf rfl (fun hb => ?_) (fun hb => ?_)
  · replace h := ifT h hb
    refine wp_seq ?_
    refine wp_reg ?_
    refine st_assign hf rfl rfl (by decide) ?_
    clear hf; intro a ha hf; clear ha
    refine st_nil hf ?_
    refine th_n ?_
    refine wp_ret ?_
    refine th_r ?_
    obtain rfl := Option.some.inj h
    exact ⟨rfl, ⟨hf.sub ⟨rfl, trivial⟩, hp⟩⟩
  · replace h := ifF h hb
    refine wp_skip ?_
    refine th_n ?_
    refine wp_seq ?_
    refine wp_reg ?_
    refine st_move hf rfl rfl (by decide) ?_
    clear hf; intro a ha hf; clear ha
    obtain ⟨q3, hcall4, h⟩ := bnd h
    refine st_call hf (by decide) Try.func23 rfl rfl rfl rfl rfl (f_weave_In_c hp _ _ hwords0 hcall4) ?_
    rintro _ w ⟨rfl, hp0⟩
    clear hp; have hp := hp0; clear hp0
    replace hp : Hp _ _ _ (ow) := hp
    refine ⟨_, rfl, ?_⟩
    clear hf; intro a hf
    refine st_move hf rfl rfl (by decide) ?_
    clear hf; intro a ha hf; clear ha
    refine st_extract hf (by decide) rfl rfl rfl ?_
    clear hf; intro a ha hf; clear ha
    refine st_extract hf (by decide) rfl rfl rfl ?_
    clear hf; intro a ha hf; clear ha
    refine st_assign hf rfl rfl (by decide) ?_
    clear hf; intro a ha hf; clear ha
    refine st_assign hf rfl rfl (by decide) ?_
    clear hf; intro a ha hf; clear ha
    refine st_nil hf ?_
    refine th_n ?_
    refine wp_seq_cut (fun a w => f_foghornlaw17_WeaveBack.j1 s1 count2 = some r ∧ Fr 158 a [(1, .string s1), (2, .int .i64 count2)] ∧ Hp S w0 w (ow)) ?_ ?_
    · skip
      refine wp_seq ?_
      refine wp_reg ?_
      refine st_move hf rfl rfl (by decide) ?_
      clear hf; intro a ha hf; clear ha
      refine st_ieql hf (by decide) rfl rfl rfl ?_
      clear hf; intro a ha hf; clear ha
      refine st_nil hf ?_
      refine th_n ?_
      refine wp_if hf rfl (fun hb => ?_) (fun hb => ?_)
      · replace h := ifT h hb
        refine wp_seq ?_
        refine wp_reg ?_
        refine st_move hf rfl rfl (by decide) ?_
        clear hf; intro a ha hf; clear ha
        refine st_move hf rfl rfl (by decide) ?_
        clear hf; intro a ha hf; clear ha
        refine st_len (E := Ek.str) hf (by decide) Try.underlying37 rfl rfl (hwords0.sl hp) ?_
        clear hf; intro a ha hf; clear ha
        obtain ⟨q18, hcall19, h⟩ := bnd h
        refine st_call hf (by decide) Try.func26 rfl rfl rfl rfl rfl (f_weave_Out_c hp _ _ hcall19) ?_
        rintro _ w ⟨v20, rfl, hp0⟩
        clear hp; have hp := hp0; clear hp0
        replace hp : Hp _ _ _ (Res.sl Ek.str 9 v20 q18.1 :: ow) := hp
        refine ⟨_, rfl, ?_⟩
        clear hf; intro a hf
        refine st_move hf rfl rfl (by decide) ?_
        clear hf; intro a ha hf; clear ha
        refine st_extract hf (by decide) rfl rfl rfl ?_
        clear hf; intro a ha hf; clear ha
        refine st_extract hf (by decide) rfl rfl rfl ?_
        clear hf; intro a ha hf; clear ha
        refine st_assign hf rfl rfl (by decide) ?_
        clear hf; intro a ha hf; clear ha
        refine st_assign hf rfl rfl (by decide) ?_
        clear hf; intro a ha hf; clear ha
        refine st_nil hf ?_
        refine th_n ?_
        refine wp_seq ?_
        refine wp_seq ?_
        refine wp_reg ?_
        refine st_move hf rfl rfl (by decide) ?_
        clear hf; intro a ha hf; clear ha
        refine st_ineq hf (by decide) rfl rfl rfl ?_
        clear hf; intro a ha hf; clear ha
        refine st_move hf rfl rfl (by decide) ?_
        clear hf; intro a ha hf; clear ha
        obtain ⟨z24, hz22, h⟩ := bnd h
        refine wpList_cut 5 (fun a w => Fr 158 a [(0, vwords0), (1, .string s1), (2, .int .i64 count2), (7, .string q3.1), (45, .bool z24)] ∧ Hp S w0 w (Res.sl Ek.str 9 v20 q18.1 :: ow)) ?_ ?_
        · rcases Bool.eq_false_or_eq_true (q18.2 != (0 : Int)) with hb23 | hb23
          · skip
            replace hz22 := ifT hz22 hb23
            refine st_skip hf (wantN hf rfl rfl hb23) rfl (by decide) ?_ rfl
            clear hf; intro a hf
            refine st_skip hf (wantN hf rfl rfl hb23) rfl (by decide) ?_ rfl
            clear hf; intro a hf
            refine st_skip hf (wantN hf rfl rfl hb23) rfl (by decide) ?_ rfl
            clear hf; intro a hf
            refine st_skip hf (wantN hf rfl rfl hb23) rfl (by decide) ?_ rfl
            clear hf; intro a hf
            obtain rfl := Option.some.inj hz22
            refine st_pick (v := .bool true) hf rfl rfl (fun hb' => ?_) (fun hb' => ?_) (by decide) ?_
            · rfl
            · exact absurd (hb23.symm.trans hb') (by decide)
            clear hf; intro a ha hf; clear ha
            refine st_nil hf (th_n ?_)
            exact ⟨hf.sub ⟨rfl, rfl, rfl, rfl, rfl, trivial⟩, hp⟩
          · skip
            replace hz22 := ifF hz22 hb23
            refine st_move hf (wantY hf rfl rfl hb23) rfl (by decide) ?_
            clear hf; intro a ha hf; clear ha
            refine st_move hf (wantY hf rfl rfl hb23) rfl (by decide) ?_
            clear hf; intro a ha hf; clear ha
            obtain ⟨q25, hcall26, hz22⟩ := bnd hz22
            obtain ⟨S27, hp28, rd29, up30, bk31⟩ := Hp.lendS hp (i := 0) rfl
            refine st_call hf (by decide) Try.func24 rfl rfl (wantY hf rfl rfl hb23) rfl rfl (f_foghornref17_Texts_c hp28 _ _ rd29 _ _ ((hwords0.now hp).mono up30) hcall26) ?_
            rintro _ w ⟨rfl, hp0⟩
            have hp0 := bk31 _ _ hp0
            clear hp; have hp := hp0; clear hp0
            replace hp : Hp _ _ _ (Res.sl Ek.str 9 v20 q18.1 :: ow) := hp
            refine ⟨_, rfl, ?_⟩
            clear hf; intro a hf
            refine st_not hf (by decide) (wantY hf rfl rfl hb23) rfl ?_
            clear hf; intro a ha hf; clear ha
            obtain rfl := Option.some.inj hz22
            refine st_pick (v := .bool (!q25)) hf rfl rfl (fun hb' => ?_) (fun hb' => ?_) (by decide) ?_
            · exact absurd (hb23.symm.trans hb') (by decide)
            · rfl
            clear hf; intro a ha hf; clear ha
            refine st_nil hf (th_n ?_)
            exact ⟨hf.sub ⟨rfl, rfl, rfl, rfl, rfl, trivial⟩, hp⟩
        · rintro a w ⟨hf, hp⟩
          refine st_move hf rfl rfl (by decide) ?_
          clear hf; intro a ha hf; clear ha
          obtain ⟨z34, hz32, h⟩ := bnd h
          refine wpList_cut 11 (fun a w => Fr 158 a [(0, vwords0), (1, .string s1), (2, .int .i64 count2), (7, .string q3.1), (57, .bool z34)] ∧ Hp S w0 w (Res.sl Ek.str 9 v20 q18.1 :: ow)) ?_ ?_
          · rcases Bool.eq_false_or_eq_true z24 with hb33 | hb33
            · skip
              replace hz32 := ifT hz32 hb33
              refine st_skip hf (wantN hf rfl rfl hb33) rfl (by decide) ?_ rfl
              clear hf; intro a hf
              refine st_skip hf (wantN hf rfl rfl hb33) rfl (by decide) ?_ rfl
              clear hf; intro a hf
              refine st_skip hf (wantN hf rfl rfl hb33) rfl (by decide) ?_ rfl
              clear hf; intro a hf
              refine st_skip hf (wantN hf rfl rfl hb33) rfl (by decide) ?_ rfl
              clear hf; intro a hf
              refine st_skip hf (wantN hf rfl rfl hb33) rfl (by decide) ?_ rfl
              clear hf; intro a hf
              refine st_skip hf (wantN hf rfl rfl hb33) rfl (by decide) ?_ rfl
              clear hf; intro a hf
              refine st_skip hf (wantN hf rfl rfl hb33) rfl (by decide) ?_ rfl
              clear hf; intro a hf
              refine st_skip hf (wantN hf rfl rfl hb33) rfl (by decide) ?_ rfl
              clear hf; intro a hf
              refine st_skip hf (wantN hf rfl rfl hb33) rfl (by decide) ?_ rfl
              clear hf; intro a hf
              refine st_skip hf (wantN hf rfl rfl hb33) rfl (by decide) ?_ rfl
              clear hf; intro a hf
              obtain rfl := Option.some.inj hz32
              refine st_pick (v := .bool true) hf rfl rfl (fun hb' => ?_) (fun hb' => ?_) (by decide) ?_
              · rfl
              · exact absurd (hb33.symm.trans hb') (by decide)
              clear hf; intro a ha hf; clear ha
              refine st_nil hf (th_n ?_)
              exact ⟨hf.sub ⟨rfl, rfl, rfl, rfl, rfl, trivial⟩, hp⟩
            · skip
              replace hz32 := ifF hz32 hb33
              refine st_move hf (wantY hf rfl rfl hb33) rfl (by decide) ?_
              clear hf; intro a ha hf; clear ha
              refine st_slen hf (by decide) Try.underlying9 (wantY hf rfl rfl hb33) rfl ?_
              clear hf; intro a ha hf; clear ha
              refine st_move hf (wantY hf rfl rfl hb33) rfl (by decide) ?_
              clear hf; intro a ha hf; clear ha
              refine st_len (E := Ek.str) hf (by decide) Try.underlying37 (wantY hf rfl rfl hb33) rfl (hwords0.sl hp) ?_
              clear hf; intro a ha hf; clear ha
              refine st_move hf (wantY hf rfl rfl hb33) rfl (by decide) ?_
              clear hf; intro a ha hf; clear ha
              obtain ⟨hc35, hz32⟩ := chk hz32
              refine st_index (E := Ek.str) hf (by decide) Try.underlying37 elt9 (wantY hf rfl rfl hb33) rfl rfl (hwords0.sl hp) hc35.1 hc35.2 ?_
              clear hf; intro a ha hf; clear ha
              refine st_ldS hf (by decide) pl9 (wantY hf rfl rfl hb33) rfl (hwords0.sl hp) hc35.1 hc35.2 ?_
              clear hf; intro a ha hf; clear ha
              refine st_slen hf (by decide) Try.underlying9 (wantY hf rfl rfl hb33) rfl ?_
              clear hf; intro a ha hf; clear ha
              refine st_imul hf (by decide) (wantY hf rfl rfl hb33) rfl rfl ?_
              clear hf; intro a ha hf; clear ha
              refine st_ineq hf (by decide) (wantY hf rfl rfl hb33) rfl rfl ?_
              clear hf; intro a ha hf; clear ha
              obtain rfl := Option.some.inj hz32
              refine st_pick (v := .bool ((q3.1.size : Int) != (IntKind.i64.wrap ((words0.length : Int) * ((gt words0 (0 : Int)).size : Int))))) hf rfl rfl (fun hb' => ?_) (fun hb' => ?_) (by decide) ?_
              · exact absurd (hb33.symm.trans hb') (by decide)
              · rfl
              clear hf; intro a ha hf; clear ha
              refine st_nil hf (th_n ?_)
              exact ⟨hf.sub ⟨rfl, rfl, rfl, rfl, rfl, trivial⟩, hp⟩
          · rintro a w ⟨hf, hp⟩
            refine st_nil hf ?_
            refine th_n ?_
            refine wp_if hf rfl (fun hb => ?_) (fun hb => ?_)
            · replace h := ifT h hb
              refine wp_seq ?_
              refine wp_reg ?_
              refine st_assign hf rfl rfl (by decide) ?_
              clear hf; intro a ha hf; clear ha
              refine st_nil hf ?_
              refine th_n ?_
              refine wp_ret ?_
              refine th_r ?_
              refine th_r ?_
              obtain rfl := Option.some.inj h
              have hp : Hp _ _ _ (ow) := Hp.sel (pre := [Res.sl Ek.str 9 v20 q18.1]) (tail := ow) (rs' := []) hp [] (by decide) (by simp) rfl
              exact ⟨rfl, ⟨hf.sub ⟨rfl, trivial⟩, hp⟩⟩
            · replace h := ifF h hb
              refine wp_skip ?_
              refine th_n ?_
              refine wp_seq ?_
              refine wp_reg ?_
              refine st_assign hf rfl rfl (by decide) ?_
              clear hf; intro a ha hf; clear ha
              refine st_nil hf ?_
              refine th_n ?_
              refine wp_block ?_
              obtain ⟨q62, hl, h⟩ := bnd h
              have hp : Hp _ _ _ (ow) := Hp.sel (pre := [Res.sl Ek.str 9 v20 q18.1]) (tail := ow) (rs' := []) hp [] (by decide) (by simp) rfl
              refine wp_loop_pure (f := (f_foghornlaw17_WeaveBack.s1 words0 q3)) (s := (0 : Int)) (fun s a w => Fr 158 a [(0, vwords0), (1, .string s1), (2, .int .i64 count2), (7, .string q3.1), (11, .int .i64 s)] ∧ Hp S w0 w (ow)) (fun q e a w => match q with | (Sum.inl q) => e = .exit 0 ∧ Fr 158 a [(1, .string s1), (2, .int .i64 count2)] ∧ Hp S w0 w (ow) | (Sum.inr q) => e = .ret ∧ Fr 158 a [(6, .bool q)] ∧ Hp S w0 w (ow)) ?_ hl ⟨hf.sub ⟨rfl, rfl, rfl, rfl, rfl, trivial⟩, hp⟩ ?_
              · clear hl hf hp
                intro s x a w h hI
                obtain ⟨w11, hs⟩ : ∃ z, z = s := ⟨s, rfl⟩; subst hs
                obtain ⟨hf, hp⟩ : Fr 158 a [(0, vwords0), (1, .string s1), (2, .int .i64 count2), (7, .string q3.1), (11, .int .i64 w11)] ∧ Hp S w0 w (ow) := hI
                replace h : f_foghornlaw17_WeaveBack.s1c words0 q3 w11 = some x := h
                unfold f_foghornlaw17_WeaveBack.s1c at h
                refine wp_seq ?_
                refine wp_seq ?_
                refine wp_reg ?_
                refine st_move hf rfl rfl (by decide) ?_
                clear hf; intro a ha hf; clear ha
                refine st_move hf rfl rfl (by decide) ?_
                clear hf; intro a ha hf; clear ha
                refine st_len (E := Ek.str) hf (by decide) Try.underlying37 rfl rfl (hwords0.sl hp) ?_
                clear hf; intro a ha hf; clear ha
                refine st_ilss hf (by decide) rfl rfl rfl ?_
                clear hf; intro a ha hf; clear ha
                refine st_nil hf ?_
                refine th_n ?_
                refine wp_if hf rfl (fun hb => ?_) (fun hb => ?_)
                · replace h := ifT h hb
                  refine wp_skip ?_
                  refine th_n ?_
                  refine wp_seq ?_
                  refine wp_block ?_
                  refine wp_seq ?_
                  refine wp_reg ?_
                  refine st_assign hf rfl rfl (by decide) ?_
                  clear hf; intro a ha hf; clear ha
                  refine st_nil hf ?_
                  refine th_n ?_
                  refine wp_block ?_
                  obtain ⟨q59, hl, h⟩ := bnd h
                  refine wp_loop_pure (f := (f_foghornlaw17_WeaveBack.s2 words0 q3 w11)) (s := (0 : Int)) (fun s a w => Fr 158 a [(0, vwords0), (1, .string s1), (2, .int .i64 count2), (7, .string q3.1), (11, .int .i64 w11), (12, .int .i64 s)] ∧ Hp S w0 w (ow)) (fun q e a w => match q with | (Sum.inl q) => e = .exit 2 ∧ Fr 158 a [(0, vwords0), (1, .string s1), (2, .int .i64 count2), (7, .string q3.1), (11, .int .i64 w11)] ∧ Hp S w0 w (ow) | (Sum.inr q) => e = .ret ∧ Fr 158 a [(6, .bool q)] ∧ Hp S w0 w (ow)) ?_ hl ⟨hf.sub ⟨rfl, rfl, rfl, rfl, rfl, rfl, trivial⟩, hp⟩ ?_
                  · clear hl hf hp
                    intro s x a w h hI
                    obtain ⟨at12, hs⟩ : ∃ z, z = s := ⟨s, rfl⟩; subst hs
                    obtain ⟨hf, hp⟩ : Fr 158 a [(0, vwords0), (1, .string s1), (2, .int .i64 count2), (7, .string q3.1), (11, .int .i64 w11), (12, .int .i64 at12)] ∧ Hp S w0 w (ow) := hI
                    replace h : f_foghornlaw17_WeaveBack.s2c words0 q3 w11 at12 = some x := h
                    unfold f_foghornlaw17_WeaveBack.s2c at h
                    refine wp_seq ?_
                    refine wp_seq ?_
                    refine wp_reg ?_
                    refine st_move hf rfl rfl (by decide) ?_
                    clear hf; intro a ha hf; clear ha
                    refine st_move hf rfl rfl (by decide) ?_
                    clear hf; intro a ha hf; clear ha
                    refine st_move hf rfl rfl (by decide) ?_
                    clear hf; intro a ha hf; clear ha
                    obtain ⟨hc36, h⟩ := chk h
                    refine st_index (E := Ek.str) hf (by decide) Try.underlying37 elt9 rfl rfl rfl (hwords0.sl hp) hc36.1 hc36.2 ?_
                    clear hf; intro a ha hf; clear ha
                    refine st_ldS hf (by decide) pl9 rfl rfl (hwords0.sl hp) hc36.1 hc36.2 ?_
                    clear hf; intro a ha hf; clear ha
                    refine st_slen hf (by decide) Try.underlying9 rfl rfl ?_
                    clear hf; intro a ha hf; clear ha
                    refine st_ilss hf (by decide) rfl rfl rfl ?_
                    clear hf; intro a ha hf; clear ha
                    refine st_nil hf ?_
                    refine th_n ?_
                    refine wp_if hf rfl (fun hb => ?_) (fun hb => ?_)
                    · replace h := ifT h hb
                      refine wp_skip ?_
                      refine th_n ?_
                      refine wp_seq ?_
                      refine wp_block ?_
                      refine wp_seq ?_
                      refine wp_reg ?_
                      refine st_move hf rfl rfl (by decide) ?_
                      clear hf; intro a ha hf; clear ha
                      refine st_move hf rfl rfl (by decide) ?_
                      clear hf; intro a ha hf; clear ha
                      refine st_move hf rfl rfl (by decide) ?_
                      clear hf; intro a ha hf; clear ha
                      refine st_len (E := Ek.str) hf (by decide) Try.underlying37 rfl rfl (hwords0.sl hp) ?_
                      clear hf; intro a ha hf; clear ha
                      refine st_move hf rfl rfl (by decide) ?_
                      clear hf; intro a ha hf; clear ha
                      obtain ⟨hc37, h⟩ := chk h
                      refine st_index (E := Ek.str) hf (by decide) Try.underlying37 elt9 rfl rfl rfl (hwords0.sl hp) hc37.1 hc37.2 ?_
                      clear hf; intro a ha hf; clear ha
                      refine st_ldS hf (by decide) pl9 rfl rfl (hwords0.sl hp) hc37.1 hc37.2 ?_
                      clear hf; intro a ha hf; clear ha
                      refine st_slen hf (by decide) Try.underlying9 rfl rfl ?_
                      clear hf; intro a ha hf; clear ha
                      obtain ⟨q38, hcall39, h⟩ := bnd h
                      refine st_call hf (by decide) Try.func17 rfl rfl rfl rfl rfl (f_weave_Place_c hp _ _ _ _ hcall39) ?_
                      rintro _ w ⟨rfl, hp0⟩
                      clear hp; have hp := hp0; clear hp0
                      replace hp : Hp _ _ _ (ow) := hp
                      refine ⟨_, rfl, ?_⟩
                      clear hf; intro a hf
                      refine st_move hf rfl rfl (by decide) ?_
                      clear hf; intro a ha hf; clear ha
                      refine st_extract hf (by decide) rfl rfl rfl ?_
                      clear hf; intro a ha hf; clear ha
                      refine st_extract hf (by decide) rfl rfl rfl ?_
                      clear hf; intro a ha hf; clear ha
                      refine st_assign hf rfl rfl (by decide) ?_
                      clear hf; intro a ha hf; clear ha
                      refine st_assign hf rfl rfl (by decide) ?_
                      clear hf; intro a ha hf; clear ha
                      refine st_nil hf ?_
                      refine th_n ?_
                      refine wp_seq ?_
                      refine wp_reg ?_
                      refine st_move hf rfl rfl (by decide) ?_
                      clear hf; intro a ha hf; clear ha
                      refine st_move hf rfl rfl (by decide) ?_
                      clear hf; intro a ha hf; clear ha
                      refine st_len (E := Ek.str) hf (by decide) Try.underlying37 rfl rfl (hwords0.sl hp) ?_
                      clear hf; intro a ha hf; clear ha
                      refine st_move hf rfl rfl (by decide) ?_
                      clear hf; intro a ha hf; clear ha
                      obtain ⟨hc40, h⟩ := chk h
                      refine st_index (E := Ek.str) hf (by decide) Try.underlying37 elt9 rfl rfl rfl (hwords0.sl hp) hc40.1 hc40.2 ?_
                      clear hf; intro a ha hf; clear ha
                      refine st_ldS hf (by decide) pl9 rfl rfl (hwords0.sl hp) hc40.1 hc40.2 ?_
                      clear hf; intro a ha hf; clear ha
                      refine st_slen hf (by decide) Try.underlying9 rfl rfl ?_
                      clear hf; intro a ha hf; clear ha
                      obtain ⟨q41, hcall42, h⟩ := bnd h
                      refine st_call hf (by decide) Try.func19 rfl rfl rfl rfl rfl (f_weave_Back_c hp _ _ _ hcall42) ?_
                      rintro _ w ⟨rfl, hp0⟩
                      clear hp; have hp := hp0; clear hp0
                      replace hp : Hp _ _ _ (ow) := hp
                      refine ⟨_, rfl, ?_⟩
                      clear hf; intro a hf
                      refine st_move hf rfl rfl (by decide) ?_
                      clear hf; intro a ha hf; clear ha
                      refine st_extract hf (by decide) rfl rfl rfl ?_
                      clear hf; intro a ha hf; clear ha
                      refine st_extract hf (by decide) rfl rfl rfl ?_
                      clear hf; intro a ha hf; clear ha
                      refine st_extract hf (by decide) rfl rfl rfl ?_
                      clear hf; intro a ha hf; clear ha
                      refine st_assign hf rfl rfl (by decide) ?_
                      clear hf; intro a ha hf; clear ha
                      refine st_assign hf rfl rfl (by decide) ?_
                      clear hf; intro a ha hf; clear ha
                      refine st_assign hf rfl rfl (by decide) ?_
                      clear hf; intro a ha hf; clear ha
                      refine st_nil hf ?_
                      refine th_n ?_
                      refine wp_seq ?_
                      obtain ⟨z58, hz53, h⟩ := bnd h
                      refine wp_cutN (fun a w => Fr 158 a [(0, vwords0), (1, .string s1), (2, .int .i64 count2), (7, .string q3.1), (11, .int .i64 w11), (12, .int .i64 at12), (134, .bool z58)] ∧ Hp S w0 w (ow)) ?_ ?_
                      · have hp := hp.same (Same.drew w)
                        rcases Bool.eq_false_or_eq_true (q38.2 != (0 : Int)) with hb44 | hb44
                        · skip
                          have hb46 : ((q38.2 != (0 : Int)) || (q41.2.2 != (0 : Int))) = true := by rw [hb44]; rfl
                          skip
                          have hb48 : (((q38.2 != (0 : Int)) || (q41.2.2 != (0 : Int))) || (q41.1 != w11)) = true := by rw [hb46]; rfl
                          skip
                          have hb50 : ((((q38.2 != (0 : Int)) || (q41.2.2 != (0 : Int))) || (q41.1 != w11)) || (q41.2.1 != at12)) = true := by rw [hb48]; rfl
                          skip
                          have hb52 : (((((q38.2 != (0 : Int)) || (q41.2.2 != (0 : Int))) || (q41.1 != w11)) || (q41.2.1 != at12)) || (decide (q38.1 < (0 : Int)))) = true := by rw [hb50]; rfl
                          skip
                          have hb54 : ((((((q38.2 != (0 : Int)) || (q41.2.2 != (0 : Int))) || (q41.1 != w11)) || (q41.2.1 != at12)) || (decide (q38.1 < (0 : Int)))) || (decide ((q3.1.size : Int) ≤ q38.1))) = true := by rw [hb52]; rfl
                          skip
                          replace hz53 := ifT hz53 hb54
                          replace hz53 := Option.some.inj hz53
                          refine dr_begin' (fun a w => Fr 158 a [(0, vwords0), (1, .string s1), (2, .int .i64 count2), (7, .string q3.1), (11, .int .i64 w11), (12, .int .i64 at12), (134, .bool z58)] ∧ Hp S w0 w (ow)) (fun w' => ∃ l, Hp S w0 w' l) [] (by kernel_rfl) ?_
                          refine dr_take 0 (.int .i64 q38.2) rfl (by kernel_rfl) (by kernel_rfl) (by kernel_rfl) (by kernel_rfl) rfl rfl hf (by decide) rfl (fun w hp => ?_) ⟨_, hp⟩ ?_
                          · obtain ⟨_, hp⟩ := hp
                            refine st_move hf rfl rfl (by decide) ?_
                            clear hf; intro a ha hf
                            exact st_nil hf (th_n ⟨ha, rfl⟩)
                          clear hf; intro a hf
                          refine dr_take 1 (.bool (q38.2 != (0 : Int))) rfl (by kernel_rfl) (by kernel_rfl) (by kernel_rfl) (by kernel_rfl) rfl rfl hf (by decide) rfl (fun w hp => ?_) ⟨_, hp⟩ ?_
                          · obtain ⟨_, hp⟩ := hp
                            refine st_ineq hf (by decide) rfl rfl rfl ?_
                            clear hf; intro a ha hf
                            exact st_nil hf (th_n ⟨ha, rfl⟩)
                          clear hf; intro a hf
                          refine dr_take 2 (.bool (q38.2 != (0 : Int))) rfl (by kernel_rfl) (by kernel_rfl) (by kernel_rfl) (by kernel_rfl) rfl rfl hf (by decide) rfl (fun w hp => ?_) ⟨_, hp⟩ ?_
                          · obtain ⟨_, hp⟩ := hp
                            refine st_move hf rfl rfl (by decide) ?_
                            clear hf; intro a ha hf
                            exact st_nil hf (th_n ⟨ha, rfl⟩)
                          clear hf; intro a hf
                          refine dr_out 3 rfl (by kernel_rfl) (by kernel_rfl) (by kernel_rfl) (by kernel_rfl) rfl hf (by decide) rfl (wantN hf rfl rfl hb44) ⟨_, hp⟩ ?_
                          clear hf; intro a hf
                          refine dr_out 4 rfl (by kernel_rfl) (by kernel_rfl) (by kernel_rfl) (by kernel_rfl) rfl hf (by decide) rfl (wantN hf rfl rfl hb44) ⟨_, hp⟩ ?_
                          clear hf; intro a hf
                          refine dr_take 5 (.bool ((q38.2 != (0 : Int)) || (q41.2.2 != (0 : Int)))) rfl (by kernel_rfl) (by kernel_rfl) (by kernel_rfl) (by kernel_rfl) rfl rfl hf (by decide) rfl (fun w hp => ?_) ⟨_, hp⟩ ?_
                          · obtain ⟨_, hp⟩ := hp
                            refine st_pick (v := .bool ((q38.2 != (0 : Int)) || (q41.2.2 != (0 : Int)))) hf rfl rfl (fun _ => by rw [show ((q38.2 != (0 : Int)) || (q41.2.2 != (0 : Int))) = true from by rw [hb44]; rfl]; rfl) (fun hb' => absurd (hb44.symm.trans hb') (by decide)) (by decide) ?_
                            clear hf; intro a ha hf
                            exact st_nil hf (th_n ⟨ha, rfl⟩)
                          clear hf; intro a hf
                          refine dr_take 6 (.bool ((q38.2 != (0 : Int)) || (q41.2.2 != (0 : Int)))) rfl (by kernel_rfl) (by kernel_rfl) (by kernel_rfl) (by kernel_rfl) rfl rfl hf (by decide) rfl (fun w hp => ?_) ⟨_, hp⟩ ?_
                          · obtain ⟨_, hp⟩ := hp
                            refine st_move hf rfl rfl (by decide) ?_
                            clear hf; intro a ha hf
                            exact st_nil hf (th_n ⟨ha, rfl⟩)
                          clear hf; intro a hf
                          refine dr_out 7 rfl (by kernel_rfl) (by kernel_rfl) (by kernel_rfl) (by kernel_rfl) rfl hf (by decide) rfl (wantN hf rfl rfl hb46) ⟨_, hp⟩ ?_
                          clear hf; intro a hf
                          refine dr_out 8 rfl (by kernel_rfl) (by kernel_rfl) (by kernel_rfl) (by kernel_rfl) rfl hf (by decide) rfl (wantN hf rfl rfl hb46) ⟨_, hp⟩ ?_
                          clear hf; intro a hf
                          refine dr_out 9 rfl (by kernel_rfl) (by kernel_rfl) (by kernel_rfl) (by kernel_rfl) rfl hf (by decide) rfl (wantN hf rfl rfl hb46) ⟨_, hp⟩ ?_
                          clear hf; intro a hf
                          refine dr_take 10 (.bool (((q38.2 != (0 : Int)) || (q41.2.2 != (0 : Int))) || (q41.1 != w11))) rfl (by kernel_rfl) (by kernel_rfl) (by kernel_rfl) (by kernel_rfl) rfl rfl hf (by decide) rfl (fun w hp => ?_) ⟨_, hp⟩ ?_
                          · obtain ⟨_, hp⟩ := hp
                            refine st_pick (v := .bool (((q38.2 != (0 : Int)) || (q41.2.2 != (0 : Int))) || (q41.1 != w11))) hf rfl rfl (fun _ => by rw [show (((q38.2 != (0 : Int)) || (q41.2.2 != (0 : Int))) || (q41.1 != w11)) = true from by rw [hb46]; rfl]; rfl) (fun hb' => absurd (hb46.symm.trans hb') (by decide)) (by decide) ?_
                            clear hf; intro a ha hf
                            exact st_nil hf (th_n ⟨ha, rfl⟩)
                          clear hf; intro a hf
                          refine dr_take 11 (.bool (((q38.2 != (0 : Int)) || (q41.2.2 != (0 : Int))) || (q41.1 != w11))) rfl (by kernel_rfl) (by kernel_rfl) (by kernel_rfl) (by kernel_rfl) rfl rfl hf (by decide) rfl (fun w hp => ?_) ⟨_, hp⟩ ?_
                          · obtain ⟨_, hp⟩ := hp
                            refine st_move hf rfl rfl (by decide) ?_
                            clear hf; intro a ha hf
                            exact st_nil hf (th_n ⟨ha, rfl⟩)
                          clear hf; intro a hf
                          refine dr_out 12 rfl (by kernel_rfl) (by kernel_rfl) (by kernel_rfl) (by kernel_rfl) rfl hf (by decide) rfl (wantN hf rfl rfl hb48) ⟨_, hp⟩ ?_
                          clear hf; intro a hf
                          refine dr_out 13 rfl (by kernel_rfl) (by kernel_rfl) (by kernel_rfl) (by kernel_rfl) rfl hf (by decide) rfl (wantN hf rfl rfl hb48) ⟨_, hp⟩ ?_
                          clear hf; intro a hf
                          refine dr_out 14 rfl (by kernel_rfl) (by kernel_rfl) (by kernel_rfl) (by kernel_rfl) rfl hf (by decide) rfl (wantN hf rfl rfl hb48) ⟨_, hp⟩ ?_
                          clear hf; intro a hf
                          refine dr_take 15 (.bool ((((q38.2 != (0 : Int)) || (q41.2.2 != (0 : Int))) || (q41.1 != w11)) || (q41.2.1 != at12))) rfl (by kernel_rfl) (by kernel_rfl) (by kernel_rfl) (by kernel_rfl) rfl rfl hf (by decide) rfl (fun w hp => ?_) ⟨_, hp⟩ ?_
                          · obtain ⟨_, hp⟩ := hp
                            refine st_pick (v := .bool ((((q38.2 != (0 : Int)) || (q41.2.2 != (0 : Int))) || (q41.1 != w11)) || (q41.2.1 != at12))) hf rfl rfl (fun _ => by rw [show ((((q38.2 != (0 : Int)) || (q41.2.2 != (0 : Int))) || (q41.1 != w11)) || (q41.2.1 != at12)) = true from by rw [hb48]; rfl]; rfl) (fun hb' => absurd (hb48.symm.trans hb') (by decide)) (by decide) ?_
                            clear hf; intro a ha hf
                            exact st_nil hf (th_n ⟨ha, rfl⟩)
                          clear hf; intro a hf
                          refine dr_take 16 (.bool ((((q38.2 != (0 : Int)) || (q41.2.2 != (0 : Int))) || (q41.1 != w11)) || (q41.2.1 != at12))) rfl (by kernel_rfl) (by kernel_rfl) (by kernel_rfl) (by kernel_rfl) rfl rfl hf (by decide) rfl (fun w hp => ?_) ⟨_, hp⟩ ?_
                          · obtain ⟨_, hp⟩ := hp
                            refine st_move hf rfl rfl (by decide) ?_
                            clear hf; intro a ha hf
                            exact st_nil hf (th_n ⟨ha, rfl⟩)
                          clear hf; intro a hf
                          refine dr_out 17 rfl (by kernel_rfl) (by kernel_rfl) (by kernel_rfl) (by kernel_rfl) rfl hf (by decide) rfl (wantN hf rfl rfl hb50) ⟨_, hp⟩ ?_
                          clear hf; intro a hf
                          refine dr_out 18 rfl (by kernel_rfl) (by kernel_rfl) (by kernel_rfl) (by kernel_rfl) rfl hf (by decide) rfl (wantN hf rfl rfl hb50) ⟨_, hp⟩ ?_
                          clear hf; intro a hf
                          refine dr_take 19 (.bool (((((q38.2 != (0 : Int)) || (q41.2.2 != (0 : Int))) || (q41.1 != w11)) || (q41.2.1 != at12)) || (decide (q38.1 < (0 : Int))))) rfl (by kernel_rfl) (by kernel_rfl) (by kernel_rfl) (by kernel_rfl) rfl rfl hf (by decide) rfl (fun w hp => ?_) ⟨_, hp⟩ ?_
                          · obtain ⟨_, hp⟩ := hp
                            refine st_pick (v := .bool (((((q38.2 != (0 : Int)) || (q41.2.2 != (0 : Int))) || (q41.1 != w11)) || (q41.2.1 != at12)) || (decide (q38.1 < (0 : Int))))) hf rfl rfl (fun _ => by rw [show (((((q38.2 != (0 : Int)) || (q41.2.2 != (0 : Int))) || (q41.1 != w11)) || (q41.2.1 != at12)) || (decide (q38.1 < (0 : Int)))) = true from by rw [hb50]; rfl]; rfl) (fun hb' => absurd (hb50.symm.trans hb') (by decide)) (by decide) ?_
                            clear hf; intro a ha hf
                            exact st_nil hf (th_n ⟨ha, rfl⟩)
                          clear hf; intro a hf
                          refine dr_take 20 (.bool (((((q38.2 != (0 : Int)) || (q41.2.2 != (0 : Int))) || (q41.1 != w11)) || (q41.2.1 != at12)) || (decide (q38.1 < (0 : Int))))) rfl (by kernel_rfl) (by kernel_rfl) (by kernel_rfl) (by kernel_rfl) rfl rfl hf (by decide) rfl (fun w hp => ?_) ⟨_, hp⟩ ?_
                          · obtain ⟨_, hp⟩ := hp
                            refine st_move hf rfl rfl (by decide) ?_
                            clear hf; intro a ha hf
                            exact st_nil hf (th_n ⟨ha, rfl⟩)
                          clear hf; intro a hf
                          refine dr_out 21 rfl (by kernel_rfl) (by kernel_rfl) (by kernel_rfl) (by kernel_rfl) rfl hf (by decide) rfl (wantN hf rfl rfl hb52) ⟨_, hp⟩ ?_
                          clear hf; intro a hf
                          refine dr_out 22 rfl (by kernel_rfl) (by kernel_rfl) (by kernel_rfl) (by kernel_rfl) rfl hf (by decide) rfl (wantN hf rfl rfl hb52) ⟨_, hp⟩ ?_
                          clear hf; intro a hf
                          refine dr_out 23 rfl (by kernel_rfl) (by kernel_rfl) (by kernel_rfl) (by kernel_rfl) rfl hf (by decide) rfl (wantN hf rfl rfl hb52) ⟨_, hp⟩ ?_
                          clear hf; intro a hf
                          refine dr_out 24 rfl (by kernel_rfl) (by kernel_rfl) (by kernel_rfl) (by kernel_rfl) rfl hf (by decide) rfl (wantN hf rfl rfl hb52) ⟨_, hp⟩ ?_
                          clear hf; intro a hf
                          refine dr_take 25 (.bool ((((((q38.2 != (0 : Int)) || (q41.2.2 != (0 : Int))) || (q41.1 != w11)) || (q41.2.1 != at12)) || (decide (q38.1 < (0 : Int)))) || (decide ((q3.1.size : Int) ≤ q38.1)))) rfl (by kernel_rfl) (by kernel_rfl) (by kernel_rfl) (by kernel_rfl) rfl rfl hf (by decide) rfl (fun w hp => ?_) ⟨_, hp⟩ ?_
                          · obtain ⟨_, hp⟩ := hp
                            refine st_pick (v := .bool ((((((q38.2 != (0 : Int)) || (q41.2.2 != (0 : Int))) || (q41.1 != w11)) || (q41.2.1 != at12)) || (decide (q38.1 < (0 : Int)))) || (decide ((q3.1.size : Int) ≤ q38.1)))) hf rfl rfl (fun _ => by rw [show ((((((q38.2 != (0 : Int)) || (q41.2.2 != (0 : Int))) || (q41.1 != w11)) || (q41.2.1 != at12)) || (decide (q38.1 < (0 : Int)))) || (decide ((q3.1.size : Int) ≤ q38.1))) = true from by rw [hb52]; rfl]; rfl) (fun hb' => absurd (hb52.symm.trans hb') (by decide)) (by decide) ?_
                            clear hf; intro a ha hf
                            exact st_nil hf (th_n ⟨ha, rfl⟩)
                          clear hf; intro a hf
                          refine dr_take 26 (.bool ((((((q38.2 != (0 : Int)) || (q41.2.2 != (0 : Int))) || (q41.1 != w11)) || (q41.2.1 != at12)) || (decide (q38.1 < (0 : Int)))) || (decide ((q3.1.size : Int) ≤ q38.1)))) rfl (by kernel_rfl) (by kernel_rfl) (by kernel_rfl) (by kernel_rfl) rfl rfl hf (by decide) rfl (fun w hp => ?_) ⟨_, hp⟩ ?_
                          · obtain ⟨_, hp⟩ := hp
                            refine st_move hf rfl rfl (by decide) ?_
                            clear hf; intro a ha hf
                            exact st_nil hf (th_n ⟨ha, rfl⟩)
                          clear hf; intro a hf
                          refine dr_out 27 rfl (by kernel_rfl) (by kernel_rfl) (by kernel_rfl) (by kernel_rfl) rfl hf (by decide) rfl (wantN hf rfl rfl hb54) ⟨_, hp⟩ ?_
                          clear hf; intro a hf
                          refine dr_out 28 rfl (by kernel_rfl) (by kernel_rfl) (by kernel_rfl) (by kernel_rfl) rfl hf (by decide) rfl (wantN hf rfl rfl hb54) ⟨_, hp⟩ ?_
                          clear hf; intro a hf
                          refine dr_out 29 rfl (by kernel_rfl) (by kernel_rfl) (by kernel_rfl) (by kernel_rfl) rfl hf (by decide) rfl (wantN hf rfl rfl hb54) ⟨_, hp⟩ ?_
                          clear hf; intro a hf
                          refine dr_out 30 rfl (by kernel_rfl) (by kernel_rfl) (by kernel_rfl) (by kernel_rfl) rfl hf (by decide) rfl (wantN hf rfl rfl hb54) ⟨_, hp⟩ ?_
                          clear hf; intro a hf
                          refine dr_out 31 rfl (by kernel_rfl) (by kernel_rfl) (by kernel_rfl) (by kernel_rfl) rfl hf (by decide) rfl (wantN hf rfl rfl hb54) ⟨_, hp⟩ ?_
                          clear hf; intro a hf
                          refine dr_out 32 rfl (by kernel_rfl) (by kernel_rfl) (by kernel_rfl) (by kernel_rfl) rfl hf (by decide) rfl (wantN hf rfl rfl hb54) ⟨_, hp⟩ ?_
                          clear hf; intro a hf
                          refine dr_out 33 rfl (by kernel_rfl) (by kernel_rfl) (by kernel_rfl) (by kernel_rfl) rfl hf (by decide) rfl (wantN hf rfl rfl hb54) ⟨_, hp⟩ ?_
                          clear hf; intro a hf
                          refine dr_out 34 rfl (by kernel_rfl) (by kernel_rfl) (by kernel_rfl) (by kernel_rfl) rfl hf (by decide) rfl (wantN hf rfl rfl hb54) ⟨_, hp⟩ ?_
                          clear hf; intro a hf
                          refine dr_out 35 rfl (by kernel_rfl) (by kernel_rfl) (by kernel_rfl) (by kernel_rfl) rfl hf (by decide) rfl (wantN hf rfl rfl hb54) ⟨_, hp⟩ ?_
                          clear hf; intro a hf
                          refine dr_out 36 rfl (by kernel_rfl) (by kernel_rfl) (by kernel_rfl) (by kernel_rfl) rfl hf (by decide) rfl (wantN hf rfl rfl hb54) ⟨_, hp⟩ ?_
                          clear hf; intro a hf
                          refine dr_take 37 (.bool z58) rfl (by kernel_rfl) (by kernel_rfl) (by kernel_rfl) (by kernel_rfl) rfl rfl hf (by decide) rfl (fun w hp => ?_) ⟨_, hp⟩ ?_
                          · obtain ⟨_, hp⟩ := hp
                            refine st_pick (v := .bool z58) hf rfl rfl (fun _ => by rw [← hz53]; rfl) (fun hb' => absurd (hb54.symm.trans hb') (by decide)) (by decide) ?_
                            clear hf; intro a ha hf
                            exact st_nil hf (th_n ⟨ha, rfl⟩)
                          clear hf; intro a hf
                          refine dr_end (by kernel_rfl) ?_ _
                          exact ⟨hf.sub ⟨rfl, rfl, rfl, rfl, rfl, rfl, rfl, trivial⟩, hp⟩
                        · skip
                          rcases Bool.eq_false_or_eq_true ((q38.2 != (0 : Int)) || (q41.2.2 != (0 : Int))) with hb46 | hb46
                          · skip
                            have hb48 : (((q38.2 != (0 : Int)) || (q41.2.2 != (0 : Int))) || (q41.1 != w11)) = true := by rw [hb46]; rfl
                            skip
                            have hb50 : ((((q38.2 != (0 : Int)) || (q41.2.2 != (0 : Int))) || (q41.1 != w11)) || (q41.2.1 != at12)) = true := by rw [hb48]; rfl
                            skip
                            have hb52 : (((((q38.2 != (0 : Int)) || (q41.2.2 != (0 : Int))) || (q41.1 != w11)) || (q41.2.1 != at12)) || (decide (q38.1 < (0 : Int)))) = true := by rw [hb50]; rfl
                            skip
                            have hb54 : ((((((q38.2 != (0 : Int)) || (q41.2.2 != (0 : Int))) || (q41.1 != w11)) || (q41.2.1 != at12)) || (decide (q38.1 < (0 : Int)))) || (decide ((q3.1.size : Int) ≤ q38.1))) = true := by rw [hb52]; rfl
                            skip
                            replace hz53 := ifT hz53 hb54
                            replace hz53 := Option.some.inj hz53
                            refine dr_begin' (fun a w => Fr 158 a [(0, vwords0), (1, .string s1), (2, .int .i64 count2), (7, .string q3.1), (11, .int .i64 w11), (12, .int .i64 at12), (134, .bool z58)] ∧ Hp S w0 w (ow)) (fun w' => ∃ l, Hp S w0 w' l) [] (by kernel_rfl) ?_
                            refine dr_take 0 (.int .i64 q38.2) rfl (by kernel_rfl) (by kernel_rfl) (by kernel_rfl) (by kernel_rfl) rfl rfl hf (by decide) rfl (fun w hp => ?_) ⟨_, hp⟩ ?_
                            · obtain ⟨_, hp⟩ := hp
                              refine st_move hf rfl rfl (by decide) ?_
                              clear hf; intro a ha hf
                              exact st_nil hf (th_n ⟨ha, rfl⟩)
                            clear hf; intro a hf
                            refine dr_take 1 (.bool (q38.2 != (0 : Int))) rfl (by kernel_rfl) (by kernel_rfl) (by kernel_rfl) (by kernel_rfl) rfl rfl hf (by decide) rfl (fun w hp => ?_) ⟨_, hp⟩ ?_
                            · obtain ⟨_, hp⟩ := hp
                              refine st_ineq hf (by decide) rfl rfl rfl ?_
                              clear hf; intro a ha hf
                              exact st_nil hf (th_n ⟨ha, rfl⟩)
                            clear hf; intro a hf
                            refine dr_take 2 (.bool (q38.2 != (0 : Int))) rfl (by kernel_rfl) (by kernel_rfl) (by kernel_rfl) (by kernel_rfl) rfl rfl hf (by decide) rfl (fun w hp => ?_) ⟨_, hp⟩ ?_
                            · obtain ⟨_, hp⟩ := hp
                              refine st_move hf rfl rfl (by decide) ?_
                              clear hf; intro a ha hf
                              exact st_nil hf (th_n ⟨ha, rfl⟩)
                            clear hf; intro a hf
                            refine dr_take 3 (.int .i64 q41.2.2) rfl (by kernel_rfl) (by kernel_rfl) (by kernel_rfl) (by kernel_rfl) rfl rfl hf (by decide) (wantY hf rfl rfl hb44) (fun w hp => ?_) ⟨_, hp⟩ ?_
                            · obtain ⟨_, hp⟩ := hp
                              refine st_move hf (wantY hf rfl rfl hb44) rfl (by decide) ?_
                              clear hf; intro a ha hf
                              exact st_nil hf (th_n ⟨ha, rfl⟩)
                            clear hf; intro a hf
                            refine dr_take 4 (.bool (q41.2.2 != (0 : Int))) rfl (by kernel_rfl) (by kernel_rfl) (by kernel_rfl) (by kernel_rfl) rfl rfl hf (by decide) (wantY hf rfl rfl hb44) (fun w hp => ?_) ⟨_, hp⟩ ?_
                            · obtain ⟨_, hp⟩ := hp
                              refine st_ineq hf (by decide) (wantY hf rfl rfl hb44) rfl rfl ?_
                              clear hf; intro a ha hf
                              exact st_nil hf (th_n ⟨ha, rfl⟩)
                            clear hf; intro a hf
                            refine dr_take 5 (.bool ((q38.2 != (0 : Int)) || (q41.2.2 != (0 : Int)))) rfl (by kernel_rfl) (by kernel_rfl) (by kernel_rfl) (by kernel_rfl) rfl rfl hf (by decide) rfl (fun w hp => ?_) ⟨_, hp⟩ ?_
                            · obtain ⟨_, hp⟩ := hp
                              refine st_pick (v := .bool ((q38.2 != (0 : Int)) || (q41.2.2 != (0 : Int)))) hf rfl rfl (fun hb' => absurd (hb44.symm.trans hb') (by decide)) (fun _ => by rw [show ((q38.2 != (0 : Int)) || (q41.2.2 != (0 : Int))) = (q41.2.2 != (0 : Int)) from by rw [hb44]; rfl]; rfl) (by decide) ?_
                              clear hf; intro a ha hf
                              exact st_nil hf (th_n ⟨ha, rfl⟩)
                            clear hf; intro a hf
                            refine dr_take 6 (.bool ((q38.2 != (0 : Int)) || (q41.2.2 != (0 : Int)))) rfl (by kernel_rfl) (by kernel_rfl) (by kernel_rfl) (by kernel_rfl) rfl rfl hf (by decide) rfl (fun w hp => ?_) ⟨_, hp⟩ ?_
                            · obtain ⟨_, hp⟩ := hp
                              refine st_move hf rfl rfl (by decide) ?_
                              clear hf; intro a ha hf
                              exact st_nil hf (th_n ⟨ha, rfl⟩)
                            clear hf; intro a hf
                            refine dr_out 7 rfl (by kernel_rfl) (by kernel_rfl) (by kernel_rfl) (by kernel_rfl) rfl hf (by decide) rfl (wantN hf rfl rfl hb46) ⟨_, hp⟩ ?_
                            clear hf; intro a hf
                            refine dr_out 8 rfl (by kernel_rfl) (by kernel_rfl) (by kernel_rfl) (by kernel_rfl) rfl hf (by decide) rfl (wantN hf rfl rfl hb46) ⟨_, hp⟩ ?_
                            clear hf; intro a hf
                            refine dr_out 9 rfl (by kernel_rfl) (by kernel_rfl) (by kernel_rfl) (by kernel_rfl) rfl hf (by decide) rfl (wantN hf rfl rfl hb46) ⟨_, hp⟩ ?_
                            clear hf; intro a hf
                            refine dr_take 10 (.bool (((q38.2 != (0 : Int)) || (q41.2.2 != (0 : Int))) || (q41.1 != w11))) rfl (by kernel_rfl) (by kernel_rfl) (by kernel_rfl) (by kernel_rfl) rfl rfl hf (by decide) rfl (fun w hp => ?_) ⟨_, hp⟩ ?_
                            · obtain ⟨_, hp⟩ := hp
                              refine st_pick (v := .bool (((q38.2 != (0 : Int)) || (q41.2.2 != (0 : Int))) || (q41.1 != w11))) hf rfl rfl (fun _ => by rw [show (((q38.2 != (0 : Int)) || (q41.2.2 != (0 : Int))) || (q41.1 != w11)) = true from by rw [hb46]; rfl]; rfl) (fun hb' => absurd (hb46.symm.trans hb') (by decide)) (by decide) ?_
                              clear hf; intro a ha hf
                              exact st_nil hf (th_n ⟨ha, rfl⟩)
                            clear hf; intro a hf
                            refine dr_take 11 (.bool (((q38.2 != (0 : Int)) || (q41.2.2 != (0 : Int))) || (q41.1 != w11))) rfl (by kernel_rfl) (by kernel_rfl) (by kernel_rfl) (by kernel_rfl) rfl rfl hf (by decide) rfl (fun w hp => ?_) ⟨_, hp⟩ ?_
                            · obtain ⟨_, hp⟩ := hp
                              refine st_move hf rfl rfl (by decide) ?_
                              clear hf; intro a ha hf
                              exact st_nil hf (th_n ⟨ha, rfl⟩)
                            clear hf; intro a hf
                            refine dr_out 12 rfl (by kernel_rfl) (by kernel_rfl) (by kernel_rfl) (by kernel_rfl) rfl hf (by decide) rfl (wantN hf rfl rfl hb48) ⟨_, hp⟩ ?_
                            clear hf; intro a hf
                            refine dr_out 13 rfl (by kernel_rfl) (by kernel_rfl) (by kernel_rfl) (by kernel_rfl) rfl hf (by decide) rfl (wantN hf rfl rfl hb48) ⟨_, hp⟩ ?_
                            clear hf; intro a hf
                            refine dr_out 14 rfl (by kernel_rfl) (by kernel_rfl) (by kernel_rfl) (by kernel_rfl) rfl hf (by decide) rfl (wantN hf rfl rfl hb48) ⟨_, hp⟩ ?_
                            clear hf; intro a hf
                            refine dr_take 15 (.bool ((((q38.2 != (0 : Int)) || (q41.2.2 != (0 : Int))) || (q41.1 != w11)) || (q41.2.1 != at12))) rfl (by kernel_rfl) (by kernel_rfl) (by kernel_rfl) (by kernel_rfl) rfl rfl hf (by decide) rfl (fun w hp => ?_) ⟨_, hp⟩ ?_
                            · obtain ⟨_, hp⟩ := hp
                              refine st_pick (v := .bool ((((q38.2 != (0 : Int)) || (q41.2.2 != (0 : Int))) || (q41.1 != w11)) || (q41.2.1 != at12))) hf rfl rfl (fun _ => by rw [show ((((q38.2 != (0 : Int)) || (q41.2.2 != (0 : Int))) || (q41.1 != w11)) || (q41.2.1 != at12)) = true from by rw [hb48]; rfl]; rfl) (fun hb' => absurd (hb48.symm.trans hb') (by decide)) (by decide) ?_
                              clear hf; intro a ha hf
                              exact st_nil hf (th_n ⟨ha, rfl⟩)
                            clear hf; intro a hf
                            refine dr_take 16 (.bool ((((q38.2 != (0 : Int)) || (q41.2.2 != (0 : Int))) || (q41.1 != w11)) || (q41.2.1 != at12))) rfl (by kernel_rfl) (by kernel_rfl) (by kernel_rfl) (by kernel_rfl) rfl rfl hf (by decide) rfl (fun w hp => ?_) ⟨_, hp⟩ ?_
                            · obtain ⟨_, hp⟩ := hp
                              refine st_move hf rfl rfl (by decide) ?_
                              clear hf; intro a ha hf
                              exact st_nil hf (th_n ⟨ha, rfl⟩)
                            clear hf; intro a hf
                            refine dr_out 17 rfl (by kernel_rfl) (by kernel_rfl) (by kernel_rfl) (by kernel_rfl) rfl hf (by decide) rfl (wantN hf rfl rfl hb50) ⟨_, hp⟩ ?_
                            clear hf; intro a hf
                            refine dr_out 18 rfl (by kernel_rfl) (by kernel_rfl) (by kernel_rfl) (by kernel_rfl) rfl hf (by decide) rfl (wantN hf rfl rfl hb50) ⟨_, hp⟩ ?_
                            clear hf; intro a hf
                            refine dr_take 19 (.bool (((((q38.2 != (0 : Int)) || (q41.2.2 != (0 : Int))) || (q41.1 != w11)) || (q41.2.1 != at12)) || (decide (q38.1 < (0 : Int))))) rfl (by kernel_rfl) (by kernel_rfl) (by kernel_rfl) (by kernel_rfl) rfl rfl hf (by decide) rfl (fun w hp => ?_) ⟨_, hp⟩ ?_
                            · obtain ⟨_, hp⟩ := hp
                              refine st_pick (v := .bool (((((q38.2 != (0 : Int)) || (q41.2.2 != (0 : Int))) || (q41.1 != w11)) || (q41.2.1 != at12)) || (decide (q38.1 < (0 : Int))))) hf rfl rfl (fun _ => by rw [show (((((q38.2 != (0 : Int)) || (q41.2.2 != (0 : Int))) || (q41.1 != w11)) || (q41.2.1 != at12)) || (decide (q38.1 < (0 : Int)))) = true from by rw [hb50]; rfl]; rfl) (fun hb' => absurd (hb50.symm.trans hb') (by decide)) (by decide) ?_
                              clear hf; intro a ha hf
                              exact st_nil hf (th_n ⟨ha, rfl⟩)
                            clear hf; intro a hf
                            refine dr_take 20 (.bool (((((q38.2 != (0 : Int)) || (q41.2.2 != (0 : Int))) || (q41.1 != w11)) || (q41.2.1 != at12)) || (decide (q38.1 < (0 : Int))))) rfl (by kernel_rfl) (by kernel_rfl) (by kernel_rfl) (by kernel_rfl) rfl rfl hf (by decide) rfl (fun w hp => ?_) ⟨_, hp⟩ ?_
                            · obtain ⟨_, hp⟩ := hp
                              refine st_move hf rfl rfl (by decide) ?_
                              clear hf; intro a ha hf
                              exact st_nil hf (th_n ⟨ha, rfl⟩)
                            clear hf; intro a hf
                            refine dr_out 21 rfl (by kernel_rfl) (by kernel_rfl) (by kernel_rfl) (by kernel_rfl) rfl hf (by decide) rfl (wantN hf rfl rfl hb52) ⟨_, hp⟩ ?_
                            clear hf; intro a hf
                            refine dr_out 22 rfl (by kernel_rfl) (by kernel_rfl) (by kernel_rfl) (by kernel_rfl) rfl hf (by decide) rfl (wantN hf rfl rfl hb52) ⟨_, hp⟩ ?_
                            clear hf; intro a hf
                            refine dr_out 23 rfl (by kernel_rfl) (by kernel_rfl) (by kernel_rfl) (by kernel_rfl) rfl hf (by decide) rfl (wantN hf rfl rfl hb52) ⟨_, hp⟩ ?_
                            clear hf; intro a hf
                            refine dr_out 24 rfl (by kernel_rfl) (by kernel_rfl) (by kernel_rfl) (by kernel_rfl) rfl hf (by decide) rfl (wantN hf rfl rfl hb52) ⟨_, hp⟩ ?_
                            clear hf; intro a hf
                            refine dr_take 25 (.bool ((((((q38.2 != (0 : Int)) || (q41.2.2 != (0 : Int))) || (q41.1 != w11)) || (q41.2.1 != at12)) || (decide (q38.1 < (0 : Int)))) || (decide ((q3.1.size : Int) ≤ q38.1)))) rfl (by kernel_rfl) (by kernel_rfl) (by kernel_rfl) (by kernel_rfl) rfl rfl hf (by decide) rfl (fun w hp => ?_) ⟨_, hp⟩ ?_
                            · obtain ⟨_, hp⟩ := hp
                              refine st_pick (v := .bool ((((((q38.2 != (0 : Int)) || (q41.2.2 != (0 : Int))) || (q41.1 != w11)) || (q41.2.1 != at12)) || (decide (q38.1 < (0 : Int)))) || (decide ((q3.1.size : Int) ≤ q38.1)))) hf rfl rfl (fun _ => by rw [show ((((((q38.2 != (0 : Int)) || (q41.2.2 != (0 : Int))) || (q41.1 != w11)) || (q41.2.1 != at12)) || (decide (q38.1 < (0 : Int)))) || (decide ((q3.1.size : Int) ≤ q38.1))) = true from by rw [hb52]; rfl]; rfl) (fun hb' => absurd (hb52.symm.trans hb') (by decide)) (by decide) ?_
                              clear hf; intro a ha hf
                              exact st_nil hf (th_n ⟨ha, rfl⟩)
                            clear hf; intro a hf
                            refine dr_take 26 (.bool ((((((q38.2 != (0 : Int)) || (q41.2.2 != (0 : Int))) || (q41.1 != w11)) || (q41.2.1 != at12)) || (decide (q38.1 < (0 : Int)))) || (decide ((q3.1.size : Int) ≤ q38.1)))) rfl (by kernel_rfl) (by kernel_rfl) (by kernel_rfl) (by kernel_rfl) rfl rfl hf (by decide) rfl (fun w hp => ?_) ⟨_, hp⟩ ?_
                            · obtain ⟨_, hp⟩ := hp
                              refine st_move hf rfl rfl (by decide) ?_
                              clear hf; intro a ha hf
                              exact st_nil hf (th_n ⟨ha, rfl⟩)
                            clear hf; intro a hf
                            refine dr_out 27 rfl (by kernel_rfl) (by kernel_rfl) (by kernel_rfl) (by kernel_rfl) rfl hf (by decide) rfl (wantN hf rfl rfl hb54) ⟨_, hp⟩ ?_
                            clear hf; intro a hf
                            refine dr_out 28 rfl (by kernel_rfl) (by kernel_rfl) (by kernel_rfl) (by kernel_rfl) rfl hf (by decide) rfl (wantN hf rfl rfl hb54) ⟨_, hp⟩ ?_
                            clear hf; intro a hf
                            refine dr_out 29 rfl (by kernel_rfl) (by kernel_rfl) (by kernel_rfl) (by kernel_rfl) rfl hf (by decide) rfl (wantN hf rfl rfl hb54) ⟨_, hp⟩ ?_
                            clear hf; intro a hf
                            refine dr_out 30 rfl (by kernel_rfl) (by kernel_rfl) (by kernel_rfl) (by kernel_rfl) rfl hf (by decide) rfl (wantN hf rfl rfl hb54) ⟨_, hp⟩ ?_
                            clear hf; intro a hf
                            refine dr_out 31 rfl (by kernel_rfl) (by kernel_rfl) (by kernel_rfl) (by kernel_rfl) rfl hf (by decide) rfl (wantN hf rfl rfl hb54) ⟨_, hp⟩ ?_
                            clear hf; intro a hf
                            refine dr_out 32 rfl (by kernel_rfl) (by kernel_rfl) (by kernel_rfl) (by kernel_rfl) rfl hf (by decide) rfl (wantN hf rfl rfl hb54) ⟨_, hp⟩ ?_
                            clear hf; intro a hf
                            refine dr_out 33 rfl (by kernel_rfl) (by kernel_rfl) (by kernel_rfl) (by kernel_rfl) rfl hf (by decide) rfl (wantN hf rfl rfl hb54) ⟨_, hp⟩ ?_
                            clear hf; intro a hf
                            refine dr_out 34 rfl (by kernel_rfl) (by kernel_rfl) (by kernel_rfl) (by kernel_rfl) rfl hf (by decide) rfl (wantN hf rfl rfl hb54) ⟨_, hp⟩ ?_
                            clear hf; intro a hf
                            refine dr_out 35 rfl (by kernel_rfl) (by kernel_rfl) (by kernel_rfl) (by kernel_rfl) rfl hf (by decide) rfl (wantN hf rfl rfl hb54) ⟨_, hp⟩ ?_
                            clear hf; intro a hf
                            refine dr_out 36 rfl (by kernel_rfl) (by kernel_rfl) (by kernel_rfl) (by kernel_rfl) rfl hf (by decide) rfl (wantN hf rfl rfl hb54) ⟨_, hp⟩ ?_
                            clear hf; intro a hf
                            refine dr_take 37 (.bool z58) rfl (by kernel_rfl) (by kernel_rfl) (by kernel_rfl) (by kernel_rfl) rfl rfl hf (by decide) rfl (fun w hp => ?_) ⟨_, hp⟩ ?_
                            · obtain ⟨_, hp⟩ := hp
                              refine st_pick (v := .bool z58) hf rfl rfl (fun _ => by rw [← hz53]; rfl) (fun hb' => absurd (hb54.symm.trans hb') (by decide)) (by decide) ?_
                              clear hf; intro a ha hf
                              exact st_nil hf (th_n ⟨ha, rfl⟩)
                            clear hf; intro a hf
                            refine dr_end (by kernel_rfl) ?_ _
                            exact ⟨hf.sub ⟨rfl, rfl, rfl, rfl, rfl, rfl, rfl, trivial⟩, hp⟩
                          · skip
                            rcases Bool.eq_false_or_eq_true (((q38.2 != (0 : Int)) || (q41.2.2 != (0 : Int))) || (q41.1 != w11)) with hb48 | hb48
                            · skip
                              have hb50 : ((((q38.2 != (0 : Int)) || (q41.2.2 != (0 : Int))) || (q41.1 != w11)) || (q41.2.1 != at12)) = true := by rw [hb48]; rfl
                              skip
                              have hb52 : (((((q38.2 != (0 : Int)) || (q41.2.2 != (0 : Int))) || (q41.1 != w11)) || (q41.2.1 != at12)) || (decide (q38.1 < (0 : Int)))) = true := by rw [hb50]; rfl
                              skip
                              have hb54 : ((((((q38.2 != (0 : Int)) || (q41.2.2 != (0 : Int))) || (q41.1 != w11)) || (q41.2.1 != at12)) || (decide (q38.1 < (0 : Int)))) || (decide ((q3.1.size : Int) ≤ q38.1))) = true := by rw [hb52]; rfl
                              skip
                              replace hz53 := ifT hz53 hb54
                              replace hz53 := Option.some.inj hz53
                              refine dr_begin' (fun a w => Fr 158 a [(0, vwords0), (1, .string s1), (2, .int .i64 count2), (7, .string q3.1), (11, .int .i64 w11), (12, .int .i64 at12), (134, .bool z58)] ∧ Hp S w0 w (ow)) (fun w' => ∃ l, Hp S w0 w' l) [] (by kernel_rfl) ?_
                              refine dr_take 0 (.int .i64 q38.2) rfl (by kernel_rfl) (by kernel_rfl) (by kernel_rfl) (by kernel_rfl) rfl rfl hf (by decide) rfl (fun w hp => ?_) ⟨_, hp⟩ ?_
                              · obtain ⟨_, hp⟩ := hp
                                refine st_move hf rfl rfl (by decide) ?_
                                clear hf; intro a ha hf
                                exact st_nil hf (th_n ⟨ha, rfl⟩)
                              clear hf; intro a hf
                              refine dr_take 1 (.bool (q38.2 != (0 : Int))) rfl (by kernel_rfl) (by kernel_rfl) (by kernel_rfl) (by kernel_rfl) rfl rfl hf (by decide) rfl (fun w hp => ?_) ⟨_, hp⟩ ?_
                              · obtain ⟨_, hp⟩ := hp
                                refine st_ineq hf (by decide) rfl rfl rfl ?_
                                clear hf; intro a ha hf
                                exact st_nil hf (th_n ⟨ha, rfl⟩)
                              clear hf; intro a hf
                              refine dr_take 2 (.bool (q38.2 != (0 : Int))) rfl (by kernel_rfl) (by kernel_rfl) (by kernel_rfl) (by kernel_rfl) rfl rfl hf (by decide) rfl (fun w hp => ?_) ⟨_, hp⟩ ?_
                              · obtain ⟨_, hp⟩ := hp
                                refine st_move hf rfl rfl (by decide) ?_
                                clear hf; intro a ha hf
                                exact st_nil hf (th_n ⟨ha, rfl⟩)
                              clear hf; intro a hf
                              refine dr_take 3 (.int .i64 q41.2.2) rfl (by kernel_rfl) (by kernel_rfl) (by kernel_rfl) (by kernel_rfl) rfl rfl hf (by decide) (wantY hf rfl rfl hb44) (fun w hp => ?_) ⟨_, hp⟩ ?_
                              · obtain ⟨_, hp⟩ := hp
                                refine st_move hf (wantY hf rfl rfl hb44) rfl (by decide) ?_
                                clear hf; intro a ha hf
                                exact st_nil hf (th_n ⟨ha, rfl⟩)
                              clear hf; intro a hf
                              refine dr_take 4 (.bool (q41.2.2 != (0 : Int))) rfl (by kernel_rfl) (by kernel_rfl) (by kernel_rfl) (by kernel_rfl) rfl rfl hf (by decide) (wantY hf rfl rfl hb44) (fun w hp => ?_) ⟨_, hp⟩ ?_
                              · obtain ⟨_, hp⟩ := hp
                                refine st_ineq hf (by decide) (wantY hf rfl rfl hb44) rfl rfl ?_
                                clear hf; intro a ha hf
                                exact st_nil hf (th_n ⟨ha, rfl⟩)
                              clear hf; intro a hf
                              refine dr_take 5 (.bool ((q38.2 != (0 : Int)) || (q41.2.2 != (0 : Int)))) rfl (by kernel_rfl) (by kernel_rfl) (by kernel_rfl) (by kernel_rfl) rfl rfl hf (by decide) rfl (fun w hp => ?_) ⟨_, hp⟩ ?_
                              · obtain ⟨_, hp⟩ := hp
                                refine st_pick (v := .bool ((q38.2 != (0 : Int)) || (q41.2.2 != (0 : Int)))) hf rfl rfl (fun hb' => absurd (hb44.symm.trans hb') (by decide)) (fun _ => by rw [show ((q38.2 != (0 : Int)) || (q41.2.2 != (0 : Int))) = (q41.2.2 != (0 : Int)) from by rw [hb44]; rfl]; rfl) (by decide) ?_
                                clear hf; intro a ha hf
                                exact st_nil hf (th_n ⟨ha, rfl⟩)
                              clear hf; intro a hf
                              refine dr_take 6 (.bool ((q38.2 != (0 : Int)) || (q41.2.2 != (0 : Int)))) rfl (by kernel_rfl) (by kernel_rfl) (by kernel_rfl) (by kernel_rfl) rfl rfl hf (by decide) rfl (fun w hp => ?_) ⟨_, hp⟩ ?_
                              · obtain ⟨_, hp⟩ := hp
                                refine st_move hf rfl rfl (by decide) ?_
                                clear hf; intro a ha hf
                                exact st_nil hf (th_n ⟨ha, rfl⟩)
                              clear hf; intro a hf
                              refine dr_take 7 (.int .i64 q41.1) rfl (by kernel_rfl) (by kernel_rfl) (by kernel_rfl) (by kernel_rfl) rfl rfl hf (by decide) (wantY hf rfl rfl hb46) (fun w hp => ?_) ⟨_, hp⟩ ?_
                              · obtain ⟨_, hp⟩ := hp
                                refine st_move hf (wantY hf rfl rfl hb46) rfl (by decide) ?_
                                clear hf; intro a ha hf
                                exact st_nil hf (th_n ⟨ha, rfl⟩)
                              clear hf; intro a hf
                              refine dr_take 8 (.int .i64 w11) rfl (by kernel_rfl) (by kernel_rfl) (by kernel_rfl) (by kernel_rfl) rfl rfl hf (by decide) (wantY hf rfl rfl hb46) (fun w hp => ?_) ⟨_, hp⟩ ?_
                              · obtain ⟨_, hp⟩ := hp
                                refine st_move hf (wantY hf rfl rfl hb46) rfl (by decide) ?_
                                clear hf; intro a ha hf
                                exact st_nil hf (th_n ⟨ha, rfl⟩)
                              clear hf; intro a hf
                              refine dr_take 9 (.bool (q41.1 != w11)) rfl (by kernel_rfl) (by kernel_rfl) (by kernel_rfl) (by kernel_rfl) rfl rfl hf (by decide) (wantY hf rfl rfl hb46) (fun w hp => ?_) ⟨_, hp⟩ ?_
                              · obtain ⟨_, hp⟩ := hp
                                refine st_ineq hf (by decide) (wantY hf rfl rfl hb46) rfl rfl ?_
                                clear hf; intro a ha hf
                                exact st_nil hf (th_n ⟨ha, rfl⟩)
                              clear hf; intro a hf
                              refine dr_take 10 (.bool (((q38.2 != (0 : Int)) || (q41.2.2 != (0 : Int))) || (q41.1 != w11))) rfl (by kernel_rfl) (by kernel_rfl) (by kernel_rfl) (by kernel_rfl) rfl rfl hf (by decide) rfl (fun w hp => ?_) ⟨_, hp⟩ ?_
                              · obtain ⟨_, hp⟩ := hp
                                refine st_pick (v := .bool (((q38.2 != (0 : Int)) || (q41.2.2 != (0 : Int))) || (q41.1 != w11))) hf rfl rfl (fun hb' => absurd (hb46.symm.trans hb') (by decide)) (fun _ => by rw [show (((q38.2 != (0 : Int)) || (q41.2.2 != (0 : Int))) || (q41.1 != w11)) = (q41.1 != w11) from by rw [hb46]; rfl]; rfl) (by decide) ?_
                                clear hf; intro a ha hf
                                exact st_nil hf (th_n ⟨ha, rfl⟩)
                              clear hf; intro a hf
                              refine dr_take 11 (.bool (((q38.2 != (0 : Int)) || (q41.2.2 != (0 : Int))) || (q41.1 != w11))) rfl (by kernel_rfl) (by kernel_rfl) (by kernel_rfl) (by kernel_rfl) rfl rfl hf (by decide) rfl (fun w hp => ?_) ⟨_, hp⟩ ?_
                              · obtain ⟨_, hp⟩ := hp
                                refine st_move hf rfl rfl (by decide) ?_
                                clear hf; intro a ha hf
                                exact st_nil hf (th_n ⟨ha, rfl⟩)
                              clear hf; intro a hf
                              refine dr_out 12 rfl (by kernel_rfl) (by kernel_rfl) (by kernel_rfl) (by kernel_rfl) rfl hf (by decide) rfl (wantN hf rfl rfl hb48) ⟨_, hp⟩ ?_
                              clear hf; intro a hf
                              refine dr_out 13 rfl (by kernel_rfl) (by kernel_rfl) (by kernel_rfl) (by kernel_rfl) rfl hf (by decide) rfl (wantN hf rfl rfl hb48) ⟨_, hp⟩ ?_
                              clear hf; intro a hf
                              refine dr_out 14 rfl (by kernel_rfl) (by kernel_rfl) (by kernel_rfl) (by kernel_rfl) rfl hf (by decide) rfl (wantN hf rfl rfl hb48) ⟨_, hp⟩ ?_
                              clear hf; intro a hf
                              refine dr_take 15 (.bool ((((q38.2 != (0 : Int)) || (q41.2.2 != (0 : Int))) || (q41.1 != w11)) || (q41.2.1 != at12))) rfl (by kernel_rfl) (by kernel_rfl) (by kernel_rfl) (by kernel_rfl) rfl rfl hf (by decide) rfl (fun w hp => ?_) ⟨_, hp⟩ ?_
                              · obtain ⟨_, hp⟩ := hp
                                refine st_pick (v := .bool ((((q38.2 != (0 : Int)) || (q41.2.2 != (0 : Int))) || (q41.1 != w11)) || (q41.2.1 != at12))) hf rfl rfl (fun _ => by rw [show ((((q38.2 != (0 : Int)) || (q41.2.2 != (0 : Int))) || (q41.1 != w11)) || (q41.2.1 != at12)) = true from by rw [hb48]; rfl]; rfl) (fun hb' => absurd (hb48.symm.trans hb') (by decide)) (by decide) ?_
                                clear hf; intro a ha hf
                                exact st_nil hf (th_n ⟨ha, rfl⟩)
                              clear hf; intro a hf
                              refine dr_take 16 (.bool ((((q38.2 != (0 : Int)) || (q41.2.2 != (0 : Int))) || (q41.1 != w11)) || (q41.2.1 != at12))) rfl (by kernel_rfl) (by kernel_rfl) (by kernel_rfl) (by kernel_rfl) rfl rfl hf (by decide) rfl (fun w hp => ?_) ⟨_, hp⟩ ?_
                              · obtain ⟨_, hp⟩ := hp
                                refine st_move hf rfl rfl (by decide) ?_
                                clear hf; intro a ha hf
                                exact st_nil hf (th_n ⟨ha, rfl⟩)
                              clear hf; intro a hf
                              refine dr_out 17 rfl (by kernel_rfl) (by kernel_rfl) (by kernel_rfl) (by kernel_rfl) rfl hf (by decide) rfl (wantN hf rfl rfl hb50) ⟨_, hp⟩ ?_
                              clear hf; intro a hf
                              refine dr_out 18 rfl (by kernel_rfl) (by kernel_rfl) (by kernel_rfl) (by kernel_rfl) rfl hf (by decide) rfl (wantN hf rfl rfl hb50) ⟨_, hp⟩ ?_
                              clear hf; intro a hf
                              refine dr_take 19 (.bool (((((q38.2 != (0 : Int)) || (q41.2.2 != (0 : Int))) || (q41.1 != w11)) || (q41.2.1 != at12)) || (decide (q38.1 < (0 : Int))))) rfl (by kernel_rfl) (by kernel_rfl) (by kernel_rfl) (by kernel_rfl) rfl rfl hf (by decide) rfl (fun w hp => ?_) ⟨_, hp⟩ ?_
                              · obtain ⟨_, hp⟩ := hp
                                refine st_pick (v := .bool (((((q38.2 != (0 : Int)) || (q41.2.2 != (0 : Int))) || (q41.1 != w11)) || (q41.2.1 != at12)) || (decide (q38.1 < (0 : Int))))) hf rfl rfl (fun _ => by rw [show (((((q38.2 != (0 : Int)) || (q41.2.2 != (0 : Int))) || (q41.1 != w11)) || (q41.2.1 != at12)) || (decide (q38.1 < (0 : Int)))) = true from by rw [hb50]; rfl]; rfl) (fun hb' => absurd (hb50.symm.trans hb') (by decide)) (by decide) ?_
                                clear hf; intro a ha hf
                                exact st_nil hf (th_n ⟨ha, rfl⟩)
                              clear hf; intro a hf
                              refine dr_take 20 (.bool (((((q38.2 != (0 : Int)) || (q41.2.2 != (0 : Int))) || (q41.1 != w11)) || (q41.2.1 != at12)) || (decide (q38.1 < (0 : Int))))) rfl (by kernel_rfl) (by kernel_rfl) (by kernel_rfl) (by kernel_rfl) rfl rfl hf (by decide) rfl (fun w hp => ?_) ⟨_, hp⟩ ?_
                              · obtain ⟨_, hp⟩ := hp
                                refine st_move hf rfl rfl (by decide) ?_
                                clear hf; intro a ha hf
                                exact st_nil hf (th_n ⟨ha, rfl⟩)
                              clear hf; intro a hf
                              refine dr_out 21 rfl (by kernel_rfl) (by kernel_rfl) (by kernel_rfl) (by kernel_rfl) rfl hf (by decide) rfl (wantN hf rfl rfl hb52) ⟨_, hp⟩ ?_
                              clear hf; intro a hf
                              refine dr_out 22 rfl (by kernel_rfl) (by kernel_rfl) (by kernel_rfl) (by kernel_rfl) rfl hf (by decide) rfl (wantN hf rfl rfl hb52) ⟨_, hp⟩ ?_
                              clear hf; intro a hf
                              refine dr_out 23 rfl (by kernel_rfl) (by kernel_rfl) (by kernel_rfl) (by kernel_rfl) rfl hf (by decide) rfl (wantN hf rfl rfl hb52) ⟨_, hp⟩ ?_
                              clear hf; intro a hf
                              refine dr_out 24 rfl (by kernel_rfl) (by kernel_rfl) (by kernel_rfl) (by kernel_rfl) rfl hf (by decide) rfl (wantN hf rfl rfl hb52) ⟨_, hp⟩ ?_
                              clear hf; intro a hf
                              refine dr_take 25 (.bool ((((((q38.2 != (0 : Int)) || (q41.2.2 != (0 : Int))) || (q41.1 != w11)) || (q41.2.1 != at12)) || (decide (q38.1 < (0 : Int)))) || (decide ((q3.1.size : Int) ≤ q38.1)))) rfl (by kernel_rfl) (by kernel_rfl) (by kernel_rfl) (by kernel_rfl) rfl rfl hf (by decide) rfl (fun w hp => ?_) ⟨_, hp⟩ ?_
                              · obtain ⟨_, hp⟩ := hp
                                refine st_pick (v := .bool ((((((q38.2 != (0 : Int)) || (q41.2.2 != (0 : Int))) || (q41.1 != w11)) || (q41.2.1 != at12)) || (decide (q38.1 < (0 : Int)))) || (decide ((q3.1.size : Int) ≤ q38.1)))) hf rfl rfl (fun _ => by rw [show ((((((q38.2 != (0 : Int)) || (q41.2.2 != (0 : Int))) || (q41.1 != w11)) || (q41.2.1 != at12)) || (decide (q38.1 < (0 : Int)))) || (decide ((q3.1.size : Int) ≤ q38.1))) = true from by rw [hb52]; rfl]; rfl) (fun hb' => absurd (hb52.symm.trans hb') (by decide)) (by decide) ?_
                                clear hf; intro a ha hf
                                exact st_nil hf (th_n ⟨ha, rfl⟩)
                              clear hf; intro a hf
                              refine dr_take 26 (.bool ((((((q38.2 != (0 : Int)) || (q41.2.2 != (0 : Int))) || (q41.1 != w11)) || (q41.2.1 != at12)) || (decide (q38.1 < (0 : Int)))) || (decide ((q3.1.size : Int) ≤ q38.1)))) rfl (by kernel_rfl) (by kernel_rfl) (by kernel_rfl) (by kernel_rfl) rfl rfl hf (by decide) rfl (fun w hp => ?_) ⟨_, hp⟩ ?_
                              · obtain ⟨_, hp⟩ := hp
                                refine st_move hf rfl rfl (by decide) ?_
                                clear hf; intro a ha hf
                                exact st_nil hf (th_n ⟨ha, rfl⟩)
                              clear hf; intro a hf
                              refine dr_out 27 rfl (by kernel_rfl) (by kernel_rfl) (by kernel_rfl) (by kernel_rfl) rfl hf (by decide) rfl (wantN hf rfl rfl hb54) ⟨_, hp⟩ ?_
                              clear hf; intro a hf
                              refine dr_out 28 rfl (by kernel_rfl) (by kernel_rfl) (by kernel_rfl) (by kernel_rfl) rfl hf (by decide) rfl (wantN hf rfl rfl hb54) ⟨_, hp⟩ ?_
                              clear hf; intro a hf
                              refine dr_out 29 rfl (by kernel_rfl) (by kernel_rfl) (by kernel_rfl) (by kernel_rfl) rfl hf (by decide) rfl (wantN hf rfl rfl hb54) ⟨_, hp⟩ ?_
                              clear hf; intro a hf
                              refine dr_out 30 rfl (by kernel_rfl) (by kernel_rfl) (by kernel_rfl) (by kernel_rfl) rfl hf (by decide) rfl (wantN hf rfl rfl hb54) ⟨_, hp⟩ ?_
                              clear hf; intro a hf
                              refine dr_out 31 rfl (by kernel_rfl) (by kernel_rfl) (by kernel_rfl) (by kernel_rfl) rfl hf (by decide) rfl (wantN hf rfl rfl hb54) ⟨_, hp⟩ ?_
                              clear hf; intro a hf
                              refine dr_out 32 rfl (by kernel_rfl) (by kernel_rfl) (by kernel_rfl) (by kernel_rfl) rfl hf (by decide) rfl (wantN hf rfl rfl hb54) ⟨_, hp⟩ ?_
                              clear hf; intro a hf
                              refine dr_out 33 rfl (by kernel_rfl) (by kernel_rfl) (by kernel_rfl) (by kernel_rfl) rfl hf (by decide) rfl (wantN hf rfl rfl hb54) ⟨_, hp⟩ ?_
                              clear hf; intro a hf
                              refine dr_out 34 rfl (by kernel_rfl) (by kernel_rfl) (by kernel_rfl) (by kernel_rfl) rfl hf (by decide) rfl (wantN hf rfl rfl hb54) ⟨_, hp⟩ ?_
                              clear hf; intro a hf
                              refine dr_out 35 rfl (by kernel_rfl) (by kernel_rfl) (by kernel_rfl) (by kernel_rfl) rfl hf (by decide) rfl (wantN hf rfl rfl hb54) ⟨_, hp⟩ ?_
                              clear hf; intro a hf
                              refine dr_out 36 rfl (by kernel_rfl) (by kernel_rfl) (by kernel_rfl) (by kernel_rfl) rfl hf (by decide) rfl (wantN hf rfl rfl hb54) ⟨_, hp⟩ ?_
                              clear hf; intro a hf
                              refine dr_take 37 (.bool z58) rfl (by kernel_rfl) (by kernel_rfl) (by kernel_rfl) (by kernel_rfl) rfl rfl hf (by decide) rfl (fun w hp => ?_) ⟨_, hp⟩ ?_
                              · obtain ⟨_, hp⟩ := hp
                                refine st_pick (v := .bool z58) hf rfl rfl (fun _ => by rw [← hz53]; rfl) (fun hb' => absurd (hb54.symm.trans hb') (by decide)) (by decide) ?_
                                clear hf; intro a ha hf
                                exact st_nil hf (th_n ⟨ha, rfl⟩)
                              clear hf; intro a hf
                              refine dr_end (by kernel_rfl) ?_ _
                              exact ⟨hf.sub ⟨rfl, rfl, rfl, rfl, rfl, rfl, rfl, trivial⟩, hp⟩
                            · skip
                              rcases Bool.eq_false_or_eq_true ((((q38.2 != (0 : Int)) || (q41.2.2 != (0 : Int))) || (q41.1 != w11)) || (q41.2.1 != at12)) with hb50 | hb50
                              · skip
                                have hb52 : (((((q38.2 != (0 : Int)) || (q41.2.2 != (0 : Int))) || (q41.1 != w11)) || (q41.2.1 != at12)) || (decide (q38.1 < (0 : Int)))) = true := by rw [hb50]; rfl
                                skip
                                have hb54 : ((((((q38.2 != (0 : Int)) || (q41.2.2 != (0 : Int))) || (q41.1 != w11)) || (q41.2.1 != at12)) || (decide (q38.1 < (0 : Int)))) || (decide ((q3.1.size : Int) ≤ q38.1))) = true := by rw [hb52]; rfl
                                skip
                                replace hz53 := ifT hz53 hb54
                                replace hz53 := Option.some.inj hz53
                                refine dr_begin' (fun a w => Fr 158 a [(0, vwords0), (1, .string s1), (2, .int .i64 count2), (7, .string q3.1), (11, .int .i64 w11), (12, .int .i64 at12), (134, .bool z58)] ∧ Hp S w0 w (ow)) (fun w' => ∃ l, Hp S w0 w' l) [] (by kernel_rfl) ?_
                                refine dr_take 0 (.int .i64 q38.2) rfl (by kernel_rfl) (by kernel_rfl) (by kernel_rfl) (by kernel_rfl) rfl rfl hf (by decide) rfl (fun w hp => ?_) ⟨_, hp⟩ ?_
                                · obtain ⟨_, hp⟩ := hp
                                  refine st_move hf rfl rfl (by decide) ?_
                                  clear hf; intro a ha hf
                                  exact st_nil hf (th_n ⟨ha, rfl⟩)
                                clear hf; intro a hf
                                refine dr_take 1 (.bool (q38.2 != (0 : Int))) rfl (by kernel_rfl) (by kernel_rfl) (by kernel_rfl) (by kernel_rfl) rfl rfl hf (by decide) rfl (fun w hp => ?_) ⟨_, hp⟩ ?_
                                · obtain ⟨_, hp⟩ := hp
                                  refine st_ineq hf (by decide) rfl rfl rfl ?_
                                  clear hf; intro a ha hf
                                  exact st_nil hf (th_n ⟨ha, rfl⟩)
                                clear hf; intro a hf
                                refine dr_take 2 (.bool (q38.2 != (0 : Int))) rfl (by kernel_rfl) (by kernel_rfl) (by kernel_rfl) (by kernel_rfl) rfl rfl hf (by decide) rfl (fun w hp => ?_) ⟨_, hp⟩ ?_
                                · obtain ⟨_, hp⟩ := hp
                                  refine st_move hf rfl rfl (by decide) ?_
                                  clear hf; intro a ha hf
                                  exact st_nil hf (th_n ⟨ha, rfl⟩)
                                clear hf; intro a hf
                                refine dr_take 3 (.int .i64 q41.2.2) rfl (by kernel_rfl) (by kernel_rfl) (by kernel_rfl) (by kernel_rfl) rfl rfl hf (by decide) (wantY hf rfl rfl hb44) (fun w hp => ?_) ⟨_, hp⟩ ?_
                                · obtain ⟨_, hp⟩ := hp
                                  refine st_move hf (wantY hf rfl rfl hb44) rfl (by decide) ?_
                                  clear hf; intro a ha hf
                                  exact st_nil hf (th_n ⟨ha, rfl⟩)
                                clear hf; intro a hf
                                refine dr_take 4 (.bool (q41.2.2 != (0 : Int))) rfl (by kernel_rfl) (by kernel_rfl) (by kernel_rfl) (by kernel_rfl) rfl rfl hf (by decide) (wantY hf rfl rfl hb44) (fun w hp => ?_) ⟨_, hp⟩ ?_
                                · obtain ⟨_, hp⟩ := hp
                                  refine st_ineq hf (by decide) (wantY hf rfl rfl hb44) rfl rfl ?_
                                  clear hf; intro a ha hf
                                  exact st_nil hf (th_n ⟨ha, rfl⟩)
                                clear hf; intro a hf
                                refine dr_take 5 (.bool ((q38.2 != (0 : Int)) || (q41.2.2 != (0 : Int)))) rfl (by kernel_rfl) (by kernel_rfl) (by kernel_rfl) (by kernel_rfl) rfl rfl hf (by decide) rfl (fun w hp => ?_) ⟨_, hp⟩ ?_
                                · obtain ⟨_, hp⟩ := hp
                                  refine st_pick (v := .bool ((q38.2 != (0 : Int)) || (q41.2.2 != (0 : Int)))) hf rfl rfl (fun hb' => absurd (hb44.symm.trans hb') (by decide)) (fun _ => by rw [show ((q38.2 != (0 : Int)) || (q41.2.2 != (0 : Int))) = (q41.2.2 != (0 : Int)) from by rw [hb44]; rfl]; rfl) (by decide) ?_
                                  clear hf; intro a ha hf
                                  exact st_nil hf (th_n ⟨ha, rfl⟩)
                                clear hf; intro a hf
                                refine dr_take 6 (.bool ((q38.2 != (0 : Int)) || (q41.2.2 != (0 : Int)))) rfl (by kernel_rfl) (by kernel_rfl) (by kernel_rfl) (by kernel_rfl) rfl rfl hf (by decide) rfl (fun w hp => ?_) ⟨_, hp⟩ ?_
                                · obtain ⟨_, hp⟩ := hp
                                  refine st_move hf rfl rfl (by decide) ?_
                                  clear hf; intro a ha hf
                                  exact st_nil hf (th_n ⟨ha, rfl⟩)
                                clear hf; intro a hf
                                refine dr_take 7 (.int .i64 q41.1) rfl (by kernel_rfl) (by kernel_rfl) (by kernel_rfl) (by kernel_rfl) rfl rfl hf (by decide) (wantY hf rfl rfl hb46) (fun w hp => ?_) ⟨_, hp⟩ ?_
                                · obtain ⟨_, hp⟩ := hp
                                  refine st_move hf (wantY hf rfl rfl hb46) rfl (by decide) ?_
                                  clear hf; intro a ha hf
                                  exact st_nil hf (th_n ⟨ha, rfl⟩)
                                clear hf; intro a hf
                                refine dr_take 8 (.int .i64 w11) rfl (by kernel_rfl) (by kernel_rfl) (by kernel_rfl) (by kernel_rfl) rfl rfl hf (by decide) (wantY hf rfl rfl hb46) (fun w hp => ?_) ⟨_, hp⟩ ?_
                                · obtain ⟨_, hp⟩ := hp
                                  refine st_move hf (wantY hf rfl rfl hb46) rfl (by decide) ?_
                                  clear hf; intro a ha hf
                                  exact st_nil hf (th_n ⟨ha, rfl⟩)
                                clear hf; intro a hf
                                refine dr_take 9 (.bool (q41.1 != w11)) rfl (by kernel_rfl) (by kernel_rfl) (by kernel_rfl) (by kernel_rfl) rfl rfl hf (by decide) (wantY hf rfl rfl hb46) (fun w hp => ?_) ⟨_, hp⟩ ?_
                                · obtain ⟨_, hp⟩ := hp
                                  refine st_ineq hf (by decide) (wantY hf rfl rfl hb46) rfl rfl ?_
                                  clear hf; intro a ha hf
                                  exact st_nil hf (th_n ⟨ha, rfl⟩)
                                clear hf; intro a hf
                                refine dr_take 10 (.bool (((q38.2 != (0 : Int)) || (q41.2.2 != (0 : Int))) || (q41.1 != w11))) rfl (by kernel_rfl) (by kernel_rfl) (by kernel_rfl) (by kernel_rfl) rfl rfl hf (by decide) rfl (fun w hp => ?_) ⟨_, hp⟩ ?_
                                · obtain ⟨_, hp⟩ := hp
                                  refine st_pick (v := .bool (((q38.2 != (0 : Int)) || (q41.2.2 != (0 : Int))) || (q41.1 != w11))) hf rfl rfl (fun hb' => absurd (hb46.symm.trans hb') (by decide)) (fun _ => by rw [show (((q38.2 != (0 : Int)) || (q41.2.2 != (0 : Int))) || (q41.1 != w11)) = (q41.1 != w11) from by rw [hb46]; rfl]; rfl) (by decide) ?_
                                  clear hf; intro a ha hf
                                  exact st_nil hf (th_n ⟨ha, rfl⟩)
                                clear hf; intro a hf
                                refine dr_take 11 (.bool (((q38.2 != (0 : Int)) || (q41.2.2 != (0 : Int))) || (q41.1 != w11))) rfl (by kernel_rfl) (by kernel_rfl) (by kernel_rfl) (by kernel_rfl) rfl rfl hf (by decide) rfl (fun w hp => ?_) ⟨_, hp⟩ ?_
                                · obtain ⟨_, hp⟩ := hp
                                  refine st_move hf rfl rfl (by decide) ?_
                                  clear hf; intro a ha hf
                                  exact st_nil hf (th_n ⟨ha, rfl⟩)
                                clear hf; intro a hf
                                refine dr_take 12 (.int .i64 q41.2.1) rfl (by kernel_rfl) (by kernel_rfl) (by kernel_rfl) (by kernel_rfl) rfl rfl hf (by decide) (wantY hf rfl rfl hb48) (fun w hp => ?_) ⟨_, hp⟩ ?_
                                · obtain ⟨_, hp⟩ := hp
                                  refine st_move hf (wantY hf rfl rfl hb48) rfl (by decide) ?_
                                  clear hf; intro a ha hf
                                  exact st_nil hf (th_n ⟨ha, rfl⟩)
                                clear hf; intro a hf
                                refine dr_take 13 (.int .i64 at12) rfl (by kernel_rfl) (by kernel_rfl) (by kernel_rfl) (by kernel_rfl) rfl rfl hf (by decide) (wantY hf rfl rfl hb48) (fun w hp => ?_) ⟨_, hp⟩ ?_
                                · obtain ⟨_, hp⟩ := hp
                                  refine st_move hf (wantY hf rfl rfl hb48) rfl (by decide) ?_
                                  clear hf; intro a ha hf
                                  exact st_nil hf (th_n ⟨ha, rfl⟩)
                                clear hf; intro a hf
                                refine dr_take 14 (.bool (q41.2.1 != at12)) rfl (by kernel_rfl) (by kernel_rfl) (by kernel_rfl) (by kernel_rfl) rfl rfl hf (by decide) (wantY hf rfl rfl hb48) (fun w hp => ?_) ⟨_, hp⟩ ?_
                                · obtain ⟨_, hp⟩ := hp
                                  refine st_ineq hf (by decide) (wantY hf rfl rfl hb48) rfl rfl ?_
                                  clear hf; intro a ha hf
                                  exact st_nil hf (th_n ⟨ha, rfl⟩)
                                clear hf; intro a hf
                                refine dr_take 15 (.bool ((((q38.2 != (0 : Int)) || (q41.2.2 != (0 : Int))) || (q41.1 != w11)) || (q41.2.1 != at12))) rfl (by kernel_rfl) (by kernel_rfl) (by kernel_rfl) (by kernel_rfl) rfl rfl hf (by decide) rfl (fun w hp => ?_) ⟨_, hp⟩ ?_
                                · obtain ⟨_, hp⟩ := hp
                                  refine st_pick (v := .bool ((((q38.2 != (0 : Int)) || (q41.2.2 != (0 : Int))) || (q41.1 != w11)) || (q41.2.1 != at12))) hf rfl rfl (fun hb' => absurd (hb48.symm.trans hb') (by decide)) (fun _ => by rw [show ((((q38.2 != (0 : Int)) || (q41.2.2 != (0 : Int))) || (q41.1 != w11)) || (q41.2.1 != at12)) = (q41.2.1 != at12) from by rw [hb48]; rfl]; rfl) (by decide) ?_
                                  clear hf; intro a ha hf
                                  exact st_nil hf (th_n ⟨ha, rfl⟩)
                                clear hf; intro a hf
                                refine dr_take 16 (.bool ((((q38.2 != (0 : Int)) || (q41.2.2 != (0 : Int))) || (q41.1 != w11)) || (q41.2.1 != at12))) rfl (by kernel_rfl) (by kernel_rfl) (by kernel_rfl) (by kernel_rfl) rfl rfl hf (by decide) rfl (fun w hp => ?_) ⟨_, hp⟩ ?_
                                · obtain ⟨_, hp⟩ := hp
                                  refine st_move hf rfl rfl (by decide) ?_
                                  clear hf; intro a ha hf
                                  exact st_nil hf (th_n ⟨ha, rfl⟩)
                                clear hf; intro a hf
                                refine dr_out 17 rfl (by kernel_rfl) (by kernel_rfl) (by kernel_rfl) (by kernel_rfl) rfl hf (by decide) rfl (wantN hf rfl rfl hb50) ⟨_, hp⟩ ?_
                                clear hf; intro a hf
                                refine dr_out 18 rfl (by kernel_rfl) (by kernel_rfl) (by kernel_rfl) (by kernel_rfl) rfl hf (by decide) rfl (wantN hf rfl rfl hb50) ⟨_, hp⟩ ?_
                                clear hf; intro a hf
                                refine dr_take 19 (.bool (((((q38.2 != (0 : Int)) || (q41.2.2 != (0 : Int))) || (q41.1 != w11)) || (q41.2.1 != at12)) || (decide (q38.1 < (0 : Int))))) rfl (by kernel_rfl) (by kernel_rfl) (by kernel_rfl) (by kernel_rfl) rfl rfl hf (by decide) rfl (fun w hp => ?_) ⟨_, hp⟩ ?_
                                · obtain ⟨_, hp⟩ := hp
                                  refine st_pick (v := .bool (((((q38.2 != (0 : Int)) || (q41.2.2 != (0 : Int))) || (q41.1 != w11)) || (q41.2.1 != at12)) || (decide (q38.1 < (0 : Int))))) hf rfl rfl (fun _ => by rw [show (((((q38.2 != (0 : Int)) || (q41.2.2 != (0 : Int))) || (q41.1 != w11)) || (q41.2.1 != at12)) || (decide (q38.1 < (0 : Int)))) = true from by rw [hb50]; rfl]; rfl) (fun hb' => absurd (hb50.symm.trans hb') (by decide)) (by decide) ?_
                                  clear hf; intro a ha hf
                                  exact st_nil hf (th_n ⟨ha, rfl⟩)
                                clear hf; intro a hf
                                refine dr_take 20 (.bool (((((q38.2 != (0 : Int)) || (q41.2.2 != (0 : Int))) || (q41.1 != w11)) || (q41.2.1 != at12)) || (decide (q38.1 < (0 : Int))))) rfl (by kernel_rfl) (by kernel_rfl) (by kernel_rfl) (by kernel_rfl) rfl rfl hf (by decide) rfl (fun w hp => ?_) ⟨_, hp⟩ ?_
                                · obtain ⟨_, hp⟩ := hp
                                  refine st_move hf rfl rfl (by decide) ?_
                                  clear hf; intro a ha hf
                                  exact st_nil hf (th_n ⟨ha, rfl⟩)
                                clear hf; intro a hf
                                refine dr_out 21 rfl (by kernel_rfl) (by kernel_rfl) (by kernel_rfl) (by kernel_rfl) rfl hf (by decide) rfl (wantN hf rfl rfl hb52) ⟨_, hp⟩ ?_
                                clear hf; intro a hf
                                refine dr_out 22 rfl (by kernel_rfl) (by kernel_rfl) (by kernel_rfl) (by kernel_rfl) rfl hf (by decide) rfl (wantN hf rfl rfl hb52) ⟨_, hp⟩ ?_
                                clear hf; intro a hf
                                refine dr_out 23 rfl (by kernel_rfl) (by kernel_rfl) (by kernel_rfl) (by kernel_rfl) rfl hf (by decide) rfl (wantN hf rfl rfl hb52) ⟨_, hp⟩ ?_
                                clear hf; intro a hf
                                refine dr_out 24 rfl (by kernel_rfl) (by kernel_rfl) (by kernel_rfl) (by kernel_rfl) rfl hf (by decide) rfl (wantN hf rfl rfl hb52) ⟨_, hp⟩ ?_
                                clear hf; intro a hf
                                refine dr_take 25 (.bool ((((((q38.2 != (0 : Int)) || (q41.2.2 != (0 : Int))) || (q41.1 != w11)) || (q41.2.1 != at12)) || (decide (q38.1 < (0 : Int)))) || (decide ((q3.1.size : Int) ≤ q38.1)))) rfl (by kernel_rfl) (by kernel_rfl) (by kernel_rfl) (by kernel_rfl) rfl rfl hf (by decide) rfl (fun w hp => ?_) ⟨_, hp⟩ ?_
                                · obtain ⟨_, hp⟩ := hp
                                  refine st_pick (v := .bool ((((((q38.2 != (0 : Int)) || (q41.2.2 != (0 : Int))) || (q41.1 != w11)) || (q41.2.1 != at12)) || (decide (q38.1 < (0 : Int)))) || (decide ((q3.1.size : Int) ≤ q38.1)))) hf rfl rfl (fun _ => by rw [show ((((((q38.2 != (0 : Int)) || (q41.2.2 != (0 : Int))) || (q41.1 != w11)) || (q41.2.1 != at12)) || (decide (q38.1 < (0 : Int)))) || (decide ((q3.1.size : Int) ≤ q38.1))) = true from by rw [hb52]; rfl]; rfl) (fun hb' => absurd (hb52.symm.trans hb') (by decide)) (by decide) ?_
                                  clear hf; intro a ha hf
                                  exact st_nil hf (th_n ⟨ha, rfl⟩)
                                clear hf; intro a hf
                                refine dr_take 26 (.bool ((((((q38.2 != (0 : Int)) || (q41.2.2 != (0 : Int))) || (q41.1 != w11)) || (q41.2.1 != at12)) || (decide (q38.1 < (0 : Int)))) || (decide ((q3.1.size : Int) ≤ q38.1)))) rfl (by kernel_rfl) (by kernel_rfl) (by kernel_rfl) (by kernel_rfl) rfl rfl hf (by decide) rfl (fun w hp => ?_) ⟨_, hp⟩ ?_
                                · obtain ⟨_, hp⟩ := hp
                                  refine st_move hf rfl rfl (by decide) ?_
                                  clear hf; intro a ha hf
                                  exact st_nil hf (th_n ⟨ha, rfl⟩)
                                clear hf; intro a hf
                                refine dr_out 27 rfl (by kernel_rfl) (by kernel_rfl) (by kernel_rfl) (by kernel_rfl) rfl hf (by decide) rfl (wantN hf rfl rfl hb54) ⟨_, hp⟩ ?_
                                clear hf; intro a hf
                                refine dr_out 28 rfl (by kernel_rfl) (by kernel_rfl) (by kernel_rfl) (by kernel_rfl) rfl hf (by decide) rfl (wantN hf rfl rfl hb54) ⟨_, hp⟩ ?_
                                clear hf; intro a hf
                                refine dr_out 29 rfl (by kernel_rfl) (by kernel_rfl) (by kernel_rfl) (by kernel_rfl) rfl hf (by decide) rfl (wantN hf rfl rfl hb54) ⟨_, hp⟩ ?_
                                clear hf; intro a hf
                                refine dr_out 30 rfl (by kernel_rfl) (by kernel_rfl) (by kernel_rfl) (by kernel_rfl) rfl hf (by decide) rfl (wantN hf rfl rfl hb54) ⟨_, hp⟩ ?_
                                clear hf; intro a hf
                                refine dr_out 31 rfl (by kernel_rfl) (by kernel_rfl) (by kernel_rfl) (by kernel_rfl) rfl hf (by decide) rfl (wantN hf rfl rfl hb54) ⟨_, hp⟩ ?_
                                clear hf; intro a hf
                                refine dr_out 32 rfl (by kernel_rfl) (by kernel_rfl) (by kernel_rfl) (by kernel_rfl) rfl hf (by decide) rfl (wantN hf rfl rfl hb54) ⟨_, hp⟩ ?_
                                clear hf; intro a hf
                                refine dr_out 33 rfl (by kernel_rfl) (by kernel_rfl) (by kernel_rfl) (by kernel_rfl) rfl hf (by decide) rfl (wantN hf rfl rfl hb54) ⟨_, hp⟩ ?_
                                clear hf; intro a hf
                                refine dr_out 34 rfl (by kernel_rfl) (by kernel_rfl) (by kernel_rfl) (by kernel_rfl) rfl hf (by decide) rfl (wantN hf rfl rfl hb54) ⟨_, hp⟩ ?_
                                clear hf; intro a hf
                                refine dr_out 35 rfl (by kernel_rfl) (by kernel_rfl) (by kernel_rfl) (by kernel_rfl) rfl hf (by decide) rfl (wantN hf rfl rfl hb54) ⟨_, hp⟩ ?_
                                clear hf; intro a hf
                                refine dr_out 36 rfl (by kernel_rfl) (by kernel_rfl) (by kernel_rfl) (by kernel_rfl) rfl hf (by decide) rfl (wantN hf rfl rfl hb54) ⟨_, hp⟩ ?_
                                clear hf; intro a hf
                                refine dr_take 37 (.bool z58) rfl (by kernel_rfl) (by kernel_rfl) (by kernel_rfl) (by kernel_rfl) rfl rfl hf (by decide) rfl (fun w hp => ?_) ⟨_, hp⟩ ?_
                                · obtain ⟨_, hp⟩ := hp
                                  refine st_pick (v := .bool z58) hf rfl rfl (fun _ => by rw [← hz53]; rfl) (fun hb' => absurd (hb54.symm.trans hb') (by decide)) (by decide) ?_
                                  clear hf; intro a ha hf
                                  exact st_nil hf (th_n ⟨ha, rfl⟩)
                                clear hf; intro a hf
                                refine dr_end (by kernel_rfl) ?_ _
                                exact ⟨hf.sub ⟨rfl, rfl, rfl, rfl, rfl, rfl, rfl, trivial⟩, hp⟩
                              · skip
                                rcases Bool.eq_false_or_eq_true (((((q38.2 != (0 : Int)) || (q41.2.2 != (0 : Int))) || (q41.1 != w11)) || (q41.2.1 != at12)) || (decide (q38.1 < (0 : Int)))) with hb52 | hb52
                                · skip
                                  have hb54 : ((((((q38.2 != (0 : Int)) || (q41.2.2 != (0 : Int))) || (q41.1 != w11)) || (q41.2.1 != at12)) || (decide (q38.1 < (0 : Int)))) || (decide ((q3.1.size : Int) ≤ q38.1))) = true := by rw [hb52]; rfl
                                  skip
                                  replace hz53 := ifT hz53 hb54
                                  replace hz53 := Option.some.inj hz53
                                  refine dr_begin' (fun a w => Fr 158 a [(0, vwords0), (1, .string s1), (2, .int .i64 count2), (7, .string q3.1), (11, .int .i64 w11), (12, .int .i64 at12), (134, .bool z58)] ∧ Hp S w0 w (ow)) (fun w' => ∃ l, Hp S w0 w' l) [] (by kernel_rfl) ?_
                                  refine dr_take 0 (.int .i64 q38.2) rfl (by kernel_rfl) (by kernel_rfl) (by kernel_rfl) (by kernel_rfl) rfl rfl hf (by decide) rfl (fun w hp => ?_) ⟨_, hp⟩ ?_
                                  · obtain ⟨_, hp⟩ := hp
                                    refine st_move hf rfl rfl (by decide) ?_
                                    clear hf; intro a ha hf
                                    exact st_nil hf (th_n ⟨ha, rfl⟩)
                                  clear hf; intro a hf
                                  refine dr_take 1 (.bool (q38.2 != (0 : Int))) rfl (by kernel_rfl) (by kernel_rfl) (by kernel_rfl) (by kernel_rfl) rfl rfl hf (by decide) rfl (fun w hp => ?_) ⟨_, hp⟩ ?_
                                  · obtain ⟨_, hp⟩ := hp
                                    refine st_ineq hf (by decide) rfl rfl rfl ?_
                                    clear hf; intro a ha hf
                                    exact st_nil hf (th_n ⟨ha, rfl⟩)
                                  clear hf; intro a hf
                                  refine dr_take 2 (.bool (q38.2 != (0 : Int))) rfl (by kernel_rfl) (by kernel_rfl) (by kernel_rfl) (by kernel_rfl) rfl rfl hf (by decide) rfl (fun w hp => ?_) ⟨_, hp⟩ ?_
                                  · obtain ⟨_, hp⟩ := hp
                                    refine st_move hf rfl rfl (by decide) ?_
                                    clear hf; intro a ha hf
                                    exact st_nil hf (th_n ⟨ha, rfl⟩)
                                  clear hf; intro a hf
                                  refine dr_take 3 (.int .i64 q41.2.2) rfl (by kernel_rfl) (by kernel_rfl) (by kernel_rfl) (by kernel_rfl) rfl rfl hf (by decide) (wantY hf rfl rfl hb44) (fun w hp => ?_) ⟨_, hp⟩ ?_
                                  · obtain ⟨_, hp⟩ := hp
                                    refine st_move hf (wantY hf rfl rfl hb44) rfl (by decide) ?_
                                    clear hf; intro a ha hf
                                    exact st_nil hf (th_n ⟨ha, rfl⟩)
                                  clear hf; intro a hf
                                  refine dr_take 4 (.bool (q41.2.2 != (0 : Int))) rfl (by kernel_rfl) (by kernel_rfl) (by kernel_rfl) (by kernel_rfl) rfl rfl hf (by decide) (wantY hf rfl rfl hb44) (fun w hp => ?_) ⟨_, hp⟩ ?_
                                  · obtain ⟨_, hp⟩ := hp
                                    refine st_ineq hf (by decide) (wantY hf rfl rfl hb44) rfl rfl ?_
                                    clear hf; intro a ha hf
                                    exact st_nil hf (th_n ⟨ha, rfl⟩)
                                  clear hf; intro a hf
                                  refine dr_take 5 (.bool ((q38.2 != (0 : Int)) || (q41.2.2 != (0 : Int)))) rfl (by kernel_rfl) (by kernel_rfl) (by kernel_rfl) (by kernel_rfl) rfl rfl hf (by decide) rfl (fun w hp => ?_) ⟨_, hp⟩ ?_
                                  · obtain ⟨_, hp⟩ := hp
                                    refine st_pick (v := .bool ((q38.2 != (0 : Int)) || (q41.2.2 != (0 : Int)))) hf rfl rfl (fun hb' => absurd (hb44.symm.trans hb') (by decide)) (fun _ => by rw [show ((q38.2 != (0 : Int)) || (q41.2.2 != (0 : Int))) = (q41.2.2 != (0 : Int)) from by rw [hb44]; rfl]; rfl) (by decide) ?_
                                    clear hf; intro a ha hf
                                    exact st_nil hf (th_n ⟨ha, rfl⟩)
                                  clear hf; intro a hf
                                  refine dr_take 6 (.bool ((q38.2 != (0 : Int)) || (q41.2.2 != (0 : Int)))) rfl (by kernel_rfl) (by kernel_rfl) (by kernel_rfl) (by kernel_rfl) rfl rfl hf (by decide) rfl (fun w hp => ?_) ⟨_, hp⟩ ?_
                                  · obtain ⟨_, hp⟩ := hp
                                    refine st_move hf rfl rfl (by decide) ?_
                                    clear hf; intro a ha hf
                                    exact st_nil hf (th_n ⟨ha, rfl⟩)
                                  clear hf; intro a hf
                                  refine dr_take 7 (.int .i64 q41.1) rfl (by kernel_rfl) (by kernel_rfl) (by kernel_rfl) (by kernel_rfl) rfl rfl hf (by decide) (wantY hf rfl rfl hb46) (fun w hp => ?_) ⟨_, hp⟩ ?_
                                  · obtain ⟨_, hp⟩ := hp
                                    refine st_move hf (wantY hf rfl rfl hb46) rfl (by decide) ?_
                                    clear hf; intro a ha hf
                                    exact st_nil hf (th_n ⟨ha, rfl⟩)
                                  clear hf; intro a hf
                                  refine dr_take 8 (.int .i64 w11) rfl (by kernel_rfl) (by kernel_rfl) (by kernel_rfl) (by kernel_rfl) rfl rfl hf (by decide) (wantY hf rfl rfl hb46) (fun w hp => ?_) ⟨_, hp⟩ ?_
                                  · obtain ⟨_, hp⟩ := hp
                                    refine st_move hf (wantY hf rfl rfl hb46) rfl (by decide) ?_
                                    clear hf; intro a ha hf
                                    exact st_nil hf (th_n ⟨ha, rfl⟩)
                                  clear hf; intro a hf
                                  refine dr_take 9 (.bool (q41.1 != w11)) rfl (by kernel_rfl) (by kernel_rfl) (by kernel_rfl) (by kernel_rfl) rfl rfl hf (by decide) (wantY hf rfl rfl hb46) (fun w hp => ?_) ⟨_, hp⟩ ?_
                                  · obtain ⟨_, hp⟩ := hp
                                    refine st_ineq hf (by decide) (wantY hf rfl rfl hb46) rfl rfl ?_
                                    clear hf; intro a ha hf
                                    exact st_nil hf (th_n ⟨ha, rfl⟩)
                                  clear hf; intro a hf
                                  refine dr_take 10 (.bool (((q38.2 != (0 : Int)) || (q41.2.2 != (0 : Int))) || (q41.1 != w11))) rfl (by kernel_rfl) (by kernel_rfl) (by kernel_rfl) (by kernel_rfl) rfl rfl hf (by decide) rfl (fun w hp => ?_) ⟨_, hp⟩ ?_
                                  · obtain ⟨_, hp⟩ := hp
                                    refine st_pick (v := .bool (((q38.2 != (0 : Int)) || (q41.2.2 != (0 : Int))) || (q41.1 != w11))) hf rfl rfl (fun hb' => absurd (hb46.symm.trans hb') (by decide)) (fun _ => by rw [show (((q38.2 != (0 : Int)) || (q41.2.2 != (0 : Int))) || (q41.1 != w11)) = (q41.1 != w11) from by rw [hb46]; rfl]; rfl) (by decide) ?_
                                    clear hf; intro a ha hf
                                    exact st_nil hf (th_n ⟨ha, rfl⟩)
                                  clear hf; intro a hf
                                  refine dr_take 11 (.bool (((q38.2 != (0 : Int)) || (q41.2.2 != (0 : Int))) || (q41.1 != w11))) rfl (by kernel_rfl) (by kernel_rfl) (by kernel_rfl) (by kernel_rfl) rfl rfl hf (by decide) rfl (fun w hp => ?_) ⟨_, hp⟩ ?_
                                  · obtain ⟨_, hp⟩ := hp
                                    refine st_move hf rfl rfl (by decide) ?_
                                    clear hf; intro a ha hf
                                    exact st_nil hf (th_n ⟨ha, rfl⟩)
                                  clear hf; intro a hf
                                  refine dr_take 12 (.int .i64 q41.2.1) rfl (by kernel_rfl) (by kernel_rfl) (by kernel_rfl) (by kernel_rfl) rfl rfl hf (by decide) (wantY hf rfl rfl hb48) (fun w hp => ?_) ⟨_, hp⟩ ?_
                                  · obtain ⟨_, hp⟩ := hp
                                    refine st_move hf (wantY hf rfl rfl hb48) rfl (by decide) ?_
                                    clear hf; intro a ha hf
                                    exact st_nil hf (th_n ⟨ha, rfl⟩)
                                  clear hf; intro a hf
                                  refine dr_take 13 (.int .i64 at12) rfl (by kernel_rfl) (by kernel_rfl) (by kernel_rfl) (by kernel_rfl) rfl rfl hf (by decide) (wantY hf rfl rfl hb48) (fun w hp => ?_) ⟨_, hp⟩ ?_
                                  · obtain ⟨_, hp⟩ := hp
                                    refine st_move hf (wantY hf rfl rfl hb48) rfl (by decide) ?_
                                    clear hf; intro a ha hf
                                    exact st_nil hf (th_n ⟨ha, rfl⟩)
                                  clear hf; intro a hf
                                  refine dr_take 14 (.bool (q41.2.1 != at12)) rfl (by kernel_rfl) (by kernel_rfl) (by kernel_rfl) (by kernel_rfl) rfl rfl hf (by decide) (wantY hf rfl rfl hb48) (fun w hp => ?_) ⟨_, hp⟩ ?_
                                  · obtain ⟨_, hp⟩ := hp
                                    refine st_ineq hf (by decide) (wantY hf rfl rfl hb48) rfl rfl ?_
                                    clear hf; intro a ha hf
                                    exact st_nil hf (th_n ⟨ha, rfl⟩)
                                  clear hf; intro a hf
                                  refine dr_take 15 (.bool ((((q38.2 != (0 : Int)) || (q41.2.2 != (0 : Int))) || (q41.1 != w11)) || (q41.2.1 != at12))) rfl (by kernel_rfl) (by kernel_rfl) (by kernel_rfl) (by kernel_rfl) rfl rfl hf (by decide) rfl (fun w hp => ?_) ⟨_, hp⟩ ?_
                                  · obtain ⟨_, hp⟩ := hp
                                    refine st_pick (v := .bool ((((q38.2 != (0 : Int)) || (q41.2.2 != (0 : Int))) || (q41.1 != w11)) || (q41.2.1 != at12))) hf rfl rfl (fun hb' => absurd (hb48.symm.trans hb') (by decide)) (fun _ => by rw [show ((((q38.2 != (0 : Int)) || (q41.2.2 != (0 : Int))) || (q41.1 != w11)) || (q41.2.1 != at12)) = (q41.2.1 != at12) from by rw [hb48]; rfl]; rfl) (by decide) ?_
                                    clear hf; intro a ha hf
                                    exact st_nil hf (th_n ⟨ha, rfl⟩)
                                  clear hf; intro a hf
                                  refine dr_take 16 (.bool ((((q38.2 != (0 : Int)) || (q41.2.2 != (0 : Int))) || (q41.1 != w11)) || (q41.2.1 != at12))) rfl (by kernel_rfl) (by kernel_rfl) (by kernel_rfl) (by kernel_rfl) rfl rfl hf (by decide) rfl (fun w hp => ?_) ⟨_, hp⟩ ?_
                                  · obtain ⟨_, hp⟩ := hp
                                    refine st_move hf rfl rfl (by decide) ?_
                                    clear hf; intro a ha hf
                                    exact st_nil hf (th_n ⟨ha, rfl⟩)
                                  clear hf; intro a hf
                                  refine dr_take 17 (.int .i64 q38.1) rfl (by kernel_rfl) (by kernel_rfl) (by kernel_rfl) (by kernel_rfl) rfl rfl hf (by decide) (wantY hf rfl rfl hb50) (fun w hp => ?_) ⟨_, hp⟩ ?_
                                  · obtain ⟨_, hp⟩ := hp
                                    refine st_move hf (wantY hf rfl rfl hb50) rfl (by decide) ?_
                                    clear hf; intro a ha hf
                                    exact st_nil hf (th_n ⟨ha, rfl⟩)
                                  clear hf; intro a hf
                                  refine dr_take 18 (.bool (decide (q38.1 < (0 : Int)))) rfl (by kernel_rfl) (by kernel_rfl) (by kernel_rfl) (by kernel_rfl) rfl rfl hf (by decide) (wantY hf rfl rfl hb50) (fun w hp => ?_) ⟨_, hp⟩ ?_
                                  · obtain ⟨_, hp⟩ := hp
                                    refine st_ilss hf (by decide) (wantY hf rfl rfl hb50) rfl rfl ?_
                                    clear hf; intro a ha hf
                                    exact st_nil hf (th_n ⟨ha, rfl⟩)
                                  clear hf; intro a hf
                                  refine dr_take 19 (.bool (((((q38.2 != (0 : Int)) || (q41.2.2 != (0 : Int))) || (q41.1 != w11)) || (q41.2.1 != at12)) || (decide (q38.1 < (0 : Int))))) rfl (by kernel_rfl) (by kernel_rfl) (by kernel_rfl) (by kernel_rfl) rfl rfl hf (by decide) rfl (fun w hp => ?_) ⟨_, hp⟩ ?_
                                  · obtain ⟨_, hp⟩ := hp
                                    refine st_pick (v := .bool (((((q38.2 != (0 : Int)) || (q41.2.2 != (0 : Int))) || (q41.1 != w11)) || (q41.2.1 != at12)) || (decide (q38.1 < (0 : Int))))) hf rfl rfl (fun hb' => absurd (hb50.symm.trans hb') (by decide)) (fun _ => by rw [show (((((q38.2 != (0 : Int)) || (q41.2.2 != (0 : Int))) || (q41.1 != w11)) || (q41.2.1 != at12)) || (decide (q38.1 < (0 : Int)))) = (decide (q38.1 < (0 : Int))) from by rw [hb50]; rfl]; rfl) (by decide) ?_
                                    clear hf; intro a ha hf
                                    exact st_nil hf (th_n ⟨ha, rfl⟩)
                                  clear hf; intro a hf
                                  refine dr_take 20 (.bool (((((q38.2 != (0 : Int)) || (q41.2.2 != (0 : Int))) || (q41.1 != w11)) || (q41.2.1 != at12)) || (decide (q38.1 < (0 : Int))))) rfl (by kernel_rfl) (by kernel_rfl) (by kernel_rfl) (by kernel_rfl) rfl rfl hf (by decide) rfl (fun w hp => ?_) ⟨_, hp⟩ ?_
                                  · obtain ⟨_, hp⟩ := hp
                                    refine st_move hf rfl rfl (by decide) ?_
                                    clear hf; intro a ha hf
                                    exact st_nil hf (th_n ⟨ha, rfl⟩)
                                  clear hf; intro a hf
                                  refine dr_out 21 rfl (by kernel_rfl) (by kernel_rfl) (by kernel_rfl) (by kernel_rfl) rfl hf (by decide) rfl (wantN hf rfl rfl hb52) ⟨_, hp⟩ ?_
                                  clear hf; intro a hf
                                  refine dr_out 22 rfl (by kernel_rfl) (by kernel_rfl) (by kernel_rfl) (by kernel_rfl) rfl hf (by decide) rfl (wantN hf rfl rfl hb52) ⟨_, hp⟩ ?_
                                  clear hf; intro a hf
                                  refine dr_out 23 rfl (by kernel_rfl) (by kernel_rfl) (by kernel_rfl) (by kernel_rfl) rfl hf (by decide) rfl (wantN hf rfl rfl hb52) ⟨_, hp⟩ ?_
                                  clear hf; intro a hf
                                  refine dr_out 24 rfl (by kernel_rfl) (by kernel_rfl) (by kernel_rfl) (by kernel_rfl) rfl hf (by decide) rfl (wantN hf rfl rfl hb52) ⟨_, hp⟩ ?_
                                  clear hf; intro a hf
                                  refine dr_take 25 (.bool ((((((q38.2 != (0 : Int)) || (q41.2.2 != (0 : Int))) || (q41.1 != w11)) || (q41.2.1 != at12)) || (decide (q38.1 < (0 : Int)))) || (decide ((q3.1.size : Int) ≤ q38.1)))) rfl (by kernel_rfl) (by kernel_rfl) (by kernel_rfl) (by kernel_rfl) rfl rfl hf (by decide) rfl (fun w hp => ?_) ⟨_, hp⟩ ?_
                                  · obtain ⟨_, hp⟩ := hp
                                    refine st_pick (v := .bool ((((((q38.2 != (0 : Int)) || (q41.2.2 != (0 : Int))) || (q41.1 != w11)) || (q41.2.1 != at12)) || (decide (q38.1 < (0 : Int)))) || (decide ((q3.1.size : Int) ≤ q38.1)))) hf rfl rfl (fun _ => by rw [show ((((((q38.2 != (0 : Int)) || (q41.2.2 != (0 : Int))) || (q41.1 != w11)) || (q41.2.1 != at12)) || (decide (q38.1 < (0 : Int)))) || (decide ((q3.1.size : Int) ≤ q38.1))) = true from by rw [hb52]; rfl]; rfl) (fun hb' => absurd (hb52.symm.trans hb') (by decide)) (by decide) ?_
                                    clear hf; intro a ha hf
                                    exact st_nil hf (th_n ⟨ha, rfl⟩)
                                  clear hf; intro a hf
                                  refine dr_take 26 (.bool ((((((q38.2 != (0 : Int)) || (q41.2.2 != (0 : Int))) || (q41.1 != w11)) || (q41.2.1 != at12)) || (decide (q38.1 < (0 : Int)))) || (decide ((q3.1.size : Int) ≤ q38.1)))) rfl (by kernel_rfl) (by kernel_rfl) (by kernel_rfl) (by kernel_rfl) rfl rfl hf (by decide) rfl (fun w hp => ?_) ⟨_, hp⟩ ?_
                                  · obtain ⟨_, hp⟩ := hp
                                    refine st_move hf rfl rfl (by decide) ?_
                                    clear hf; intro a ha hf
                                    exact st_nil hf (th_n ⟨ha, rfl⟩)
                                  clear hf; intro a hf
                                  refine dr_out 27 rfl (by kernel_rfl) (by kernel_rfl) (by kernel_rfl) (by kernel_rfl) rfl hf (by decide) rfl (wantN hf rfl rfl hb54) ⟨_, hp⟩ ?_
                                  clear hf; intro a hf
                                  refine dr_out 28 rfl (by kernel_rfl) (by kernel_rfl) (by kernel_rfl) (by kernel_rfl) rfl hf (by decide) rfl (wantN hf rfl rfl hb54) ⟨_, hp⟩ ?_
                                  clear hf; intro a hf
                                  refine dr_out 29 rfl (by kernel_rfl) (by kernel_rfl) (by kernel_rfl) (by kernel_rfl) rfl hf (by decide) rfl (wantN hf rfl rfl hb54) ⟨_, hp⟩ ?_
                                  clear hf; intro a hf
                                  refine dr_out 30 rfl (by kernel_rfl) (by kernel_rfl) (by kernel_rfl) (by kernel_rfl) rfl hf (by decide) rfl (wantN hf rfl rfl hb54) ⟨_, hp⟩ ?_
                                  clear hf; intro a hf
                                  refine dr_out 31 rfl (by kernel_rfl) (by kernel_rfl) (by kernel_rfl) (by kernel_rfl) rfl hf (by decide) rfl (wantN hf rfl rfl hb54) ⟨_, hp⟩ ?_
                                  clear hf; intro a hf
                                  refine dr_out 32 rfl (by kernel_rfl) (by kernel_rfl) (by kernel_rfl) (by kernel_rfl) rfl hf (by decide) rfl (wantN hf rfl rfl hb54) ⟨_, hp⟩ ?_
                                  clear hf; intro a hf
                                  refine dr_out 33 rfl (by kernel_rfl) (by kernel_rfl) (by kernel_rfl) (by kernel_rfl) rfl hf (by decide) rfl (wantN hf rfl rfl hb54) ⟨_, hp⟩ ?_
                                  clear hf; intro a hf
                                  refine dr_out 34 rfl (by kernel_rfl) (by kernel_rfl) (by kernel_rfl) (by kernel_rfl) rfl hf (by decide) rfl (wantN hf rfl rfl hb54) ⟨_, hp⟩ ?_
                                  clear hf; intro a hf
                                  refine dr_out 35 rfl (by kernel_rfl) (by kernel_rfl) (by kernel_rfl) (by kernel_rfl) rfl hf (by decide) rfl (wantN hf rfl rfl hb54) ⟨_, hp⟩ ?_
                                  clear hf; intro a hf
                                  refine dr_out 36 rfl (by kernel_rfl) (by kernel_rfl) (by kernel_rfl) (by kernel_rfl) rfl hf (by decide) rfl (wantN hf rfl rfl hb54) ⟨_, hp⟩ ?_
                                  clear hf; intro a hf
                                  refine dr_take 37 (.bool z58) rfl (by kernel_rfl) (by kernel_rfl) (by kernel_rfl) (by kernel_rfl) rfl rfl hf (by decide) rfl (fun w hp => ?_) ⟨_, hp⟩ ?_
                                  · obtain ⟨_, hp⟩ := hp
                                    refine st_pick (v := .bool z58) hf rfl rfl (fun _ => by rw [← hz53]; rfl) (fun hb' => absurd (hb54.symm.trans hb') (by decide)) (by decide) ?_
                                    clear hf; intro a ha hf
                                    exact st_nil hf (th_n ⟨ha, rfl⟩)
                                  clear hf; intro a hf
                                  refine dr_end (by kernel_rfl) ?_ _
                                  exact ⟨hf.sub ⟨rfl, rfl, rfl, rfl, rfl, rfl, rfl, trivial⟩, hp⟩
                                · skip
                                  rcases Bool.eq_false_or_eq_true ((((((q38.2 != (0 : Int)) || (q41.2.2 != (0 : Int))) || (q41.1 != w11)) || (q41.2.1 != at12)) || (decide (q38.1 < (0 : Int)))) || (decide ((q3.1.size : Int) ≤ q38.1))) with hb54 | hb54
                                  · skip
                                    replace hz53 := ifT hz53 hb54
                                    replace hz53 := Option.some.inj hz53
                                    refine dr_begin' (fun a w => Fr 158 a [(0, vwords0), (1, .string s1), (2, .int .i64 count2), (7, .string q3.1), (11, .int .i64 w11), (12, .int .i64 at12), (134, .bool z58)] ∧ Hp S w0 w (ow)) (fun w' => ∃ l, Hp S w0 w' l) [] (by kernel_rfl) ?_
                                    refine dr_take 0 (.int .i64 q38.2) rfl (by kernel_rfl) (by kernel_rfl) (by kernel_rfl) (by kernel_rfl) rfl rfl hf (by decide) rfl (fun w hp => ?_) ⟨_, hp⟩ ?_
                                    · obtain ⟨_, hp⟩ := hp
                                      refine st_move hf rfl rfl (by decide) ?_
                                      clear hf; intro a ha hf
                                      exact st_nil hf (th_n ⟨ha, rfl⟩)
                                    clear hf; intro a hf
                                    refine dr_take 1 (.bool (q38.2 != (0 : Int))) rfl (by kernel_rfl) (by kernel_rfl) (by kernel_rfl) (by kernel_rfl) rfl rfl hf (by decide) rfl (fun w hp => ?_) ⟨_, hp⟩ ?_
                                    · obtain ⟨_, hp⟩ := hp
                                      refine st_ineq hf (by decide) rfl rfl rfl ?_
                                      clear hf; intro a ha hf
                                      exact st_nil hf (th_n ⟨ha, rfl⟩)
                                    clear hf; intro a hf
                                    refine dr_take 2 (.bool (q38.2 != (0 : Int))) rfl (by kernel_rfl) (by kernel_rfl) (by kernel_rfl) (by kernel_rfl) rfl rfl hf (by decide) rfl (fun w hp => ?_) ⟨_, hp⟩ ?_
                                    · obtain ⟨_, hp⟩ := hp
                                      refine st_move hf rfl rfl (by decide) ?_
                                      clear hf; intro a ha hf
                                      exact st_nil hf (th_n ⟨ha, rfl⟩)
                                    clear hf; intro a hf
                                    refine dr_take 3 (.int .i64 q41.2.2) rfl (by kernel_rfl) (by kernel_rfl) (by kernel_rfl) (by kernel_rfl) rfl rfl hf (by decide) (wantY hf rfl rfl hb44) (fun w hp => ?_) ⟨_, hp⟩ ?_
                                    · obtain ⟨_, hp⟩ := hp
                                      refine st_move hf (wantY hf rfl rfl hb44) rfl (by decide) ?_
                                      clear hf; intro a ha hf
                                      exact st_nil hf (th_n ⟨ha, rfl⟩)
                                    clear hf; intro a hf
                                    refine dr_take 4 (.bool (q41.2.2 != (0 : Int))) rfl (by kernel_rfl) (by kernel_rfl) (by kernel_rfl) (by kernel_rfl) rfl rfl hf (by decide) (wantY hf rfl rfl hb44) (fun w hp => ?_) ⟨_, hp⟩ ?_
                                    · obtain ⟨_, hp⟩ := hp
                                      refine st_ineq hf (by decide) (wantY hf rfl rfl hb44) rfl rfl ?_
                                      clear hf; intro a ha hf
                                      exact st_nil hf (th_n ⟨ha, rfl⟩)
                                    clear hf; intro a hf
                                    refine dr_take 5 (.bool ((q38.2 != (0 : Int)) || (q41.2.2 != (0 : Int)))) rfl (by kernel_rfl) (by kernel_rfl) (by kernel_rfl) (by kernel_rfl) rfl rfl hf (by decide) rfl (fun w hp => ?_) ⟨_, hp⟩ ?_
                                    · obtain ⟨_, hp⟩ := hp
                                      refine st_pick (v := .bool ((q38.2 != (0 : Int)) || (q41.2.2 != (0 : Int)))) hf rfl rfl (fun hb' => absurd (hb44.symm.trans hb') (by decide)) (fun _ => by rw [show ((q38.2 != (0 : Int)) || (q41.2.2 != (0 : Int))) = (q41.2.2 != (0 : Int)) from by rw [hb44]; rfl]; rfl) (by decide) ?_
                                      clear hf; intro a ha hf
                                      exact st_nil hf (th_n ⟨ha, rfl⟩)
                                    clear hf; intro a hf
                                    refine dr_take 6 (.bool ((q38.2 != (0 : Int)) || (q41.2.2 != (0 : Int)))) rfl (by kernel_rfl) (by kernel_rfl) (by kernel_rfl) (by kernel_rfl) rfl rfl hf (by decide) rfl (fun w hp => ?_) ⟨_, hp⟩ ?_
                                    · obtain ⟨_, hp⟩ := hp
                                      refine st_move hf rfl rfl (by decide) ?_
                                      clear hf; intro a ha hf
                                      exact st_nil hf (th_n ⟨ha, rfl⟩)
                                    clear hf; intro a hf
                                    refine dr_take 7 (.int .i64 q41.1) rfl (by kernel_rfl) (by kernel_rfl) (by kernel_rfl) (by kernel_rfl) rfl rfl hf (by decide) (wantY hf rfl rfl hb46) (fun w hp => ?_) ⟨_, hp⟩ ?_
                                    · obtain ⟨_, hp⟩ := hp
                                      refine st_move hf (wantY hf rfl rfl hb46) rfl (by decide) ?_
                                      clear hf; intro a ha hf
                                      exact st_nil hf (th_n ⟨ha, rfl⟩)
                                    clear hf; intro a hf
                                    refine dr_take 8 (.int .i64 w11) rfl (by kernel_rfl) (by kernel_rfl) (by kernel_rfl) (by kernel_rfl) rfl rfl hf (by decide) (wantY hf rfl rfl hb46) (fun w hp => ?_) ⟨_, hp⟩ ?_
                                    · obtain ⟨_, hp⟩ := hp
                                      refine st_move hf (wantY hf rfl rfl hb46) rfl (by decide) ?_
                                      clear hf; intro a ha hf
                                      exact st_nil hf (th_n ⟨ha, rfl⟩)
                                    clear hf; intro a hf
                                    refine dr_take 9 (.bool (q41.1 != w11)) rfl (by kernel_rfl) (by kernel_rfl) (by kernel_rfl) (by kernel_rfl) rfl rfl hf (by decide) (wantY hf rfl rfl hb46) (fun w hp => ?_) ⟨_, hp⟩ ?_
                                    · obtain ⟨_, hp⟩ := hp
                                      refine st_ineq hf (by decide) (wantY hf rfl rfl hb46) rfl rfl ?_
                                      clear hf; intro a ha hf
                                      exact st_nil hf (th_n ⟨ha, rfl⟩)
                                    clear hf; intro a hf
                                    refine dr_take 10 (.bool (((q38.2 != (0 : Int)) || (q41.2.2 != (0 : Int))) || (q41.1 != w11))) rfl (by kernel_rfl) (by kernel_rfl) (by kernel_rfl) (by kernel_rfl) rfl rfl hf (by decide) rfl (fun w hp => ?_) ⟨_, hp⟩ ?_
                                    · obtain ⟨_, hp⟩ := hp
                                      refine st_pick (v := .bool (((q38.2 != (0 : Int)) || (q41.2.2 != (0 : Int))) || (q41.1 != w11))) hf rfl rfl (fun hb' => absurd (hb46.symm.trans hb') (by decide)) (fun _ => by rw [show (((q38.2 != (0 : Int)) || (q41.2.2 != (0 : Int))) || (q41.1 != w11)) = (q41.1 != w11) from by rw [hb46]; rfl]; rfl) (by decide) ?_
                                      clear hf; intro a ha hf
                                      exact st_nil hf (th_n ⟨ha, rfl⟩)
                                    clear hf; intro a hf
                                    refine dr_take 11 (.bool (((q38.2 != (0 : Int)) || (q41.2.2 != (0 : Int))) || (q41.1 != w11))) rfl (by kernel_rfl) (by kernel_rfl) (by kernel_rfl) (by kernel_rfl) rfl rfl hf (by decide) rfl (fun w hp => ?_) ⟨_, hp⟩ ?_
                                    · obtain ⟨_, hp⟩ := hp
                                      refine st_move hf rfl rfl (by decide) ?_
                                      clear hf; intro a ha hf
                                      exact st_nil hf (th_n ⟨ha, rfl⟩)
                                    clear hf; intro a hf
                                    refine dr_take 12 (.int .i64 q41.2.1) rfl (by kernel_rfl) (by kernel_rfl) (by kernel_rfl) (by kernel_rfl) rfl rfl hf (by decide) (wantY hf rfl rfl hb48) (fun w hp => ?_) ⟨_, hp⟩ ?_
                                    · obtain ⟨_, hp⟩ := hp
                                      refine st_move hf (wantY hf rfl rfl hb48) rfl (by decide) ?_
                                      clear hf; intro a ha hf
                                      exact st_nil hf (th_n ⟨ha, rfl⟩)
                                    clear hf; intro a hf
                                    refine dr_take 13 (.int .i64 at12) rfl (by kernel_rfl) (by kernel_rfl) (by kernel_rfl) (by kernel_rfl) rfl rfl hf (by decide) (wantY hf rfl rfl hb48) (fun w hp => ?_) ⟨_, hp⟩ ?_
                                    · obtain ⟨_, hp⟩ := hp
                                      refine st_move hf (wantY hf rfl rfl hb48) rfl (by decide) ?_
                                      clear hf; intro a ha hf
                                      exact st_nil hf (th_n ⟨ha, rfl⟩)
                                    clear hf; intro a hf
                                    refine dr_take 14 (.bool (q41.2.1 != at12)) rfl (by kernel_rfl) (by kernel_rfl) (by kernel_rfl) (by kernel_rfl) rfl rfl hf (by decide) (wantY hf rfl rfl hb48) (fun w hp => ?_) ⟨_, hp⟩ ?_
                                    · obtain ⟨_, hp⟩ := hp
                                      refine st_ineq hf (by decide) (wantY hf rfl rfl hb48) rfl rfl ?_
                                      clear hf; intro a ha hf
                                      exact st_nil hf (th_n ⟨ha, rfl⟩)
                                    clear hf; intro a hf
                                    refine dr_take 15 (.bool ((((q38.2 != (0 : Int)) || (q41.2.2 != (0 : Int))) || (q41.1 != w11)) || (q41.2.1 != at12))) rfl (by kernel_rfl) (by kernel_rfl) (by kernel_rfl) (by kernel_rfl) rfl rfl hf (by decide) rfl (fun w hp => ?_) ⟨_, hp⟩ ?_
                                    · obtain ⟨_, hp⟩ := hp
                                      refine st_pick (v := .bool ((((q38.2 != (0 : Int)) || (q41.2.2 != (0 : Int))) || (q41.1 != w11)) || (q41.2.1 != at12))) hf rfl rfl (fun hb' => absurd (hb48.symm.trans hb') (by decide)) (fun _ => by rw [show ((((q38.2 != (0 : Int)) || (q41.2.2 != (0 : Int))) || (q41.1 != w11)) || (q41.2.1 != at12)) = (q41.2.1 != at12) from by rw [hb48]; rfl]; rfl) (by decide) ?_
                                      clear hf; intro a ha hf
                                      exact st_nil hf (th_n ⟨ha, rfl⟩)
                                    clear hf; intro a hf
                                    refine dr_take 16 (.bool ((((q38.2 != (0 : Int)) || (q41.2.2 != (0 : Int))) || (q41.1 != w11)) || (q41.2.1 != at12))) rfl (by kernel_rfl) (by kernel_rfl) (by kernel_rfl) (by kernel_rfl) rfl rfl hf (by decide) rfl (fun w hp => ?_) ⟨_, hp⟩ ?_
                                    · obtain ⟨_, hp⟩ := hp
                                      refine st_move hf rfl rfl (by decide) ?_
                                      clear hf; intro a ha hf
                                      exact st_nil hf (th_n ⟨ha, rfl⟩)
                                    clear hf; intro a hf
                                    refine dr_take 17 (.int .i64 q38.1) rfl (by kernel_rfl) (by kernel_rfl) (by kernel_rfl) (by kernel_rfl) rfl rfl hf (by decide) (wantY hf rfl rfl hb50) (fun w hp => ?_) ⟨_, hp⟩ ?_
                                    · obtain ⟨_, hp⟩ := hp
                                      refine st_move hf (wantY hf rfl rfl hb50) rfl (by decide) ?_
                                      clear hf; intro a ha hf
                                      exact st_nil hf (th_n ⟨ha, rfl⟩)
                                    clear hf; intro a hf
                                    refine dr_take 18 (.bool (decide (q38.1 < (0 : Int)))) rfl (by kernel_rfl) (by kernel_rfl) (by kernel_rfl) (by kernel_rfl) rfl rfl hf (by decide) (wantY hf rfl rfl hb50) (fun w hp => ?_) ⟨_, hp⟩ ?_
                                    · obtain ⟨_, hp⟩ := hp
                                      refine st_ilss hf (by decide) (wantY hf rfl rfl hb50) rfl rfl ?_
                                      clear hf; intro a ha hf
                                      exact st_nil hf (th_n ⟨ha, rfl⟩)
                                    clear hf; intro a hf
                                    refine dr_take 19 (.bool (((((q38.2 != (0 : Int)) || (q41.2.2 != (0 : Int))) || (q41.1 != w11)) || (q41.2.1 != at12)) || (decide (q38.1 < (0 : Int))))) rfl (by kernel_rfl) (by kernel_rfl) (by kernel_rfl) (by kernel_rfl) rfl rfl hf (by decide) rfl (fun w hp => ?_) ⟨_, hp⟩ ?_
                                    · obtain ⟨_, hp⟩ := hp
                                      refine st_pick (v := .bool (((((q38.2 != (0 : Int)) || (q41.2.2 != (0 : Int))) || (q41.1 != w11)) || (q41.2.1 != at12)) || (decide (q38.1 < (0 : Int))))) hf rfl rfl (fun hb' => absurd (hb50.symm.trans hb') (by decide)) (fun _ => by rw [show (((((q38.2 != (0 : Int)) || (q41.2.2 != (0 : Int))) || (q41.1 != w11)) || (q41.2.1 != at12)) || (decide (q38.1 < (0 : Int)))) = (decide (q38.1 < (0 : Int))) from by rw [hb50]; rfl]; rfl) (by decide) ?_
                                      clear hf; intro a ha hf
                                      exact st_nil hf (th_n ⟨ha, rfl⟩)
                                    clear hf; intro a hf
                                    refine dr_take 20 (.bool (((((q38.2 != (0 : Int)) || (q41.2.2 != (0 : Int))) || (q41.1 != w11)) || (q41.2.1 != at12)) || (decide (q38.1 < (0 : Int))))) rfl (by kernel_rfl) (by kernel_rfl) (by kernel_rfl) (by kernel_rfl) rfl rfl hf (by decide) rfl (fun w hp => ?_) ⟨_, hp⟩ ?_
                                    · obtain ⟨_, hp⟩ := hp
                                      refine st_move hf rfl rfl (by decide) ?_
                                      clear hf; intro a ha hf
                                      exact st_nil hf (th_n ⟨ha, rfl⟩)
                                    clear hf; intro a hf
                                    refine dr_take 21 (.int .i64 q38.1) rfl (by kernel_rfl) (by kernel_rfl) (by kernel_rfl) (by kernel_rfl) rfl rfl hf (by decide) (wantY hf rfl rfl hb52) (fun w hp => ?_) ⟨_, hp⟩ ?_
                                    · obtain ⟨_, hp⟩ := hp
                                      refine st_move hf (wantY hf rfl rfl hb52) rfl (by decide) ?_
                                      clear hf; intro a ha hf
                                      exact st_nil hf (th_n ⟨ha, rfl⟩)
                                    clear hf; intro a hf
                                    refine dr_take 22 (.string q3.1) rfl (by kernel_rfl) (by kernel_rfl) (by kernel_rfl) (by kernel_rfl) rfl rfl hf (by decide) (wantY hf rfl rfl hb52) (fun w hp => ?_) ⟨_, hp⟩ ?_
                                    · obtain ⟨_, hp⟩ := hp
                                      refine st_move hf (wantY hf rfl rfl hb52) rfl (by decide) ?_
                                      clear hf; intro a ha hf
                                      exact st_nil hf (th_n ⟨ha, rfl⟩)
                                    clear hf; intro a hf
                                    refine dr_take 23 (.int .i64 (q3.1.size : Int)) rfl (by kernel_rfl) (by kernel_rfl) (by kernel_rfl) (by kernel_rfl) rfl rfl hf (by decide) (wantY hf rfl rfl hb52) (fun w hp => ?_) ⟨_, hp⟩ ?_
                                    · obtain ⟨_, hp⟩ := hp
                                      refine st_slen hf (by decide) Try.underlying9 (wantY hf rfl rfl hb52) rfl ?_
                                      clear hf; intro a ha hf
                                      exact st_nil hf (th_n ⟨ha, rfl⟩)
                                    clear hf; intro a hf
                                    refine dr_take 24 (.bool (decide ((q3.1.size : Int) ≤ q38.1))) rfl (by kernel_rfl) (by kernel_rfl) (by kernel_rfl) (by kernel_rfl) rfl rfl hf (by decide) (wantY hf rfl rfl hb52) (fun w hp => ?_) ⟨_, hp⟩ ?_
                                    · obtain ⟨_, hp⟩ := hp
                                      refine st_igeq hf (by decide) (wantY hf rfl rfl hb52) rfl rfl ?_
                                      clear hf; intro a ha hf
                                      exact st_nil hf (th_n ⟨ha, rfl⟩)
                                    clear hf; intro a hf
                                    refine dr_take 25 (.bool ((((((q38.2 != (0 : Int)) || (q41.2.2 != (0 : Int))) || (q41.1 != w11)) || (q41.2.1 != at12)) || (decide (q38.1 < (0 : Int)))) || (decide ((q3.1.size : Int) ≤ q38.1)))) rfl (by kernel_rfl) (by kernel_rfl) (by kernel_rfl) (by kernel_rfl) rfl rfl hf (by decide) rfl (fun w hp => ?_) ⟨_, hp⟩ ?_
                                    · obtain ⟨_, hp⟩ := hp
                                      refine st_pick (v := .bool ((((((q38.2 != (0 : Int)) || (q41.2.2 != (0 : Int))) || (q41.1 != w11)) || (q41.2.1 != at12)) || (decide (q38.1 < (0 : Int)))) || (decide ((q3.1.size : Int) ≤ q38.1)))) hf rfl rfl (fun hb' => absurd (hb52.symm.trans hb') (by decide)) (fun _ => by rw [show ((((((q38.2 != (0 : Int)) || (q41.2.2 != (0 : Int))) || (q41.1 != w11)) || (q41.2.1 != at12)) || (decide (q38.1 < (0 : Int)))) || (decide ((q3.1.size : Int) ≤ q38.1))) = (decide ((q3.1.size : Int) ≤ q38.1)) from by rw [hb52]; rfl]; rfl) (by decide) ?_
                                      clear hf; intro a ha hf
                                      exact st_nil hf (th_n ⟨ha, rfl⟩)
                                    clear hf; intro a hf
                                    refine dr_take 26 (.bool ((((((q38.2 != (0 : Int)) || (q41.2.2 != (0 : Int))) || (q41.1 != w11)) || (q41.2.1 != at12)) || (decide (q38.1 < (0 : Int)))) || (decide ((q3.1.size : Int) ≤ q38.1)))) rfl (by kernel_rfl) (by kernel_rfl) (by kernel_rfl) (by kernel_rfl) rfl rfl hf (by decide) rfl (fun w hp => ?_) ⟨_, hp⟩ ?_
                                    · obtain ⟨_, hp⟩ := hp
                                      refine st_move hf rfl rfl (by decide) ?_
                                      clear hf; intro a ha hf
                                      exact st_nil hf (th_n ⟨ha, rfl⟩)
                                    clear hf; intro a hf
                                    refine dr_out 27 rfl (by kernel_rfl) (by kernel_rfl) (by kernel_rfl) (by kernel_rfl) rfl hf (by decide) rfl (wantN hf rfl rfl hb54) ⟨_, hp⟩ ?_
                                    clear hf; intro a hf
                                    refine dr_out 28 rfl (by kernel_rfl) (by kernel_rfl) (by kernel_rfl) (by kernel_rfl) rfl hf (by decide) rfl (wantN hf rfl rfl hb54) ⟨_, hp⟩ ?_
                                    clear hf; intro a hf
                                    refine dr_out 29 rfl (by kernel_rfl) (by kernel_rfl) (by kernel_rfl) (by kernel_rfl) rfl hf (by decide) rfl (wantN hf rfl rfl hb54) ⟨_, hp⟩ ?_
                                    clear hf; intro a hf
                                    refine dr_out 30 rfl (by kernel_rfl) (by kernel_rfl) (by kernel_rfl) (by kernel_rfl) rfl hf (by decide) rfl (wantN hf rfl rfl hb54) ⟨_, hp⟩ ?_
                                    clear hf; intro a hf
                                    refine dr_out 31 rfl (by kernel_rfl) (by kernel_rfl) (by kernel_rfl) (by kernel_rfl) rfl hf (by decide) rfl (wantN hf rfl rfl hb54) ⟨_, hp⟩ ?_
                                    clear hf; intro a hf
                                    refine dr_out 32 rfl (by kernel_rfl) (by kernel_rfl) (by kernel_rfl) (by kernel_rfl) rfl hf (by decide) rfl (wantN hf rfl rfl hb54) ⟨_, hp⟩ ?_
                                    clear hf; intro a hf
                                    refine dr_out 33 rfl (by kernel_rfl) (by kernel_rfl) (by kernel_rfl) (by kernel_rfl) rfl hf (by decide) rfl (wantN hf rfl rfl hb54) ⟨_, hp⟩ ?_
                                    clear hf; intro a hf
                                    refine dr_out 34 rfl (by kernel_rfl) (by kernel_rfl) (by kernel_rfl) (by kernel_rfl) rfl hf (by decide) rfl (wantN hf rfl rfl hb54) ⟨_, hp⟩ ?_
                                    clear hf; intro a hf
                                    refine dr_out 35 rfl (by kernel_rfl) (by kernel_rfl) (by kernel_rfl) (by kernel_rfl) rfl hf (by decide) rfl (wantN hf rfl rfl hb54) ⟨_, hp⟩ ?_
                                    clear hf; intro a hf
                                    refine dr_out 36 rfl (by kernel_rfl) (by kernel_rfl) (by kernel_rfl) (by kernel_rfl) rfl hf (by decide) rfl (wantN hf rfl rfl hb54) ⟨_, hp⟩ ?_
                                    clear hf; intro a hf
                                    refine dr_take 37 (.bool z58) rfl (by kernel_rfl) (by kernel_rfl) (by kernel_rfl) (by kernel_rfl) rfl rfl hf (by decide) rfl (fun w hp => ?_) ⟨_, hp⟩ ?_
                                    · obtain ⟨_, hp⟩ := hp
                                      refine st_pick (v := .bool z58) hf rfl rfl (fun _ => by rw [← hz53]; rfl) (fun hb' => absurd (hb54.symm.trans hb') (by decide)) (by decide) ?_
                                      clear hf; intro a ha hf
                                      exact st_nil hf (th_n ⟨ha, rfl⟩)
                                    clear hf; intro a hf
                                    refine dr_end (by kernel_rfl) ?_ _
                                    exact ⟨hf.sub ⟨rfl, rfl, rfl, rfl, rfl, rfl, rfl, trivial⟩, hp⟩
                                  · skip
                                    replace hz53 := ifF hz53 hb54
                                    obtain ⟨hc55, hz53⟩ := chk hz53
                                    obtain ⟨hc56, hz53⟩ := chk hz53
                                    obtain ⟨hc57, hz53⟩ := chk hz53
                                    replace hz53 := Option.some.inj hz53
                                    refine dr_begin' (fun a w => Fr 158 a [(0, vwords0), (1, .string s1), (2, .int .i64 count2), (7, .string q3.1), (11, .int .i64 w11), (12, .int .i64 at12), (134, .bool z58)] ∧ Hp S w0 w (ow)) (fun w' => ∃ l, Hp S w0 w' l) [] (by kernel_rfl) ?_
                                    refine dr_take 0 (.int .i64 q38.2) rfl (by kernel_rfl) (by kernel_rfl) (by kernel_rfl) (by kernel_rfl) rfl rfl hf (by decide) rfl (fun w hp => ?_) ⟨_, hp⟩ ?_
                                    · obtain ⟨_, hp⟩ := hp
                                      refine st_move hf rfl rfl (by decide) ?_
                                      clear hf; intro a ha hf
                                      exact st_nil hf (th_n ⟨ha, rfl⟩)
                                    clear hf; intro a hf
                                    refine dr_take 1 (.bool (q38.2 != (0 : Int))) rfl (by kernel_rfl) (by kernel_rfl) (by kernel_rfl) (by kernel_rfl) rfl rfl hf (by decide) rfl (fun w hp => ?_) ⟨_, hp⟩ ?_
                                    · obtain ⟨_, hp⟩ := hp
                                      refine st_ineq hf (by decide) rfl rfl rfl ?_
                                      clear hf; intro a ha hf
                                      exact st_nil hf (th_n ⟨ha, rfl⟩)
                                    clear hf; intro a hf
                                    refine dr_take 2 (.bool (q38.2 != (0 : Int))) rfl (by kernel_rfl) (by kernel_rfl) (by kernel_rfl) (by kernel_rfl) rfl rfl hf (by decide) rfl (fun w hp => ?_) ⟨_, hp⟩ ?_
                                    · obtain ⟨_, hp⟩ := hp
                                      refine st_move hf rfl rfl (by decide) ?_
                                      clear hf; intro a ha hf
                                      exact st_nil hf (th_n ⟨ha, rfl⟩)
                                    clear hf; intro a hf
                                    refine dr_take 3 (.int .i64 q41.2.2) rfl (by kernel_rfl) (by kernel_rfl) (by kernel_rfl) (by kernel_rfl) rfl rfl hf (by decide) (wantY hf rfl rfl hb44) (fun w hp => ?_) ⟨_, hp⟩ ?_
                                    · obtain ⟨_, hp⟩ := hp
                                      refine st_move hf (wantY hf rfl rfl hb44) rfl (by decide) ?_
                                      clear hf; intro a ha hf
                                      exact st_nil hf (th_n ⟨ha, rfl⟩)
                                    clear hf; intro a hf
                                    refine dr_take 4 (.bool (q41.2.2 != (0 : Int))) rfl (by kernel_rfl) (by kernel_rfl) (by kernel_rfl) (by kernel_rfl) rfl rfl hf (by decide) (wantY hf rfl rfl hb44) (fun w hp => ?_) ⟨_, hp⟩ ?_
                                    · obtain ⟨_, hp⟩ := hp
                                      refine st_ineq hf (by decide) (wantY hf rfl rfl hb44) rfl rfl ?_
                                      clear hf; intro a ha hf
                                      exact st_nil hf (th_n ⟨ha, rfl⟩)
                                    clear hf; intro a hf
                                    refine dr_take 5 (.bool ((q38.2 != (0 : Int)) || (q41.2.2 != (0 : Int)))) rfl (by kernel_rfl) (by kernel_rfl) (by kernel_rfl) (by kernel_rfl) rfl rfl hf (by decide) rfl (fun w hp => ?_) ⟨_, hp⟩ ?_
                                    · obtain ⟨_, hp⟩ := hp
                                      refine st_pick (v := .bool ((q38.2 != (0 : Int)) || (q41.2.2 != (0 : Int)))) hf rfl rfl (fun hb' => absurd (hb44.symm.trans hb') (by decide)) (fun _ => by rw [show ((q38.2 != (0 : Int)) || (q41.2.2 != (0 : Int))) = (q41.2.2 != (0 : Int)) from by rw [hb44]; rfl]; rfl) (by decide) ?_
                                      clear hf; intro a ha hf
                                      exact st_nil hf (th_n ⟨ha, rfl⟩)
                                    clear hf; intro a hf
                                    refine dr_take 6 (.bool ((q38.2 != (0 : Int)) || (q41.2.2 != (0 : Int)))) rfl (by kernel_rfl) (by kernel_rfl) (by kernel_rfl) (by kernel_rfl) rfl rfl hf (by decide) rfl (fun w hp => ?_) ⟨_, hp⟩ ?_
                                    · obtain ⟨_, hp⟩ := hp
                                      refine st_move hf rfl rfl (by decide) ?_
                                      clear hf; intro a ha hf
                                      exact st_nil hf (th_n ⟨ha, rfl⟩)
                                    clear hf; intro a hf
                                    refine dr_take 7 (.int .i64 q41.1) rfl (by kernel_rfl) (by kernel_rfl) (by kernel_rfl) (by kernel_rfl) rfl rfl hf (by decide) (wantY hf rfl rfl hb46) (fun w hp => ?_) ⟨_, hp⟩ ?_
                                    · obtain ⟨_, hp⟩ := hp
                                      refine st_move hf (wantY hf rfl rfl hb46) rfl (by decide) ?_
                                      clear hf; intro a ha hf
                                      exact st_nil hf (th_n ⟨ha, rfl⟩)
                                    clear hf; intro a hf
                                    refine dr_take 8 (.int .i64 w11) rfl (by kernel_rfl) (by kernel_rfl) (by kernel_rfl) (by kernel_rfl) rfl rfl hf (by decide) (wantY hf rfl rfl hb46) (fun w hp => ?_) ⟨_, hp⟩ ?_
                                    · obtain ⟨_, hp⟩ := hp
                                      refine st_move hf (wantY hf rfl rfl hb46) rfl (by decide) ?_
                                      clear hf; intro a ha hf
                                      exact st_nil hf (th_n ⟨ha, rfl⟩)
                                    clear hf; intro a hf
                                    refine dr_take 9 (.bool (q41.1 != w11)) rfl (by kernel_rfl) (by kernel_rfl) (by kernel_rfl) (by kernel_rfl) rfl rfl hf (by decide) (wantY hf rfl rfl hb46) (fun w hp => ?_) ⟨_, hp⟩ ?_
                                    · obtain ⟨_, hp⟩ := hp
                                      refine st_ineq hf (by decide) (wantY hf rfl rfl hb46) rfl rfl ?_
                                      clear hf; intro a ha hf
                                      exact st_nil hf (th_n ⟨ha, rfl⟩)
                                    clear hf; intro a hf
                                    refine dr_take 10 (.bool (((q38.2 != (0 : Int)) || (q41.2.2 != (0 : Int))) || (q41.1 != w11))) rfl (by kernel_rfl) (by kernel_rfl) (by kernel_rfl) (by kernel_rfl) rfl rfl hf (by decide) rfl (fun w hp => ?_) ⟨_, hp⟩ ?_
                                    · obtain ⟨_, hp⟩ := hp
                                      refine st_pick (v := .bool (((q38.2 != (0 : Int)) || (q41.2.2 != (0 : Int))) || (q41.1 != w11))) hf rfl rfl (fun hb' => absurd (hb46.symm.trans hb') (by decide)) (fun _ => by rw [show (((q38.2 != (0 : Int)) || (q41.2.2 != (0 : Int))) || (q41.1 != w11)) = (q41.1 != w11) from by rw [hb46]; rfl]; rfl) (by decide) ?_
                                      clear hf; intro a ha hf
                                      exact st_nil hf (th_n ⟨ha, rfl⟩)
                                    clear hf; intro a hf
                                    refine dr_take 11 (.bool (((q38.2 != (0 : Int)) || (q41.2.2 != (0 : Int))) || (q41.1 != w11))) rfl (by kernel_rfl) (by kernel_rfl) (by kernel_rfl) (by kernel_rfl) rfl rfl hf (by decide) rfl (fun w hp => ?_) ⟨_, hp⟩ ?_
                                    · obtain ⟨_, hp⟩ := hp
                                      refine st_move hf rfl rfl (by decide) ?_
                                      clear hf; intro a ha hf
                                      exact st_nil hf (th_n ⟨ha, rfl⟩)
                                    clear hf; intro a hf
                                    refine dr_take 12 (.int .i64 q41.2.1) rfl (by kernel_rfl) (by kernel_rfl) (by kernel_rfl) (by kernel_rfl) rfl rfl hf (by decide) (wantY hf rfl rfl hb48) (fun w hp => ?_) ⟨_, hp⟩ ?_
                                    · obtain ⟨_, hp⟩ := hp
                                      refine st_move hf (wantY hf rfl rfl hb48) rfl (by decide) ?_
                                      clear hf; intro a ha hf
                                      exact st_nil hf (th_n ⟨ha, rfl⟩)
                                    clear hf; intro a hf
                                    refine dr_take 13 (.int .i64 at12) rfl (by kernel_rfl) (by kernel_rfl) (by kernel_rfl) (by kernel_rfl) rfl rfl hf (by decide) (wantY hf rfl rfl hb48) (fun w hp => ?_) ⟨_, hp⟩ ?_
                                    · obtain ⟨_, hp⟩ := hp
                                      refine st_move hf (wantY hf rfl rfl hb48) rfl (by decide) ?_
                                      clear hf; intro a ha hf
                                      exact st_nil hf (th_n ⟨ha, rfl⟩)
                                    clear hf; intro a hf
                                    refine dr_take 14 (.bool (q41.2.1 != at12)) rfl (by kernel_rfl) (by kernel_rfl) (by kernel_rfl) (by kernel_rfl) rfl rfl hf (by decide) (wantY hf rfl rfl hb48) (fun w hp => ?_) ⟨_, hp⟩ ?_
                                    · obtain ⟨_, hp⟩ := hp
                                      refine st_ineq hf (by decide) (wantY hf rfl rfl hb48) rfl rfl ?_
                                      clear hf; intro a ha hf
                                      exact st_nil hf (th_n ⟨ha, rfl⟩)
                                    clear hf; intro a hf
                                    refine dr_take 15 (.bool ((((q38.2 != (0 : Int)) || (q41.2.2 != (0 : Int))) || (q41.1 != w11)) || (q41.2.1 != at12))) rfl (by kernel_rfl) (by kernel_rfl) (by kernel_rfl) (by kernel_rfl) rfl rfl hf (by decide) rfl (fun w hp => ?_) ⟨_, hp⟩ ?_
                                    · obtain ⟨_, hp⟩ := hp
                                      refine st_pick (v := .bool ((((q38.2 != (0 : Int)) || (q41.2.2 != (0 : Int))) || (q41.1 != w11)) || (q41.2.1 != at12))) hf rfl rfl (fun hb' => absurd (hb48.symm.trans hb') (by decide)) (fun _ => by rw [show ((((q38.2 != (0 : Int)) || (q41.2.2 != (0 : Int))) || (q41.1 != w11)) || (q41.2.1 != at12)) = (q41.2.1 != at12) from by rw [hb48]; rfl]; rfl) (by decide) ?_
                                      clear hf; intro a ha hf
                                      exact st_nil hf (th_n ⟨ha, rfl⟩)
                                    clear hf; intro a hf
                                    refine dr_take 16 (.bool ((((q38.2 != (0 : Int)) || (q41.2.2 != (0 : Int))) || (q41.1 != w11)) || (q41.2.1 != at12))) rfl (by kernel_rfl) (by kernel_rfl) (by kernel_rfl) (by kernel_rfl) rfl rfl hf (by decide) rfl (fun w hp => ?_) ⟨_, hp⟩ ?_
                                    · obtain ⟨_, hp⟩ := hp
                                      refine st_move hf rfl rfl (by decide) ?_
                                      clear hf; intro a ha hf
                                      exact st_nil hf (th_n ⟨ha, rfl⟩)
                                    clear hf; intro a hf
                                    refine dr_take 17 (.int .i64 q38.1) rfl (by kernel_rfl) (by kernel_rfl) (by kernel_rfl) (by kernel_rfl) rfl rfl hf (by decide) (wantY hf rfl rfl hb50) (fun w hp => ?_) ⟨_, hp⟩ ?_
                                    · obtain ⟨_, hp⟩ := hp
                                      refine st_move hf (wantY hf rfl rfl hb50) rfl (by decide) ?_
                                      clear hf; intro a ha hf
                                      exact st_nil hf (th_n ⟨ha, rfl⟩)
                                    clear hf; intro a hf
                                    refine dr_take 18 (.bool (decide (q38.1 < (0 : Int)))) rfl (by kernel_rfl) (by kernel_rfl) (by kernel_rfl) (by kernel_rfl) rfl rfl hf (by decide) (wantY hf rfl rfl hb50) (fun w hp => ?_) ⟨_, hp⟩ ?_
                                    · obtain ⟨_, hp⟩ := hp
                                      refine st_ilss hf (by decide) (wantY hf rfl rfl hb50) rfl rfl ?_
                                      clear hf; intro a ha hf
                                      exact st_nil hf (th_n ⟨ha, rfl⟩)
                                    clear hf; intro a hf
                                    refine dr_take 19 (.bool (((((q38.2 != (0 : Int)) || (q41.2.2 != (0 : Int))) || (q41.1 != w11)) || (q41.2.1 != at12)) || (decide (q38.1 < (0 : Int))))) rfl (by kernel_rfl) (by kernel_rfl) (by kernel_rfl) (by kernel_rfl) rfl rfl hf (by decide) rfl (fun w hp => ?_) ⟨_, hp⟩ ?_
                                    · obtain ⟨_, hp⟩ := hp
                                      refine st_pick (v := .bool (((((q38.2 != (0 : Int)) || (q41.2.2 != (0 : Int))) || (q41.1 != w11)) || (q41.2.1 != at12)) || (decide (q38.1 < (0 : Int))))) hf rfl rfl (fun hb' => absurd (hb50.symm.trans hb') (by decide)) (fun _ => by rw [show (((((q38.2 != (0 : Int)) || (q41.2.2 != (0 : Int))) || (q41.1 != w11)) || (q41.2.1 != at12)) || (decide (q38.1 < (0 : Int)))) = (decide (q38.1 < (0 : Int))) from by rw [hb50]; rfl]; rfl) (by decide) ?_
                                      clear hf; intro a ha hf
                                      exact st_nil hf (th_n ⟨ha, rfl⟩)
                                    clear hf; intro a hf
                                    refine dr_take 20 (.bool (((((q38.2 != (0 : Int)) || (q41.2.2 != (0 : Int))) || (q41.1 != w11)) || (q41.2.1 != at12)) || (decide (q38.1 < (0 : Int))))) rfl (by kernel_rfl) (by kernel_rfl) (by kernel_rfl) (by kernel_rfl) rfl rfl hf (by decide) rfl (fun w hp => ?_) ⟨_, hp⟩ ?_
                                    · obtain ⟨_, hp⟩ := hp
                                      refine st_move hf rfl rfl (by decide) ?_
                                      clear hf; intro a ha hf
                                      exact st_nil hf (th_n ⟨ha, rfl⟩)
                                    clear hf; intro a hf
                                    refine dr_take 21 (.int .i64 q38.1) rfl (by kernel_rfl) (by kernel_rfl) (by kernel_rfl) (by kernel_rfl) rfl rfl hf (by decide) (wantY hf rfl rfl hb52) (fun w hp => ?_) ⟨_, hp⟩ ?_
                                    · obtain ⟨_, hp⟩ := hp
                                      refine st_move hf (wantY hf rfl rfl hb52) rfl (by decide) ?_
                                      clear hf; intro a ha hf
                                      exact st_nil hf (th_n ⟨ha, rfl⟩)
                                    clear hf; intro a hf
                                    refine dr_take 22 (.string q3.1) rfl (by kernel_rfl) (by kernel_rfl) (by kernel_rfl) (by kernel_rfl) rfl rfl hf (by decide) (wantY hf rfl rfl hb52) (fun w hp => ?_) ⟨_, hp⟩ ?_
                                    · obtain ⟨_, hp⟩ := hp
                                      refine st_move hf (wantY hf rfl rfl hb52) rfl (by decide) ?_
                                      clear hf; intro a ha hf
                                      exact st_nil hf (th_n ⟨ha, rfl⟩)
                                    clear hf; intro a hf
                                    refine dr_take 23 (.int .i64 (q3.1.size : Int)) rfl (by kernel_rfl) (by kernel_rfl) (by kernel_rfl) (by kernel_rfl) rfl rfl hf (by decide) (wantY hf rfl rfl hb52) (fun w hp => ?_) ⟨_, hp⟩ ?_
                                    · obtain ⟨_, hp⟩ := hp
                                      refine st_slen hf (by decide) Try.underlying9 (wantY hf rfl rfl hb52) rfl ?_
                                      clear hf; intro a ha hf
                                      exact st_nil hf (th_n ⟨ha, rfl⟩)
                                    clear hf; intro a hf
                                    refine dr_take 24 (.bool (decide ((q3.1.size : Int) ≤ q38.1))) rfl (by kernel_rfl) (by kernel_rfl) (by kernel_rfl) (by kernel_rfl) rfl rfl hf (by decide) (wantY hf rfl rfl hb52) (fun w hp => ?_) ⟨_, hp⟩ ?_
                                    · obtain ⟨_, hp⟩ := hp
                                      refine st_igeq hf (by decide) (wantY hf rfl rfl hb52) rfl rfl ?_
                                      clear hf; intro a ha hf
                                      exact st_nil hf (th_n ⟨ha, rfl⟩)
                                    clear hf; intro a hf
                                    refine dr_take 25 (.bool ((((((q38.2 != (0 : Int)) || (q41.2.2 != (0 : Int))) || (q41.1 != w11)) || (q41.2.1 != at12)) || (decide (q38.1 < (0 : Int)))) || (decide ((q3.1.size : Int) ≤ q38.1)))) rfl (by kernel_rfl) (by kernel_rfl) (by kernel_rfl) (by kernel_rfl) rfl rfl hf (by decide) rfl (fun w hp => ?_) ⟨_, hp⟩ ?_
                                    · obtain ⟨_, hp⟩ := hp
                                      refine st_pick (v := .bool ((((((q38.2 != (0 : Int)) || (q41.2.2 != (0 : Int))) || (q41.1 != w11)) || (q41.2.1 != at12)) || (decide (q38.1 < (0 : Int)))) || (decide ((q3.1.size : Int) ≤ q38.1)))) hf rfl rfl (fun hb' => absurd (hb52.symm.trans hb') (by decide)) (fun _ => by rw [show ((((((q38.2 != (0 : Int)) || (q41.2.2 != (0 : Int))) || (q41.1 != w11)) || (q41.2.1 != at12)) || (decide (q38.1 < (0 : Int)))) || (decide ((q3.1.size : Int) ≤ q38.1))) = (decide ((q3.1.size : Int) ≤ q38.1)) from by rw [hb52]; rfl]; rfl) (by decide) ?_
                                      clear hf; intro a ha hf
                                      exact st_nil hf (th_n ⟨ha, rfl⟩)
                                    clear hf; intro a hf
                                    refine dr_take 26 (.bool ((((((q38.2 != (0 : Int)) || (q41.2.2 != (0 : Int))) || (q41.1 != w11)) || (q41.2.1 != at12)) || (decide (q38.1 < (0 : Int)))) || (decide ((q3.1.size : Int) ≤ q38.1)))) rfl (by kernel_rfl) (by kernel_rfl) (by kernel_rfl) (by kernel_rfl) rfl rfl hf (by decide) rfl (fun w hp => ?_) ⟨_, hp⟩ ?_
                                    · obtain ⟨_, hp⟩ := hp
                                      refine st_move hf rfl rfl (by decide) ?_
                                      clear hf; intro a ha hf
                                      exact st_nil hf (th_n ⟨ha, rfl⟩)
                                    clear hf; intro a hf
                                    refine dr_take 27 (.string q3.1) rfl (by kernel_rfl) (by kernel_rfl) (by kernel_rfl) (by kernel_rfl) rfl rfl hf (by decide) (wantY hf rfl rfl hb54) (fun w hp => ?_) ⟨_, hp⟩ ?_
                                    · obtain ⟨_, hp⟩ := hp
                                      refine st_move hf (wantY hf rfl rfl hb54) rfl (by decide) ?_
                                      clear hf; intro a ha hf
                                      exact st_nil hf (th_n ⟨ha, rfl⟩)
                                    clear hf; intro a hf
                                    refine dr_take 28 (.int .i64 q38.1) rfl (by kernel_rfl) (by kernel_rfl) (by kernel_rfl) (by kernel_rfl) rfl rfl hf (by decide) (wantY hf rfl rfl hb54) (fun w hp => ?_) ⟨_, hp⟩ ?_
                                    · obtain ⟨_, hp⟩ := hp
                                      refine st_move hf (wantY hf rfl rfl hb54) rfl (by decide) ?_
                                      clear hf; intro a ha hf
                                      exact st_nil hf (th_n ⟨ha, rfl⟩)
                                    clear hf; intro a hf
                                    refine dr_take 29 (.int .u8 (bt q3.1 q38.1)) rfl (by kernel_rfl) (by kernel_rfl) (by kernel_rfl) (by kernel_rfl) rfl rfl hf (by decide) (wantY hf rfl rfl hb54) (fun w hp => ?_) ⟨_, hp⟩ ?_
                                    · obtain ⟨_, hp⟩ := hp
                                      refine st_sidx hf (by decide) Try.underlying9 (wantY hf rfl rfl hb54) rfl rfl hc55.1 hc55.2 ?_
                                      clear hf; intro a ha hf
                                      exact st_nil hf (th_n ⟨ha, rfl⟩)
                                    clear hf; intro a hf
                                    refine dr_take 30 (vwords0) rfl (by kernel_rfl) (by kernel_rfl) (by kernel_rfl) (by kernel_rfl) rfl rfl hf (by decide) (wantY hf rfl rfl hb54) (fun w hp => ?_) ⟨_, hp⟩ ?_
                                    · obtain ⟨_, hp⟩ := hp
                                      refine st_move hf (wantY hf rfl rfl hb54) rfl (by decide) ?_
                                      clear hf; intro a ha hf
                                      exact st_nil hf (th_n ⟨ha, rfl⟩)
                                    clear hf; intro a hf
                                    refine dr_take 31 (.int .i64 w11) rfl (by kernel_rfl) (by kernel_rfl) (by kernel_rfl) (by kernel_rfl) rfl rfl hf (by decide) (wantY hf rfl rfl hb54) (fun w hp => ?_) ⟨_, hp⟩ ?_
                                    · obtain ⟨_, hp⟩ := hp
                                      refine st_move hf (wantY hf rfl rfl hb54) rfl (by decide) ?_
                                      clear hf; intro a ha hf
                                      exact st_nil hf (th_n ⟨ha, rfl⟩)
                                    clear hf; intro a hf
                                    refine dr_take 32 (eptr vwords0 w11 1) rfl (by kernel_rfl) (by kernel_rfl) (by kernel_rfl) (by kernel_rfl) rfl rfl hf (by decide) (wantY hf rfl rfl hb54) (fun w hp => ?_) ⟨_, hp⟩ ?_
                                    · obtain ⟨_, hp⟩ := hp
                                      refine st_index (E := Ek.str) hf (by decide) Try.underlying37 elt9 (wantY hf rfl rfl hb54) rfl rfl (hwords0.sl hp) hc56.1 hc56.2 ?_
                                      clear hf; intro a ha hf
                                      exact st_nil hf (th_n ⟨ha, rfl⟩)
                                    clear hf; intro a hf
                                    refine dr_take 33 (.string (gt words0 w11)) rfl (by kernel_rfl) (by kernel_rfl) (by kernel_rfl) (by kernel_rfl) rfl rfl hf (by decide) (wantY hf rfl rfl hb54) (fun w hp => ?_) ⟨_, hp⟩ ?_
                                    · obtain ⟨_, hp⟩ := hp
                                      refine st_ldS hf (by decide) pl9 (wantY hf rfl rfl hb54) rfl (hwords0.sl hp) hc56.1 hc56.2 ?_
                                      clear hf; intro a ha hf
                                      exact st_nil hf (th_n ⟨ha, rfl⟩)
                                    clear hf; intro a hf
                                    refine dr_take 34 (.int .i64 at12) rfl (by kernel_rfl) (by kernel_rfl) (by kernel_rfl) (by kernel_rfl) rfl rfl hf (by decide) (wantY hf rfl rfl hb54) (fun w hp => ?_) ⟨_, hp⟩ ?_
                                    · obtain ⟨_, hp⟩ := hp
                                      refine st_move hf (wantY hf rfl rfl hb54) rfl (by decide) ?_
                                      clear hf; intro a ha hf
                                      exact st_nil hf (th_n ⟨ha, rfl⟩)
                                    clear hf; intro a hf
                                    refine dr_take 35 (.int .u8 (bt (gt words0 w11) at12)) rfl (by kernel_rfl) (by kernel_rfl) (by kernel_rfl) (by kernel_rfl) rfl rfl hf (by decide) (wantY hf rfl rfl hb54) (fun w hp => ?_) ⟨_, hp⟩ ?_
                                    · obtain ⟨_, hp⟩ := hp
                                      refine st_sidx hf (by decide) Try.underlying9 (wantY hf rfl rfl hb54) rfl rfl hc57.1 hc57.2 ?_
                                      clear hf; intro a ha hf
                                      exact st_nil hf (th_n ⟨ha, rfl⟩)
                                    clear hf; intro a hf
                                    refine dr_take 36 (.bool ((bt q3.1 q38.1) != (bt (gt words0 w11) at12))) rfl (by kernel_rfl) (by kernel_rfl) (by kernel_rfl) (by kernel_rfl) rfl rfl hf (by decide) (wantY hf rfl rfl hb54) (fun w hp => ?_) ⟨_, hp⟩ ?_
                                    · obtain ⟨_, hp⟩ := hp
                                      refine st_ineq hf (by decide) (wantY hf rfl rfl hb54) rfl rfl ?_
                                      clear hf; intro a ha hf
                                      exact st_nil hf (th_n ⟨ha, rfl⟩)
                                    clear hf; intro a hf
                                    refine dr_take 37 (.bool z58) rfl (by kernel_rfl) (by kernel_rfl) (by kernel_rfl) (by kernel_rfl) rfl rfl hf (by decide) rfl (fun w hp => ?_) ⟨_, hp⟩ ?_
                                    · obtain ⟨_, hp⟩ := hp
                                      refine st_pick (v := .bool z58) hf rfl rfl (fun hb' => absurd (hb54.symm.trans hb') (by decide)) (fun _ => by rw [← hz53]; rfl) (by decide) ?_
                                      clear hf; intro a ha hf
                                      exact st_nil hf (th_n ⟨ha, rfl⟩)
                                    clear hf; intro a hf
                                    refine dr_end (by kernel_rfl) ?_ _
                                    exact ⟨hf.sub ⟨rfl, rfl, rfl, rfl, rfl, rfl, rfl, trivial⟩, hp⟩
                      · rintro a w ⟨hf, hp⟩
                        refine th_n ?_
                        refine wp_if hf rfl (fun hb => ?_) (fun hb => ?_)
                        · replace h := ifT h hb
                          refine wp_seq ?_
                          refine wp_reg ?_
                          refine st_assign hf rfl rfl (by decide) ?_
                          clear hf; intro a ha hf; clear ha
                          refine st_nil hf ?_
                          refine th_n ?_
                          refine wp_ret ?_
                          refine ib_r ?_
                          refine th_r ?_
                          obtain rfl := Option.some.inj h
                          exact rnd_r (by simp) ⟨rfl, ⟨hf.sub ⟨rfl, trivial⟩, hp⟩⟩
                        · replace h := ifF h hb
                          refine wp_skip ?_
                          refine ib_n ?_
                          refine th_n ?_
                          refine wp_reg ?_
                          refine st_move hf rfl rfl (by decide) ?_
                          clear hf; intro a ha hf; clear ha
                          refine st_iadd hf (by decide) rfl rfl rfl ?_
                          clear hf; intro a ha hf; clear ha
                          refine st_assign hf rfl rfl (by decide) ?_
                          clear hf; intro a ha hf; clear ha
                          refine st_nil hf ?_
                          obtain rfl := Option.some.inj h
                          exact rnd_l ⟨hf.sub ⟨rfl, rfl, rfl, rfl, rfl, rfl, trivial⟩, hp⟩
                    · replace h := ifF h hb
                      refine wp_exit ?_
                      refine th_e ?_
                      obtain rfl := Option.some.inj h
                      exact rnd_r (by simp) ⟨rfl, hf.sub ⟨rfl, rfl, rfl, rfl, rfl, trivial⟩, hp⟩
                  · clear hl hf hp
                    intro e a w hne hO
                    cases q59 with
                    | inl q60 =>
                      replace h := smL h
                      obtain ⟨rfl, hf, hp⟩ := hO
                      refine ib_same ?_
                      refine ib_n ?_
                      refine th_n ?_
                      refine wp_reg ?_
                      refine st_move hf rfl rfl (by decide) ?_
                      clear hf; intro a ha hf; clear ha
                      refine st_iadd hf (by decide) rfl rfl rfl ?_
                      clear hf; intro a ha hf; clear ha
                      refine st_assign hf rfl rfl (by decide) ?_
                      clear hf; intro a ha hf; clear ha
                      refine st_nil hf ?_
                      obtain rfl := Option.some.inj h
                      exact rnd_l ⟨hf.sub ⟨rfl, rfl, rfl, rfl, rfl, trivial⟩, hp⟩
                    | inr q61 =>
                      replace h := smR h
                      obtain ⟨rfl, hf, hp⟩ := hO
                      refine ib_r ?_
                      refine ib_r ?_
                      refine th_r ?_
                      obtain rfl := Option.some.inj h
                      exact rnd_r (by simp) ⟨rfl, ⟨hf.sub ⟨rfl, trivial⟩, hp⟩⟩
                · replace h := ifF h hb
                  refine wp_exit ?_
                  refine th_e ?_
                  obtain rfl := Option.some.inj h
                  exact rnd_r (by simp) ⟨rfl, hf.sub ⟨rfl, rfl, trivial⟩, hp⟩
              · clear hl hf hp
                intro e a w hne hO
                cases q62 with
                | inl q63 =>
                  replace h := smL h
                  obtain ⟨rfl, hf, hp⟩ := hO
                  refine ib_same ?_
                  refine th_n ?_
                  exact ⟨h, hf.sub ⟨rfl, rfl, trivial⟩, hp⟩
                | inr q64 =>
                  replace h := smR h
                  obtain ⟨rfl, hf, hp⟩ := hO
                  refine ib_r ?_
                  refine th_r ?_
                  obtain rfl := Option.some.inj h
                  exact ⟨rfl, ⟨hf.sub ⟨rfl, trivial⟩, hp⟩⟩
      · replace h := ifF h hb
        refine wp_skip ?_
        refine th_n ?_
        exact ⟨h, hf.sub ⟨rfl, rfl, trivial⟩, hp⟩
    · rintro a w ⟨h, hf, hp⟩
      unfold f_foghornlaw17_WeaveBack.j1 at h
      refine wp_seq ?_
      refine wp_reg ?_
      refine st_move hf rfl rfl (by decide) ?_
      clear hf; intro a ha hf; clear ha
      refine st_move hf rfl rfl (by decide) ?_
      clear hf; intro a ha hf; clear ha
      obtain ⟨q5, hcall6, h⟩ := bnd h
      refine st_call hf (by decide) Try.func26 rfl rfl rfl rfl rfl (f_weave_Out_c hp _ _ hcall6) ?_
      rintro _ w ⟨v7, rfl, hp0⟩
      clear hp; have hp := hp0; clear hp0
      replace hp : Hp _ _ _ (Res.sl Ek.str 9 v7 q5.1 :: ow) := hp
      refine ⟨_, rfl, ?_⟩
      clear hf; intro a hf
      refine st_move hf rfl rfl (by decide) ?_
      clear hf; intro a ha hf; clear ha
      refine st_extract hf (by decide) rfl rfl rfl ?_
      clear hf; intro a ha hf; clear ha
      refine st_extract hf (by decide) rfl rfl rfl ?_
      clear hf; intro a ha hf; clear ha
      refine st_assign hf rfl rfl (by decide) ?_
      clear hf; intro a ha hf; clear ha
      refine st_assign hf rfl rfl (by decide) ?_
      clear hf; intro a ha hf; clear ha
      refine st_nil hf ?_
      refine th_n ?_
      refine wp_seq ?_
      refine wp_seq ?_
      refine wp_reg ?_
      refine st_move hf rfl rfl (by decide) ?_
      clear hf; intro a ha hf; clear ha
      refine st_ineq hf (by decide) rfl rfl rfl ?_
      clear hf; intro a ha hf; clear ha
      refine st_nil hf ?_
      refine th_n ?_
      refine wp_if hf rfl (fun hb => ?_) (fun hb => ?_)
      · replace h := ifT h hb
        refine wp_seq ?_
        refine wp_reg ?_
        refine st_move hf rfl rfl (by decide) ?_
        clear hf; intro a ha hf; clear ha
        refine st_len (E := Ek.str) hf (by decide) Try.underlying37 rfl rfl (hp.sl (i := 0) rfl) ?_
        clear hf; intro a ha hf; clear ha
        refine st_ieql hf (by decide) rfl rfl rfl ?_
        clear hf; intro a ha hf; clear ha
        refine st_assign hf rfl rfl (by decide) ?_
        clear hf; intro a ha hf; clear ha
        refine st_nil hf ?_
        refine th_n ?_
        refine wp_ret ?_
        refine th_r ?_
        obtain rfl := Option.some.inj h
        have hp : Hp _ _ _ (ow) := Hp.sel (pre := [Res.sl Ek.str 9 v7 q5.1]) (tail := ow) (rs' := []) hp [] (by decide) (by simp) rfl
        exact ⟨rfl, ⟨hf.sub ⟨rfl, trivial⟩, hp⟩⟩
      · replace h := ifF h hb
        refine wp_skip ?_
        refine th_n ?_
        refine wp_seq ?_
        refine wp_reg ?_
        refine st_move hf rfl rfl (by decide) ?_
        clear hf; intro a ha hf; clear ha
        obtain ⟨q9, hcall10, h⟩ := bnd h
        obtain ⟨S11, hp12, rd13, up14, bk15⟩ := Hp.lendS hp (i := 0) rfl
        refine st_call hf (by decide) Try.func23 rfl rfl rfl rfl rfl (f_weave_In_c hp12 _ _ rd13 hcall10) ?_
        rintro _ w ⟨rfl, hp0⟩
        have hp0 := bk15 _ _ hp0
        clear hp; have hp := hp0; clear hp0
        replace hp : Hp _ _ _ (Res.sl Ek.str 9 v7 q5.1 :: ow) := hp
        refine ⟨_, rfl, ?_⟩
        clear hf; intro a hf
        refine st_move hf rfl rfl (by decide) ?_
        clear hf; intro a ha hf; clear ha
        refine st_extract hf (by decide) rfl rfl rfl ?_
        clear hf; intro a ha hf; clear ha
        refine st_extract hf (by decide) rfl rfl rfl ?_
        clear hf; intro a ha hf; clear ha
        refine st_assign hf rfl rfl (by decide) ?_
        clear hf; intro a ha hf; clear ha
        refine st_assign hf rfl rfl (by decide) ?_
        clear hf; intro a ha hf; clear ha
        refine st_nil hf ?_
        refine th_n ?_
        refine wp_seq ?_
        refine wp_reg ?_
        refine st_move hf rfl rfl (by decide) ?_
        clear hf; intro a ha hf; clear ha
        refine st_ieql hf (by decide) rfl rfl rfl ?_
        clear hf; intro a ha hf; clear ha
        refine st_move hf rfl rfl (by decide) ?_
        clear hf; intro a ha hf; clear ha
        refine wpList_cut 4 (fun a w => Fr 158 a [(157, .bool ((q9.2 == (0 : Int)) && (seq q9.1 s1)))] ∧ Hp S w0 w (Res.sl Ek.str 9 v7 q5.1 :: ow)) ?_ ?_
        · rcases Bool.eq_false_or_eq_true (q9.2 == (0 : Int)) with hb17 | hb17
          · skip
            refine st_move hf (wantY hf rfl rfl hb17) rfl (by decide) ?_
            clear hf; intro a ha hf; clear ha
            refine st_move hf (wantY hf rfl rfl hb17) rfl (by decide) ?_
            clear hf; intro a ha hf; clear ha
            refine st_seql hf (by decide) (wantY hf rfl rfl hb17) rfl rfl ?_
            clear hf; intro a ha hf; clear ha
            refine st_pick (v := .bool (seq q9.1 s1)) hf rfl rfl (fun hb' => ?_) (fun hb' => ?_) (by decide) ?_
            · rfl
            · exact absurd (hb17.symm.trans hb') (by decide)
            clear hf; intro a ha hf; clear ha
            refine st_nil hf (th_n ?_)
            exact ⟨hf.sub ⟨(by rw [hb17]; rfl), trivial⟩, hp⟩
          · skip
            refine st_skip hf (wantN hf rfl rfl hb17) rfl (by decide) ?_ rfl
            clear hf; intro a hf
            refine st_skip hf (wantN hf rfl rfl hb17) rfl (by decide) ?_ rfl
            clear hf; intro a hf
            refine st_skip hf (wantN hf rfl rfl hb17) rfl (by decide) ?_ rfl
            clear hf; intro a hf
            refine st_pick (v := .bool false) hf rfl rfl (fun hb' => ?_) (fun hb' => ?_) (by decide) ?_
            · exact absurd (hb17.symm.trans hb') (by decide)
            · rfl
            clear hf; intro a ha hf; clear ha
            refine st_nil hf (th_n ?_)
            exact ⟨hf.sub ⟨(by rw [hb17]; rfl), trivial⟩, hp⟩
        · rintro a w ⟨hf, hp⟩
          refine st_assign hf rfl rfl (by decide) ?_
          clear hf; intro a ha hf; clear ha
          refine st_nil hf ?_
          refine th_n ?_
          refine wp_ret ?_
          obtain rfl := Option.some.inj h
          have hp : Hp _ _ _ (ow) := Hp.sel (pre := [Res.sl Ek.str 9 v7 q5.1]) (tail := ow) (rs' := []) hp [] (by decide) (by simp) rfl
          exact ⟨rfl, ⟨hf.sub ⟨rfl, trivial⟩, hp⟩⟩

end Go.Proofs.Ythoigfonjpmibaa
