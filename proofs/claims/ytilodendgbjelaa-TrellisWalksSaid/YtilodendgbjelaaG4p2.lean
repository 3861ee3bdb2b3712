/- The functions foghorn foghornlaw21.TrellisWalks: what each answers, as a plain function, and that its call answers it; printed by gen.py. -/
import Derived.Test.YtilodendgbjelaaProg
import Derived.Test.YtilodendgbjelaaGlT
import Derived.KernelRfl
import Derived.Test.YtilodendgbjelaaG4p1
set_option linter.unusedVariables false
set_option linter.unusedSimpArgs false
set_option maxRecDepth 100000
set_option maxHeartbeats 4000000
namespace Go.Proofs.Ytilodendgbjelaa
open GL
noncomputable def f_foghornlaw21_awake  : Option Bool := ((f_trellis_Code_Encode (3 : Int) (7 : Int) (5 : Int) ([true])).bind fun q3 => ((if (q3.2 == (0 : Int)) = true then ((f_foghornref21_Same q3.1 ([true, true, true, false, true, true])).bind fun q17 => (some q17)) else (some false)).bind fun z14 => ((if z14 = true then ((f_trellis_Short).bind fun q32 => (some ((q32.1 == (3 : Int)) && ((q32.2.1 == (7 : Int)) && ((q32.2.2 == (5 : Int)) && true))))) else (some false)).bind fun z31 => (some z31))))
theorem f_foghornlaw21_awake_c {S : Nat → Prop} {w0 w : World} {ow : List Res} (hp : Hp S w0 w ow) {r : Bool} (h : f_foghornlaw21_awake = some r) :
    Calls Try.prog 11 #[] w (fun e w' => e = .returned (.bool r) ∧ Hp S w0 w' (ow)) := by
  unfold f_foghornlaw21_awake at h
  refine enter (n := 21) (args := []) Try.func11 rfl rfl (Nat.le_of_ble_eq_true rfl) fun a hf => ?_
  replace hf : Fr 21 a [] := hf
  refine wp_mono (Q := fun e a w => e = .ret ∧ Fr 21 a [(0, .bool r)] ∧ Hp S w0 w (ow)) ?_ ?_
  rotate_left
  · rintro e a w ⟨rfl, hf, hp⟩
    exact ret1 hf rfl rfl ⟨rfl, hp⟩
  refine wp_seq ?_
  refine wp_reg ?_
  refine st_assign hf rfl rfl (by decide) ?_
  clear hf; intro a ha hf; clear ha
  refine st_nil hf ?_
  refine th_n ?_
  refine wp_seq ?_
  refine wp_reg ?_
  refine st_buildA (vals := [(0, .int .i64 (3 : Int)), (1, .int .u32 (7 : Int)), (2, .int .u32 (5 : Int))]) (cells := [.int .i64 (3 : Int), .int .u32 (7 : Int), .int .u32 (5 : Int)]) hf (by decide) rfl (by simp [hf.ev (x := (Operand.const (.int .i64 (3 : Int)))) rfl, hf.ev (x := (Operand.const (.int .u32 (7 : Int)))) rfl, hf.ev (x := (Operand.const (.int .u32 (5 : Int)))) rfl]) (fun w => by kernel_rfl) ?_
  clear hf; intro a ha hf; clear ha
  refine st_build (E := Ek.bool) (xs := [true]) hf (by decide) elt4 Try.underlying25 hp (vals := #[(0, .bool true)]) (cells := #[.bool true]) rfl (by simp [hf.ev (x := (Operand.const (.bool true))) rfl]) (by decide) (by decide) (z := .bool false) (by kernel_rfl) (by kernel_rfl) rfl (reps_cons (cs := [.bool true]) rfl (reps_nil _)) ?_
  clear hf; intro a w v1 hf hp0; clear hp; have hp := hp0; clear hp0
  replace hp : Hp _ _ _ (Res.sl Ek.bool 4 v1 ([true]) :: ow) := hp
  obtain ⟨q3, hcall4, h⟩ := bnd h
  obtain ⟨S5, hp6, rd7, up8, bk9⟩ := Hp.lendS hp (i := 0) rfl
  refine st_call hf (by decide) Try.func13 rfl rfl rfl rfl rfl (f_trellis_Code_Encode_c hp6 _ _ _ _ _ rd7 hcall4) ?_
  rintro _ w ⟨v10, rfl, hp0⟩
  have hp0 := bk9 _ _ hp0
  clear hp; have hp := hp0; clear hp0
  replace hp : Hp _ _ _ (Res.sl Ek.bool 4 v1 ([true]) :: Res.sl Ek.bool 4 v10 q3.1 :: ow) := hp
  refine ⟨_, rfl, ?_⟩
  clear hf; intro a hf
  refine st_move hf rfl rfl (by decide) ?_
  clear hf; intro a ha hf; clear ha
  refine st_extract hf (by decide) rfl rfl rfl ?_
  clear hf; intro a ha hf; clear ha
  refine st_extract hf (by decide) rfl rfl rfl ?_
  clear hf; intro a ha hf; clear ha
  refine st_assign hf rfl rfl (by decide) ?_
  clear hf; intro a ha hf; clear ha
  refine st_assign hf rfl rfl (by decide) ?_
  clear hf; intro a ha hf; clear ha
  refine st_nil hf ?_
  refine th_n ?_
  refine wp_seq ?_
  refine wp_reg ?_
  refine st_move hf rfl rfl (by decide) ?_
  clear hf; intro a ha hf; clear ha
  refine st_ieql hf (by decide) rfl rfl rfl ?_
  clear hf; intro a ha hf; clear ha
  refine st_move hf rfl rfl (by decide) ?_
  clear hf; intro a ha hf; clear ha
  obtain ⟨z14, hz12, h⟩ := bnd h
  refine wpList_cut 4 (fun a w => Fr 21 a [(15, .bool z14)] ∧ Hp S w0 w (Res.sl Ek.bool 4 v1 ([true]) :: Res.sl Ek.bool 4 v10 q3.1 :: ow)) ?_ ?_
  · rcases Bool.eq_false_or_eq_true (q3.2 == (0 : Int)) with hb13 | hb13
    · skip
      replace hz12 := ifT hz12 hb13
      refine st_move hf (wantY hf rfl rfl hb13) rfl (by decide) ?_
      clear hf; intro a ha hf; clear ha
      refine st_build (E := Ek.bool) (xs := [true, true, true, false, true, true]) hf (by decide) elt4 Try.underlying25 hp (vals := #[(0, .bool true), (1, .bool true), (2, .bool true), (3, .bool false), (4, .bool true), (5, .bool true)]) (cells := #[.bool true, .bool true, .bool true, .bool false, .bool true, .bool true]) (wantY hf rfl rfl hb13) (by simp [hf.ev (x := (Operand.const (.bool true))) rfl, hf.ev (x := (Operand.const (.bool true))) rfl, hf.ev (x := (Operand.const (.bool true))) rfl, hf.ev (x := (Operand.const (.bool false))) rfl, hf.ev (x := (Operand.const (.bool true))) rfl, hf.ev (x := (Operand.const (.bool true))) rfl]) (by decide) (by decide) (z := .bool false) (by kernel_rfl) (by kernel_rfl) rfl (reps_cons (cs := [.bool true]) rfl (reps_cons (cs := [.bool true]) rfl (reps_cons (cs := [.bool true]) rfl (reps_cons (cs := [.bool false]) rfl (reps_cons (cs := [.bool true]) rfl (reps_cons (cs := [.bool true]) rfl (reps_nil _))))))) ?_
      clear hf; intro a w v15 hf hp0; clear hp; have hp := hp0; clear hp0
      replace hp : Hp _ _ _ (Res.sl Ek.bool 4 v15 ([true, true, true, false, true, true]) :: Res.sl Ek.bool 4 v1 ([true]) :: Res.sl Ek.bool 4 v10 q3.1 :: ow) := hp
      obtain ⟨q17, hcall18, hz12⟩ := bnd hz12
      obtain ⟨S19, hp20, rd21, up22, bk23⟩ := Hp.lendS hp (i := 2) rfl
      obtain ⟨S24, hp25, rd26, up27, bk28⟩ := Hp.lendS hp20 (i := 0) rfl
      refine st_call hf (by decide) Try.func33 rfl rfl (wantY hf rfl rfl hb13) rfl rfl (f_foghornref21_Same_c hp25 _ _ ((rd21.now hp20).mono up27) _ _ rd26 hcall18) ?_
      rintro _ w ⟨rfl, hp0⟩
      have hp0 := bk28 _ _ hp0
      have hp0 := bk23 _ _ hp0
      clear hp; have hp := hp0; clear hp0
      replace hp : Hp _ _ _ (Res.sl Ek.bool 4 v10 q3.1 :: Res.sl Ek.bool 4 v15 ([true, true, true, false, true, true]) :: Res.sl Ek.bool 4 v1 ([true]) :: ow) := hp
      refine ⟨_, rfl, ?_⟩
      clear hf; intro a hf
      obtain rfl := Option.some.inj hz12
      refine st_pick (v := .bool q17) hf rfl rfl (fun hb' => ?_) (fun hb' => ?_) (by decide) ?_
      · rfl
      · exact absurd (hb13.symm.trans hb') (by decide)
      clear hf; intro a ha hf; clear ha
      refine st_nil hf (th_n ?_)
      have hp : Hp _ _ _ (Res.sl Ek.bool 4 v1 ([true]) :: Res.sl Ek.bool 4 v10 q3.1 :: ow) := Hp.sel (pre := [Res.sl Ek.bool 4 v10 q3.1, Res.sl Ek.bool 4 v15 ([true, true, true, false, true, true]), Res.sl Ek.bool 4 v1 ([true])]) (tail := ow) (rs' := [Res.sl Ek.bool 4 v1 ([true]), Res.sl Ek.bool 4 v10 q3.1]) hp [2, 0] (by decide) (by simp) rfl
      exact ⟨hf.sub ⟨rfl, trivial⟩, hp⟩
    replace hz12 := ifF hz12 hb13
    refine st_skip hf (wantN hf rfl rfl hb13) rfl (by decide) ?_ rfl
    clear hf; intro a hf
    refine st_skip hf (wantN hf rfl rfl hb13) rfl (by decide) ?_ rfl
    clear hf; intro a hf
    refine st_skip hf (wantN hf rfl rfl hb13) rfl (by decide) ?_ rfl
    clear hf; intro a hf
    obtain rfl := Option.some.inj hz12
    refine st_pick (v := .bool false) hf rfl rfl (fun hb' => ?_) (fun hb' => ?_) (by decide) ?_
    · exact absurd (hb13.symm.trans hb') (by decide)
    · rfl
    clear hf; intro a ha hf; clear ha
    refine st_nil hf (th_n ?_)
    exact ⟨hf.sub ⟨rfl, trivial⟩, hp⟩
  rintro a w ⟨hf, hp⟩
  refine st_move hf rfl rfl (by decide) ?_
  clear hf; intro a ha hf; clear ha
  obtain ⟨z31, hz29, h⟩ := bnd h
  refine wpList_cut 4 (fun a w => Fr 21 a [(20, .bool z31)] ∧ Hp S w0 w (Res.sl Ek.bool 4 v1 ([true]) :: Res.sl Ek.bool 4 v10 q3.1 :: ow)) ?_ ?_
  · rcases Bool.eq_false_or_eq_true z14 with hb30 | hb30
    · skip
      replace hz29 := ifT hz29 hb30
      obtain ⟨q32, hcall33, hz29⟩ := bnd hz29
      refine st_call hf (by decide) Try.func30 rfl rfl (wantY hf rfl rfl hb30) rfl rfl (f_trellis_Short_c hp  hcall33) ?_
      rintro _ w ⟨rfl, hp0⟩
      clear hp; have hp := hp0; clear hp0
      replace hp : Hp _ _ _ (Res.sl Ek.bool 4 v1 ([true]) :: Res.sl Ek.bool 4 v10 q3.1 :: ow) := hp
      refine ⟨_, rfl, ?_⟩
      clear hf; intro a hf
      refine st_buildA (vals := [(0, .int .i64 (3 : Int)), (1, .int .u32 (7 : Int)), (2, .int .u32 (5 : Int))]) (cells := [.int .i64 (3 : Int), .int .u32 (7 : Int), .int .u32 (5 : Int)]) hf (by decide) (wantY hf rfl rfl hb30) (by simp [hf.ev (x := (Operand.const (.int .i64 (3 : Int)))) rfl, hf.ev (x := (Operand.const (.int .u32 (7 : Int)))) rfl, hf.ev (x := (Operand.const (.int .u32 (5 : Int)))) rfl]) (fun w => by kernel_rfl) ?_
      clear hf; intro a ha hf; clear ha
      refine st_eqA (xs := [.int .i64 q32.1, .int .u32 q32.2.1, .int .u32 q32.2.2]) (ys := [.int .i64 (3 : Int), .int .u32 (7 : Int), .int .u32 (5 : Int)]) hf (by decide) (by kernel_rfl) (by kernel_rfl) (by kernel_rfl) (by kernel_rfl) (wantY hf rfl rfl hb30) rfl rfl (b := ((q32.1 == (3 : Int)) && ((q32.2.1 == (7 : Int)) && ((q32.2.2 == (5 : Int)) && true)))) rfl ?_
      clear hf; intro a ha hf; clear ha
      obtain rfl := Option.some.inj hz29
      refine st_pick (v := .bool ((q32.1 == (3 : Int)) && ((q32.2.1 == (7 : Int)) && ((q32.2.2 == (5 : Int)) && true)))) hf rfl rfl (fun hb' => ?_) (fun hb' => ?_) (by decide) ?_
      · rfl
      · exact absurd (hb30.symm.trans hb') (by decide)
      clear hf; intro a ha hf; clear ha
      refine st_nil hf (th_n ?_)
      exact ⟨hf.sub ⟨rfl, trivial⟩, hp⟩
    replace hz29 := ifF hz29 hb30
    refine st_skip hf (wantN hf rfl rfl hb30) rfl (by decide) ?_ rfl
    clear hf; intro a hf
    refine st_skip hf (wantN hf rfl rfl hb30) rfl (by decide) ?_ rfl
    clear hf; intro a hf
    refine st_skip hf (wantN hf rfl rfl hb30) rfl (by decide) ?_ rfl
    clear hf; intro a hf
    obtain rfl := Option.some.inj hz29
    refine st_pick (v := .bool false) hf rfl rfl (fun hb' => ?_) (fun hb' => ?_) (by decide) ?_
    · exact absurd (hb30.symm.trans hb') (by decide)
    · rfl
    clear hf; intro a ha hf; clear ha
    refine st_nil hf (th_n ?_)
    exact ⟨hf.sub ⟨rfl, trivial⟩, hp⟩
  rintro a w ⟨hf, hp⟩
  refine st_assign hf rfl rfl (by decide) ?_
  clear hf; intro a ha hf; clear ha
  refine st_nil hf ?_
  refine th_n ?_
  refine wp_ret ?_
  obtain rfl := Option.some.inj h
  have hp : Hp _ _ _ (ow) := Hp.sel (pre := [Res.sl Ek.bool 4 v1 ([true]), Res.sl Ek.bool 4 v10 q3.1]) (tail := ow) (rs' := []) hp [] (by decide) (by simp) rfl
  exact ⟨rfl, ⟨hf.sub ⟨rfl, trivial⟩, hp⟩⟩

end Go.Proofs.Ytilodendgbjelaa
