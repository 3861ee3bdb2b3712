/- The functions 9: what each answers, as a plain function, and that its call answers it; printed by gen.py. -/
import Derived.Test.YthoigfonjpmibaaProg
import Derived.Test.YthoigfonjpmibaaGlS
import Derived.KernelRfl
import Derived.Test.YthoigfonjpmibaaG9p1
set_option linter.unusedVariables false
set_option maxRecDepth 100000
set_option maxHeartbeats 4000000
namespace Go.Proofs.Ythoigfonjpmibaa
open GL
noncomputable def f_foghornlaw17_WeaveDelays.j2 (s2 : ByteArray) (q22 : Int) (a9 : (Option LoomS)) (b11 : (Option LoomS)) (out15 : (List Int)) (at16 : Int) (i17 : Int) (n18 : Int) : Option (((Option LoomS) × (Option LoomS) × (List Int) × Int × Int) ⊕ ((List Int) ⊕ Bool)) := (if 0 ≤ at16 ∧ at16 ≤ (IntKind.i64.wrap (at16 + n18)) ∧ (IntKind.i64.wrap (at16 + n18)) ≤ ((s2 ++ (bstr (List.replicate (q22).toNat (0 : Int)))).size : Int) then ((f_weave_Loom_Run a9 ((s2 ++ (bstr (List.replicate (q22).toNat (0 : Int)))).extract (at16).toNat ((IntKind.i64.wrap (at16 + n18))).toNat)).bind fun q36 => ((f_weave_Loom_Run b11 q36.1).bind fun q39 => (if (((q36.2.1 != (0 : Int)) || (q39.2.1 != (0 : Int))) || ((q39.1.size : Int) != n18)) = true then (some (Sum.inr (Sum.inr false))) else (if out15.length + q39.1.size ≤ 140737488355328 then (some (Sum.inl (q36.2.2, q39.2.2, (out15 ++ sbytes q39.1), (IntKind.i64.wrap (at16 + n18)), (IntKind.i64.wrap (i17 + (1 : Int)))))) else none)))) else none)
noncomputable def f_foghornlaw17_WeaveDelays.s1c (s2 : ByteArray) (cuts3 : (List Int)) (q22 : Int) (a9 : (Option LoomS)) (b11 : (Option LoomS)) (out15 : (List Int)) (at16 : Int) (i17 : Int) : Option (((Option LoomS) × (Option LoomS) × (List Int) × Int × Int) ⊕ ((List Int) ⊕ Bool)) := (if (decide (at16 < ((s2 ++ (bstr (List.replicate (q22).toNat (0 : Int)))).size : Int))) = true then (if (decide (i17 < (cuts3.length : Int))) = true then (if 0 ≤ i17 ∧ i17 < (cuts3.length : Int) then (f_foghornlaw17_WeaveDelays.j2 s2 q22 a9 b11 out15 at16 i17 (imin (IntKind.i64.wrap (((s2 ++ (bstr (List.replicate (q22).toNat (0 : Int)))).size : Int) - at16)) (IntKind.i64.wrap ((1 : Int) + (((IntKind.i64.wrap ((((gt cuts3 i17)).tmod (50 : Int)) + (50 : Int)))).tmod (50 : Int)))))) else none) else (f_foghornlaw17_WeaveDelays.j2 s2 q22 a9 b11 out15 at16 i17 (IntKind.i64.wrap (((s2 ++ (bstr (List.replicate (q22).toNat (0 : Int)))).size : Int) - at16)))) else (some (Sum.inr (Sum.inl out15))))
noncomputable def f_foghornlaw17_WeaveDelays.s1 (s2 : ByteArray) (cuts3 : (List Int)) (q22 : Int) (s : ((Option LoomS) × (Option LoomS) × (List Int) × Int × Int)) : Option (((Option LoomS) × (Option LoomS) × (List Int) × Int × Int) ⊕ ((List Int) ⊕ Bool)) := f_foghornlaw17_WeaveDelays.s1c s2 cuts3 q22 s.1 s.2.1 s.2.2.1 s.2.2.2.1 s.2.2.2.2
noncomputable def f_foghornlaw17_WeaveDelays.j1 (branches0 : Int) (steps1 : Int) (cuts3 : (List Int)) (s2 : ByteArray) : Option Bool := ((f_weave_New (IntKind.i64.wrap ((1 : Int) + (((IntKind.i64.wrap (((branches0).tmod (20 : Int)) + (20 : Int)))).tmod (20 : Int)))) (IntKind.i64.wrap ((1 : Int) + (((IntKind.i64.wrap (((steps1).tmod (20 : Int)) + (20 : Int)))).tmod (20 : Int))))).bind fun q3 => ((f_weave_Undo (IntKind.i64.wrap ((1 : Int) + (((IntKind.i64.wrap (((branches0).tmod (20 : Int)) + (20 : Int)))).tmod (20 : Int)))) (IntKind.i64.wrap ((1 : Int) + (((IntKind.i64.wrap (((steps1).tmod (20 : Int)) + (20 : Int)))).tmod (20 : Int))))).bind fun q7 => ((if ((q3.2 != (0 : Int)) || (q7.2 != (0 : Int))) = true then (some true) else ((f_weave_Loom_Delay q3.1).bind fun q16 => ((f_weave_Loom_Delay q7.1).bind fun q19 => (some (q16 != q19))))).bind fun z15 => (if z15 = true then (some false) else ((f_weave_Loom_Delay q3.1).bind fun q22 => (if (decide ((8000 : Int) < q22)) = true then (some true) else (if 0 ≤ q22 ∧ q22 ≤ q22 ∧ q22 * 1 ≤ 281474976710656 then (if s2.size + (bstr (List.replicate (q22).toNat (0 : Int))).size ≤ 9223372036854775807 then ((loop (f_foghornlaw17_WeaveDelays.s1 s2 cuts3 q22) (q3.1, q7.1, [], (0 : Int), (0 : Int))).bind (fun q49 => sm q49 (fun q51 => ((if ((q51.length : Int) == ((s2 ++ (bstr (List.replicate (q22).toNat (0 : Int)))).size : Int)) = true then (if 0 ≤ q22 ∧ q22 ≤ (q51.length : Int) then (if 0 ≤ q22 ∧ q22 ≤ q22 ∧ q22 * 1 ≤ 281474976710656 then (some (seq (bstr ((q51.drop 0).take ((q22).toNat - 0))) (bstr (List.replicate (q22).toNat (0 : Int))))) else none) else none) else (some false)).bind fun z67 => ((if z67 = true then (if 0 ≤ q22 ∧ q22 ≤ (q51.length : Int) then (some (seq (bstr ((q51.drop ((q22).toNat)).take (q51.length - (q22).toNat))) s2)) else none) else (some false)).bind fun z73 => (some z73)))) (fun q52 => (some q52)))) else none) else none)))))))
noncomputable def f_foghornlaw17_WeaveDelays (branches0 : Int) (steps1 : Int) (s2 : ByteArray) (cuts3 : (List Int)) : Option Bool := ((f_foghornlaw17_awake).bind fun q1 => (if (!q1) = true then (some false) else (if (decide ((2000 : Int) < (s2.size : Int))) = true then (if 0 ≤ (2000 : Int) ∧ (2000 : Int) ≤ (s2.size : Int) then (f_foghornlaw17_WeaveDelays.j1 branches0 steps1 cuts3 (s2.extract 0 ((2000 : Int)).toNat)) else none) else (f_foghornlaw17_WeaveDelays.j1 branches0 steps1 cuts3 s2))))
theorem f_foghornlaw17_WeaveDelays_c {S : Nat → Prop} {w0 w : World} {ow : List Res} (hp : Hp S w0 w ow) (branches0 : Int) (steps1 : Int) (s2 : ByteArray) (vcuts3 : Value) (cuts3 : (List Int)) (hcuts3 : RdS (Ek.int .i64) S w0 vcuts3 cuts3) {r : Bool} (h : f_foghornlaw17_WeaveDelays branches0 steps1 s2 cuts3 = some r) :
    Calls Try.prog 9 #[.int .i64 branches0, .int .i64 steps1, .string s2, vcuts3] w (fun e w' => e = .returned (.bool r) ∧ Hp S w0 w' (ow)) := by
  unfold f_foghornlaw17_WeaveDelays at h
  refine enter (n := 156) (args := [.int .i64 branches0, .int .i64 steps1, .string s2, vcuts3]) Try.func9 rfl rfl (Nat.le_of_ble_eq_true rfl) fun a hf => ?_
  replace hf : Fr 156 a [(0, .int .i64 branches0), (1, .int .i64 steps1), (2, .string s2), (3, vcuts3)] := hf
  refine wp_mono (Q := fun e a w => e = .ret ∧ Fr 156 a [(8, .bool r)] ∧ Hp S w0 w (ow)) ?_ ?_
  rotate_left
  · rintro e a w ⟨rfl, hf, hp⟩
    exact ret1 hf rfl rfl ⟨rfl, hp⟩
  refine wp_seq ?_
  refine wp_reg ?_
  refine st_assign hf rfl rfl (by decide) ?_
  clear hf; intro a ha hf; clear ha
  refine st_nil hf ?_
  refine th_n ?_
  refine wp_seq ?_
  refine wp_seq ?_
  refine wp_reg ?_
  obtain ⟨q1, hcall2, h⟩ := bnd h
  refine st_call hf (by decide) Try.func36 rfl rfl rfl rfl rfl (f_foghornlaw17_awake_c hp  hcall2) ?_
  rintro _ w ⟨rfl, hp0⟩
  clear hp; have hp := hp0; clear hp0
  replace hp : Hp _ _ _ (ow) := hp
  refine ⟨_, rfl, ?_⟩
  clear hf; intro a hf
  refine st_not hf (by decide) rfl rfl ?_
  clear hf; intro a ha hf; clear ha
  refine st_nil hf ?_
  refine th_n ?_
  refine wp_if hf rfl (fun hb => ?_) (fun hb => ?_)
  · replace h := ifT h hb
    refine wp_seq ?_
    refine wp_reg ?_
    refine st_assign hf rfl rfl (by decide) ?_
    clear hf; intro a ha hf; clear ha
    refine st_nil hf ?_
    refine th_n ?_
    refine wp_ret ?_
    refine th_r ?_
    obtain rfl := Option.some.inj h
    exact ⟨rfl, ⟨hf.sub ⟨rfl, trivial⟩, hp⟩⟩
  · replace h := ifF h hb
    refine wp_skip ?_
    refine th_n ?_
    refine wp_seq ?_
    refine wp_reg ?_
    refine st_move hf rfl rfl (by decide) ?_
    clear hf; intro a ha hf; clear ha
    refine st_irem hf (by decide) rfl rfl rfl (by decide) ?_
    clear hf; intro a ha hf; clear ha
    refine st_iadd hf (by decide) rfl rfl rfl ?_
    clear hf; intro a ha hf; clear ha
    refine st_irem hf (by decide) rfl rfl rfl (by decide) ?_
    clear hf; intro a ha hf; clear ha
    refine st_iadd hf (by decide) rfl rfl rfl ?_
    clear hf; intro a ha hf; clear ha
    refine st_assign hf rfl rfl (by decide) ?_
    clear hf; intro a ha hf; clear ha
    refine st_nil hf ?_
    refine th_n ?_
    refine wp_seq ?_
    refine wp_reg ?_
    refine st_move hf rfl rfl (by decide) ?_
    clear hf; intro a ha hf; clear ha
    refine st_irem hf (by decide) rfl rfl rfl (by decide) ?_
    clear hf; intro a ha hf; clear ha
    refine st_iadd hf (by decide) rfl rfl rfl ?_
    clear hf; intro a ha hf; clear ha
    refine st_irem hf (by decide) rfl rfl rfl (by decide) ?_
    clear hf; intro a ha hf; clear ha
    refine st_iadd hf (by decide) rfl rfl rfl ?_
    clear hf; intro a ha hf; clear ha
    refine st_assign hf rfl rfl (by decide) ?_
    clear hf; intro a ha hf; clear ha
    refine st_nil hf ?_
    refine th_n ?_
    refine wp_seq_cut (fun a w => ∃ (s2 : ByteArray), f_foghornlaw17_WeaveDelays.j1 branches0 steps1 cuts3 s2 = some r ∧ Fr 156 a [(0, .int .i64 (IntKind.i64.wrap ((1 : Int) + (((IntKind.i64.wrap (((branches0).tmod (20 : Int)) + (20 : Int)))).tmod (20 : Int))))), (1, .int .i64 (IntKind.i64.wrap ((1 : Int) + (((IntKind.i64.wrap (((steps1).tmod (20 : Int)) + (20 : Int)))).tmod (20 : Int))))), (2, .string s2), (3, vcuts3)] ∧ Hp S w0 w (ow)) ?_ ?_
    · skip
      refine wp_seq ?_
      refine wp_reg ?_
      refine st_move hf rfl rfl (by decide) ?_
      clear hf; intro a ha hf; clear ha
      refine st_slen hf (by decide) Try.underlying9 rfl rfl ?_
      clear hf; intro a ha hf; clear ha
      refine st_igtr hf (by decide) rfl rfl rfl ?_
      clear hf; intro a ha hf; clear ha
      refine st_nil hf ?_
      refine th_n ?_
      refine wp_if hf rfl (fun hb => ?_) (fun hb => ?_)
      · replace h := ifT h hb
        refine wp_reg ?_
        refine st_move hf rfl rfl (by decide) ?_
        clear hf; intro a ha hf; clear ha
        obtain ⟨hc74, h⟩ := chk h
        refine st_strH hf (by decide) Try.underlying9 rfl rfl rfl hc74 ?_
        clear hf; intro a ha hf; clear ha
        refine st_assign hf rfl rfl (by decide) ?_
        clear hf; intro a ha hf; clear ha
        refine st_nil hf ?_
        refine th_n ?_
        exact ⟨_, h, hf.sub ⟨rfl, rfl, rfl, rfl, trivial⟩, hp⟩
      · replace h := ifF h hb
        refine wp_skip ?_
        refine th_n ?_
        exact ⟨_, h, hf.sub ⟨rfl, rfl, rfl, rfl, trivial⟩, hp⟩
    · rintro a w ⟨s2, h, hf, hp⟩
      unfold f_foghornlaw17_WeaveDelays.j1 at h
      refine wp_seq ?_
      refine wp_reg ?_
      refine st_move hf rfl rfl (by decide) ?_
      clear hf; intro a ha hf; clear ha
      refine st_move hf rfl rfl (by decide) ?_
      clear hf; intro a ha hf; clear ha
      obtain ⟨q3, hcall4, h⟩ := bnd h
      refine st_call hf (by decide) Try.func27 rfl rfl rfl rfl rfl (f_weave_New_c hp _ _ hcall4) ?_
      rintro _ w ⟨v5, rfl, hp0⟩
      clear hp; have hp := hp0; clear hp0
      replace hp : Hp _ _ _ (Res.opt (LoomK 75 5) v5 q3.1 :: ow) := hp
      refine ⟨_, rfl, ?_⟩
      clear hf; intro a hf
      refine st_move hf rfl rfl (by decide) ?_
      clear hf; intro a ha hf; clear ha
      refine st_extract hf (by decide) rfl rfl rfl ?_
      clear hf; intro a ha hf; clear ha
      refine st_extract hf (by decide) rfl rfl rfl ?_
      clear hf; intro a ha hf; clear ha
      refine st_assign hf rfl rfl (by decide) ?_
      clear hf; intro a ha hf; clear ha
      refine st_assign hf rfl rfl (by decide) ?_
      clear hf; intro a ha hf; clear ha
      refine st_nil hf ?_
      refine th_n ?_
      refine wp_seq ?_
      refine wp_reg ?_
      refine st_move hf rfl rfl (by decide) ?_
      clear hf; intro a ha hf; clear ha
      refine st_move hf rfl rfl (by decide) ?_
      clear hf; intro a ha hf; clear ha
      obtain ⟨q7, hcall8, h⟩ := bnd h
      refine st_call hf (by decide) Try.func28 rfl rfl rfl rfl rfl (f_weave_Undo_c hp _ _ hcall8) ?_
      rintro _ w ⟨v9, rfl, hp0⟩
      clear hp; have hp := hp0; clear hp0
      replace hp : Hp _ _ _ (Res.opt (LoomK 75 5) v9 q7.1 :: Res.opt (LoomK 75 5) v5 q3.1 :: ow) := hp
      refine ⟨_, rfl, ?_⟩
      clear hf; intro a hf
      refine st_move hf rfl rfl (by decide) ?_
      clear hf; intro a ha hf; clear ha
      refine st_extract hf (by decide) rfl rfl rfl ?_
      clear hf; intro a ha hf; clear ha
      refine st_extract hf (by decide) rfl rfl rfl ?_
      clear hf; intro a ha hf; clear ha
      refine st_assign hf rfl rfl (by decide) ?_
      clear hf; intro a ha hf; clear ha
      refine st_assign hf rfl rfl (by decide) ?_
      clear hf; intro a ha hf; clear ha
      refine st_nil hf ?_
      refine th_n ?_
      refine wp_seq ?_
      refine wp_seq ?_
      refine wp_reg ?_
      refine st_move hf rfl rfl (by decide) ?_
      clear hf; intro a ha hf; clear ha
      refine st_ineq hf (by decide) rfl rfl rfl ?_
      clear hf; intro a ha hf; clear ha
      refine st_move hf rfl rfl (by decide) ?_
      clear hf; intro a ha hf; clear ha
      refine wpList_cut 3 (fun a w => Fr 156 a [(2, .string s2), (3, vcuts3), (9, v5), (11, v9), (57, .bool ((q3.2 != (0 : Int)) || (q7.2 != (0 : Int))))] ∧ Hp S w0 w (Res.opt (LoomK 75 5) v9 q7.1 :: Res.opt (LoomK 75 5) v5 q3.1 :: ow)) ?_ ?_
      · rcases Bool.eq_false_or_eq_true (q3.2 != (0 : Int)) with hb12 | hb12
        · skip
          refine st_skip hf (wantN hf rfl rfl hb12) rfl (by decide) ?_ rfl
          clear hf; intro a hf
          refine st_skip hf (wantN hf rfl rfl hb12) rfl (by decide) ?_ rfl
          clear hf; intro a hf
          refine st_pick (v := .bool true) hf rfl rfl (fun hb' => ?_) (fun hb' => ?_) (by decide) ?_
          · rfl
          · exact absurd (hb12.symm.trans hb') (by decide)
          clear hf; intro a ha hf; clear ha
          refine st_nil hf (th_n ?_)
          exact ⟨hf.sub ⟨rfl, rfl, rfl, rfl, (by rw [hb12]; rfl), trivial⟩, hp⟩
        · skip
          refine st_move hf (wantY hf rfl rfl hb12) rfl (by decide) ?_
          clear hf; intro a ha hf; clear ha
          refine st_ineq hf (by decide) (wantY hf rfl rfl hb12) rfl rfl ?_
          clear hf; intro a ha hf; clear ha
          refine st_pick (v := .bool (q7.2 != (0 : Int))) hf rfl rfl (fun hb' => ?_) (fun hb' => ?_) (by decide) ?_
          · exact absurd (hb12.symm.trans hb') (by decide)
          · rfl
          clear hf; intro a ha hf; clear ha
          refine st_nil hf (th_n ?_)
          exact ⟨hf.sub ⟨rfl, rfl, rfl, rfl, (by rw [hb12]; rfl), trivial⟩, hp⟩
      · rintro a w ⟨hf, hp⟩
        refine st_move hf rfl rfl (by decide) ?_
        clear hf; intro a ha hf; clear ha
        obtain ⟨z15, hz13, h⟩ := bnd h
        refine wpList_cut 6 (fun a w => Fr 156 a [(2, .string s2), (3, vcuts3), (9, v5), (11, v9), (64, .bool z15)] ∧ Hp S w0 w (Res.opt (LoomK 75 5) v9 q7.1 :: Res.opt (LoomK 75 5) v5 q3.1 :: ow)) ?_ ?_
        · rcases Bool.eq_false_or_eq_true ((q3.2 != (0 : Int)) || (q7.2 != (0 : Int))) with hb14 | hb14
          · skip
            replace hz13 := ifT hz13 hb14
            refine st_skip hf (wantN hf rfl rfl hb14) rfl (by decide) ?_ rfl
            clear hf; intro a hf
            refine st_skip hf (wantN hf rfl rfl hb14) rfl (by decide) ?_ rfl
            clear hf; intro a hf
            refine st_skip hf (wantN hf rfl rfl hb14) rfl (by decide) ?_ rfl
            clear hf; intro a hf
            refine st_skip hf (wantN hf rfl rfl hb14) rfl (by decide) ?_ rfl
            clear hf; intro a hf
            refine st_skip hf (wantN hf rfl rfl hb14) rfl (by decide) ?_ rfl
            clear hf; intro a hf
            obtain rfl := Option.some.inj hz13
            refine st_pick (v := .bool true) hf rfl rfl (fun hb' => ?_) (fun hb' => ?_) (by decide) ?_
            · rfl
            · exact absurd (hb14.symm.trans hb') (by decide)
            clear hf; intro a ha hf; clear ha
            refine st_nil hf (th_n ?_)
            exact ⟨hf.sub ⟨rfl, rfl, rfl, rfl, rfl, trivial⟩, hp⟩
          · skip
            replace hz13 := ifF hz13 hb14
            refine st_move hf (wantY hf rfl rfl hb14) rfl (by decide) ?_
            clear hf; intro a ha hf; clear ha
            obtain ⟨q16, hcall17, hz13⟩ := bnd hz13
            have hp18 : Hp _ _ _ (Res.opt (LoomK 75 5) v5 q3.1 :: Res.opt (LoomK 75 5) v9 q7.1 :: ow) := Hp.sel (pre := [Res.opt (LoomK 75 5) v9 q7.1, Res.opt (LoomK 75 5) v5 q3.1]) (tail := ow) (rs' := [Res.opt (LoomK 75 5) v5 q3.1, Res.opt (LoomK 75 5) v9 q7.1]) hp [1, 0] (by decide) (by simp) rfl
            refine st_call hf (by decide) Try.func34 rfl rfl (wantY hf rfl rfl hb14) rfl rfl (f_weave_Loom_Delay_c _ _ hp18 hcall17) ?_
            rintro _ w ⟨rfl, hp0⟩
            clear hp; have hp := hp0; clear hp0
            replace hp : Hp _ _ _ (Res.opt (LoomK 75 5) v5 q3.1 :: Res.opt (LoomK 75 5) v9 q7.1 :: ow) := hp
            refine ⟨_, rfl, ?_⟩
            clear hf; intro a hf
            refine st_move hf (wantY hf rfl rfl hb14) rfl (by decide) ?_
            clear hf; intro a ha hf; clear ha
            obtain ⟨q19, hcall20, hz13⟩ := bnd hz13
            have hp21 : Hp _ _ _ (Res.opt (LoomK 75 5) v9 q7.1 :: Res.opt (LoomK 75 5) v5 q3.1 :: ow) := Hp.sel (pre := [Res.opt (LoomK 75 5) v5 q3.1, Res.opt (LoomK 75 5) v9 q7.1]) (tail := ow) (rs' := [Res.opt (LoomK 75 5) v9 q7.1, Res.opt (LoomK 75 5) v5 q3.1]) hp [1, 0] (by decide) (by simp) rfl
            refine st_call hf (by decide) Try.func34 rfl rfl (wantY hf rfl rfl hb14) rfl rfl (f_weave_Loom_Delay_c _ _ hp21 hcall20) ?_
            rintro _ w ⟨rfl, hp0⟩
            clear hp; have hp := hp0; clear hp0
            replace hp : Hp _ _ _ (Res.opt (LoomK 75 5) v9 q7.1 :: Res.opt (LoomK 75 5) v5 q3.1 :: ow) := hp
            refine ⟨_, rfl, ?_⟩
            clear hf; intro a hf
            refine st_ineq hf (by decide) (wantY hf rfl rfl hb14) rfl rfl ?_
            clear hf; intro a ha hf; clear ha
            obtain rfl := Option.some.inj hz13
            refine st_pick (v := .bool (q16 != q19)) hf rfl rfl (fun hb' => ?_) (fun hb' => ?_) (by decide) ?_
            · exact absurd (hb14.symm.trans hb') (by decide)
            · rfl
            clear hf; intro a ha hf; clear ha
            refine st_nil hf (th_n ?_)
            exact ⟨hf.sub ⟨rfl, rfl, rfl, rfl, rfl, trivial⟩, hp⟩
        · rintro a w ⟨hf, hp⟩
          refine st_nil hf ?_
          refine th_n ?_
          refine wp_if hf rfl (fun hb => ?_) (fun hb => ?_)
          · replace h := ifT h hb
            refine wp_seq ?_
            refine wp_reg ?_
            refine st_assign hf rfl rfl (by decide) ?_
            clear hf; intro a ha hf; clear ha
            refine st_nil hf ?_
            refine th_n ?_
            refine wp_ret ?_
            refine th_r ?_
            obtain rfl := Option.some.inj h
            have hp : Hp _ _ _ (ow) := Hp.sel (pre := [Res.opt (LoomK 75 5) v9 q7.1, Res.opt (LoomK 75 5) v5 q3.1]) (tail := ow) (rs' := []) hp [] (by decide) (by simp) rfl
            exact ⟨rfl, ⟨hf.sub ⟨rfl, trivial⟩, hp⟩⟩
          · replace h := ifF h hb
            refine wp_skip ?_
            refine th_n ?_
            refine wp_seq ?_
            refine wp_reg ?_
            refine st_move hf rfl rfl (by decide) ?_
            clear hf; intro a ha hf; clear ha
            obtain ⟨q22, hcall23, h⟩ := bnd h
            have hp24 : Hp _ _ _ (Res.opt (LoomK 75 5) v5 q3.1 :: Res.opt (LoomK 75 5) v9 q7.1 :: ow) := Hp.sel (pre := [Res.opt (LoomK 75 5) v9 q7.1, Res.opt (LoomK 75 5) v5 q3.1]) (tail := ow) (rs' := [Res.opt (LoomK 75 5) v5 q3.1, Res.opt (LoomK 75 5) v9 q7.1]) hp [1, 0] (by decide) (by simp) rfl
            refine st_call hf (by decide) Try.func34 rfl rfl rfl rfl rfl (f_weave_Loom_Delay_c _ _ hp24 hcall23) ?_
            rintro _ w ⟨rfl, hp0⟩
            clear hp; have hp := hp0; clear hp0
            replace hp : Hp _ _ _ (Res.opt (LoomK 75 5) v5 q3.1 :: Res.opt (LoomK 75 5) v9 q7.1 :: ow) := hp
            refine ⟨_, rfl, ?_⟩
            clear hf; intro a hf
            refine st_assign hf rfl rfl (by decide) ?_
            clear hf; intro a ha hf; clear ha
            refine st_nil hf ?_
            refine th_n ?_
            refine wp_seq ?_
            refine wp_seq ?_
            refine wp_reg ?_
            refine st_move hf rfl rfl (by decide) ?_
            clear hf; intro a ha hf; clear ha
            refine st_igtr hf (by decide) rfl rfl rfl ?_
            clear hf; intro a ha hf; clear ha
            refine st_nil hf ?_
            refine th_n ?_
            refine wp_if hf rfl (fun hb => ?_) (fun hb => ?_)
            · replace h := ifT h hb
              refine wp_seq ?_
              refine wp_reg ?_
              refine st_assign hf rfl rfl (by decide) ?_
              clear hf; intro a ha hf; clear ha
              refine st_nil hf ?_
              refine th_n ?_
              refine wp_ret ?_
              refine th_r ?_
              obtain rfl := Option.some.inj h
              have hp : Hp _ _ _ (ow) := Hp.sel (pre := [Res.opt (LoomK 75 5) v5 q3.1, Res.opt (LoomK 75 5) v9 q7.1]) (tail := ow) (rs' := []) hp [] (by decide) (by simp) rfl
              exact ⟨rfl, ⟨hf.sub ⟨rfl, trivial⟩, hp⟩⟩
            · replace h := ifF h hb
              refine wp_skip ?_
              refine th_n ?_
              refine wp_seq ?_
              refine wp_reg ?_
              refine st_move hf rfl rfl (by decide) ?_
              clear hf; intro a ha hf; clear ha
              refine st_move hf rfl rfl (by decide) ?_
              clear hf; intro a ha hf; clear ha
              obtain ⟨hc25, h⟩ := chk h
              refine st_make (E := (Ek.int .u8)) hf (by decide) elt5 Try.underlying59 (by decide) hp rfl rfl rfl hc25.1 hc25.2.1 hc25.2.2 ?_
              clear hf; intro a w v26 hf hp0; clear hp; have hp := hp0; clear hp0
              replace hp : Hp _ _ _ (Res.sl (Ek.int .u8) 5 v26 (List.replicate (q22).toNat (0 : Int)) :: Res.opt (LoomK 75 5) v5 q3.1 :: Res.opt (LoomK 75 5) v9 q7.1 :: ow) := hp
              refine st_convBS hf (by decide) Try.underlying59 Try.underlying5 Try.underlying9 rfl rfl (hp.sl (i := 0) rfl) ?_
              clear hf; intro a ha hf; clear ha
              obtain ⟨hc28, h⟩ := chk h
              refine st_sadd hf (by decide) rfl rfl rfl hc28 ?_
              clear hf; intro a ha hf; clear ha
              refine st_assign hf rfl rfl (by decide) ?_
              clear hf; intro a ha hf; clear ha
              refine st_nil hf ?_
              refine th_n ?_
              refine wp_seq ?_
              refine wp_reg ?_
              refine st_assign hf rfl rfl (by decide) ?_
              clear hf; intro a ha hf; clear ha
              refine st_nil hf ?_
              refine th_n ?_
              refine wp_seq ?_
              refine wp_reg ?_
              refine st_assign hf rfl rfl (by decide) ?_
              clear hf; intro a ha hf; clear ha
              refine st_nil hf ?_
              refine th_n ?_
              refine wp_seq ?_
              refine wp_seq ?_
              refine wp_reg ?_
              refine st_assign hf rfl rfl (by decide) ?_
              clear hf; intro a ha hf; clear ha
              refine st_nil hf ?_
              refine th_n ?_
              refine wp_block ?_
              obtain ⟨q49, hl, h⟩ := bnd h
              have hp := hp.nil (Ek.int .u8) 5
              have hp : Hp _ _ _ (Res.opt (LoomK 75 5) v5 q3.1 :: Res.opt (LoomK 75 5) v9 q7.1 :: Res.sl (Ek.int .u8) 5 (.slice none 0 0) ([]) :: ow) := Hp.sel (pre := [Res.sl (Ek.int .u8) 5 (.slice none 0 0) ([]), Res.sl (Ek.int .u8) 5 v26 (List.replicate (q22).toNat (0 : Int)), Res.opt (LoomK 75 5) v5 q3.1, Res.opt (LoomK 75 5) v9 q7.1]) (tail := ow) (rs' := [Res.opt (LoomK 75 5) v5 q3.1, Res.opt (LoomK 75 5) v9 q7.1, Res.sl (Ek.int .u8) 5 (.slice none 0 0) ([])]) hp [2, 3, 0] (by decide) (by simp) rfl
              refine wp_loop_pure (f := (f_foghornlaw17_WeaveDelays.s1 s2 cuts3 q22)) (s := (q3.1, q7.1, [], (0 : Int), (0 : Int))) (fun s a w => ∃ (v31 : Value), Fr 156 a [(2, .string s2), (3, vcuts3), (9, v5), (11, v9), (13, .int .i64 q22), (14, .string (s2 ++ (bstr (List.replicate (q22).toNat (0 : Int))))), (15, v31), (16, .int .i64 s.2.2.2.1), (17, .int .i64 s.2.2.2.2)] ∧ Hp S w0 w (Res.opt (LoomK 75 5) v5 s.1 :: Res.opt (LoomK 75 5) v9 s.2.1 :: Res.sl (Ek.int .u8) 5 v31 s.2.2.1 :: ow)) (fun q e a w => match q with | (Sum.inl q) => e = .exit 0 ∧ ∃ (v33 : Value), Fr 156 a [(2, .string s2), (13, .int .i64 q22), (14, .string (s2 ++ (bstr (List.replicate (q22).toNat (0 : Int))))), (15, v33)] ∧ Hp S w0 w (Res.sl (Ek.int .u8) 5 v33 q :: ow) | (Sum.inr q) => e = .ret ∧ Fr 156 a [(8, .bool q)] ∧ Hp S w0 w (ow)) ?_ hl ⟨_, hf.sub ⟨rfl, rfl, rfl, rfl, rfl, rfl, rfl, rfl, rfl, trivial⟩, hp⟩ ?_
              · clear hl hf hp
                intro s x a w h hI
                obtain ⟨a9, b11, out15, at16, i17⟩ := s
                obtain ⟨v31, hf, hp⟩ : ∃ (v31 : Value), Fr 156 a [(2, .string s2), (3, vcuts3), (9, v5), (11, v9), (13, .int .i64 q22), (14, .string (s2 ++ (bstr (List.replicate (q22).toNat (0 : Int))))), (15, v31), (16, .int .i64 at16), (17, .int .i64 i17)] ∧ Hp S w0 w (Res.opt (LoomK 75 5) v5 a9 :: Res.opt (LoomK 75 5) v9 b11 :: Res.sl (Ek.int .u8) 5 v31 out15 :: ow) := hI
                replace h : f_foghornlaw17_WeaveDelays.s1c s2 cuts3 q22 a9 b11 out15 at16 i17 = some x := h
                unfold f_foghornlaw17_WeaveDelays.s1c at h
                refine wp_seq ?_
                refine wp_seq ?_
                refine wp_reg ?_
                refine st_move hf rfl rfl (by decide) ?_
                clear hf; intro a ha hf; clear ha
                refine st_move hf rfl rfl (by decide) ?_
                clear hf; intro a ha hf; clear ha
                refine st_slen hf (by decide) Try.underlying9 rfl rfl ?_
                clear hf; intro a ha hf; clear ha
                refine st_ilss hf (by decide) rfl rfl rfl ?_
                clear hf; intro a ha hf; clear ha
                refine st_nil hf ?_
                refine th_n ?_
                refine wp_if hf rfl (fun hb => ?_) (fun hb => ?_)
                · replace h := ifT h hb
                  refine wp_skip ?_
                  refine th_n ?_
                  refine wp_seq ?_
                  refine wp_block ?_
                  refine wp_seq ?_
                  refine wp_reg ?_
                  refine st_move hf rfl rfl (by decide) ?_
                  clear hf; intro a ha hf; clear ha
                  refine st_slen hf (by decide) Try.underlying9 rfl rfl ?_
                  clear hf; intro a ha hf; clear ha
                  refine st_move hf rfl rfl (by decide) ?_
                  clear hf; intro a ha hf; clear ha
                  refine st_isub hf (by decide) rfl rfl rfl ?_
                  clear hf; intro a ha hf; clear ha
                  refine st_assign hf rfl rfl (by decide) ?_
                  clear hf; intro a ha hf; clear ha
                  refine st_nil hf ?_
                  refine th_n ?_
                  refine wp_seq_cut (fun a w => ∃ (n18 : Int), f_foghornlaw17_WeaveDelays.j2 s2 q22 a9 b11 out15 at16 i17 n18 = some x ∧ Fr 156 a [(2, .string s2), (3, vcuts3), (9, v5), (11, v9), (13, .int .i64 q22), (14, .string (s2 ++ (bstr (List.replicate (q22).toNat (0 : Int))))), (15, v31), (16, .int .i64 at16), (17, .int .i64 i17), (18, .int .i64 n18)] ∧ Hp S w0 w (Res.opt (LoomK 75 5) v5 a9 :: Res.opt (LoomK 75 5) v9 b11 :: Res.sl (Ek.int .u8) 5 v31 out15 :: ow)) ?_ ?_
                  · skip
                    refine wp_seq ?_
                    refine wp_reg ?_
                    refine st_move hf rfl rfl (by decide) ?_
                    clear hf; intro a ha hf; clear ha
                    refine st_move hf rfl rfl (by decide) ?_
                    clear hf; intro a ha hf; clear ha
                    refine st_len (E := (Ek.int .i64)) hf (by decide) Try.underlying22 rfl rfl (hcuts3.sl hp) ?_
                    clear hf; intro a ha hf; clear ha
                    refine st_ilss hf (by decide) rfl rfl rfl ?_
                    clear hf; intro a ha hf; clear ha
                    refine st_nil hf ?_
                    refine th_n ?_
                    refine wp_if hf rfl (fun hb => ?_) (fun hb => ?_)
                    · replace h := ifT h hb
                      refine wp_reg ?_
                      refine st_move hf rfl rfl (by decide) ?_
                      clear hf; intro a ha hf; clear ha
                      refine st_move hf rfl rfl (by decide) ?_
                      clear hf; intro a ha hf; clear ha
                      refine st_move hf rfl rfl (by decide) ?_
                      clear hf; intro a ha hf; clear ha
                      obtain ⟨hc48, h⟩ := chk h
                      refine st_index (E := (Ek.int .i64)) hf (by decide) Try.underlying22 elt3 rfl rfl rfl (hcuts3.sl hp) hc48.1 hc48.2 ?_
                      clear hf; intro a ha hf; clear ha
                      refine st_ldI hf (by decide) pl3 rfl rfl (hcuts3.sl hp) hc48.1 hc48.2 ?_
                      clear hf; intro a ha hf; clear ha
                      refine st_irem hf (by decide) rfl rfl rfl (by decide) ?_
                      clear hf; intro a ha hf; clear ha
                      refine st_iadd hf (by decide) rfl rfl rfl ?_
                      clear hf; intro a ha hf; clear ha
                      refine st_irem hf (by decide) rfl rfl rfl (by decide) ?_
                      clear hf; intro a ha hf; clear ha
                      refine st_iadd hf (by decide) rfl rfl rfl ?_
                      clear hf; intro a ha hf; clear ha
                      refine st_imin hf (by decide) rfl rfl rfl ?_
                      clear hf; intro a ha hf; clear ha
                      refine st_assign hf rfl rfl (by decide) ?_
                      clear hf; intro a ha hf; clear ha
                      refine st_nil hf ?_
                      refine th_n ?_
                      exact ⟨_, h, hf.sub ⟨rfl, rfl, rfl, rfl, rfl, rfl, rfl, rfl, rfl, rfl, trivial⟩, hp⟩
                    · replace h := ifF h hb
                      refine wp_skip ?_
                      refine th_n ?_
                      exact ⟨_, h, hf.sub ⟨rfl, rfl, rfl, rfl, rfl, rfl, rfl, rfl, rfl, rfl, trivial⟩, hp⟩
                  · rintro a w ⟨n18, h, hf, hp⟩
                    unfold f_foghornlaw17_WeaveDelays.j2 at h
                    refine wp_seq ?_
                    refine wp_reg ?_
                    refine st_move hf rfl rfl (by decide) ?_
                    clear hf; intro a ha hf; clear ha
                    refine st_move hf rfl rfl (by decide) ?_
                    clear hf; intro a ha hf; clear ha
                    refine st_move hf rfl rfl (by decide) ?_
                    clear hf; intro a ha hf; clear ha
                    refine st_move hf rfl rfl (by decide) ?_
                    clear hf; intro a ha hf; clear ha
                    refine st_move hf rfl rfl (by decide) ?_
                    clear hf; intro a ha hf; clear ha
                    refine st_iadd hf (by decide) rfl rfl rfl ?_
                    clear hf; intro a ha hf; clear ha
                    obtain ⟨hc35, h⟩ := chk h
                    refine st_strLH hf (by decide) Try.underlying9 rfl rfl rfl rfl hc35 ?_
                    clear hf; intro a ha hf; clear ha
                    obtain ⟨q36, hcall37, h⟩ := bnd h
                    have hp38 : Hp _ _ _ (Res.opt (LoomK 75 5) v5 a9 :: Res.opt (LoomK 75 5) v9 b11 :: Res.sl (Ek.int .u8) 5 v31 out15 :: ow) := Hp.sel (pre := [Res.opt (LoomK 75 5) v5 a9, Res.opt (LoomK 75 5) v9 b11, Res.sl (Ek.int .u8) 5 v31 out15]) (tail := ow) (rs' := [Res.opt (LoomK 75 5) v5 a9, Res.opt (LoomK 75 5) v9 b11, Res.sl (Ek.int .u8) 5 v31 out15]) hp [0, 1, 2] (by decide) (by simp) rfl
                    refine st_call hf (by decide) Try.func32 rfl rfl rfl rfl rfl (f_weave_Loom_Run_c _ _ _ hp38 hcall37) ?_
                    rintro _ w ⟨rfl, hp0⟩
                    clear hp; have hp := hp0; clear hp0
                    replace hp : Hp _ _ _ (Res.opt (LoomK 75 5) v5 q36.2.2 :: Res.opt (LoomK 75 5) v9 b11 :: Res.sl (Ek.int .u8) 5 v31 out15 :: ow) := hp
                    refine ⟨_, rfl, ?_⟩
                    clear hf; intro a hf
                    refine st_move hf rfl rfl (by decide) ?_
                    clear hf; intro a ha hf; clear ha
                    refine st_extract hf (by decide) rfl rfl rfl ?_
                    clear hf; intro a ha hf; clear ha
                    refine st_extract hf (by decide) rfl rfl rfl ?_
                    clear hf; intro a ha hf; clear ha
                    refine st_assign hf rfl rfl (by decide) ?_
                    clear hf; intro a ha hf; clear ha
                    refine st_assign hf rfl rfl (by decide) ?_
                    clear hf; intro a ha hf; clear ha
                    refine st_nil hf ?_
                    refine th_n ?_
                    refine wp_seq ?_
                    refine wp_reg ?_
                    refine st_move hf rfl rfl (by decide) ?_
                    clear hf; intro a ha hf; clear ha
                    refine st_move hf rfl rfl (by decide) ?_
                    clear hf; intro a ha hf; clear ha
                    obtain ⟨q39, hcall40, h⟩ := bnd h
                    have hp41 : Hp _ _ _ (Res.opt (LoomK 75 5) v9 b11 :: Res.opt (LoomK 75 5) v5 q36.2.2 :: Res.sl (Ek.int .u8) 5 v31 out15 :: ow) := Hp.sel (pre := [Res.opt (LoomK 75 5) v5 q36.2.2, Res.opt (LoomK 75 5) v9 b11, Res.sl (Ek.int .u8) 5 v31 out15]) (tail := ow) (rs' := [Res.opt (LoomK 75 5) v9 b11, Res.opt (LoomK 75 5) v5 q36.2.2, Res.sl (Ek.int .u8) 5 v31 out15]) hp [1, 0, 2] (by decide) (by simp) rfl
                    refine st_call hf (by decide) Try.func32 rfl rfl rfl rfl rfl (f_weave_Loom_Run_c _ _ _ hp41 hcall40) ?_
                    rintro _ w ⟨rfl, hp0⟩
                    clear hp; have hp := hp0; clear hp0
                    replace hp : Hp _ _ _ (Res.opt (LoomK 75 5) v9 q39.2.2 :: Res.opt (LoomK 75 5) v5 q36.2.2 :: Res.sl (Ek.int .u8) 5 v31 out15 :: ow) := hp
                    refine ⟨_, rfl, ?_⟩
                    clear hf; intro a hf
                    refine st_move hf rfl rfl (by decide) ?_
                    clear hf; intro a ha hf; clear ha
                    refine st_extract hf (by decide) rfl rfl rfl ?_
                    clear hf; intro a ha hf; clear ha
                    refine st_extract hf (by decide) rfl rfl rfl ?_
                    clear hf; intro a ha hf; clear ha
                    refine st_assign hf rfl rfl (by decide) ?_
                    clear hf; intro a ha hf; clear ha
                    refine st_assign hf rfl rfl (by decide) ?_
                    clear hf; intro a ha hf; clear ha
                    refine st_nil hf ?_
                    refine th_n ?_
                    refine wp_seq ?_
                    refine wp_seq ?_
                    refine wp_reg ?_
                    refine st_move hf rfl rfl (by decide) ?_
                    clear hf; intro a ha hf; clear ha
                    refine st_ineq hf (by decide) rfl rfl rfl ?_
                    clear hf; intro a ha hf; clear ha
                    refine st_move hf rfl rfl (by decide) ?_
                    clear hf; intro a ha hf; clear ha
                    refine wpList_cut 3 (fun a w => Fr 156 a [(2, .string s2), (3, vcuts3), (9, v5), (11, v9), (13, .int .i64 q22), (14, .string (s2 ++ (bstr (List.replicate (q22).toNat (0 : Int))))), (15, v31), (16, .int .i64 at16), (17, .int .i64 i17), (18, .int .i64 n18), (21, .string q39.1), (120, .bool ((q36.2.1 != (0 : Int)) || (q39.2.1 != (0 : Int))))] ∧ Hp S w0 w (Res.opt (LoomK 75 5) v9 q39.2.2 :: Res.opt (LoomK 75 5) v5 q36.2.2 :: Res.sl (Ek.int .u8) 5 v31 out15 :: ow)) ?_ ?_
                    · rcases Bool.eq_false_or_eq_true (q36.2.1 != (0 : Int)) with hb43 | hb43
                      · skip
                        refine st_skip hf (wantN hf rfl rfl hb43) rfl (by decide) ?_ rfl
                        clear hf; intro a hf
                        refine st_skip hf (wantN hf rfl rfl hb43) rfl (by decide) ?_ rfl
                        clear hf; intro a hf
                        refine st_pick (v := .bool true) hf rfl rfl (fun hb' => ?_) (fun hb' => ?_) (by decide) ?_
                        · rfl
                        · exact absurd (hb43.symm.trans hb') (by decide)
                        clear hf; intro a ha hf; clear ha
                        refine st_nil hf (th_n ?_)
                        exact ⟨hf.sub ⟨rfl, rfl, rfl, rfl, rfl, rfl, rfl, rfl, rfl, rfl, rfl, (by rw [hb43]; rfl), trivial⟩, hp⟩
                      · skip
                        refine st_move hf (wantY hf rfl rfl hb43) rfl (by decide) ?_
                        clear hf; intro a ha hf; clear ha
                        refine st_ineq hf (by decide) (wantY hf rfl rfl hb43) rfl rfl ?_
                        clear hf; intro a ha hf; clear ha
                        refine st_pick (v := .bool (q39.2.1 != (0 : Int))) hf rfl rfl (fun hb' => ?_) (fun hb' => ?_) (by decide) ?_
                        · exact absurd (hb43.symm.trans hb') (by decide)
                        · rfl
                        clear hf; intro a ha hf; clear ha
                        refine st_nil hf (th_n ?_)
                        exact ⟨hf.sub ⟨rfl, rfl, rfl, rfl, rfl, rfl, rfl, rfl, rfl, rfl, rfl, (by rw [hb43]; rfl), trivial⟩, hp⟩
                    · rintro a w ⟨hf, hp⟩
                      refine st_move hf rfl rfl (by decide) ?_
                      clear hf; intro a ha hf; clear ha
                      refine wpList_cut 5 (fun a w => Fr 156 a [(2, .string s2), (3, vcuts3), (9, v5), (11, v9), (13, .int .i64 q22), (14, .string (s2 ++ (bstr (List.replicate (q22).toNat (0 : Int))))), (15, v31), (16, .int .i64 at16), (17, .int .i64 i17), (18, .int .i64 n18), (21, .string q39.1), (126, .bool (((q36.2.1 != (0 : Int)) || (q39.2.1 != (0 : Int))) || ((q39.1.size : Int) != n18)))] ∧ Hp S w0 w (Res.opt (LoomK 75 5) v9 q39.2.2 :: Res.opt (LoomK 75 5) v5 q36.2.2 :: Res.sl (Ek.int .u8) 5 v31 out15 :: ow)) ?_ ?_
                      · rcases Bool.eq_false_or_eq_true ((q36.2.1 != (0 : Int)) || (q39.2.1 != (0 : Int))) with hb45 | hb45
                        · skip
                          refine st_skip hf (wantN hf rfl rfl hb45) rfl (by decide) ?_ rfl
                          clear hf; intro a hf
                          refine st_skip hf (wantN hf rfl rfl hb45) rfl (by decide) ?_ rfl
                          clear hf; intro a hf
                          refine st_skip hf (wantN hf rfl rfl hb45) rfl (by decide) ?_ rfl
                          clear hf; intro a hf
                          refine st_skip hf (wantN hf rfl rfl hb45) rfl (by decide) ?_ rfl
                          clear hf; intro a hf
                          refine st_pick (v := .bool true) hf rfl rfl (fun hb' => ?_) (fun hb' => ?_) (by decide) ?_
                          · rfl
                          · exact absurd (hb45.symm.trans hb') (by decide)
                          clear hf; intro a ha hf; clear ha
                          refine st_nil hf (th_n ?_)
                          exact ⟨hf.sub ⟨rfl, rfl, rfl, rfl, rfl, rfl, rfl, rfl, rfl, rfl, rfl, (by rw [hb45]; rfl), trivial⟩, hp⟩
                        · skip
                          refine st_move hf (wantY hf rfl rfl hb45) rfl (by decide) ?_
                          clear hf; intro a ha hf; clear ha
                          refine st_slen hf (by decide) Try.underlying9 (wantY hf rfl rfl hb45) rfl ?_
                          clear hf; intro a ha hf; clear ha
                          refine st_move hf (wantY hf rfl rfl hb45) rfl (by decide) ?_
                          clear hf; intro a ha hf; clear ha
                          refine st_ineq hf (by decide) (wantY hf rfl rfl hb45) rfl rfl ?_
                          clear hf; intro a ha hf; clear ha
                          refine st_pick (v := .bool ((q39.1.size : Int) != n18)) hf rfl rfl (fun hb' => ?_) (fun hb' => ?_) (by decide) ?_
                          · exact absurd (hb45.symm.trans hb') (by decide)
                          · rfl
                          clear hf; intro a ha hf; clear ha
                          refine st_nil hf (th_n ?_)
                          exact ⟨hf.sub ⟨rfl, rfl, rfl, rfl, rfl, rfl, rfl, rfl, rfl, rfl, rfl, (by rw [hb45]; rfl), trivial⟩, hp⟩
                      · rintro a w ⟨hf, hp⟩
                        refine st_nil hf ?_
                        refine th_n ?_
                        refine wp_if hf rfl (fun hb => ?_) (fun hb => ?_)
                        · replace h := ifT h hb
                          refine wp_seq ?_
                          refine wp_reg ?_
                          refine st_assign hf rfl rfl (by decide) ?_
                          clear hf; intro a ha hf; clear ha
                          refine st_nil hf ?_
                          refine th_n ?_
                          refine wp_ret ?_
                          refine th_r ?_
                          refine ib_r ?_
                          refine th_r ?_
                          obtain rfl := Option.some.inj h
                          have hp : Hp _ _ _ (ow) := Hp.sel (pre := [Res.opt (LoomK 75 5) v9 q39.2.2, Res.opt (LoomK 75 5) v5 q36.2.2, Res.sl (Ek.int .u8) 5 v31 out15]) (tail := ow) (rs' := []) hp [] (by decide) (by simp) rfl
                          exact rnd_r (by simp) ⟨rfl, ⟨hf.sub ⟨rfl, trivial⟩, hp⟩⟩
                        · replace h := ifF h hb
                          refine wp_skip ?_
                          refine th_n ?_
                          refine wp_seq ?_
                          refine wp_reg ?_
                          refine st_move hf rfl rfl (by decide) ?_
                          clear hf; intro a ha hf; clear ha
                          refine st_move hf rfl rfl (by decide) ?_
                          clear hf; intro a ha hf; clear ha
                          obtain ⟨hc46, h⟩ := chk h
                          refine st_appendStr hf (by decide) elt5 Try.underlying59 Try.underlying9 hp (i := 2) rfl rfl rfl rfl hc46 ?_
                          clear hf; intro a w v47 hf hp0; clear hp; have hp := hp0; clear hp0
                          replace hp : Hp _ _ _ (Res.opt (LoomK 75 5) v9 q39.2.2 :: Res.opt (LoomK 75 5) v5 q36.2.2 :: Res.sl (Ek.int .u8) 5 v47 (out15 ++ sbytes q39.1) :: ow) := hp
                          refine st_assign hf rfl rfl (by decide) ?_
                          clear hf; intro a ha hf; clear ha
                          refine st_nil hf ?_
                          refine th_n ?_
                          refine wp_reg ?_
                          refine st_move hf rfl rfl (by decide) ?_
                          clear hf; intro a ha hf; clear ha
                          refine st_move hf rfl rfl (by decide) ?_
                          clear hf; intro a ha hf; clear ha
                          refine st_iadd hf (by decide) rfl rfl rfl ?_
                          clear hf; intro a ha hf; clear ha
                          refine st_assign hf rfl rfl (by decide) ?_
                          clear hf; intro a ha hf; clear ha
                          refine st_nil hf ?_
                          refine ib_n ?_
                          refine th_n ?_
                          refine wp_reg ?_
                          refine st_move hf rfl rfl (by decide) ?_
                          clear hf; intro a ha hf; clear ha
                          refine st_iadd hf (by decide) rfl rfl rfl ?_
                          clear hf; intro a ha hf; clear ha
                          refine st_assign hf rfl rfl (by decide) ?_
                          clear hf; intro a ha hf; clear ha
                          refine st_nil hf ?_
                          obtain rfl := Option.some.inj h
                          have hp : Hp _ _ _ (Res.opt (LoomK 75 5) v5 q36.2.2 :: Res.opt (LoomK 75 5) v9 q39.2.2 :: Res.sl (Ek.int .u8) 5 v47 (out15 ++ sbytes q39.1) :: ow) := Hp.sel (pre := [Res.opt (LoomK 75 5) v9 q39.2.2, Res.opt (LoomK 75 5) v5 q36.2.2, Res.sl (Ek.int .u8) 5 v47 (out15 ++ sbytes q39.1)]) (tail := ow) (rs' := [Res.opt (LoomK 75 5) v5 q36.2.2, Res.opt (LoomK 75 5) v9 q39.2.2, Res.sl (Ek.int .u8) 5 v47 (out15 ++ sbytes q39.1)]) hp [1, 0, 2] (by decide) (by simp) rfl
                          exact rnd_l ⟨_, hf.sub ⟨rfl, rfl, rfl, rfl, rfl, rfl, rfl, rfl, rfl, trivial⟩, hp⟩
                · replace h := ifF h hb
                  refine wp_exit ?_
                  refine th_e ?_
                  obtain rfl := Option.some.inj h
                  have hp : Hp _ _ _ (Res.sl (Ek.int .u8) 5 v31 out15 :: ow) := Hp.sel (pre := [Res.opt (LoomK 75 5) v5 a9, Res.opt (LoomK 75 5) v9 b11, Res.sl (Ek.int .u8) 5 v31 out15]) (tail := ow) (rs' := [Res.sl (Ek.int .u8) 5 v31 out15]) hp [2] (by decide) (by simp) rfl
                  exact rnd_r (by simp) ⟨rfl, _, hf.sub ⟨rfl, rfl, rfl, rfl, trivial⟩, hp⟩
              · clear hl hf hp
                intro e a w hne hO
                cases q49 with
                | inl q51 =>
                  replace h := smL h
                  obtain ⟨rfl, v33, hf, hp⟩ := hO
                  refine ib_same ?_
                  refine th_n ?_
                  refine wp_seq ?_
                  obtain ⟨S53, hp54, rd55, up56, bk57⟩ := Hp.lendS hp (i := 0) rfl
                  have rl58 := rd55
                  obtain ⟨z67, hz59, h⟩ := bnd h
                  obtain ⟨z73, hz68, h⟩ := bnd h
                  refine wp_cutN (fun a w => Fr 156 a [(8, .bool z73)] ∧ Hp S w0 w (Res.sl (Ek.int .u8) 5 v33 q51 :: ow)) ?_ ?_
                  · have hp := hp54.same (Same.drew w)
                    rcases Bool.eq_false_or_eq_true ((q51.length : Int) == ((s2 ++ (bstr (List.replicate (q22).toNat (0 : Int)))).size : Int)) with hb60 | hb60
                    · skip
                      replace hz59 := ifT hz59 hb60
                      obtain ⟨hc61, hz59⟩ := chk hz59
                      have hc62 : 0 ≤ (q22).toNat := by omega
                      have hc63 : (q22).toNat ≤ q51.length := by omega
                      obtain ⟨hc64, hz59⟩ := chk hz59
                      replace hz59 := Option.some.inj hz59
                      rcases Bool.eq_false_or_eq_true z67 with hb69 | hb69
                      · skip
                        replace hz68 := ifT hz68 hb69
                        obtain ⟨hc70, hz68⟩ := chk hz68
                        have hc71 : (q22).toNat ≤ q51.length := by omega
                        have hc72 : q51.length ≤ q51.length := by omega
                        replace hz68 := Option.some.inj hz68
                        refine dr_begin' (fun a w => Fr 156 a [(8, .bool z73)] ∧ Hp S w0 w (Res.sl (Ek.int .u8) 5 v33 q51 :: ow)) (fun w' => ∃ l, Hp S53 w w' l) [] (by kernel_rfl) ?_
                        refine dr_take 0 (v33) rfl (by kernel_rfl) (by kernel_rfl) (by kernel_rfl) (by kernel_rfl) rfl rfl hf (by decide) rfl (fun w hp => ?_) ⟨_, hp⟩ ?_
                        · obtain ⟨_, hp⟩ := hp
                          refine st_move hf rfl rfl (by decide) ?_
                          clear hf; intro a ha hf
                          exact st_nil hf (th_n ⟨ha, rfl⟩)
                        clear hf; intro a hf
                        refine dr_take 1 (.int .i64 (q51.length : Int)) rfl (by kernel_rfl) (by kernel_rfl) (by kernel_rfl) (by kernel_rfl) rfl rfl hf (by decide) rfl (fun w hp => ?_) ⟨_, hp⟩ ?_
                        · obtain ⟨_, hp⟩ := hp
                          refine st_len (E := (Ek.int .u8)) hf (by decide) Try.underlying59 rfl rfl (rl58.sl hp) ?_
                          clear hf; intro a ha hf
                          exact st_nil hf (th_n ⟨ha, rfl⟩)
                        clear hf; intro a hf
                        refine dr_take 2 (.string (s2 ++ (bstr (List.replicate (q22).toNat (0 : Int))))) rfl (by kernel_rfl) (by kernel_rfl) (by kernel_rfl) (by kernel_rfl) rfl rfl hf (by decide) rfl (fun w hp => ?_) ⟨_, hp⟩ ?_
                        · obtain ⟨_, hp⟩ := hp
                          refine st_move hf rfl rfl (by decide) ?_
                          clear hf; intro a ha hf
                          exact st_nil hf (th_n ⟨ha, rfl⟩)
                        clear hf; intro a hf
                        refine dr_take 3 (.int .i64 ((s2 ++ (bstr (List.replicate (q22).toNat (0 : Int)))).size : Int)) rfl (by kernel_rfl) (by kernel_rfl) (by kernel_rfl) (by kernel_rfl) rfl rfl hf (by decide) rfl (fun w hp => ?_) ⟨_, hp⟩ ?_
                        · obtain ⟨_, hp⟩ := hp
                          refine st_slen hf (by decide) Try.underlying9 rfl rfl ?_
                          clear hf; intro a ha hf
                          exact st_nil hf (th_n ⟨ha, rfl⟩)
                        clear hf; intro a hf
                        refine dr_take 4 (.bool ((q51.length : Int) == ((s2 ++ (bstr (List.replicate (q22).toNat (0 : Int)))).size : Int))) rfl (by kernel_rfl) (by kernel_rfl) (by kernel_rfl) (by kernel_rfl) rfl rfl hf (by decide) rfl (fun w hp => ?_) ⟨_, hp⟩ ?_
                        · obtain ⟨_, hp⟩ := hp
                          refine st_ieql hf (by decide) rfl rfl rfl ?_
                          clear hf; intro a ha hf
                          exact st_nil hf (th_n ⟨ha, rfl⟩)
                        clear hf; intro a hf
                        refine dr_take 5 (.bool ((q51.length : Int) == ((s2 ++ (bstr (List.replicate (q22).toNat (0 : Int)))).size : Int))) rfl (by kernel_rfl) (by kernel_rfl) (by kernel_rfl) (by kernel_rfl) rfl rfl hf (by decide) rfl (fun w hp => ?_) ⟨_, hp⟩ ?_
                        · obtain ⟨_, hp⟩ := hp
                          refine st_move hf rfl rfl (by decide) ?_
                          clear hf; intro a ha hf
                          exact st_nil hf (th_n ⟨ha, rfl⟩)
                        clear hf; intro a hf
                        refine dr_take 6 (v33) rfl (by kernel_rfl) (by kernel_rfl) (by kernel_rfl) (by kernel_rfl) rfl rfl hf (by decide) (wantY hf rfl rfl hb60) (fun w hp => ?_) ⟨_, hp⟩ ?_
                        · obtain ⟨_, hp⟩ := hp
                          refine st_move hf (wantY hf rfl rfl hb60) rfl (by decide) ?_
                          clear hf; intro a ha hf
                          exact st_nil hf (th_n ⟨ha, rfl⟩)
                        clear hf; intro a hf
                        refine dr_take 7 (.int .i64 q22) rfl (by kernel_rfl) (by kernel_rfl) (by kernel_rfl) (by kernel_rfl) rfl rfl hf (by decide) (wantY hf rfl rfl hb60) (fun w hp => ?_) ⟨_, hp⟩ ?_
                        · obtain ⟨_, hp⟩ := hp
                          refine st_move hf (wantY hf rfl rfl hb60) rfl (by decide) ?_
                          clear hf; intro a ha hf
                          exact st_nil hf (th_n ⟨ha, rfl⟩)
                        clear hf; intro a hf
                        refine dr_take 8 ((GL.cut v33 0 (q22).toNat 1)) rfl (by kernel_rfl) (by kernel_rfl) (by kernel_rfl) (by kernel_rfl) rfl rfl hf (by decide) (wantY hf rfl rfl hb60) (fun w hp => ?_) ⟨_, hp⟩ ?_
                        · obtain ⟨_, hp⟩ := hp
                          refine st_cutS (E := (Ek.int .u8)) hf (by decide) Try.underlying59 elt5 (wantY hf rfl rfl hb60) rfl (rl58.sl hp) (.inl ⟨rfl, rfl⟩) (.inr ⟨_, _, rfl, evI rfl (by omega)⟩) hc62 hc63 ?_
                          clear hf; intro a ha hf
                          exact st_nil hf (th_n ⟨ha, rfl⟩)
                        clear hf; intro a hf
                        refine dr_take 9 (.string (bstr ((q51.drop 0).take ((q22).toNat - 0)))) rfl (by kernel_rfl) (by kernel_rfl) (by kernel_rfl) (by kernel_rfl) rfl rfl hf (by decide) (wantY hf rfl rfl hb60) (fun w hp => ?_) ⟨_, hp⟩ ?_
                        · obtain ⟨_, hp⟩ := hp
                          refine st_convBS hf (by decide) Try.underlying59 Try.underlying5 Try.underlying9 (wantY hf rfl rfl hb60) rfl ((RdS.cut rl58 hc62 hc63).sl hp) ?_
                          clear hf; intro a ha hf
                          exact st_nil hf (th_n ⟨ha, rfl⟩)
                        clear hf; intro a hf
                        refine dr_take 10 (.int .i64 q22) rfl (by kernel_rfl) (by kernel_rfl) (by kernel_rfl) (by kernel_rfl) rfl rfl hf (by decide) (wantY hf rfl rfl hb60) (fun w hp => ?_) ⟨_, hp⟩ ?_
                        · obtain ⟨_, hp⟩ := hp
                          refine st_move hf (wantY hf rfl rfl hb60) rfl (by decide) ?_
                          clear hf; intro a ha hf
                          exact st_nil hf (th_n ⟨ha, rfl⟩)
                        clear hf; intro a hf
                        refine dr_one 11 rfl (by kernel_rfl) ?_
                        refine st_make (E := (Ek.int .u8)) hf (by decide) elt5 Try.underlying59 (by decide) hp (wantY hf rfl rfl hb60) rfl rfl hc64.1 hc64.2.1 hc64.2.2 ?_
                        clear hf; intro a w v65 hf hp0; clear hp; have hp := hp0; clear hp0
                        replace hp : Hp _ _ _ (Res.sl (Ek.int .u8) 5 v65 (List.replicate (q22).toNat (0 : Int)) :: ow) := hp
                        refine st_nil hf (th_n ⟨fun _ _ => ⟨_, hp⟩, ?_⟩)
                        refine dr_one 12 rfl (by kernel_rfl) ?_
                        refine st_convBS hf (by decide) Try.underlying59 Try.underlying5 Try.underlying9 (wantY hf rfl rfl hb60) rfl (hp.sl (i := 0) rfl) ?_
                        clear hf; intro a ha hf; clear ha
                        have hp : Hp _ _ _ (ow) := Hp.sel (pre := [Res.sl (Ek.int .u8) 5 v65 (List.replicate (q22).toNat (0 : Int))]) (tail := ow) (rs' := []) hp [] (by decide) (by simp) rfl
                        refine st_nil hf (th_n ⟨fun _ _ => ⟨_, hp⟩, ?_⟩)
                        refine dr_take 13 (.bool (seq (bstr ((q51.drop 0).take ((q22).toNat - 0))) (bstr (List.replicate (q22).toNat (0 : Int))))) rfl (by kernel_rfl) (by kernel_rfl) (by kernel_rfl) (by kernel_rfl) rfl rfl hf (by decide) (wantY hf rfl rfl hb60) (fun w hp => ?_) ⟨_, hp⟩ ?_
                        · obtain ⟨_, hp⟩ := hp
                          refine st_seql hf (by decide) (wantY hf rfl rfl hb60) rfl rfl ?_
                          clear hf; intro a ha hf
                          exact st_nil hf (th_n ⟨ha, rfl⟩)
                        clear hf; intro a hf
                        refine dr_take 14 (.bool z67) rfl (by kernel_rfl) (by kernel_rfl) (by kernel_rfl) (by kernel_rfl) rfl rfl hf (by decide) rfl (fun w hp => ?_) ⟨_, hp⟩ ?_
                        · obtain ⟨_, hp⟩ := hp
                          refine st_pick (v := .bool z67) hf rfl rfl (fun _ => by rw [← hz59]; rfl) (fun hb' => absurd (hb60.symm.trans hb') (by decide)) (by decide) ?_
                          clear hf; intro a ha hf
                          exact st_nil hf (th_n ⟨ha, rfl⟩)
                        clear hf; intro a hf
                        refine dr_take 15 (.bool z67) rfl (by kernel_rfl) (by kernel_rfl) (by kernel_rfl) (by kernel_rfl) rfl rfl hf (by decide) rfl (fun w hp => ?_) ⟨_, hp⟩ ?_
                        · obtain ⟨_, hp⟩ := hp
                          refine st_move hf rfl rfl (by decide) ?_
                          clear hf; intro a ha hf
                          exact st_nil hf (th_n ⟨ha, rfl⟩)
                        clear hf; intro a hf
                        refine dr_take 16 (v33) rfl (by kernel_rfl) (by kernel_rfl) (by kernel_rfl) (by kernel_rfl) rfl rfl hf (by decide) (wantY hf rfl rfl hb69) (fun w hp => ?_) ⟨_, hp⟩ ?_
                        · obtain ⟨_, hp⟩ := hp
                          refine st_move hf (wantY hf rfl rfl hb69) rfl (by decide) ?_
                          clear hf; intro a ha hf
                          exact st_nil hf (th_n ⟨ha, rfl⟩)
                        clear hf; intro a hf
                        refine dr_take 17 (.int .i64 q22) rfl (by kernel_rfl) (by kernel_rfl) (by kernel_rfl) (by kernel_rfl) rfl rfl hf (by decide) (wantY hf rfl rfl hb69) (fun w hp => ?_) ⟨_, hp⟩ ?_
                        · obtain ⟨_, hp⟩ := hp
                          refine st_move hf (wantY hf rfl rfl hb69) rfl (by decide) ?_
                          clear hf; intro a ha hf
                          exact st_nil hf (th_n ⟨ha, rfl⟩)
                        clear hf; intro a hf
                        refine dr_take 18 ((GL.cut v33 (q22).toNat q51.length 1)) rfl (by kernel_rfl) (by kernel_rfl) (by kernel_rfl) (by kernel_rfl) rfl rfl hf (by decide) (wantY hf rfl rfl hb69) (fun w hp => ?_) ⟨_, hp⟩ ?_
                        · obtain ⟨_, hp⟩ := hp
                          refine st_cutS (E := (Ek.int .u8)) hf (by decide) Try.underlying59 elt5 (wantY hf rfl rfl hb69) rfl (rl58.sl hp) (.inr ⟨_, _, rfl, evI rfl hc70.1⟩) (.inl ⟨rfl, rfl⟩) hc71 hc72 ?_
                          clear hf; intro a ha hf
                          exact st_nil hf (th_n ⟨ha, rfl⟩)
                        clear hf; intro a hf
                        refine dr_take 19 (.string (bstr ((q51.drop ((q22).toNat)).take (q51.length - (q22).toNat)))) rfl (by kernel_rfl) (by kernel_rfl) (by kernel_rfl) (by kernel_rfl) rfl rfl hf (by decide) (wantY hf rfl rfl hb69) (fun w hp => ?_) ⟨_, hp⟩ ?_
                        · obtain ⟨_, hp⟩ := hp
                          refine st_convBS hf (by decide) Try.underlying59 Try.underlying5 Try.underlying9 (wantY hf rfl rfl hb69) rfl ((RdS.cut rl58 hc71 hc72).sl hp) ?_
                          clear hf; intro a ha hf
                          exact st_nil hf (th_n ⟨ha, rfl⟩)
                        clear hf; intro a hf
                        refine dr_take 20 (.string s2) rfl (by kernel_rfl) (by kernel_rfl) (by kernel_rfl) (by kernel_rfl) rfl rfl hf (by decide) (wantY hf rfl rfl hb69) (fun w hp => ?_) ⟨_, hp⟩ ?_
                        · obtain ⟨_, hp⟩ := hp
                          refine st_move hf (wantY hf rfl rfl hb69) rfl (by decide) ?_
                          clear hf; intro a ha hf
                          exact st_nil hf (th_n ⟨ha, rfl⟩)
                        clear hf; intro a hf
                        refine dr_take 21 (.bool (seq (bstr ((q51.drop ((q22).toNat)).take (q51.length - (q22).toNat))) s2)) rfl (by kernel_rfl) (by kernel_rfl) (by kernel_rfl) (by kernel_rfl) rfl rfl hf (by decide) (wantY hf rfl rfl hb69) (fun w hp => ?_) ⟨_, hp⟩ ?_
                        · obtain ⟨_, hp⟩ := hp
                          refine st_seql hf (by decide) (wantY hf rfl rfl hb69) rfl rfl ?_
                          clear hf; intro a ha hf
                          exact st_nil hf (th_n ⟨ha, rfl⟩)
                        clear hf; intro a hf
                        refine dr_take 22 (.bool z73) rfl (by kernel_rfl) (by kernel_rfl) (by kernel_rfl) (by kernel_rfl) rfl rfl hf (by decide) rfl (fun w hp => ?_) ⟨_, hp⟩ ?_
                        · obtain ⟨_, hp⟩ := hp
                          refine st_pick (v := .bool z73) hf rfl rfl (fun _ => by rw [← hz68]; rfl) (fun hb' => absurd (hb69.symm.trans hb') (by decide)) (by decide) ?_
                          clear hf; intro a ha hf
                          exact st_nil hf (th_n ⟨ha, rfl⟩)
                        clear hf; intro a hf
                        refine dr_take 23 (.bool z73) rfl (by kernel_rfl) (by kernel_rfl) (by kernel_rfl) (by kernel_rfl) rfl rfl hf (by decide) rfl (fun w hp => ?_) ⟨_, hp⟩ ?_
                        · obtain ⟨_, hp⟩ := hp
                          refine st_assign hf rfl rfl (by decide) ?_
                          clear hf; intro a ha hf
                          exact st_nil hf (th_n ⟨ha, rfl⟩)
                        clear hf; intro a hf
                        refine dr_end (by kernel_rfl) ?_ _
                        have hp := bk57 _ _ hp
                        exact ⟨hf.sub ⟨rfl, trivial⟩, hp⟩
                      · skip
                        replace hz68 := ifF hz68 hb69
                        replace hz68 := Option.some.inj hz68
                        refine dr_begin' (fun a w => Fr 156 a [(8, .bool z73)] ∧ Hp S w0 w (Res.sl (Ek.int .u8) 5 v33 q51 :: ow)) (fun w' => ∃ l, Hp S53 w w' l) [] (by kernel_rfl) ?_
                        refine dr_take 0 (v33) rfl (by kernel_rfl) (by kernel_rfl) (by kernel_rfl) (by kernel_rfl) rfl rfl hf (by decide) rfl (fun w hp => ?_) ⟨_, hp⟩ ?_
                        · obtain ⟨_, hp⟩ := hp
                          refine st_move hf rfl rfl (by decide) ?_
                          clear hf; intro a ha hf
                          exact st_nil hf (th_n ⟨ha, rfl⟩)
                        clear hf; intro a hf
                        refine dr_take 1 (.int .i64 (q51.length : Int)) rfl (by kernel_rfl) (by kernel_rfl) (by kernel_rfl) (by kernel_rfl) rfl rfl hf (by decide) rfl (fun w hp => ?_) ⟨_, hp⟩ ?_
                        · obtain ⟨_, hp⟩ := hp
                          refine st_len (E := (Ek.int .u8)) hf (by decide) Try.underlying59 rfl rfl (rl58.sl hp) ?_
                          clear hf; intro a ha hf
                          exact st_nil hf (th_n ⟨ha, rfl⟩)
                        clear hf; intro a hf
                        refine dr_take 2 (.string (s2 ++ (bstr (List.replicate (q22).toNat (0 : Int))))) rfl (by kernel_rfl) (by kernel_rfl) (by kernel_rfl) (by kernel_rfl) rfl rfl hf (by decide) rfl (fun w hp => ?_) ⟨_, hp⟩ ?_
                        · obtain ⟨_, hp⟩ := hp
                          refine st_move hf rfl rfl (by decide) ?_
                          clear hf; intro a ha hf
                          exact st_nil hf (th_n ⟨ha, rfl⟩)
                        clear hf; intro a hf
                        refine dr_take 3 (.int .i64 ((s2 ++ (bstr (List.replicate (q22).toNat (0 : Int)))).size : Int)) rfl (by kernel_rfl) (by kernel_rfl) (by kernel_rfl) (by kernel_rfl) rfl rfl hf (by decide) rfl (fun w hp => ?_) ⟨_, hp⟩ ?_
                        · obtain ⟨_, hp⟩ := hp
                          refine st_slen hf (by decide) Try.underlying9 rfl rfl ?_
                          clear hf; intro a ha hf
                          exact st_nil hf (th_n ⟨ha, rfl⟩)
                        clear hf; intro a hf
                        refine dr_take 4 (.bool ((q51.length : Int) == ((s2 ++ (bstr (List.replicate (q22).toNat (0 : Int)))).size : Int))) rfl (by kernel_rfl) (by kernel_rfl) (by kernel_rfl) (by kernel_rfl) rfl rfl hf (by decide) rfl (fun w hp => ?_) ⟨_, hp⟩ ?_
                        · obtain ⟨_, hp⟩ := hp
                          refine st_ieql hf (by decide) rfl rfl rfl ?_
                          clear hf; intro a ha hf
                          exact st_nil hf (th_n ⟨ha, rfl⟩)
                        clear hf; intro a hf
                        refine dr_take 5 (.bool ((q51.length : Int) == ((s2 ++ (bstr (List.replicate (q22).toNat (0 : Int)))).size : Int))) rfl (by kernel_rfl) (by kernel_rfl) (by kernel_rfl) (by kernel_rfl) rfl rfl hf (by decide) rfl (fun w hp => ?_) ⟨_, hp⟩ ?_
                        · obtain ⟨_, hp⟩ := hp
                          refine st_move hf rfl rfl (by decide) ?_
                          clear hf; intro a ha hf
                          exact st_nil hf (th_n ⟨ha, rfl⟩)
                        clear hf; intro a hf
                        refine dr_take 6 (v33) rfl (by kernel_rfl) (by kernel_rfl) (by kernel_rfl) (by kernel_rfl) rfl rfl hf (by decide) (wantY hf rfl rfl hb60) (fun w hp => ?_) ⟨_, hp⟩ ?_
                        · obtain ⟨_, hp⟩ := hp
                          refine st_move hf (wantY hf rfl rfl hb60) rfl (by decide) ?_
                          clear hf; intro a ha hf
                          exact st_nil hf (th_n ⟨ha, rfl⟩)
                        clear hf; intro a hf
                        refine dr_take 7 (.int .i64 q22) rfl (by kernel_rfl) (by kernel_rfl) (by kernel_rfl) (by kernel_rfl) rfl rfl hf (by decide) (wantY hf rfl rfl hb60) (fun w hp => ?_) ⟨_, hp⟩ ?_
                        · obtain ⟨_, hp⟩ := hp
                          refine st_move hf (wantY hf rfl rfl hb60) rfl (by decide) ?_
                          clear hf; intro a ha hf
                          exact st_nil hf (th_n ⟨ha, rfl⟩)
                        clear hf; intro a hf
                        refine dr_take 8 ((GL.cut v33 0 (q22).toNat 1)) rfl (by kernel_rfl) (by kernel_rfl) (by kernel_rfl) (by kernel_rfl) rfl rfl hf (by decide) (wantY hf rfl rfl hb60) (fun w hp => ?_) ⟨_, hp⟩ ?_
                        · obtain ⟨_, hp⟩ := hp
                          refine st_cutS (E := (Ek.int .u8)) hf (by decide) Try.underlying59 elt5 (wantY hf rfl rfl hb60) rfl (rl58.sl hp) (.inl ⟨rfl, rfl⟩) (.inr ⟨_, _, rfl, evI rfl (by omega)⟩) hc62 hc63 ?_
                          clear hf; intro a ha hf
                          exact st_nil hf (th_n ⟨ha, rfl⟩)
                        clear hf; intro a hf
                        refine dr_take 9 (.string (bstr ((q51.drop 0).take ((q22).toNat - 0)))) rfl (by kernel_rfl) (by kernel_rfl) (by kernel_rfl) (by kernel_rfl) rfl rfl hf (by decide) (wantY hf rfl rfl hb60) (fun w hp => ?_) ⟨_, hp⟩ ?_
                        · obtain ⟨_, hp⟩ := hp
                          refine st_convBS hf (by decide) Try.underlying59 Try.underlying5 Try.underlying9 (wantY hf rfl rfl hb60) rfl ((RdS.cut rl58 hc62 hc63).sl hp) ?_
                          clear hf; intro a ha hf
                          exact st_nil hf (th_n ⟨ha, rfl⟩)
                        clear hf; intro a hf
                        refine dr_take 10 (.int .i64 q22) rfl (by kernel_rfl) (by kernel_rfl) (by kernel_rfl) (by kernel_rfl) rfl rfl hf (by decide) (wantY hf rfl rfl hb60) (fun w hp => ?_) ⟨_, hp⟩ ?_
                        · obtain ⟨_, hp⟩ := hp
                          refine st_move hf (wantY hf rfl rfl hb60) rfl (by decide) ?_
                          clear hf; intro a ha hf
                          exact st_nil hf (th_n ⟨ha, rfl⟩)
                        clear hf; intro a hf
                        refine dr_one 11 rfl (by kernel_rfl) ?_
                        refine st_make (E := (Ek.int .u8)) hf (by decide) elt5 Try.underlying59 (by decide) hp (wantY hf rfl rfl hb60) rfl rfl hc64.1 hc64.2.1 hc64.2.2 ?_
                        clear hf; intro a w v65 hf hp0; clear hp; have hp := hp0; clear hp0
                        replace hp : Hp _ _ _ (Res.sl (Ek.int .u8) 5 v65 (List.replicate (q22).toNat (0 : Int)) :: ow) := hp
                        refine st_nil hf (th_n ⟨fun _ _ => ⟨_, hp⟩, ?_⟩)
                        refine dr_one 12 rfl (by kernel_rfl) ?_
                        refine st_convBS hf (by decide) Try.underlying59 Try.underlying5 Try.underlying9 (wantY hf rfl rfl hb60) rfl (hp.sl (i := 0) rfl) ?_
                        clear hf; intro a ha hf; clear ha
                        have hp : Hp _ _ _ (ow) := Hp.sel (pre := [Res.sl (Ek.int .u8) 5 v65 (List.replicate (q22).toNat (0 : Int))]) (tail := ow) (rs' := []) hp [] (by decide) (by simp) rfl
                        refine st_nil hf (th_n ⟨fun _ _ => ⟨_, hp⟩, ?_⟩)
                        refine dr_take 13 (.bool (seq (bstr ((q51.drop 0).take ((q22).toNat - 0))) (bstr (List.replicate (q22).toNat (0 : Int))))) rfl (by kernel_rfl) (by kernel_rfl) (by kernel_rfl) (by kernel_rfl) rfl rfl hf (by decide) (wantY hf rfl rfl hb60) (fun w hp => ?_) ⟨_, hp⟩ ?_
                        · obtain ⟨_, hp⟩ := hp
                          refine st_seql hf (by decide) (wantY hf rfl rfl hb60) rfl rfl ?_
                          clear hf; intro a ha hf
                          exact st_nil hf (th_n ⟨ha, rfl⟩)
                        clear hf; intro a hf
                        refine dr_take 14 (.bool z67) rfl (by kernel_rfl) (by kernel_rfl) (by kernel_rfl) (by kernel_rfl) rfl rfl hf (by decide) rfl (fun w hp => ?_) ⟨_, hp⟩ ?_
                        · obtain ⟨_, hp⟩ := hp
                          refine st_pick (v := .bool z67) hf rfl rfl (fun _ => by rw [← hz59]; rfl) (fun hb' => absurd (hb60.symm.trans hb') (by decide)) (by decide) ?_
                          clear hf; intro a ha hf
                          exact st_nil hf (th_n ⟨ha, rfl⟩)
                        clear hf; intro a hf
                        refine dr_take 15 (.bool z67) rfl (by kernel_rfl) (by kernel_rfl) (by kernel_rfl) (by kernel_rfl) rfl rfl hf (by decide) rfl (fun w hp => ?_) ⟨_, hp⟩ ?_
                        · obtain ⟨_, hp⟩ := hp
                          refine st_move hf rfl rfl (by decide) ?_
                          clear hf; intro a ha hf
                          exact st_nil hf (th_n ⟨ha, rfl⟩)
                        clear hf; intro a hf
                        refine dr_out 16 rfl (by kernel_rfl) (by kernel_rfl) (by kernel_rfl) (by kernel_rfl) rfl hf (by decide) rfl (wantN hf rfl rfl hb69) ⟨_, hp⟩ ?_
                        clear hf; intro a hf
                        refine dr_out 17 rfl (by kernel_rfl) (by kernel_rfl) (by kernel_rfl) (by kernel_rfl) rfl hf (by decide) rfl (wantN hf rfl rfl hb69) ⟨_, hp⟩ ?_
                        clear hf; intro a hf
                        refine dr_out 18 rfl (by kernel_rfl) (by kernel_rfl) (by kernel_rfl) (by kernel_rfl) rfl hf (by decide) rfl (wantN hf rfl rfl hb69) ⟨_, hp⟩ ?_
                        clear hf; intro a hf
                        refine dr_out 19 rfl (by kernel_rfl) (by kernel_rfl) (by kernel_rfl) (by kernel_rfl) rfl hf (by decide) rfl (wantN hf rfl rfl hb69) ⟨_, hp⟩ ?_
                        clear hf; intro a hf
                        refine dr_out 20 rfl (by kernel_rfl) (by kernel_rfl) (by kernel_rfl) (by kernel_rfl) rfl hf (by decide) rfl (wantN hf rfl rfl hb69) ⟨_, hp⟩ ?_
                        clear hf; intro a hf
                        refine dr_out 21 rfl (by kernel_rfl) (by kernel_rfl) (by kernel_rfl) (by kernel_rfl) rfl hf (by decide) rfl (wantN hf rfl rfl hb69) ⟨_, hp⟩ ?_
                        clear hf; intro a hf
                        refine dr_take 22 (.bool z73) rfl (by kernel_rfl) (by kernel_rfl) (by kernel_rfl) (by kernel_rfl) rfl rfl hf (by decide) rfl (fun w hp => ?_) ⟨_, hp⟩ ?_
                        · obtain ⟨_, hp⟩ := hp
                          refine st_pick (v := .bool z73) hf rfl rfl (fun hb' => absurd (hb69.symm.trans hb') (by decide)) (fun _ => by rw [← hz68]; rfl) (by decide) ?_
                          clear hf; intro a ha hf
                          exact st_nil hf (th_n ⟨ha, rfl⟩)
                        clear hf; intro a hf
                        refine dr_take 23 (.bool z73) rfl (by kernel_rfl) (by kernel_rfl) (by kernel_rfl) (by kernel_rfl) rfl rfl hf (by decide) rfl (fun w hp => ?_) ⟨_, hp⟩ ?_
                        · obtain ⟨_, hp⟩ := hp
                          refine st_assign hf rfl rfl (by decide) ?_
                          clear hf; intro a ha hf
                          exact st_nil hf (th_n ⟨ha, rfl⟩)
                        clear hf; intro a hf
                        refine dr_end (by kernel_rfl) ?_ _
                        have hp := bk57 _ _ hp
                        exact ⟨hf.sub ⟨rfl, trivial⟩, hp⟩
                    · skip
                      replace hz59 := ifF hz59 hb60
                      replace hz59 := Option.some.inj hz59
                      have hb69 : z67 = false := hz59.symm
                      skip
                      replace hz68 := ifF hz68 hb69
                      replace hz68 := Option.some.inj hz68
                      refine dr_begin' (fun a w => Fr 156 a [(8, .bool z73)] ∧ Hp S w0 w (Res.sl (Ek.int .u8) 5 v33 q51 :: ow)) (fun w' => ∃ l, Hp S53 w w' l) [] (by kernel_rfl) ?_
                      refine dr_take 0 (v33) rfl (by kernel_rfl) (by kernel_rfl) (by kernel_rfl) (by kernel_rfl) rfl rfl hf (by decide) rfl (fun w hp => ?_) ⟨_, hp⟩ ?_
                      · obtain ⟨_, hp⟩ := hp
                        refine st_move hf rfl rfl (by decide) ?_
                        clear hf; intro a ha hf
                        exact st_nil hf (th_n ⟨ha, rfl⟩)
                      clear hf; intro a hf
                      refine dr_take 1 (.int .i64 (q51.length : Int)) rfl (by kernel_rfl) (by kernel_rfl) (by kernel_rfl) (by kernel_rfl) rfl rfl hf (by decide) rfl (fun w hp => ?_) ⟨_, hp⟩ ?_
                      · obtain ⟨_, hp⟩ := hp
                        refine st_len (E := (Ek.int .u8)) hf (by decide) Try.underlying59 rfl rfl (rl58.sl hp) ?_
                        clear hf; intro a ha hf
                        exact st_nil hf (th_n ⟨ha, rfl⟩)
                      clear hf; intro a hf
                      refine dr_take 2 (.string (s2 ++ (bstr (List.replicate (q22).toNat (0 : Int))))) rfl (by kernel_rfl) (by kernel_rfl) (by kernel_rfl) (by kernel_rfl) rfl rfl hf (by decide) rfl (fun w hp => ?_) ⟨_, hp⟩ ?_
                      · obtain ⟨_, hp⟩ := hp
                        refine st_move hf rfl rfl (by decide) ?_
                        clear hf; intro a ha hf
                        exact st_nil hf (th_n ⟨ha, rfl⟩)
                      clear hf; intro a hf
                      refine dr_take 3 (.int .i64 ((s2 ++ (bstr (List.replicate (q22).toNat (0 : Int)))).size : Int)) rfl (by kernel_rfl) (by kernel_rfl) (by kernel_rfl) (by kernel_rfl) rfl rfl hf (by decide) rfl (fun w hp => ?_) ⟨_, hp⟩ ?_
                      · obtain ⟨_, hp⟩ := hp
                        refine st_slen hf (by decide) Try.underlying9 rfl rfl ?_
                        clear hf; intro a ha hf
                        exact st_nil hf (th_n ⟨ha, rfl⟩)
                      clear hf; intro a hf
                      refine dr_take 4 (.bool ((q51.length : Int) == ((s2 ++ (bstr (List.replicate (q22).toNat (0 : Int)))).size : Int))) rfl (by kernel_rfl) (by kernel_rfl) (by kernel_rfl) (by kernel_rfl) rfl rfl hf (by decide) rfl (fun w hp => ?_) ⟨_, hp⟩ ?_
                      · obtain ⟨_, hp⟩ := hp
                        refine st_ieql hf (by decide) rfl rfl rfl ?_
                        clear hf; intro a ha hf
                        exact st_nil hf (th_n ⟨ha, rfl⟩)
                      clear hf; intro a hf
                      refine dr_take 5 (.bool ((q51.length : Int) == ((s2 ++ (bstr (List.replicate (q22).toNat (0 : Int)))).size : Int))) rfl (by kernel_rfl) (by kernel_rfl) (by kernel_rfl) (by kernel_rfl) rfl rfl hf (by decide) rfl (fun w hp => ?_) ⟨_, hp⟩ ?_
                      · obtain ⟨_, hp⟩ := hp
                        refine st_move hf rfl rfl (by decide) ?_
                        clear hf; intro a ha hf
                        exact st_nil hf (th_n ⟨ha, rfl⟩)
                      clear hf; intro a hf
                      refine dr_out 6 rfl (by kernel_rfl) (by kernel_rfl) (by kernel_rfl) (by kernel_rfl) rfl hf (by decide) rfl (wantN hf rfl rfl hb60) ⟨_, hp⟩ ?_
                      clear hf; intro a hf
                      refine dr_out 7 rfl (by kernel_rfl) (by kernel_rfl) (by kernel_rfl) (by kernel_rfl) rfl hf (by decide) rfl (wantN hf rfl rfl hb60) ⟨_, hp⟩ ?_
                      clear hf; intro a hf
                      refine dr_out 8 rfl (by kernel_rfl) (by kernel_rfl) (by kernel_rfl) (by kernel_rfl) rfl hf (by decide) rfl (wantN hf rfl rfl hb60) ⟨_, hp⟩ ?_
                      clear hf; intro a hf
                      refine dr_out 9 rfl (by kernel_rfl) (by kernel_rfl) (by kernel_rfl) (by kernel_rfl) rfl hf (by decide) rfl (wantN hf rfl rfl hb60) ⟨_, hp⟩ ?_
                      clear hf; intro a hf
                      refine dr_out 10 rfl (by kernel_rfl) (by kernel_rfl) (by kernel_rfl) (by kernel_rfl) rfl hf (by decide) rfl (wantN hf rfl rfl hb60) ⟨_, hp⟩ ?_
                      clear hf; intro a hf
                      refine dr_out 11 rfl (by kernel_rfl) (by kernel_rfl) (by kernel_rfl) (by kernel_rfl) rfl hf (by decide) rfl (wantN hf rfl rfl hb60) ⟨_, hp⟩ ?_
                      clear hf; intro a hf
                      refine dr_out 12 rfl (by kernel_rfl) (by kernel_rfl) (by kernel_rfl) (by kernel_rfl) rfl hf (by decide) rfl (wantN hf rfl rfl hb60) ⟨_, hp⟩ ?_
                      clear hf; intro a hf
                      refine dr_out 13 rfl (by kernel_rfl) (by kernel_rfl) (by kernel_rfl) (by kernel_rfl) rfl hf (by decide) rfl (wantN hf rfl rfl hb60) ⟨_, hp⟩ ?_
                      clear hf; intro a hf
                      refine dr_take 14 (.bool z67) rfl (by kernel_rfl) (by kernel_rfl) (by kernel_rfl) (by kernel_rfl) rfl rfl hf (by decide) rfl (fun w hp => ?_) ⟨_, hp⟩ ?_
                      · obtain ⟨_, hp⟩ := hp
                        refine st_pick (v := .bool z67) hf rfl rfl (fun hb' => absurd (hb60.symm.trans hb') (by decide)) (fun _ => by rw [← hz59]; rfl) (by decide) ?_
                        clear hf; intro a ha hf
                        exact st_nil hf (th_n ⟨ha, rfl⟩)
                      clear hf; intro a hf
                      refine dr_take 15 (.bool z67) rfl (by kernel_rfl) (by kernel_rfl) (by kernel_rfl) (by kernel_rfl) rfl rfl hf (by decide) rfl (fun w hp => ?_) ⟨_, hp⟩ ?_
                      · obtain ⟨_, hp⟩ := hp
                        refine st_move hf rfl rfl (by decide) ?_
                        clear hf; intro a ha hf
                        exact st_nil hf (th_n ⟨ha, rfl⟩)
                      clear hf; intro a hf
                      refine dr_out 16 rfl (by kernel_rfl) (by kernel_rfl) (by kernel_rfl) (by kernel_rfl) rfl hf (by decide) rfl (wantN hf rfl rfl hb69) ⟨_, hp⟩ ?_
                      clear hf; intro a hf
                      refine dr_out 17 rfl (by kernel_rfl) (by kernel_rfl) (by kernel_rfl) (by kernel_rfl) rfl hf (by decide) rfl (wantN hf rfl rfl hb69) ⟨_, hp⟩ ?_
                      clear hf; intro a hf
                      refine dr_out 18 rfl (by kernel_rfl) (by kernel_rfl) (by kernel_rfl) (by kernel_rfl) rfl hf (by decide) rfl (wantN hf rfl rfl hb69) ⟨_, hp⟩ ?_
                      clear hf; intro a hf
                      refine dr_out 19 rfl (by kernel_rfl) (by kernel_rfl) (by kernel_rfl) (by kernel_rfl) rfl hf (by decide) rfl (wantN hf rfl rfl hb69) ⟨_, hp⟩ ?_
                      clear hf; intro a hf
                      refine dr_out 20 rfl (by kernel_rfl) (by kernel_rfl) (by kernel_rfl) (by kernel_rfl) rfl hf (by decide) rfl (wantN hf rfl rfl hb69) ⟨_, hp⟩ ?_
                      clear hf; intro a hf
                      refine dr_out 21 rfl (by kernel_rfl) (by kernel_rfl) (by kernel_rfl) (by kernel_rfl) rfl hf (by decide) rfl (wantN hf rfl rfl hb69) ⟨_, hp⟩ ?_
                      clear hf; intro a hf
                      refine dr_take 22 (.bool z73) rfl (by kernel_rfl) (by kernel_rfl) (by kernel_rfl) (by kernel_rfl) rfl rfl hf (by decide) rfl (fun w hp => ?_) ⟨_, hp⟩ ?_
                      · obtain ⟨_, hp⟩ := hp
                        refine st_pick (v := .bool z73) hf rfl rfl (fun hb' => absurd (hb69.symm.trans hb') (by decide)) (fun _ => by rw [← hz68]; rfl) (by decide) ?_
                        clear hf; intro a ha hf
                        exact st_nil hf (th_n ⟨ha, rfl⟩)
                      clear hf; intro a hf
                      refine dr_take 23 (.bool z73) rfl (by kernel_rfl) (by kernel_rfl) (by kernel_rfl) (by kernel_rfl) rfl rfl hf (by decide) rfl (fun w hp => ?_) ⟨_, hp⟩ ?_
                      · obtain ⟨_, hp⟩ := hp
                        refine st_assign hf rfl rfl (by decide) ?_
                        clear hf; intro a ha hf
                        exact st_nil hf (th_n ⟨ha, rfl⟩)
                      clear hf; intro a hf
                      refine dr_end (by kernel_rfl) ?_ _
                      have hp := bk57 _ _ hp
                      exact ⟨hf.sub ⟨rfl, trivial⟩, hp⟩
                  · rintro a w ⟨hf, hp⟩
                    refine th_n ?_
                    refine wp_ret ?_
                    obtain rfl := Option.some.inj h
                    have hp : Hp _ _ _ (ow) := Hp.sel (pre := [Res.sl (Ek.int .u8) 5 v33 q51]) (tail := ow) (rs' := []) hp [] (by decide) (by simp) rfl
                    exact ⟨rfl, ⟨hf.sub ⟨rfl, trivial⟩, hp⟩⟩
                | inr q52 =>
                  replace h := smR h
                  obtain ⟨rfl, hf, hp⟩ := hO
                  refine ib_r ?_
                  refine th_r ?_
                  obtain rfl := Option.some.inj h
                  exact ⟨rfl, ⟨hf.sub ⟨rfl, trivial⟩, hp⟩⟩

end Go.Proofs.Ythoigfonjpmibaa
