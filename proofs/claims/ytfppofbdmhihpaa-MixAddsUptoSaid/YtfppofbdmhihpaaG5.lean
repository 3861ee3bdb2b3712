/- The functions foghorn foghornlaw08.MixAdds: what each answers, as a plain function, and that its call answers it; printed by gen.py. -/
import Derived.Test.YtfppofbdmhihpaaProg
import Derived.Test.YtfppofbdmhihpaaGlU
import Derived.KernelRfl
import Derived.Test.YtfppofbdmhihpaaG5p1
set_option linter.unusedVariables false
set_option linter.unusedSimpArgs false
set_option maxRecDepth 100000
set_option maxHeartbeats 4000000
namespace Go.Proofs.Ytfppofbdmhihpaa
open GL
noncomputable def f_foghornlaw08_MixAdds.s1c (q7 : (List (Fl × Fl))) (zx9 : (List (Fl × Fl))) (q13 : ((List (Fl × Fl)) × Int)) (q49 : ((List (Fl × Fl)) × Int)) (sum21 : (List (Fl × Fl))) (i22 : Int) : Option (((List (Fl × Fl)) × Int) ⊕ ((List (Fl × Fl)) ⊕ Bool)) := (if (decide (i22 < (zx9.length : Int))) = true then (if 0 ≤ i22 ∧ i22 < (zx9.length : Int) then (if 0 ≤ i22 ∧ i22 < (q49.1.length : Int) then ((farithS .mul ((gt zx9 i22).1) ((gt q49.1 i22).1)).bind fun q115 => (if 0 ≤ i22 ∧ i22 < (zx9.length : Int) then (if 0 ≤ i22 ∧ i22 < (q49.1.length : Int) then ((farithS .mul ((gt zx9 i22).2) ((gt q49.1 i22).2)).bind fun q129 => ((farithS .sub q115 q129).bind fun q131 => (if 0 ≤ i22 ∧ i22 < (zx9.length : Int) then (if 0 ≤ i22 ∧ i22 < (q49.1.length : Int) then ((farithS .mul ((gt zx9 i22).1) ((gt q49.1 i22).2)).bind fun q145 => (if 0 ≤ i22 ∧ i22 < (zx9.length : Int) then (if 0 ≤ i22 ∧ i22 < (q49.1.length : Int) then ((farithS .mul ((gt zx9 i22).2) ((gt q49.1 i22).1)).bind fun q159 => ((farithS .add q145 q159).bind fun q161 => (if 0 ≤ i22 ∧ i22 < (q13.1.length : Int) then ((if (!ceq (q131, q161) (gt q13.1 i22)) = true then (some true) else (if 0 ≤ i22 ∧ i22 < (q13.1.length : Int) then (if 0 ≤ i22 ∧ i22 < (q13.1.length : Int) then ((farithS .mul ((gt q13.1 i22).1) ((gt q13.1 i22).1)).bind fun q195 => (if 0 ≤ i22 ∧ i22 < (q13.1.length : Int) then (if 0 ≤ i22 ∧ i22 < (q13.1.length : Int) then ((farithS .mul ((gt q13.1 i22).2) ((gt q13.1 i22).2)).bind fun q209 => ((farithS .add q195 q209).bind fun q211 => (if 0 ≤ i22 ∧ i22 < (zx9.length : Int) then (if 0 ≤ i22 ∧ i22 < (zx9.length : Int) then ((farithS .mul ((gt zx9 i22).1) ((gt zx9 i22).1)).bind fun q225 => (if 0 ≤ i22 ∧ i22 < (zx9.length : Int) then (if 0 ≤ i22 ∧ i22 < (zx9.length : Int) then ((farithS .mul ((gt zx9 i22).2) ((gt zx9 i22).2)).bind fun q239 => ((farithS .add q225 q239).bind fun q241 => (some (fne q211 q241)))) else none) else none)) else none) else none))) else none) else none)) else none) else none)).bind fun z243 => (if z243 = true then (some (Sum.inr (Sum.inr false))) else (if 0 ≤ i22 ∧ i22 < (zx9.length : Int) then (if (decide (i22 < (q7.length : Int))) = true then (if 0 ≤ i22 ∧ i22 < (q7.length : Int) then (if (sum21.length + ([(cadd (gt zx9 i22) (gt q7 i22))]).length) * 16 ≤ 140737488355328 then (some (Sum.inl ((sum21 ++ [(cadd (gt zx9 i22) (gt q7 i22))]), (IntKind.i64.wrap (i22 + (1 : Int)))))) else none) else none) else (if (sum21.length + ([(gt zx9 i22)]).length) * 16 ≤ 140737488355328 then (some (Sum.inl ((sum21 ++ [(gt zx9 i22)]), (IntKind.i64.wrap (i22 + (1 : Int)))))) else none)) else none))) else none))) else none) else none)) else none) else none))) else none) else none)) else none) else none) else (some (Sum.inr (Sum.inl sum21))))
noncomputable def f_foghornlaw08_MixAdds.s1 (q7 : (List (Fl × Fl))) (zx9 : (List (Fl × Fl))) (q13 : ((List (Fl × Fl)) × Int)) (q49 : ((List (Fl × Fl)) × Int)) (s : ((List (Fl × Fl)) × Int)) : Option (((List (Fl × Fl)) × Int) ⊕ ((List (Fl × Fl)) ⊕ Bool)) := f_foghornlaw08_MixAdds.s1c q7 zx9 q13 q49 s.1 s.2
noncomputable def f_foghornlaw08_MixAdds.j3 (q272 : ((List (Fl × Fl)) × Int)) (i29 : Int) (sx30 : (Fl × Fl)) : Option (Int ⊕ (Unit ⊕ Bool)) := (if 0 ≤ i29 ∧ i29 < (q272.1.length : Int) then (if (!ceq (gt q272.1 i29) sx30) = true then (some (Sum.inr (Sum.inr false))) else (some (Sum.inl (IntKind.i64.wrap (i29 + (1 : Int)))))) else none)
noncomputable def f_foghornlaw08_MixAdds.s2c (q13 : ((List (Fl × Fl)) × Int)) (q272 : ((List (Fl × Fl)) × Int)) (q281 : ((List (Fl × Fl)) × Int)) (i29 : Int) : Option (Int ⊕ (Unit ⊕ Bool)) := (if (decide (i29 < (q272.1.length : Int))) = true then (if 0 ≤ i29 ∧ i29 < (q13.1.length : Int) then (if (decide (i29 < (q281.1.length : Int))) = true then (if 0 ≤ i29 ∧ i29 < (q281.1.length : Int) then (f_foghornlaw08_MixAdds.j3 q272 i29 (cadd (gt q13.1 i29) (gt q281.1 i29))) else none) else (f_foghornlaw08_MixAdds.j3 q272 i29 (gt q13.1 i29))) else none) else (some (Sum.inr (Sum.inl ()))))
noncomputable def f_foghornlaw08_MixAdds.s2 (q13 : ((List (Fl × Fl)) × Int)) (q272 : ((List (Fl × Fl)) × Int)) (q281 : ((List (Fl × Fl)) × Int)) (s : Int) : Option (Int ⊕ (Unit ⊕ Bool)) := f_foghornlaw08_MixAdds.s2c q13 q272 q281 s
noncomputable def f_foghornlaw08_MixAdds.j2 (j2 : Int) (zx9 : (List (Fl × Fl))) (q13 : ((List (Fl × Fl)) × Int)) (q268 : (List (Fl × Fl))) (wx10 : (List (Fl × Fl))) : Option Bool := ((f_mix_Up q268 j2).bind fun q272 => ((f_mix_Up wx10 j2).bind fun q281 => (if (((q272.1.length : Int) != (q13.1.length : Int)) || ((q281.1.length : Int) != (wx10.length : Int))) = true then (some false) else ((loop (f_foghornlaw08_MixAdds.s2 q13 q272 q281) (0 : Int)).bind (fun q315 => sm q315 (fun q316 => ((f_mix_Mirror q13.1).bind fun q318 => ((f_mix_Mirror zx9).bind fun q327 => ((f_mix_Down q327.1 j2).bind fun q336 => ((f_foghornref08_Same q318.1 q336.1).bind fun q345 => (some q345)))))) (fun q317 => (some q317)))))))
noncomputable def f_foghornlaw08_MixAdds.j1 (j2 : Int) (k3 : Int) (q7 : (List (Fl × Fl))) (zx9 : (List (Fl × Fl))) : Option Bool := ((f_mix_Up zx9 j2).bind fun q13 => ((f_mix_Up q13.1 k3).bind fun q22 => ((f_mix_Up zx9 (IntKind.i64.wrap (((j2).tmod (4 : Int)) + ((k3).tmod (4 : Int))))).bind fun q31 => ((f_mix_Up zx9 (IntKind.i64.wrap ((4 : Int) * ((j2).tmod (1000 : Int))))).bind fun q40 => ((f_mix_Carrier j2 (zx9.length : Int)).bind fun q49 => ((if (q49.2 != (0 : Int)) = true then (some true) else ((f_foghornref08_Same q22.1 q31.1).bind fun q56 => (some (!q56)))).bind fun z55 => ((if z55 = true then (some true) else ((f_foghornref08_Same q40.1 zx9).bind fun q71 => (some (!q71)))).bind fun z70 => (if ((z70 || ((q49.1.length : Int) != (zx9.length : Int))) || ((q13.1.length : Int) != (zx9.length : Int))) = true then (some false) else ((loop (f_foghornlaw08_MixAdds.s1 q7 zx9 q13 q49) ([], (0 : Int))).bind (fun q266 => sm q266 (fun q268 => (if (decide ((zx9.length : Int) < (q7.length : Int))) = true then (if 0 ≤ (zx9.length : Int) ∧ (zx9.length : Int) ≤ ((q7 ++ ([] : List (Fl × Fl))).length : Int) then (f_foghornlaw08_MixAdds.j2 j2 zx9 q13 q268 ((q7 ++ ([] : List (Fl × Fl))).take (((zx9.length : Int)).toNat))) else none) else (f_foghornlaw08_MixAdds.j2 j2 zx9 q13 q268 q7))) (fun q269 => (some q269))))))))))))
noncomputable def f_foghornlaw08_MixAdds (l0 : (List Int)) (m1 : (List Int)) (j2 : Int) (k3 : Int) : Option Bool := ((f_foghornlaw08_awake).bind fun q1 => (if (!q1) = true then (some false) else ((f_foghornlaw08_whole l0).bind fun q3 => ((f_foghornlaw08_whole m1).bind fun q7 => (if (decide ((3000 : Int) < (q3.length : Int))) = true then (if 0 ≤ (3000 : Int) ∧ (3000 : Int) ≤ ((q3 ++ ([] : List (Fl × Fl))).length : Int) then (f_foghornlaw08_MixAdds.j1 j2 k3 q7 ((q3 ++ ([] : List (Fl × Fl))).take (((3000 : Int)).toNat))) else none) else (f_foghornlaw08_MixAdds.j1 j2 k3 q7 q3))))))
theorem f_foghornlaw08_MixAdds_c {S : Nat → Prop} {w0 w : World} {ow : List Res} (hp : Hp S w0 w ow) (vl0 : Value) (l0 : (List Int)) (hl0 : RdS (Ek.int .u16) S w0 vl0 l0) (vm1 : Value) (m1 : (List Int)) (hm1 : RdS (Ek.int .u16) S w0 vm1 m1) (j2 : Int) (k3 : Int) {r : Bool} (h : f_foghornlaw08_MixAdds l0 m1 j2 k3 = some r) :
    Calls Try.prog 6 #[vl0, vm1, .int .i64 j2, .int .i64 k3] w (fun e w' => e = .returned (.bool r) ∧ Hp S w0 w' (ow)) := by
  unfold f_foghornlaw08_MixAdds at h
  refine enter (n := 317) (args := [vl0, vm1, .int .i64 j2, .int .i64 k3]) Try.func6 rfl rfl (Nat.le_of_ble_eq_true rfl) fun a hf => ?_
  replace hf : Fr 317 a [(0, vl0), (1, vm1), (2, .int .i64 j2), (3, .int .i64 k3)] := hf
  refine wp_mono (Q := fun e a w => e = .ret ∧ Fr 317 a [(8, .bool r)] ∧ Hp S w0 w (ow)) ?_ ?_
  rotate_left
  · rintro e a w ⟨rfl, hf, hp⟩
    exact ret1 hf rfl rfl ⟨rfl, hp⟩
  refine wp_seq ?_
  refine wp_reg ?_
  refine st_assign hf rfl rfl (by decide) ?_
  clear hf; intro a ha hf; clear ha
  refine st_nil hf ?_
  refine th_n ?_
  refine wp_seq ?_
  refine wp_seq ?_
  refine wp_reg ?_
  obtain ⟨q1, hcall2, h⟩ := bnd h
  refine st_call hf (by decide) Try.func31 rfl rfl rfl rfl rfl (f_foghornlaw08_awake_c hp  hcall2) ?_
  rintro _ w ⟨rfl, hp0⟩
  clear hp; have hp := hp0; clear hp0
  replace hp : Hp _ _ _ (ow) := hp
  refine ⟨_, rfl, ?_⟩
  clear hf; intro a hf
  refine st_not hf (by decide) rfl rfl ?_
  clear hf; intro a ha hf; clear ha
  refine st_nil hf ?_
  refine th_n ?_
  refine wp_if hf rfl (fun hb => ?_) (fun hb => ?_)
  · replace h := ifT h hb
    refine wp_seq ?_
    refine wp_reg ?_
    refine st_assign hf rfl rfl (by decide) ?_
    clear hf; intro a ha hf; clear ha
    refine st_nil hf ?_
    refine th_n ?_
    refine wp_ret ?_
    refine th_r ?_
    obtain rfl := Option.some.inj h
    exact ⟨rfl, ⟨hf.sub ⟨rfl, trivial⟩, hp⟩⟩
  replace h := ifF h hb
  refine wp_skip ?_
  refine th_n ?_
  refine wp_seq ?_
  refine wp_reg ?_
  refine st_move hf rfl rfl (by decide) ?_
  clear hf; intro a ha hf; clear ha
  obtain ⟨q3, hcall4, h⟩ := bnd h
  refine st_call hf (by decide) Try.func32 rfl rfl rfl rfl rfl (f_foghornlaw08_whole_c hp _ _ hl0 hcall4) ?_
  rintro _ w ⟨v5, rfl, hp0⟩
  clear hp; have hp := hp0; clear hp0
  replace hp : Hp _ _ _ (Res.sl Ek.c128 36 v5 q3 :: ow) := hp
  refine ⟨_, rfl, ?_⟩
  clear hf; intro a hf
  refine st_assign hf rfl rfl (by decide) ?_
  clear hf; intro a ha hf; clear ha
  refine st_nil hf ?_
  refine th_n ?_
  refine wp_seq ?_
  refine wp_reg ?_
  refine st_move hf rfl rfl (by decide) ?_
  clear hf; intro a ha hf; clear ha
  obtain ⟨q7, hcall8, h⟩ := bnd h
  refine st_call hf (by decide) Try.func32 rfl rfl rfl rfl rfl (f_foghornlaw08_whole_c hp _ _ hm1 hcall8) ?_
  rintro _ w ⟨v9, rfl, hp0⟩
  clear hp; have hp := hp0; clear hp0
  replace hp : Hp _ _ _ (Res.sl Ek.c128 36 v9 q7 :: Res.sl Ek.c128 36 v5 q3 :: ow) := hp
  refine ⟨_, rfl, ?_⟩
  clear hf; intro a hf
  refine st_assign hf rfl rfl (by decide) ?_
  clear hf; intro a ha hf; clear ha
  refine st_nil hf ?_
  refine th_n ?_
  refine wp_seq_cut (fun a w => ∃ (zx9 : (List (Fl × Fl))) (v11 : Value), f_foghornlaw08_MixAdds.j1 j2 k3 q7 zx9 = some r ∧ Fr 317 a [(2, .int .i64 j2), (3, .int .i64 k3), (9, v11), (10, v9)] ∧ Hp S w0 w (Res.sl Ek.c128 36 v11 zx9 :: Res.sl Ek.c128 36 v9 q7 :: ow)) ?_ ?_
  · skip
    refine wp_seq ?_
    refine wp_reg ?_
    refine st_move hf rfl rfl (by decide) ?_
    clear hf; intro a ha hf; clear ha
    refine st_len (E := Ek.c128) hf (by decide) Try.underlying24 rfl rfl (hp.sl (i := 1) rfl) ?_
    clear hf; intro a ha hf; clear ha
    refine st_igtr hf (by decide) rfl rfl rfl ?_
    clear hf; intro a ha hf; clear ha
    refine st_nil hf ?_
    refine th_n ?_
    refine wp_if hf rfl (fun hb => ?_) (fun hb => ?_)
    · replace h := ifT h hb
      refine wp_reg ?_
      refine st_move hf rfl rfl (by decide) ?_
      clear hf; intro a ha hf; clear ha
      obtain ⟨hc360, h⟩ := chk h
      have hc361 : 0 ≤ ((3000 : Int)).toNat := by omega
      have hc362 : ((3000 : Int)).toNat ≤ (q3 ++ ([] : List (Fl × Fl))).length := by omega
      refine st_cutX (E := Ek.c128) hf (by decide) Try.underlying24 elt36 hp (i := 1) rfl rfl rfl (.inl ⟨rfl, rfl⟩) (.inr ⟨_, _, rfl, evI rfl (by omega)⟩) hc361 hc362 ?_
      clear hf; intro a ha hf; clear ha
      replace hp : Hp _ _ _ (Res.sl Ek.c128 36 v9 q7 :: Res.slx Ek.c128 36 (GL.cut v5 0 (((3000 : Int)).toNat) 1) ((q3 ++ ([] : List (Fl × Fl))).take (((3000 : Int)).toNat)) ((q3 ++ ([] : List (Fl × Fl))).drop (((3000 : Int)).toNat)) :: ow) := hp.cutOwn (i := 1) rfl hc362
      replace hp : Hp _ _ _ (Res.sl Ek.c128 36 v9 q7 :: Res.sl Ek.c128 36 (GL.cut v5 0 (((3000 : Int)).toNat) 1) ((q3 ++ ([] : List (Fl × Fl))).take (((3000 : Int)).toNat)) :: ow) := hp.forget (i := 1) rfl
      refine st_assign hf rfl rfl (by decide) ?_
      clear hf; intro a ha hf; clear ha
      refine st_nil hf ?_
      have hp : Hp _ _ _ (Res.sl Ek.c128 36 (GL.cut v5 0 (((3000 : Int)).toNat) 1) ((q3 ++ ([] : List (Fl × Fl))).take (((3000 : Int)).toNat)) :: Res.sl Ek.c128 36 v9 q7 :: ow) := Hp.sel (pre := [Res.sl Ek.c128 36 v9 q7, Res.sl Ek.c128 36 (GL.cut v5 0 (((3000 : Int)).toNat) 1) ((q3 ++ ([] : List (Fl × Fl))).take (((3000 : Int)).toNat))]) (tail := ow) (rs' := [Res.sl Ek.c128 36 (GL.cut v5 0 (((3000 : Int)).toNat) 1) ((q3 ++ ([] : List (Fl × Fl))).take (((3000 : Int)).toNat)), Res.sl Ek.c128 36 v9 q7]) hp [1, 0] (by decide) (by simp) rfl
      refine th_n ?_
      exact ⟨_, _, h, hf.sub ⟨rfl, rfl, rfl, rfl, trivial⟩, hp⟩
    replace h := ifF h hb
    refine wp_skip ?_
    have hp : Hp _ _ _ (Res.sl Ek.c128 36 v5 q3 :: Res.sl Ek.c128 36 v9 q7 :: ow) := Hp.sel (pre := [Res.sl Ek.c128 36 v9 q7, Res.sl Ek.c128 36 v5 q3]) (tail := ow) (rs' := [Res.sl Ek.c128 36 v5 q3, Res.sl Ek.c128 36 v9 q7]) hp [1, 0] (by decide) (by simp) rfl
    refine th_n ?_
    exact ⟨_, _, h, hf.sub ⟨rfl, rfl, rfl, rfl, trivial⟩, hp⟩
  rintro a w ⟨zx9, v11, h, hf, hp⟩
  unfold f_foghornlaw08_MixAdds.j1 at h
  refine wp_seq ?_
  refine wp_reg ?_
  refine st_move hf rfl rfl (by decide) ?_
  clear hf; intro a ha hf; clear ha
  refine st_move hf rfl rfl (by decide) ?_
  clear hf; intro a ha hf; clear ha
  obtain ⟨q13, hcall14, h⟩ := bnd h
  obtain ⟨S15, hp16, rd17, up18, bk19⟩ := Hp.lendS hp (i := 0) rfl
  refine st_call hf (by decide) Try.func17 rfl rfl rfl rfl rfl (f_mix_Up_c hp16 _ _ rd17 _ hcall14) ?_
  rintro _ w ⟨v20, rfl, hp0⟩
  have hp0 := bk19 _ _ hp0
  clear hp; have hp := hp0; clear hp0
  replace hp : Hp _ _ _ (Res.sl Ek.c128 36 v11 zx9 :: Res.sl Ek.c128 36 v20 q13.1 :: Res.sl Ek.c128 36 v9 q7 :: ow) := hp
  refine ⟨_, rfl, ?_⟩
  clear hf; intro a hf
  refine st_move hf rfl rfl (by decide) ?_
  clear hf; intro a ha hf; clear ha
  refine st_extract hf (by decide) rfl rfl rfl ?_
  clear hf; intro a ha hf; clear ha
  refine st_extract hf (by decide) rfl rfl rfl ?_
  clear hf; intro a ha hf; clear ha
  refine st_assign hf rfl rfl (by decide) ?_
  clear hf; intro a ha hf; clear ha
  refine st_assign hf rfl rfl (by decide) ?_
  clear hf; intro a ha hf; clear ha
  refine st_nil hf ?_
  refine th_n ?_
  refine wp_seq ?_
  refine wp_reg ?_
  refine st_move hf rfl rfl (by decide) ?_
  clear hf; intro a ha hf; clear ha
  refine st_move hf rfl rfl (by decide) ?_
  clear hf; intro a ha hf; clear ha
  obtain ⟨q22, hcall23, h⟩ := bnd h
  obtain ⟨S24, hp25, rd26, up27, bk28⟩ := Hp.lendS hp (i := 1) rfl
  refine st_call hf (by decide) Try.func17 rfl rfl rfl rfl rfl (f_mix_Up_c hp25 _ _ rd26 _ hcall23) ?_
  rintro _ w ⟨v29, rfl, hp0⟩
  have hp0 := bk28 _ _ hp0
  clear hp; have hp := hp0; clear hp0
  replace hp : Hp _ _ _ (Res.sl Ek.c128 36 v20 q13.1 :: Res.sl Ek.c128 36 v29 q22.1 :: Res.sl Ek.c128 36 v11 zx9 :: Res.sl Ek.c128 36 v9 q7 :: ow) := hp
  refine ⟨_, rfl, ?_⟩
  clear hf; intro a hf
  refine st_move hf rfl rfl (by decide) ?_
  clear hf; intro a ha hf; clear ha
  refine st_extract hf (by decide) rfl rfl rfl ?_
  clear hf; intro a ha hf; clear ha
  refine st_extract hf (by decide) rfl rfl rfl ?_
  clear hf; intro a ha hf; clear ha
  refine st_assign hf rfl rfl (by decide) ?_
  clear hf; intro a ha hf; clear ha
  refine st_assign hf rfl rfl (by decide) ?_
  clear hf; intro a ha hf; clear ha
  refine st_nil hf ?_
  refine th_n ?_
  refine wp_seq ?_
  refine wp_reg ?_
  refine st_move hf rfl rfl (by decide) ?_
  clear hf; intro a ha hf; clear ha
  refine st_move hf rfl rfl (by decide) ?_
  clear hf; intro a ha hf; clear ha
  refine st_irem hf (by decide) rfl rfl rfl (by decide) ?_
  clear hf; intro a ha hf; clear ha
  refine st_move hf rfl rfl (by decide) ?_
  clear hf; intro a ha hf; clear ha
  refine st_irem hf (by decide) rfl rfl rfl (by decide) ?_
  clear hf; intro a ha hf; clear ha
  refine st_iadd hf (by decide) rfl rfl rfl ?_
  clear hf; intro a ha hf; clear ha
  obtain ⟨q31, hcall32, h⟩ := bnd h
  obtain ⟨S33, hp34, rd35, up36, bk37⟩ := Hp.lendS hp (i := 2) rfl
  refine st_call hf (by decide) Try.func17 rfl rfl rfl rfl rfl (f_mix_Up_c hp34 _ _ rd35 _ hcall32) ?_
  rintro _ w ⟨v38, rfl, hp0⟩
  have hp0 := bk37 _ _ hp0
  clear hp; have hp := hp0; clear hp0
  replace hp : Hp _ _ _ (Res.sl Ek.c128 36 v11 zx9 :: Res.sl Ek.c128 36 v38 q31.1 :: Res.sl Ek.c128 36 v20 q13.1 :: Res.sl Ek.c128 36 v29 q22.1 :: Res.sl Ek.c128 36 v9 q7 :: ow) := hp
  refine ⟨_, rfl, ?_⟩
  clear hf; intro a hf
  refine st_move hf rfl rfl (by decide) ?_
  clear hf; intro a ha hf; clear ha
  refine st_extract hf (by decide) rfl rfl rfl ?_
  clear hf; intro a ha hf; clear ha
  refine st_extract hf (by decide) rfl rfl rfl ?_
  clear hf; intro a ha hf; clear ha
  refine st_assign hf rfl rfl (by decide) ?_
  clear hf; intro a ha hf; clear ha
  refine st_assign hf rfl rfl (by decide) ?_
  clear hf; intro a ha hf; clear ha
  refine st_nil hf ?_
  refine th_n ?_
  refine wp_seq ?_
  refine wp_reg ?_
  refine st_move hf rfl rfl (by decide) ?_
  clear hf; intro a ha hf; clear ha
  refine st_move hf rfl rfl (by decide) ?_
  clear hf; intro a ha hf; clear ha
  refine st_irem hf (by decide) rfl rfl rfl (by decide) ?_
  clear hf; intro a ha hf; clear ha
  refine st_imul hf (by decide) rfl rfl rfl ?_
  clear hf; intro a ha hf; clear ha
  obtain ⟨q40, hcall41, h⟩ := bnd h
  obtain ⟨S42, hp43, rd44, up45, bk46⟩ := Hp.lendS hp (i := 0) rfl
  refine st_call hf (by decide) Try.func17 rfl rfl rfl rfl rfl (f_mix_Up_c hp43 _ _ rd44 _ hcall41) ?_
  rintro _ w ⟨v47, rfl, hp0⟩
  have hp0 := bk46 _ _ hp0
  clear hp; have hp := hp0; clear hp0
  replace hp : Hp _ _ _ (Res.sl Ek.c128 36 v11 zx9 :: Res.sl Ek.c128 36 v47 q40.1 :: Res.sl Ek.c128 36 v38 q31.1 :: Res.sl Ek.c128 36 v20 q13.1 :: Res.sl Ek.c128 36 v29 q22.1 :: Res.sl Ek.c128 36 v9 q7 :: ow) := hp
  refine ⟨_, rfl, ?_⟩
  clear hf; intro a hf
  refine st_move hf rfl rfl (by decide) ?_
  clear hf; intro a ha hf; clear ha
  refine st_extract hf (by decide) rfl rfl rfl ?_
  clear hf; intro a ha hf; clear ha
  refine st_extract hf (by decide) rfl rfl rfl ?_
  clear hf; intro a ha hf; clear ha
  refine st_assign hf rfl rfl (by decide) ?_
  clear hf; intro a ha hf; clear ha
  refine st_assign hf rfl rfl (by decide) ?_
  clear hf; intro a ha hf; clear ha
  refine st_nil hf ?_
  refine th_n ?_
  refine wp_seq ?_
  refine wp_reg ?_
  refine st_move hf rfl rfl (by decide) ?_
  clear hf; intro a ha hf; clear ha
  refine st_move hf rfl rfl (by decide) ?_
  clear hf; intro a ha hf; clear ha
  refine st_len (E := Ek.c128) hf (by decide) Try.underlying24 rfl rfl (hp.sl (i := 0) rfl) ?_
  clear hf; intro a ha hf; clear ha
  obtain ⟨q49, hcall50, h⟩ := bnd h
  refine st_call hf (by decide) Try.func23 rfl rfl rfl rfl rfl (f_mix_Carrier_c hp _ _ hcall50) ?_
  rintro _ w ⟨v51, rfl, hp0⟩
  clear hp; have hp := hp0; clear hp0
  replace hp : Hp _ _ _ (Res.sl Ek.c128 36 v51 q49.1 :: Res.sl Ek.c128 36 v11 zx9 :: Res.sl Ek.c128 36 v47 q40.1 :: Res.sl Ek.c128 36 v38 q31.1 :: Res.sl Ek.c128 36 v20 q13.1 :: Res.sl Ek.c128 36 v29 q22.1 :: Res.sl Ek.c128 36 v9 q7 :: ow) := hp
  refine ⟨_, rfl, ?_⟩
  clear hf; intro a hf
  refine st_move hf rfl rfl (by decide) ?_
  clear hf; intro a ha hf; clear ha
  refine st_extract hf (by decide) rfl rfl rfl ?_
  clear hf; intro a ha hf; clear ha
  refine st_extract hf (by decide) rfl rfl rfl ?_
  clear hf; intro a ha hf; clear ha
  refine st_assign hf rfl rfl (by decide) ?_
  clear hf; intro a ha hf; clear ha
  refine st_assign hf rfl rfl (by decide) ?_
  clear hf; intro a ha hf; clear ha
  refine st_nil hf ?_
  refine th_n ?_
  refine wp_seq ?_
  refine wp_seq ?_
  refine wp_reg ?_
  refine st_move hf rfl rfl (by decide) ?_
  clear hf; intro a ha hf; clear ha
  refine st_ineq hf (by decide) rfl rfl rfl ?_
  clear hf; intro a ha hf; clear ha
  refine st_move hf rfl rfl (by decide) ?_
  clear hf; intro a ha hf; clear ha
  obtain ⟨z55, hz53, h⟩ := bnd h
  refine wpList_cut 5 (fun a w => Fr 317 a [(2, .int .i64 j2), (9, v11), (10, v9), (11, v20), (17, v47), (19, v51), (92, .bool z55)] ∧ Hp S w0 w (Res.sl Ek.c128 36 v51 q49.1 :: Res.sl Ek.c128 36 v11 zx9 :: Res.sl Ek.c128 36 v47 q40.1 :: Res.sl Ek.c128 36 v38 q31.1 :: Res.sl Ek.c128 36 v20 q13.1 :: Res.sl Ek.c128 36 v29 q22.1 :: Res.sl Ek.c128 36 v9 q7 :: ow)) ?_ ?_
  · rcases Bool.eq_false_or_eq_true (q49.2 != (0 : Int)) with hb54 | hb54
    · skip
      replace hz53 := ifT hz53 hb54
      refine st_skip hf (wantN hf rfl rfl hb54) rfl (by decide) ?_ rfl
      clear hf; intro a hf
      refine st_skip hf (wantN hf rfl rfl hb54) rfl (by decide) ?_ rfl
      clear hf; intro a hf
      refine st_skip hf (wantN hf rfl rfl hb54) rfl (by decide) ?_ rfl
      clear hf; intro a hf
      refine st_skip hf (wantN hf rfl rfl hb54) rfl (by decide) ?_ rfl
      clear hf; intro a hf
      obtain rfl := Option.some.inj hz53
      refine st_pick (v := .bool true) hf rfl rfl (fun hb' => ?_) (fun hb' => ?_) (by decide) ?_
      · rfl
      · exact absurd (hb54.symm.trans hb') (by decide)
      clear hf; intro a ha hf; clear ha
      refine st_nil hf (th_n ?_)
      exact ⟨hf.sub ⟨rfl, rfl, rfl, rfl, rfl, rfl, rfl, trivial⟩, hp⟩
    replace hz53 := ifF hz53 hb54
    refine st_move hf (wantY hf rfl rfl hb54) rfl (by decide) ?_
    clear hf; intro a ha hf; clear ha
    refine st_move hf (wantY hf rfl rfl hb54) rfl (by decide) ?_
    clear hf; intro a ha hf; clear ha
    obtain ⟨q56, hcall57, hz53⟩ := bnd hz53
    obtain ⟨S58, hp59, rd60, up61, bk62⟩ := Hp.lendS hp (i := 5) rfl
    obtain ⟨S63, hp64, rd65, up66, bk67⟩ := Hp.lendS hp59 (i := 3) rfl
    refine st_call hf (by decide) Try.func33 rfl rfl (wantY hf rfl rfl hb54) rfl rfl (f_foghornref08_Same_c hp64 _ _ ((rd60.now hp59).mono up66) _ _ rd65 hcall57) ?_
    rintro _ w ⟨rfl, hp0⟩
    have hp0 := bk67 _ _ hp0
    have hp0 := bk62 _ _ hp0
    clear hp; have hp := hp0; clear hp0
    replace hp : Hp _ _ _ (Res.sl Ek.c128 36 v29 q22.1 :: Res.sl Ek.c128 36 v38 q31.1 :: Res.sl Ek.c128 36 v51 q49.1 :: Res.sl Ek.c128 36 v11 zx9 :: Res.sl Ek.c128 36 v47 q40.1 :: Res.sl Ek.c128 36 v20 q13.1 :: Res.sl Ek.c128 36 v9 q7 :: ow) := hp
    refine ⟨_, rfl, ?_⟩
    clear hf; intro a hf
    refine st_not hf (by decide) (wantY hf rfl rfl hb54) rfl ?_
    clear hf; intro a ha hf; clear ha
    obtain rfl := Option.some.inj hz53
    refine st_pick (v := .bool (!q56)) hf rfl rfl (fun hb' => ?_) (fun hb' => ?_) (by decide) ?_
    · exact absurd (hb54.symm.trans hb') (by decide)
    · rfl
    clear hf; intro a ha hf; clear ha
    refine st_nil hf (th_n ?_)
    have hp : Hp _ _ _ (Res.sl Ek.c128 36 v51 q49.1 :: Res.sl Ek.c128 36 v11 zx9 :: Res.sl Ek.c128 36 v47 q40.1 :: Res.sl Ek.c128 36 v38 q31.1 :: Res.sl Ek.c128 36 v20 q13.1 :: Res.sl Ek.c128 36 v29 q22.1 :: Res.sl Ek.c128 36 v9 q7 :: ow) := Hp.sel (pre := [Res.sl Ek.c128 36 v29 q22.1, Res.sl Ek.c128 36 v38 q31.1, Res.sl Ek.c128 36 v51 q49.1, Res.sl Ek.c128 36 v11 zx9, Res.sl Ek.c128 36 v47 q40.1, Res.sl Ek.c128 36 v20 q13.1, Res.sl Ek.c128 36 v9 q7]) (tail := ow) (rs' := [Res.sl Ek.c128 36 v51 q49.1, Res.sl Ek.c128 36 v11 zx9, Res.sl Ek.c128 36 v47 q40.1, Res.sl Ek.c128 36 v38 q31.1, Res.sl Ek.c128 36 v20 q13.1, Res.sl Ek.c128 36 v29 q22.1, Res.sl Ek.c128 36 v9 q7]) hp [2, 3, 4, 1, 5, 0, 6] (by decide) (by simp) rfl
    exact ⟨hf.sub ⟨rfl, rfl, rfl, rfl, rfl, rfl, rfl, trivial⟩, hp⟩
  rintro a w ⟨hf, hp⟩
  refine st_move hf rfl rfl (by decide) ?_
  clear hf; intro a ha hf; clear ha
  obtain ⟨z70, hz68, h⟩ := bnd h
  refine wpList_cut 5 (fun a w => Fr 317 a [(2, .int .i64 j2), (9, v11), (10, v9), (11, v20), (19, v51), (98, .bool z70)] ∧ Hp S w0 w (Res.sl Ek.c128 36 v51 q49.1 :: Res.sl Ek.c128 36 v11 zx9 :: Res.sl Ek.c128 36 v47 q40.1 :: Res.sl Ek.c128 36 v38 q31.1 :: Res.sl Ek.c128 36 v20 q13.1 :: Res.sl Ek.c128 36 v29 q22.1 :: Res.sl Ek.c128 36 v9 q7 :: ow)) ?_ ?_
  · rcases Bool.eq_false_or_eq_true z55 with hb69 | hb69
    · skip
      replace hz68 := ifT hz68 hb69
      refine st_skip hf (wantN hf rfl rfl hb69) rfl (by decide) ?_ rfl
      clear hf; intro a hf
      refine st_skip hf (wantN hf rfl rfl hb69) rfl (by decide) ?_ rfl
      clear hf; intro a hf
      refine st_skip hf (wantN hf rfl rfl hb69) rfl (by decide) ?_ rfl
      clear hf; intro a hf
      refine st_skip hf (wantN hf rfl rfl hb69) rfl (by decide) ?_ rfl
      clear hf; intro a hf
      obtain rfl := Option.some.inj hz68
      refine st_pick (v := .bool true) hf rfl rfl (fun hb' => ?_) (fun hb' => ?_) (by decide) ?_
      · rfl
      · exact absurd (hb69.symm.trans hb') (by decide)
      clear hf; intro a ha hf; clear ha
      refine st_nil hf (th_n ?_)
      exact ⟨hf.sub ⟨rfl, rfl, rfl, rfl, rfl, rfl, trivial⟩, hp⟩
    replace hz68 := ifF hz68 hb69
    refine st_move hf (wantY hf rfl rfl hb69) rfl (by decide) ?_
    clear hf; intro a ha hf; clear ha
    refine st_move hf (wantY hf rfl rfl hb69) rfl (by decide) ?_
    clear hf; intro a ha hf; clear ha
    obtain ⟨q71, hcall72, hz68⟩ := bnd hz68
    obtain ⟨S73, hp74, rd75, up76, bk77⟩ := Hp.lendS hp (i := 2) rfl
    obtain ⟨S78, hp79, rd80, up81, bk82⟩ := Hp.lendS hp74 (i := 1) rfl
    refine st_call hf (by decide) Try.func33 rfl rfl (wantY hf rfl rfl hb69) rfl rfl (f_foghornref08_Same_c hp79 _ _ ((rd75.now hp74).mono up81) _ _ rd80 hcall72) ?_
    rintro _ w ⟨rfl, hp0⟩
    have hp0 := bk82 _ _ hp0
    have hp0 := bk77 _ _ hp0
    clear hp; have hp := hp0; clear hp0
    replace hp : Hp _ _ _ (Res.sl Ek.c128 36 v47 q40.1 :: Res.sl Ek.c128 36 v11 zx9 :: Res.sl Ek.c128 36 v51 q49.1 :: Res.sl Ek.c128 36 v38 q31.1 :: Res.sl Ek.c128 36 v20 q13.1 :: Res.sl Ek.c128 36 v29 q22.1 :: Res.sl Ek.c128 36 v9 q7 :: ow) := hp
    refine ⟨_, rfl, ?_⟩
    clear hf; intro a hf
    refine st_not hf (by decide) (wantY hf rfl rfl hb69) rfl ?_
    clear hf; intro a ha hf; clear ha
    obtain rfl := Option.some.inj hz68
    refine st_pick (v := .bool (!q71)) hf rfl rfl (fun hb' => ?_) (fun hb' => ?_) (by decide) ?_
    · exact absurd (hb69.symm.trans hb') (by decide)
    · rfl
    clear hf; intro a ha hf; clear ha
    refine st_nil hf (th_n ?_)
    have hp : Hp _ _ _ (Res.sl Ek.c128 36 v51 q49.1 :: Res.sl Ek.c128 36 v11 zx9 :: Res.sl Ek.c128 36 v47 q40.1 :: Res.sl Ek.c128 36 v38 q31.1 :: Res.sl Ek.c128 36 v20 q13.1 :: Res.sl Ek.c128 36 v29 q22.1 :: Res.sl Ek.c128 36 v9 q7 :: ow) := Hp.sel (pre := [Res.sl Ek.c128 36 v47 q40.1, Res.sl Ek.c128 36 v11 zx9, Res.sl Ek.c128 36 v51 q49.1, Res.sl Ek.c128 36 v38 q31.1, Res.sl Ek.c128 36 v20 q13.1, Res.sl Ek.c128 36 v29 q22.1, Res.sl Ek.c128 36 v9 q7]) (tail := ow) (rs' := [Res.sl Ek.c128 36 v51 q49.1, Res.sl Ek.c128 36 v11 zx9, Res.sl Ek.c128 36 v47 q40.1, Res.sl Ek.c128 36 v38 q31.1, Res.sl Ek.c128 36 v20 q13.1, Res.sl Ek.c128 36 v29 q22.1, Res.sl Ek.c128 36 v9 q7]) hp [2, 1, 0, 3, 4, 5, 6] (by decide) (by simp) rfl
    exact ⟨hf.sub ⟨rfl, rfl, rfl, rfl, rfl, rfl, trivial⟩, hp⟩
  rintro a w ⟨hf, hp⟩
  refine st_move hf rfl rfl (by decide) ?_
  clear hf; intro a ha hf; clear ha
  refine wpList_cut 6 (fun a w => Fr 317 a [(2, .int .i64 j2), (9, v11), (10, v9), (11, v20), (19, v51), (105, .bool (z70 || ((q49.1.length : Int) != (zx9.length : Int))))] ∧ Hp S w0 w (Res.sl Ek.c128 36 v51 q49.1 :: Res.sl Ek.c128 36 v11 zx9 :: Res.sl Ek.c128 36 v47 q40.1 :: Res.sl Ek.c128 36 v38 q31.1 :: Res.sl Ek.c128 36 v20 q13.1 :: Res.sl Ek.c128 36 v29 q22.1 :: Res.sl Ek.c128 36 v9 q7 :: ow)) ?_ ?_
  · rcases Bool.eq_false_or_eq_true z70 with hb84 | hb84
    · skip
      refine st_skip hf (wantN hf rfl rfl hb84) rfl (by decide) ?_ rfl
      clear hf; intro a hf
      refine st_skip hf (wantN hf rfl rfl hb84) rfl (by decide) ?_ rfl
      clear hf; intro a hf
      refine st_skip hf (wantN hf rfl rfl hb84) rfl (by decide) ?_ rfl
      clear hf; intro a hf
      refine st_skip hf (wantN hf rfl rfl hb84) rfl (by decide) ?_ rfl
      clear hf; intro a hf
      refine st_skip hf (wantN hf rfl rfl hb84) rfl (by decide) ?_ rfl
      clear hf; intro a hf
      refine st_pick (v := .bool true) hf rfl rfl (fun hb' => ?_) (fun hb' => ?_) (by decide) ?_
      · rfl
      · exact absurd (hb84.symm.trans hb') (by decide)
      clear hf; intro a ha hf; clear ha
      refine st_nil hf (th_n ?_)
      exact ⟨hf.sub ⟨rfl, rfl, rfl, rfl, rfl, (by rw [hb84]; rfl), trivial⟩, hp⟩
    refine st_move hf (wantY hf rfl rfl hb84) rfl (by decide) ?_
    clear hf; intro a ha hf; clear ha
    refine st_len (E := Ek.c128) hf (by decide) Try.underlying24 (wantY hf rfl rfl hb84) rfl (hp.sl (i := 0) rfl) ?_
    clear hf; intro a ha hf; clear ha
    refine st_move hf (wantY hf rfl rfl hb84) rfl (by decide) ?_
    clear hf; intro a ha hf; clear ha
    refine st_len (E := Ek.c128) hf (by decide) Try.underlying24 (wantY hf rfl rfl hb84) rfl (hp.sl (i := 1) rfl) ?_
    clear hf; intro a ha hf; clear ha
    refine st_ineq hf (by decide) (wantY hf rfl rfl hb84) rfl rfl ?_
    clear hf; intro a ha hf; clear ha
    refine st_pick (v := .bool ((q49.1.length : Int) != (zx9.length : Int))) hf rfl rfl (fun hb' => ?_) (fun hb' => ?_) (by decide) ?_
    · exact absurd (hb84.symm.trans hb') (by decide)
    · rfl
    clear hf; intro a ha hf; clear ha
    refine st_nil hf (th_n ?_)
    exact ⟨hf.sub ⟨rfl, rfl, rfl, rfl, rfl, (by rw [hb84]; rfl), trivial⟩, hp⟩
  rintro a w ⟨hf, hp⟩
  refine st_move hf rfl rfl (by decide) ?_
  clear hf; intro a ha hf; clear ha
  refine wpList_cut 6 (fun a w => Fr 317 a [(2, .int .i64 j2), (9, v11), (10, v9), (11, v20), (19, v51), (112, .bool ((z70 || ((q49.1.length : Int) != (zx9.length : Int))) || ((q13.1.length : Int) != (zx9.length : Int))))] ∧ Hp S w0 w (Res.sl Ek.c128 36 v51 q49.1 :: Res.sl Ek.c128 36 v11 zx9 :: Res.sl Ek.c128 36 v47 q40.1 :: Res.sl Ek.c128 36 v38 q31.1 :: Res.sl Ek.c128 36 v20 q13.1 :: Res.sl Ek.c128 36 v29 q22.1 :: Res.sl Ek.c128 36 v9 q7 :: ow)) ?_ ?_
  · rcases Bool.eq_false_or_eq_true (z70 || ((q49.1.length : Int) != (zx9.length : Int))) with hb86 | hb86
    · skip
      refine st_skip hf (wantN hf rfl rfl hb86) rfl (by decide) ?_ rfl
      clear hf; intro a hf
      refine st_skip hf (wantN hf rfl rfl hb86) rfl (by decide) ?_ rfl
      clear hf; intro a hf
      refine st_skip hf (wantN hf rfl rfl hb86) rfl (by decide) ?_ rfl
      clear hf; intro a hf
      refine st_skip hf (wantN hf rfl rfl hb86) rfl (by decide) ?_ rfl
      clear hf; intro a hf
      refine st_skip hf (wantN hf rfl rfl hb86) rfl (by decide) ?_ rfl
      clear hf; intro a hf
      refine st_pick (v := .bool true) hf rfl rfl (fun hb' => ?_) (fun hb' => ?_) (by decide) ?_
      · rfl
      · exact absurd (hb86.symm.trans hb') (by decide)
      clear hf; intro a ha hf; clear ha
      refine st_nil hf (th_n ?_)
      exact ⟨hf.sub ⟨rfl, rfl, rfl, rfl, rfl, (by rw [hb86]; rfl), trivial⟩, hp⟩
    refine st_move hf (wantY hf rfl rfl hb86) rfl (by decide) ?_
    clear hf; intro a ha hf; clear ha
    refine st_len (E := Ek.c128) hf (by decide) Try.underlying24 (wantY hf rfl rfl hb86) rfl (hp.sl (i := 4) rfl) ?_
    clear hf; intro a ha hf; clear ha
    refine st_move hf (wantY hf rfl rfl hb86) rfl (by decide) ?_
    clear hf; intro a ha hf; clear ha
    refine st_len (E := Ek.c128) hf (by decide) Try.underlying24 (wantY hf rfl rfl hb86) rfl (hp.sl (i := 1) rfl) ?_
    clear hf; intro a ha hf; clear ha
    refine st_ineq hf (by decide) (wantY hf rfl rfl hb86) rfl rfl ?_
    clear hf; intro a ha hf; clear ha
    refine st_pick (v := .bool ((q13.1.length : Int) != (zx9.length : Int))) hf rfl rfl (fun hb' => ?_) (fun hb' => ?_) (by decide) ?_
    · exact absurd (hb86.symm.trans hb') (by decide)
    · rfl
    clear hf; intro a ha hf; clear ha
    refine st_nil hf (th_n ?_)
    exact ⟨hf.sub ⟨rfl, rfl, rfl, rfl, rfl, (by rw [hb86]; rfl), trivial⟩, hp⟩
  rintro a w ⟨hf, hp⟩
  refine st_nil hf ?_
  refine th_n ?_
  refine wp_if hf rfl (fun hb => ?_) (fun hb => ?_)
  · replace h := ifT h hb
    refine wp_seq ?_
    refine wp_reg ?_
    refine st_assign hf rfl rfl (by decide) ?_
    clear hf; intro a ha hf; clear ha
    refine st_nil hf ?_
    refine th_n ?_
    refine wp_ret ?_
    refine th_r ?_
    obtain rfl := Option.some.inj h
    have hp : Hp _ _ _ (ow) := Hp.sel (pre := [Res.sl Ek.c128 36 v51 q49.1, Res.sl Ek.c128 36 v11 zx9, Res.sl Ek.c128 36 v47 q40.1, Res.sl Ek.c128 36 v38 q31.1, Res.sl Ek.c128 36 v20 q13.1, Res.sl Ek.c128 36 v29 q22.1, Res.sl Ek.c128 36 v9 q7]) (tail := ow) (rs' := []) hp [] (by decide) (by simp) rfl
    exact ⟨rfl, ⟨hf.sub ⟨rfl, trivial⟩, hp⟩⟩
  replace h := ifF h hb
  refine wp_skip ?_
  refine th_n ?_
  refine wp_seq ?_
  refine wp_reg ?_
  refine st_assign hf rfl rfl (by decide) ?_
  clear hf; intro a ha hf; clear ha
  refine st_nil hf ?_
  refine th_n ?_
  refine wp_seq ?_
  refine wp_seq ?_
  refine wp_reg ?_
  refine st_assign hf rfl rfl (by decide) ?_
  clear hf; intro a ha hf; clear ha
  refine st_nil hf ?_
  refine th_n ?_
  refine wp_block ?_
  obtain ⟨q266, hl, h⟩ := bnd h
  have hp := hp.nil Ek.c128 36
  have hp : Hp _ _ _ (Res.sl Ek.c128 36 (.slice none 0 0) ([]) :: Res.sl Ek.c128 36 v11 zx9 :: Res.sl Ek.c128 36 v9 q7 :: Res.sl Ek.c128 36 v20 q13.1 :: Res.sl Ek.c128 36 v51 q49.1 :: ow) := Hp.sel (pre := [Res.sl Ek.c128 36 (.slice none 0 0) ([]), Res.sl Ek.c128 36 v51 q49.1, Res.sl Ek.c128 36 v11 zx9, Res.sl Ek.c128 36 v47 q40.1, Res.sl Ek.c128 36 v38 q31.1, Res.sl Ek.c128 36 v20 q13.1, Res.sl Ek.c128 36 v29 q22.1, Res.sl Ek.c128 36 v9 q7]) (tail := ow) (rs' := [Res.sl Ek.c128 36 (.slice none 0 0) ([]), Res.sl Ek.c128 36 v11 zx9, Res.sl Ek.c128 36 v9 q7, Res.sl Ek.c128 36 v20 q13.1, Res.sl Ek.c128 36 v51 q49.1]) hp [0, 2, 7, 5, 1] (by decide) (by simp) rfl
  refine wp_loop_pure (f := (f_foghornlaw08_MixAdds.s1 q7 zx9 q13 q49)) (s := ([], (0 : Int))) (fun s a w => ∃ (v87 : Value), Fr 317 a [(2, .int .i64 j2), (9, v11), (10, v9), (11, v20), (19, v51), (21, v87), (22, .int .i64 s.2)] ∧ Hp S w0 w (Res.sl Ek.c128 36 v87 s.1 :: Res.sl Ek.c128 36 v11 zx9 :: Res.sl Ek.c128 36 v9 q7 :: Res.sl Ek.c128 36 v20 q13.1 :: Res.sl Ek.c128 36 v51 q49.1 :: ow)) (fun q e a w => match q with | (Sum.inl q) => e = .exit 0 ∧ ∃ (v89 : Value), Fr 317 a [(2, .int .i64 j2), (9, v11), (10, v9), (11, v20), (21, v89)] ∧ Hp S w0 w (Res.sl Ek.c128 36 v89 q :: Res.sl Ek.c128 36 v11 zx9 :: Res.sl Ek.c128 36 v9 q7 :: Res.sl Ek.c128 36 v20 q13.1 :: ow) | (Sum.inr q) => e = .ret ∧ Fr 317 a [(8, .bool q)] ∧ Hp S w0 w (ow)) ?_ hl ⟨_, hf.sub ⟨rfl, rfl, rfl, rfl, rfl, rfl, rfl, trivial⟩, hp⟩ ?_
  · clear hl hf hp
    intro s x a w h hI
    obtain ⟨sum21, i22⟩ := s
    obtain ⟨v87, hf, hp⟩ : ∃ (v87 : Value), Fr 317 a [(2, .int .i64 j2), (9, v11), (10, v9), (11, v20), (19, v51), (21, v87), (22, .int .i64 i22)] ∧ Hp S w0 w (Res.sl Ek.c128 36 v87 sum21 :: Res.sl Ek.c128 36 v11 zx9 :: Res.sl Ek.c128 36 v9 q7 :: Res.sl Ek.c128 36 v20 q13.1 :: Res.sl Ek.c128 36 v51 q49.1 :: ow) := hI
    replace h : f_foghornlaw08_MixAdds.s1c q7 zx9 q13 q49 sum21 i22 = some x := h
    unfold f_foghornlaw08_MixAdds.s1c at h
    refine wp_seq ?_
    refine wp_seq ?_
    refine wp_reg ?_
    refine st_move hf rfl rfl (by decide) ?_
    clear hf; intro a ha hf; clear ha
    refine st_move hf rfl rfl (by decide) ?_
    clear hf; intro a ha hf; clear ha
    refine st_len (E := Ek.c128) hf (by decide) Try.underlying24 rfl rfl (hp.sl (i := 1) rfl) ?_
    clear hf; intro a ha hf; clear ha
    refine st_ilss hf (by decide) rfl rfl rfl ?_
    clear hf; intro a ha hf; clear ha
    refine st_nil hf ?_
    refine th_n ?_
    refine wp_if hf rfl (fun hb => ?_) (fun hb => ?_)
    · replace h := ifT h hb
      refine wp_skip ?_
      refine th_n ?_
      refine wp_seq ?_
      refine wp_block ?_
      refine wp_seq ?_
      obtain ⟨S91, hp92, rd93, up94, bk95⟩ := Hp.lendS hp (i := 1) rfl
      obtain ⟨S96, hp97, rd98, up99, bk100⟩ := Hp.lendS hp92 (i := 3) rfl
      have rl101 := ((rd93.now hp92).mono up99)
      have rl102 := rd98
      obtain ⟨hc103, h⟩ := chk h
      obtain ⟨bb105, bb106, y107, y108, hl104⟩ := RdS.pinC (p := i22) rl101 hc103.1 hc103.2
      obtain ⟨hc109, h⟩ := chk h
      obtain ⟨bb111, bb112, y113, y114, hl110⟩ := RdS.pinC (p := i22) rl102 hc109.1 hc109.2
      obtain ⟨q115, hq116, h⟩ := bnd h
      obtain ⟨hc117, h⟩ := chk h
      obtain ⟨bb119, bb120, y121, y122, hl118⟩ := RdS.pinC (p := i22) rl101 hc117.1 hc117.2
      obtain ⟨hc123, h⟩ := chk h
      obtain ⟨bb125, bb126, y127, y128, hl124⟩ := RdS.pinC (p := i22) rl102 hc123.1 hc123.2
      obtain ⟨q129, hq130, h⟩ := bnd h
      obtain ⟨q131, hq132, h⟩ := bnd h
      obtain ⟨hc133, h⟩ := chk h
      obtain ⟨bb135, bb136, y137, y138, hl134⟩ := RdS.pinC (p := i22) rl101 hc133.1 hc133.2
      obtain ⟨hc139, h⟩ := chk h
      obtain ⟨bb141, bb142, y143, y144, hl140⟩ := RdS.pinC (p := i22) rl102 hc139.1 hc139.2
      obtain ⟨q145, hq146, h⟩ := bnd h
      obtain ⟨hc147, h⟩ := chk h
      obtain ⟨bb149, bb150, y151, y152, hl148⟩ := RdS.pinC (p := i22) rl101 hc147.1 hc147.2
      obtain ⟨hc153, h⟩ := chk h
      obtain ⟨bb155, bb156, y157, y158, hl154⟩ := RdS.pinC (p := i22) rl102 hc153.1 hc153.2
      obtain ⟨q159, hq160, h⟩ := bnd h
      obtain ⟨q161, hq162, h⟩ := bnd h
      refine wp_cutN (fun a w => Fr 317 a [(2, .int .i64 j2), (9, v11), (10, v9), (11, v20), (19, v51), (21, v87), (22, .int .i64 i22), (23, .complex .f64 (flb q131) (flb q161))] ∧ Hp S w0 w (Res.sl Ek.c128 36 v11 zx9 :: Res.sl Ek.c128 36 v51 q49.1 :: Res.sl Ek.c128 36 v87 sum21 :: Res.sl Ek.c128 36 v9 q7 :: Res.sl Ek.c128 36 v20 q13.1 :: ow)) ?_ ?_
      · have hp := hp97.same (Same.drew w)
        refine dr_begin' (fun a w => Fr 317 a [(2, .int .i64 j2), (9, v11), (10, v9), (11, v20), (19, v51), (21, v87), (22, .int .i64 i22), (23, .complex .f64 (flb q131) (flb q161))] ∧ Hp S w0 w (Res.sl Ek.c128 36 v11 zx9 :: Res.sl Ek.c128 36 v51 q49.1 :: Res.sl Ek.c128 36 v87 sum21 :: Res.sl Ek.c128 36 v9 q7 :: Res.sl Ek.c128 36 v20 q13.1 :: ow)) (fun w' => ∃ l, Hp S96 w w' l) [] (by kernel_rfl) ?_
        refine dr_take 0 (v11) rfl (by kernel_rfl) (by kernel_rfl) (by kernel_rfl) (by kernel_rfl) rfl rfl hf (by decide) rfl (fun w hp => ?_) ⟨_, hp⟩ ?_
        · obtain ⟨_, hp⟩ := hp
          refine st_move hf rfl rfl (by decide) ?_
          clear hf; intro a ha hf
          exact st_nil hf (th_n ⟨ha, rfl⟩)
        clear hf; intro a hf
        refine dr_take 1 (.int .i64 i22) rfl (by kernel_rfl) (by kernel_rfl) (by kernel_rfl) (by kernel_rfl) rfl rfl hf (by decide) rfl (fun w hp => ?_) ⟨_, hp⟩ ?_
        · obtain ⟨_, hp⟩ := hp
          refine st_move hf rfl rfl (by decide) ?_
          clear hf; intro a ha hf
          exact st_nil hf (th_n ⟨ha, rfl⟩)
        clear hf; intro a hf
        refine dr_take 2 (eptr v11 i22 1) rfl (by kernel_rfl) (by kernel_rfl) (by kernel_rfl) (by kernel_rfl) rfl rfl hf (by decide) rfl (fun w hp => ?_) ⟨_, hp⟩ ?_
        · obtain ⟨_, hp⟩ := hp
          refine st_index (E := Ek.c128) hf (by decide) Try.underlying24 elt36 rfl rfl rfl (rl101.sl hp) hc103.1 hc103.2 ?_
          clear hf; intro a ha hf
          exact st_nil hf (th_n ⟨ha, rfl⟩)
        clear hf; intro a hf
        refine dr_take 3 (.complex .f64 bb105 bb106) rfl (by kernel_rfl) (by kernel_rfl) (by kernel_rfl) (by kernel_rfl) rfl rfl hf (by decide) rfl (fun w hp => ?_) ⟨_, hp⟩ ?_
        · obtain ⟨_, hp⟩ := hp
          refine st_ldP hf (by decide) pl36 rfl rfl (hl104 _ _ hp) ?_
          clear hf; intro a ha hf
          exact st_nil hf (th_n ⟨ha, rfl⟩)
        clear hf; intro a hf
        refine dr_take 4 (.float .f64 bb105) rfl (by kernel_rfl) (by kernel_rfl) (by kernel_rfl) (by kernel_rfl) rfl rfl hf (by decide) rfl (fun w hp => ?_) ⟨_, hp⟩ ?_
        · obtain ⟨_, hp⟩ := hp
          refine st_real hf (by decide) rfl rfl ?_
          clear hf; intro a ha hf
          exact st_nil hf (th_n ⟨ha, rfl⟩)
        clear hf; intro a hf
        refine dr_take 5 (v51) rfl (by kernel_rfl) (by kernel_rfl) (by kernel_rfl) (by kernel_rfl) rfl rfl hf (by decide) rfl (fun w hp => ?_) ⟨_, hp⟩ ?_
        · obtain ⟨_, hp⟩ := hp
          refine st_move hf rfl rfl (by decide) ?_
          clear hf; intro a ha hf
          exact st_nil hf (th_n ⟨ha, rfl⟩)
        clear hf; intro a hf
        refine dr_take 6 (.int .i64 i22) rfl (by kernel_rfl) (by kernel_rfl) (by kernel_rfl) (by kernel_rfl) rfl rfl hf (by decide) rfl (fun w hp => ?_) ⟨_, hp⟩ ?_
        · obtain ⟨_, hp⟩ := hp
          refine st_move hf rfl rfl (by decide) ?_
          clear hf; intro a ha hf
          exact st_nil hf (th_n ⟨ha, rfl⟩)
        clear hf; intro a hf
        refine dr_take 7 (eptr v51 i22 1) rfl (by kernel_rfl) (by kernel_rfl) (by kernel_rfl) (by kernel_rfl) rfl rfl hf (by decide) rfl (fun w hp => ?_) ⟨_, hp⟩ ?_
        · obtain ⟨_, hp⟩ := hp
          refine st_index (E := Ek.c128) hf (by decide) Try.underlying24 elt36 rfl rfl rfl (rl102.sl hp) hc109.1 hc109.2 ?_
          clear hf; intro a ha hf
          exact st_nil hf (th_n ⟨ha, rfl⟩)
        clear hf; intro a hf
        refine dr_take 8 (.complex .f64 bb111 bb112) rfl (by kernel_rfl) (by kernel_rfl) (by kernel_rfl) (by kernel_rfl) rfl rfl hf (by decide) rfl (fun w hp => ?_) ⟨_, hp⟩ ?_
        · obtain ⟨_, hp⟩ := hp
          refine st_ldP hf (by decide) pl36 rfl rfl (hl110 _ _ hp) ?_
          clear hf; intro a ha hf
          exact st_nil hf (th_n ⟨ha, rfl⟩)
        clear hf; intro a hf
        refine dr_take 9 (.float .f64 bb111) rfl (by kernel_rfl) (by kernel_rfl) (by kernel_rfl) (by kernel_rfl) rfl rfl hf (by decide) rfl (fun w hp => ?_) ⟨_, hp⟩ ?_
        · obtain ⟨_, hp⟩ := hp
          refine st_real hf (by decide) rfl rfl ?_
          clear hf; intro a ha hf
          exact st_nil hf (th_n ⟨ha, rfl⟩)
        clear hf; intro a hf
        refine dr_take 10 (.float .f64 (flb q115)) rfl (by kernel_rfl) (by kernel_rfl) (by kernel_rfl) (by kernel_rfl) rfl rfl hf (by decide) rfl (fun w hp => ?_) ⟨_, hp⟩ ?_
        · obtain ⟨_, hp⟩ := hp
          refine st_fs (op := .mul) rfl hf (by decide) rfl rfl rfl (show Fl.rep bb105 ((gt zx9 i22).1) from y107) (show Fl.rep bb111 ((gt q49.1 i22).1) from y113) hq116 ?_
          clear hf; intro a ha hf
          exact st_nil hf (th_n ⟨ha, rfl⟩)
        clear hf; intro a hf
        refine dr_take 11 (v11) rfl (by kernel_rfl) (by kernel_rfl) (by kernel_rfl) (by kernel_rfl) rfl rfl hf (by decide) rfl (fun w hp => ?_) ⟨_, hp⟩ ?_
        · obtain ⟨_, hp⟩ := hp
          refine st_move hf rfl rfl (by decide) ?_
          clear hf; intro a ha hf
          exact st_nil hf (th_n ⟨ha, rfl⟩)
        clear hf; intro a hf
        refine dr_take 12 (.int .i64 i22) rfl (by kernel_rfl) (by kernel_rfl) (by kernel_rfl) (by kernel_rfl) rfl rfl hf (by decide) rfl (fun w hp => ?_) ⟨_, hp⟩ ?_
        · obtain ⟨_, hp⟩ := hp
          refine st_move hf rfl rfl (by decide) ?_
          clear hf; intro a ha hf
          exact st_nil hf (th_n ⟨ha, rfl⟩)
        clear hf; intro a hf
        refine dr_take 13 (eptr v11 i22 1) rfl (by kernel_rfl) (by kernel_rfl) (by kernel_rfl) (by kernel_rfl) rfl rfl hf (by decide) rfl (fun w hp => ?_) ⟨_, hp⟩ ?_
        · obtain ⟨_, hp⟩ := hp
          refine st_index (E := Ek.c128) hf (by decide) Try.underlying24 elt36 rfl rfl rfl (rl101.sl hp) hc117.1 hc117.2 ?_
          clear hf; intro a ha hf
          exact st_nil hf (th_n ⟨ha, rfl⟩)
        clear hf; intro a hf
        refine dr_take 14 (.complex .f64 bb119 bb120) rfl (by kernel_rfl) (by kernel_rfl) (by kernel_rfl) (by kernel_rfl) rfl rfl hf (by decide) rfl (fun w hp => ?_) ⟨_, hp⟩ ?_
        · obtain ⟨_, hp⟩ := hp
          refine st_ldP hf (by decide) pl36 rfl rfl (hl118 _ _ hp) ?_
          clear hf; intro a ha hf
          exact st_nil hf (th_n ⟨ha, rfl⟩)
        clear hf; intro a hf
        refine dr_take 15 (.float .f64 bb120) rfl (by kernel_rfl) (by kernel_rfl) (by kernel_rfl) (by kernel_rfl) rfl rfl hf (by decide) rfl (fun w hp => ?_) ⟨_, hp⟩ ?_
        · obtain ⟨_, hp⟩ := hp
          refine st_imag hf (by decide) rfl rfl ?_
          clear hf; intro a ha hf
          exact st_nil hf (th_n ⟨ha, rfl⟩)
        clear hf; intro a hf
        refine dr_take 16 (v51) rfl (by kernel_rfl) (by kernel_rfl) (by kernel_rfl) (by kernel_rfl) rfl rfl hf (by decide) rfl (fun w hp => ?_) ⟨_, hp⟩ ?_
        · obtain ⟨_, hp⟩ := hp
          refine st_move hf rfl rfl (by decide) ?_
          clear hf; intro a ha hf
          exact st_nil hf (th_n ⟨ha, rfl⟩)
        clear hf; intro a hf
        refine dr_take 17 (.int .i64 i22) rfl (by kernel_rfl) (by kernel_rfl) (by kernel_rfl) (by kernel_rfl) rfl rfl hf (by decide) rfl (fun w hp => ?_) ⟨_, hp⟩ ?_
        · obtain ⟨_, hp⟩ := hp
          refine st_move hf rfl rfl (by decide) ?_
          clear hf; intro a ha hf
          exact st_nil hf (th_n ⟨ha, rfl⟩)
        clear hf; intro a hf
        refine dr_take 18 (eptr v51 i22 1) rfl (by kernel_rfl) (by kernel_rfl) (by kernel_rfl) (by kernel_rfl) rfl rfl hf (by decide) rfl (fun w hp => ?_) ⟨_, hp⟩ ?_
        · obtain ⟨_, hp⟩ := hp
          refine st_index (E := Ek.c128) hf (by decide) Try.underlying24 elt36 rfl rfl rfl (rl102.sl hp) hc123.1 hc123.2 ?_
          clear hf; intro a ha hf
          exact st_nil hf (th_n ⟨ha, rfl⟩)
        clear hf; intro a hf
        refine dr_take 19 (.complex .f64 bb125 bb126) rfl (by kernel_rfl) (by kernel_rfl) (by kernel_rfl) (by kernel_rfl) rfl rfl hf (by decide) rfl (fun w hp => ?_) ⟨_, hp⟩ ?_
        · obtain ⟨_, hp⟩ := hp
          refine st_ldP hf (by decide) pl36 rfl rfl (hl124 _ _ hp) ?_
          clear hf; intro a ha hf
          exact st_nil hf (th_n ⟨ha, rfl⟩)
        clear hf; intro a hf
        refine dr_take 20 (.float .f64 bb126) rfl (by kernel_rfl) (by kernel_rfl) (by kernel_rfl) (by kernel_rfl) rfl rfl hf (by decide) rfl (fun w hp => ?_) ⟨_, hp⟩ ?_
        · obtain ⟨_, hp⟩ := hp
          refine st_imag hf (by decide) rfl rfl ?_
          clear hf; intro a ha hf
          exact st_nil hf (th_n ⟨ha, rfl⟩)
        clear hf; intro a hf
        refine dr_take 21 (.float .f64 (flb q129)) rfl (by kernel_rfl) (by kernel_rfl) (by kernel_rfl) (by kernel_rfl) rfl rfl hf (by decide) rfl (fun w hp => ?_) ⟨_, hp⟩ ?_
        · obtain ⟨_, hp⟩ := hp
          refine st_fs (op := .mul) rfl hf (by decide) rfl rfl rfl (show Fl.rep bb120 ((gt zx9 i22).2) from y122) (show Fl.rep bb126 ((gt q49.1 i22).2) from y128) hq130 ?_
          clear hf; intro a ha hf
          exact st_nil hf (th_n ⟨ha, rfl⟩)
        clear hf; intro a hf
        refine dr_take 22 (.float .f64 (flb q131)) rfl (by kernel_rfl) (by kernel_rfl) (by kernel_rfl) (by kernel_rfl) rfl rfl hf (by decide) rfl (fun w hp => ?_) ⟨_, hp⟩ ?_
        · obtain ⟨_, hp⟩ := hp
          refine st_fs (op := .sub) rfl hf (by decide) rfl rfl rfl (show Fl.rep (flb q115) q115 from (farithS_rep hq116)) (show Fl.rep (flb q129) q129 from (farithS_rep hq130)) hq132 ?_
          clear hf; intro a ha hf
          exact st_nil hf (th_n ⟨ha, rfl⟩)
        clear hf; intro a hf
        refine dr_take 23 (v11) rfl (by kernel_rfl) (by kernel_rfl) (by kernel_rfl) (by kernel_rfl) rfl rfl hf (by decide) rfl (fun w hp => ?_) ⟨_, hp⟩ ?_
        · obtain ⟨_, hp⟩ := hp
          refine st_move hf rfl rfl (by decide) ?_
          clear hf; intro a ha hf
          exact st_nil hf (th_n ⟨ha, rfl⟩)
        clear hf; intro a hf
        refine dr_take 24 (.int .i64 i22) rfl (by kernel_rfl) (by kernel_rfl) (by kernel_rfl) (by kernel_rfl) rfl rfl hf (by decide) rfl (fun w hp => ?_) ⟨_, hp⟩ ?_
        · obtain ⟨_, hp⟩ := hp
          refine st_move hf rfl rfl (by decide) ?_
          clear hf; intro a ha hf
          exact st_nil hf (th_n ⟨ha, rfl⟩)
        clear hf; intro a hf
        refine dr_take 25 (eptr v11 i22 1) rfl (by kernel_rfl) (by kernel_rfl) (by kernel_rfl) (by kernel_rfl) rfl rfl hf (by decide) rfl (fun w hp => ?_) ⟨_, hp⟩ ?_
        · obtain ⟨_, hp⟩ := hp
          refine st_index (E := Ek.c128) hf (by decide) Try.underlying24 elt36 rfl rfl rfl (rl101.sl hp) hc133.1 hc133.2 ?_
          clear hf; intro a ha hf
          exact st_nil hf (th_n ⟨ha, rfl⟩)
        clear hf; intro a hf
        refine dr_take 26 (.complex .f64 bb135 bb136) rfl (by kernel_rfl) (by kernel_rfl) (by kernel_rfl) (by kernel_rfl) rfl rfl hf (by decide) rfl (fun w hp => ?_) ⟨_, hp⟩ ?_
        · obtain ⟨_, hp⟩ := hp
          refine st_ldP hf (by decide) pl36 rfl rfl (hl134 _ _ hp) ?_
          clear hf; intro a ha hf
          exact st_nil hf (th_n ⟨ha, rfl⟩)
        clear hf; intro a hf
        refine dr_take 27 (.float .f64 bb135) rfl (by kernel_rfl) (by kernel_rfl) (by kernel_rfl) (by kernel_rfl) rfl rfl hf (by decide) rfl (fun w hp => ?_) ⟨_, hp⟩ ?_
        · obtain ⟨_, hp⟩ := hp
          refine st_real hf (by decide) rfl rfl ?_
          clear hf; intro a ha hf
          exact st_nil hf (th_n ⟨ha, rfl⟩)
        clear hf; intro a hf
        refine dr_take 28 (v51) rfl (by kernel_rfl) (by kernel_rfl) (by kernel_rfl) (by kernel_rfl) rfl rfl hf (by decide) rfl (fun w hp => ?_) ⟨_, hp⟩ ?_
        · obtain ⟨_, hp⟩ := hp
          refine st_move hf rfl rfl (by decide) ?_
          clear hf; intro a ha hf
          exact st_nil hf (th_n ⟨ha, rfl⟩)
        clear hf; intro a hf
        refine dr_take 29 (.int .i64 i22) rfl (by kernel_rfl) (by kernel_rfl) (by kernel_rfl) (by kernel_rfl) rfl rfl hf (by decide) rfl (fun w hp => ?_) ⟨_, hp⟩ ?_
        · obtain ⟨_, hp⟩ := hp
          refine st_move hf rfl rfl (by decide) ?_
          clear hf; intro a ha hf
          exact st_nil hf (th_n ⟨ha, rfl⟩)
        clear hf; intro a hf
        refine dr_take 30 (eptr v51 i22 1) rfl (by kernel_rfl) (by kernel_rfl) (by kernel_rfl) (by kernel_rfl) rfl rfl hf (by decide) rfl (fun w hp => ?_) ⟨_, hp⟩ ?_
        · obtain ⟨_, hp⟩ := hp
          refine st_index (E := Ek.c128) hf (by decide) Try.underlying24 elt36 rfl rfl rfl (rl102.sl hp) hc139.1 hc139.2 ?_
          clear hf; intro a ha hf
          exact st_nil hf (th_n ⟨ha, rfl⟩)
        clear hf; intro a hf
        refine dr_take 31 (.complex .f64 bb141 bb142) rfl (by kernel_rfl) (by kernel_rfl) (by kernel_rfl) (by kernel_rfl) rfl rfl hf (by decide) rfl (fun w hp => ?_) ⟨_, hp⟩ ?_
        · obtain ⟨_, hp⟩ := hp
          refine st_ldP hf (by decide) pl36 rfl rfl (hl140 _ _ hp) ?_
          clear hf; intro a ha hf
          exact st_nil hf (th_n ⟨ha, rfl⟩)
        clear hf; intro a hf
        refine dr_take 32 (.float .f64 bb142) rfl (by kernel_rfl) (by kernel_rfl) (by kernel_rfl) (by kernel_rfl) rfl rfl hf (by decide) rfl (fun w hp => ?_) ⟨_, hp⟩ ?_
        · obtain ⟨_, hp⟩ := hp
          refine st_imag hf (by decide) rfl rfl ?_
          clear hf; intro a ha hf
          exact st_nil hf (th_n ⟨ha, rfl⟩)
        clear hf; intro a hf
        refine dr_take 33 (.float .f64 (flb q145)) rfl (by kernel_rfl) (by kernel_rfl) (by kernel_rfl) (by kernel_rfl) rfl rfl hf (by decide) rfl (fun w hp => ?_) ⟨_, hp⟩ ?_
        · obtain ⟨_, hp⟩ := hp
          refine st_fs (op := .mul) rfl hf (by decide) rfl rfl rfl (show Fl.rep bb135 ((gt zx9 i22).1) from y137) (show Fl.rep bb142 ((gt q49.1 i22).2) from y144) hq146 ?_
          clear hf; intro a ha hf
          exact st_nil hf (th_n ⟨ha, rfl⟩)
        clear hf; intro a hf
        refine dr_take 34 (v11) rfl (by kernel_rfl) (by kernel_rfl) (by kernel_rfl) (by kernel_rfl) rfl rfl hf (by decide) rfl (fun w hp => ?_) ⟨_, hp⟩ ?_
        · obtain ⟨_, hp⟩ := hp
          refine st_move hf rfl rfl (by decide) ?_
          clear hf; intro a ha hf
          exact st_nil hf (th_n ⟨ha, rfl⟩)
        clear hf; intro a hf
        refine dr_take 35 (.int .i64 i22) rfl (by kernel_rfl) (by kernel_rfl) (by kernel_rfl) (by kernel_rfl) rfl rfl hf (by decide) rfl (fun w hp => ?_) ⟨_, hp⟩ ?_
        · obtain ⟨_, hp⟩ := hp
          refine st_move hf rfl rfl (by decide) ?_
          clear hf; intro a ha hf
          exact st_nil hf (th_n ⟨ha, rfl⟩)
        clear hf; intro a hf
        refine dr_take 36 (eptr v11 i22 1) rfl (by kernel_rfl) (by kernel_rfl) (by kernel_rfl) (by kernel_rfl) rfl rfl hf (by decide) rfl (fun w hp => ?_) ⟨_, hp⟩ ?_
        · obtain ⟨_, hp⟩ := hp
          refine st_index (E := Ek.c128) hf (by decide) Try.underlying24 elt36 rfl rfl rfl (rl101.sl hp) hc147.1 hc147.2 ?_
          clear hf; intro a ha hf
          exact st_nil hf (th_n ⟨ha, rfl⟩)
        clear hf; intro a hf
        refine dr_take 37 (.complex .f64 bb149 bb150) rfl (by kernel_rfl) (by kernel_rfl) (by kernel_rfl) (by kernel_rfl) rfl rfl hf (by decide) rfl (fun w hp => ?_) ⟨_, hp⟩ ?_
        · obtain ⟨_, hp⟩ := hp
          refine st_ldP hf (by decide) pl36 rfl rfl (hl148 _ _ hp) ?_
          clear hf; intro a ha hf
          exact st_nil hf (th_n ⟨ha, rfl⟩)
        clear hf; intro a hf
        refine dr_take 38 (.float .f64 bb150) rfl (by kernel_rfl) (by kernel_rfl) (by kernel_rfl) (by kernel_rfl) rfl rfl hf (by decide) rfl (fun w hp => ?_) ⟨_, hp⟩ ?_
        · obtain ⟨_, hp⟩ := hp
          refine st_imag hf (by decide) rfl rfl ?_
          clear hf; intro a ha hf
          exact st_nil hf (th_n ⟨ha, rfl⟩)
        clear hf; intro a hf
        refine dr_take 39 (v51) rfl (by kernel_rfl) (by kernel_rfl) (by kernel_rfl) (by kernel_rfl) rfl rfl hf (by decide) rfl (fun w hp => ?_) ⟨_, hp⟩ ?_
        · obtain ⟨_, hp⟩ := hp
          refine st_move hf rfl rfl (by decide) ?_
          clear hf; intro a ha hf
          exact st_nil hf (th_n ⟨ha, rfl⟩)
        clear hf; intro a hf
        refine dr_take 40 (.int .i64 i22) rfl (by kernel_rfl) (by kernel_rfl) (by kernel_rfl) (by kernel_rfl) rfl rfl hf (by decide) rfl (fun w hp => ?_) ⟨_, hp⟩ ?_
        · obtain ⟨_, hp⟩ := hp
          refine st_move hf rfl rfl (by decide) ?_
          clear hf; intro a ha hf
          exact st_nil hf (th_n ⟨ha, rfl⟩)
        clear hf; intro a hf
        refine dr_take 41 (eptr v51 i22 1) rfl (by kernel_rfl) (by kernel_rfl) (by kernel_rfl) (by kernel_rfl) rfl rfl hf (by decide) rfl (fun w hp => ?_) ⟨_, hp⟩ ?_
        · obtain ⟨_, hp⟩ := hp
          refine st_index (E := Ek.c128) hf (by decide) Try.underlying24 elt36 rfl rfl rfl (rl102.sl hp) hc153.1 hc153.2 ?_
          clear hf; intro a ha hf
          exact st_nil hf (th_n ⟨ha, rfl⟩)
        clear hf; intro a hf
        refine dr_take 42 (.complex .f64 bb155 bb156) rfl (by kernel_rfl) (by kernel_rfl) (by kernel_rfl) (by kernel_rfl) rfl rfl hf (by decide) rfl (fun w hp => ?_) ⟨_, hp⟩ ?_
        · obtain ⟨_, hp⟩ := hp
          refine st_ldP hf (by decide) pl36 rfl rfl (hl154 _ _ hp) ?_
          clear hf; intro a ha hf
          exact st_nil hf (th_n ⟨ha, rfl⟩)
        clear hf; intro a hf
        refine dr_take 43 (.float .f64 bb155) rfl (by kernel_rfl) (by kernel_rfl) (by kernel_rfl) (by kernel_rfl) rfl rfl hf (by decide) rfl (fun w hp => ?_) ⟨_, hp⟩ ?_
        · obtain ⟨_, hp⟩ := hp
          refine st_real hf (by decide) rfl rfl ?_
          clear hf; intro a ha hf
          exact st_nil hf (th_n ⟨ha, rfl⟩)
        clear hf; intro a hf
        refine dr_take 44 (.float .f64 (flb q159)) rfl (by kernel_rfl) (by kernel_rfl) (by kernel_rfl) (by kernel_rfl) rfl rfl hf (by decide) rfl (fun w hp => ?_) ⟨_, hp⟩ ?_
        · obtain ⟨_, hp⟩ := hp
          refine st_fs (op := .mul) rfl hf (by decide) rfl rfl rfl (show Fl.rep bb150 ((gt zx9 i22).2) from y152) (show Fl.rep bb155 ((gt q49.1 i22).1) from y157) hq160 ?_
          clear hf; intro a ha hf
          exact st_nil hf (th_n ⟨ha, rfl⟩)
        clear hf; intro a hf
        refine dr_take 45 (.float .f64 (flb q161)) rfl (by kernel_rfl) (by kernel_rfl) (by kernel_rfl) (by kernel_rfl) rfl rfl hf (by decide) rfl (fun w hp => ?_) ⟨_, hp⟩ ?_
        · obtain ⟨_, hp⟩ := hp
          refine st_fs (op := .add) rfl hf (by decide) rfl rfl rfl (show Fl.rep (flb q145) q145 from (farithS_rep hq146)) (show Fl.rep (flb q159) q159 from (farithS_rep hq160)) hq162 ?_
          clear hf; intro a ha hf
          exact st_nil hf (th_n ⟨ha, rfl⟩)
        clear hf; intro a hf
        refine dr_take 46 (.complex .f64 (flb q131) (flb q161)) rfl (by kernel_rfl) (by kernel_rfl) (by kernel_rfl) (by kernel_rfl) rfl rfl hf (by decide) rfl (fun w hp => ?_) ⟨_, hp⟩ ?_
        · obtain ⟨_, hp⟩ := hp
          refine st_complex hf (by decide) rfl rfl rfl ?_
          clear hf; intro a ha hf
          exact st_nil hf (th_n ⟨ha, rfl⟩)
        clear hf; intro a hf
        refine dr_take 47 (.complex .f64 (flb q131) (flb q161)) rfl (by kernel_rfl) (by kernel_rfl) (by kernel_rfl) (by kernel_rfl) rfl rfl hf (by decide) rfl (fun w hp => ?_) ⟨_, hp⟩ ?_
        · obtain ⟨_, hp⟩ := hp
          refine st_assign hf rfl rfl (by decide) ?_
          clear hf; intro a ha hf
          exact st_nil hf (th_n ⟨ha, rfl⟩)
        clear hf; intro a hf
        refine dr_end (by kernel_rfl) ?_ _
        have hp := bk100 _ _ hp
        have hp := bk95 _ _ hp
        exact ⟨hf.sub ⟨rfl, rfl, rfl, rfl, rfl, rfl, rfl, rfl, trivial⟩, hp⟩
      rintro a w ⟨hf, hp⟩
      refine th_n ?_
      refine wp_seq ?_
      refine wp_seq ?_
      obtain ⟨S163, hp164, rd165, up166, bk167⟩ := Hp.lendS hp (i := 4) rfl
      obtain ⟨S168, hp169, rd170, up171, bk172⟩ := Hp.lendS hp164 (i := 0) rfl
      have rl173 := rd170
      have rl174 := ((rd165.now hp164).mono up171)
      obtain ⟨hc175, h⟩ := chk h
      obtain ⟨bb177, bb178, y179, y180, hl176⟩ := RdS.pinC (p := i22) rl174 hc175.1 hc175.2
      obtain ⟨z243, hz181, h⟩ := bnd h
      refine wp_cutN (fun a w => Fr 317 a [(2, .int .i64 j2), (9, v11), (10, v9), (11, v20), (19, v51), (21, v87), (22, .int .i64 i22), (220, .bool z243)] ∧ Hp S w0 w (Res.sl Ek.c128 36 v20 q13.1 :: Res.sl Ek.c128 36 v11 zx9 :: Res.sl Ek.c128 36 v51 q49.1 :: Res.sl Ek.c128 36 v87 sum21 :: Res.sl Ek.c128 36 v9 q7 :: ow)) ?_ ?_
      · have hp := hp169.same (Same.drew w)
        rcases Bool.eq_false_or_eq_true (!ceq (q131, q161) (gt q13.1 i22)) with hb182 | hb182
        · skip
          replace hz181 := ifT hz181 hb182
          replace hz181 := Option.some.inj hz181
          refine dr_begin' (fun a w => Fr 317 a [(2, .int .i64 j2), (9, v11), (10, v9), (11, v20), (19, v51), (21, v87), (22, .int .i64 i22), (220, .bool z243)] ∧ Hp S w0 w (Res.sl Ek.c128 36 v20 q13.1 :: Res.sl Ek.c128 36 v11 zx9 :: Res.sl Ek.c128 36 v51 q49.1 :: Res.sl Ek.c128 36 v87 sum21 :: Res.sl Ek.c128 36 v9 q7 :: ow)) (fun w' => ∃ l, Hp S168 w w' l) [] (by kernel_rfl) ?_
          refine dr_take 0 (.complex .f64 (flb q131) (flb q161)) rfl (by kernel_rfl) (by kernel_rfl) (by kernel_rfl) (by kernel_rfl) rfl rfl hf (by decide) rfl (fun w hp => ?_) ⟨_, hp⟩ ?_
          · obtain ⟨_, hp⟩ := hp
            refine st_move hf rfl rfl (by decide) ?_
            clear hf; intro a ha hf
            exact st_nil hf (th_n ⟨ha, rfl⟩)
          clear hf; intro a hf
          refine dr_take 1 (v20) rfl (by kernel_rfl) (by kernel_rfl) (by kernel_rfl) (by kernel_rfl) rfl rfl hf (by decide) rfl (fun w hp => ?_) ⟨_, hp⟩ ?_
          · obtain ⟨_, hp⟩ := hp
            refine st_move hf rfl rfl (by decide) ?_
            clear hf; intro a ha hf
            exact st_nil hf (th_n ⟨ha, rfl⟩)
          clear hf; intro a hf
          refine dr_take 2 (.int .i64 i22) rfl (by kernel_rfl) (by kernel_rfl) (by kernel_rfl) (by kernel_rfl) rfl rfl hf (by decide) rfl (fun w hp => ?_) ⟨_, hp⟩ ?_
          · obtain ⟨_, hp⟩ := hp
            refine st_move hf rfl rfl (by decide) ?_
            clear hf; intro a ha hf
            exact st_nil hf (th_n ⟨ha, rfl⟩)
          clear hf; intro a hf
          refine dr_take 3 (eptr v20 i22 1) rfl (by kernel_rfl) (by kernel_rfl) (by kernel_rfl) (by kernel_rfl) rfl rfl hf (by decide) rfl (fun w hp => ?_) ⟨_, hp⟩ ?_
          · obtain ⟨_, hp⟩ := hp
            refine st_index (E := Ek.c128) hf (by decide) Try.underlying24 elt36 rfl rfl rfl (rl174.sl hp) hc175.1 hc175.2 ?_
            clear hf; intro a ha hf
            exact st_nil hf (th_n ⟨ha, rfl⟩)
          clear hf; intro a hf
          refine dr_take 4 (.complex .f64 bb177 bb178) rfl (by kernel_rfl) (by kernel_rfl) (by kernel_rfl) (by kernel_rfl) rfl rfl hf (by decide) rfl (fun w hp => ?_) ⟨_, hp⟩ ?_
          · obtain ⟨_, hp⟩ := hp
            refine st_ldP hf (by decide) pl36 rfl rfl (hl176 _ _ hp) ?_
            clear hf; intro a ha hf
            exact st_nil hf (th_n ⟨ha, rfl⟩)
          clear hf; intro a hf
          refine dr_take 5 (.bool (!ceq (q131, q161) (gt q13.1 i22))) rfl (by kernel_rfl) (by kernel_rfl) (by kernel_rfl) (by kernel_rfl) rfl rfl hf (by decide) rfl (fun w hp => ?_) ⟨_, hp⟩ ?_
          · obtain ⟨_, hp⟩ := hp
            refine st_ccmp (r_cne (x := (q131, q161)) (y := (gt q13.1 i22)) (farithS_rep hq132) (farithS_rep hq162) y179 y180) hf (by decide) rfl rfl rfl ?_
            clear hf; intro a ha hf
            exact st_nil hf (th_n ⟨ha, rfl⟩)
          clear hf; intro a hf
          refine dr_take 6 (.bool (!ceq (q131, q161) (gt q13.1 i22))) rfl (by kernel_rfl) (by kernel_rfl) (by kernel_rfl) (by kernel_rfl) rfl rfl hf (by decide) rfl (fun w hp => ?_) ⟨_, hp⟩ ?_
          · obtain ⟨_, hp⟩ := hp
            refine st_move hf rfl rfl (by decide) ?_
            clear hf; intro a ha hf
            exact st_nil hf (th_n ⟨ha, rfl⟩)
          clear hf; intro a hf
          refine dr_out 7 rfl (by kernel_rfl) (by kernel_rfl) (by kernel_rfl) (by kernel_rfl) rfl hf (by decide) rfl (wantN hf rfl rfl hb182) ⟨_, hp⟩ ?_
          clear hf; intro a hf
          refine dr_out 8 rfl (by kernel_rfl) (by kernel_rfl) (by kernel_rfl) (by kernel_rfl) rfl hf (by decide) rfl (wantN hf rfl rfl hb182) ⟨_, hp⟩ ?_
          clear hf; intro a hf
          refine dr_out 9 rfl (by kernel_rfl) (by kernel_rfl) (by kernel_rfl) (by kernel_rfl) rfl hf (by decide) rfl (wantN hf rfl rfl hb182) ⟨_, hp⟩ ?_
          clear hf; intro a hf
          refine dr_out 10 rfl (by kernel_rfl) (by kernel_rfl) (by kernel_rfl) (by kernel_rfl) rfl hf (by decide) rfl (wantN hf rfl rfl hb182) ⟨_, hp⟩ ?_
          clear hf; intro a hf
          refine dr_out 11 rfl (by kernel_rfl) (by kernel_rfl) (by kernel_rfl) (by kernel_rfl) rfl hf (by decide) rfl (wantN hf rfl rfl hb182) ⟨_, hp⟩ ?_
          clear hf; intro a hf
          refine dr_out 12 rfl (by kernel_rfl) (by kernel_rfl) (by kernel_rfl) (by kernel_rfl) rfl hf (by decide) rfl (wantN hf rfl rfl hb182) ⟨_, hp⟩ ?_
          clear hf; intro a hf
          refine dr_out 13 rfl (by kernel_rfl) (by kernel_rfl) (by kernel_rfl) (by kernel_rfl) rfl hf (by decide) rfl (wantN hf rfl rfl hb182) ⟨_, hp⟩ ?_
          clear hf; intro a hf
          refine dr_out 14 rfl (by kernel_rfl) (by kernel_rfl) (by kernel_rfl) (by kernel_rfl) rfl hf (by decide) rfl (wantN hf rfl rfl hb182) ⟨_, hp⟩ ?_
          clear hf; intro a hf
          refine dr_out 15 rfl (by kernel_rfl) (by kernel_rfl) (by kernel_rfl) (by kernel_rfl) rfl hf (by decide) rfl (wantN hf rfl rfl hb182) ⟨_, hp⟩ ?_
          clear hf; intro a hf
          refine dr_out 16 rfl (by kernel_rfl) (by kernel_rfl) (by kernel_rfl) (by kernel_rfl) rfl hf (by decide) rfl (wantN hf rfl rfl hb182) ⟨_, hp⟩ ?_
          clear hf; intro a hf
          refine dr_out 17 rfl (by kernel_rfl) (by kernel_rfl) (by kernel_rfl) (by kernel_rfl) rfl hf (by decide) rfl (wantN hf rfl rfl hb182) ⟨_, hp⟩ ?_
          clear hf; intro a hf
          refine dr_out 18 rfl (by kernel_rfl) (by kernel_rfl) (by kernel_rfl) (by kernel_rfl) rfl hf (by decide) rfl (wantN hf rfl rfl hb182) ⟨_, hp⟩ ?_
          clear hf; intro a hf
          refine dr_out 19 rfl (by kernel_rfl) (by kernel_rfl) (by kernel_rfl) (by kernel_rfl) rfl hf (by decide) rfl (wantN hf rfl rfl hb182) ⟨_, hp⟩ ?_
          clear hf; intro a hf
          refine dr_out 20 rfl (by kernel_rfl) (by kernel_rfl) (by kernel_rfl) (by kernel_rfl) rfl hf (by decide) rfl (wantN hf rfl rfl hb182) ⟨_, hp⟩ ?_
          clear hf; intro a hf
          refine dr_out 21 rfl (by kernel_rfl) (by kernel_rfl) (by kernel_rfl) (by kernel_rfl) rfl hf (by decide) rfl (wantN hf rfl rfl hb182) ⟨_, hp⟩ ?_
          clear hf; intro a hf
          refine dr_out 22 rfl (by kernel_rfl) (by kernel_rfl) (by kernel_rfl) (by kernel_rfl) rfl hf (by decide) rfl (wantN hf rfl rfl hb182) ⟨_, hp⟩ ?_
          clear hf; intro a hf
          refine dr_out 23 rfl (by kernel_rfl) (by kernel_rfl) (by kernel_rfl) (by kernel_rfl) rfl hf (by decide) rfl (wantN hf rfl rfl hb182) ⟨_, hp⟩ ?_
          clear hf; intro a hf
          refine dr_out 24 rfl (by kernel_rfl) (by kernel_rfl) (by kernel_rfl) (by kernel_rfl) rfl hf (by decide) rfl (wantN hf rfl rfl hb182) ⟨_, hp⟩ ?_
          clear hf; intro a hf
          refine dr_out 25 rfl (by kernel_rfl) (by kernel_rfl) (by kernel_rfl) (by kernel_rfl) rfl hf (by decide) rfl (wantN hf rfl rfl hb182) ⟨_, hp⟩ ?_
          clear hf; intro a hf
          refine dr_out 26 rfl (by kernel_rfl) (by kernel_rfl) (by kernel_rfl) (by kernel_rfl) rfl hf (by decide) rfl (wantN hf rfl rfl hb182) ⟨_, hp⟩ ?_
          clear hf; intro a hf
          refine dr_out 27 rfl (by kernel_rfl) (by kernel_rfl) (by kernel_rfl) (by kernel_rfl) rfl hf (by decide) rfl (wantN hf rfl rfl hb182) ⟨_, hp⟩ ?_
          clear hf; intro a hf
          refine dr_out 28 rfl (by kernel_rfl) (by kernel_rfl) (by kernel_rfl) (by kernel_rfl) rfl hf (by decide) rfl (wantN hf rfl rfl hb182) ⟨_, hp⟩ ?_
          clear hf; intro a hf
          refine dr_out 29 rfl (by kernel_rfl) (by kernel_rfl) (by kernel_rfl) (by kernel_rfl) rfl hf (by decide) rfl (wantN hf rfl rfl hb182) ⟨_, hp⟩ ?_
          clear hf; intro a hf
          refine dr_out 30 rfl (by kernel_rfl) (by kernel_rfl) (by kernel_rfl) (by kernel_rfl) rfl hf (by decide) rfl (wantN hf rfl rfl hb182) ⟨_, hp⟩ ?_
          clear hf; intro a hf
          refine dr_out 31 rfl (by kernel_rfl) (by kernel_rfl) (by kernel_rfl) (by kernel_rfl) rfl hf (by decide) rfl (wantN hf rfl rfl hb182) ⟨_, hp⟩ ?_
          clear hf; intro a hf
          refine dr_out 32 rfl (by kernel_rfl) (by kernel_rfl) (by kernel_rfl) (by kernel_rfl) rfl hf (by decide) rfl (wantN hf rfl rfl hb182) ⟨_, hp⟩ ?_
          clear hf; intro a hf
          refine dr_out 33 rfl (by kernel_rfl) (by kernel_rfl) (by kernel_rfl) (by kernel_rfl) rfl hf (by decide) rfl (wantN hf rfl rfl hb182) ⟨_, hp⟩ ?_
          clear hf; intro a hf
          refine dr_out 34 rfl (by kernel_rfl) (by kernel_rfl) (by kernel_rfl) (by kernel_rfl) rfl hf (by decide) rfl (wantN hf rfl rfl hb182) ⟨_, hp⟩ ?_
          clear hf; intro a hf
          refine dr_out 35 rfl (by kernel_rfl) (by kernel_rfl) (by kernel_rfl) (by kernel_rfl) rfl hf (by decide) rfl (wantN hf rfl rfl hb182) ⟨_, hp⟩ ?_
          clear hf; intro a hf
          refine dr_out 36 rfl (by kernel_rfl) (by kernel_rfl) (by kernel_rfl) (by kernel_rfl) rfl hf (by decide) rfl (wantN hf rfl rfl hb182) ⟨_, hp⟩ ?_
          clear hf; intro a hf
          refine dr_out 37 rfl (by kernel_rfl) (by kernel_rfl) (by kernel_rfl) (by kernel_rfl) rfl hf (by decide) rfl (wantN hf rfl rfl hb182) ⟨_, hp⟩ ?_
          clear hf; intro a hf
          refine dr_out 38 rfl (by kernel_rfl) (by kernel_rfl) (by kernel_rfl) (by kernel_rfl) rfl hf (by decide) rfl (wantN hf rfl rfl hb182) ⟨_, hp⟩ ?_
          clear hf; intro a hf
          refine dr_out 39 rfl (by kernel_rfl) (by kernel_rfl) (by kernel_rfl) (by kernel_rfl) rfl hf (by decide) rfl (wantN hf rfl rfl hb182) ⟨_, hp⟩ ?_
          clear hf; intro a hf
          refine dr_out 40 rfl (by kernel_rfl) (by kernel_rfl) (by kernel_rfl) (by kernel_rfl) rfl hf (by decide) rfl (wantN hf rfl rfl hb182) ⟨_, hp⟩ ?_
          clear hf; intro a hf
          refine dr_out 41 rfl (by kernel_rfl) (by kernel_rfl) (by kernel_rfl) (by kernel_rfl) rfl hf (by decide) rfl (wantN hf rfl rfl hb182) ⟨_, hp⟩ ?_
          clear hf; intro a hf
          refine dr_out 42 rfl (by kernel_rfl) (by kernel_rfl) (by kernel_rfl) (by kernel_rfl) rfl hf (by decide) rfl (wantN hf rfl rfl hb182) ⟨_, hp⟩ ?_
          clear hf; intro a hf
          refine dr_out 43 rfl (by kernel_rfl) (by kernel_rfl) (by kernel_rfl) (by kernel_rfl) rfl hf (by decide) rfl (wantN hf rfl rfl hb182) ⟨_, hp⟩ ?_
          clear hf; intro a hf
          refine dr_out 44 rfl (by kernel_rfl) (by kernel_rfl) (by kernel_rfl) (by kernel_rfl) rfl hf (by decide) rfl (wantN hf rfl rfl hb182) ⟨_, hp⟩ ?_
          clear hf; intro a hf
          refine dr_out 45 rfl (by kernel_rfl) (by kernel_rfl) (by kernel_rfl) (by kernel_rfl) rfl hf (by decide) rfl (wantN hf rfl rfl hb182) ⟨_, hp⟩ ?_
          clear hf; intro a hf
          refine dr_out 46 rfl (by kernel_rfl) (by kernel_rfl) (by kernel_rfl) (by kernel_rfl) rfl hf (by decide) rfl (wantN hf rfl rfl hb182) ⟨_, hp⟩ ?_
          clear hf; intro a hf
          refine dr_out 47 rfl (by kernel_rfl) (by kernel_rfl) (by kernel_rfl) (by kernel_rfl) rfl hf (by decide) rfl (wantN hf rfl rfl hb182) ⟨_, hp⟩ ?_
          clear hf; intro a hf
          refine dr_out 48 rfl (by kernel_rfl) (by kernel_rfl) (by kernel_rfl) (by kernel_rfl) rfl hf (by decide) rfl (wantN hf rfl rfl hb182) ⟨_, hp⟩ ?_
          clear hf; intro a hf
          refine dr_out 49 rfl (by kernel_rfl) (by kernel_rfl) (by kernel_rfl) (by kernel_rfl) rfl hf (by decide) rfl (wantN hf rfl rfl hb182) ⟨_, hp⟩ ?_
          clear hf; intro a hf
          refine dr_out 50 rfl (by kernel_rfl) (by kernel_rfl) (by kernel_rfl) (by kernel_rfl) rfl hf (by decide) rfl (wantN hf rfl rfl hb182) ⟨_, hp⟩ ?_
          clear hf; intro a hf
          refine dr_out 51 rfl (by kernel_rfl) (by kernel_rfl) (by kernel_rfl) (by kernel_rfl) rfl hf (by decide) rfl (wantN hf rfl rfl hb182) ⟨_, hp⟩ ?_
          clear hf; intro a hf
          refine dr_out 52 rfl (by kernel_rfl) (by kernel_rfl) (by kernel_rfl) (by kernel_rfl) rfl hf (by decide) rfl (wantN hf rfl rfl hb182) ⟨_, hp⟩ ?_
          clear hf; intro a hf
          refine dr_out 53 rfl (by kernel_rfl) (by kernel_rfl) (by kernel_rfl) (by kernel_rfl) rfl hf (by decide) rfl (wantN hf rfl rfl hb182) ⟨_, hp⟩ ?_
          clear hf; intro a hf
          refine dr_take 54 (.bool z243) rfl (by kernel_rfl) (by kernel_rfl) (by kernel_rfl) (by kernel_rfl) rfl rfl hf (by decide) rfl (fun w hp => ?_) ⟨_, hp⟩ ?_
          · obtain ⟨_, hp⟩ := hp
            refine st_pick (v := .bool z243) hf rfl rfl (fun _ => by rw [← hz181]; rfl) (fun hb' => absurd (hb182.symm.trans hb') (by decide)) (by decide) ?_
            clear hf; intro a ha hf
            exact st_nil hf (th_n ⟨ha, rfl⟩)
          clear hf; intro a hf
          refine dr_end (by kernel_rfl) ?_ _
          have hp := bk172 _ _ hp
          have hp := bk167 _ _ hp
          exact ⟨hf.sub ⟨rfl, rfl, rfl, rfl, rfl, rfl, rfl, rfl, trivial⟩, hp⟩
        skip
        replace hz181 := ifF hz181 hb182
        obtain ⟨hc183, hz181⟩ := chk hz181
        obtain ⟨bb185, bb186, y187, y188, hl184⟩ := RdS.pinC (p := i22) rl174 hc183.1 hc183.2
        obtain ⟨hc189, hz181⟩ := chk hz181
        obtain ⟨bb191, bb192, y193, y194, hl190⟩ := RdS.pinC (p := i22) rl174 hc189.1 hc189.2
        obtain ⟨q195, hq196, hz181⟩ := bnd hz181
        obtain ⟨hc197, hz181⟩ := chk hz181
        obtain ⟨bb199, bb200, y201, y202, hl198⟩ := RdS.pinC (p := i22) rl174 hc197.1 hc197.2
        obtain ⟨hc203, hz181⟩ := chk hz181
        obtain ⟨bb205, bb206, y207, y208, hl204⟩ := RdS.pinC (p := i22) rl174 hc203.1 hc203.2
        obtain ⟨q209, hq210, hz181⟩ := bnd hz181
        obtain ⟨q211, hq212, hz181⟩ := bnd hz181
        obtain ⟨hc213, hz181⟩ := chk hz181
        obtain ⟨bb215, bb216, y217, y218, hl214⟩ := RdS.pinC (p := i22) rl173 hc213.1 hc213.2
        obtain ⟨hc219, hz181⟩ := chk hz181
        obtain ⟨bb221, bb222, y223, y224, hl220⟩ := RdS.pinC (p := i22) rl173 hc219.1 hc219.2
        obtain ⟨q225, hq226, hz181⟩ := bnd hz181
        obtain ⟨hc227, hz181⟩ := chk hz181
        obtain ⟨bb229, bb230, y231, y232, hl228⟩ := RdS.pinC (p := i22) rl173 hc227.1 hc227.2
        obtain ⟨hc233, hz181⟩ := chk hz181
        obtain ⟨bb235, bb236, y237, y238, hl234⟩ := RdS.pinC (p := i22) rl173 hc233.1 hc233.2
        obtain ⟨q239, hq240, hz181⟩ := bnd hz181
        obtain ⟨q241, hq242, hz181⟩ := bnd hz181
        replace hz181 := Option.some.inj hz181
        refine dr_begin' (fun a w => Fr 317 a [(2, .int .i64 j2), (9, v11), (10, v9), (11, v20), (19, v51), (21, v87), (22, .int .i64 i22), (220, .bool z243)] ∧ Hp S w0 w (Res.sl Ek.c128 36 v20 q13.1 :: Res.sl Ek.c128 36 v11 zx9 :: Res.sl Ek.c128 36 v51 q49.1 :: Res.sl Ek.c128 36 v87 sum21 :: Res.sl Ek.c128 36 v9 q7 :: ow)) (fun w' => ∃ l, Hp S168 w w' l) [] (by kernel_rfl) ?_
        refine dr_take 0 (.complex .f64 (flb q131) (flb q161)) rfl (by kernel_rfl) (by kernel_rfl) (by kernel_rfl) (by kernel_rfl) rfl rfl hf (by decide) rfl (fun w hp => ?_) ⟨_, hp⟩ ?_
        · obtain ⟨_, hp⟩ := hp
          refine st_move hf rfl rfl (by decide) ?_
          clear hf; intro a ha hf
          exact st_nil hf (th_n ⟨ha, rfl⟩)
        clear hf; intro a hf
        refine dr_take 1 (v20) rfl (by kernel_rfl) (by kernel_rfl) (by kernel_rfl) (by kernel_rfl) rfl rfl hf (by decide) rfl (fun w hp => ?_) ⟨_, hp⟩ ?_
        · obtain ⟨_, hp⟩ := hp
          refine st_move hf rfl rfl (by decide) ?_
          clear hf; intro a ha hf
          exact st_nil hf (th_n ⟨ha, rfl⟩)
        clear hf; intro a hf
        refine dr_take 2 (.int .i64 i22) rfl (by kernel_rfl) (by kernel_rfl) (by kernel_rfl) (by kernel_rfl) rfl rfl hf (by decide) rfl (fun w hp => ?_) ⟨_, hp⟩ ?_
        · obtain ⟨_, hp⟩ := hp
          refine st_move hf rfl rfl (by decide) ?_
          clear hf; intro a ha hf
          exact st_nil hf (th_n ⟨ha, rfl⟩)
        clear hf; intro a hf
        refine dr_take 3 (eptr v20 i22 1) rfl (by kernel_rfl) (by kernel_rfl) (by kernel_rfl) (by kernel_rfl) rfl rfl hf (by decide) rfl (fun w hp => ?_) ⟨_, hp⟩ ?_
        · obtain ⟨_, hp⟩ := hp
          refine st_index (E := Ek.c128) hf (by decide) Try.underlying24 elt36 rfl rfl rfl (rl174.sl hp) hc175.1 hc175.2 ?_
          clear hf; intro a ha hf
          exact st_nil hf (th_n ⟨ha, rfl⟩)
        clear hf; intro a hf
        refine dr_take 4 (.complex .f64 bb177 bb178) rfl (by kernel_rfl) (by kernel_rfl) (by kernel_rfl) (by kernel_rfl) rfl rfl hf (by decide) rfl (fun w hp => ?_) ⟨_, hp⟩ ?_
        · obtain ⟨_, hp⟩ := hp
          refine st_ldP hf (by decide) pl36 rfl rfl (hl176 _ _ hp) ?_
          clear hf; intro a ha hf
          exact st_nil hf (th_n ⟨ha, rfl⟩)
        clear hf; intro a hf
        refine dr_take 5 (.bool (!ceq (q131, q161) (gt q13.1 i22))) rfl (by kernel_rfl) (by kernel_rfl) (by kernel_rfl) (by kernel_rfl) rfl rfl hf (by decide) rfl (fun w hp => ?_) ⟨_, hp⟩ ?_
        · obtain ⟨_, hp⟩ := hp
          refine st_ccmp (r_cne (x := (q131, q161)) (y := (gt q13.1 i22)) (farithS_rep hq132) (farithS_rep hq162) y179 y180) hf (by decide) rfl rfl rfl ?_
          clear hf; intro a ha hf
          exact st_nil hf (th_n ⟨ha, rfl⟩)
        clear hf; intro a hf
        refine dr_take 6 (.bool (!ceq (q131, q161) (gt q13.1 i22))) rfl (by kernel_rfl) (by kernel_rfl) (by kernel_rfl) (by kernel_rfl) rfl rfl hf (by decide) rfl (fun w hp => ?_) ⟨_, hp⟩ ?_
        · obtain ⟨_, hp⟩ := hp
          refine st_move hf rfl rfl (by decide) ?_
          clear hf; intro a ha hf
          exact st_nil hf (th_n ⟨ha, rfl⟩)
        clear hf; intro a hf
        refine dr_take 7 (v20) rfl (by kernel_rfl) (by kernel_rfl) (by kernel_rfl) (by kernel_rfl) rfl rfl hf (by decide) (wantY hf rfl rfl hb182) (fun w hp => ?_) ⟨_, hp⟩ ?_
        · obtain ⟨_, hp⟩ := hp
          refine st_move hf (wantY hf rfl rfl hb182) rfl (by decide) ?_
          clear hf; intro a ha hf
          exact st_nil hf (th_n ⟨ha, rfl⟩)
        clear hf; intro a hf
        refine dr_take 8 (.int .i64 i22) rfl (by kernel_rfl) (by kernel_rfl) (by kernel_rfl) (by kernel_rfl) rfl rfl hf (by decide) (wantY hf rfl rfl hb182) (fun w hp => ?_) ⟨_, hp⟩ ?_
        · obtain ⟨_, hp⟩ := hp
          refine st_move hf (wantY hf rfl rfl hb182) rfl (by decide) ?_
          clear hf; intro a ha hf
          exact st_nil hf (th_n ⟨ha, rfl⟩)
        clear hf; intro a hf
        refine dr_take 9 (eptr v20 i22 1) rfl (by kernel_rfl) (by kernel_rfl) (by kernel_rfl) (by kernel_rfl) rfl rfl hf (by decide) (wantY hf rfl rfl hb182) (fun w hp => ?_) ⟨_, hp⟩ ?_
        · obtain ⟨_, hp⟩ := hp
          refine st_index (E := Ek.c128) hf (by decide) Try.underlying24 elt36 (wantY hf rfl rfl hb182) rfl rfl (rl174.sl hp) hc183.1 hc183.2 ?_
          clear hf; intro a ha hf
          exact st_nil hf (th_n ⟨ha, rfl⟩)
        clear hf; intro a hf
        refine dr_take 10 (.complex .f64 bb185 bb186) rfl (by kernel_rfl) (by kernel_rfl) (by kernel_rfl) (by kernel_rfl) rfl rfl hf (by decide) (wantY hf rfl rfl hb182) (fun w hp => ?_) ⟨_, hp⟩ ?_
        · obtain ⟨_, hp⟩ := hp
          refine st_ldP hf (by decide) pl36 (wantY hf rfl rfl hb182) rfl (hl184 _ _ hp) ?_
          clear hf; intro a ha hf
          exact st_nil hf (th_n ⟨ha, rfl⟩)
        clear hf; intro a hf
        refine dr_take 11 (.float .f64 bb185) rfl (by kernel_rfl) (by kernel_rfl) (by kernel_rfl) (by kernel_rfl) rfl rfl hf (by decide) (wantY hf rfl rfl hb182) (fun w hp => ?_) ⟨_, hp⟩ ?_
        · obtain ⟨_, hp⟩ := hp
          refine st_real hf (by decide) (wantY hf rfl rfl hb182) rfl ?_
          clear hf; intro a ha hf
          exact st_nil hf (th_n ⟨ha, rfl⟩)
        clear hf; intro a hf
        refine dr_take 12 (v20) rfl (by kernel_rfl) (by kernel_rfl) (by kernel_rfl) (by kernel_rfl) rfl rfl hf (by decide) (wantY hf rfl rfl hb182) (fun w hp => ?_) ⟨_, hp⟩ ?_
        · obtain ⟨_, hp⟩ := hp
          refine st_move hf (wantY hf rfl rfl hb182) rfl (by decide) ?_
          clear hf; intro a ha hf
          exact st_nil hf (th_n ⟨ha, rfl⟩)
        clear hf; intro a hf
        refine dr_take 13 (.int .i64 i22) rfl (by kernel_rfl) (by kernel_rfl) (by kernel_rfl) (by kernel_rfl) rfl rfl hf (by decide) (wantY hf rfl rfl hb182) (fun w hp => ?_) ⟨_, hp⟩ ?_
        · obtain ⟨_, hp⟩ := hp
          refine st_move hf (wantY hf rfl rfl hb182) rfl (by decide) ?_
          clear hf; intro a ha hf
          exact st_nil hf (th_n ⟨ha, rfl⟩)
        clear hf; intro a hf
        refine dr_take 14 (eptr v20 i22 1) rfl (by kernel_rfl) (by kernel_rfl) (by kernel_rfl) (by kernel_rfl) rfl rfl hf (by decide) (wantY hf rfl rfl hb182) (fun w hp => ?_) ⟨_, hp⟩ ?_
        · obtain ⟨_, hp⟩ := hp
          refine st_index (E := Ek.c128) hf (by decide) Try.underlying24 elt36 (wantY hf rfl rfl hb182) rfl rfl (rl174.sl hp) hc189.1 hc189.2 ?_
          clear hf; intro a ha hf
          exact st_nil hf (th_n ⟨ha, rfl⟩)
        clear hf; intro a hf
        refine dr_take 15 (.complex .f64 bb191 bb192) rfl (by kernel_rfl) (by kernel_rfl) (by kernel_rfl) (by kernel_rfl) rfl rfl hf (by decide) (wantY hf rfl rfl hb182) (fun w hp => ?_) ⟨_, hp⟩ ?_
        · obtain ⟨_, hp⟩ := hp
          refine st_ldP hf (by decide) pl36 (wantY hf rfl rfl hb182) rfl (hl190 _ _ hp) ?_
          clear hf; intro a ha hf
          exact st_nil hf (th_n ⟨ha, rfl⟩)
        clear hf; intro a hf
        refine dr_take 16 (.float .f64 bb191) rfl (by kernel_rfl) (by kernel_rfl) (by kernel_rfl) (by kernel_rfl) rfl rfl hf (by decide) (wantY hf rfl rfl hb182) (fun w hp => ?_) ⟨_, hp⟩ ?_
        · obtain ⟨_, hp⟩ := hp
          refine st_real hf (by decide) (wantY hf rfl rfl hb182) rfl ?_
          clear hf; intro a ha hf
          exact st_nil hf (th_n ⟨ha, rfl⟩)
        clear hf; intro a hf
        refine dr_take 17 (.float .f64 (flb q195)) rfl (by kernel_rfl) (by kernel_rfl) (by kernel_rfl) (by kernel_rfl) rfl rfl hf (by decide) (wantY hf rfl rfl hb182) (fun w hp => ?_) ⟨_, hp⟩ ?_
        · obtain ⟨_, hp⟩ := hp
          refine st_fs (op := .mul) rfl hf (by decide) (wantY hf rfl rfl hb182) rfl rfl (show Fl.rep bb185 ((gt q13.1 i22).1) from y187) (show Fl.rep bb191 ((gt q13.1 i22).1) from y193) hq196 ?_
          clear hf; intro a ha hf
          exact st_nil hf (th_n ⟨ha, rfl⟩)
        clear hf; intro a hf
        refine dr_take 18 (v20) rfl (by kernel_rfl) (by kernel_rfl) (by kernel_rfl) (by kernel_rfl) rfl rfl hf (by decide) (wantY hf rfl rfl hb182) (fun w hp => ?_) ⟨_, hp⟩ ?_
        · obtain ⟨_, hp⟩ := hp
          refine st_move hf (wantY hf rfl rfl hb182) rfl (by decide) ?_
          clear hf; intro a ha hf
          exact st_nil hf (th_n ⟨ha, rfl⟩)
        clear hf; intro a hf
        refine dr_take 19 (.int .i64 i22) rfl (by kernel_rfl) (by kernel_rfl) (by kernel_rfl) (by kernel_rfl) rfl rfl hf (by decide) (wantY hf rfl rfl hb182) (fun w hp => ?_) ⟨_, hp⟩ ?_
        · obtain ⟨_, hp⟩ := hp
          refine st_move hf (wantY hf rfl rfl hb182) rfl (by decide) ?_
          clear hf; intro a ha hf
          exact st_nil hf (th_n ⟨ha, rfl⟩)
        clear hf; intro a hf
        refine dr_take 20 (eptr v20 i22 1) rfl (by kernel_rfl) (by kernel_rfl) (by kernel_rfl) (by kernel_rfl) rfl rfl hf (by decide) (wantY hf rfl rfl hb182) (fun w hp => ?_) ⟨_, hp⟩ ?_
        · obtain ⟨_, hp⟩ := hp
          refine st_index (E := Ek.c128) hf (by decide) Try.underlying24 elt36 (wantY hf rfl rfl hb182) rfl rfl (rl174.sl hp) hc197.1 hc197.2 ?_
          clear hf; intro a ha hf
          exact st_nil hf (th_n ⟨ha, rfl⟩)
        clear hf; intro a hf
        refine dr_take 21 (.complex .f64 bb199 bb200) rfl (by kernel_rfl) (by kernel_rfl) (by kernel_rfl) (by kernel_rfl) rfl rfl hf (by decide) (wantY hf rfl rfl hb182) (fun w hp => ?_) ⟨_, hp⟩ ?_
        · obtain ⟨_, hp⟩ := hp
          refine st_ldP hf (by decide) pl36 (wantY hf rfl rfl hb182) rfl (hl198 _ _ hp) ?_
          clear hf; intro a ha hf
          exact st_nil hf (th_n ⟨ha, rfl⟩)
        clear hf; intro a hf
        refine dr_take 22 (.float .f64 bb200) rfl (by kernel_rfl) (by kernel_rfl) (by kernel_rfl) (by kernel_rfl) rfl rfl hf (by decide) (wantY hf rfl rfl hb182) (fun w hp => ?_) ⟨_, hp⟩ ?_
        · obtain ⟨_, hp⟩ := hp
          refine st_imag hf (by decide) (wantY hf rfl rfl hb182) rfl ?_
          clear hf; intro a ha hf
          exact st_nil hf (th_n ⟨ha, rfl⟩)
        clear hf; intro a hf
        refine dr_take 23 (v20) rfl (by kernel_rfl) (by kernel_rfl) (by kernel_rfl) (by kernel_rfl) rfl rfl hf (by decide) (wantY hf rfl rfl hb182) (fun w hp => ?_) ⟨_, hp⟩ ?_
        · obtain ⟨_, hp⟩ := hp
          refine st_move hf (wantY hf rfl rfl hb182) rfl (by decide) ?_
          clear hf; intro a ha hf
          exact st_nil hf (th_n ⟨ha, rfl⟩)
        clear hf; intro a hf
        refine dr_take 24 (.int .i64 i22) rfl (by kernel_rfl) (by kernel_rfl) (by kernel_rfl) (by kernel_rfl) rfl rfl hf (by decide) (wantY hf rfl rfl hb182) (fun w hp => ?_) ⟨_, hp⟩ ?_
        · obtain ⟨_, hp⟩ := hp
          refine st_move hf (wantY hf rfl rfl hb182) rfl (by decide) ?_
          clear hf; intro a ha hf
          exact st_nil hf (th_n ⟨ha, rfl⟩)
        clear hf; intro a hf
        refine dr_take 25 (eptr v20 i22 1) rfl (by kernel_rfl) (by kernel_rfl) (by kernel_rfl) (by kernel_rfl) rfl rfl hf (by decide) (wantY hf rfl rfl hb182) (fun w hp => ?_) ⟨_, hp⟩ ?_
        · obtain ⟨_, hp⟩ := hp
          refine st_index (E := Ek.c128) hf (by decide) Try.underlying24 elt36 (wantY hf rfl rfl hb182) rfl rfl (rl174.sl hp) hc203.1 hc203.2 ?_
          clear hf; intro a ha hf
          exact st_nil hf (th_n ⟨ha, rfl⟩)
        clear hf; intro a hf
        refine dr_take 26 (.complex .f64 bb205 bb206) rfl (by kernel_rfl) (by kernel_rfl) (by kernel_rfl) (by kernel_rfl) rfl rfl hf (by decide) (wantY hf rfl rfl hb182) (fun w hp => ?_) ⟨_, hp⟩ ?_
        · obtain ⟨_, hp⟩ := hp
          refine st_ldP hf (by decide) pl36 (wantY hf rfl rfl hb182) rfl (hl204 _ _ hp) ?_
          clear hf; intro a ha hf
          exact st_nil hf (th_n ⟨ha, rfl⟩)
        clear hf; intro a hf
        refine dr_take 27 (.float .f64 bb206) rfl (by kernel_rfl) (by kernel_rfl) (by kernel_rfl) (by kernel_rfl) rfl rfl hf (by decide) (wantY hf rfl rfl hb182) (fun w hp => ?_) ⟨_, hp⟩ ?_
        · obtain ⟨_, hp⟩ := hp
          refine st_imag hf (by decide) (wantY hf rfl rfl hb182) rfl ?_
          clear hf; intro a ha hf
          exact st_nil hf (th_n ⟨ha, rfl⟩)
        clear hf; intro a hf
        refine dr_take 28 (.float .f64 (flb q209)) rfl (by kernel_rfl) (by kernel_rfl) (by kernel_rfl) (by kernel_rfl) rfl rfl hf (by decide) (wantY hf rfl rfl hb182) (fun w hp => ?_) ⟨_, hp⟩ ?_
        · obtain ⟨_, hp⟩ := hp
          refine st_fs (op := .mul) rfl hf (by decide) (wantY hf rfl rfl hb182) rfl rfl (show Fl.rep bb200 ((gt q13.1 i22).2) from y202) (show Fl.rep bb206 ((gt q13.1 i22).2) from y208) hq210 ?_
          clear hf; intro a ha hf
          exact st_nil hf (th_n ⟨ha, rfl⟩)
        clear hf; intro a hf
        refine dr_take 29 (.float .f64 (flb q211)) rfl (by kernel_rfl) (by kernel_rfl) (by kernel_rfl) (by kernel_rfl) rfl rfl hf (by decide) (wantY hf rfl rfl hb182) (fun w hp => ?_) ⟨_, hp⟩ ?_
        · obtain ⟨_, hp⟩ := hp
          refine st_fs (op := .add) rfl hf (by decide) (wantY hf rfl rfl hb182) rfl rfl (show Fl.rep (flb q195) q195 from (farithS_rep hq196)) (show Fl.rep (flb q209) q209 from (farithS_rep hq210)) hq212 ?_
          clear hf; intro a ha hf
          exact st_nil hf (th_n ⟨ha, rfl⟩)
        clear hf; intro a hf
        refine dr_take 30 (v11) rfl (by kernel_rfl) (by kernel_rfl) (by kernel_rfl) (by kernel_rfl) rfl rfl hf (by decide) (wantY hf rfl rfl hb182) (fun w hp => ?_) ⟨_, hp⟩ ?_
        · obtain ⟨_, hp⟩ := hp
          refine st_move hf (wantY hf rfl rfl hb182) rfl (by decide) ?_
          clear hf; intro a ha hf
          exact st_nil hf (th_n ⟨ha, rfl⟩)
        clear hf; intro a hf
        refine dr_take 31 (.int .i64 i22) rfl (by kernel_rfl) (by kernel_rfl) (by kernel_rfl) (by kernel_rfl) rfl rfl hf (by decide) (wantY hf rfl rfl hb182) (fun w hp => ?_) ⟨_, hp⟩ ?_
        · obtain ⟨_, hp⟩ := hp
          refine st_move hf (wantY hf rfl rfl hb182) rfl (by decide) ?_
          clear hf; intro a ha hf
          exact st_nil hf (th_n ⟨ha, rfl⟩)
        clear hf; intro a hf
        refine dr_take 32 (eptr v11 i22 1) rfl (by kernel_rfl) (by kernel_rfl) (by kernel_rfl) (by kernel_rfl) rfl rfl hf (by decide) (wantY hf rfl rfl hb182) (fun w hp => ?_) ⟨_, hp⟩ ?_
        · obtain ⟨_, hp⟩ := hp
          refine st_index (E := Ek.c128) hf (by decide) Try.underlying24 elt36 (wantY hf rfl rfl hb182) rfl rfl (rl173.sl hp) hc213.1 hc213.2 ?_
          clear hf; intro a ha hf
          exact st_nil hf (th_n ⟨ha, rfl⟩)
        clear hf; intro a hf
        refine dr_take 33 (.complex .f64 bb215 bb216) rfl (by kernel_rfl) (by kernel_rfl) (by kernel_rfl) (by kernel_rfl) rfl rfl hf (by decide) (wantY hf rfl rfl hb182) (fun w hp => ?_) ⟨_, hp⟩ ?_
        · obtain ⟨_, hp⟩ := hp
          refine st_ldP hf (by decide) pl36 (wantY hf rfl rfl hb182) rfl (hl214 _ _ hp) ?_
          clear hf; intro a ha hf
          exact st_nil hf (th_n ⟨ha, rfl⟩)
        clear hf; intro a hf
        refine dr_take 34 (.float .f64 bb215) rfl (by kernel_rfl) (by kernel_rfl) (by kernel_rfl) (by kernel_rfl) rfl rfl hf (by decide) (wantY hf rfl rfl hb182) (fun w hp => ?_) ⟨_, hp⟩ ?_
        · obtain ⟨_, hp⟩ := hp
          refine st_real hf (by decide) (wantY hf rfl rfl hb182) rfl ?_
          clear hf; intro a ha hf
          exact st_nil hf (th_n ⟨ha, rfl⟩)
        clear hf; intro a hf
        refine dr_take 35 (v11) rfl (by kernel_rfl) (by kernel_rfl) (by kernel_rfl) (by kernel_rfl) rfl rfl hf (by decide) (wantY hf rfl rfl hb182) (fun w hp => ?_) ⟨_, hp⟩ ?_
        · obtain ⟨_, hp⟩ := hp
          refine st_move hf (wantY hf rfl rfl hb182) rfl (by decide) ?_
          clear hf; intro a ha hf
          exact st_nil hf (th_n ⟨ha, rfl⟩)
        clear hf; intro a hf
        refine dr_take 36 (.int .i64 i22) rfl (by kernel_rfl) (by kernel_rfl) (by kernel_rfl) (by kernel_rfl) rfl rfl hf (by decide) (wantY hf rfl rfl hb182) (fun w hp => ?_) ⟨_, hp⟩ ?_
        · obtain ⟨_, hp⟩ := hp
          refine st_move hf (wantY hf rfl rfl hb182) rfl (by decide) ?_
          clear hf; intro a ha hf
          exact st_nil hf (th_n ⟨ha, rfl⟩)
        clear hf; intro a hf
        refine dr_take 37 (eptr v11 i22 1) rfl (by kernel_rfl) (by kernel_rfl) (by kernel_rfl) (by kernel_rfl) rfl rfl hf (by decide) (wantY hf rfl rfl hb182) (fun w hp => ?_) ⟨_, hp⟩ ?_
        · obtain ⟨_, hp⟩ := hp
          refine st_index (E := Ek.c128) hf (by decide) Try.underlying24 elt36 (wantY hf rfl rfl hb182) rfl rfl (rl173.sl hp) hc219.1 hc219.2 ?_
          clear hf; intro a ha hf
          exact st_nil hf (th_n ⟨ha, rfl⟩)
        clear hf; intro a hf
        refine dr_take 38 (.complex .f64 bb221 bb222) rfl (by kernel_rfl) (by kernel_rfl) (by kernel_rfl) (by kernel_rfl) rfl rfl hf (by decide) (wantY hf rfl rfl hb182) (fun w hp => ?_) ⟨_, hp⟩ ?_
        · obtain ⟨_, hp⟩ := hp
          refine st_ldP hf (by decide) pl36 (wantY hf rfl rfl hb182) rfl (hl220 _ _ hp) ?_
          clear hf; intro a ha hf
          exact st_nil hf (th_n ⟨ha, rfl⟩)
        clear hf; intro a hf
        refine dr_take 39 (.float .f64 bb221) rfl (by kernel_rfl) (by kernel_rfl) (by kernel_rfl) (by kernel_rfl) rfl rfl hf (by decide) (wantY hf rfl rfl hb182) (fun w hp => ?_) ⟨_, hp⟩ ?_
        · obtain ⟨_, hp⟩ := hp
          refine st_real hf (by decide) (wantY hf rfl rfl hb182) rfl ?_
          clear hf; intro a ha hf
          exact st_nil hf (th_n ⟨ha, rfl⟩)
        clear hf; intro a hf
        refine dr_take 40 (.float .f64 (flb q225)) rfl (by kernel_rfl) (by kernel_rfl) (by kernel_rfl) (by kernel_rfl) rfl rfl hf (by decide) (wantY hf rfl rfl hb182) (fun w hp => ?_) ⟨_, hp⟩ ?_
        · obtain ⟨_, hp⟩ := hp
          refine st_fs (op := .mul) rfl hf (by decide) (wantY hf rfl rfl hb182) rfl rfl (show Fl.rep bb215 ((gt zx9 i22).1) from y217) (show Fl.rep bb221 ((gt zx9 i22).1) from y223) hq226 ?_
          clear hf; intro a ha hf
          exact st_nil hf (th_n ⟨ha, rfl⟩)
        clear hf; intro a hf
        refine dr_take 41 (v11) rfl (by kernel_rfl) (by kernel_rfl) (by kernel_rfl) (by kernel_rfl) rfl rfl hf (by decide) (wantY hf rfl rfl hb182) (fun w hp => ?_) ⟨_, hp⟩ ?_
        · obtain ⟨_, hp⟩ := hp
          refine st_move hf (wantY hf rfl rfl hb182) rfl (by decide) ?_
          clear hf; intro a ha hf
          exact st_nil hf (th_n ⟨ha, rfl⟩)
        clear hf; intro a hf
        refine dr_take 42 (.int .i64 i22) rfl (by kernel_rfl) (by kernel_rfl) (by kernel_rfl) (by kernel_rfl) rfl rfl hf (by decide) (wantY hf rfl rfl hb182) (fun w hp => ?_) ⟨_, hp⟩ ?_
        · obtain ⟨_, hp⟩ := hp
          refine st_move hf (wantY hf rfl rfl hb182) rfl (by decide) ?_
          clear hf; intro a ha hf
          exact st_nil hf (th_n ⟨ha, rfl⟩)
        clear hf; intro a hf
        refine dr_take 43 (eptr v11 i22 1) rfl (by kernel_rfl) (by kernel_rfl) (by kernel_rfl) (by kernel_rfl) rfl rfl hf (by decide) (wantY hf rfl rfl hb182) (fun w hp => ?_) ⟨_, hp⟩ ?_
        · obtain ⟨_, hp⟩ := hp
          refine st_index (E := Ek.c128) hf (by decide) Try.underlying24 elt36 (wantY hf rfl rfl hb182) rfl rfl (rl173.sl hp) hc227.1 hc227.2 ?_
          clear hf; intro a ha hf
          exact st_nil hf (th_n ⟨ha, rfl⟩)
        clear hf; intro a hf
        refine dr_take 44 (.complex .f64 bb229 bb230) rfl (by kernel_rfl) (by kernel_rfl) (by kernel_rfl) (by kernel_rfl) rfl rfl hf (by decide) (wantY hf rfl rfl hb182) (fun w hp => ?_) ⟨_, hp⟩ ?_
        · obtain ⟨_, hp⟩ := hp
          refine st_ldP hf (by decide) pl36 (wantY hf rfl rfl hb182) rfl (hl228 _ _ hp) ?_
          clear hf; intro a ha hf
          exact st_nil hf (th_n ⟨ha, rfl⟩)
        clear hf; intro a hf
        refine dr_take 45 (.float .f64 bb230) rfl (by kernel_rfl) (by kernel_rfl) (by kernel_rfl) (by kernel_rfl) rfl rfl hf (by decide) (wantY hf rfl rfl hb182) (fun w hp => ?_) ⟨_, hp⟩ ?_
        · obtain ⟨_, hp⟩ := hp
          refine st_imag hf (by decide) (wantY hf rfl rfl hb182) rfl ?_
          clear hf; intro a ha hf
          exact st_nil hf (th_n ⟨ha, rfl⟩)
        clear hf; intro a hf
        refine dr_take 46 (v11) rfl (by kernel_rfl) (by kernel_rfl) (by kernel_rfl) (by kernel_rfl) rfl rfl hf (by decide) (wantY hf rfl rfl hb182) (fun w hp => ?_) ⟨_, hp⟩ ?_
        · obtain ⟨_, hp⟩ := hp
          refine st_move hf (wantY hf rfl rfl hb182) rfl (by decide) ?_
          clear hf; intro a ha hf
          exact st_nil hf (th_n ⟨ha, rfl⟩)
        clear hf; intro a hf
        refine dr_take 47 (.int .i64 i22) rfl (by kernel_rfl) (by kernel_rfl) (by kernel_rfl) (by kernel_rfl) rfl rfl hf (by decide) (wantY hf rfl rfl hb182) (fun w hp => ?_) ⟨_, hp⟩ ?_
        · obtain ⟨_, hp⟩ := hp
          refine st_move hf (wantY hf rfl rfl hb182) rfl (by decide) ?_
          clear hf; intro a ha hf
          exact st_nil hf (th_n ⟨ha, rfl⟩)
        clear hf; intro a hf
        refine dr_take 48 (eptr v11 i22 1) rfl (by kernel_rfl) (by kernel_rfl) (by kernel_rfl) (by kernel_rfl) rfl rfl hf (by decide) (wantY hf rfl rfl hb182) (fun w hp => ?_) ⟨_, hp⟩ ?_
        · obtain ⟨_, hp⟩ := hp
          refine st_index (E := Ek.c128) hf (by decide) Try.underlying24 elt36 (wantY hf rfl rfl hb182) rfl rfl (rl173.sl hp) hc233.1 hc233.2 ?_
          clear hf; intro a ha hf
          exact st_nil hf (th_n ⟨ha, rfl⟩)
        clear hf; intro a hf
        refine dr_take 49 (.complex .f64 bb235 bb236) rfl (by kernel_rfl) (by kernel_rfl) (by kernel_rfl) (by kernel_rfl) rfl rfl hf (by decide) (wantY hf rfl rfl hb182) (fun w hp => ?_) ⟨_, hp⟩ ?_
        · obtain ⟨_, hp⟩ := hp
          refine st_ldP hf (by decide) pl36 (wantY hf rfl rfl hb182) rfl (hl234 _ _ hp) ?_
          clear hf; intro a ha hf
          exact st_nil hf (th_n ⟨ha, rfl⟩)
        clear hf; intro a hf
        refine dr_take 50 (.float .f64 bb236) rfl (by kernel_rfl) (by kernel_rfl) (by kernel_rfl) (by kernel_rfl) rfl rfl hf (by decide) (wantY hf rfl rfl hb182) (fun w hp => ?_) ⟨_, hp⟩ ?_
        · obtain ⟨_, hp⟩ := hp
          refine st_imag hf (by decide) (wantY hf rfl rfl hb182) rfl ?_
          clear hf; intro a ha hf
          exact st_nil hf (th_n ⟨ha, rfl⟩)
        clear hf; intro a hf
        refine dr_take 51 (.float .f64 (flb q239)) rfl (by kernel_rfl) (by kernel_rfl) (by kernel_rfl) (by kernel_rfl) rfl rfl hf (by decide) (wantY hf rfl rfl hb182) (fun w hp => ?_) ⟨_, hp⟩ ?_
        · obtain ⟨_, hp⟩ := hp
          refine st_fs (op := .mul) rfl hf (by decide) (wantY hf rfl rfl hb182) rfl rfl (show Fl.rep bb230 ((gt zx9 i22).2) from y232) (show Fl.rep bb236 ((gt zx9 i22).2) from y238) hq240 ?_
          clear hf; intro a ha hf
          exact st_nil hf (th_n ⟨ha, rfl⟩)
        clear hf; intro a hf
        refine dr_take 52 (.float .f64 (flb q241)) rfl (by kernel_rfl) (by kernel_rfl) (by kernel_rfl) (by kernel_rfl) rfl rfl hf (by decide) (wantY hf rfl rfl hb182) (fun w hp => ?_) ⟨_, hp⟩ ?_
        · obtain ⟨_, hp⟩ := hp
          refine st_fs (op := .add) rfl hf (by decide) (wantY hf rfl rfl hb182) rfl rfl (show Fl.rep (flb q225) q225 from (farithS_rep hq226)) (show Fl.rep (flb q239) q239 from (farithS_rep hq240)) hq242 ?_
          clear hf; intro a ha hf
          exact st_nil hf (th_n ⟨ha, rfl⟩)
        clear hf; intro a hf
        refine dr_take 53 (.bool (fne q211 q241)) rfl (by kernel_rfl) (by kernel_rfl) (by kernel_rfl) (by kernel_rfl) rfl rfl hf (by decide) (wantY hf rfl rfl hb182) (fun w hp => ?_) ⟨_, hp⟩ ?_
        · obtain ⟨_, hp⟩ := hp
          refine st_fcmp (r_fne (fx := q211) (fy := q241) (farithS_rep hq212) (farithS_rep hq242)) hf (by decide) (wantY hf rfl rfl hb182) rfl rfl ?_
          clear hf; intro a ha hf
          exact st_nil hf (th_n ⟨ha, rfl⟩)
        clear hf; intro a hf
        refine dr_take 54 (.bool z243) rfl (by kernel_rfl) (by kernel_rfl) (by kernel_rfl) (by kernel_rfl) rfl rfl hf (by decide) rfl (fun w hp => ?_) ⟨_, hp⟩ ?_
        · obtain ⟨_, hp⟩ := hp
          refine st_pick (v := .bool z243) hf rfl rfl (fun hb' => absurd (hb182.symm.trans hb') (by decide)) (fun _ => by rw [← hz181]; rfl) (by decide) ?_
          clear hf; intro a ha hf
          exact st_nil hf (th_n ⟨ha, rfl⟩)
        clear hf; intro a hf
        refine dr_end (by kernel_rfl) ?_ _
        have hp := bk172 _ _ hp
        have hp := bk167 _ _ hp
        exact ⟨hf.sub ⟨rfl, rfl, rfl, rfl, rfl, rfl, rfl, rfl, trivial⟩, hp⟩
      rintro a w ⟨hf, hp⟩
      refine th_n ?_
      refine wp_if hf rfl (fun hb => ?_) (fun hb => ?_)
      · replace h := ifT h hb
        refine wp_seq ?_
        refine wp_reg ?_
        refine st_assign hf rfl rfl (by decide) ?_
        clear hf; intro a ha hf; clear ha
        refine st_nil hf ?_
        refine th_n ?_
        refine wp_ret ?_
        refine th_r ?_
        refine ib_r ?_
        refine th_r ?_
        obtain rfl := Option.some.inj h
        have hp : Hp _ _ _ (ow) := Hp.sel (pre := [Res.sl Ek.c128 36 v20 q13.1, Res.sl Ek.c128 36 v11 zx9, Res.sl Ek.c128 36 v51 q49.1, Res.sl Ek.c128 36 v87 sum21, Res.sl Ek.c128 36 v9 q7]) (tail := ow) (rs' := []) hp [] (by decide) (by simp) rfl
        exact rnd_r (by simp) ⟨rfl, ⟨hf.sub ⟨rfl, trivial⟩, hp⟩⟩
      replace h := ifF h hb
      refine wp_skip ?_
      refine th_n ?_
      refine wp_seq ?_
      refine wp_reg ?_
      refine st_move hf rfl rfl (by decide) ?_
      clear hf; intro a ha hf; clear ha
      refine st_move hf rfl rfl (by decide) ?_
      clear hf; intro a ha hf; clear ha
      obtain ⟨hc244, h⟩ := chk h
      refine st_index (E := Ek.c128) hf (by decide) Try.underlying24 elt36 rfl rfl rfl (hp.sl (i := 1) rfl) hc244.1 hc244.2 ?_
      clear hf; intro a ha hf; clear ha
      refine st_ldC hf (by decide) pl36 rfl rfl (hp.sl (i := 1) rfl) hc244.1 hc244.2 ?_
      clear hf; intro a bb245 bb246 y247 y248 ha hf; clear ha
      refine st_assign hf rfl rfl (by decide) ?_
      clear hf; intro a ha hf; clear ha
      refine st_nil hf ?_
      refine th_n ?_
      refine wp_seq ?_
      refine wp_seq ?_
      refine wp_reg ?_
      refine st_move hf rfl rfl (by decide) ?_
      clear hf; intro a ha hf; clear ha
      refine st_move hf rfl rfl (by decide) ?_
      clear hf; intro a ha hf; clear ha
      refine st_len (E := Ek.c128) hf (by decide) Try.underlying24 rfl rfl (hp.sl (i := 4) rfl) ?_
      clear hf; intro a ha hf; clear ha
      refine st_ilss hf (by decide) rfl rfl rfl ?_
      clear hf; intro a ha hf; clear ha
      refine st_nil hf ?_
      refine th_n ?_
      refine wp_if hf rfl (fun hb => ?_) (fun hb => ?_)
      · replace h := ifT h hb
        refine wp_reg ?_
        refine st_move hf rfl rfl (by decide) ?_
        clear hf; intro a ha hf; clear ha
        refine st_move hf rfl rfl (by decide) ?_
        clear hf; intro a ha hf; clear ha
        refine st_move hf rfl rfl (by decide) ?_
        clear hf; intro a ha hf; clear ha
        obtain ⟨hc249, h⟩ := chk h
        refine st_index (E := Ek.c128) hf (by decide) Try.underlying24 elt36 rfl rfl rfl (hp.sl (i := 4) rfl) hc249.1 hc249.2 ?_
        clear hf; intro a ha hf; clear ha
        refine st_ldC hf (by decide) pl36 rfl rfl (hp.sl (i := 4) rfl) hc249.1 hc249.2 ?_
        clear hf; intro a bb250 bb251 y252 y253 ha hf; clear ha
        refine st_carith (op := .add) (zx := (gt zx9 i22)) (zy := (gt q7 i22)) rfl hf (by decide) hp rfl rfl rfl y247 y248 y252 y253 ?_
        clear hf; intro a w bb254 bb255 y256 y257 hf hp0; clear hp; have hp := hp0; clear hp0
        replace hp : Hp _ _ _ (Res.sl Ek.c128 36 v20 q13.1 :: Res.sl Ek.c128 36 v11 zx9 :: Res.sl Ek.c128 36 v51 q49.1 :: Res.sl Ek.c128 36 v87 sum21 :: Res.sl Ek.c128 36 v9 q7 :: ow) := hp
        refine st_assign hf rfl rfl (by decide) ?_
        clear hf; intro a ha hf; clear ha
        refine st_nil hf ?_
        refine th_n ?_
        refine wp_reg ?_
        refine st_move hf rfl rfl (by decide) ?_
        clear hf; intro a ha hf; clear ha
        refine st_move hf rfl rfl (by decide) ?_
        clear hf; intro a ha hf; clear ha
        refine st_build (E := Ek.c128) (xs := [(cadd (gt zx9 i22) (gt q7 i22))]) hf (by decide) elt36 Try.underlying24 hp (vals := #[(0, .complex .f64 bb254 bb255)]) (cells := #[.complex .f64 bb254 bb255]) rfl (by simp [hf.ev (x := (Operand.tmp 236)) rfl]) (by decide) (by decide) (z := .complex .f64 0 0) (by kernel_rfl) (by kernel_rfl) rfl (reps_cons (cs := [.complex .f64 bb254 bb255]) (show Ek.c128.rep [.complex .f64 bb254 bb255] (cadd (gt zx9 i22) (gt q7 i22)) from ⟨_, _, rfl, y256, y257⟩) (reps_nil _)) ?_
        clear hf; intro a w v258 hf hp0; clear hp; have hp := hp0; clear hp0
        replace hp : Hp _ _ _ (Res.sl Ek.c128 36 v258 ([(cadd (gt zx9 i22) (gt q7 i22))]) :: Res.sl Ek.c128 36 v20 q13.1 :: Res.sl Ek.c128 36 v11 zx9 :: Res.sl Ek.c128 36 v51 q49.1 :: Res.sl Ek.c128 36 v87 sum21 :: Res.sl Ek.c128 36 v9 q7 :: ow) := hp
        obtain ⟨hc260, h⟩ := chk h
        refine st_append (E := Ek.c128) hf (by decide) elt36 Try.underlying24 (by decide) hp (i := 4) rfl rfl rfl rfl (hp.sl (i := 0) rfl) hc260 ?_
        clear hf; intro a w v261 hf hp0; clear hp; have hp := hp0; clear hp0
        replace hp : Hp _ _ _ (Res.sl Ek.c128 36 v258 ([(cadd (gt zx9 i22) (gt q7 i22))]) :: Res.sl Ek.c128 36 v20 q13.1 :: Res.sl Ek.c128 36 v11 zx9 :: Res.sl Ek.c128 36 v51 q49.1 :: Res.sl Ek.c128 36 v261 (sum21 ++ [(cadd (gt zx9 i22) (gt q7 i22))]) :: Res.sl Ek.c128 36 v9 q7 :: ow) := hp
        refine st_assign hf rfl rfl (by decide) ?_
        clear hf; intro a ha hf; clear ha
        refine st_nil hf ?_
        refine ib_n ?_
        refine th_n ?_
        refine wp_reg ?_
        refine st_move hf rfl rfl (by decide) ?_
        clear hf; intro a ha hf; clear ha
        refine st_iadd hf (by decide) rfl rfl rfl ?_
        clear hf; intro a ha hf; clear ha
        refine st_assign hf rfl rfl (by decide) ?_
        clear hf; intro a ha hf; clear ha
        refine st_nil hf ?_
        obtain rfl := Option.some.inj h
        have hp : Hp _ _ _ (Res.sl Ek.c128 36 v261 (sum21 ++ [(cadd (gt zx9 i22) (gt q7 i22))]) :: Res.sl Ek.c128 36 v11 zx9 :: Res.sl Ek.c128 36 v9 q7 :: Res.sl Ek.c128 36 v20 q13.1 :: Res.sl Ek.c128 36 v51 q49.1 :: ow) := Hp.sel (pre := [Res.sl Ek.c128 36 v258 ([(cadd (gt zx9 i22) (gt q7 i22))]), Res.sl Ek.c128 36 v20 q13.1, Res.sl Ek.c128 36 v11 zx9, Res.sl Ek.c128 36 v51 q49.1, Res.sl Ek.c128 36 v261 (sum21 ++ [(cadd (gt zx9 i22) (gt q7 i22))]), Res.sl Ek.c128 36 v9 q7]) (tail := ow) (rs' := [Res.sl Ek.c128 36 v261 (sum21 ++ [(cadd (gt zx9 i22) (gt q7 i22))]), Res.sl Ek.c128 36 v11 zx9, Res.sl Ek.c128 36 v9 q7, Res.sl Ek.c128 36 v20 q13.1, Res.sl Ek.c128 36 v51 q49.1]) hp [4, 2, 5, 1, 3] (by decide) (by simp) rfl
        exact rnd_l ⟨_, hf.sub ⟨rfl, rfl, rfl, rfl, rfl, rfl, rfl, trivial⟩, hp⟩
      replace h := ifF h hb
      refine wp_skip ?_
      refine th_n ?_
      refine wp_reg ?_
      refine st_move hf rfl rfl (by decide) ?_
      clear hf; intro a ha hf; clear ha
      refine st_move hf rfl rfl (by decide) ?_
      clear hf; intro a ha hf; clear ha
      refine st_build (E := Ek.c128) (xs := [(gt zx9 i22)]) hf (by decide) elt36 Try.underlying24 hp (vals := #[(0, .complex .f64 bb245 bb246)]) (cells := #[.complex .f64 bb245 bb246]) rfl (by simp [hf.ev (x := (Operand.tmp 236)) rfl]) (by decide) (by decide) (z := .complex .f64 0 0) (by kernel_rfl) (by kernel_rfl) rfl (reps_cons (cs := [.complex .f64 bb245 bb246]) (show Ek.c128.rep [.complex .f64 bb245 bb246] (gt zx9 i22) from ⟨_, _, rfl, y247, y248⟩) (reps_nil _)) ?_
      clear hf; intro a w v262 hf hp0; clear hp; have hp := hp0; clear hp0
      replace hp : Hp _ _ _ (Res.sl Ek.c128 36 v262 ([(gt zx9 i22)]) :: Res.sl Ek.c128 36 v20 q13.1 :: Res.sl Ek.c128 36 v11 zx9 :: Res.sl Ek.c128 36 v51 q49.1 :: Res.sl Ek.c128 36 v87 sum21 :: Res.sl Ek.c128 36 v9 q7 :: ow) := hp
      obtain ⟨hc264, h⟩ := chk h
      refine st_append (E := Ek.c128) hf (by decide) elt36 Try.underlying24 (by decide) hp (i := 4) rfl rfl rfl rfl (hp.sl (i := 0) rfl) hc264 ?_
      clear hf; intro a w v265 hf hp0; clear hp; have hp := hp0; clear hp0
      replace hp : Hp _ _ _ (Res.sl Ek.c128 36 v262 ([(gt zx9 i22)]) :: Res.sl Ek.c128 36 v20 q13.1 :: Res.sl Ek.c128 36 v11 zx9 :: Res.sl Ek.c128 36 v51 q49.1 :: Res.sl Ek.c128 36 v265 (sum21 ++ [(gt zx9 i22)]) :: Res.sl Ek.c128 36 v9 q7 :: ow) := hp
      refine st_assign hf rfl rfl (by decide) ?_
      clear hf; intro a ha hf; clear ha
      refine st_nil hf ?_
      refine ib_n ?_
      refine th_n ?_
      refine wp_reg ?_
      refine st_move hf rfl rfl (by decide) ?_
      clear hf; intro a ha hf; clear ha
      refine st_iadd hf (by decide) rfl rfl rfl ?_
      clear hf; intro a ha hf; clear ha
      refine st_assign hf rfl rfl (by decide) ?_
      clear hf; intro a ha hf; clear ha
      refine st_nil hf ?_
      obtain rfl := Option.some.inj h
      have hp : Hp _ _ _ (Res.sl Ek.c128 36 v265 (sum21 ++ [(gt zx9 i22)]) :: Res.sl Ek.c128 36 v11 zx9 :: Res.sl Ek.c128 36 v9 q7 :: Res.sl Ek.c128 36 v20 q13.1 :: Res.sl Ek.c128 36 v51 q49.1 :: ow) := Hp.sel (pre := [Res.sl Ek.c128 36 v262 ([(gt zx9 i22)]), Res.sl Ek.c128 36 v20 q13.1, Res.sl Ek.c128 36 v11 zx9, Res.sl Ek.c128 36 v51 q49.1, Res.sl Ek.c128 36 v265 (sum21 ++ [(gt zx9 i22)]), Res.sl Ek.c128 36 v9 q7]) (tail := ow) (rs' := [Res.sl Ek.c128 36 v265 (sum21 ++ [(gt zx9 i22)]), Res.sl Ek.c128 36 v11 zx9, Res.sl Ek.c128 36 v9 q7, Res.sl Ek.c128 36 v20 q13.1, Res.sl Ek.c128 36 v51 q49.1]) hp [4, 2, 5, 1, 3] (by decide) (by simp) rfl
      exact rnd_l ⟨_, hf.sub ⟨rfl, rfl, rfl, rfl, rfl, rfl, rfl, trivial⟩, hp⟩
    replace h := ifF h hb
    refine wp_exit ?_
    refine th_e ?_
    obtain rfl := Option.some.inj h
    have hp : Hp _ _ _ (Res.sl Ek.c128 36 v87 sum21 :: Res.sl Ek.c128 36 v11 zx9 :: Res.sl Ek.c128 36 v9 q7 :: Res.sl Ek.c128 36 v20 q13.1 :: ow) := Hp.sel (pre := [Res.sl Ek.c128 36 v87 sum21, Res.sl Ek.c128 36 v11 zx9, Res.sl Ek.c128 36 v9 q7, Res.sl Ek.c128 36 v20 q13.1, Res.sl Ek.c128 36 v51 q49.1]) (tail := ow) (rs' := [Res.sl Ek.c128 36 v87 sum21, Res.sl Ek.c128 36 v11 zx9, Res.sl Ek.c128 36 v9 q7, Res.sl Ek.c128 36 v20 q13.1]) hp [0, 1, 2, 3] (by decide) (by simp) rfl
    exact rnd_r (by simp) ⟨rfl, _, hf.sub ⟨rfl, rfl, rfl, rfl, rfl, trivial⟩, hp⟩
  clear hl hf hp
  intro e a w hne hO
  rcases q266 with q268 | q269
  · replace h := smL h
    obtain ⟨rfl, v89, hf, hp⟩ := hO
    refine ib_same ?_
    refine th_n ?_
    refine wp_seq_cut (fun a w => ∃ (wx10 : (List (Fl × Fl))) (v270 : Value), f_foghornlaw08_MixAdds.j2 j2 zx9 q13 q268 wx10 = some r ∧ Fr 317 a [(2, .int .i64 j2), (9, v11), (10, v270), (11, v20), (21, v89)] ∧ Hp S w0 w (Res.sl Ek.c128 36 v270 wx10 :: Res.sl Ek.c128 36 v11 zx9 :: Res.sl Ek.c128 36 v20 q13.1 :: Res.sl Ek.c128 36 v89 q268 :: ow)) ?_ ?_
    · skip
      refine wp_seq ?_
      refine wp_reg ?_
      refine st_move hf rfl rfl (by decide) ?_
      clear hf; intro a ha hf; clear ha
      refine st_len (E := Ek.c128) hf (by decide) Try.underlying24 rfl rfl (hp.sl (i := 2) rfl) ?_
      clear hf; intro a ha hf; clear ha
      refine st_move hf rfl rfl (by decide) ?_
      clear hf; intro a ha hf; clear ha
      refine st_len (E := Ek.c128) hf (by decide) Try.underlying24 rfl rfl (hp.sl (i := 1) rfl) ?_
      clear hf; intro a ha hf; clear ha
      refine st_igtr hf (by decide) rfl rfl rfl ?_
      clear hf; intro a ha hf; clear ha
      refine st_nil hf ?_
      refine th_n ?_
      refine wp_if hf rfl (fun hb => ?_) (fun hb => ?_)
      · replace h := ifT h hb
        refine wp_reg ?_
        refine st_move hf rfl rfl (by decide) ?_
        clear hf; intro a ha hf; clear ha
        refine st_move hf rfl rfl (by decide) ?_
        clear hf; intro a ha hf; clear ha
        refine st_len (E := Ek.c128) hf (by decide) Try.underlying24 rfl rfl (hp.sl (i := 1) rfl) ?_
        clear hf; intro a ha hf; clear ha
        obtain ⟨hc357, h⟩ := chk h
        have hc358 : 0 ≤ ((zx9.length : Int)).toNat := by omega
        have hc359 : ((zx9.length : Int)).toNat ≤ (q7 ++ ([] : List (Fl × Fl))).length := by omega
        refine st_cutX (E := Ek.c128) hf (by decide) Try.underlying24 elt36 hp (i := 2) rfl rfl rfl (.inl ⟨rfl, rfl⟩) (.inr ⟨_, _, rfl, evI rfl (by omega)⟩) hc358 hc359 ?_
        clear hf; intro a ha hf; clear ha
        replace hp : Hp _ _ _ (Res.sl Ek.c128 36 v89 q268 :: Res.sl Ek.c128 36 v11 zx9 :: Res.slx Ek.c128 36 (GL.cut v9 0 (((zx9.length : Int)).toNat) 1) ((q7 ++ ([] : List (Fl × Fl))).take (((zx9.length : Int)).toNat)) ((q7 ++ ([] : List (Fl × Fl))).drop (((zx9.length : Int)).toNat)) :: Res.sl Ek.c128 36 v20 q13.1 :: ow) := hp.cutOwn (i := 2) rfl hc359
        replace hp : Hp _ _ _ (Res.sl Ek.c128 36 v89 q268 :: Res.sl Ek.c128 36 v11 zx9 :: Res.sl Ek.c128 36 (GL.cut v9 0 (((zx9.length : Int)).toNat) 1) ((q7 ++ ([] : List (Fl × Fl))).take (((zx9.length : Int)).toNat)) :: Res.sl Ek.c128 36 v20 q13.1 :: ow) := hp.forget (i := 2) rfl
        refine st_assign hf rfl rfl (by decide) ?_
        clear hf; intro a ha hf; clear ha
        refine st_nil hf ?_
        have hp : Hp _ _ _ (Res.sl Ek.c128 36 (GL.cut v9 0 (((zx9.length : Int)).toNat) 1) ((q7 ++ ([] : List (Fl × Fl))).take (((zx9.length : Int)).toNat)) :: Res.sl Ek.c128 36 v11 zx9 :: Res.sl Ek.c128 36 v20 q13.1 :: Res.sl Ek.c128 36 v89 q268 :: ow) := Hp.sel (pre := [Res.sl Ek.c128 36 v89 q268, Res.sl Ek.c128 36 v11 zx9, Res.sl Ek.c128 36 (GL.cut v9 0 (((zx9.length : Int)).toNat) 1) ((q7 ++ ([] : List (Fl × Fl))).take (((zx9.length : Int)).toNat)), Res.sl Ek.c128 36 v20 q13.1]) (tail := ow) (rs' := [Res.sl Ek.c128 36 (GL.cut v9 0 (((zx9.length : Int)).toNat) 1) ((q7 ++ ([] : List (Fl × Fl))).take (((zx9.length : Int)).toNat)), Res.sl Ek.c128 36 v11 zx9, Res.sl Ek.c128 36 v20 q13.1, Res.sl Ek.c128 36 v89 q268]) hp [2, 1, 3, 0] (by decide) (by simp) rfl
        refine th_n ?_
        exact ⟨_, _, h, hf.sub ⟨rfl, rfl, rfl, rfl, rfl, trivial⟩, hp⟩
      replace h := ifF h hb
      refine wp_skip ?_
      have hp : Hp _ _ _ (Res.sl Ek.c128 36 v9 q7 :: Res.sl Ek.c128 36 v11 zx9 :: Res.sl Ek.c128 36 v20 q13.1 :: Res.sl Ek.c128 36 v89 q268 :: ow) := Hp.sel (pre := [Res.sl Ek.c128 36 v89 q268, Res.sl Ek.c128 36 v11 zx9, Res.sl Ek.c128 36 v9 q7, Res.sl Ek.c128 36 v20 q13.1]) (tail := ow) (rs' := [Res.sl Ek.c128 36 v9 q7, Res.sl Ek.c128 36 v11 zx9, Res.sl Ek.c128 36 v20 q13.1, Res.sl Ek.c128 36 v89 q268]) hp [2, 1, 3, 0] (by decide) (by simp) rfl
      refine th_n ?_
      exact ⟨_, _, h, hf.sub ⟨rfl, rfl, rfl, rfl, rfl, trivial⟩, hp⟩
    rintro a w ⟨wx10, v270, h, hf, hp⟩
    unfold f_foghornlaw08_MixAdds.j2 at h
    refine wp_seq ?_
    refine wp_reg ?_
    refine st_move hf rfl rfl (by decide) ?_
    clear hf; intro a ha hf; clear ha
    refine st_move hf rfl rfl (by decide) ?_
    clear hf; intro a ha hf; clear ha
    obtain ⟨q272, hcall273, h⟩ := bnd h
    obtain ⟨S274, hp275, rd276, up277, bk278⟩ := Hp.lendS hp (i := 3) rfl
    refine st_call hf (by decide) Try.func17 rfl rfl rfl rfl rfl (f_mix_Up_c hp275 _ _ rd276 _ hcall273) ?_
    rintro _ w ⟨v279, rfl, hp0⟩
    have hp0 := bk278 _ _ hp0
    clear hp; have hp := hp0; clear hp0
    replace hp : Hp _ _ _ (Res.sl Ek.c128 36 v89 q268 :: Res.sl Ek.c128 36 v279 q272.1 :: Res.sl Ek.c128 36 v270 wx10 :: Res.sl Ek.c128 36 v11 zx9 :: Res.sl Ek.c128 36 v20 q13.1 :: ow) := hp
    refine ⟨_, rfl, ?_⟩
    clear hf; intro a hf
    refine st_move hf rfl rfl (by decide) ?_
    clear hf; intro a ha hf; clear ha
    refine st_extract hf (by decide) rfl rfl rfl ?_
    clear hf; intro a ha hf; clear ha
    refine st_extract hf (by decide) rfl rfl rfl ?_
    clear hf; intro a ha hf; clear ha
    refine st_assign hf rfl rfl (by decide) ?_
    clear hf; intro a ha hf; clear ha
    refine st_assign hf rfl rfl (by decide) ?_
    clear hf; intro a ha hf; clear ha
    refine st_nil hf ?_
    refine th_n ?_
    refine wp_seq ?_
    refine wp_reg ?_
    refine st_move hf rfl rfl (by decide) ?_
    clear hf; intro a ha hf; clear ha
    refine st_move hf rfl rfl (by decide) ?_
    clear hf; intro a ha hf; clear ha
    obtain ⟨q281, hcall282, h⟩ := bnd h
    obtain ⟨S283, hp284, rd285, up286, bk287⟩ := Hp.lendS hp (i := 2) rfl
    refine st_call hf (by decide) Try.func17 rfl rfl rfl rfl rfl (f_mix_Up_c hp284 _ _ rd285 _ hcall282) ?_
    rintro _ w ⟨v288, rfl, hp0⟩
    have hp0 := bk287 _ _ hp0
    clear hp; have hp := hp0; clear hp0
    replace hp : Hp _ _ _ (Res.sl Ek.c128 36 v270 wx10 :: Res.sl Ek.c128 36 v288 q281.1 :: Res.sl Ek.c128 36 v89 q268 :: Res.sl Ek.c128 36 v279 q272.1 :: Res.sl Ek.c128 36 v11 zx9 :: Res.sl Ek.c128 36 v20 q13.1 :: ow) := hp
    refine ⟨_, rfl, ?_⟩
    clear hf; intro a hf
    refine st_move hf rfl rfl (by decide) ?_
    clear hf; intro a ha hf; clear ha
    refine st_extract hf (by decide) rfl rfl rfl ?_
    clear hf; intro a ha hf; clear ha
    refine st_extract hf (by decide) rfl rfl rfl ?_
    clear hf; intro a ha hf; clear ha
    refine st_assign hf rfl rfl (by decide) ?_
    clear hf; intro a ha hf; clear ha
    refine st_assign hf rfl rfl (by decide) ?_
    clear hf; intro a ha hf; clear ha
    refine st_nil hf ?_
    refine th_n ?_
    refine wp_seq ?_
    refine wp_seq ?_
    refine wp_reg ?_
    refine st_move hf rfl rfl (by decide) ?_
    clear hf; intro a ha hf; clear ha
    refine st_len (E := Ek.c128) hf (by decide) Try.underlying24 rfl rfl (hp.sl (i := 3) rfl) ?_
    clear hf; intro a ha hf; clear ha
    refine st_move hf rfl rfl (by decide) ?_
    clear hf; intro a ha hf; clear ha
    refine st_len (E := Ek.c128) hf (by decide) Try.underlying24 rfl rfl (hp.sl (i := 5) rfl) ?_
    clear hf; intro a ha hf; clear ha
    refine st_ineq hf (by decide) rfl rfl rfl ?_
    clear hf; intro a ha hf; clear ha
    refine st_move hf rfl rfl (by decide) ?_
    clear hf; intro a ha hf; clear ha
    refine wpList_cut 6 (fun a w => Fr 317 a [(2, .int .i64 j2), (9, v11), (11, v20), (25, v279), (27, v288), (271, .bool (((q272.1.length : Int) != (q13.1.length : Int)) || ((q281.1.length : Int) != (wx10.length : Int))))] ∧ Hp S w0 w (Res.sl Ek.c128 36 v270 wx10 :: Res.sl Ek.c128 36 v288 q281.1 :: Res.sl Ek.c128 36 v89 q268 :: Res.sl Ek.c128 36 v279 q272.1 :: Res.sl Ek.c128 36 v11 zx9 :: Res.sl Ek.c128 36 v20 q13.1 :: ow)) ?_ ?_
    · rcases Bool.eq_false_or_eq_true ((q272.1.length : Int) != (q13.1.length : Int)) with hb291 | hb291
      · skip
        refine st_skip hf (wantN hf rfl rfl hb291) rfl (by decide) ?_ rfl
        clear hf; intro a hf
        refine st_skip hf (wantN hf rfl rfl hb291) rfl (by decide) ?_ rfl
        clear hf; intro a hf
        refine st_skip hf (wantN hf rfl rfl hb291) rfl (by decide) ?_ rfl
        clear hf; intro a hf
        refine st_skip hf (wantN hf rfl rfl hb291) rfl (by decide) ?_ rfl
        clear hf; intro a hf
        refine st_skip hf (wantN hf rfl rfl hb291) rfl (by decide) ?_ rfl
        clear hf; intro a hf
        refine st_pick (v := .bool true) hf rfl rfl (fun hb' => ?_) (fun hb' => ?_) (by decide) ?_
        · rfl
        · exact absurd (hb291.symm.trans hb') (by decide)
        clear hf; intro a ha hf; clear ha
        refine st_nil hf (th_n ?_)
        exact ⟨hf.sub ⟨rfl, rfl, rfl, rfl, rfl, (by rw [hb291]; rfl), trivial⟩, hp⟩
      refine st_move hf (wantY hf rfl rfl hb291) rfl (by decide) ?_
      clear hf; intro a ha hf; clear ha
      refine st_len (E := Ek.c128) hf (by decide) Try.underlying24 (wantY hf rfl rfl hb291) rfl (hp.sl (i := 1) rfl) ?_
      clear hf; intro a ha hf; clear ha
      refine st_move hf (wantY hf rfl rfl hb291) rfl (by decide) ?_
      clear hf; intro a ha hf; clear ha
      refine st_len (E := Ek.c128) hf (by decide) Try.underlying24 (wantY hf rfl rfl hb291) rfl (hp.sl (i := 0) rfl) ?_
      clear hf; intro a ha hf; clear ha
      refine st_ineq hf (by decide) (wantY hf rfl rfl hb291) rfl rfl ?_
      clear hf; intro a ha hf; clear ha
      refine st_pick (v := .bool ((q281.1.length : Int) != (wx10.length : Int))) hf rfl rfl (fun hb' => ?_) (fun hb' => ?_) (by decide) ?_
      · exact absurd (hb291.symm.trans hb') (by decide)
      · rfl
      clear hf; intro a ha hf; clear ha
      refine st_nil hf (th_n ?_)
      exact ⟨hf.sub ⟨rfl, rfl, rfl, rfl, rfl, (by rw [hb291]; rfl), trivial⟩, hp⟩
    rintro a w ⟨hf, hp⟩
    refine st_nil hf ?_
    refine th_n ?_
    refine wp_if hf rfl (fun hb => ?_) (fun hb => ?_)
    · replace h := ifT h hb
      refine wp_seq ?_
      refine wp_reg ?_
      refine st_assign hf rfl rfl (by decide) ?_
      clear hf; intro a ha hf; clear ha
      refine st_nil hf ?_
      refine th_n ?_
      refine wp_ret ?_
      refine th_r ?_
      obtain rfl := Option.some.inj h
      have hp : Hp _ _ _ (ow) := Hp.sel (pre := [Res.sl Ek.c128 36 v270 wx10, Res.sl Ek.c128 36 v288 q281.1, Res.sl Ek.c128 36 v89 q268, Res.sl Ek.c128 36 v279 q272.1, Res.sl Ek.c128 36 v11 zx9, Res.sl Ek.c128 36 v20 q13.1]) (tail := ow) (rs' := []) hp [] (by decide) (by simp) rfl
      exact ⟨rfl, ⟨hf.sub ⟨rfl, trivial⟩, hp⟩⟩
    replace h := ifF h hb
    refine wp_skip ?_
    refine th_n ?_
    refine wp_seq ?_
    refine wp_seq ?_
    refine wp_reg ?_
    refine st_assign hf rfl rfl (by decide) ?_
    clear hf; intro a ha hf; clear ha
    refine st_nil hf ?_
    refine th_n ?_
    refine wp_block ?_
    obtain ⟨q315, hl, h⟩ := bnd h
    have hp : Hp _ _ _ (Res.sl Ek.c128 36 v11 zx9 :: Res.sl Ek.c128 36 v20 q13.1 :: Res.sl Ek.c128 36 v279 q272.1 :: Res.sl Ek.c128 36 v288 q281.1 :: ow) := Hp.sel (pre := [Res.sl Ek.c128 36 v270 wx10, Res.sl Ek.c128 36 v288 q281.1, Res.sl Ek.c128 36 v89 q268, Res.sl Ek.c128 36 v279 q272.1, Res.sl Ek.c128 36 v11 zx9, Res.sl Ek.c128 36 v20 q13.1]) (tail := ow) (rs' := [Res.sl Ek.c128 36 v11 zx9, Res.sl Ek.c128 36 v20 q13.1, Res.sl Ek.c128 36 v279 q272.1, Res.sl Ek.c128 36 v288 q281.1]) hp [4, 5, 3, 1] (by decide) (by simp) rfl
    refine wp_loop_pure (f := (f_foghornlaw08_MixAdds.s2 q13 q272 q281)) (s := (0 : Int)) (fun s a w => Fr 317 a [(2, .int .i64 j2), (9, v11), (11, v20), (25, v279), (27, v288), (29, .int .i64 s)] ∧ Hp S w0 w (Res.sl Ek.c128 36 v11 zx9 :: Res.sl Ek.c128 36 v20 q13.1 :: Res.sl Ek.c128 36 v279 q272.1 :: Res.sl Ek.c128 36 v288 q281.1 :: ow)) (fun q e a w => match q with | (Sum.inl q) => e = .exit 2 ∧ Fr 317 a [(2, .int .i64 j2), (9, v11), (11, v20)] ∧ Hp S w0 w (Res.sl Ek.c128 36 v11 zx9 :: Res.sl Ek.c128 36 v20 q13.1 :: ow) | (Sum.inr q) => e = .ret ∧ Fr 317 a [(8, .bool q)] ∧ Hp S w0 w (ow)) ?_ hl ⟨hf.sub ⟨rfl, rfl, rfl, rfl, rfl, rfl, trivial⟩, hp⟩ ?_
    · clear hl hf hp
      intro s x a w h hI
      obtain ⟨i29, hs⟩ : ∃ z, z = s := ⟨s, rfl⟩; subst hs
      obtain ⟨hf, hp⟩ : Fr 317 a [(2, .int .i64 j2), (9, v11), (11, v20), (25, v279), (27, v288), (29, .int .i64 i29)] ∧ Hp S w0 w (Res.sl Ek.c128 36 v11 zx9 :: Res.sl Ek.c128 36 v20 q13.1 :: Res.sl Ek.c128 36 v279 q272.1 :: Res.sl Ek.c128 36 v288 q281.1 :: ow) := hI
      replace h : f_foghornlaw08_MixAdds.s2c q13 q272 q281 i29 = some x := h
      unfold f_foghornlaw08_MixAdds.s2c at h
      refine wp_seq ?_
      refine wp_seq ?_
      refine wp_reg ?_
      refine st_move hf rfl rfl (by decide) ?_
      clear hf; intro a ha hf; clear ha
      refine st_move hf rfl rfl (by decide) ?_
      clear hf; intro a ha hf; clear ha
      refine st_len (E := Ek.c128) hf (by decide) Try.underlying24 rfl rfl (hp.sl (i := 2) rfl) ?_
      clear hf; intro a ha hf; clear ha
      refine st_ilss hf (by decide) rfl rfl rfl ?_
      clear hf; intro a ha hf; clear ha
      refine st_nil hf ?_
      refine th_n ?_
      refine wp_if hf rfl (fun hb => ?_) (fun hb => ?_)
      · replace h := ifT h hb
        refine wp_skip ?_
        refine th_n ?_
        refine wp_seq ?_
        refine wp_block ?_
        refine wp_seq ?_
        refine wp_reg ?_
        refine st_move hf rfl rfl (by decide) ?_
        clear hf; intro a ha hf; clear ha
        refine st_move hf rfl rfl (by decide) ?_
        clear hf; intro a ha hf; clear ha
        obtain ⟨hc292, h⟩ := chk h
        refine st_index (E := Ek.c128) hf (by decide) Try.underlying24 elt36 rfl rfl rfl (hp.sl (i := 1) rfl) hc292.1 hc292.2 ?_
        clear hf; intro a ha hf; clear ha
        refine st_ldC hf (by decide) pl36 rfl rfl (hp.sl (i := 1) rfl) hc292.1 hc292.2 ?_
        clear hf; intro a bb293 bb294 y295 y296 ha hf; clear ha
        refine st_assign hf rfl rfl (by decide) ?_
        clear hf; intro a ha hf; clear ha
        refine st_nil hf ?_
        refine th_n ?_
        refine wp_seq_cut (fun a w => ∃ (sx30 : (Fl × Fl)) (bb297 : Nat) (bb298 : Nat), f_foghornlaw08_MixAdds.j3 q272 i29 sx30 = some x ∧ Fr 317 a [(2, .int .i64 j2), (9, v11), (11, v20), (25, v279), (27, v288), (29, .int .i64 i29), (30, .complex .f64 bb297 bb298)] ∧ Fl.rep bb297 sx30.1 ∧ Fl.rep bb298 sx30.2 ∧ Hp S w0 w (Res.sl Ek.c128 36 v11 zx9 :: Res.sl Ek.c128 36 v20 q13.1 :: Res.sl Ek.c128 36 v279 q272.1 :: Res.sl Ek.c128 36 v288 q281.1 :: ow)) ?_ ?_
        · skip
          refine wp_seq ?_
          refine wp_reg ?_
          refine st_move hf rfl rfl (by decide) ?_
          clear hf; intro a ha hf; clear ha
          refine st_move hf rfl rfl (by decide) ?_
          clear hf; intro a ha hf; clear ha
          refine st_len (E := Ek.c128) hf (by decide) Try.underlying24 rfl rfl (hp.sl (i := 3) rfl) ?_
          clear hf; intro a ha hf; clear ha
          refine st_ilss hf (by decide) rfl rfl rfl ?_
          clear hf; intro a ha hf; clear ha
          refine st_nil hf ?_
          refine th_n ?_
          refine wp_if hf rfl (fun hb => ?_) (fun hb => ?_)
          · replace h := ifT h hb
            refine wp_reg ?_
            refine st_move hf rfl rfl (by decide) ?_
            clear hf; intro a ha hf; clear ha
            refine st_move hf rfl rfl (by decide) ?_
            clear hf; intro a ha hf; clear ha
            refine st_move hf rfl rfl (by decide) ?_
            clear hf; intro a ha hf; clear ha
            obtain ⟨hc306, h⟩ := chk h
            refine st_index (E := Ek.c128) hf (by decide) Try.underlying24 elt36 rfl rfl rfl (hp.sl (i := 3) rfl) hc306.1 hc306.2 ?_
            clear hf; intro a ha hf; clear ha
            refine st_ldC hf (by decide) pl36 rfl rfl (hp.sl (i := 3) rfl) hc306.1 hc306.2 ?_
            clear hf; intro a bb307 bb308 y309 y310 ha hf; clear ha
            refine st_carith (op := .add) (zx := (gt q13.1 i29)) (zy := (gt q281.1 i29)) rfl hf (by decide) hp rfl rfl rfl y295 y296 y309 y310 ?_
            clear hf; intro a w bb311 bb312 y313 y314 hf hp0; clear hp; have hp := hp0; clear hp0
            replace hp : Hp _ _ _ (Res.sl Ek.c128 36 v11 zx9 :: Res.sl Ek.c128 36 v20 q13.1 :: Res.sl Ek.c128 36 v279 q272.1 :: Res.sl Ek.c128 36 v288 q281.1 :: ow) := hp
            refine st_assign hf rfl rfl (by decide) ?_
            clear hf; intro a ha hf; clear ha
            refine st_nil hf ?_
            refine th_n ?_
            exact ⟨_, _, _, h, hf.sub ⟨rfl, rfl, rfl, rfl, rfl, rfl, rfl, trivial⟩, y313, y314, hp⟩
          replace h := ifF h hb
          refine wp_skip ?_
          refine th_n ?_
          exact ⟨_, _, _, h, hf.sub ⟨rfl, rfl, rfl, rfl, rfl, rfl, rfl, trivial⟩, y295, y296, hp⟩
        rintro a w ⟨sx30, bb297, bb298, h, hf, y299, y300, hp⟩
        unfold f_foghornlaw08_MixAdds.j3 at h
        refine wp_seq ?_
        refine wp_reg ?_
        refine st_move hf rfl rfl (by decide) ?_
        clear hf; intro a ha hf; clear ha
        refine st_move hf rfl rfl (by decide) ?_
        clear hf; intro a ha hf; clear ha
        obtain ⟨hc301, h⟩ := chk h
        refine st_index (E := Ek.c128) hf (by decide) Try.underlying24 elt36 rfl rfl rfl (hp.sl (i := 2) rfl) hc301.1 hc301.2 ?_
        clear hf; intro a ha hf; clear ha
        refine st_ldC hf (by decide) pl36 rfl rfl (hp.sl (i := 2) rfl) hc301.1 hc301.2 ?_
        clear hf; intro a bb302 bb303 y304 y305 ha hf; clear ha
        refine st_move hf rfl rfl (by decide) ?_
        clear hf; intro a ha hf; clear ha
        refine st_ccmp (r_cne (x := (gt q272.1 i29)) (y := sx30) y304 y305 y299 y300) hf (by decide) rfl rfl rfl ?_
        clear hf; intro a ha hf; clear ha
        refine st_nil hf ?_
        refine th_n ?_
        refine wp_if hf rfl (fun hb => ?_) (fun hb => ?_)
        · replace h := ifT h hb
          refine wp_seq ?_
          refine wp_reg ?_
          refine st_assign hf rfl rfl (by decide) ?_
          clear hf; intro a ha hf; clear ha
          refine st_nil hf ?_
          refine th_n ?_
          refine wp_ret ?_
          refine ib_r ?_
          refine th_r ?_
          obtain rfl := Option.some.inj h
          have hp : Hp _ _ _ (ow) := Hp.sel (pre := [Res.sl Ek.c128 36 v11 zx9, Res.sl Ek.c128 36 v20 q13.1, Res.sl Ek.c128 36 v279 q272.1, Res.sl Ek.c128 36 v288 q281.1]) (tail := ow) (rs' := []) hp [] (by decide) (by simp) rfl
          exact rnd_r (by simp) ⟨rfl, ⟨hf.sub ⟨rfl, trivial⟩, hp⟩⟩
        replace h := ifF h hb
        refine wp_skip ?_
        refine ib_n ?_
        refine th_n ?_
        refine wp_reg ?_
        refine st_move hf rfl rfl (by decide) ?_
        clear hf; intro a ha hf; clear ha
        refine st_iadd hf (by decide) rfl rfl rfl ?_
        clear hf; intro a ha hf; clear ha
        refine st_assign hf rfl rfl (by decide) ?_
        clear hf; intro a ha hf; clear ha
        refine st_nil hf ?_
        obtain rfl := Option.some.inj h
        exact rnd_l ⟨hf.sub ⟨rfl, rfl, rfl, rfl, rfl, rfl, trivial⟩, hp⟩
      replace h := ifF h hb
      refine wp_exit ?_
      refine th_e ?_
      obtain rfl := Option.some.inj h
      have hp : Hp _ _ _ (Res.sl Ek.c128 36 v11 zx9 :: Res.sl Ek.c128 36 v20 q13.1 :: ow) := Hp.sel (pre := [Res.sl Ek.c128 36 v11 zx9, Res.sl Ek.c128 36 v20 q13.1, Res.sl Ek.c128 36 v279 q272.1, Res.sl Ek.c128 36 v288 q281.1]) (tail := ow) (rs' := [Res.sl Ek.c128 36 v11 zx9, Res.sl Ek.c128 36 v20 q13.1]) hp [0, 1] (by decide) (by simp) rfl
      exact rnd_r (by simp) ⟨rfl, hf.sub ⟨rfl, rfl, rfl, trivial⟩, hp⟩
    clear hl hf hp
    intro e a w hne hO
    rcases q315 with q316 | q317
    · replace h := smL h
      obtain ⟨rfl, hf, hp⟩ := hO
      refine ib_same ?_
      refine th_n ?_
      refine wp_seq ?_
      refine wp_reg ?_
      refine st_move hf rfl rfl (by decide) ?_
      clear hf; intro a ha hf; clear ha
      obtain ⟨q318, hcall319, h⟩ := bnd h
      obtain ⟨S320, hp321, rd322, up323, bk324⟩ := Hp.lendS hp (i := 1) rfl
      refine st_call hf (by decide) Try.func21 rfl rfl rfl rfl rfl (f_mix_Mirror_c hp321 _ _ rd322 hcall319) ?_
      rintro _ w ⟨v325, rfl, hp0⟩
      have hp0 := bk324 _ _ hp0
      clear hp; have hp := hp0; clear hp0
      replace hp : Hp _ _ _ (Res.sl Ek.c128 36 v20 q13.1 :: Res.sl Ek.c128 36 v325 q318.1 :: Res.sl Ek.c128 36 v11 zx9 :: ow) := hp
      refine ⟨_, rfl, ?_⟩
      clear hf; intro a hf
      refine st_move hf rfl rfl (by decide) ?_
      clear hf; intro a ha hf; clear ha
      refine st_extract hf (by decide) rfl rfl rfl ?_
      clear hf; intro a ha hf; clear ha
      refine st_extract hf (by decide) rfl rfl rfl ?_
      clear hf; intro a ha hf; clear ha
      refine st_assign hf rfl rfl (by decide) ?_
      clear hf; intro a ha hf; clear ha
      refine st_assign hf rfl rfl (by decide) ?_
      clear hf; intro a ha hf; clear ha
      refine st_nil hf ?_
      refine th_n ?_
      refine wp_seq ?_
      refine wp_reg ?_
      refine st_move hf rfl rfl (by decide) ?_
      clear hf; intro a ha hf; clear ha
      obtain ⟨q327, hcall328, h⟩ := bnd h
      obtain ⟨S329, hp330, rd331, up332, bk333⟩ := Hp.lendS hp (i := 2) rfl
      refine st_call hf (by decide) Try.func21 rfl rfl rfl rfl rfl (f_mix_Mirror_c hp330 _ _ rd331 hcall328) ?_
      rintro _ w ⟨v334, rfl, hp0⟩
      have hp0 := bk333 _ _ hp0
      clear hp; have hp := hp0; clear hp0
      replace hp : Hp _ _ _ (Res.sl Ek.c128 36 v11 zx9 :: Res.sl Ek.c128 36 v334 q327.1 :: Res.sl Ek.c128 36 v20 q13.1 :: Res.sl Ek.c128 36 v325 q318.1 :: ow) := hp
      refine ⟨_, rfl, ?_⟩
      clear hf; intro a hf
      refine st_move hf rfl rfl (by decide) ?_
      clear hf; intro a ha hf; clear ha
      refine st_extract hf (by decide) rfl rfl rfl ?_
      clear hf; intro a ha hf; clear ha
      refine st_extract hf (by decide) rfl rfl rfl ?_
      clear hf; intro a ha hf; clear ha
      refine st_assign hf rfl rfl (by decide) ?_
      clear hf; intro a ha hf; clear ha
      refine st_assign hf rfl rfl (by decide) ?_
      clear hf; intro a ha hf; clear ha
      refine st_nil hf ?_
      refine th_n ?_
      refine wp_seq ?_
      refine wp_reg ?_
      refine st_move hf rfl rfl (by decide) ?_
      clear hf; intro a ha hf; clear ha
      refine st_move hf rfl rfl (by decide) ?_
      clear hf; intro a ha hf; clear ha
      obtain ⟨q336, hcall337, h⟩ := bnd h
      obtain ⟨S338, hp339, rd340, up341, bk342⟩ := Hp.lendS hp (i := 1) rfl
      refine st_call hf (by decide) Try.func19 rfl rfl rfl rfl rfl (f_mix_Down_c hp339 _ _ rd340 _ hcall337) ?_
      rintro _ w ⟨v343, rfl, hp0⟩
      have hp0 := bk342 _ _ hp0
      clear hp; have hp := hp0; clear hp0
      replace hp : Hp _ _ _ (Res.sl Ek.c128 36 v334 q327.1 :: Res.sl Ek.c128 36 v343 q336.1 :: Res.sl Ek.c128 36 v11 zx9 :: Res.sl Ek.c128 36 v20 q13.1 :: Res.sl Ek.c128 36 v325 q318.1 :: ow) := hp
      refine ⟨_, rfl, ?_⟩
      clear hf; intro a hf
      refine st_move hf rfl rfl (by decide) ?_
      clear hf; intro a ha hf; clear ha
      refine st_extract hf (by decide) rfl rfl rfl ?_
      clear hf; intro a ha hf; clear ha
      refine st_extract hf (by decide) rfl rfl rfl ?_
      clear hf; intro a ha hf; clear ha
      refine st_assign hf rfl rfl (by decide) ?_
      clear hf; intro a ha hf; clear ha
      refine st_assign hf rfl rfl (by decide) ?_
      clear hf; intro a ha hf; clear ha
      refine st_nil hf ?_
      refine th_n ?_
      refine wp_seq ?_
      refine wp_reg ?_
      refine st_move hf rfl rfl (by decide) ?_
      clear hf; intro a ha hf; clear ha
      refine st_move hf rfl rfl (by decide) ?_
      clear hf; intro a ha hf; clear ha
      obtain ⟨q345, hcall346, h⟩ := bnd h
      obtain ⟨S347, hp348, rd349, up350, bk351⟩ := Hp.lendS hp (i := 4) rfl
      obtain ⟨S352, hp353, rd354, up355, bk356⟩ := Hp.lendS hp348 (i := 1) rfl
      refine st_call hf (by decide) Try.func33 rfl rfl rfl rfl rfl (f_foghornref08_Same_c hp353 _ _ ((rd349.now hp348).mono up355) _ _ rd354 hcall346) ?_
      rintro _ w ⟨rfl, hp0⟩
      have hp0 := bk356 _ _ hp0
      have hp0 := bk351 _ _ hp0
      clear hp; have hp := hp0; clear hp0
      replace hp : Hp _ _ _ (Res.sl Ek.c128 36 v325 q318.1 :: Res.sl Ek.c128 36 v343 q336.1 :: Res.sl Ek.c128 36 v334 q327.1 :: Res.sl Ek.c128 36 v11 zx9 :: Res.sl Ek.c128 36 v20 q13.1 :: ow) := hp
      refine ⟨_, rfl, ?_⟩
      clear hf; intro a hf
      refine st_assign hf rfl rfl (by decide) ?_
      clear hf; intro a ha hf; clear ha
      refine st_nil hf ?_
      refine th_n ?_
      refine wp_ret ?_
      obtain rfl := Option.some.inj h
      have hp : Hp _ _ _ (ow) := Hp.sel (pre := [Res.sl Ek.c128 36 v325 q318.1, Res.sl Ek.c128 36 v343 q336.1, Res.sl Ek.c128 36 v334 q327.1, Res.sl Ek.c128 36 v11 zx9, Res.sl Ek.c128 36 v20 q13.1]) (tail := ow) (rs' := []) hp [] (by decide) (by simp) rfl
      exact ⟨rfl, ⟨hf.sub ⟨rfl, trivial⟩, hp⟩⟩
    replace h := smR h
    obtain ⟨rfl, hf, hp⟩ := hO
    refine ib_r ?_
    refine th_r ?_
    obtain rfl := Option.some.inj h
    exact ⟨rfl, ⟨hf.sub ⟨rfl, trivial⟩, hp⟩⟩
  replace h := smR h
  obtain ⟨rfl, hf, hp⟩ := hO
  refine ib_r ?_
  refine th_r ?_
  obtain rfl := Option.some.inj h
  exact ⟨rfl, ⟨hf.sub ⟨rfl, trivial⟩, hp⟩⟩

end Go.Proofs.Ytfppofbdmhihpaa
