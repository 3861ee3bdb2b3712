/- The functions foghorn foghornlaw06.TurnsRows: what each answers, as a plain function, and that its call answers it; printed by gen.py. -/
import Derived.Test.YtienojgmpjpcjaaProg
import Derived.Test.YtienojgmpjpcjaaGlY
import Derived.KernelRfl
import Derived.Test.YtienojgmpjpcjaaG3p2
set_option linter.unusedVariables false
set_option linter.unusedSimpArgs false
set_option maxRecDepth 100000
set_option maxHeartbeats 4000000
namespace Go.Proofs.Ytienojgmpjpcjaa
open GL
noncomputable def f_foghornlaw06_TurnsRows.s1c (qx0 : (List Int)) (m7 : (List Int)) (turned10 : (List Int)) (i11 : Int) : Option (((List Int) × (List Int) × Int) ⊕ ((List Int) × (List Int))) := (if (decide (i11 < (qx0.length : Int))) = true then (if 0 ≤ i11 ∧ i11 < (qx0.length : Int) then (if 0 ≤ i11 ∧ i11 < (turned10.length : Int) then (if 0 ≤ i11 ∧ i11 < ((turned10.set (i11).toNat (((IntKind.u8.wrap ((gt qx0 i11) + (1 : Int)))).tmod (4 : Int))).length : Int) then (if 0 ≤ i11 ∧ i11 < (m7.length : Int) then (some (Sum.inl ((m7.set (i11).toNat (gt (turned10.set (i11).toNat (((IntKind.u8.wrap ((gt qx0 i11) + (1 : Int)))).tmod (4 : Int))) i11)), (turned10.set (i11).toNat (((IntKind.u8.wrap ((gt qx0 i11) + (1 : Int)))).tmod (4 : Int))), (IntKind.i64.wrap (i11 + (1 : Int)))))) else none) else none) else none) else none) else (some (Sum.inr (m7, turned10))))
noncomputable def f_foghornlaw06_TurnsRows.s1 (qx0 : (List Int)) (s : ((List Int) × (List Int) × Int)) : Option (((List Int) × (List Int) × Int) ⊕ ((List Int) × (List Int))) := f_foghornlaw06_TurnsRows.s1c qx0 s.1 s.2.1 s.2.2
noncomputable def f_foghornlaw06_TurnsRows (qx0 : (List Int)) (there1 : (List Bool)) (bits2 : (List Bool)) : Option Bool := (if (([] : List Int).length + qx0.length) * 1 ≤ 140737488355328 then (if ((([] : List Int) ++ qx0).length + ([(99 : Int)]).length) * 1 ≤ 140737488355328 then (if (([] : List Bool).length + there1.length) * 1 ≤ 140737488355328 then (if ((([] : List Bool) ++ there1).length + ([true]).length) * 1 ≤ 140737488355328 then (if (([] : List Bool).length + bits2.length) * 1 ≤ 140737488355328 then (if ((([] : List Bool) ++ bits2).length + ([true]).length) * 1 ≤ 140737488355328 then (if 0 ≤ (qx0.length : Int) ∧ (qx0.length : Int) ≤ (((([] : List Int) ++ qx0) ++ [(99 : Int)]).length : Int) then (if 0 ≤ (there1.length : Int) ∧ (there1.length : Int) ≤ (((([] : List Bool) ++ there1) ++ [true]).length : Int) then ((f_foghornlaw06_rows ((((([] : List Int) ++ qx0) ++ [(99 : Int)]).drop 0).take (((qx0.length : Int)).toNat - 0)) ((((([] : List Bool) ++ there1) ++ [true]).drop 0).take (((there1.length : Int)).toNat - 0)) qx0 there1).bind fun q52 => ((if (!q52) = true then (some true) else (if 0 ≤ (qx0.length : Int) ∧ (qx0.length : Int) ≤ (((([] : List Int) ++ qx0) ++ [(99 : Int)]).length : Int) then ((f_foghornlaw06_quarters ((((([] : List Int) ++ qx0) ++ [(99 : Int)]).drop 0).take (((qx0.length : Int)).toNat - 0)) qx0).bind fun q59 => (some (!q59))) else none)).bind fun z61 => ((if z61 = true then (some true) else (if 0 ≤ (qx0.length : Int) ∧ (qx0.length : Int) < (((([] : List Int) ++ qx0) ++ [(99 : Int)]).length : Int) then (some ((gt ((([] : List Int) ++ qx0) ++ [(99 : Int)]) (qx0.length : Int)) != (99 : Int))) else none)).bind fun z65 => ((if z65 = true then (some true) else (if 0 ≤ (there1.length : Int) ∧ (there1.length : Int) ≤ (((([] : List Bool) ++ there1) ++ [true]).length : Int) then ((f_foghornlaw06_truths ((((([] : List Bool) ++ there1) ++ [true]).drop 0).take (((there1.length : Int)).toNat - 0)) there1).bind fun q71 => (some (!q71))) else none)).bind fun z73 => ((if z73 = true then (some true) else (if 0 ≤ (there1.length : Int) ∧ (there1.length : Int) < (((([] : List Bool) ++ there1) ++ [true]).length : Int) then (some (!(gt ((([] : List Bool) ++ there1) ++ [true]) (there1.length : Int)))) else none)).bind fun z77 => ((if z77 = true then (some true) else (if 0 ≤ (bits2.length : Int) ∧ (bits2.length : Int) ≤ (((([] : List Bool) ++ bits2) ++ [true]).length : Int) then ((f_foghornlaw06_spelt ((((([] : List Bool) ++ bits2) ++ [true]).drop 0).take (((bits2.length : Int)).toNat - 0)) bits2).bind fun q83 => (some (!q83))) else none)).bind fun z85 => ((if z85 = true then (some true) else (if 0 ≤ (bits2.length : Int) ∧ (bits2.length : Int) ≤ (((([] : List Bool) ++ bits2) ++ [true]).length : Int) then ((f_foghornlaw06_truths ((((([] : List Bool) ++ bits2) ++ [true]).drop 0).take (((bits2.length : Int)).toNat - 0)) bits2).bind fun q91 => (some (!q91))) else none)).bind fun z93 => ((if z93 = true then (some true) else (if 0 ≤ (bits2.length : Int) ∧ (bits2.length : Int) < (((([] : List Bool) ++ bits2) ++ [true]).length : Int) then (some (!(gt ((([] : List Bool) ++ bits2) ++ [true]) (bits2.length : Int)))) else none)).bind fun z97 => (if z97 = true then (some false) else (if 0 ≤ (qx0.length : Int) ∧ (qx0.length : Int) ≤ (qx0.length : Int) ∧ (qx0.length : Int) * 1 ≤ 281474976710656 then ((loop (f_foghornlaw06_TurnsRows.s1 qx0) (((([] : List Int) ++ qx0) ++ [(99 : Int)]), (List.replicate ((qx0.length : Int)).toNat (0 : Int)), (0 : Int))).bind (fun q113 => (if 0 ≤ (qx0.length : Int) ∧ (qx0.length : Int) ≤ (q113.1.length : Int) then (if 0 ≤ (there1.length : Int) ∧ (there1.length : Int) ≤ (((([] : List Bool) ++ there1) ++ [true]).length : Int) then ((f_foghornlaw06_rows ((q113.1.drop 0).take (((qx0.length : Int)).toNat - 0)) ((((([] : List Bool) ++ there1) ++ [true]).drop 0).take (((there1.length : Int)).toNat - 0)) q113.2 there1).bind fun q134 => ((if q134 = true then ((f_foghornlaw06_awake).bind fun q143 => (some q143)) else (some false)).bind fun z145 => (some z145))) else none) else none))) else none)))))))))) else none) else none) else none) else none) else none) else none) else none) else none)
theorem f_foghornlaw06_TurnsRows_c {S : Nat → Prop} {w0 w : World} {ow : List Res} (hp : Hp S w0 w ow) (vqx0 : Value) (qx0 : (List Int)) (hqx0 : RdS (Ek.int .u8) S w0 vqx0 qx0) (vthere1 : Value) (there1 : (List Bool)) (hthere1 : RdS Ek.bool S w0 vthere1 there1) (vbits2 : Value) (bits2 : (List Bool)) (hbits2 : RdS Ek.bool S w0 vbits2 bits2) {r : Bool} (h : f_foghornlaw06_TurnsRows qx0 there1 bits2 = some r) :
    Calls Try.prog 4 #[vqx0, vthere1, vbits2] w (fun e w' => e = .returned (.bool r) ∧ Hp S w0 w' (ow)) := by
  unfold f_foghornlaw06_TurnsRows at h
  refine enter (n := 138) (args := [vqx0, vthere1, vbits2]) Try.func4 rfl rfl (Nat.le_of_ble_eq_true rfl) fun a hf => ?_
  replace hf : Fr 138 a [(0, vqx0), (1, vthere1), (2, vbits2)] := hf
  refine wp_mono (Q := fun e a w => e = .ret ∧ Fr 138 a [(6, .bool r)] ∧ Hp S w0 w (ow)) ?_ ?_
  rotate_left
  · rintro e a w ⟨rfl, hf, hp⟩
    exact ret1 hf rfl rfl ⟨rfl, hp⟩
  refine wp_seq ?_
  refine wp_reg ?_
  refine st_assign hf rfl rfl (by decide) ?_
  clear hf; intro a ha hf; clear ha
  refine st_nil hf ?_
  refine th_n ?_
  refine wp_seq ?_
  refine wp_reg ?_
  refine st_build0 (E := (Ek.int .u8)) hf (by decide) elt5 Try.underlying22 hp rfl ?_
  clear hf; intro a w v1 hf hp0; clear hp; have hp := hp0; clear hp0
  replace hp : Hp _ _ _ (Res.sl (Ek.int .u8) 5 v1 ([] : List Int) :: ow) := hp
  refine st_move hf rfl rfl (by decide) ?_
  clear hf; intro a ha hf; clear ha
  obtain ⟨hc3, h⟩ := chk h
  refine st_append (E := (Ek.int .u8)) hf (by decide) elt5 Try.underlying22 (by decide) hp (i := 0) rfl rfl rfl rfl (hqx0.sl hp) hc3 ?_
  clear hf; intro a w v4 hf hp0; clear hp; have hp := hp0; clear hp0
  replace hp : Hp _ _ _ (Res.sl (Ek.int .u8) 5 v4 (([] : List Int) ++ qx0) :: ow) := hp
  refine st_build (E := (Ek.int .u8)) (xs := [(99 : Int)]) hf (by decide) elt5 Try.underlying22 hp (vals := #[(0, .int .u8 (99 : Int))]) (cells := #[.int .u8 (99 : Int)]) rfl (by simp [hf.ev (x := (Operand.const (.int .u8 (99 : Int)))) rfl]) (by decide) (by decide) (z := .int .u8 0) (by kernel_rfl) (by kernel_rfl) rfl (reps_cons (cs := [.int .u8 (99 : Int)]) rfl (reps_nil _)) ?_
  clear hf; intro a w v5 hf hp0; clear hp; have hp := hp0; clear hp0
  replace hp : Hp _ _ _ (Res.sl (Ek.int .u8) 5 v5 ([(99 : Int)]) :: Res.sl (Ek.int .u8) 5 v4 (([] : List Int) ++ qx0) :: ow) := hp
  obtain ⟨hc7, h⟩ := chk h
  refine st_append (E := (Ek.int .u8)) hf (by decide) elt5 Try.underlying22 (by decide) hp (i := 1) rfl rfl rfl rfl (hp.sl (i := 0) rfl) hc7 ?_
  clear hf; intro a w v8 hf hp0; clear hp; have hp := hp0; clear hp0
  replace hp : Hp _ _ _ (Res.sl (Ek.int .u8) 5 v5 ([(99 : Int)]) :: Res.sl (Ek.int .u8) 5 v8 ((([] : List Int) ++ qx0) ++ [(99 : Int)]) :: ow) := hp
  refine st_assign hf rfl rfl (by decide) ?_
  clear hf; intro a ha hf; clear ha
  refine st_nil hf ?_
  refine th_n ?_
  refine wp_seq ?_
  refine wp_reg ?_
  refine st_build0 (E := Ek.bool) hf (by decide) elt4 Try.underlying27 hp rfl ?_
  clear hf; intro a w v9 hf hp0; clear hp; have hp := hp0; clear hp0
  replace hp : Hp _ _ _ (Res.sl Ek.bool 4 v9 ([] : List Bool) :: Res.sl (Ek.int .u8) 5 v5 ([(99 : Int)]) :: Res.sl (Ek.int .u8) 5 v8 ((([] : List Int) ++ qx0) ++ [(99 : Int)]) :: ow) := hp
  refine st_move hf rfl rfl (by decide) ?_
  clear hf; intro a ha hf; clear ha
  obtain ⟨hc11, h⟩ := chk h
  refine st_append (E := Ek.bool) hf (by decide) elt4 Try.underlying27 (by decide) hp (i := 0) rfl rfl rfl rfl (hthere1.sl hp) hc11 ?_
  clear hf; intro a w v12 hf hp0; clear hp; have hp := hp0; clear hp0
  replace hp : Hp _ _ _ (Res.sl Ek.bool 4 v12 (([] : List Bool) ++ there1) :: Res.sl (Ek.int .u8) 5 v5 ([(99 : Int)]) :: Res.sl (Ek.int .u8) 5 v8 ((([] : List Int) ++ qx0) ++ [(99 : Int)]) :: ow) := hp
  refine st_build (E := Ek.bool) (xs := [true]) hf (by decide) elt4 Try.underlying27 hp (vals := #[(0, .bool true)]) (cells := #[.bool true]) rfl (by simp [hf.ev (x := (Operand.const (.bool true))) rfl]) (by decide) (by decide) (z := .bool false) (by kernel_rfl) (by kernel_rfl) rfl (reps_cons (cs := [.bool true]) rfl (reps_nil _)) ?_
  clear hf; intro a w v13 hf hp0; clear hp; have hp := hp0; clear hp0
  replace hp : Hp _ _ _ (Res.sl Ek.bool 4 v13 ([true]) :: Res.sl Ek.bool 4 v12 (([] : List Bool) ++ there1) :: Res.sl (Ek.int .u8) 5 v5 ([(99 : Int)]) :: Res.sl (Ek.int .u8) 5 v8 ((([] : List Int) ++ qx0) ++ [(99 : Int)]) :: ow) := hp
  obtain ⟨hc15, h⟩ := chk h
  refine st_append (E := Ek.bool) hf (by decide) elt4 Try.underlying27 (by decide) hp (i := 1) rfl rfl rfl rfl (hp.sl (i := 0) rfl) hc15 ?_
  clear hf; intro a w v16 hf hp0; clear hp; have hp := hp0; clear hp0
  replace hp : Hp _ _ _ (Res.sl Ek.bool 4 v13 ([true]) :: Res.sl Ek.bool 4 v16 ((([] : List Bool) ++ there1) ++ [true]) :: Res.sl (Ek.int .u8) 5 v5 ([(99 : Int)]) :: Res.sl (Ek.int .u8) 5 v8 ((([] : List Int) ++ qx0) ++ [(99 : Int)]) :: ow) := hp
  refine st_assign hf rfl rfl (by decide) ?_
  clear hf; intro a ha hf; clear ha
  refine st_nil hf ?_
  refine th_n ?_
  refine wp_seq ?_
  refine wp_reg ?_
  refine st_build0 (E := Ek.bool) hf (by decide) elt4 Try.underlying27 hp rfl ?_
  clear hf; intro a w v17 hf hp0; clear hp; have hp := hp0; clear hp0
  replace hp : Hp _ _ _ (Res.sl Ek.bool 4 v17 ([] : List Bool) :: Res.sl Ek.bool 4 v13 ([true]) :: Res.sl Ek.bool 4 v16 ((([] : List Bool) ++ there1) ++ [true]) :: Res.sl (Ek.int .u8) 5 v5 ([(99 : Int)]) :: Res.sl (Ek.int .u8) 5 v8 ((([] : List Int) ++ qx0) ++ [(99 : Int)]) :: ow) := hp
  refine st_move hf rfl rfl (by decide) ?_
  clear hf; intro a ha hf; clear ha
  obtain ⟨hc19, h⟩ := chk h
  refine st_append (E := Ek.bool) hf (by decide) elt4 Try.underlying27 (by decide) hp (i := 0) rfl rfl rfl rfl (hbits2.sl hp) hc19 ?_
  clear hf; intro a w v20 hf hp0; clear hp; have hp := hp0; clear hp0
  replace hp : Hp _ _ _ (Res.sl Ek.bool 4 v20 (([] : List Bool) ++ bits2) :: Res.sl Ek.bool 4 v13 ([true]) :: Res.sl Ek.bool 4 v16 ((([] : List Bool) ++ there1) ++ [true]) :: Res.sl (Ek.int .u8) 5 v5 ([(99 : Int)]) :: Res.sl (Ek.int .u8) 5 v8 ((([] : List Int) ++ qx0) ++ [(99 : Int)]) :: ow) := hp
  refine st_build (E := Ek.bool) (xs := [true]) hf (by decide) elt4 Try.underlying27 hp (vals := #[(0, .bool true)]) (cells := #[.bool true]) rfl (by simp [hf.ev (x := (Operand.const (.bool true))) rfl]) (by decide) (by decide) (z := .bool false) (by kernel_rfl) (by kernel_rfl) rfl (reps_cons (cs := [.bool true]) rfl (reps_nil _)) ?_
  clear hf; intro a w v21 hf hp0; clear hp; have hp := hp0; clear hp0
  replace hp : Hp _ _ _ (Res.sl Ek.bool 4 v21 ([true]) :: Res.sl Ek.bool 4 v20 (([] : List Bool) ++ bits2) :: Res.sl Ek.bool 4 v13 ([true]) :: Res.sl Ek.bool 4 v16 ((([] : List Bool) ++ there1) ++ [true]) :: Res.sl (Ek.int .u8) 5 v5 ([(99 : Int)]) :: Res.sl (Ek.int .u8) 5 v8 ((([] : List Int) ++ qx0) ++ [(99 : Int)]) :: ow) := hp
  obtain ⟨hc23, h⟩ := chk h
  refine st_append (E := Ek.bool) hf (by decide) elt4 Try.underlying27 (by decide) hp (i := 1) rfl rfl rfl rfl (hp.sl (i := 0) rfl) hc23 ?_
  clear hf; intro a w v24 hf hp0; clear hp; have hp := hp0; clear hp0
  replace hp : Hp _ _ _ (Res.sl Ek.bool 4 v21 ([true]) :: Res.sl Ek.bool 4 v24 ((([] : List Bool) ++ bits2) ++ [true]) :: Res.sl Ek.bool 4 v13 ([true]) :: Res.sl Ek.bool 4 v16 ((([] : List Bool) ++ there1) ++ [true]) :: Res.sl (Ek.int .u8) 5 v5 ([(99 : Int)]) :: Res.sl (Ek.int .u8) 5 v8 ((([] : List Int) ++ qx0) ++ [(99 : Int)]) :: ow) := hp
  refine st_assign hf rfl rfl (by decide) ?_
  clear hf; intro a ha hf; clear ha
  refine st_nil hf ?_
  refine th_n ?_
  refine wp_seq ?_
  refine wp_seq ?_
  obtain ⟨S25, hp26, rd27, up28, bk29⟩ := Hp.lendS hp (i := 5) rfl
  obtain ⟨S30, hp31, rd32, up33, bk34⟩ := Hp.lendS hp26 (i := 3) rfl
  obtain ⟨S35, hp36, rd37, up38, bk39⟩ := Hp.lendS hp31 (i := 1) rfl
  have rl40 := ((((((hqx0.now hp).mono up28).now hp26).mono up33).now hp31).mono up38)
  have rl41 := ((((((hthere1.now hp).mono up28).now hp26).mono up33).now hp31).mono up38)
  have rl42 := ((((((hbits2.now hp).mono up28).now hp26).mono up33).now hp31).mono up38)
  have rl43 := ((((rd27.now hp26).mono up33).now hp31).mono up38)
  have rl44 := ((rd32.now hp31).mono up38)
  have rl45 := rd37
  obtain ⟨hc46, h⟩ := chk h
  have hc47 : 0 ≤ ((qx0.length : Int)).toNat := by omega
  have hc48 : ((qx0.length : Int)).toNat ≤ ((([] : List Int) ++ qx0) ++ [(99 : Int)]).length := by omega
  obtain ⟨hc49, h⟩ := chk h
  have hc50 : 0 ≤ ((there1.length : Int)).toNat := by omega
  have hc51 : ((there1.length : Int)).toNat ≤ ((([] : List Bool) ++ there1) ++ [true]).length := by omega
  obtain ⟨q52, hcall53, h⟩ := bnd h
  obtain ⟨z61, hz54, h⟩ := bnd h
  obtain ⟨z65, hz62, h⟩ := bnd h
  obtain ⟨z73, hz66, h⟩ := bnd h
  obtain ⟨z77, hz74, h⟩ := bnd h
  obtain ⟨z85, hz78, h⟩ := bnd h
  obtain ⟨z93, hz86, h⟩ := bnd h
  obtain ⟨z97, hz94, h⟩ := bnd h
  refine wp_cutN (fun a w => Fr 138 a [(0, vqx0), (1, vthere1), (7, v8), (8, v16), (98, .bool z97)] ∧ Hp S w0 w (Res.sl (Ek.int .u8) 5 v8 ((([] : List Int) ++ qx0) ++ [(99 : Int)]) :: Res.sl Ek.bool 4 v16 ((([] : List Bool) ++ there1) ++ [true]) :: Res.sl Ek.bool 4 v24 ((([] : List Bool) ++ bits2) ++ [true]) :: Res.sl Ek.bool 4 v21 ([true]) :: Res.sl Ek.bool 4 v13 ([true]) :: Res.sl (Ek.int .u8) 5 v5 ([(99 : Int)]) :: ow)) ?_ ?_
  · have hp := hp36.same (Same.drew w)
    rcases Bool.eq_false_or_eq_true (!q52) with hb55 | hb55
    · skip
      replace hz54 := ifT hz54 hb55
      replace hz54 := Option.some.inj hz54
      have hb63 : z61 = true := hz54.symm
      skip
      replace hz62 := ifT hz62 hb63
      replace hz62 := Option.some.inj hz62
      have hb67 : z65 = true := hz62.symm
      skip
      replace hz66 := ifT hz66 hb67
      replace hz66 := Option.some.inj hz66
      have hb75 : z73 = true := hz66.symm
      skip
      replace hz74 := ifT hz74 hb75
      replace hz74 := Option.some.inj hz74
      have hb79 : z77 = true := hz74.symm
      skip
      replace hz78 := ifT hz78 hb79
      replace hz78 := Option.some.inj hz78
      have hb87 : z85 = true := hz78.symm
      skip
      replace hz86 := ifT hz86 hb87
      replace hz86 := Option.some.inj hz86
      have hb95 : z93 = true := hz86.symm
      skip
      replace hz94 := ifT hz94 hb95
      replace hz94 := Option.some.inj hz94
      refine dr_begin' (fun a w => Fr 138 a [(0, vqx0), (1, vthere1), (7, v8), (8, v16), (98, .bool z97)] ∧ Hp S w0 w (Res.sl (Ek.int .u8) 5 v8 ((([] : List Int) ++ qx0) ++ [(99 : Int)]) :: Res.sl Ek.bool 4 v16 ((([] : List Bool) ++ there1) ++ [true]) :: Res.sl Ek.bool 4 v24 ((([] : List Bool) ++ bits2) ++ [true]) :: Res.sl Ek.bool 4 v21 ([true]) :: Res.sl Ek.bool 4 v13 ([true]) :: Res.sl (Ek.int .u8) 5 v5 ([(99 : Int)]) :: ow)) (fun w' => ∃ l, Hp S35 w w' l) [] (by kernel_rfl) ?_
      refine dr_take 0 (v8) rfl (by kernel_rfl) (by kernel_rfl) (by kernel_rfl) (by kernel_rfl) rfl rfl hf (by decide) rfl (fun w hp => ?_) ⟨_, hp⟩ ?_
      · obtain ⟨_, hp⟩ := hp
        refine st_move hf rfl rfl (by decide) ?_
        clear hf; intro a ha hf
        exact st_nil hf (th_n ⟨ha, rfl⟩)
      clear hf; intro a hf
      refine dr_take 1 (vqx0) rfl (by kernel_rfl) (by kernel_rfl) (by kernel_rfl) (by kernel_rfl) rfl rfl hf (by decide) rfl (fun w hp => ?_) ⟨_, hp⟩ ?_
      · obtain ⟨_, hp⟩ := hp
        refine st_move hf rfl rfl (by decide) ?_
        clear hf; intro a ha hf
        exact st_nil hf (th_n ⟨ha, rfl⟩)
      clear hf; intro a hf
      refine dr_take 2 (.int .i64 (qx0.length : Int)) rfl (by kernel_rfl) (by kernel_rfl) (by kernel_rfl) (by kernel_rfl) rfl rfl hf (by decide) rfl (fun w hp => ?_) ⟨_, hp⟩ ?_
      · obtain ⟨_, hp⟩ := hp
        refine st_len (E := (Ek.int .u8)) hf (by decide) Try.underlying22 rfl rfl (rl40.sl hp) ?_
        clear hf; intro a ha hf
        exact st_nil hf (th_n ⟨ha, rfl⟩)
      clear hf; intro a hf
      refine dr_take 3 ((GL.cut v8 0 (((qx0.length : Int)).toNat) 1)) rfl (by kernel_rfl) (by kernel_rfl) (by kernel_rfl) (by kernel_rfl) rfl rfl hf (by decide) rfl (fun w hp => ?_) ⟨_, hp⟩ ?_
      · obtain ⟨_, hp⟩ := hp
        refine st_cutS (E := (Ek.int .u8)) hf (by decide) Try.underlying22 elt5 rfl rfl (rl43.sl hp) (.inl ⟨rfl, rfl⟩) (.inr ⟨_, _, rfl, evI rfl (by omega)⟩) hc47 hc48 ?_
        clear hf; intro a ha hf
        exact st_nil hf (th_n ⟨ha, rfl⟩)
      clear hf; intro a hf
      refine dr_take 4 (v16) rfl (by kernel_rfl) (by kernel_rfl) (by kernel_rfl) (by kernel_rfl) rfl rfl hf (by decide) rfl (fun w hp => ?_) ⟨_, hp⟩ ?_
      · obtain ⟨_, hp⟩ := hp
        refine st_move hf rfl rfl (by decide) ?_
        clear hf; intro a ha hf
        exact st_nil hf (th_n ⟨ha, rfl⟩)
      clear hf; intro a hf
      refine dr_take 5 (vthere1) rfl (by kernel_rfl) (by kernel_rfl) (by kernel_rfl) (by kernel_rfl) rfl rfl hf (by decide) rfl (fun w hp => ?_) ⟨_, hp⟩ ?_
      · obtain ⟨_, hp⟩ := hp
        refine st_move hf rfl rfl (by decide) ?_
        clear hf; intro a ha hf
        exact st_nil hf (th_n ⟨ha, rfl⟩)
      clear hf; intro a hf
      refine dr_take 6 (.int .i64 (there1.length : Int)) rfl (by kernel_rfl) (by kernel_rfl) (by kernel_rfl) (by kernel_rfl) rfl rfl hf (by decide) rfl (fun w hp => ?_) ⟨_, hp⟩ ?_
      · obtain ⟨_, hp⟩ := hp
        refine st_len (E := Ek.bool) hf (by decide) Try.underlying27 rfl rfl (rl41.sl hp) ?_
        clear hf; intro a ha hf
        exact st_nil hf (th_n ⟨ha, rfl⟩)
      clear hf; intro a hf
      refine dr_take 7 ((GL.cut v16 0 (((there1.length : Int)).toNat) 1)) rfl (by kernel_rfl) (by kernel_rfl) (by kernel_rfl) (by kernel_rfl) rfl rfl hf (by decide) rfl (fun w hp => ?_) ⟨_, hp⟩ ?_
      · obtain ⟨_, hp⟩ := hp
        refine st_cutS (E := Ek.bool) hf (by decide) Try.underlying27 elt4 rfl rfl (rl44.sl hp) (.inl ⟨rfl, rfl⟩) (.inr ⟨_, _, rfl, evI rfl (by omega)⟩) hc50 hc51 ?_
        clear hf; intro a ha hf
        exact st_nil hf (th_n ⟨ha, rfl⟩)
      clear hf; intro a hf
      refine dr_take 8 (vqx0) rfl (by kernel_rfl) (by kernel_rfl) (by kernel_rfl) (by kernel_rfl) rfl rfl hf (by decide) rfl (fun w hp => ?_) ⟨_, hp⟩ ?_
      · obtain ⟨_, hp⟩ := hp
        refine st_move hf rfl rfl (by decide) ?_
        clear hf; intro a ha hf
        exact st_nil hf (th_n ⟨ha, rfl⟩)
      clear hf; intro a hf
      refine dr_take 9 (vthere1) rfl (by kernel_rfl) (by kernel_rfl) (by kernel_rfl) (by kernel_rfl) rfl rfl hf (by decide) rfl (fun w hp => ?_) ⟨_, hp⟩ ?_
      · obtain ⟨_, hp⟩ := hp
        refine st_move hf rfl rfl (by decide) ?_
        clear hf; intro a ha hf
        exact st_nil hf (th_n ⟨ha, rfl⟩)
      clear hf; intro a hf
      refine dr_one 10 rfl (by kernel_rfl) ?_
      refine st_call hf (by decide) Try.func15 rfl rfl rfl rfl rfl (f_foghornlaw06_rows_c hp _ _ (RdS.cut rl43 hc47 hc48) _ _ (RdS.cut rl44 hc50 hc51) _ _ rl40 _ _ rl41 hcall53) ?_
      rintro _ w ⟨rfl, hp0⟩
      clear hp; have hp := hp0; clear hp0
      replace hp : Hp _ _ _ (Res.sl Ek.bool 4 v21 ([true]) :: Res.sl Ek.bool 4 v13 ([true]) :: Res.sl (Ek.int .u8) 5 v5 ([(99 : Int)]) :: ow) := hp
      refine ⟨_, rfl, ?_⟩
      clear hf; intro a hf
      refine st_nil hf (th_n ⟨fun _ _ => ⟨_, hp⟩, ?_⟩)
      refine dr_take 11 (.bool (!q52)) rfl (by kernel_rfl) (by kernel_rfl) (by kernel_rfl) (by kernel_rfl) rfl rfl hf (by decide) rfl (fun w hp => ?_) ⟨_, hp⟩ ?_
      · obtain ⟨_, hp⟩ := hp
        refine st_not hf (by decide) rfl rfl ?_
        clear hf; intro a ha hf
        exact st_nil hf (th_n ⟨ha, rfl⟩)
      clear hf; intro a hf
      refine dr_take 12 (.bool (!q52)) rfl (by kernel_rfl) (by kernel_rfl) (by kernel_rfl) (by kernel_rfl) rfl rfl hf (by decide) rfl (fun w hp => ?_) ⟨_, hp⟩ ?_
      · obtain ⟨_, hp⟩ := hp
        refine st_move hf rfl rfl (by decide) ?_
        clear hf; intro a ha hf
        exact st_nil hf (th_n ⟨ha, rfl⟩)
      clear hf; intro a hf
      refine dr_out 13 rfl (by kernel_rfl) (by kernel_rfl) (by kernel_rfl) (by kernel_rfl) rfl hf (by decide) rfl (wantN hf rfl rfl hb55) ⟨_, hp⟩ ?_
      clear hf; intro a hf
      refine dr_out 14 rfl (by kernel_rfl) (by kernel_rfl) (by kernel_rfl) (by kernel_rfl) rfl hf (by decide) rfl (wantN hf rfl rfl hb55) ⟨_, hp⟩ ?_
      clear hf; intro a hf
      refine dr_out 15 rfl (by kernel_rfl) (by kernel_rfl) (by kernel_rfl) (by kernel_rfl) rfl hf (by decide) rfl (wantN hf rfl rfl hb55) ⟨_, hp⟩ ?_
      clear hf; intro a hf
      refine dr_out 16 rfl (by kernel_rfl) (by kernel_rfl) (by kernel_rfl) (by kernel_rfl) rfl hf (by decide) rfl (wantN hf rfl rfl hb55) ⟨_, hp⟩ ?_
      clear hf; intro a hf
      refine dr_out 17 rfl (by kernel_rfl) (by kernel_rfl) (by kernel_rfl) (by kernel_rfl) rfl hf (by decide) rfl (wantN hf rfl rfl hb55) ⟨_, hp⟩ ?_
      clear hf; intro a hf
      refine dr_out 18 rfl (by kernel_rfl) (by kernel_rfl) (by kernel_rfl) (by kernel_rfl) rfl hf (by decide) rfl (wantN hf rfl rfl hb55) ⟨_, hp⟩ ?_
      clear hf; intro a hf
      refine dr_out 19 rfl (by kernel_rfl) (by kernel_rfl) (by kernel_rfl) (by kernel_rfl) rfl hf (by decide) rfl (wantN hf rfl rfl hb55) ⟨_, hp⟩ ?_
      clear hf; intro a hf
      refine dr_take 20 (.bool z61) rfl (by kernel_rfl) (by kernel_rfl) (by kernel_rfl) (by kernel_rfl) rfl rfl hf (by decide) rfl (fun w hp => ?_) ⟨_, hp⟩ ?_
      · obtain ⟨_, hp⟩ := hp
        refine st_pick (v := .bool z61) hf rfl rfl (fun _ => by rw [← hz54]; rfl) (fun hb' => absurd (hb55.symm.trans hb') (by decide)) (by decide) ?_
        clear hf; intro a ha hf
        exact st_nil hf (th_n ⟨ha, rfl⟩)
      clear hf; intro a hf
      refine dr_take 21 (.bool z61) rfl (by kernel_rfl) (by kernel_rfl) (by kernel_rfl) (by kernel_rfl) rfl rfl hf (by decide) rfl (fun w hp => ?_) ⟨_, hp⟩ ?_
      · obtain ⟨_, hp⟩ := hp
        refine st_move hf rfl rfl (by decide) ?_
        clear hf; intro a ha hf
        exact st_nil hf (th_n ⟨ha, rfl⟩)
      clear hf; intro a hf
      refine dr_out 22 rfl (by kernel_rfl) (by kernel_rfl) (by kernel_rfl) (by kernel_rfl) rfl hf (by decide) rfl (wantN hf rfl rfl hb63) ⟨_, hp⟩ ?_
      clear hf; intro a hf
      refine dr_out 23 rfl (by kernel_rfl) (by kernel_rfl) (by kernel_rfl) (by kernel_rfl) rfl hf (by decide) rfl (wantN hf rfl rfl hb63) ⟨_, hp⟩ ?_
      clear hf; intro a hf
      refine dr_out 24 rfl (by kernel_rfl) (by kernel_rfl) (by kernel_rfl) (by kernel_rfl) rfl hf (by decide) rfl (wantN hf rfl rfl hb63) ⟨_, hp⟩ ?_
      clear hf; intro a hf
      refine dr_out 25 rfl (by kernel_rfl) (by kernel_rfl) (by kernel_rfl) (by kernel_rfl) rfl hf (by decide) rfl (wantN hf rfl rfl hb63) ⟨_, hp⟩ ?_
      clear hf; intro a hf
      refine dr_out 26 rfl (by kernel_rfl) (by kernel_rfl) (by kernel_rfl) (by kernel_rfl) rfl hf (by decide) rfl (wantN hf rfl rfl hb63) ⟨_, hp⟩ ?_
      clear hf; intro a hf
      refine dr_out 27 rfl (by kernel_rfl) (by kernel_rfl) (by kernel_rfl) (by kernel_rfl) rfl hf (by decide) rfl (wantN hf rfl rfl hb63) ⟨_, hp⟩ ?_
      clear hf; intro a hf
      refine dr_take 28 (.bool z65) rfl (by kernel_rfl) (by kernel_rfl) (by kernel_rfl) (by kernel_rfl) rfl rfl hf (by decide) rfl (fun w hp => ?_) ⟨_, hp⟩ ?_
      · obtain ⟨_, hp⟩ := hp
        refine st_pick (v := .bool z65) hf rfl rfl (fun _ => by rw [← hz62]; rfl) (fun hb' => absurd (hb63.symm.trans hb') (by decide)) (by decide) ?_
        clear hf; intro a ha hf
        exact st_nil hf (th_n ⟨ha, rfl⟩)
      clear hf; intro a hf
      refine dr_take 29 (.bool z65) rfl (by kernel_rfl) (by kernel_rfl) (by kernel_rfl) (by kernel_rfl) rfl rfl hf (by decide) rfl (fun w hp => ?_) ⟨_, hp⟩ ?_
      · obtain ⟨_, hp⟩ := hp
        refine st_move hf rfl rfl (by decide) ?_
        clear hf; intro a ha hf
        exact st_nil hf (th_n ⟨ha, rfl⟩)
      clear hf; intro a hf
      refine dr_out 30 rfl (by kernel_rfl) (by kernel_rfl) (by kernel_rfl) (by kernel_rfl) rfl hf (by decide) rfl (wantN hf rfl rfl hb67) ⟨_, hp⟩ ?_
      clear hf; intro a hf
      refine dr_out 31 rfl (by kernel_rfl) (by kernel_rfl) (by kernel_rfl) (by kernel_rfl) rfl hf (by decide) rfl (wantN hf rfl rfl hb67) ⟨_, hp⟩ ?_
      clear hf; intro a hf
      refine dr_out 32 rfl (by kernel_rfl) (by kernel_rfl) (by kernel_rfl) (by kernel_rfl) rfl hf (by decide) rfl (wantN hf rfl rfl hb67) ⟨_, hp⟩ ?_
      clear hf; intro a hf
      refine dr_out 33 rfl (by kernel_rfl) (by kernel_rfl) (by kernel_rfl) (by kernel_rfl) rfl hf (by decide) rfl (wantN hf rfl rfl hb67) ⟨_, hp⟩ ?_
      clear hf; intro a hf
      refine dr_out 34 rfl (by kernel_rfl) (by kernel_rfl) (by kernel_rfl) (by kernel_rfl) rfl hf (by decide) rfl (wantN hf rfl rfl hb67) ⟨_, hp⟩ ?_
      clear hf; intro a hf
      refine dr_out 35 rfl (by kernel_rfl) (by kernel_rfl) (by kernel_rfl) (by kernel_rfl) rfl hf (by decide) rfl (wantN hf rfl rfl hb67) ⟨_, hp⟩ ?_
      clear hf; intro a hf
      refine dr_out 36 rfl (by kernel_rfl) (by kernel_rfl) (by kernel_rfl) (by kernel_rfl) rfl hf (by decide) rfl (wantN hf rfl rfl hb67) ⟨_, hp⟩ ?_
      clear hf; intro a hf
      refine dr_take 37 (.bool z73) rfl (by kernel_rfl) (by kernel_rfl) (by kernel_rfl) (by kernel_rfl) rfl rfl hf (by decide) rfl (fun w hp => ?_) ⟨_, hp⟩ ?_
      · obtain ⟨_, hp⟩ := hp
        refine st_pick (v := .bool z73) hf rfl rfl (fun _ => by rw [← hz66]; rfl) (fun hb' => absurd (hb67.symm.trans hb') (by decide)) (by decide) ?_
        clear hf; intro a ha hf
        exact st_nil hf (th_n ⟨ha, rfl⟩)
      clear hf; intro a hf
      refine dr_take 38 (.bool z73) rfl (by kernel_rfl) (by kernel_rfl) (by kernel_rfl) (by kernel_rfl) rfl rfl hf (by decide) rfl (fun w hp => ?_) ⟨_, hp⟩ ?_
      · obtain ⟨_, hp⟩ := hp
        refine st_move hf rfl rfl (by decide) ?_
        clear hf; intro a ha hf
        exact st_nil hf (th_n ⟨ha, rfl⟩)
      clear hf; intro a hf
      refine dr_out 39 rfl (by kernel_rfl) (by kernel_rfl) (by kernel_rfl) (by kernel_rfl) rfl hf (by decide) rfl (wantN hf rfl rfl hb75) ⟨_, hp⟩ ?_
      clear hf; intro a hf
      refine dr_out 40 rfl (by kernel_rfl) (by kernel_rfl) (by kernel_rfl) (by kernel_rfl) rfl hf (by decide) rfl (wantN hf rfl rfl hb75) ⟨_, hp⟩ ?_
      clear hf; intro a hf
      refine dr_out 41 rfl (by kernel_rfl) (by kernel_rfl) (by kernel_rfl) (by kernel_rfl) rfl hf (by decide) rfl (wantN hf rfl rfl hb75) ⟨_, hp⟩ ?_
      clear hf; intro a hf
      refine dr_out 42 rfl (by kernel_rfl) (by kernel_rfl) (by kernel_rfl) (by kernel_rfl) rfl hf (by decide) rfl (wantN hf rfl rfl hb75) ⟨_, hp⟩ ?_
      clear hf; intro a hf
      refine dr_out 43 rfl (by kernel_rfl) (by kernel_rfl) (by kernel_rfl) (by kernel_rfl) rfl hf (by decide) rfl (wantN hf rfl rfl hb75) ⟨_, hp⟩ ?_
      clear hf; intro a hf
      refine dr_out 44 rfl (by kernel_rfl) (by kernel_rfl) (by kernel_rfl) (by kernel_rfl) rfl hf (by decide) rfl (wantN hf rfl rfl hb75) ⟨_, hp⟩ ?_
      clear hf; intro a hf
      refine dr_take 45 (.bool z77) rfl (by kernel_rfl) (by kernel_rfl) (by kernel_rfl) (by kernel_rfl) rfl rfl hf (by decide) rfl (fun w hp => ?_) ⟨_, hp⟩ ?_
      · obtain ⟨_, hp⟩ := hp
        refine st_pick (v := .bool z77) hf rfl rfl (fun _ => by rw [← hz74]; rfl) (fun hb' => absurd (hb75.symm.trans hb') (by decide)) (by decide) ?_
        clear hf; intro a ha hf
        exact st_nil hf (th_n ⟨ha, rfl⟩)
      clear hf; intro a hf
      refine dr_take 46 (.bool z77) rfl (by kernel_rfl) (by kernel_rfl) (by kernel_rfl) (by kernel_rfl) rfl rfl hf (by decide) rfl (fun w hp => ?_) ⟨_, hp⟩ ?_
      · obtain ⟨_, hp⟩ := hp
        refine st_move hf rfl rfl (by decide) ?_
        clear hf; intro a ha hf
        exact st_nil hf (th_n ⟨ha, rfl⟩)
      clear hf; intro a hf
      refine dr_out 47 rfl (by kernel_rfl) (by kernel_rfl) (by kernel_rfl) (by kernel_rfl) rfl hf (by decide) rfl (wantN hf rfl rfl hb79) ⟨_, hp⟩ ?_
      clear hf; intro a hf
      refine dr_out 48 rfl (by kernel_rfl) (by kernel_rfl) (by kernel_rfl) (by kernel_rfl) rfl hf (by decide) rfl (wantN hf rfl rfl hb79) ⟨_, hp⟩ ?_
      clear hf; intro a hf
      refine dr_out 49 rfl (by kernel_rfl) (by kernel_rfl) (by kernel_rfl) (by kernel_rfl) rfl hf (by decide) rfl (wantN hf rfl rfl hb79) ⟨_, hp⟩ ?_
      clear hf; intro a hf
      refine dr_out 50 rfl (by kernel_rfl) (by kernel_rfl) (by kernel_rfl) (by kernel_rfl) rfl hf (by decide) rfl (wantN hf rfl rfl hb79) ⟨_, hp⟩ ?_
      clear hf; intro a hf
      refine dr_out 51 rfl (by kernel_rfl) (by kernel_rfl) (by kernel_rfl) (by kernel_rfl) rfl hf (by decide) rfl (wantN hf rfl rfl hb79) ⟨_, hp⟩ ?_
      clear hf; intro a hf
      refine dr_out 52 rfl (by kernel_rfl) (by kernel_rfl) (by kernel_rfl) (by kernel_rfl) rfl hf (by decide) rfl (wantN hf rfl rfl hb79) ⟨_, hp⟩ ?_
      clear hf; intro a hf
      refine dr_out 53 rfl (by kernel_rfl) (by kernel_rfl) (by kernel_rfl) (by kernel_rfl) rfl hf (by decide) rfl (wantN hf rfl rfl hb79) ⟨_, hp⟩ ?_
      clear hf; intro a hf
      refine dr_take 54 (.bool z85) rfl (by kernel_rfl) (by kernel_rfl) (by kernel_rfl) (by kernel_rfl) rfl rfl hf (by decide) rfl (fun w hp => ?_) ⟨_, hp⟩ ?_
      · obtain ⟨_, hp⟩ := hp
        refine st_pick (v := .bool z85) hf rfl rfl (fun _ => by rw [← hz78]; rfl) (fun hb' => absurd (hb79.symm.trans hb') (by decide)) (by decide) ?_
        clear hf; intro a ha hf
        exact st_nil hf (th_n ⟨ha, rfl⟩)
      clear hf; intro a hf
      refine dr_take 55 (.bool z85) rfl (by kernel_rfl) (by kernel_rfl) (by kernel_rfl) (by kernel_rfl) rfl rfl hf (by decide) rfl (fun w hp => ?_) ⟨_, hp⟩ ?_
      · obtain ⟨_, hp⟩ := hp
        refine st_move hf rfl rfl (by decide) ?_
        clear hf; intro a ha hf
        exact st_nil hf (th_n ⟨ha, rfl⟩)
      clear hf; intro a hf
      refine dr_out 56 rfl (by kernel_rfl) (by kernel_rfl) (by kernel_rfl) (by kernel_rfl) rfl hf (by decide) rfl (wantN hf rfl rfl hb87) ⟨_, hp⟩ ?_
      clear hf; intro a hf
      refine dr_out 57 rfl (by kernel_rfl) (by kernel_rfl) (by kernel_rfl) (by kernel_rfl) rfl hf (by decide) rfl (wantN hf rfl rfl hb87) ⟨_, hp⟩ ?_
      clear hf; intro a hf
      refine dr_out 58 rfl (by kernel_rfl) (by kernel_rfl) (by kernel_rfl) (by kernel_rfl) rfl hf (by decide) rfl (wantN hf rfl rfl hb87) ⟨_, hp⟩ ?_
      clear hf; intro a hf
      refine dr_out 59 rfl (by kernel_rfl) (by kernel_rfl) (by kernel_rfl) (by kernel_rfl) rfl hf (by decide) rfl (wantN hf rfl rfl hb87) ⟨_, hp⟩ ?_
      clear hf; intro a hf
      refine dr_out 60 rfl (by kernel_rfl) (by kernel_rfl) (by kernel_rfl) (by kernel_rfl) rfl hf (by decide) rfl (wantN hf rfl rfl hb87) ⟨_, hp⟩ ?_
      clear hf; intro a hf
      refine dr_out 61 rfl (by kernel_rfl) (by kernel_rfl) (by kernel_rfl) (by kernel_rfl) rfl hf (by decide) rfl (wantN hf rfl rfl hb87) ⟨_, hp⟩ ?_
      clear hf; intro a hf
      refine dr_out 62 rfl (by kernel_rfl) (by kernel_rfl) (by kernel_rfl) (by kernel_rfl) rfl hf (by decide) rfl (wantN hf rfl rfl hb87) ⟨_, hp⟩ ?_
      clear hf; intro a hf
      refine dr_take 63 (.bool z93) rfl (by kernel_rfl) (by kernel_rfl) (by kernel_rfl) (by kernel_rfl) rfl rfl hf (by decide) rfl (fun w hp => ?_) ⟨_, hp⟩ ?_
      · obtain ⟨_, hp⟩ := hp
        refine st_pick (v := .bool z93) hf rfl rfl (fun _ => by rw [← hz86]; rfl) (fun hb' => absurd (hb87.symm.trans hb') (by decide)) (by decide) ?_
        clear hf; intro a ha hf
        exact st_nil hf (th_n ⟨ha, rfl⟩)
      clear hf; intro a hf
      refine dr_take 64 (.bool z93) rfl (by kernel_rfl) (by kernel_rfl) (by kernel_rfl) (by kernel_rfl) rfl rfl hf (by decide) rfl (fun w hp => ?_) ⟨_, hp⟩ ?_
      · obtain ⟨_, hp⟩ := hp
        refine st_move hf rfl rfl (by decide) ?_
        clear hf; intro a ha hf
        exact st_nil hf (th_n ⟨ha, rfl⟩)
      clear hf; intro a hf
      refine dr_out 65 rfl (by kernel_rfl) (by kernel_rfl) (by kernel_rfl) (by kernel_rfl) rfl hf (by decide) rfl (wantN hf rfl rfl hb95) ⟨_, hp⟩ ?_
      clear hf; intro a hf
      refine dr_out 66 rfl (by kernel_rfl) (by kernel_rfl) (by kernel_rfl) (by kernel_rfl) rfl hf (by decide) rfl (wantN hf rfl rfl hb95) ⟨_, hp⟩ ?_
      clear hf; intro a hf
      refine dr_out 67 rfl (by kernel_rfl) (by kernel_rfl) (by kernel_rfl) (by kernel_rfl) rfl hf (by decide) rfl (wantN hf rfl rfl hb95) ⟨_, hp⟩ ?_
      clear hf; intro a hf
      refine dr_out 68 rfl (by kernel_rfl) (by kernel_rfl) (by kernel_rfl) (by kernel_rfl) rfl hf (by decide) rfl (wantN hf rfl rfl hb95) ⟨_, hp⟩ ?_
      clear hf; intro a hf
      refine dr_out 69 rfl (by kernel_rfl) (by kernel_rfl) (by kernel_rfl) (by kernel_rfl) rfl hf (by decide) rfl (wantN hf rfl rfl hb95) ⟨_, hp⟩ ?_
      clear hf; intro a hf
      refine dr_out 70 rfl (by kernel_rfl) (by kernel_rfl) (by kernel_rfl) (by kernel_rfl) rfl hf (by decide) rfl (wantN hf rfl rfl hb95) ⟨_, hp⟩ ?_
      clear hf; intro a hf
      refine dr_take 71 (.bool z97) rfl (by kernel_rfl) (by kernel_rfl) (by kernel_rfl) (by kernel_rfl) rfl rfl hf (by decide) rfl (fun w hp => ?_) ⟨_, hp⟩ ?_
      · obtain ⟨_, hp⟩ := hp
        refine st_pick (v := .bool z97) hf rfl rfl (fun _ => by rw [← hz94]; rfl) (fun hb' => absurd (hb95.symm.trans hb') (by decide)) (by decide) ?_
        clear hf; intro a ha hf
        exact st_nil hf (th_n ⟨ha, rfl⟩)
      clear hf; intro a hf
      refine dr_end (by kernel_rfl) ?_ _
      have hp := bk39 _ _ hp
      have hp := bk34 _ _ hp
      have hp := bk29 _ _ hp
      exact ⟨hf.sub ⟨rfl, rfl, rfl, rfl, rfl, trivial⟩, hp⟩
    skip
    replace hz54 := ifF hz54 hb55
    obtain ⟨hc56, hz54⟩ := chk hz54
    have hc57 : 0 ≤ ((qx0.length : Int)).toNat := by omega
    have hc58 : ((qx0.length : Int)).toNat ≤ ((([] : List Int) ++ qx0) ++ [(99 : Int)]).length := by omega
    obtain ⟨q59, hcall60, hz54⟩ := bnd hz54
    replace hz54 := Option.some.inj hz54
    rcases Bool.eq_false_or_eq_true z61 with hb63 | hb63
    · skip
      replace hz62 := ifT hz62 hb63
      replace hz62 := Option.some.inj hz62
      have hb67 : z65 = true := hz62.symm
      skip
      replace hz66 := ifT hz66 hb67
      replace hz66 := Option.some.inj hz66
      have hb75 : z73 = true := hz66.symm
      skip
      replace hz74 := ifT hz74 hb75
      replace hz74 := Option.some.inj hz74
      have hb79 : z77 = true := hz74.symm
      skip
      replace hz78 := ifT hz78 hb79
      replace hz78 := Option.some.inj hz78
      have hb87 : z85 = true := hz78.symm
      skip
      replace hz86 := ifT hz86 hb87
      replace hz86 := Option.some.inj hz86
      have hb95 : z93 = true := hz86.symm
      skip
      replace hz94 := ifT hz94 hb95
      replace hz94 := Option.some.inj hz94
      refine dr_begin' (fun a w => Fr 138 a [(0, vqx0), (1, vthere1), (7, v8), (8, v16), (98, .bool z97)] ∧ Hp S w0 w (Res.sl (Ek.int .u8) 5 v8 ((([] : List Int) ++ qx0) ++ [(99 : Int)]) :: Res.sl Ek.bool 4 v16 ((([] : List Bool) ++ there1) ++ [true]) :: Res.sl Ek.bool 4 v24 ((([] : List Bool) ++ bits2) ++ [true]) :: Res.sl Ek.bool 4 v21 ([true]) :: Res.sl Ek.bool 4 v13 ([true]) :: Res.sl (Ek.int .u8) 5 v5 ([(99 : Int)]) :: ow)) (fun w' => ∃ l, Hp S35 w w' l) [] (by kernel_rfl) ?_
      refine dr_take 0 (v8) rfl (by kernel_rfl) (by kernel_rfl) (by kernel_rfl) (by kernel_rfl) rfl rfl hf (by decide) rfl (fun w hp => ?_) ⟨_, hp⟩ ?_
      · obtain ⟨_, hp⟩ := hp
        refine st_move hf rfl rfl (by decide) ?_
        clear hf; intro a ha hf
        exact st_nil hf (th_n ⟨ha, rfl⟩)
      clear hf; intro a hf
      refine dr_take 1 (vqx0) rfl (by kernel_rfl) (by kernel_rfl) (by kernel_rfl) (by kernel_rfl) rfl rfl hf (by decide) rfl (fun w hp => ?_) ⟨_, hp⟩ ?_
      · obtain ⟨_, hp⟩ := hp
        refine st_move hf rfl rfl (by decide) ?_
        clear hf; intro a ha hf
        exact st_nil hf (th_n ⟨ha, rfl⟩)
      clear hf; intro a hf
      refine dr_take 2 (.int .i64 (qx0.length : Int)) rfl (by kernel_rfl) (by kernel_rfl) (by kernel_rfl) (by kernel_rfl) rfl rfl hf (by decide) rfl (fun w hp => ?_) ⟨_, hp⟩ ?_
      · obtain ⟨_, hp⟩ := hp
        refine st_len (E := (Ek.int .u8)) hf (by decide) Try.underlying22 rfl rfl (rl40.sl hp) ?_
        clear hf; intro a ha hf
        exact st_nil hf (th_n ⟨ha, rfl⟩)
      clear hf; intro a hf
      refine dr_take 3 ((GL.cut v8 0 (((qx0.length : Int)).toNat) 1)) rfl (by kernel_rfl) (by kernel_rfl) (by kernel_rfl) (by kernel_rfl) rfl rfl hf (by decide) rfl (fun w hp => ?_) ⟨_, hp⟩ ?_
      · obtain ⟨_, hp⟩ := hp
        refine st_cutS (E := (Ek.int .u8)) hf (by decide) Try.underlying22 elt5 rfl rfl (rl43.sl hp) (.inl ⟨rfl, rfl⟩) (.inr ⟨_, _, rfl, evI rfl (by omega)⟩) hc47 hc48 ?_
        clear hf; intro a ha hf
        exact st_nil hf (th_n ⟨ha, rfl⟩)
      clear hf; intro a hf
      refine dr_take 4 (v16) rfl (by kernel_rfl) (by kernel_rfl) (by kernel_rfl) (by kernel_rfl) rfl rfl hf (by decide) rfl (fun w hp => ?_) ⟨_, hp⟩ ?_
      · obtain ⟨_, hp⟩ := hp
        refine st_move hf rfl rfl (by decide) ?_
        clear hf; intro a ha hf
        exact st_nil hf (th_n ⟨ha, rfl⟩)
      clear hf; intro a hf
      refine dr_take 5 (vthere1) rfl (by kernel_rfl) (by kernel_rfl) (by kernel_rfl) (by kernel_rfl) rfl rfl hf (by decide) rfl (fun w hp => ?_) ⟨_, hp⟩ ?_
      · obtain ⟨_, hp⟩ := hp
        refine st_move hf rfl rfl (by decide) ?_
        clear hf; intro a ha hf
        exact st_nil hf (th_n ⟨ha, rfl⟩)
      clear hf; intro a hf
      refine dr_take 6 (.int .i64 (there1.length : Int)) rfl (by kernel_rfl) (by kernel_rfl) (by kernel_rfl) (by kernel_rfl) rfl rfl hf (by decide) rfl (fun w hp => ?_) ⟨_, hp⟩ ?_
      · obtain ⟨_, hp⟩ := hp
        refine st_len (E := Ek.bool) hf (by decide) Try.underlying27 rfl rfl (rl41.sl hp) ?_
        clear hf; intro a ha hf
        exact st_nil hf (th_n ⟨ha, rfl⟩)
      clear hf; intro a hf
      refine dr_take 7 ((GL.cut v16 0 (((there1.length : Int)).toNat) 1)) rfl (by kernel_rfl) (by kernel_rfl) (by kernel_rfl) (by kernel_rfl) rfl rfl hf (by decide) rfl (fun w hp => ?_) ⟨_, hp⟩ ?_
      · obtain ⟨_, hp⟩ := hp
        refine st_cutS (E := Ek.bool) hf (by decide) Try.underlying27 elt4 rfl rfl (rl44.sl hp) (.inl ⟨rfl, rfl⟩) (.inr ⟨_, _, rfl, evI rfl (by omega)⟩) hc50 hc51 ?_
        clear hf; intro a ha hf
        exact st_nil hf (th_n ⟨ha, rfl⟩)
      clear hf; intro a hf
      refine dr_take 8 (vqx0) rfl (by kernel_rfl) (by kernel_rfl) (by kernel_rfl) (by kernel_rfl) rfl rfl hf (by decide) rfl (fun w hp => ?_) ⟨_, hp⟩ ?_
      · obtain ⟨_, hp⟩ := hp
        refine st_move hf rfl rfl (by decide) ?_
        clear hf; intro a ha hf
        exact st_nil hf (th_n ⟨ha, rfl⟩)
      clear hf; intro a hf
      refine dr_take 9 (vthere1) rfl (by kernel_rfl) (by kernel_rfl) (by kernel_rfl) (by kernel_rfl) rfl rfl hf (by decide) rfl (fun w hp => ?_) ⟨_, hp⟩ ?_
      · obtain ⟨_, hp⟩ := hp
        refine st_move hf rfl rfl (by decide) ?_
        clear hf; intro a ha hf
        exact st_nil hf (th_n ⟨ha, rfl⟩)
      clear hf; intro a hf
      refine dr_one 10 rfl (by kernel_rfl) ?_
      refine st_call hf (by decide) Try.func15 rfl rfl rfl rfl rfl (f_foghornlaw06_rows_c hp _ _ (RdS.cut rl43 hc47 hc48) _ _ (RdS.cut rl44 hc50 hc51) _ _ rl40 _ _ rl41 hcall53) ?_
      rintro _ w ⟨rfl, hp0⟩
      clear hp; have hp := hp0; clear hp0
      replace hp : Hp _ _ _ (Res.sl Ek.bool 4 v21 ([true]) :: Res.sl Ek.bool 4 v13 ([true]) :: Res.sl (Ek.int .u8) 5 v5 ([(99 : Int)]) :: ow) := hp
      refine ⟨_, rfl, ?_⟩
      clear hf; intro a hf
      refine st_nil hf (th_n ⟨fun _ _ => ⟨_, hp⟩, ?_⟩)
      refine dr_take 11 (.bool (!q52)) rfl (by kernel_rfl) (by kernel_rfl) (by kernel_rfl) (by kernel_rfl) rfl rfl hf (by decide) rfl (fun w hp => ?_) ⟨_, hp⟩ ?_
      · obtain ⟨_, hp⟩ := hp
        refine st_not hf (by decide) rfl rfl ?_
        clear hf; intro a ha hf
        exact st_nil hf (th_n ⟨ha, rfl⟩)
      clear hf; intro a hf
      refine dr_take 12 (.bool (!q52)) rfl (by kernel_rfl) (by kernel_rfl) (by kernel_rfl) (by kernel_rfl) rfl rfl hf (by decide) rfl (fun w hp => ?_) ⟨_, hp⟩ ?_
      · obtain ⟨_, hp⟩ := hp
        refine st_move hf rfl rfl (by decide) ?_
        clear hf; intro a ha hf
        exact st_nil hf (th_n ⟨ha, rfl⟩)
      clear hf; intro a hf
      refine dr_take 13 (v8) rfl (by kernel_rfl) (by kernel_rfl) (by kernel_rfl) (by kernel_rfl) rfl rfl hf (by decide) (wantY hf rfl rfl hb55) (fun w hp => ?_) ⟨_, hp⟩ ?_
      · obtain ⟨_, hp⟩ := hp
        refine st_move hf (wantY hf rfl rfl hb55) rfl (by decide) ?_
        clear hf; intro a ha hf
        exact st_nil hf (th_n ⟨ha, rfl⟩)
      clear hf; intro a hf
      refine dr_take 14 (vqx0) rfl (by kernel_rfl) (by kernel_rfl) (by kernel_rfl) (by kernel_rfl) rfl rfl hf (by decide) (wantY hf rfl rfl hb55) (fun w hp => ?_) ⟨_, hp⟩ ?_
      · obtain ⟨_, hp⟩ := hp
        refine st_move hf (wantY hf rfl rfl hb55) rfl (by decide) ?_
        clear hf; intro a ha hf
        exact st_nil hf (th_n ⟨ha, rfl⟩)
      clear hf; intro a hf
      refine dr_take 15 (.int .i64 (qx0.length : Int)) rfl (by kernel_rfl) (by kernel_rfl) (by kernel_rfl) (by kernel_rfl) rfl rfl hf (by decide) (wantY hf rfl rfl hb55) (fun w hp => ?_) ⟨_, hp⟩ ?_
      · obtain ⟨_, hp⟩ := hp
        refine st_len (E := (Ek.int .u8)) hf (by decide) Try.underlying22 (wantY hf rfl rfl hb55) rfl (rl40.sl hp) ?_
        clear hf; intro a ha hf
        exact st_nil hf (th_n ⟨ha, rfl⟩)
      clear hf; intro a hf
      refine dr_take 16 ((GL.cut v8 0 (((qx0.length : Int)).toNat) 1)) rfl (by kernel_rfl) (by kernel_rfl) (by kernel_rfl) (by kernel_rfl) rfl rfl hf (by decide) (wantY hf rfl rfl hb55) (fun w hp => ?_) ⟨_, hp⟩ ?_
      · obtain ⟨_, hp⟩ := hp
        refine st_cutS (E := (Ek.int .u8)) hf (by decide) Try.underlying22 elt5 (wantY hf rfl rfl hb55) rfl (rl43.sl hp) (.inl ⟨rfl, rfl⟩) (.inr ⟨_, _, rfl, evI rfl (by omega)⟩) hc57 hc58 ?_
        clear hf; intro a ha hf
        exact st_nil hf (th_n ⟨ha, rfl⟩)
      clear hf; intro a hf
      refine dr_take 17 (vqx0) rfl (by kernel_rfl) (by kernel_rfl) (by kernel_rfl) (by kernel_rfl) rfl rfl hf (by decide) (wantY hf rfl rfl hb55) (fun w hp => ?_) ⟨_, hp⟩ ?_
      · obtain ⟨_, hp⟩ := hp
        refine st_move hf (wantY hf rfl rfl hb55) rfl (by decide) ?_
        clear hf; intro a ha hf
        exact st_nil hf (th_n ⟨ha, rfl⟩)
      clear hf; intro a hf
      refine dr_one 18 rfl (by kernel_rfl) ?_
      refine st_call hf (by decide) Try.func13 rfl rfl (wantY hf rfl rfl hb55) rfl rfl (f_foghornlaw06_quarters_c hp _ _ (RdS.cut rl43 hc57 hc58) _ _ rl40 hcall60) ?_
      rintro _ w ⟨rfl, hp0⟩
      clear hp; have hp := hp0; clear hp0
      replace hp : Hp _ _ _ (Res.sl Ek.bool 4 v21 ([true]) :: Res.sl Ek.bool 4 v13 ([true]) :: Res.sl (Ek.int .u8) 5 v5 ([(99 : Int)]) :: ow) := hp
      refine ⟨_, rfl, ?_⟩
      clear hf; intro a hf
      refine st_nil hf (th_n ⟨fun _ _ => ⟨_, hp⟩, ?_⟩)
      refine dr_take 19 (.bool (!q59)) rfl (by kernel_rfl) (by kernel_rfl) (by kernel_rfl) (by kernel_rfl) rfl rfl hf (by decide) (wantY hf rfl rfl hb55) (fun w hp => ?_) ⟨_, hp⟩ ?_
      · obtain ⟨_, hp⟩ := hp
        refine st_not hf (by decide) (wantY hf rfl rfl hb55) rfl ?_
        clear hf; intro a ha hf
        exact st_nil hf (th_n ⟨ha, rfl⟩)
      clear hf; intro a hf
      refine dr_take 20 (.bool z61) rfl (by kernel_rfl) (by kernel_rfl) (by kernel_rfl) (by kernel_rfl) rfl rfl hf (by decide) rfl (fun w hp => ?_) ⟨_, hp⟩ ?_
      · obtain ⟨_, hp⟩ := hp
        refine st_pick (v := .bool z61) hf rfl rfl (fun hb' => absurd (hb55.symm.trans hb') (by decide)) (fun _ => by rw [← hz54]; rfl) (by decide) ?_
        clear hf; intro a ha hf
        exact st_nil hf (th_n ⟨ha, rfl⟩)
      clear hf; intro a hf
      refine dr_take 21 (.bool z61) rfl (by kernel_rfl) (by kernel_rfl) (by kernel_rfl) (by kernel_rfl) rfl rfl hf (by decide) rfl (fun w hp => ?_) ⟨_, hp⟩ ?_
      · obtain ⟨_, hp⟩ := hp
        refine st_move hf rfl rfl (by decide) ?_
        clear hf; intro a ha hf
        exact st_nil hf (th_n ⟨ha, rfl⟩)
      clear hf; intro a hf
      refine dr_out 22 rfl (by kernel_rfl) (by kernel_rfl) (by kernel_rfl) (by kernel_rfl) rfl hf (by decide) rfl (wantN hf rfl rfl hb63) ⟨_, hp⟩ ?_
      clear hf; intro a hf
      refine dr_out 23 rfl (by kernel_rfl) (by kernel_rfl) (by kernel_rfl) (by kernel_rfl) rfl hf (by decide) rfl (wantN hf rfl rfl hb63) ⟨_, hp⟩ ?_
      clear hf; intro a hf
      refine dr_out 24 rfl (by kernel_rfl) (by kernel_rfl) (by kernel_rfl) (by kernel_rfl) rfl hf (by decide) rfl (wantN hf rfl rfl hb63) ⟨_, hp⟩ ?_
      clear hf; intro a hf
      refine dr_out 25 rfl (by kernel_rfl) (by kernel_rfl) (by kernel_rfl) (by kernel_rfl) rfl hf (by decide) rfl (wantN hf rfl rfl hb63) ⟨_, hp⟩ ?_
      clear hf; intro a hf
      refine dr_out 26 rfl (by kernel_rfl) (by kernel_rfl) (by kernel_rfl) (by kernel_rfl) rfl hf (by decide) rfl (wantN hf rfl rfl hb63) ⟨_, hp⟩ ?_
      clear hf; intro a hf
      refine dr_out 27 rfl (by kernel_rfl) (by kernel_rfl) (by kernel_rfl) (by kernel_rfl) rfl hf (by decide) rfl (wantN hf rfl rfl hb63) ⟨_, hp⟩ ?_
      clear hf; intro a hf
      refine dr_take 28 (.bool z65) rfl (by kernel_rfl) (by kernel_rfl) (by kernel_rfl) (by kernel_rfl) rfl rfl hf (by decide) rfl (fun w hp => ?_) ⟨_, hp⟩ ?_
      · obtain ⟨_, hp⟩ := hp
        refine st_pick (v := .bool z65) hf rfl rfl (fun _ => by rw [← hz62]; rfl) (fun hb' => absurd (hb63.symm.trans hb') (by decide)) (by decide) ?_
        clear hf; intro a ha hf
        exact st_nil hf (th_n ⟨ha, rfl⟩)
      clear hf; intro a hf
      refine dr_take 29 (.bool z65) rfl (by kernel_rfl) (by kernel_rfl) (by kernel_rfl) (by kernel_rfl) rfl rfl hf (by decide) rfl (fun w hp => ?_) ⟨_, hp⟩ ?_
      · obtain ⟨_, hp⟩ := hp
        refine st_move hf rfl rfl (by decide) ?_
        clear hf; intro a ha hf
        exact st_nil hf (th_n ⟨ha, rfl⟩)
      clear hf; intro a hf
      refine dr_out 30 rfl (by kernel_rfl) (by kernel_rfl) (by kernel_rfl) (by kernel_rfl) rfl hf (by decide) rfl (wantN hf rfl rfl hb67) ⟨_, hp⟩ ?_
      clear hf; intro a hf
      refine dr_out 31 rfl (by kernel_rfl) (by kernel_rfl) (by kernel_rfl) (by kernel_rfl) rfl hf (by decide) rfl (wantN hf rfl rfl hb67) ⟨_, hp⟩ ?_
      clear hf; intro a hf
      refine dr_out 32 rfl (by kernel_rfl) (by kernel_rfl) (by kernel_rfl) (by kernel_rfl) rfl hf (by decide) rfl (wantN hf rfl rfl hb67) ⟨_, hp⟩ ?_
      clear hf; intro a hf
      refine dr_out 33 rfl (by kernel_rfl) (by kernel_rfl) (by kernel_rfl) (by kernel_rfl) rfl hf (by decide) rfl (wantN hf rfl rfl hb67) ⟨_, hp⟩ ?_
      clear hf; intro a hf
      refine dr_out 34 rfl (by kernel_rfl) (by kernel_rfl) (by kernel_rfl) (by kernel_rfl) rfl hf (by decide) rfl (wantN hf rfl rfl hb67) ⟨_, hp⟩ ?_
      clear hf; intro a hf
      refine dr_out 35 rfl (by kernel_rfl) (by kernel_rfl) (by kernel_rfl) (by kernel_rfl) rfl hf (by decide) rfl (wantN hf rfl rfl hb67) ⟨_, hp⟩ ?_
      clear hf; intro a hf
      refine dr_out 36 rfl (by kernel_rfl) (by kernel_rfl) (by kernel_rfl) (by kernel_rfl) rfl hf (by decide) rfl (wantN hf rfl rfl hb67) ⟨_, hp⟩ ?_
      clear hf; intro a hf
      refine dr_take 37 (.bool z73) rfl (by kernel_rfl) (by kernel_rfl) (by kernel_rfl) (by kernel_rfl) rfl rfl hf (by decide) rfl (fun w hp => ?_) ⟨_, hp⟩ ?_
      · obtain ⟨_, hp⟩ := hp
        refine st_pick (v := .bool z73) hf rfl rfl (fun _ => by rw [← hz66]; rfl) (fun hb' => absurd (hb67.symm.trans hb') (by decide)) (by decide) ?_
        clear hf; intro a ha hf
        exact st_nil hf (th_n ⟨ha, rfl⟩)
      clear hf; intro a hf
      refine dr_take 38 (.bool z73) rfl (by kernel_rfl) (by kernel_rfl) (by kernel_rfl) (by kernel_rfl) rfl rfl hf (by decide) rfl (fun w hp => ?_) ⟨_, hp⟩ ?_
      · obtain ⟨_, hp⟩ := hp
        refine st_move hf rfl rfl (by decide) ?_
        clear hf; intro a ha hf
        exact st_nil hf (th_n ⟨ha, rfl⟩)
      clear hf; intro a hf
      refine dr_out 39 rfl (by kernel_rfl) (by kernel_rfl) (by kernel_rfl) (by kernel_rfl) rfl hf (by decide) rfl (wantN hf rfl rfl hb75) ⟨_, hp⟩ ?_
      clear hf; intro a hf
      refine dr_out 40 rfl (by kernel_rfl) (by kernel_rfl) (by kernel_rfl) (by kernel_rfl) rfl hf (by decide) rfl (wantN hf rfl rfl hb75) ⟨_, hp⟩ ?_
      clear hf; intro a hf
      refine dr_out 41 rfl (by kernel_rfl) (by kernel_rfl) (by kernel_rfl) (by kernel_rfl) rfl hf (by decide) rfl (wantN hf rfl rfl hb75) ⟨_, hp⟩ ?_
      clear hf; intro a hf
      refine dr_out 42 rfl (by kernel_rfl) (by kernel_rfl) (by kernel_rfl) (by kernel_rfl) rfl hf (by decide) rfl (wantN hf rfl rfl hb75) ⟨_, hp⟩ ?_
      clear hf; intro a hf
      refine dr_out 43 rfl (by kernel_rfl) (by kernel_rfl) (by kernel_rfl) (by kernel_rfl) rfl hf (by decide) rfl (wantN hf rfl rfl hb75) ⟨_, hp⟩ ?_
      clear hf; intro a hf
      refine dr_out 44 rfl (by kernel_rfl) (by kernel_rfl) (by kernel_rfl) (by kernel_rfl) rfl hf (by decide) rfl (wantN hf rfl rfl hb75) ⟨_, hp⟩ ?_
      clear hf; intro a hf
      refine dr_take 45 (.bool z77) rfl (by kernel_rfl) (by kernel_rfl) (by kernel_rfl) (by kernel_rfl) rfl rfl hf (by decide) rfl (fun w hp => ?_) ⟨_, hp⟩ ?_
      · obtain ⟨_, hp⟩ := hp
        refine st_pick (v := .bool z77) hf rfl rfl (fun _ => by rw [← hz74]; rfl) (fun hb' => absurd (hb75.symm.trans hb') (by decide)) (by decide) ?_
        clear hf; intro a ha hf
        exact st_nil hf (th_n ⟨ha, rfl⟩)
      clear hf; intro a hf
      refine dr_take 46 (.bool z77) rfl (by kernel_rfl) (by kernel_rfl) (by kernel_rfl) (by kernel_rfl) rfl rfl hf (by decide) rfl (fun w hp => ?_) ⟨_, hp⟩ ?_
      · obtain ⟨_, hp⟩ := hp
        refine st_move hf rfl rfl (by decide) ?_
        clear hf; intro a ha hf
        exact st_nil hf (th_n ⟨ha, rfl⟩)
      clear hf; intro a hf
      refine dr_out 47 rfl (by kernel_rfl) (by kernel_rfl) (by kernel_rfl) (by kernel_rfl) rfl hf (by decide) rfl (wantN hf rfl rfl hb79) ⟨_, hp⟩ ?_
      clear hf; intro a hf
      refine dr_out 48 rfl (by kernel_rfl) (by kernel_rfl) (by kernel_rfl) (by kernel_rfl) rfl hf (by decide) rfl (wantN hf rfl rfl hb79) ⟨_, hp⟩ ?_
      clear hf; intro a hf
      refine dr_out 49 rfl (by kernel_rfl) (by kernel_rfl) (by kernel_rfl) (by kernel_rfl) rfl hf (by decide) rfl (wantN hf rfl rfl hb79) ⟨_, hp⟩ ?_
      clear hf; intro a hf
      refine dr_out 50 rfl (by kernel_rfl) (by kernel_rfl) (by kernel_rfl) (by kernel_rfl) rfl hf (by decide) rfl (wantN hf rfl rfl hb79) ⟨_, hp⟩ ?_
      clear hf; intro a hf
      refine dr_out 51 rfl (by kernel_rfl) (by kernel_rfl) (by kernel_rfl) (by kernel_rfl) rfl hf (by decide) rfl (wantN hf rfl rfl hb79) ⟨_, hp⟩ ?_
      clear hf; intro a hf
      refine dr_out 52 rfl (by kernel_rfl) (by kernel_rfl) (by kernel_rfl) (by kernel_rfl) rfl hf (by decide) rfl (wantN hf rfl rfl hb79) ⟨_, hp⟩ ?_
      clear hf; intro a hf
      refine dr_out 53 rfl (by kernel_rfl) (by kernel_rfl) (by kernel_rfl) (by kernel_rfl) rfl hf (by decide) rfl (wantN hf rfl rfl hb79) ⟨_, hp⟩ ?_
      clear hf; intro a hf
      refine dr_take 54 (.bool z85) rfl (by kernel_rfl) (by kernel_rfl) (by kernel_rfl) (by kernel_rfl) rfl rfl hf (by decide) rfl (fun w hp => ?_) ⟨_, hp⟩ ?_
      · obtain ⟨_, hp⟩ := hp
        refine st_pick (v := .bool z85) hf rfl rfl (fun _ => by rw [← hz78]; rfl) (fun hb' => absurd (hb79.symm.trans hb') (by decide)) (by decide) ?_
        clear hf; intro a ha hf
        exact st_nil hf (th_n ⟨ha, rfl⟩)
      clear hf; intro a hf
      refine dr_take 55 (.bool z85) rfl (by kernel_rfl) (by kernel_rfl) (by kernel_rfl) (by kernel_rfl) rfl rfl hf (by decide) rfl (fun w hp => ?_) ⟨_, hp⟩ ?_
      · obtain ⟨_, hp⟩ := hp
        refine st_move hf rfl rfl (by decide) ?_
        clear hf; intro a ha hf
        exact st_nil hf (th_n ⟨ha, rfl⟩)
      clear hf; intro a hf
      refine dr_out 56 rfl (by kernel_rfl) (by kernel_rfl) (by kernel_rfl) (by kernel_rfl) rfl hf (by decide) rfl (wantN hf rfl rfl hb87) ⟨_, hp⟩ ?_
      clear hf; intro a hf
      refine dr_out 57 rfl (by kernel_rfl) (by kernel_rfl) (by kernel_rfl) (by kernel_rfl) rfl hf (by decide) rfl (wantN hf rfl rfl hb87) ⟨_, hp⟩ ?_
      clear hf; intro a hf
      refine dr_out 58 rfl (by kernel_rfl) (by kernel_rfl) (by kernel_rfl) (by kernel_rfl) rfl hf (by decide) rfl (wantN hf rfl rfl hb87) ⟨_, hp⟩ ?_
      clear hf; intro a hf
      refine dr_out 59 rfl (by kernel_rfl) (by kernel_rfl) (by kernel_rfl) (by kernel_rfl) rfl hf (by decide) rfl (wantN hf rfl rfl hb87) ⟨_, hp⟩ ?_
      clear hf; intro a hf
      refine dr_out 60 rfl (by kernel_rfl) (by kernel_rfl) (by kernel_rfl) (by kernel_rfl) rfl hf (by decide) rfl (wantN hf rfl rfl hb87) ⟨_, hp⟩ ?_
      clear hf; intro a hf
      refine dr_out 61 rfl (by kernel_rfl) (by kernel_rfl) (by kernel_rfl) (by kernel_rfl) rfl hf (by decide) rfl (wantN hf rfl rfl hb87) ⟨_, hp⟩ ?_
      clear hf; intro a hf
      refine dr_out 62 rfl (by kernel_rfl) (by kernel_rfl) (by kernel_rfl) (by kernel_rfl) rfl hf (by decide) rfl (wantN hf rfl rfl hb87) ⟨_, hp⟩ ?_
      clear hf; intro a hf
      refine dr_take 63 (.bool z93) rfl (by kernel_rfl) (by kernel_rfl) (by kernel_rfl) (by kernel_rfl) rfl rfl hf (by decide) rfl (fun w hp => ?_) ⟨_, hp⟩ ?_
      · obtain ⟨_, hp⟩ := hp
        refine st_pick (v := .bool z93) hf rfl rfl (fun _ => by rw [← hz86]; rfl) (fun hb' => absurd (hb87.symm.trans hb') (by decide)) (by decide) ?_
        clear hf; intro a ha hf
        exact st_nil hf (th_n ⟨ha, rfl⟩)
      clear hf; intro a hf
      refine dr_take 64 (.bool z93) rfl (by kernel_rfl) (by kernel_rfl) (by kernel_rfl) (by kernel_rfl) rfl rfl hf (by decide) rfl (fun w hp => ?_) ⟨_, hp⟩ ?_
      · obtain ⟨_, hp⟩ := hp
        refine st_move hf rfl rfl (by decide) ?_
        clear hf; intro a ha hf
        exact st_nil hf (th_n ⟨ha, rfl⟩)
      clear hf; intro a hf
      refine dr_out 65 rfl (by kernel_rfl) (by kernel_rfl) (by kernel_rfl) (by kernel_rfl) rfl hf (by decide) rfl (wantN hf rfl rfl hb95) ⟨_, hp⟩ ?_
      clear hf; intro a hf
      refine dr_out 66 rfl (by kernel_rfl) (by kernel_rfl) (by kernel_rfl) (by kernel_rfl) rfl hf (by decide) rfl (wantN hf rfl rfl hb95) ⟨_, hp⟩ ?_
      clear hf; intro a hf
      refine dr_out 67 rfl (by kernel_rfl) (by kernel_rfl) (by kernel_rfl) (by kernel_rfl) rfl hf (by decide) rfl (wantN hf rfl rfl hb95) ⟨_, hp⟩ ?_
      clear hf; intro a hf
      refine dr_out 68 rfl (by kernel_rfl) (by kernel_rfl) (by kernel_rfl) (by kernel_rfl) rfl hf (by decide) rfl (wantN hf rfl rfl hb95) ⟨_, hp⟩ ?_
      clear hf; intro a hf
      refine dr_out 69 rfl (by kernel_rfl) (by kernel_rfl) (by kernel_rfl) (by kernel_rfl) rfl hf (by decide) rfl (wantN hf rfl rfl hb95) ⟨_, hp⟩ ?_
      clear hf; intro a hf
      refine dr_out 70 rfl (by kernel_rfl) (by kernel_rfl) (by kernel_rfl) (by kernel_rfl) rfl hf (by decide) rfl (wantN hf rfl rfl hb95) ⟨_, hp⟩ ?_
      clear hf; intro a hf
      refine dr_take 71 (.bool z97) rfl (by kernel_rfl) (by kernel_rfl) (by kernel_rfl) (by kernel_rfl) rfl rfl hf (by decide) rfl (fun w hp => ?_) ⟨_, hp⟩ ?_
      · obtain ⟨_, hp⟩ := hp
        refine st_pick (v := .bool z97) hf rfl rfl (fun _ => by rw [← hz94]; rfl) (fun hb' => absurd (hb95.symm.trans hb') (by decide)) (by decide) ?_
        clear hf; intro a ha hf
        exact st_nil hf (th_n ⟨ha, rfl⟩)
      clear hf; intro a hf
      refine dr_end (by kernel_rfl) ?_ _
      have hp := bk39 _ _ hp
      have hp := bk34 _ _ hp
      have hp := bk29 _ _ hp
      exact ⟨hf.sub ⟨rfl, rfl, rfl, rfl, rfl, trivial⟩, hp⟩
    skip
    replace hz62 := ifF hz62 hb63
    obtain ⟨hc64, hz62⟩ := chk hz62
    replace hz62 := Option.some.inj hz62
    rcases Bool.eq_false_or_eq_true z65 with hb67 | hb67
    · skip
      replace hz66 := ifT hz66 hb67
      replace hz66 := Option.some.inj hz66
      have hb75 : z73 = true := hz66.symm
      skip
      replace hz74 := ifT hz74 hb75
      replace hz74 := Option.some.inj hz74
      have hb79 : z77 = true := hz74.symm
      skip
      replace hz78 := ifT hz78 hb79
      replace hz78 := Option.some.inj hz78
      have hb87 : z85 = true := hz78.symm
      skip
      replace hz86 := ifT hz86 hb87
      replace hz86 := Option.some.inj hz86
      have hb95 : z93 = true := hz86.symm
      skip
      replace hz94 := ifT hz94 hb95
      replace hz94 := Option.some.inj hz94
      refine dr_begin' (fun a w => Fr 138 a [(0, vqx0), (1, vthere1), (7, v8), (8, v16), (98, .bool z97)] ∧ Hp S w0 w (Res.sl (Ek.int .u8) 5 v8 ((([] : List Int) ++ qx0) ++ [(99 : Int)]) :: Res.sl Ek.bool 4 v16 ((([] : List Bool) ++ there1) ++ [true]) :: Res.sl Ek.bool 4 v24 ((([] : List Bool) ++ bits2) ++ [true]) :: Res.sl Ek.bool 4 v21 ([true]) :: Res.sl Ek.bool 4 v13 ([true]) :: Res.sl (Ek.int .u8) 5 v5 ([(99 : Int)]) :: ow)) (fun w' => ∃ l, Hp S35 w w' l) [] (by kernel_rfl) ?_
      refine dr_take 0 (v8) rfl (by kernel_rfl) (by kernel_rfl) (by kernel_rfl) (by kernel_rfl) rfl rfl hf (by decide) rfl (fun w hp => ?_) ⟨_, hp⟩ ?_
      · obtain ⟨_, hp⟩ := hp
        refine st_move hf rfl rfl (by decide) ?_
        clear hf; intro a ha hf
        exact st_nil hf (th_n ⟨ha, rfl⟩)
      clear hf; intro a hf
      refine dr_take 1 (vqx0) rfl (by kernel_rfl) (by kernel_rfl) (by kernel_rfl) (by kernel_rfl) rfl rfl hf (by decide) rfl (fun w hp => ?_) ⟨_, hp⟩ ?_
      · obtain ⟨_, hp⟩ := hp
        refine st_move hf rfl rfl (by decide) ?_
        clear hf; intro a ha hf
        exact st_nil hf (th_n ⟨ha, rfl⟩)
      clear hf; intro a hf
      refine dr_take 2 (.int .i64 (qx0.length : Int)) rfl (by kernel_rfl) (by kernel_rfl) (by kernel_rfl) (by kernel_rfl) rfl rfl hf (by decide) rfl (fun w hp => ?_) ⟨_, hp⟩ ?_
      · obtain ⟨_, hp⟩ := hp
        refine st_len (E := (Ek.int .u8)) hf (by decide) Try.underlying22 rfl rfl (rl40.sl hp) ?_
        clear hf; intro a ha hf
        exact st_nil hf (th_n ⟨ha, rfl⟩)
      clear hf; intro a hf
      refine dr_take 3 ((GL.cut v8 0 (((qx0.length : Int)).toNat) 1)) rfl (by kernel_rfl) (by kernel_rfl) (by kernel_rfl) (by kernel_rfl) rfl rfl hf (by decide) rfl (fun w hp => ?_) ⟨_, hp⟩ ?_
      · obtain ⟨_, hp⟩ := hp
        refine st_cutS (E := (Ek.int .u8)) hf (by decide) Try.underlying22 elt5 rfl rfl (rl43.sl hp) (.inl ⟨rfl, rfl⟩) (.inr ⟨_, _, rfl, evI rfl (by omega)⟩) hc47 hc48 ?_
        clear hf; intro a ha hf
        exact st_nil hf (th_n ⟨ha, rfl⟩)
      clear hf; intro a hf
      refine dr_take 4 (v16) rfl (by kernel_rfl) (by kernel_rfl) (by kernel_rfl) (by kernel_rfl) rfl rfl hf (by decide) rfl (fun w hp => ?_) ⟨_, hp⟩ ?_
      · obtain ⟨_, hp⟩ := hp
        refine st_move hf rfl rfl (by decide) ?_
        clear hf; intro a ha hf
        exact st_nil hf (th_n ⟨ha, rfl⟩)
      clear hf; intro a hf
      refine dr_take 5 (vthere1) rfl (by kernel_rfl) (by kernel_rfl) (by kernel_rfl) (by kernel_rfl) rfl rfl hf (by decide) rfl (fun w hp => ?_) ⟨_, hp⟩ ?_
      · obtain ⟨_, hp⟩ := hp
        refine st_move hf rfl rfl (by decide) ?_
        clear hf; intro a ha hf
        exact st_nil hf (th_n ⟨ha, rfl⟩)
      clear hf; intro a hf
      refine dr_take 6 (.int .i64 (there1.length : Int)) rfl (by kernel_rfl) (by kernel_rfl) (by kernel_rfl) (by kernel_rfl) rfl rfl hf (by decide) rfl (fun w hp => ?_) ⟨_, hp⟩ ?_
      · obtain ⟨_, hp⟩ := hp
        refine st_len (E := Ek.bool) hf (by decide) Try.underlying27 rfl rfl (rl41.sl hp) ?_
        clear hf; intro a ha hf
        exact st_nil hf (th_n ⟨ha, rfl⟩)
      clear hf; intro a hf
      refine dr_take 7 ((GL.cut v16 0 (((there1.length : Int)).toNat) 1)) rfl (by kernel_rfl) (by kernel_rfl) (by kernel_rfl) (by kernel_rfl) rfl rfl hf (by decide) rfl (fun w hp => ?_) ⟨_, hp⟩ ?_
      · obtain ⟨_, hp⟩ := hp
        refine st_cutS (E := Ek.bool) hf (by decide) Try.underlying27 elt4 rfl rfl (rl44.sl hp) (.inl ⟨rfl, rfl⟩) (.inr ⟨_, _, rfl, evI rfl (by omega)⟩) hc50 hc51 ?_
        clear hf; intro a ha hf
        exact st_nil hf (th_n ⟨ha, rfl⟩)
      clear hf; intro a hf
      refine dr_take 8 (vqx0) rfl (by kernel_rfl) (by kernel_rfl) (by kernel_rfl) (by kernel_rfl) rfl rfl hf (by decide) rfl (fun w hp => ?_) ⟨_, hp⟩ ?_
      · obtain ⟨_, hp⟩ := hp
        refine st_move hf rfl rfl (by decide) ?_
        clear hf; intro a ha hf
        exact st_nil hf (th_n ⟨ha, rfl⟩)
      clear hf; intro a hf
      refine dr_take 9 (vthere1) rfl (by kernel_rfl) (by kernel_rfl) (by kernel_rfl) (by kernel_rfl) rfl rfl hf (by decide) rfl (fun w hp => ?_) ⟨_, hp⟩ ?_
      · obtain ⟨_, hp⟩ := hp
        refine st_move hf rfl rfl (by decide) ?_
        clear hf; intro a ha hf
        exact st_nil hf (th_n ⟨ha, rfl⟩)
      clear hf; intro a hf
      refine dr_one 10 rfl (by kernel_rfl) ?_
      refine st_call hf (by decide) Try.func15 rfl rfl rfl rfl rfl (f_foghornlaw06_rows_c hp _ _ (RdS.cut rl43 hc47 hc48) _ _ (RdS.cut rl44 hc50 hc51) _ _ rl40 _ _ rl41 hcall53) ?_
      rintro _ w ⟨rfl, hp0⟩
      clear hp; have hp := hp0; clear hp0
      replace hp : Hp _ _ _ (Res.sl Ek.bool 4 v21 ([true]) :: Res.sl Ek.bool 4 v13 ([true]) :: Res.sl (Ek.int .u8) 5 v5 ([(99 : Int)]) :: ow) := hp
      refine ⟨_, rfl, ?_⟩
      clear hf; intro a hf
      refine st_nil hf (th_n ⟨fun _ _ => ⟨_, hp⟩, ?_⟩)
      refine dr_take 11 (.bool (!q52)) rfl (by kernel_rfl) (by kernel_rfl) (by kernel_rfl) (by kernel_rfl) rfl rfl hf (by decide) rfl (fun w hp => ?_) ⟨_, hp⟩ ?_
      · obtain ⟨_, hp⟩ := hp
        refine st_not hf (by decide) rfl rfl ?_
        clear hf; intro a ha hf
        exact st_nil hf (th_n ⟨ha, rfl⟩)
      clear hf; intro a hf
      refine dr_take 12 (.bool (!q52)) rfl (by kernel_rfl) (by kernel_rfl) (by kernel_rfl) (by kernel_rfl) rfl rfl hf (by decide) rfl (fun w hp => ?_) ⟨_, hp⟩ ?_
      · obtain ⟨_, hp⟩ := hp
        refine st_move hf rfl rfl (by decide) ?_
        clear hf; intro a ha hf
        exact st_nil hf (th_n ⟨ha, rfl⟩)
      clear hf; intro a hf
      refine dr_take 13 (v8) rfl (by kernel_rfl) (by kernel_rfl) (by kernel_rfl) (by kernel_rfl) rfl rfl hf (by decide) (wantY hf rfl rfl hb55) (fun w hp => ?_) ⟨_, hp⟩ ?_
      · obtain ⟨_, hp⟩ := hp
        refine st_move hf (wantY hf rfl rfl hb55) rfl (by decide) ?_
        clear hf; intro a ha hf
        exact st_nil hf (th_n ⟨ha, rfl⟩)
      clear hf; intro a hf
      refine dr_take 14 (vqx0) rfl (by kernel_rfl) (by kernel_rfl) (by kernel_rfl) (by kernel_rfl) rfl rfl hf (by decide) (wantY hf rfl rfl hb55) (fun w hp => ?_) ⟨_, hp⟩ ?_
      · obtain ⟨_, hp⟩ := hp
        refine st_move hf (wantY hf rfl rfl hb55) rfl (by decide) ?_
        clear hf; intro a ha hf
        exact st_nil hf (th_n ⟨ha, rfl⟩)
      clear hf; intro a hf
      refine dr_take 15 (.int .i64 (qx0.length : Int)) rfl (by kernel_rfl) (by kernel_rfl) (by kernel_rfl) (by kernel_rfl) rfl rfl hf (by decide) (wantY hf rfl rfl hb55) (fun w hp => ?_) ⟨_, hp⟩ ?_
      · obtain ⟨_, hp⟩ := hp
        refine st_len (E := (Ek.int .u8)) hf (by decide) Try.underlying22 (wantY hf rfl rfl hb55) rfl (rl40.sl hp) ?_
        clear hf; intro a ha hf
        exact st_nil hf (th_n ⟨ha, rfl⟩)
      clear hf; intro a hf
      refine dr_take 16 ((GL.cut v8 0 (((qx0.length : Int)).toNat) 1)) rfl (by kernel_rfl) (by kernel_rfl) (by kernel_rfl) (by kernel_rfl) rfl rfl hf (by decide) (wantY hf rfl rfl hb55) (fun w hp => ?_) ⟨_, hp⟩ ?_
      · obtain ⟨_, hp⟩ := hp
        refine st_cutS (E := (Ek.int .u8)) hf (by decide) Try.underlying22 elt5 (wantY hf rfl rfl hb55) rfl (rl43.sl hp) (.inl ⟨rfl, rfl⟩) (.inr ⟨_, _, rfl, evI rfl (by omega)⟩) hc57 hc58 ?_
        clear hf; intro a ha hf
        exact st_nil hf (th_n ⟨ha, rfl⟩)
      clear hf; intro a hf
      refine dr_take 17 (vqx0) rfl (by kernel_rfl) (by kernel_rfl) (by kernel_rfl) (by kernel_rfl) rfl rfl hf (by decide) (wantY hf rfl rfl hb55) (fun w hp => ?_) ⟨_, hp⟩ ?_
      · obtain ⟨_, hp⟩ := hp
        refine st_move hf (wantY hf rfl rfl hb55) rfl (by decide) ?_
        clear hf; intro a ha hf
        exact st_nil hf (th_n ⟨ha, rfl⟩)
      clear hf; intro a hf
      refine dr_one 18 rfl (by kernel_rfl) ?_
      refine st_call hf (by decide) Try.func13 rfl rfl (wantY hf rfl rfl hb55) rfl rfl (f_foghornlaw06_quarters_c hp _ _ (RdS.cut rl43 hc57 hc58) _ _ rl40 hcall60) ?_
      rintro _ w ⟨rfl, hp0⟩
      clear hp; have hp := hp0; clear hp0
      replace hp : Hp _ _ _ (Res.sl Ek.bool 4 v21 ([true]) :: Res.sl Ek.bool 4 v13 ([true]) :: Res.sl (Ek.int .u8) 5 v5 ([(99 : Int)]) :: ow) := hp
      refine ⟨_, rfl, ?_⟩
      clear hf; intro a hf
      refine st_nil hf (th_n ⟨fun _ _ => ⟨_, hp⟩, ?_⟩)
      refine dr_take 19 (.bool (!q59)) rfl (by kernel_rfl) (by kernel_rfl) (by kernel_rfl) (by kernel_rfl) rfl rfl hf (by decide) (wantY hf rfl rfl hb55) (fun w hp => ?_) ⟨_, hp⟩ ?_
      · obtain ⟨_, hp⟩ := hp
        refine st_not hf (by decide) (wantY hf rfl rfl hb55) rfl ?_
        clear hf; intro a ha hf
        exact st_nil hf (th_n ⟨ha, rfl⟩)
      clear hf; intro a hf
      refine dr_take 20 (.bool z61) rfl (by kernel_rfl) (by kernel_rfl) (by kernel_rfl) (by kernel_rfl) rfl rfl hf (by decide) rfl (fun w hp => ?_) ⟨_, hp⟩ ?_
      · obtain ⟨_, hp⟩ := hp
        refine st_pick (v := .bool z61) hf rfl rfl (fun hb' => absurd (hb55.symm.trans hb') (by decide)) (fun _ => by rw [← hz54]; rfl) (by decide) ?_
        clear hf; intro a ha hf
        exact st_nil hf (th_n ⟨ha, rfl⟩)
      clear hf; intro a hf
      refine dr_take 21 (.bool z61) rfl (by kernel_rfl) (by kernel_rfl) (by kernel_rfl) (by kernel_rfl) rfl rfl hf (by decide) rfl (fun w hp => ?_) ⟨_, hp⟩ ?_
      · obtain ⟨_, hp⟩ := hp
        refine st_move hf rfl rfl (by decide) ?_
        clear hf; intro a ha hf
        exact st_nil hf (th_n ⟨ha, rfl⟩)
      clear hf; intro a hf
      refine dr_take 22 (v8) rfl (by kernel_rfl) (by kernel_rfl) (by kernel_rfl) (by kernel_rfl) rfl rfl hf (by decide) (wantY hf rfl rfl hb63) (fun w hp => ?_) ⟨_, hp⟩ ?_
      · obtain ⟨_, hp⟩ := hp
        refine st_move hf (wantY hf rfl rfl hb63) rfl (by decide) ?_
        clear hf; intro a ha hf
        exact st_nil hf (th_n ⟨ha, rfl⟩)
      clear hf; intro a hf
      refine dr_take 23 (vqx0) rfl (by kernel_rfl) (by kernel_rfl) (by kernel_rfl) (by kernel_rfl) rfl rfl hf (by decide) (wantY hf rfl rfl hb63) (fun w hp => ?_) ⟨_, hp⟩ ?_
      · obtain ⟨_, hp⟩ := hp
        refine st_move hf (wantY hf rfl rfl hb63) rfl (by decide) ?_
        clear hf; intro a ha hf
        exact st_nil hf (th_n ⟨ha, rfl⟩)
      clear hf; intro a hf
      refine dr_take 24 (.int .i64 (qx0.length : Int)) rfl (by kernel_rfl) (by kernel_rfl) (by kernel_rfl) (by kernel_rfl) rfl rfl hf (by decide) (wantY hf rfl rfl hb63) (fun w hp => ?_) ⟨_, hp⟩ ?_
      · obtain ⟨_, hp⟩ := hp
        refine st_len (E := (Ek.int .u8)) hf (by decide) Try.underlying22 (wantY hf rfl rfl hb63) rfl (rl40.sl hp) ?_
        clear hf; intro a ha hf
        exact st_nil hf (th_n ⟨ha, rfl⟩)
      clear hf; intro a hf
      refine dr_take 25 (eptr v8 (qx0.length : Int) 1) rfl (by kernel_rfl) (by kernel_rfl) (by kernel_rfl) (by kernel_rfl) rfl rfl hf (by decide) (wantY hf rfl rfl hb63) (fun w hp => ?_) ⟨_, hp⟩ ?_
      · obtain ⟨_, hp⟩ := hp
        refine st_index (E := (Ek.int .u8)) hf (by decide) Try.underlying22 elt5 (wantY hf rfl rfl hb63) rfl rfl (rl43.sl hp) hc64.1 hc64.2 ?_
        clear hf; intro a ha hf
        exact st_nil hf (th_n ⟨ha, rfl⟩)
      clear hf; intro a hf
      refine dr_take 26 (.int .u8 (gt ((([] : List Int) ++ qx0) ++ [(99 : Int)]) (qx0.length : Int))) rfl (by kernel_rfl) (by kernel_rfl) (by kernel_rfl) (by kernel_rfl) rfl rfl hf (by decide) (wantY hf rfl rfl hb63) (fun w hp => ?_) ⟨_, hp⟩ ?_
      · obtain ⟨_, hp⟩ := hp
        refine st_ldI hf (by decide) pl5 (wantY hf rfl rfl hb63) rfl (rl43.sl hp) hc64.1 hc64.2 ?_
        clear hf; intro a ha hf
        exact st_nil hf (th_n ⟨ha, rfl⟩)
      clear hf; intro a hf
      refine dr_take 27 (.bool ((gt ((([] : List Int) ++ qx0) ++ [(99 : Int)]) (qx0.length : Int)) != (99 : Int))) rfl (by kernel_rfl) (by kernel_rfl) (by kernel_rfl) (by kernel_rfl) rfl rfl hf (by decide) (wantY hf rfl rfl hb63) (fun w hp => ?_) ⟨_, hp⟩ ?_
      · obtain ⟨_, hp⟩ := hp
        refine st_ineq hf (by decide) (wantY hf rfl rfl hb63) rfl rfl ?_
        clear hf; intro a ha hf
        exact st_nil hf (th_n ⟨ha, rfl⟩)
      clear hf; intro a hf
      refine dr_take 28 (.bool z65) rfl (by kernel_rfl) (by kernel_rfl) (by kernel_rfl) (by kernel_rfl) rfl rfl hf (by decide) rfl (fun w hp => ?_) ⟨_, hp⟩ ?_
      · obtain ⟨_, hp⟩ := hp
        refine st_pick (v := .bool z65) hf rfl rfl (fun hb' => absurd (hb63.symm.trans hb') (by decide)) (fun _ => by rw [← hz62]; rfl) (by decide) ?_
        clear hf; intro a ha hf
        exact st_nil hf (th_n ⟨ha, rfl⟩)
      clear hf; intro a hf
      refine dr_take 29 (.bool z65) rfl (by kernel_rfl) (by kernel_rfl) (by kernel_rfl) (by kernel_rfl) rfl rfl hf (by decide) rfl (fun w hp => ?_) ⟨_, hp⟩ ?_
      · obtain ⟨_, hp⟩ := hp
        refine st_move hf rfl rfl (by decide) ?_
        clear hf; intro a ha hf
        exact st_nil hf (th_n ⟨ha, rfl⟩)
      clear hf; intro a hf
      refine dr_out 30 rfl (by kernel_rfl) (by kernel_rfl) (by kernel_rfl) (by kernel_rfl) rfl hf (by decide) rfl (wantN hf rfl rfl hb67) ⟨_, hp⟩ ?_
      clear hf; intro a hf
      refine dr_out 31 rfl (by kernel_rfl) (by kernel_rfl) (by kernel_rfl) (by kernel_rfl) rfl hf (by decide) rfl (wantN hf rfl rfl hb67) ⟨_, hp⟩ ?_
      clear hf; intro a hf
      refine dr_out 32 rfl (by kernel_rfl) (by kernel_rfl) (by kernel_rfl) (by kernel_rfl) rfl hf (by decide) rfl (wantN hf rfl rfl hb67) ⟨_, hp⟩ ?_
      clear hf; intro a hf
      refine dr_out 33 rfl (by kernel_rfl) (by kernel_rfl) (by kernel_rfl) (by kernel_rfl) rfl hf (by decide) rfl (wantN hf rfl rfl hb67) ⟨_, hp⟩ ?_
      clear hf; intro a hf
      refine dr_out 34 rfl (by kernel_rfl) (by kernel_rfl) (by kernel_rfl) (by kernel_rfl) rfl hf (by decide) rfl (wantN hf rfl rfl hb67) ⟨_, hp⟩ ?_
      clear hf; intro a hf
      refine dr_out 35 rfl (by kernel_rfl) (by kernel_rfl) (by kernel_rfl) (by kernel_rfl) rfl hf (by decide) rfl (wantN hf rfl rfl hb67) ⟨_, hp⟩ ?_
      clear hf; intro a hf
      refine dr_out 36 rfl (by kernel_rfl) (by kernel_rfl) (by kernel_rfl) (by kernel_rfl) rfl hf (by decide) rfl (wantN hf rfl rfl hb67) ⟨_, hp⟩ ?_
      clear hf; intro a hf
      refine dr_take 37 (.bool z73) rfl (by kernel_rfl) (by kernel_rfl) (by kernel_rfl) (by kernel_rfl) rfl rfl hf (by decide) rfl (fun w hp => ?_) ⟨_, hp⟩ ?_
      · obtain ⟨_, hp⟩ := hp
        refine st_pick (v := .bool z73) hf rfl rfl (fun _ => by rw [← hz66]; rfl) (fun hb' => absurd (hb67.symm.trans hb') (by decide)) (by decide) ?_
        clear hf; intro a ha hf
        exact st_nil hf (th_n ⟨ha, rfl⟩)
      clear hf; intro a hf
      refine dr_take 38 (.bool z73) rfl (by kernel_rfl) (by kernel_rfl) (by kernel_rfl) (by kernel_rfl) rfl rfl hf (by decide) rfl (fun w hp => ?_) ⟨_, hp⟩ ?_
      · obtain ⟨_, hp⟩ := hp
        refine st_move hf rfl rfl (by decide) ?_
        clear hf; intro a ha hf
        exact st_nil hf (th_n ⟨ha, rfl⟩)
      clear hf; intro a hf
      refine dr_out 39 rfl (by kernel_rfl) (by kernel_rfl) (by kernel_rfl) (by kernel_rfl) rfl hf (by decide) rfl (wantN hf rfl rfl hb75) ⟨_, hp⟩ ?_
      clear hf; intro a hf
      refine dr_out 40 rfl (by kernel_rfl) (by kernel_rfl) (by kernel_rfl) (by kernel_rfl) rfl hf (by decide) rfl (wantN hf rfl rfl hb75) ⟨_, hp⟩ ?_
      clear hf; intro a hf
      refine dr_out 41 rfl (by kernel_rfl) (by kernel_rfl) (by kernel_rfl) (by kernel_rfl) rfl hf (by decide) rfl (wantN hf rfl rfl hb75) ⟨_, hp⟩ ?_
      clear hf; intro a hf
      refine dr_out 42 rfl (by kernel_rfl) (by kernel_rfl) (by kernel_rfl) (by kernel_rfl) rfl hf (by decide) rfl (wantN hf rfl rfl hb75) ⟨_, hp⟩ ?_
      clear hf; intro a hf
      refine dr_out 43 rfl (by kernel_rfl) (by kernel_rfl) (by kernel_rfl) (by kernel_rfl) rfl hf (by decide) rfl (wantN hf rfl rfl hb75) ⟨_, hp⟩ ?_
      clear hf; intro a hf
      refine dr_out 44 rfl (by kernel_rfl) (by kernel_rfl) (by kernel_rfl) (by kernel_rfl) rfl hf (by decide) rfl (wantN hf rfl rfl hb75) ⟨_, hp⟩ ?_
      clear hf; intro a hf
      refine dr_take 45 (.bool z77) rfl (by kernel_rfl) (by kernel_rfl) (by kernel_rfl) (by kernel_rfl) rfl rfl hf (by decide) rfl (fun w hp => ?_) ⟨_, hp⟩ ?_
      · obtain ⟨_, hp⟩ := hp
        refine st_pick (v := .bool z77) hf rfl rfl (fun _ => by rw [← hz74]; rfl) (fun hb' => absurd (hb75.symm.trans hb') (by decide)) (by decide) ?_
        clear hf; intro a ha hf
        exact st_nil hf (th_n ⟨ha, rfl⟩)
      clear hf; intro a hf
      refine dr_take 46 (.bool z77) rfl (by kernel_rfl) (by kernel_rfl) (by kernel_rfl) (by kernel_rfl) rfl rfl hf (by decide) rfl (fun w hp => ?_) ⟨_, hp⟩ ?_
      · obtain ⟨_, hp⟩ := hp
        refine st_move hf rfl rfl (by decide) ?_
        clear hf; intro a ha hf
        exact st_nil hf (th_n ⟨ha, rfl⟩)
      clear hf; intro a hf
      refine dr_out 47 rfl (by kernel_rfl) (by kernel_rfl) (by kernel_rfl) (by kernel_rfl) rfl hf (by decide) rfl (wantN hf rfl rfl hb79) ⟨_, hp⟩ ?_
      clear hf; intro a hf
      refine dr_out 48 rfl (by kernel_rfl) (by kernel_rfl) (by kernel_rfl) (by kernel_rfl) rfl hf (by decide) rfl (wantN hf rfl rfl hb79) ⟨_, hp⟩ ?_
      clear hf; intro a hf
      refine dr_out 49 rfl (by kernel_rfl) (by kernel_rfl) (by kernel_rfl) (by kernel_rfl) rfl hf (by decide) rfl (wantN hf rfl rfl hb79) ⟨_, hp⟩ ?_
      clear hf; intro a hf
      refine dr_out 50 rfl (by kernel_rfl) (by kernel_rfl) (by kernel_rfl) (by kernel_rfl) rfl hf (by decide) rfl (wantN hf rfl rfl hb79) ⟨_, hp⟩ ?_
      clear hf; intro a hf
      refine dr_out 51 rfl (by kernel_rfl) (by kernel_rfl) (by kernel_rfl) (by kernel_rfl) rfl hf (by decide) rfl (wantN hf rfl rfl hb79) ⟨_, hp⟩ ?_
      clear hf; intro a hf
      refine dr_out 52 rfl (by kernel_rfl) (by kernel_rfl) (by kernel_rfl) (by kernel_rfl) rfl hf (by decide) rfl (wantN hf rfl rfl hb79) ⟨_, hp⟩ ?_
      clear hf; intro a hf
      refine dr_out 53 rfl (by kernel_rfl) (by kernel_rfl) (by kernel_rfl) (by kernel_rfl) rfl hf (by decide) rfl (wantN hf rfl rfl hb79) ⟨_, hp⟩ ?_
      clear hf; intro a hf
      refine dr_take 54 (.bool z85) rfl (by kernel_rfl) (by kernel_rfl) (by kernel_rfl) (by kernel_rfl) rfl rfl hf (by decide) rfl (fun w hp => ?_) ⟨_, hp⟩ ?_
      · obtain ⟨_, hp⟩ := hp
        refine st_pick (v := .bool z85) hf rfl rfl (fun _ => by rw [← hz78]; rfl) (fun hb' => absurd (hb79.symm.trans hb') (by decide)) (by decide) ?_
        clear hf; intro a ha hf
        exact st_nil hf (th_n ⟨ha, rfl⟩)
      clear hf; intro a hf
      refine dr_take 55 (.bool z85) rfl (by kernel_rfl) (by kernel_rfl) (by kernel_rfl) (by kernel_rfl) rfl rfl hf (by decide) rfl (fun w hp => ?_) ⟨_, hp⟩ ?_
      · obtain ⟨_, hp⟩ := hp
        refine st_move hf rfl rfl (by decide) ?_
        clear hf; intro a ha hf
        exact st_nil hf (th_n ⟨ha, rfl⟩)
      clear hf; intro a hf
      refine dr_out 56 rfl (by kernel_rfl) (by kernel_rfl) (by kernel_rfl) (by kernel_rfl) rfl hf (by decide) rfl (wantN hf rfl rfl hb87) ⟨_, hp⟩ ?_
      clear hf; intro a hf
      refine dr_out 57 rfl (by kernel_rfl) (by kernel_rfl) (by kernel_rfl) (by kernel_rfl) rfl hf (by decide) rfl (wantN hf rfl rfl hb87) ⟨_, hp⟩ ?_
      clear hf; intro a hf
      refine dr_out 58 rfl (by kernel_rfl) (by kernel_rfl) (by kernel_rfl) (by kernel_rfl) rfl hf (by decide) rfl (wantN hf rfl rfl hb87) ⟨_, hp⟩ ?_
      clear hf; intro a hf
      refine dr_out 59 rfl (by kernel_rfl) (by kernel_rfl) (by kernel_rfl) (by kernel_rfl) rfl hf (by decide) rfl (wantN hf rfl rfl hb87) ⟨_, hp⟩ ?_
      clear hf; intro a hf
      refine dr_out 60 rfl (by kernel_rfl) (by kernel_rfl) (by kernel_rfl) (by kernel_rfl) rfl hf (by decide) rfl (wantN hf rfl rfl hb87) ⟨_, hp⟩ ?_
      clear hf; intro a hf
      refine dr_out 61 rfl (by kernel_rfl) (by kernel_rfl) (by kernel_rfl) (by kernel_rfl) rfl hf (by decide) rfl (wantN hf rfl rfl hb87) ⟨_, hp⟩ ?_
      clear hf; intro a hf
      refine dr_out 62 rfl (by kernel_rfl) (by kernel_rfl) (by kernel_rfl) (by kernel_rfl) rfl hf (by decide) rfl (wantN hf rfl rfl hb87) ⟨_, hp⟩ ?_
      clear hf; intro a hf
      refine dr_take 63 (.bool z93) rfl (by kernel_rfl) (by kernel_rfl) (by kernel_rfl) (by kernel_rfl) rfl rfl hf (by decide) rfl (fun w hp => ?_) ⟨_, hp⟩ ?_
      · obtain ⟨_, hp⟩ := hp
        refine st_pick (v := .bool z93) hf rfl rfl (fun _ => by rw [← hz86]; rfl) (fun hb' => absurd (hb87.symm.trans hb') (by decide)) (by decide) ?_
        clear hf; intro a ha hf
        exact st_nil hf (th_n ⟨ha, rfl⟩)
      clear hf; intro a hf
      refine dr_take 64 (.bool z93) rfl (by kernel_rfl) (by kernel_rfl) (by kernel_rfl) (by kernel_rfl) rfl rfl hf (by decide) rfl (fun w hp => ?_) ⟨_, hp⟩ ?_
      · obtain ⟨_, hp⟩ := hp
        refine st_move hf rfl rfl (by decide) ?_
        clear hf; intro a ha hf
        exact st_nil hf (th_n ⟨ha, rfl⟩)
      clear hf; intro a hf
      refine dr_out 65 rfl (by kernel_rfl) (by kernel_rfl) (by kernel_rfl) (by kernel_rfl) rfl hf (by decide) rfl (wantN hf rfl rfl hb95) ⟨_, hp⟩ ?_
      clear hf; intro a hf
      refine dr_out 66 rfl (by kernel_rfl) (by kernel_rfl) (by kernel_rfl) (by kernel_rfl) rfl hf (by decide) rfl (wantN hf rfl rfl hb95) ⟨_, hp⟩ ?_
      clear hf; intro a hf
      refine dr_out 67 rfl (by kernel_rfl) (by kernel_rfl) (by kernel_rfl) (by kernel_rfl) rfl hf (by decide) rfl (wantN hf rfl rfl hb95) ⟨_, hp⟩ ?_
      clear hf; intro a hf
      refine dr_out 68 rfl (by kernel_rfl) (by kernel_rfl) (by kernel_rfl) (by kernel_rfl) rfl hf (by decide) rfl (wantN hf rfl rfl hb95) ⟨_, hp⟩ ?_
      clear hf; intro a hf
      refine dr_out 69 rfl (by kernel_rfl) (by kernel_rfl) (by kernel_rfl) (by kernel_rfl) rfl hf (by decide) rfl (wantN hf rfl rfl hb95) ⟨_, hp⟩ ?_
      clear hf; intro a hf
      refine dr_out 70 rfl (by kernel_rfl) (by kernel_rfl) (by kernel_rfl) (by kernel_rfl) rfl hf (by decide) rfl (wantN hf rfl rfl hb95) ⟨_, hp⟩ ?_
      clear hf; intro a hf
      refine dr_take 71 (.bool z97) rfl (by kernel_rfl) (by kernel_rfl) (by kernel_rfl) (by kernel_rfl) rfl rfl hf (by decide) rfl (fun w hp => ?_) ⟨_, hp⟩ ?_
      · obtain ⟨_, hp⟩ := hp
        refine st_pick (v := .bool z97) hf rfl rfl (fun _ => by rw [← hz94]; rfl) (fun hb' => absurd (hb95.symm.trans hb') (by decide)) (by decide) ?_
        clear hf; intro a ha hf
        exact st_nil hf (th_n ⟨ha, rfl⟩)
      clear hf; intro a hf
      refine dr_end (by kernel_rfl) ?_ _
      have hp := bk39 _ _ hp
      have hp := bk34 _ _ hp
      have hp := bk29 _ _ hp
      exact ⟨hf.sub ⟨rfl, rfl, rfl, rfl, rfl, trivial⟩, hp⟩
    skip
    replace hz66 := ifF hz66 hb67
    obtain ⟨hc68, hz66⟩ := chk hz66
    have hc69 : 0 ≤ ((there1.length : Int)).toNat := by omega
    have hc70 : ((there1.length : Int)).toNat ≤ ((([] : List Bool) ++ there1) ++ [true]).length := by omega
    obtain ⟨q71, hcall72, hz66⟩ := bnd hz66
    replace hz66 := Option.some.inj hz66
    rcases Bool.eq_false_or_eq_true z73 with hb75 | hb75
    · skip
      replace hz74 := ifT hz74 hb75
      replace hz74 := Option.some.inj hz74
      have hb79 : z77 = true := hz74.symm
      skip
      replace hz78 := ifT hz78 hb79
      replace hz78 := Option.some.inj hz78
      have hb87 : z85 = true := hz78.symm
      skip
      replace hz86 := ifT hz86 hb87
      replace hz86 := Option.some.inj hz86
      have hb95 : z93 = true := hz86.symm
      skip
      replace hz94 := ifT hz94 hb95
      replace hz94 := Option.some.inj hz94
      refine dr_begin' (fun a w => Fr 138 a [(0, vqx0), (1, vthere1), (7, v8), (8, v16), (98, .bool z97)] ∧ Hp S w0 w (Res.sl (Ek.int .u8) 5 v8 ((([] : List Int) ++ qx0) ++ [(99 : Int)]) :: Res.sl Ek.bool 4 v16 ((([] : List Bool) ++ there1) ++ [true]) :: Res.sl Ek.bool 4 v24 ((([] : List Bool) ++ bits2) ++ [true]) :: Res.sl Ek.bool 4 v21 ([true]) :: Res.sl Ek.bool 4 v13 ([true]) :: Res.sl (Ek.int .u8) 5 v5 ([(99 : Int)]) :: ow)) (fun w' => ∃ l, Hp S35 w w' l) [] (by kernel_rfl) ?_
      refine dr_take 0 (v8) rfl (by kernel_rfl) (by kernel_rfl) (by kernel_rfl) (by kernel_rfl) rfl rfl hf (by decide) rfl (fun w hp => ?_) ⟨_, hp⟩ ?_
      · obtain ⟨_, hp⟩ := hp
        refine st_move hf rfl rfl (by decide) ?_
        clear hf; intro a ha hf
        exact st_nil hf (th_n ⟨ha, rfl⟩)
      clear hf; intro a hf
      refine dr_take 1 (vqx0) rfl (by kernel_rfl) (by kernel_rfl) (by kernel_rfl) (by kernel_rfl) rfl rfl hf (by decide) rfl (fun w hp => ?_) ⟨_, hp⟩ ?_
      · obtain ⟨_, hp⟩ := hp
        refine st_move hf rfl rfl (by decide) ?_
        clear hf; intro a ha hf
        exact st_nil hf (th_n ⟨ha, rfl⟩)
      clear hf; intro a hf
      refine dr_take 2 (.int .i64 (qx0.length : Int)) rfl (by kernel_rfl) (by kernel_rfl) (by kernel_rfl) (by kernel_rfl) rfl rfl hf (by decide) rfl (fun w hp => ?_) ⟨_, hp⟩ ?_
      · obtain ⟨_, hp⟩ := hp
        refine st_len (E := (Ek.int .u8)) hf (by decide) Try.underlying22 rfl rfl (rl40.sl hp) ?_
        clear hf; intro a ha hf
        exact st_nil hf (th_n ⟨ha, rfl⟩)
      clear hf; intro a hf
      refine dr_take 3 ((GL.cut v8 0 (((qx0.length : Int)).toNat) 1)) rfl (by kernel_rfl) (by kernel_rfl) (by kernel_rfl) (by kernel_rfl) rfl rfl hf (by decide) rfl (fun w hp => ?_) ⟨_, hp⟩ ?_
      · obtain ⟨_, hp⟩ := hp
        refine st_cutS (E := (Ek.int .u8)) hf (by decide) Try.underlying22 elt5 rfl rfl (rl43.sl hp) (.inl ⟨rfl, rfl⟩) (.inr ⟨_, _, rfl, evI rfl (by omega)⟩) hc47 hc48 ?_
        clear hf; intro a ha hf
        exact st_nil hf (th_n ⟨ha, rfl⟩)
      clear hf; intro a hf
      refine dr_take 4 (v16) rfl (by kernel_rfl) (by kernel_rfl) (by kernel_rfl) (by kernel_rfl) rfl rfl hf (by decide) rfl (fun w hp => ?_) ⟨_, hp⟩ ?_
      · obtain ⟨_, hp⟩ := hp
        refine st_move hf rfl rfl (by decide) ?_
        clear hf; intro a ha hf
        exact st_nil hf (th_n ⟨ha, rfl⟩)
      clear hf; intro a hf
      refine dr_take 5 (vthere1) rfl (by kernel_rfl) (by kernel_rfl) (by kernel_rfl) (by kernel_rfl) rfl rfl hf (by decide) rfl (fun w hp => ?_) ⟨_, hp⟩ ?_
      · obtain ⟨_, hp⟩ := hp
        refine st_move hf rfl rfl (by decide) ?_
        clear hf; intro a ha hf
        exact st_nil hf (th_n ⟨ha, rfl⟩)
      clear hf; intro a hf
      refine dr_take 6 (.int .i64 (there1.length : Int)) rfl (by kernel_rfl) (by kernel_rfl) (by kernel_rfl) (by kernel_rfl) rfl rfl hf (by decide) rfl (fun w hp => ?_) ⟨_, hp⟩ ?_
      · obtain ⟨_, hp⟩ := hp
        refine st_len (E := Ek.bool) hf (by decide) Try.underlying27 rfl rfl (rl41.sl hp) ?_
        clear hf; intro a ha hf
        exact st_nil hf (th_n ⟨ha, rfl⟩)
      clear hf; intro a hf
      refine dr_take 7 ((GL.cut v16 0 (((there1.length : Int)).toNat) 1)) rfl (by kernel_rfl) (by kernel_rfl) (by kernel_rfl) (by kernel_rfl) rfl rfl hf (by decide) rfl (fun w hp => ?_) ⟨_, hp⟩ ?_
      · obtain ⟨_, hp⟩ := hp
        refine st_cutS (E := Ek.bool) hf (by decide) Try.underlying27 elt4 rfl rfl (rl44.sl hp) (.inl ⟨rfl, rfl⟩) (.inr ⟨_, _, rfl, evI rfl (by omega)⟩) hc50 hc51 ?_
        clear hf; intro a ha hf
        exact st_nil hf (th_n ⟨ha, rfl⟩)
      clear hf; intro a hf
      refine dr_take 8 (vqx0) rfl (by kernel_rfl) (by kernel_rfl) (by kernel_rfl) (by kernel_rfl) rfl rfl hf (by decide) rfl (fun w hp => ?_) ⟨_, hp⟩ ?_
      · obtain ⟨_, hp⟩ := hp
        refine st_move hf rfl rfl (by decide) ?_
        clear hf; intro a ha hf
        exact st_nil hf (th_n ⟨ha, rfl⟩)
      clear hf; intro a hf
      refine dr_take 9 (vthere1) rfl (by kernel_rfl) (by kernel_rfl) (by kernel_rfl) (by kernel_rfl) rfl rfl hf (by decide) rfl (fun w hp => ?_) ⟨_, hp⟩ ?_
      · obtain ⟨_, hp⟩ := hp
        refine st_move hf rfl rfl (by decide) ?_
        clear hf; intro a ha hf
        exact st_nil hf (th_n ⟨ha, rfl⟩)
      clear hf; intro a hf
      refine dr_one 10 rfl (by kernel_rfl) ?_
      refine st_call hf (by decide) Try.func15 rfl rfl rfl rfl rfl (f_foghornlaw06_rows_c hp _ _ (RdS.cut rl43 hc47 hc48) _ _ (RdS.cut rl44 hc50 hc51) _ _ rl40 _ _ rl41 hcall53) ?_
      rintro _ w ⟨rfl, hp0⟩
      clear hp; have hp := hp0; clear hp0
      replace hp : Hp _ _ _ (Res.sl Ek.bool 4 v21 ([true]) :: Res.sl Ek.bool 4 v13 ([true]) :: Res.sl (Ek.int .u8) 5 v5 ([(99 : Int)]) :: ow) := hp
      refine ⟨_, rfl, ?_⟩
      clear hf; intro a hf
      refine st_nil hf (th_n ⟨fun _ _ => ⟨_, hp⟩, ?_⟩)
      refine dr_take 11 (.bool (!q52)) rfl (by kernel_rfl) (by kernel_rfl) (by kernel_rfl) (by kernel_rfl) rfl rfl hf (by decide) rfl (fun w hp => ?_) ⟨_, hp⟩ ?_
      · obtain ⟨_, hp⟩ := hp
        refine st_not hf (by decide) rfl rfl ?_
        clear hf; intro a ha hf
        exact st_nil hf (th_n ⟨ha, rfl⟩)
      clear hf; intro a hf
      refine dr_take 12 (.bool (!q52)) rfl (by kernel_rfl) (by kernel_rfl) (by kernel_rfl) (by kernel_rfl) rfl rfl hf (by decide) rfl (fun w hp => ?_) ⟨_, hp⟩ ?_
      · obtain ⟨_, hp⟩ := hp
        refine st_move hf rfl rfl (by decide) ?_
        clear hf; intro a ha hf
        exact st_nil hf (th_n ⟨ha, rfl⟩)
      clear hf; intro a hf
      refine dr_take 13 (v8) rfl (by kernel_rfl) (by kernel_rfl) (by kernel_rfl) (by kernel_rfl) rfl rfl hf (by decide) (wantY hf rfl rfl hb55) (fun w hp => ?_) ⟨_, hp⟩ ?_
      · obtain ⟨_, hp⟩ := hp
        refine st_move hf (wantY hf rfl rfl hb55) rfl (by decide) ?_
        clear hf; intro a ha hf
        exact st_nil hf (th_n ⟨ha, rfl⟩)
      clear hf; intro a hf
      refine dr_take 14 (vqx0) rfl (by kernel_rfl) (by kernel_rfl) (by kernel_rfl) (by kernel_rfl) rfl rfl hf (by decide) (wantY hf rfl rfl hb55) (fun w hp => ?_) ⟨_, hp⟩ ?_
      · obtain ⟨_, hp⟩ := hp
        refine st_move hf (wantY hf rfl rfl hb55) rfl (by decide) ?_
        clear hf; intro a ha hf
        exact st_nil hf (th_n ⟨ha, rfl⟩)
      clear hf; intro a hf
      refine dr_take 15 (.int .i64 (qx0.length : Int)) rfl (by kernel_rfl) (by kernel_rfl) (by kernel_rfl) (by kernel_rfl) rfl rfl hf (by decide) (wantY hf rfl rfl hb55) (fun w hp => ?_) ⟨_, hp⟩ ?_
      · obtain ⟨_, hp⟩ := hp
        refine st_len (E := (Ek.int .u8)) hf (by decide) Try.underlying22 (wantY hf rfl rfl hb55) rfl (rl40.sl hp) ?_
        clear hf; intro a ha hf
        exact st_nil hf (th_n ⟨ha, rfl⟩)
      clear hf; intro a hf
      refine dr_take 16 ((GL.cut v8 0 (((qx0.length : Int)).toNat) 1)) rfl (by kernel_rfl) (by kernel_rfl) (by kernel_rfl) (by kernel_rfl) rfl rfl hf (by decide) (wantY hf rfl rfl hb55) (fun w hp => ?_) ⟨_, hp⟩ ?_
      · obtain ⟨_, hp⟩ := hp
        refine st_cutS (E := (Ek.int .u8)) hf (by decide) Try.underlying22 elt5 (wantY hf rfl rfl hb55) rfl (rl43.sl hp) (.inl ⟨rfl, rfl⟩) (.inr ⟨_, _, rfl, evI rfl (by omega)⟩) hc57 hc58 ?_
        clear hf; intro a ha hf
        exact st_nil hf (th_n ⟨ha, rfl⟩)
      clear hf; intro a hf
      refine dr_take 17 (vqx0) rfl (by kernel_rfl) (by kernel_rfl) (by kernel_rfl) (by kernel_rfl) rfl rfl hf (by decide) (wantY hf rfl rfl hb55) (fun w hp => ?_) ⟨_, hp⟩ ?_
      · obtain ⟨_, hp⟩ := hp
        refine st_move hf (wantY hf rfl rfl hb55) rfl (by decide) ?_
        clear hf; intro a ha hf
        exact st_nil hf (th_n ⟨ha, rfl⟩)
      clear hf; intro a hf
      refine dr_one 18 rfl (by kernel_rfl) ?_
      refine st_call hf (by decide) Try.func13 rfl rfl (wantY hf rfl rfl hb55) rfl rfl (f_foghornlaw06_quarters_c hp _ _ (RdS.cut rl43 hc57 hc58) _ _ rl40 hcall60) ?_
      rintro _ w ⟨rfl, hp0⟩
      clear hp; have hp := hp0; clear hp0
      replace hp : Hp _ _ _ (Res.sl Ek.bool 4 v21 ([true]) :: Res.sl Ek.bool 4 v13 ([true]) :: Res.sl (Ek.int .u8) 5 v5 ([(99 : Int)]) :: ow) := hp
      refine ⟨_, rfl, ?_⟩
      clear hf; intro a hf
      refine st_nil hf (th_n ⟨fun _ _ => ⟨_, hp⟩, ?_⟩)
      refine dr_take 19 (.bool (!q59)) rfl (by kernel_rfl) (by kernel_rfl) (by kernel_rfl) (by kernel_rfl) rfl rfl hf (by decide) (wantY hf rfl rfl hb55) (fun w hp => ?_) ⟨_, hp⟩ ?_
      · obtain ⟨_, hp⟩ := hp
        refine st_not hf (by decide) (wantY hf rfl rfl hb55) rfl ?_
        clear hf; intro a ha hf
        exact st_nil hf (th_n ⟨ha, rfl⟩)
      clear hf; intro a hf
      refine dr_take 20 (.bool z61) rfl (by kernel_rfl) (by kernel_rfl) (by kernel_rfl) (by kernel_rfl) rfl rfl hf (by decide) rfl (fun w hp => ?_) ⟨_, hp⟩ ?_
      · obtain ⟨_, hp⟩ := hp
        refine st_pick (v := .bool z61) hf rfl rfl (fun hb' => absurd (hb55.symm.trans hb') (by decide)) (fun _ => by rw [← hz54]; rfl) (by decide) ?_
        clear hf; intro a ha hf
        exact st_nil hf (th_n ⟨ha, rfl⟩)
      clear hf; intro a hf
      refine dr_take 21 (.bool z61) rfl (by kernel_rfl) (by kernel_rfl) (by kernel_rfl) (by kernel_rfl) rfl rfl hf (by decide) rfl (fun w hp => ?_) ⟨_, hp⟩ ?_
      · obtain ⟨_, hp⟩ := hp
        refine st_move hf rfl rfl (by decide) ?_
        clear hf; intro a ha hf
        exact st_nil hf (th_n ⟨ha, rfl⟩)
      clear hf; intro a hf
      refine dr_take 22 (v8) rfl (by kernel_rfl) (by kernel_rfl) (by kernel_rfl) (by kernel_rfl) rfl rfl hf (by decide) (wantY hf rfl rfl hb63) (fun w hp => ?_) ⟨_, hp⟩ ?_
      · obtain ⟨_, hp⟩ := hp
        refine st_move hf (wantY hf rfl rfl hb63) rfl (by decide) ?_
        clear hf; intro a ha hf
        exact st_nil hf (th_n ⟨ha, rfl⟩)
      clear hf; intro a hf
      refine dr_take 23 (vqx0) rfl (by kernel_rfl) (by kernel_rfl) (by kernel_rfl) (by kernel_rfl) rfl rfl hf (by decide) (wantY hf rfl rfl hb63) (fun w hp => ?_) ⟨_, hp⟩ ?_
      · obtain ⟨_, hp⟩ := hp
        refine st_move hf (wantY hf rfl rfl hb63) rfl (by decide) ?_
        clear hf; intro a ha hf
        exact st_nil hf (th_n ⟨ha, rfl⟩)
      clear hf; intro a hf
      refine dr_take 24 (.int .i64 (qx0.length : Int)) rfl (by kernel_rfl) (by kernel_rfl) (by kernel_rfl) (by kernel_rfl) rfl rfl hf (by decide) (wantY hf rfl rfl hb63) (fun w hp => ?_) ⟨_, hp⟩ ?_
      · obtain ⟨_, hp⟩ := hp
        refine st_len (E := (Ek.int .u8)) hf (by decide) Try.underlying22 (wantY hf rfl rfl hb63) rfl (rl40.sl hp) ?_
        clear hf; intro a ha hf
        exact st_nil hf (th_n ⟨ha, rfl⟩)
      clear hf; intro a hf
      refine dr_take 25 (eptr v8 (qx0.length : Int) 1) rfl (by kernel_rfl) (by kernel_rfl) (by kernel_rfl) (by kernel_rfl) rfl rfl hf (by decide) (wantY hf rfl rfl hb63) (fun w hp => ?_) ⟨_, hp⟩ ?_
      · obtain ⟨_, hp⟩ := hp
        refine st_index (E := (Ek.int .u8)) hf (by decide) Try.underlying22 elt5 (wantY hf rfl rfl hb63) rfl rfl (rl43.sl hp) hc64.1 hc64.2 ?_
        clear hf; intro a ha hf
        exact st_nil hf (th_n ⟨ha, rfl⟩)
      clear hf; intro a hf
      refine dr_take 26 (.int .u8 (gt ((([] : List Int) ++ qx0) ++ [(99 : Int)]) (qx0.length : Int))) rfl (by kernel_rfl) (by kernel_rfl) (by kernel_rfl) (by kernel_rfl) rfl rfl hf (by decide) (wantY hf rfl rfl hb63) (fun w hp => ?_) ⟨_, hp⟩ ?_
      · obtain ⟨_, hp⟩ := hp
        refine st_ldI hf (by decide) pl5 (wantY hf rfl rfl hb63) rfl (rl43.sl hp) hc64.1 hc64.2 ?_
        clear hf; intro a ha hf
        exact st_nil hf (th_n ⟨ha, rfl⟩)
      clear hf; intro a hf
      refine dr_take 27 (.bool ((gt ((([] : List Int) ++ qx0) ++ [(99 : Int)]) (qx0.length : Int)) != (99 : Int))) rfl (by kernel_rfl) (by kernel_rfl) (by kernel_rfl) (by kernel_rfl) rfl rfl hf (by decide) (wantY hf rfl rfl hb63) (fun w hp => ?_) ⟨_, hp⟩ ?_
      · obtain ⟨_, hp⟩ := hp
        refine st_ineq hf (by decide) (wantY hf rfl rfl hb63) rfl rfl ?_
        clear hf; intro a ha hf
        exact st_nil hf (th_n ⟨ha, rfl⟩)
      clear hf; intro a hf
      refine dr_take 28 (.bool z65) rfl (by kernel_rfl) (by kernel_rfl) (by kernel_rfl) (by kernel_rfl) rfl rfl hf (by decide) rfl (fun w hp => ?_) ⟨_, hp⟩ ?_
      · obtain ⟨_, hp⟩ := hp
        refine st_pick (v := .bool z65) hf rfl rfl (fun hb' => absurd (hb63.symm.trans hb') (by decide)) (fun _ => by rw [← hz62]; rfl) (by decide) ?_
        clear hf; intro a ha hf
        exact st_nil hf (th_n ⟨ha, rfl⟩)
      clear hf; intro a hf
      refine dr_take 29 (.bool z65) rfl (by kernel_rfl) (by kernel_rfl) (by kernel_rfl) (by kernel_rfl) rfl rfl hf (by decide) rfl (fun w hp => ?_) ⟨_, hp⟩ ?_
      · obtain ⟨_, hp⟩ := hp
        refine st_move hf rfl rfl (by decide) ?_
        clear hf; intro a ha hf
        exact st_nil hf (th_n ⟨ha, rfl⟩)
      clear hf; intro a hf
      refine dr_take 30 (v16) rfl (by kernel_rfl) (by kernel_rfl) (by kernel_rfl) (by kernel_rfl) rfl rfl hf (by decide) (wantY hf rfl rfl hb67) (fun w hp => ?_) ⟨_, hp⟩ ?_
      · obtain ⟨_, hp⟩ := hp
        refine st_move hf (wantY hf rfl rfl hb67) rfl (by decide) ?_
        clear hf; intro a ha hf
        exact st_nil hf (th_n ⟨ha, rfl⟩)
      clear hf; intro a hf
      refine dr_take 31 (vthere1) rfl (by kernel_rfl) (by kernel_rfl) (by kernel_rfl) (by kernel_rfl) rfl rfl hf (by decide) (wantY hf rfl rfl hb67) (fun w hp => ?_) ⟨_, hp⟩ ?_
      · obtain ⟨_, hp⟩ := hp
        refine st_move hf (wantY hf rfl rfl hb67) rfl (by decide) ?_
        clear hf; intro a ha hf
        exact st_nil hf (th_n ⟨ha, rfl⟩)
      clear hf; intro a hf
      refine dr_take 32 (.int .i64 (there1.length : Int)) rfl (by kernel_rfl) (by kernel_rfl) (by kernel_rfl) (by kernel_rfl) rfl rfl hf (by decide) (wantY hf rfl rfl hb67) (fun w hp => ?_) ⟨_, hp⟩ ?_
      · obtain ⟨_, hp⟩ := hp
        refine st_len (E := Ek.bool) hf (by decide) Try.underlying27 (wantY hf rfl rfl hb67) rfl (rl41.sl hp) ?_
        clear hf; intro a ha hf
        exact st_nil hf (th_n ⟨ha, rfl⟩)
      clear hf; intro a hf
      refine dr_take 33 ((GL.cut v16 0 (((there1.length : Int)).toNat) 1)) rfl (by kernel_rfl) (by kernel_rfl) (by kernel_rfl) (by kernel_rfl) rfl rfl hf (by decide) (wantY hf rfl rfl hb67) (fun w hp => ?_) ⟨_, hp⟩ ?_
      · obtain ⟨_, hp⟩ := hp
        refine st_cutS (E := Ek.bool) hf (by decide) Try.underlying27 elt4 (wantY hf rfl rfl hb67) rfl (rl44.sl hp) (.inl ⟨rfl, rfl⟩) (.inr ⟨_, _, rfl, evI rfl (by omega)⟩) hc69 hc70 ?_
        clear hf; intro a ha hf
        exact st_nil hf (th_n ⟨ha, rfl⟩)
      clear hf; intro a hf
      refine dr_take 34 (vthere1) rfl (by kernel_rfl) (by kernel_rfl) (by kernel_rfl) (by kernel_rfl) rfl rfl hf (by decide) (wantY hf rfl rfl hb67) (fun w hp => ?_) ⟨_, hp⟩ ?_
      · obtain ⟨_, hp⟩ := hp
        refine st_move hf (wantY hf rfl rfl hb67) rfl (by decide) ?_
        clear hf; intro a ha hf
        exact st_nil hf (th_n ⟨ha, rfl⟩)
      clear hf; intro a hf
      refine dr_one 35 rfl (by kernel_rfl) ?_
      refine st_call hf (by decide) Try.func16 rfl rfl (wantY hf rfl rfl hb67) rfl rfl (f_foghornlaw06_truths_c hp _ _ (RdS.cut rl44 hc69 hc70) _ _ rl41 hcall72) ?_
      rintro _ w ⟨rfl, hp0⟩
      clear hp; have hp := hp0; clear hp0
      replace hp : Hp _ _ _ (Res.sl Ek.bool 4 v21 ([true]) :: Res.sl Ek.bool 4 v13 ([true]) :: Res.sl (Ek.int .u8) 5 v5 ([(99 : Int)]) :: ow) := hp
      refine ⟨_, rfl, ?_⟩
      clear hf; intro a hf
      refine st_nil hf (th_n ⟨fun _ _ => ⟨_, hp⟩, ?_⟩)
      refine dr_take 36 (.bool (!q71)) rfl (by kernel_rfl) (by kernel_rfl) (by kernel_rfl) (by kernel_rfl) rfl rfl hf (by decide) (wantY hf rfl rfl hb67) (fun w hp => ?_) ⟨_, hp⟩ ?_
      · obtain ⟨_, hp⟩ := hp
        refine st_not hf (by decide) (wantY hf rfl rfl hb67) rfl ?_
        clear hf; intro a ha hf
        exact st_nil hf (th_n ⟨ha, rfl⟩)
      clear hf; intro a hf
      refine dr_take 37 (.bool z73) rfl (by kernel_rfl) (by kernel_rfl) (by kernel_rfl) (by kernel_rfl) rfl rfl hf (by decide) rfl (fun w hp => ?_) ⟨_, hp⟩ ?_
      · obtain ⟨_, hp⟩ := hp
        refine st_pick (v := .bool z73) hf rfl rfl (fun hb' => absurd (hb67.symm.trans hb') (by decide)) (fun _ => by rw [← hz66]; rfl) (by decide) ?_
        clear hf; intro a ha hf
        exact st_nil hf (th_n ⟨ha, rfl⟩)
      clear hf; intro a hf
      refine dr_take 38 (.bool z73) rfl (by kernel_rfl) (by kernel_rfl) (by kernel_rfl) (by kernel_rfl) rfl rfl hf (by decide) rfl (fun w hp => ?_) ⟨_, hp⟩ ?_
      · obtain ⟨_, hp⟩ := hp
        refine st_move hf rfl rfl (by decide) ?_
        clear hf; intro a ha hf
        exact st_nil hf (th_n ⟨ha, rfl⟩)
      clear hf; intro a hf
      refine dr_out 39 rfl (by kernel_rfl) (by kernel_rfl) (by kernel_rfl) (by kernel_rfl) rfl hf (by decide) rfl (wantN hf rfl rfl hb75) ⟨_, hp⟩ ?_
      clear hf; intro a hf
      refine dr_out 40 rfl (by kernel_rfl) (by kernel_rfl) (by kernel_rfl) (by kernel_rfl) rfl hf (by decide) rfl (wantN hf rfl rfl hb75) ⟨_, hp⟩ ?_
      clear hf; intro a hf
      refine dr_out 41 rfl (by kernel_rfl) (by kernel_rfl) (by kernel_rfl) (by kernel_rfl) rfl hf (by decide) rfl (wantN hf rfl rfl hb75) ⟨_, hp⟩ ?_
      clear hf; intro a hf
      refine dr_out 42 rfl (by kernel_rfl) (by kernel_rfl) (by kernel_rfl) (by kernel_rfl) rfl hf (by decide) rfl (wantN hf rfl rfl hb75) ⟨_, hp⟩ ?_
      clear hf; intro a hf
      refine dr_out 43 rfl (by kernel_rfl) (by kernel_rfl) (by kernel_rfl) (by kernel_rfl) rfl hf (by decide) rfl (wantN hf rfl rfl hb75) ⟨_, hp⟩ ?_
      clear hf; intro a hf
      refine dr_out 44 rfl (by kernel_rfl) (by kernel_rfl) (by kernel_rfl) (by kernel_rfl) rfl hf (by decide) rfl (wantN hf rfl rfl hb75) ⟨_, hp⟩ ?_
      clear hf; intro a hf
      refine dr_take 45 (.bool z77) rfl (by kernel_rfl) (by kernel_rfl) (by kernel_rfl) (by kernel_rfl) rfl rfl hf (by decide) rfl (fun w hp => ?_) ⟨_, hp⟩ ?_
      · obtain ⟨_, hp⟩ := hp
        refine st_pick (v := .bool z77) hf rfl rfl (fun _ => by rw [← hz74]; rfl) (fun hb' => absurd (hb75.symm.trans hb') (by decide)) (by decide) ?_
        clear hf; intro a ha hf
        exact st_nil hf (th_n ⟨ha, rfl⟩)
      clear hf; intro a hf
      refine dr_take 46 (.bool z77) rfl (by kernel_rfl) (by kernel_rfl) (by kernel_rfl) (by kernel_rfl) rfl rfl hf (by decide) rfl (fun w hp => ?_) ⟨_, hp⟩ ?_
      · obtain ⟨_, hp⟩ := hp
        refine st_move hf rfl rfl (by decide) ?_
        clear hf; intro a ha hf
        exact st_nil hf (th_n ⟨ha, rfl⟩)
      clear hf; intro a hf
      refine dr_out 47 rfl (by kernel_rfl) (by kernel_rfl) (by kernel_rfl) (by kernel_rfl) rfl hf (by decide) rfl (wantN hf rfl rfl hb79) ⟨_, hp⟩ ?_
      clear hf; intro a hf
      refine dr_out 48 rfl (by kernel_rfl) (by kernel_rfl) (by kernel_rfl) (by kernel_rfl) rfl hf (by decide) rfl (wantN hf rfl rfl hb79) ⟨_, hp⟩ ?_
      clear hf; intro a hf
      refine dr_out 49 rfl (by kernel_rfl) (by kernel_rfl) (by kernel_rfl) (by kernel_rfl) rfl hf (by decide) rfl (wantN hf rfl rfl hb79) ⟨_, hp⟩ ?_
      clear hf; intro a hf
      refine dr_out 50 rfl (by kernel_rfl) (by kernel_rfl) (by kernel_rfl) (by kernel_rfl) rfl hf (by decide) rfl (wantN hf rfl rfl hb79) ⟨_, hp⟩ ?_
      clear hf; intro a hf
      refine dr_out 51 rfl (by kernel_rfl) (by kernel_rfl) (by kernel_rfl) (by kernel_rfl) rfl hf (by decide) rfl (wantN hf rfl rfl hb79) ⟨_, hp⟩ ?_
      clear hf; intro a hf
      refine dr_out 52 rfl (by kernel_rfl) (by kernel_rfl) (by kernel_rfl) (by kernel_rfl) rfl hf (by decide) rfl (wantN hf rfl rfl hb79) ⟨_, hp⟩ ?_
      clear hf; intro a hf
      refine dr_out 53 rfl (by kernel_rfl) (by kernel_rfl) (by kernel_rfl) (by kernel_rfl) rfl hf (by decide) rfl (wantN hf rfl rfl hb79) ⟨_, hp⟩ ?_
      clear hf; intro a hf
      refine dr_take 54 (.bool z85) rfl (by kernel_rfl) (by kernel_rfl) (by kernel_rfl) (by kernel_rfl) rfl rfl hf (by decide) rfl (fun w hp => ?_) ⟨_, hp⟩ ?_
      · obtain ⟨_, hp⟩ := hp
        refine st_pick (v := .bool z85) hf rfl rfl (fun _ => by rw [← hz78]; rfl) (fun hb' => absurd (hb79.symm.trans hb') (by decide)) (by decide) ?_
        clear hf; intro a ha hf
        exact st_nil hf (th_n ⟨ha, rfl⟩)
      clear hf; intro a hf
      refine dr_take 55 (.bool z85) rfl (by kernel_rfl) (by kernel_rfl) (by kernel_rfl) (by kernel_rfl) rfl rfl hf (by decide) rfl (fun w hp => ?_) ⟨_, hp⟩ ?_
      · obtain ⟨_, hp⟩ := hp
        refine st_move hf rfl rfl (by decide) ?_
        clear hf; intro a ha hf
        exact st_nil hf (th_n ⟨ha, rfl⟩)
      clear hf; intro a hf
      refine dr_out 56 rfl (by kernel_rfl) (by kernel_rfl) (by kernel_rfl) (by kernel_rfl) rfl hf (by decide) rfl (wantN hf rfl rfl hb87) ⟨_, hp⟩ ?_
      clear hf; intro a hf
      refine dr_out 57 rfl (by kernel_rfl) (by kernel_rfl) (by kernel_rfl) (by kernel_rfl) rfl hf (by decide) rfl (wantN hf rfl rfl hb87) ⟨_, hp⟩ ?_
      clear hf; intro a hf
      refine dr_out 58 rfl (by kernel_rfl) (by kernel_rfl) (by kernel_rfl) (by kernel_rfl) rfl hf (by decide) rfl (wantN hf rfl rfl hb87) ⟨_, hp⟩ ?_
      clear hf; intro a hf
      refine dr_out 59 rfl (by kernel_rfl) (by kernel_rfl) (by kernel_rfl) (by kernel_rfl) rfl hf (by decide) rfl (wantN hf rfl rfl hb87) ⟨_, hp⟩ ?_
      clear hf; intro a hf
      refine dr_out 60 rfl (by kernel_rfl) (by kernel_rfl) (by kernel_rfl) (by kernel_rfl) rfl hf (by decide) rfl (wantN hf rfl rfl hb87) ⟨_, hp⟩ ?_
      clear hf; intro a hf
      refine dr_out 61 rfl (by kernel_rfl) (by kernel_rfl) (by kernel_rfl) (by kernel_rfl) rfl hf (by decide) rfl (wantN hf rfl rfl hb87) ⟨_, hp⟩ ?_
      clear hf; intro a hf
      refine dr_out 62 rfl (by kernel_rfl) (by kernel_rfl) (by kernel_rfl) (by kernel_rfl) rfl hf (by decide) rfl (wantN hf rfl rfl hb87) ⟨_, hp⟩ ?_
      clear hf; intro a hf
      refine dr_take 63 (.bool z93) rfl (by kernel_rfl) (by kernel_rfl) (by kernel_rfl) (by kernel_rfl) rfl rfl hf (by decide) rfl (fun w hp => ?_) ⟨_, hp⟩ ?_
      · obtain ⟨_, hp⟩ := hp
        refine st_pick (v := .bool z93) hf rfl rfl (fun _ => by rw [← hz86]; rfl) (fun hb' => absurd (hb87.symm.trans hb') (by decide)) (by decide) ?_
        clear hf; intro a ha hf
        exact st_nil hf (th_n ⟨ha, rfl⟩)
      clear hf; intro a hf
      refine dr_take 64 (.bool z93) rfl (by kernel_rfl) (by kernel_rfl) (by kernel_rfl) (by kernel_rfl) rfl rfl hf (by decide) rfl (fun w hp => ?_) ⟨_, hp⟩ ?_
      · obtain ⟨_, hp⟩ := hp
        refine st_move hf rfl rfl (by decide) ?_
        clear hf; intro a ha hf
        exact st_nil hf (th_n ⟨ha, rfl⟩)
      clear hf; intro a hf
      refine dr_out 65 rfl (by kernel_rfl) (by kernel_rfl) (by kernel_rfl) (by kernel_rfl) rfl hf (by decide) rfl (wantN hf rfl rfl hb95) ⟨_, hp⟩ ?_
      clear hf; intro a hf
      refine dr_out 66 rfl (by kernel_rfl) (by kernel_rfl) (by kernel_rfl) (by kernel_rfl) rfl hf (by decide) rfl (wantN hf rfl rfl hb95) ⟨_, hp⟩ ?_
      clear hf; intro a hf
      refine dr_out 67 rfl (by kernel_rfl) (by kernel_rfl) (by kernel_rfl) (by kernel_rfl) rfl hf (by decide) rfl (wantN hf rfl rfl hb95) ⟨_, hp⟩ ?_
      clear hf; intro a hf
      refine dr_out 68 rfl (by kernel_rfl) (by kernel_rfl) (by kernel_rfl) (by kernel_rfl) rfl hf (by decide) rfl (wantN hf rfl rfl hb95) ⟨_, hp⟩ ?_
      clear hf; intro a hf
      refine dr_out 69 rfl (by kernel_rfl) (by kernel_rfl) (by kernel_rfl) (by kernel_rfl) rfl hf (by decide) rfl (wantN hf rfl rfl hb95) ⟨_, hp⟩ ?_
      clear hf; intro a hf
      refine dr_out 70 rfl (by kernel_rfl) (by kernel_rfl) (by kernel_rfl) (by kernel_rfl) rfl hf (by decide) rfl (wantN hf rfl rfl hb95) ⟨_, hp⟩ ?_
      clear hf; intro a hf
      refine dr_take 71 (.bool z97) rfl (by kernel_rfl) (by kernel_rfl) (by kernel_rfl) (by kernel_rfl) rfl rfl hf (by decide) rfl (fun w hp => ?_) ⟨_, hp⟩ ?_
      · obtain ⟨_, hp⟩ := hp
        refine st_pick (v := .bool z97) hf rfl rfl (fun _ => by rw [← hz94]; rfl) (fun hb' => absurd (hb95.symm.trans hb') (by decide)) (by decide) ?_
        clear hf; intro a ha hf
        exact st_nil hf (th_n ⟨ha, rfl⟩)
      clear hf; intro a hf
      refine dr_end (by kernel_rfl) ?_ _
      have hp := bk39 _ _ hp
      have hp := bk34 _ _ hp
      have hp := bk29 _ _ hp
      exact ⟨hf.sub ⟨rfl, rfl, rfl, rfl, rfl, trivial⟩, hp⟩
    skip
    replace hz74 := ifF hz74 hb75
    obtain ⟨hc76, hz74⟩ := chk hz74
    replace hz74 := Option.some.inj hz74
    rcases Bool.eq_false_or_eq_true z77 with hb79 | hb79
    · skip
      replace hz78 := ifT hz78 hb79
      replace hz78 := Option.some.inj hz78
      have hb87 : z85 = true := hz78.symm
      skip
      replace hz86 := ifT hz86 hb87
      replace hz86 := Option.some.inj hz86
      have hb95 : z93 = true := hz86.symm
      skip
      replace hz94 := ifT hz94 hb95
      replace hz94 := Option.some.inj hz94
      refine dr_begin' (fun a w => Fr 138 a [(0, vqx0), (1, vthere1), (7, v8), (8, v16), (98, .bool z97)] ∧ Hp S w0 w (Res.sl (Ek.int .u8) 5 v8 ((([] : List Int) ++ qx0) ++ [(99 : Int)]) :: Res.sl Ek.bool 4 v16 ((([] : List Bool) ++ there1) ++ [true]) :: Res.sl Ek.bool 4 v24 ((([] : List Bool) ++ bits2) ++ [true]) :: Res.sl Ek.bool 4 v21 ([true]) :: Res.sl Ek.bool 4 v13 ([true]) :: Res.sl (Ek.int .u8) 5 v5 ([(99 : Int)]) :: ow)) (fun w' => ∃ l, Hp S35 w w' l) [] (by kernel_rfl) ?_
      refine dr_take 0 (v8) rfl (by kernel_rfl) (by kernel_rfl) (by kernel_rfl) (by kernel_rfl) rfl rfl hf (by decide) rfl (fun w hp => ?_) ⟨_, hp⟩ ?_
      · obtain ⟨_, hp⟩ := hp
        refine st_move hf rfl rfl (by decide) ?_
        clear hf; intro a ha hf
        exact st_nil hf (th_n ⟨ha, rfl⟩)
      clear hf; intro a hf
      refine dr_take 1 (vqx0) rfl (by kernel_rfl) (by kernel_rfl) (by kernel_rfl) (by kernel_rfl) rfl rfl hf (by decide) rfl (fun w hp => ?_) ⟨_, hp⟩ ?_
      · obtain ⟨_, hp⟩ := hp
        refine st_move hf rfl rfl (by decide) ?_
        clear hf; intro a ha hf
        exact st_nil hf (th_n ⟨ha, rfl⟩)
      clear hf; intro a hf
      refine dr_take 2 (.int .i64 (qx0.length : Int)) rfl (by kernel_rfl) (by kernel_rfl) (by kernel_rfl) (by kernel_rfl) rfl rfl hf (by decide) rfl (fun w hp => ?_) ⟨_, hp⟩ ?_
      · obtain ⟨_, hp⟩ := hp
        refine st_len (E := (Ek.int .u8)) hf (by decide) Try.underlying22 rfl rfl (rl40.sl hp) ?_
        clear hf; intro a ha hf
        exact st_nil hf (th_n ⟨ha, rfl⟩)
      clear hf; intro a hf
      refine dr_take 3 ((GL.cut v8 0 (((qx0.length : Int)).toNat) 1)) rfl (by kernel_rfl) (by kernel_rfl) (by kernel_rfl) (by kernel_rfl) rfl rfl hf (by decide) rfl (fun w hp => ?_) ⟨_, hp⟩ ?_
      · obtain ⟨_, hp⟩ := hp
        refine st_cutS (E := (Ek.int .u8)) hf (by decide) Try.underlying22 elt5 rfl rfl (rl43.sl hp) (.inl ⟨rfl, rfl⟩) (.inr ⟨_, _, rfl, evI rfl (by omega)⟩) hc47 hc48 ?_
        clear hf; intro a ha hf
        exact st_nil hf (th_n ⟨ha, rfl⟩)
      clear hf; intro a hf
      refine dr_take 4 (v16) rfl (by kernel_rfl) (by kernel_rfl) (by kernel_rfl) (by kernel_rfl) rfl rfl hf (by decide) rfl (fun w hp => ?_) ⟨_, hp⟩ ?_
      · obtain ⟨_, hp⟩ := hp
        refine st_move hf rfl rfl (by decide) ?_
        clear hf; intro a ha hf
        exact st_nil hf (th_n ⟨ha, rfl⟩)
      clear hf; intro a hf
      refine dr_take 5 (vthere1) rfl (by kernel_rfl) (by kernel_rfl) (by kernel_rfl) (by kernel_rfl) rfl rfl hf (by decide) rfl (fun w hp => ?_) ⟨_, hp⟩ ?_
      · obtain ⟨_, hp⟩ := hp
        refine st_move hf rfl rfl (by decide) ?_
        clear hf; intro a ha hf
        exact st_nil hf (th_n ⟨ha, rfl⟩)
      clear hf; intro a hf
      refine dr_take 6 (.int .i64 (there1.length : Int)) rfl (by kernel_rfl) (by kernel_rfl) (by kernel_rfl) (by kernel_rfl) rfl rfl hf (by decide) rfl (fun w hp => ?_) ⟨_, hp⟩ ?_
      · obtain ⟨_, hp⟩ := hp
        refine st_len (E := Ek.bool) hf (by decide) Try.underlying27 rfl rfl (rl41.sl hp) ?_
        clear hf; intro a ha hf
        exact st_nil hf (th_n ⟨ha, rfl⟩)
      clear hf; intro a hf
      refine dr_take 7 ((GL.cut v16 0 (((there1.length : Int)).toNat) 1)) rfl (by kernel_rfl) (by kernel_rfl) (by kernel_rfl) (by kernel_rfl) rfl rfl hf (by decide) rfl (fun w hp => ?_) ⟨_, hp⟩ ?_
      · obtain ⟨_, hp⟩ := hp
        refine st_cutS (E := Ek.bool) hf (by decide) Try.underlying27 elt4 rfl rfl (rl44.sl hp) (.inl ⟨rfl, rfl⟩) (.inr ⟨_, _, rfl, evI rfl (by omega)⟩) hc50 hc51 ?_
        clear hf; intro a ha hf
        exact st_nil hf (th_n ⟨ha, rfl⟩)
      clear hf; intro a hf
      refine dr_take 8 (vqx0) rfl (by kernel_rfl) (by kernel_rfl) (by kernel_rfl) (by kernel_rfl) rfl rfl hf (by decide) rfl (fun w hp => ?_) ⟨_, hp⟩ ?_
      · obtain ⟨_, hp⟩ := hp
        refine st_move hf rfl rfl (by decide) ?_
        clear hf; intro a ha hf
        exact st_nil hf (th_n ⟨ha, rfl⟩)
      clear hf; intro a hf
      refine dr_take 9 (vthere1) rfl (by kernel_rfl) (by kernel_rfl) (by kernel_rfl) (by kernel_rfl) rfl rfl hf (by decide) rfl (fun w hp => ?_) ⟨_, hp⟩ ?_
      · obtain ⟨_, hp⟩ := hp
        refine st_move hf rfl rfl (by decide) ?_
        clear hf; intro a ha hf
        exact st_nil hf (th_n ⟨ha, rfl⟩)
      clear hf; intro a hf
      refine dr_one 10 rfl (by kernel_rfl) ?_
      refine st_call hf (by decide) Try.func15 rfl rfl rfl rfl rfl (f_foghornlaw06_rows_c hp _ _ (RdS.cut rl43 hc47 hc48) _ _ (RdS.cut rl44 hc50 hc51) _ _ rl40 _ _ rl41 hcall53) ?_
      rintro _ w ⟨rfl, hp0⟩
      clear hp; have hp := hp0; clear hp0
      replace hp : Hp _ _ _ (Res.sl Ek.bool 4 v21 ([true]) :: Res.sl Ek.bool 4 v13 ([true]) :: Res.sl (Ek.int .u8) 5 v5 ([(99 : Int)]) :: ow) := hp
      refine ⟨_, rfl, ?_⟩
      clear hf; intro a hf
      refine st_nil hf (th_n ⟨fun _ _ => ⟨_, hp⟩, ?_⟩)
      refine dr_take 11 (.bool (!q52)) rfl (by kernel_rfl) (by kernel_rfl) (by kernel_rfl) (by kernel_rfl) rfl rfl hf (by decide) rfl (fun w hp => ?_) ⟨_, hp⟩ ?_
      · obtain ⟨_, hp⟩ := hp
        refine st_not hf (by decide) rfl rfl ?_
        clear hf; intro a ha hf
        exact st_nil hf (th_n ⟨ha, rfl⟩)
      clear hf; intro a hf
      refine dr_take 12 (.bool (!q52)) rfl (by kernel_rfl) (by kernel_rfl) (by kernel_rfl) (by kernel_rfl) rfl rfl hf (by decide) rfl (fun w hp => ?_) ⟨_, hp⟩ ?_
      · obtain ⟨_, hp⟩ := hp
        refine st_move hf rfl rfl (by decide) ?_
        clear hf; intro a ha hf
        exact st_nil hf (th_n ⟨ha, rfl⟩)
      clear hf; intro a hf
      refine dr_take 13 (v8) rfl (by kernel_rfl) (by kernel_rfl) (by kernel_rfl) (by kernel_rfl) rfl rfl hf (by decide) (wantY hf rfl rfl hb55) (fun w hp => ?_) ⟨_, hp⟩ ?_
      · obtain ⟨_, hp⟩ := hp
        refine st_move hf (wantY hf rfl rfl hb55) rfl (by decide) ?_
        clear hf; intro a ha hf
        exact st_nil hf (th_n ⟨ha, rfl⟩)
      clear hf; intro a hf
      refine dr_take 14 (vqx0) rfl (by kernel_rfl) (by kernel_rfl) (by kernel_rfl) (by kernel_rfl) rfl rfl hf (by decide) (wantY hf rfl rfl hb55) (fun w hp => ?_) ⟨_, hp⟩ ?_
      · obtain ⟨_, hp⟩ := hp
        refine st_move hf (wantY hf rfl rfl hb55) rfl (by decide) ?_
        clear hf; intro a ha hf
        exact st_nil hf (th_n ⟨ha, rfl⟩)
      clear hf; intro a hf
      refine dr_take 15 (.int .i64 (qx0.length : Int)) rfl (by kernel_rfl) (by kernel_rfl) (by kernel_rfl) (by kernel_rfl) rfl rfl hf (by decide) (wantY hf rfl rfl hb55) (fun w hp => ?_) ⟨_, hp⟩ ?_
      · obtain ⟨_, hp⟩ := hp
        refine st_len (E := (Ek.int .u8)) hf (by decide) Try.underlying22 (wantY hf rfl rfl hb55) rfl (rl40.sl hp) ?_
        clear hf; intro a ha hf
        exact st_nil hf (th_n ⟨ha, rfl⟩)
      clear hf; intro a hf
      refine dr_take 16 ((GL.cut v8 0 (((qx0.length : Int)).toNat) 1)) rfl (by kernel_rfl) (by kernel_rfl) (by kernel_rfl) (by kernel_rfl) rfl rfl hf (by decide) (wantY hf rfl rfl hb55) (fun w hp => ?_) ⟨_, hp⟩ ?_
      · obtain ⟨_, hp⟩ := hp
        refine st_cutS (E := (Ek.int .u8)) hf (by decide) Try.underlying22 elt5 (wantY hf rfl rfl hb55) rfl (rl43.sl hp) (.inl ⟨rfl, rfl⟩) (.inr ⟨_, _, rfl, evI rfl (by omega)⟩) hc57 hc58 ?_
        clear hf; intro a ha hf
        exact st_nil hf (th_n ⟨ha, rfl⟩)
      clear hf; intro a hf
      refine dr_take 17 (vqx0) rfl (by kernel_rfl) (by kernel_rfl) (by kernel_rfl) (by kernel_rfl) rfl rfl hf (by decide) (wantY hf rfl rfl hb55) (fun w hp => ?_) ⟨_, hp⟩ ?_
      · obtain ⟨_, hp⟩ := hp
        refine st_move hf (wantY hf rfl rfl hb55) rfl (by decide) ?_
        clear hf; intro a ha hf
        exact st_nil hf (th_n ⟨ha, rfl⟩)
      clear hf; intro a hf
      refine dr_one 18 rfl (by kernel_rfl) ?_
      refine st_call hf (by decide) Try.func13 rfl rfl (wantY hf rfl rfl hb55) rfl rfl (f_foghornlaw06_quarters_c hp _ _ (RdS.cut rl43 hc57 hc58) _ _ rl40 hcall60) ?_
      rintro _ w ⟨rfl, hp0⟩
      clear hp; have hp := hp0; clear hp0
      replace hp : Hp _ _ _ (Res.sl Ek.bool 4 v21 ([true]) :: Res.sl Ek.bool 4 v13 ([true]) :: Res.sl (Ek.int .u8) 5 v5 ([(99 : Int)]) :: ow) := hp
      refine ⟨_, rfl, ?_⟩
      clear hf; intro a hf
      refine st_nil hf (th_n ⟨fun _ _ => ⟨_, hp⟩, ?_⟩)
      refine dr_take 19 (.bool (!q59)) rfl (by kernel_rfl) (by kernel_rfl) (by kernel_rfl) (by kernel_rfl) rfl rfl hf (by decide) (wantY hf rfl rfl hb55) (fun w hp => ?_) ⟨_, hp⟩ ?_
      · obtain ⟨_, hp⟩ := hp
        refine st_not hf (by decide) (wantY hf rfl rfl hb55) rfl ?_
        clear hf; intro a ha hf
        exact st_nil hf (th_n ⟨ha, rfl⟩)
      clear hf; intro a hf
      refine dr_take 20 (.bool z61) rfl (by kernel_rfl) (by kernel_rfl) (by kernel_rfl) (by kernel_rfl) rfl rfl hf (by decide) rfl (fun w hp => ?_) ⟨_, hp⟩ ?_
      · obtain ⟨_, hp⟩ := hp
        refine st_pick (v := .bool z61) hf rfl rfl (fun hb' => absurd (hb55.symm.trans hb') (by decide)) (fun _ => by rw [← hz54]; rfl) (by decide) ?_
        clear hf; intro a ha hf
        exact st_nil hf (th_n ⟨ha, rfl⟩)
      clear hf; intro a hf
      refine dr_take 21 (.bool z61) rfl (by kernel_rfl) (by kernel_rfl) (by kernel_rfl) (by kernel_rfl) rfl rfl hf (by decide) rfl (fun w hp => ?_) ⟨_, hp⟩ ?_
      · obtain ⟨_, hp⟩ := hp
        refine st_move hf rfl rfl (by decide) ?_
        clear hf; intro a ha hf
        exact st_nil hf (th_n ⟨ha, rfl⟩)
      clear hf; intro a hf
      refine dr_take 22 (v8) rfl (by kernel_rfl) (by kernel_rfl) (by kernel_rfl) (by kernel_rfl) rfl rfl hf (by decide) (wantY hf rfl rfl hb63) (fun w hp => ?_) ⟨_, hp⟩ ?_
      · obtain ⟨_, hp⟩ := hp
        refine st_move hf (wantY hf rfl rfl hb63) rfl (by decide) ?_
        clear hf; intro a ha hf
        exact st_nil hf (th_n ⟨ha, rfl⟩)
      clear hf; intro a hf
      refine dr_take 23 (vqx0) rfl (by kernel_rfl) (by kernel_rfl) (by kernel_rfl) (by kernel_rfl) rfl rfl hf (by decide) (wantY hf rfl rfl hb63) (fun w hp => ?_) ⟨_, hp⟩ ?_
      · obtain ⟨_, hp⟩ := hp
        refine st_move hf (wantY hf rfl rfl hb63) rfl (by decide) ?_
        clear hf; intro a ha hf
        exact st_nil hf (th_n ⟨ha, rfl⟩)
      clear hf; intro a hf
      refine dr_take 24 (.int .i64 (qx0.length : Int)) rfl (by kernel_rfl) (by kernel_rfl) (by kernel_rfl) (by kernel_rfl) rfl rfl hf (by decide) (wantY hf rfl rfl hb63) (fun w hp => ?_) ⟨_, hp⟩ ?_
      · obtain ⟨_, hp⟩ := hp
        refine st_len (E := (Ek.int .u8)) hf (by decide) Try.underlying22 (wantY hf rfl rfl hb63) rfl (rl40.sl hp) ?_
        clear hf; intro a ha hf
        exact st_nil hf (th_n ⟨ha, rfl⟩)
      clear hf; intro a hf
      refine dr_take 25 (eptr v8 (qx0.length : Int) 1) rfl (by kernel_rfl) (by kernel_rfl) (by kernel_rfl) (by kernel_rfl) rfl rfl hf (by decide) (wantY hf rfl rfl hb63) (fun w hp => ?_) ⟨_, hp⟩ ?_
      · obtain ⟨_, hp⟩ := hp
        refine st_index (E := (Ek.int .u8)) hf (by decide) Try.underlying22 elt5 (wantY hf rfl rfl hb63) rfl rfl (rl43.sl hp) hc64.1 hc64.2 ?_
        clear hf; intro a ha hf
        exact st_nil hf (th_n ⟨ha, rfl⟩)
      clear hf; intro a hf
      refine dr_take 26 (.int .u8 (gt ((([] : List Int) ++ qx0) ++ [(99 : Int)]) (qx0.length : Int))) rfl (by kernel_rfl) (by kernel_rfl) (by kernel_rfl) (by kernel_rfl) rfl rfl hf (by decide) (wantY hf rfl rfl hb63) (fun w hp => ?_) ⟨_, hp⟩ ?_
      · obtain ⟨_, hp⟩ := hp
        refine st_ldI hf (by decide) pl5 (wantY hf rfl rfl hb63) rfl (rl43.sl hp) hc64.1 hc64.2 ?_
        clear hf; intro a ha hf
        exact st_nil hf (th_n ⟨ha, rfl⟩)
      clear hf; intro a hf
      refine dr_take 27 (.bool ((gt ((([] : List Int) ++ qx0) ++ [(99 : Int)]) (qx0.length : Int)) != (99 : Int))) rfl (by kernel_rfl) (by kernel_rfl) (by kernel_rfl) (by kernel_rfl) rfl rfl hf (by decide) (wantY hf rfl rfl hb63) (fun w hp => ?_) ⟨_, hp⟩ ?_
      · obtain ⟨_, hp⟩ := hp
        refine st_ineq hf (by decide) (wantY hf rfl rfl hb63) rfl rfl ?_
        clear hf; intro a ha hf
        exact st_nil hf (th_n ⟨ha, rfl⟩)
      clear hf; intro a hf
      refine dr_take 28 (.bool z65) rfl (by kernel_rfl) (by kernel_rfl) (by kernel_rfl) (by kernel_rfl) rfl rfl hf (by decide) rfl (fun w hp => ?_) ⟨_, hp⟩ ?_
      · obtain ⟨_, hp⟩ := hp
        refine st_pick (v := .bool z65) hf rfl rfl (fun hb' => absurd (hb63.symm.trans hb') (by decide)) (fun _ => by rw [← hz62]; rfl) (by decide) ?_
        clear hf; intro a ha hf
        exact st_nil hf (th_n ⟨ha, rfl⟩)
      clear hf; intro a hf
      refine dr_take 29 (.bool z65) rfl (by kernel_rfl) (by kernel_rfl) (by kernel_rfl) (by kernel_rfl) rfl rfl hf (by decide) rfl (fun w hp => ?_) ⟨_, hp⟩ ?_
      · obtain ⟨_, hp⟩ := hp
        refine st_move hf rfl rfl (by decide) ?_
        clear hf; intro a ha hf
        exact st_nil hf (th_n ⟨ha, rfl⟩)
      clear hf; intro a hf
      refine dr_take 30 (v16) rfl (by kernel_rfl) (by kernel_rfl) (by kernel_rfl) (by kernel_rfl) rfl rfl hf (by decide) (wantY hf rfl rfl hb67) (fun w hp => ?_) ⟨_, hp⟩ ?_
      · obtain ⟨_, hp⟩ := hp
        refine st_move hf (wantY hf rfl rfl hb67) rfl (by decide) ?_
        clear hf; intro a ha hf
        exact st_nil hf (th_n ⟨ha, rfl⟩)
      clear hf; intro a hf
      refine dr_take 31 (vthere1) rfl (by kernel_rfl) (by kernel_rfl) (by kernel_rfl) (by kernel_rfl) rfl rfl hf (by decide) (wantY hf rfl rfl hb67) (fun w hp => ?_) ⟨_, hp⟩ ?_
      · obtain ⟨_, hp⟩ := hp
        refine st_move hf (wantY hf rfl rfl hb67) rfl (by decide) ?_
        clear hf; intro a ha hf
        exact st_nil hf (th_n ⟨ha, rfl⟩)
      clear hf; intro a hf
      refine dr_take 32 (.int .i64 (there1.length : Int)) rfl (by kernel_rfl) (by kernel_rfl) (by kernel_rfl) (by kernel_rfl) rfl rfl hf (by decide) (wantY hf rfl rfl hb67) (fun w hp => ?_) ⟨_, hp⟩ ?_
      · obtain ⟨_, hp⟩ := hp
        refine st_len (E := Ek.bool) hf (by decide) Try.underlying27 (wantY hf rfl rfl hb67) rfl (rl41.sl hp) ?_
        clear hf; intro a ha hf
        exact st_nil hf (th_n ⟨ha, rfl⟩)
      clear hf; intro a hf
      refine dr_take 33 ((GL.cut v16 0 (((there1.length : Int)).toNat) 1)) rfl (by kernel_rfl) (by kernel_rfl) (by kernel_rfl) (by kernel_rfl) rfl rfl hf (by decide) (wantY hf rfl rfl hb67) (fun w hp => ?_) ⟨_, hp⟩ ?_
      · obtain ⟨_, hp⟩ := hp
        refine st_cutS (E := Ek.bool) hf (by decide) Try.underlying27 elt4 (wantY hf rfl rfl hb67) rfl (rl44.sl hp) (.inl ⟨rfl, rfl⟩) (.inr ⟨_, _, rfl, evI rfl (by omega)⟩) hc69 hc70 ?_
        clear hf; intro a ha hf
        exact st_nil hf (th_n ⟨ha, rfl⟩)
      clear hf; intro a hf
      refine dr_take 34 (vthere1) rfl (by kernel_rfl) (by kernel_rfl) (by kernel_rfl) (by kernel_rfl) rfl rfl hf (by decide) (wantY hf rfl rfl hb67) (fun w hp => ?_) ⟨_, hp⟩ ?_
      · obtain ⟨_, hp⟩ := hp
        refine st_move hf (wantY hf rfl rfl hb67) rfl (by decide) ?_
        clear hf; intro a ha hf
        exact st_nil hf (th_n ⟨ha, rfl⟩)
      clear hf; intro a hf
      refine dr_one 35 rfl (by kernel_rfl) ?_
      refine st_call hf (by decide) Try.func16 rfl rfl (wantY hf rfl rfl hb67) rfl rfl (f_foghornlaw06_truths_c hp _ _ (RdS.cut rl44 hc69 hc70) _ _ rl41 hcall72) ?_
      rintro _ w ⟨rfl, hp0⟩
      clear hp; have hp := hp0; clear hp0
      replace hp : Hp _ _ _ (Res.sl Ek.bool 4 v21 ([true]) :: Res.sl Ek.bool 4 v13 ([true]) :: Res.sl (Ek.int .u8) 5 v5 ([(99 : Int)]) :: ow) := hp
      refine ⟨_, rfl, ?_⟩
      clear hf; intro a hf
      refine st_nil hf (th_n ⟨fun _ _ => ⟨_, hp⟩, ?_⟩)
      refine dr_take 36 (.bool (!q71)) rfl (by kernel_rfl) (by kernel_rfl) (by kernel_rfl) (by kernel_rfl) rfl rfl hf (by decide) (wantY hf rfl rfl hb67) (fun w hp => ?_) ⟨_, hp⟩ ?_
      · obtain ⟨_, hp⟩ := hp
        refine st_not hf (by decide) (wantY hf rfl rfl hb67) rfl ?_
        clear hf; intro a ha hf
        exact st_nil hf (th_n ⟨ha, rfl⟩)
      clear hf; intro a hf
      refine dr_take 37 (.bool z73) rfl (by kernel_rfl) (by kernel_rfl) (by kernel_rfl) (by kernel_rfl) rfl rfl hf (by decide) rfl (fun w hp => ?_) ⟨_, hp⟩ ?_
      · obtain ⟨_, hp⟩ := hp
        refine st_pick (v := .bool z73) hf rfl rfl (fun hb' => absurd (hb67.symm.trans hb') (by decide)) (fun _ => by rw [← hz66]; rfl) (by decide) ?_
        clear hf; intro a ha hf
        exact st_nil hf (th_n ⟨ha, rfl⟩)
      clear hf; intro a hf
      refine dr_take 38 (.bool z73) rfl (by kernel_rfl) (by kernel_rfl) (by kernel_rfl) (by kernel_rfl) rfl rfl hf (by decide) rfl (fun w hp => ?_) ⟨_, hp⟩ ?_
      · obtain ⟨_, hp⟩ := hp
        refine st_move hf rfl rfl (by decide) ?_
        clear hf; intro a ha hf
        exact st_nil hf (th_n ⟨ha, rfl⟩)
      clear hf; intro a hf
      refine dr_take 39 (v16) rfl (by kernel_rfl) (by kernel_rfl) (by kernel_rfl) (by kernel_rfl) rfl rfl hf (by decide) (wantY hf rfl rfl hb75) (fun w hp => ?_) ⟨_, hp⟩ ?_
      · obtain ⟨_, hp⟩ := hp
        refine st_move hf (wantY hf rfl rfl hb75) rfl (by decide) ?_
        clear hf; intro a ha hf
        exact st_nil hf (th_n ⟨ha, rfl⟩)
      clear hf; intro a hf
      refine dr_take 40 (vthere1) rfl (by kernel_rfl) (by kernel_rfl) (by kernel_rfl) (by kernel_rfl) rfl rfl hf (by decide) (wantY hf rfl rfl hb75) (fun w hp => ?_) ⟨_, hp⟩ ?_
      · obtain ⟨_, hp⟩ := hp
        refine st_move hf (wantY hf rfl rfl hb75) rfl (by decide) ?_
        clear hf; intro a ha hf
        exact st_nil hf (th_n ⟨ha, rfl⟩)
      clear hf; intro a hf
      refine dr_take 41 (.int .i64 (there1.length : Int)) rfl (by kernel_rfl) (by kernel_rfl) (by kernel_rfl) (by kernel_rfl) rfl rfl hf (by decide) (wantY hf rfl rfl hb75) (fun w hp => ?_) ⟨_, hp⟩ ?_
      · obtain ⟨_, hp⟩ := hp
        refine st_len (E := Ek.bool) hf (by decide) Try.underlying27 (wantY hf rfl rfl hb75) rfl (rl41.sl hp) ?_
        clear hf; intro a ha hf
        exact st_nil hf (th_n ⟨ha, rfl⟩)
      clear hf; intro a hf
      refine dr_take 42 (eptr v16 (there1.length : Int) 1) rfl (by kernel_rfl) (by kernel_rfl) (by kernel_rfl) (by kernel_rfl) rfl rfl hf (by decide) (wantY hf rfl rfl hb75) (fun w hp => ?_) ⟨_, hp⟩ ?_
      · obtain ⟨_, hp⟩ := hp
        refine st_index (E := Ek.bool) hf (by decide) Try.underlying27 elt4 (wantY hf rfl rfl hb75) rfl rfl (rl44.sl hp) hc76.1 hc76.2 ?_
        clear hf; intro a ha hf
        exact st_nil hf (th_n ⟨ha, rfl⟩)
      clear hf; intro a hf
      refine dr_take 43 (.bool (gt ((([] : List Bool) ++ there1) ++ [true]) (there1.length : Int))) rfl (by kernel_rfl) (by kernel_rfl) (by kernel_rfl) (by kernel_rfl) rfl rfl hf (by decide) (wantY hf rfl rfl hb75) (fun w hp => ?_) ⟨_, hp⟩ ?_
      · obtain ⟨_, hp⟩ := hp
        refine st_ldB hf (by decide) pl4 (wantY hf rfl rfl hb75) rfl (rl44.sl hp) hc76.1 hc76.2 ?_
        clear hf; intro a ha hf
        exact st_nil hf (th_n ⟨ha, rfl⟩)
      clear hf; intro a hf
      refine dr_take 44 (.bool (!(gt ((([] : List Bool) ++ there1) ++ [true]) (there1.length : Int)))) rfl (by kernel_rfl) (by kernel_rfl) (by kernel_rfl) (by kernel_rfl) rfl rfl hf (by decide) (wantY hf rfl rfl hb75) (fun w hp => ?_) ⟨_, hp⟩ ?_
      · obtain ⟨_, hp⟩ := hp
        refine st_not hf (by decide) (wantY hf rfl rfl hb75) rfl ?_
        clear hf; intro a ha hf
        exact st_nil hf (th_n ⟨ha, rfl⟩)
      clear hf; intro a hf
      refine dr_take 45 (.bool z77) rfl (by kernel_rfl) (by kernel_rfl) (by kernel_rfl) (by kernel_rfl) rfl rfl hf (by decide) rfl (fun w hp => ?_) ⟨_, hp⟩ ?_
      · obtain ⟨_, hp⟩ := hp
        refine st_pick (v := .bool z77) hf rfl rfl (fun hb' => absurd (hb75.symm.trans hb') (by decide)) (fun _ => by rw [← hz74]; rfl) (by decide) ?_
        clear hf; intro a ha hf
        exact st_nil hf (th_n ⟨ha, rfl⟩)
      clear hf; intro a hf
      refine dr_take 46 (.bool z77) rfl (by kernel_rfl) (by kernel_rfl) (by kernel_rfl) (by kernel_rfl) rfl rfl hf (by decide) rfl (fun w hp => ?_) ⟨_, hp⟩ ?_
      · obtain ⟨_, hp⟩ := hp
        refine st_move hf rfl rfl (by decide) ?_
        clear hf; intro a ha hf
        exact st_nil hf (th_n ⟨ha, rfl⟩)
      clear hf; intro a hf
      refine dr_out 47 rfl (by kernel_rfl) (by kernel_rfl) (by kernel_rfl) (by kernel_rfl) rfl hf (by decide) rfl (wantN hf rfl rfl hb79) ⟨_, hp⟩ ?_
      clear hf; intro a hf
      refine dr_out 48 rfl (by kernel_rfl) (by kernel_rfl) (by kernel_rfl) (by kernel_rfl) rfl hf (by decide) rfl (wantN hf rfl rfl hb79) ⟨_, hp⟩ ?_
      clear hf; intro a hf
      refine dr_out 49 rfl (by kernel_rfl) (by kernel_rfl) (by kernel_rfl) (by kernel_rfl) rfl hf (by decide) rfl (wantN hf rfl rfl hb79) ⟨_, hp⟩ ?_
      clear hf; intro a hf
      refine dr_out 50 rfl (by kernel_rfl) (by kernel_rfl) (by kernel_rfl) (by kernel_rfl) rfl hf (by decide) rfl (wantN hf rfl rfl hb79) ⟨_, hp⟩ ?_
      clear hf; intro a hf
      refine dr_out 51 rfl (by kernel_rfl) (by kernel_rfl) (by kernel_rfl) (by kernel_rfl) rfl hf (by decide) rfl (wantN hf rfl rfl hb79) ⟨_, hp⟩ ?_
      clear hf; intro a hf
      refine dr_out 52 rfl (by kernel_rfl) (by kernel_rfl) (by kernel_rfl) (by kernel_rfl) rfl hf (by decide) rfl (wantN hf rfl rfl hb79) ⟨_, hp⟩ ?_
      clear hf; intro a hf
      refine dr_out 53 rfl (by kernel_rfl) (by kernel_rfl) (by kernel_rfl) (by kernel_rfl) rfl hf (by decide) rfl (wantN hf rfl rfl hb79) ⟨_, hp⟩ ?_
      clear hf; intro a hf
      refine dr_take 54 (.bool z85) rfl (by kernel_rfl) (by kernel_rfl) (by kernel_rfl) (by kernel_rfl) rfl rfl hf (by decide) rfl (fun w hp => ?_) ⟨_, hp⟩ ?_
      · obtain ⟨_, hp⟩ := hp
        refine st_pick (v := .bool z85) hf rfl rfl (fun _ => by rw [← hz78]; rfl) (fun hb' => absurd (hb79.symm.trans hb') (by decide)) (by decide) ?_
        clear hf; intro a ha hf
        exact st_nil hf (th_n ⟨ha, rfl⟩)
      clear hf; intro a hf
      refine dr_take 55 (.bool z85) rfl (by kernel_rfl) (by kernel_rfl) (by kernel_rfl) (by kernel_rfl) rfl rfl hf (by decide) rfl (fun w hp => ?_) ⟨_, hp⟩ ?_
      · obtain ⟨_, hp⟩ := hp
        refine st_move hf rfl rfl (by decide) ?_
        clear hf; intro a ha hf
        exact st_nil hf (th_n ⟨ha, rfl⟩)
      clear hf; intro a hf
      refine dr_out 56 rfl (by kernel_rfl) (by kernel_rfl) (by kernel_rfl) (by kernel_rfl) rfl hf (by decide) rfl (wantN hf rfl rfl hb87) ⟨_, hp⟩ ?_
      clear hf; intro a hf
      refine dr_out 57 rfl (by kernel_rfl) (by kernel_rfl) (by kernel_rfl) (by kernel_rfl) rfl hf (by decide) rfl (wantN hf rfl rfl hb87) ⟨_, hp⟩ ?_
      clear hf; intro a hf
      refine dr_out 58 rfl (by kernel_rfl) (by kernel_rfl) (by kernel_rfl) (by kernel_rfl) rfl hf (by decide) rfl (wantN hf rfl rfl hb87) ⟨_, hp⟩ ?_
      clear hf; intro a hf
      refine dr_out 59 rfl (by kernel_rfl) (by kernel_rfl) (by kernel_rfl) (by kernel_rfl) rfl hf (by decide) rfl (wantN hf rfl rfl hb87) ⟨_, hp⟩ ?_
      clear hf; intro a hf
      refine dr_out 60 rfl (by kernel_rfl) (by kernel_rfl) (by kernel_rfl) (by kernel_rfl) rfl hf (by decide) rfl (wantN hf rfl rfl hb87) ⟨_, hp⟩ ?_
      clear hf; intro a hf
      refine dr_out 61 rfl (by kernel_rfl) (by kernel_rfl) (by kernel_rfl) (by kernel_rfl) rfl hf (by decide) rfl (wantN hf rfl rfl hb87) ⟨_, hp⟩ ?_
      clear hf; intro a hf
      refine dr_out 62 rfl (by kernel_rfl) (by kernel_rfl) (by kernel_rfl) (by kernel_rfl) rfl hf (by decide) rfl (wantN hf rfl rfl hb87) ⟨_, hp⟩ ?_
      clear hf; intro a hf
      refine dr_take 63 (.bool z93) rfl (by kernel_rfl) (by kernel_rfl) (by kernel_rfl) (by kernel_rfl) rfl rfl hf (by decide) rfl (fun w hp => ?_) ⟨_, hp⟩ ?_
      · obtain ⟨_, hp⟩ := hp
        refine st_pick (v := .bool z93) hf rfl rfl (fun _ => by rw [← hz86]; rfl) (fun hb' => absurd (hb87.symm.trans hb') (by decide)) (by decide) ?_
        clear hf; intro a ha hf
        exact st_nil hf (th_n ⟨ha, rfl⟩)
      clear hf; intro a hf
      refine dr_take 64 (.bool z93) rfl (by kernel_rfl) (by kernel_rfl) (by kernel_rfl) (by kernel_rfl) rfl rfl hf (by decide) rfl (fun w hp => ?_) ⟨_, hp⟩ ?_
      · obtain ⟨_, hp⟩ := hp
        refine st_move hf rfl rfl (by decide) ?_
        clear hf; intro a ha hf
        exact st_nil hf (th_n ⟨ha, rfl⟩)
      clear hf; intro a hf
      refine dr_out 65 rfl (by kernel_rfl) (by kernel_rfl) (by kernel_rfl) (by kernel_rfl) rfl hf (by decide) rfl (wantN hf rfl rfl hb95) ⟨_, hp⟩ ?_
      clear hf; intro a hf
      refine dr_out 66 rfl (by kernel_rfl) (by kernel_rfl) (by kernel_rfl) (by kernel_rfl) rfl hf (by decide) rfl (wantN hf rfl rfl hb95) ⟨_, hp⟩ ?_
      clear hf; intro a hf
      refine dr_out 67 rfl (by kernel_rfl) (by kernel_rfl) (by kernel_rfl) (by kernel_rfl) rfl hf (by decide) rfl (wantN hf rfl rfl hb95) ⟨_, hp⟩ ?_
      clear hf; intro a hf
      refine dr_out 68 rfl (by kernel_rfl) (by kernel_rfl) (by kernel_rfl) (by kernel_rfl) rfl hf (by decide) rfl (wantN hf rfl rfl hb95) ⟨_, hp⟩ ?_
      clear hf; intro a hf
      refine dr_out 69 rfl (by kernel_rfl) (by kernel_rfl) (by kernel_rfl) (by kernel_rfl) rfl hf (by decide) rfl (wantN hf rfl rfl hb95) ⟨_, hp⟩ ?_
      clear hf; intro a hf
      refine dr_out 70 rfl (by kernel_rfl) (by kernel_rfl) (by kernel_rfl) (by kernel_rfl) rfl hf (by decide) rfl (wantN hf rfl rfl hb95) ⟨_, hp⟩ ?_
      clear hf; intro a hf
      refine dr_take 71 (.bool z97) rfl (by kernel_rfl) (by kernel_rfl) (by kernel_rfl) (by kernel_rfl) rfl rfl hf (by decide) rfl (fun w hp => ?_) ⟨_, hp⟩ ?_
      · obtain ⟨_, hp⟩ := hp
        refine st_pick (v := .bool z97) hf rfl rfl (fun _ => by rw [← hz94]; rfl) (fun hb' => absurd (hb95.symm.trans hb') (by decide)) (by decide) ?_
        clear hf; intro a ha hf
        exact st_nil hf (th_n ⟨ha, rfl⟩)
      clear hf; intro a hf
      refine dr_end (by kernel_rfl) ?_ _
      have hp := bk39 _ _ hp
      have hp := bk34 _ _ hp
      have hp := bk29 _ _ hp
      exact ⟨hf.sub ⟨rfl, rfl, rfl, rfl, rfl, trivial⟩, hp⟩
    skip
    replace hz78 := ifF hz78 hb79
    obtain ⟨hc80, hz78⟩ := chk hz78
    have hc81 : 0 ≤ ((bits2.length : Int)).toNat := by omega
    have hc82 : ((bits2.length : Int)).toNat ≤ ((([] : List Bool) ++ bits2) ++ [true]).length := by omega
    obtain ⟨q83, hcall84, hz78⟩ := bnd hz78
    replace hz78 := Option.some.inj hz78
    rcases Bool.eq_false_or_eq_true z85 with hb87 | hb87
    · skip
      replace hz86 := ifT hz86 hb87
      replace hz86 := Option.some.inj hz86
      have hb95 : z93 = true := hz86.symm
      skip
      replace hz94 := ifT hz94 hb95
      replace hz94 := Option.some.inj hz94
      refine dr_begin' (fun a w => Fr 138 a [(0, vqx0), (1, vthere1), (7, v8), (8, v16), (98, .bool z97)] ∧ Hp S w0 w (Res.sl (Ek.int .u8) 5 v8 ((([] : List Int) ++ qx0) ++ [(99 : Int)]) :: Res.sl Ek.bool 4 v16 ((([] : List Bool) ++ there1) ++ [true]) :: Res.sl Ek.bool 4 v24 ((([] : List Bool) ++ bits2) ++ [true]) :: Res.sl Ek.bool 4 v21 ([true]) :: Res.sl Ek.bool 4 v13 ([true]) :: Res.sl (Ek.int .u8) 5 v5 ([(99 : Int)]) :: ow)) (fun w' => ∃ l, Hp S35 w w' l) [] (by kernel_rfl) ?_
      refine dr_take 0 (v8) rfl (by kernel_rfl) (by kernel_rfl) (by kernel_rfl) (by kernel_rfl) rfl rfl hf (by decide) rfl (fun w hp => ?_) ⟨_, hp⟩ ?_
      · obtain ⟨_, hp⟩ := hp
        refine st_move hf rfl rfl (by decide) ?_
        clear hf; intro a ha hf
        exact st_nil hf (th_n ⟨ha, rfl⟩)
      clear hf; intro a hf
      refine dr_take 1 (vqx0) rfl (by kernel_rfl) (by kernel_rfl) (by kernel_rfl) (by kernel_rfl) rfl rfl hf (by decide) rfl (fun w hp => ?_) ⟨_, hp⟩ ?_
      · obtain ⟨_, hp⟩ := hp
        refine st_move hf rfl rfl (by decide) ?_
        clear hf; intro a ha hf
        exact st_nil hf (th_n ⟨ha, rfl⟩)
      clear hf; intro a hf
      refine dr_take 2 (.int .i64 (qx0.length : Int)) rfl (by kernel_rfl) (by kernel_rfl) (by kernel_rfl) (by kernel_rfl) rfl rfl hf (by decide) rfl (fun w hp => ?_) ⟨_, hp⟩ ?_
      · obtain ⟨_, hp⟩ := hp
        refine st_len (E := (Ek.int .u8)) hf (by decide) Try.underlying22 rfl rfl (rl40.sl hp) ?_
        clear hf; intro a ha hf
        exact st_nil hf (th_n ⟨ha, rfl⟩)
      clear hf; intro a hf
      refine dr_take 3 ((GL.cut v8 0 (((qx0.length : Int)).toNat) 1)) rfl (by kernel_rfl) (by kernel_rfl) (by kernel_rfl) (by kernel_rfl) rfl rfl hf (by decide) rfl (fun w hp => ?_) ⟨_, hp⟩ ?_
      · obtain ⟨_, hp⟩ := hp
        refine st_cutS (E := (Ek.int .u8)) hf (by decide) Try.underlying22 elt5 rfl rfl (rl43.sl hp) (.inl ⟨rfl, rfl⟩) (.inr ⟨_, _, rfl, evI rfl (by omega)⟩) hc47 hc48 ?_
        clear hf; intro a ha hf
        exact st_nil hf (th_n ⟨ha, rfl⟩)
      clear hf; intro a hf
      refine dr_take 4 (v16) rfl (by kernel_rfl) (by kernel_rfl) (by kernel_rfl) (by kernel_rfl) rfl rfl hf (by decide) rfl (fun w hp => ?_) ⟨_, hp⟩ ?_
      · obtain ⟨_, hp⟩ := hp
        refine st_move hf rfl rfl (by decide) ?_
        clear hf; intro a ha hf
        exact st_nil hf (th_n ⟨ha, rfl⟩)
      clear hf; intro a hf
      refine dr_take 5 (vthere1) rfl (by kernel_rfl) (by kernel_rfl) (by kernel_rfl) (by kernel_rfl) rfl rfl hf (by decide) rfl (fun w hp => ?_) ⟨_, hp⟩ ?_
      · obtain ⟨_, hp⟩ := hp
        refine st_move hf rfl rfl (by decide) ?_
        clear hf; intro a ha hf
        exact st_nil hf (th_n ⟨ha, rfl⟩)
      clear hf; intro a hf
      refine dr_take 6 (.int .i64 (there1.length : Int)) rfl (by kernel_rfl) (by kernel_rfl) (by kernel_rfl) (by kernel_rfl) rfl rfl hf (by decide) rfl (fun w hp => ?_) ⟨_, hp⟩ ?_
      · obtain ⟨_, hp⟩ := hp
        refine st_len (E := Ek.bool) hf (by decide) Try.underlying27 rfl rfl (rl41.sl hp) ?_
        clear hf; intro a ha hf
        exact st_nil hf (th_n ⟨ha, rfl⟩)
      clear hf; intro a hf
      refine dr_take 7 ((GL.cut v16 0 (((there1.length : Int)).toNat) 1)) rfl (by kernel_rfl) (by kernel_rfl) (by kernel_rfl) (by kernel_rfl) rfl rfl hf (by decide) rfl (fun w hp => ?_) ⟨_, hp⟩ ?_
      · obtain ⟨_, hp⟩ := hp
        refine st_cutS (E := Ek.bool) hf (by decide) Try.underlying27 elt4 rfl rfl (rl44.sl hp) (.inl ⟨rfl, rfl⟩) (.inr ⟨_, _, rfl, evI rfl (by omega)⟩) hc50 hc51 ?_
        clear hf; intro a ha hf
        exact st_nil hf (th_n ⟨ha, rfl⟩)
      clear hf; intro a hf
      refine dr_take 8 (vqx0) rfl (by kernel_rfl) (by kernel_rfl) (by kernel_rfl) (by kernel_rfl) rfl rfl hf (by decide) rfl (fun w hp => ?_) ⟨_, hp⟩ ?_
      · obtain ⟨_, hp⟩ := hp
        refine st_move hf rfl rfl (by decide) ?_
        clear hf; intro a ha hf
        exact st_nil hf (th_n ⟨ha, rfl⟩)
      clear hf; intro a hf
      refine dr_take 9 (vthere1) rfl (by kernel_rfl) (by kernel_rfl) (by kernel_rfl) (by kernel_rfl) rfl rfl hf (by decide) rfl (fun w hp => ?_) ⟨_, hp⟩ ?_
      · obtain ⟨_, hp⟩ := hp
        refine st_move hf rfl rfl (by decide) ?_
        clear hf; intro a ha hf
        exact st_nil hf (th_n ⟨ha, rfl⟩)
      clear hf; intro a hf
      refine dr_one 10 rfl (by kernel_rfl) ?_
      refine st_call hf (by decide) Try.func15 rfl rfl rfl rfl rfl (f_foghornlaw06_rows_c hp _ _ (RdS.cut rl43 hc47 hc48) _ _ (RdS.cut rl44 hc50 hc51) _ _ rl40 _ _ rl41 hcall53) ?_
      rintro _ w ⟨rfl, hp0⟩
      clear hp; have hp := hp0; clear hp0
      replace hp : Hp _ _ _ (Res.sl Ek.bool 4 v21 ([true]) :: Res.sl Ek.bool 4 v13 ([true]) :: Res.sl (Ek.int .u8) 5 v5 ([(99 : Int)]) :: ow) := hp
      refine ⟨_, rfl, ?_⟩
      clear hf; intro a hf
      refine st_nil hf (th_n ⟨fun _ _ => ⟨_, hp⟩, ?_⟩)
      refine dr_take 11 (.bool (!q52)) rfl (by kernel_rfl) (by kernel_rfl) (by kernel_rfl) (by kernel_rfl) rfl rfl hf (by decide) rfl (fun w hp => ?_) ⟨_, hp⟩ ?_
      · obtain ⟨_, hp⟩ := hp
        refine st_not hf (by decide) rfl rfl ?_
        clear hf; intro a ha hf
        exact st_nil hf (th_n ⟨ha, rfl⟩)
      clear hf; intro a hf
      refine dr_take 12 (.bool (!q52)) rfl (by kernel_rfl) (by kernel_rfl) (by kernel_rfl) (by kernel_rfl) rfl rfl hf (by decide) rfl (fun w hp => ?_) ⟨_, hp⟩ ?_
      · obtain ⟨_, hp⟩ := hp
        refine st_move hf rfl rfl (by decide) ?_
        clear hf; intro a ha hf
        exact st_nil hf (th_n ⟨ha, rfl⟩)
      clear hf; intro a hf
      refine dr_take 13 (v8) rfl (by kernel_rfl) (by kernel_rfl) (by kernel_rfl) (by kernel_rfl) rfl rfl hf (by decide) (wantY hf rfl rfl hb55) (fun w hp => ?_) ⟨_, hp⟩ ?_
      · obtain ⟨_, hp⟩ := hp
        refine st_move hf (wantY hf rfl rfl hb55) rfl (by decide) ?_
        clear hf; intro a ha hf
        exact st_nil hf (th_n ⟨ha, rfl⟩)
      clear hf; intro a hf
      refine dr_take 14 (vqx0) rfl (by kernel_rfl) (by kernel_rfl) (by kernel_rfl) (by kernel_rfl) rfl rfl hf (by decide) (wantY hf rfl rfl hb55) (fun w hp => ?_) ⟨_, hp⟩ ?_
      · obtain ⟨_, hp⟩ := hp
        refine st_move hf (wantY hf rfl rfl hb55) rfl (by decide) ?_
        clear hf; intro a ha hf
        exact st_nil hf (th_n ⟨ha, rfl⟩)
      clear hf; intro a hf
      refine dr_take 15 (.int .i64 (qx0.length : Int)) rfl (by kernel_rfl) (by kernel_rfl) (by kernel_rfl) (by kernel_rfl) rfl rfl hf (by decide) (wantY hf rfl rfl hb55) (fun w hp => ?_) ⟨_, hp⟩ ?_
      · obtain ⟨_, hp⟩ := hp
        refine st_len (E := (Ek.int .u8)) hf (by decide) Try.underlying22 (wantY hf rfl rfl hb55) rfl (rl40.sl hp) ?_
        clear hf; intro a ha hf
        exact st_nil hf (th_n ⟨ha, rfl⟩)
      clear hf; intro a hf
      refine dr_take 16 ((GL.cut v8 0 (((qx0.length : Int)).toNat) 1)) rfl (by kernel_rfl) (by kernel_rfl) (by kernel_rfl) (by kernel_rfl) rfl rfl hf (by decide) (wantY hf rfl rfl hb55) (fun w hp => ?_) ⟨_, hp⟩ ?_
      · obtain ⟨_, hp⟩ := hp
        refine st_cutS (E := (Ek.int .u8)) hf (by decide) Try.underlying22 elt5 (wantY hf rfl rfl hb55) rfl (rl43.sl hp) (.inl ⟨rfl, rfl⟩) (.inr ⟨_, _, rfl, evI rfl (by omega)⟩) hc57 hc58 ?_
        clear hf; intro a ha hf
        exact st_nil hf (th_n ⟨ha, rfl⟩)
      clear hf; intro a hf
      refine dr_take 17 (vqx0) rfl (by kernel_rfl) (by kernel_rfl) (by kernel_rfl) (by kernel_rfl) rfl rfl hf (by decide) (wantY hf rfl rfl hb55) (fun w hp => ?_) ⟨_, hp⟩ ?_
      · obtain ⟨_, hp⟩ := hp
        refine st_move hf (wantY hf rfl rfl hb55) rfl (by decide) ?_
        clear hf; intro a ha hf
        exact st_nil hf (th_n ⟨ha, rfl⟩)
      clear hf; intro a hf
      refine dr_one 18 rfl (by kernel_rfl) ?_
      refine st_call hf (by decide) Try.func13 rfl rfl (wantY hf rfl rfl hb55) rfl rfl (f_foghornlaw06_quarters_c hp _ _ (RdS.cut rl43 hc57 hc58) _ _ rl40 hcall60) ?_
      rintro _ w ⟨rfl, hp0⟩
      clear hp; have hp := hp0; clear hp0
      replace hp : Hp _ _ _ (Res.sl Ek.bool 4 v21 ([true]) :: Res.sl Ek.bool 4 v13 ([true]) :: Res.sl (Ek.int .u8) 5 v5 ([(99 : Int)]) :: ow) := hp
      refine ⟨_, rfl, ?_⟩
      clear hf; intro a hf
      refine st_nil hf (th_n ⟨fun _ _ => ⟨_, hp⟩, ?_⟩)
      refine dr_take 19 (.bool (!q59)) rfl (by kernel_rfl) (by kernel_rfl) (by kernel_rfl) (by kernel_rfl) rfl rfl hf (by decide) (wantY hf rfl rfl hb55) (fun w hp => ?_) ⟨_, hp⟩ ?_
      · obtain ⟨_, hp⟩ := hp
        refine st_not hf (by decide) (wantY hf rfl rfl hb55) rfl ?_
        clear hf; intro a ha hf
        exact st_nil hf (th_n ⟨ha, rfl⟩)
      clear hf; intro a hf
      refine dr_take 20 (.bool z61) rfl (by kernel_rfl) (by kernel_rfl) (by kernel_rfl) (by kernel_rfl) rfl rfl hf (by decide) rfl (fun w hp => ?_) ⟨_, hp⟩ ?_
      · obtain ⟨_, hp⟩ := hp
        refine st_pick (v := .bool z61) hf rfl rfl (fun hb' => absurd (hb55.symm.trans hb') (by decide)) (fun _ => by rw [← hz54]; rfl) (by decide) ?_
        clear hf; intro a ha hf
        exact st_nil hf (th_n ⟨ha, rfl⟩)
      clear hf; intro a hf
      refine dr_take 21 (.bool z61) rfl (by kernel_rfl) (by kernel_rfl) (by kernel_rfl) (by kernel_rfl) rfl rfl hf (by decide) rfl (fun w hp => ?_) ⟨_, hp⟩ ?_
      · obtain ⟨_, hp⟩ := hp
        refine st_move hf rfl rfl (by decide) ?_
        clear hf; intro a ha hf
        exact st_nil hf (th_n ⟨ha, rfl⟩)
      clear hf; intro a hf
      refine dr_take 22 (v8) rfl (by kernel_rfl) (by kernel_rfl) (by kernel_rfl) (by kernel_rfl) rfl rfl hf (by decide) (wantY hf rfl rfl hb63) (fun w hp => ?_) ⟨_, hp⟩ ?_
      · obtain ⟨_, hp⟩ := hp
        refine st_move hf (wantY hf rfl rfl hb63) rfl (by decide) ?_
        clear hf; intro a ha hf
        exact st_nil hf (th_n ⟨ha, rfl⟩)
      clear hf; intro a hf
      refine dr_take 23 (vqx0) rfl (by kernel_rfl) (by kernel_rfl) (by kernel_rfl) (by kernel_rfl) rfl rfl hf (by decide) (wantY hf rfl rfl hb63) (fun w hp => ?_) ⟨_, hp⟩ ?_
      · obtain ⟨_, hp⟩ := hp
        refine st_move hf (wantY hf rfl rfl hb63) rfl (by decide) ?_
        clear hf; intro a ha hf
        exact st_nil hf (th_n ⟨ha, rfl⟩)
      clear hf; intro a hf
      refine dr_take 24 (.int .i64 (qx0.length : Int)) rfl (by kernel_rfl) (by kernel_rfl) (by kernel_rfl) (by kernel_rfl) rfl rfl hf (by decide) (wantY hf rfl rfl hb63) (fun w hp => ?_) ⟨_, hp⟩ ?_
      · obtain ⟨_, hp⟩ := hp
        refine st_len (E := (Ek.int .u8)) hf (by decide) Try.underlying22 (wantY hf rfl rfl hb63) rfl (rl40.sl hp) ?_
        clear hf; intro a ha hf
        exact st_nil hf (th_n ⟨ha, rfl⟩)
      clear hf; intro a hf
      refine dr_take 25 (eptr v8 (qx0.length : Int) 1) rfl (by kernel_rfl) (by kernel_rfl) (by kernel_rfl) (by kernel_rfl) rfl rfl hf (by decide) (wantY hf rfl rfl hb63) (fun w hp => ?_) ⟨_, hp⟩ ?_
      · obtain ⟨_, hp⟩ := hp
        refine st_index (E := (Ek.int .u8)) hf (by decide) Try.underlying22 elt5 (wantY hf rfl rfl hb63) rfl rfl (rl43.sl hp) hc64.1 hc64.2 ?_
        clear hf; intro a ha hf
        exact st_nil hf (th_n ⟨ha, rfl⟩)
      clear hf; intro a hf
      refine dr_take 26 (.int .u8 (gt ((([] : List Int) ++ qx0) ++ [(99 : Int)]) (qx0.length : Int))) rfl (by kernel_rfl) (by kernel_rfl) (by kernel_rfl) (by kernel_rfl) rfl rfl hf (by decide) (wantY hf rfl rfl hb63) (fun w hp => ?_) ⟨_, hp⟩ ?_
      · obtain ⟨_, hp⟩ := hp
        refine st_ldI hf (by decide) pl5 (wantY hf rfl rfl hb63) rfl (rl43.sl hp) hc64.1 hc64.2 ?_
        clear hf; intro a ha hf
        exact st_nil hf (th_n ⟨ha, rfl⟩)
      clear hf; intro a hf
      refine dr_take 27 (.bool ((gt ((([] : List Int) ++ qx0) ++ [(99 : Int)]) (qx0.length : Int)) != (99 : Int))) rfl (by kernel_rfl) (by kernel_rfl) (by kernel_rfl) (by kernel_rfl) rfl rfl hf (by decide) (wantY hf rfl rfl hb63) (fun w hp => ?_) ⟨_, hp⟩ ?_
      · obtain ⟨_, hp⟩ := hp
        refine st_ineq hf (by decide) (wantY hf rfl rfl hb63) rfl rfl ?_
        clear hf; intro a ha hf
        exact st_nil hf (th_n ⟨ha, rfl⟩)
      clear hf; intro a hf
      refine dr_take 28 (.bool z65) rfl (by kernel_rfl) (by kernel_rfl) (by kernel_rfl) (by kernel_rfl) rfl rfl hf (by decide) rfl (fun w hp => ?_) ⟨_, hp⟩ ?_
      · obtain ⟨_, hp⟩ := hp
        refine st_pick (v := .bool z65) hf rfl rfl (fun hb' => absurd (hb63.symm.trans hb') (by decide)) (fun _ => by rw [← hz62]; rfl) (by decide) ?_
        clear hf; intro a ha hf
        exact st_nil hf (th_n ⟨ha, rfl⟩)
      clear hf; intro a hf
      refine dr_take 29 (.bool z65) rfl (by kernel_rfl) (by kernel_rfl) (by kernel_rfl) (by kernel_rfl) rfl rfl hf (by decide) rfl (fun w hp => ?_) ⟨_, hp⟩ ?_
      · obtain ⟨_, hp⟩ := hp
        refine st_move hf rfl rfl (by decide) ?_
        clear hf; intro a ha hf
        exact st_nil hf (th_n ⟨ha, rfl⟩)
      clear hf; intro a hf
      refine dr_take 30 (v16) rfl (by kernel_rfl) (by kernel_rfl) (by kernel_rfl) (by kernel_rfl) rfl rfl hf (by decide) (wantY hf rfl rfl hb67) (fun w hp => ?_) ⟨_, hp⟩ ?_
      · obtain ⟨_, hp⟩ := hp
        refine st_move hf (wantY hf rfl rfl hb67) rfl (by decide) ?_
        clear hf; intro a ha hf
        exact st_nil hf (th_n ⟨ha, rfl⟩)
      clear hf; intro a hf
      refine dr_take 31 (vthere1) rfl (by kernel_rfl) (by kernel_rfl) (by kernel_rfl) (by kernel_rfl) rfl rfl hf (by decide) (wantY hf rfl rfl hb67) (fun w hp => ?_) ⟨_, hp⟩ ?_
      · obtain ⟨_, hp⟩ := hp
        refine st_move hf (wantY hf rfl rfl hb67) rfl (by decide) ?_
        clear hf; intro a ha hf
        exact st_nil hf (th_n ⟨ha, rfl⟩)
      clear hf; intro a hf
      refine dr_take 32 (.int .i64 (there1.length : Int)) rfl (by kernel_rfl) (by kernel_rfl) (by kernel_rfl) (by kernel_rfl) rfl rfl hf (by decide) (wantY hf rfl rfl hb67) (fun w hp => ?_) ⟨_, hp⟩ ?_
      · obtain ⟨_, hp⟩ := hp
        refine st_len (E := Ek.bool) hf (by decide) Try.underlying27 (wantY hf rfl rfl hb67) rfl (rl41.sl hp) ?_
        clear hf; intro a ha hf
        exact st_nil hf (th_n ⟨ha, rfl⟩)
      clear hf; intro a hf
      refine dr_take 33 ((GL.cut v16 0 (((there1.length : Int)).toNat) 1)) rfl (by kernel_rfl) (by kernel_rfl) (by kernel_rfl) (by kernel_rfl) rfl rfl hf (by decide) (wantY hf rfl rfl hb67) (fun w hp => ?_) ⟨_, hp⟩ ?_
      · obtain ⟨_, hp⟩ := hp
        refine st_cutS (E := Ek.bool) hf (by decide) Try.underlying27 elt4 (wantY hf rfl rfl hb67) rfl (rl44.sl hp) (.inl ⟨rfl, rfl⟩) (.inr ⟨_, _, rfl, evI rfl (by omega)⟩) hc69 hc70 ?_
        clear hf; intro a ha hf
        exact st_nil hf (th_n ⟨ha, rfl⟩)
      clear hf; intro a hf
      refine dr_take 34 (vthere1) rfl (by kernel_rfl) (by kernel_rfl) (by kernel_rfl) (by kernel_rfl) rfl rfl hf (by decide) (wantY hf rfl rfl hb67) (fun w hp => ?_) ⟨_, hp⟩ ?_
      · obtain ⟨_, hp⟩ := hp
        refine st_move hf (wantY hf rfl rfl hb67) rfl (by decide) ?_
        clear hf; intro a ha hf
        exact st_nil hf (th_n ⟨ha, rfl⟩)
      clear hf; intro a hf
      refine dr_one 35 rfl (by kernel_rfl) ?_
      refine st_call hf (by decide) Try.func16 rfl rfl (wantY hf rfl rfl hb67) rfl rfl (f_foghornlaw06_truths_c hp _ _ (RdS.cut rl44 hc69 hc70) _ _ rl41 hcall72) ?_
      rintro _ w ⟨rfl, hp0⟩
      clear hp; have hp := hp0; clear hp0
      replace hp : Hp _ _ _ (Res.sl Ek.bool 4 v21 ([true]) :: Res.sl Ek.bool 4 v13 ([true]) :: Res.sl (Ek.int .u8) 5 v5 ([(99 : Int)]) :: ow) := hp
      refine ⟨_, rfl, ?_⟩
      clear hf; intro a hf
      refine st_nil hf (th_n ⟨fun _ _ => ⟨_, hp⟩, ?_⟩)
      refine dr_take 36 (.bool (!q71)) rfl (by kernel_rfl) (by kernel_rfl) (by kernel_rfl) (by kernel_rfl) rfl rfl hf (by decide) (wantY hf rfl rfl hb67) (fun w hp => ?_) ⟨_, hp⟩ ?_
      · obtain ⟨_, hp⟩ := hp
        refine st_not hf (by decide) (wantY hf rfl rfl hb67) rfl ?_
        clear hf; intro a ha hf
        exact st_nil hf (th_n ⟨ha, rfl⟩)
      clear hf; intro a hf
      refine dr_take 37 (.bool z73) rfl (by kernel_rfl) (by kernel_rfl) (by kernel_rfl) (by kernel_rfl) rfl rfl hf (by decide) rfl (fun w hp => ?_) ⟨_, hp⟩ ?_
      · obtain ⟨_, hp⟩ := hp
        refine st_pick (v := .bool z73) hf rfl rfl (fun hb' => absurd (hb67.symm.trans hb') (by decide)) (fun _ => by rw [← hz66]; rfl) (by decide) ?_
        clear hf; intro a ha hf
        exact st_nil hf (th_n ⟨ha, rfl⟩)
      clear hf; intro a hf
      refine dr_take 38 (.bool z73) rfl (by kernel_rfl) (by kernel_rfl) (by kernel_rfl) (by kernel_rfl) rfl rfl hf (by decide) rfl (fun w hp => ?_) ⟨_, hp⟩ ?_
      · obtain ⟨_, hp⟩ := hp
        refine st_move hf rfl rfl (by decide) ?_
        clear hf; intro a ha hf
        exact st_nil hf (th_n ⟨ha, rfl⟩)
      clear hf; intro a hf
      refine dr_take 39 (v16) rfl (by kernel_rfl) (by kernel_rfl) (by kernel_rfl) (by kernel_rfl) rfl rfl hf (by decide) (wantY hf rfl rfl hb75) (fun w hp => ?_) ⟨_, hp⟩ ?_
      · obtain ⟨_, hp⟩ := hp
        refine st_move hf (wantY hf rfl rfl hb75) rfl (by decide) ?_
        clear hf; intro a ha hf
        exact st_nil hf (th_n ⟨ha, rfl⟩)
      clear hf; intro a hf
      refine dr_take 40 (vthere1) rfl (by kernel_rfl) (by kernel_rfl) (by kernel_rfl) (by kernel_rfl) rfl rfl hf (by decide) (wantY hf rfl rfl hb75) (fun w hp => ?_) ⟨_, hp⟩ ?_
      · obtain ⟨_, hp⟩ := hp
        refine st_move hf (wantY hf rfl rfl hb75) rfl (by decide) ?_
        clear hf; intro a ha hf
        exact st_nil hf (th_n ⟨ha, rfl⟩)
      clear hf; intro a hf
      refine dr_take 41 (.int .i64 (there1.length : Int)) rfl (by kernel_rfl) (by kernel_rfl) (by kernel_rfl) (by kernel_rfl) rfl rfl hf (by decide) (wantY hf rfl rfl hb75) (fun w hp => ?_) ⟨_, hp⟩ ?_
      · obtain ⟨_, hp⟩ := hp
        refine st_len (E := Ek.bool) hf (by decide) Try.underlying27 (wantY hf rfl rfl hb75) rfl (rl41.sl hp) ?_
        clear hf; intro a ha hf
        exact st_nil hf (th_n ⟨ha, rfl⟩)
      clear hf; intro a hf
      refine dr_take 42 (eptr v16 (there1.length : Int) 1) rfl (by kernel_rfl) (by kernel_rfl) (by kernel_rfl) (by kernel_rfl) rfl rfl hf (by decide) (wantY hf rfl rfl hb75) (fun w hp => ?_) ⟨_, hp⟩ ?_
      · obtain ⟨_, hp⟩ := hp
        refine st_index (E := Ek.bool) hf (by decide) Try.underlying27 elt4 (wantY hf rfl rfl hb75) rfl rfl (rl44.sl hp) hc76.1 hc76.2 ?_
        clear hf; intro a ha hf
        exact st_nil hf (th_n ⟨ha, rfl⟩)
      clear hf; intro a hf
      refine dr_take 43 (.bool (gt ((([] : List Bool) ++ there1) ++ [true]) (there1.length : Int))) rfl (by kernel_rfl) (by kernel_rfl) (by kernel_rfl) (by kernel_rfl) rfl rfl hf (by decide) (wantY hf rfl rfl hb75) (fun w hp => ?_) ⟨_, hp⟩ ?_
      · obtain ⟨_, hp⟩ := hp
        refine st_ldB hf (by decide) pl4 (wantY hf rfl rfl hb75) rfl (rl44.sl hp) hc76.1 hc76.2 ?_
        clear hf; intro a ha hf
        exact st_nil hf (th_n ⟨ha, rfl⟩)
      clear hf; intro a hf
      refine dr_take 44 (.bool (!(gt ((([] : List Bool) ++ there1) ++ [true]) (there1.length : Int)))) rfl (by kernel_rfl) (by kernel_rfl) (by kernel_rfl) (by kernel_rfl) rfl rfl hf (by decide) (wantY hf rfl rfl hb75) (fun w hp => ?_) ⟨_, hp⟩ ?_
      · obtain ⟨_, hp⟩ := hp
        refine st_not hf (by decide) (wantY hf rfl rfl hb75) rfl ?_
        clear hf; intro a ha hf
        exact st_nil hf (th_n ⟨ha, rfl⟩)
      clear hf; intro a hf
      refine dr_take 45 (.bool z77) rfl (by kernel_rfl) (by kernel_rfl) (by kernel_rfl) (by kernel_rfl) rfl rfl hf (by decide) rfl (fun w hp => ?_) ⟨_, hp⟩ ?_
      · obtain ⟨_, hp⟩ := hp
        refine st_pick (v := .bool z77) hf rfl rfl (fun hb' => absurd (hb75.symm.trans hb') (by decide)) (fun _ => by rw [← hz74]; rfl) (by decide) ?_
        clear hf; intro a ha hf
        exact st_nil hf (th_n ⟨ha, rfl⟩)
      clear hf; intro a hf
      refine dr_take 46 (.bool z77) rfl (by kernel_rfl) (by kernel_rfl) (by kernel_rfl) (by kernel_rfl) rfl rfl hf (by decide) rfl (fun w hp => ?_) ⟨_, hp⟩ ?_
      · obtain ⟨_, hp⟩ := hp
        refine st_move hf rfl rfl (by decide) ?_
        clear hf; intro a ha hf
        exact st_nil hf (th_n ⟨ha, rfl⟩)
      clear hf; intro a hf
      refine dr_take 47 (v24) rfl (by kernel_rfl) (by kernel_rfl) (by kernel_rfl) (by kernel_rfl) rfl rfl hf (by decide) (wantY hf rfl rfl hb79) (fun w hp => ?_) ⟨_, hp⟩ ?_
      · obtain ⟨_, hp⟩ := hp
        refine st_move hf (wantY hf rfl rfl hb79) rfl (by decide) ?_
        clear hf; intro a ha hf
        exact st_nil hf (th_n ⟨ha, rfl⟩)
      clear hf; intro a hf
      refine dr_take 48 (vbits2) rfl (by kernel_rfl) (by kernel_rfl) (by kernel_rfl) (by kernel_rfl) rfl rfl hf (by decide) (wantY hf rfl rfl hb79) (fun w hp => ?_) ⟨_, hp⟩ ?_
      · obtain ⟨_, hp⟩ := hp
        refine st_move hf (wantY hf rfl rfl hb79) rfl (by decide) ?_
        clear hf; intro a ha hf
        exact st_nil hf (th_n ⟨ha, rfl⟩)
      clear hf; intro a hf
      refine dr_take 49 (.int .i64 (bits2.length : Int)) rfl (by kernel_rfl) (by kernel_rfl) (by kernel_rfl) (by kernel_rfl) rfl rfl hf (by decide) (wantY hf rfl rfl hb79) (fun w hp => ?_) ⟨_, hp⟩ ?_
      · obtain ⟨_, hp⟩ := hp
        refine st_len (E := Ek.bool) hf (by decide) Try.underlying27 (wantY hf rfl rfl hb79) rfl (rl42.sl hp) ?_
        clear hf; intro a ha hf
        exact st_nil hf (th_n ⟨ha, rfl⟩)
      clear hf; intro a hf
      refine dr_take 50 ((GL.cut v24 0 (((bits2.length : Int)).toNat) 1)) rfl (by kernel_rfl) (by kernel_rfl) (by kernel_rfl) (by kernel_rfl) rfl rfl hf (by decide) (wantY hf rfl rfl hb79) (fun w hp => ?_) ⟨_, hp⟩ ?_
      · obtain ⟨_, hp⟩ := hp
        refine st_cutS (E := Ek.bool) hf (by decide) Try.underlying27 elt4 (wantY hf rfl rfl hb79) rfl (rl45.sl hp) (.inl ⟨rfl, rfl⟩) (.inr ⟨_, _, rfl, evI rfl (by omega)⟩) hc81 hc82 ?_
        clear hf; intro a ha hf
        exact st_nil hf (th_n ⟨ha, rfl⟩)
      clear hf; intro a hf
      refine dr_take 51 (vbits2) rfl (by kernel_rfl) (by kernel_rfl) (by kernel_rfl) (by kernel_rfl) rfl rfl hf (by decide) (wantY hf rfl rfl hb79) (fun w hp => ?_) ⟨_, hp⟩ ?_
      · obtain ⟨_, hp⟩ := hp
        refine st_move hf (wantY hf rfl rfl hb79) rfl (by decide) ?_
        clear hf; intro a ha hf
        exact st_nil hf (th_n ⟨ha, rfl⟩)
      clear hf; intro a hf
      refine dr_one 52 rfl (by kernel_rfl) ?_
      refine st_call hf (by decide) Try.func17 rfl rfl (wantY hf rfl rfl hb79) rfl rfl (f_foghornlaw06_spelt_c hp _ _ (RdS.cut rl45 hc81 hc82) _ _ rl42 hcall84) ?_
      rintro _ w ⟨rfl, hp0⟩
      clear hp; have hp := hp0; clear hp0
      replace hp : Hp _ _ _ (Res.sl Ek.bool 4 v21 ([true]) :: Res.sl Ek.bool 4 v13 ([true]) :: Res.sl (Ek.int .u8) 5 v5 ([(99 : Int)]) :: ow) := hp
      refine ⟨_, rfl, ?_⟩
      clear hf; intro a hf
      refine st_nil hf (th_n ⟨fun _ _ => ⟨_, hp⟩, ?_⟩)
      refine dr_take 53 (.bool (!q83)) rfl (by kernel_rfl) (by kernel_rfl) (by kernel_rfl) (by kernel_rfl) rfl rfl hf (by decide) (wantY hf rfl rfl hb79) (fun w hp => ?_) ⟨_, hp⟩ ?_
      · obtain ⟨_, hp⟩ := hp
        refine st_not hf (by decide) (wantY hf rfl rfl hb79) rfl ?_
        clear hf; intro a ha hf
        exact st_nil hf (th_n ⟨ha, rfl⟩)
      clear hf; intro a hf
      refine dr_take 54 (.bool z85) rfl (by kernel_rfl) (by kernel_rfl) (by kernel_rfl) (by kernel_rfl) rfl rfl hf (by decide) rfl (fun w hp => ?_) ⟨_, hp⟩ ?_
      · obtain ⟨_, hp⟩ := hp
        refine st_pick (v := .bool z85) hf rfl rfl (fun hb' => absurd (hb79.symm.trans hb') (by decide)) (fun _ => by rw [← hz78]; rfl) (by decide) ?_
        clear hf; intro a ha hf
        exact st_nil hf (th_n ⟨ha, rfl⟩)
      clear hf; intro a hf
      refine dr_take 55 (.bool z85) rfl (by kernel_rfl) (by kernel_rfl) (by kernel_rfl) (by kernel_rfl) rfl rfl hf (by decide) rfl (fun w hp => ?_) ⟨_, hp⟩ ?_
      · obtain ⟨_, hp⟩ := hp
        refine st_move hf rfl rfl (by decide) ?_
        clear hf; intro a ha hf
        exact st_nil hf (th_n ⟨ha, rfl⟩)
      clear hf; intro a hf
      refine dr_out 56 rfl (by kernel_rfl) (by kernel_rfl) (by kernel_rfl) (by kernel_rfl) rfl hf (by decide) rfl (wantN hf rfl rfl hb87) ⟨_, hp⟩ ?_
      clear hf; intro a hf
      refine dr_out 57 rfl (by kernel_rfl) (by kernel_rfl) (by kernel_rfl) (by kernel_rfl) rfl hf (by decide) rfl (wantN hf rfl rfl hb87) ⟨_, hp⟩ ?_
      clear hf; intro a hf
      refine dr_out 58 rfl (by kernel_rfl) (by kernel_rfl) (by kernel_rfl) (by kernel_rfl) rfl hf (by decide) rfl (wantN hf rfl rfl hb87) ⟨_, hp⟩ ?_
      clear hf; intro a hf
      refine dr_out 59 rfl (by kernel_rfl) (by kernel_rfl) (by kernel_rfl) (by kernel_rfl) rfl hf (by decide) rfl (wantN hf rfl rfl hb87) ⟨_, hp⟩ ?_
      clear hf; intro a hf
      refine dr_out 60 rfl (by kernel_rfl) (by kernel_rfl) (by kernel_rfl) (by kernel_rfl) rfl hf (by decide) rfl (wantN hf rfl rfl hb87) ⟨_, hp⟩ ?_
      clear hf; intro a hf
      refine dr_out 61 rfl (by kernel_rfl) (by kernel_rfl) (by kernel_rfl) (by kernel_rfl) rfl hf (by decide) rfl (wantN hf rfl rfl hb87) ⟨_, hp⟩ ?_
      clear hf; intro a hf
      refine dr_out 62 rfl (by kernel_rfl) (by kernel_rfl) (by kernel_rfl) (by kernel_rfl) rfl hf (by decide) rfl (wantN hf rfl rfl hb87) ⟨_, hp⟩ ?_
      clear hf; intro a hf
      refine dr_take 63 (.bool z93) rfl (by kernel_rfl) (by kernel_rfl) (by kernel_rfl) (by kernel_rfl) rfl rfl hf (by decide) rfl (fun w hp => ?_) ⟨_, hp⟩ ?_
      · obtain ⟨_, hp⟩ := hp
        refine st_pick (v := .bool z93) hf rfl rfl (fun _ => by rw [← hz86]; rfl) (fun hb' => absurd (hb87.symm.trans hb') (by decide)) (by decide) ?_
        clear hf; intro a ha hf
        exact st_nil hf (th_n ⟨ha, rfl⟩)
      clear hf; intro a hf
      refine dr_take 64 (.bool z93) rfl (by kernel_rfl) (by kernel_rfl) (by kernel_rfl) (by kernel_rfl) rfl rfl hf (by decide) rfl (fun w hp => ?_) ⟨_, hp⟩ ?_
      · obtain ⟨_, hp⟩ := hp
        refine st_move hf rfl rfl (by decide) ?_
        clear hf; intro a ha hf
        exact st_nil hf (th_n ⟨ha, rfl⟩)
      clear hf; intro a hf
      refine dr_out 65 rfl (by kernel_rfl) (by kernel_rfl) (by kernel_rfl) (by kernel_rfl) rfl hf (by decide) rfl (wantN hf rfl rfl hb95) ⟨_, hp⟩ ?_
      clear hf; intro a hf
      refine dr_out 66 rfl (by kernel_rfl) (by kernel_rfl) (by kernel_rfl) (by kernel_rfl) rfl hf (by decide) rfl (wantN hf rfl rfl hb95) ⟨_, hp⟩ ?_
      clear hf; intro a hf
      refine dr_out 67 rfl (by kernel_rfl) (by kernel_rfl) (by kernel_rfl) (by kernel_rfl) rfl hf (by decide) rfl (wantN hf rfl rfl hb95) ⟨_, hp⟩ ?_
      clear hf; intro a hf
      refine dr_out 68 rfl (by kernel_rfl) (by kernel_rfl) (by kernel_rfl) (by kernel_rfl) rfl hf (by decide) rfl (wantN hf rfl rfl hb95) ⟨_, hp⟩ ?_
      clear hf; intro a hf
      refine dr_out 69 rfl (by kernel_rfl) (by kernel_rfl) (by kernel_rfl) (by kernel_rfl) rfl hf (by decide) rfl (wantN hf rfl rfl hb95) ⟨_, hp⟩ ?_
      clear hf; intro a hf
      refine dr_out 70 rfl (by kernel_rfl) (by kernel_rfl) (by kernel_rfl) (by kernel_rfl) rfl hf (by decide) rfl (wantN hf rfl rfl hb95) ⟨_, hp⟩ ?_
      clear hf; intro a hf
      refine dr_take 71 (.bool z97) rfl (by kernel_rfl) (by kernel_rfl) (by kernel_rfl) (by kernel_rfl) rfl rfl hf (by decide) rfl (fun w hp => ?_) ⟨_, hp⟩ ?_
      · obtain ⟨_, hp⟩ := hp
        refine st_pick (v := .bool z97) hf rfl rfl (fun _ => by rw [← hz94]; rfl) (fun hb' => absurd (hb95.symm.trans hb') (by decide)) (by decide) ?_
        clear hf; intro a ha hf
        exact st_nil hf (th_n ⟨ha, rfl⟩)
      clear hf; intro a hf
      refine dr_end (by kernel_rfl) ?_ _
      have hp := bk39 _ _ hp
      have hp := bk34 _ _ hp
      have hp := bk29 _ _ hp
      exact ⟨hf.sub ⟨rfl, rfl, rfl, rfl, rfl, trivial⟩, hp⟩
    skip
    replace hz86 := ifF hz86 hb87
    obtain ⟨hc88, hz86⟩ := chk hz86
    have hc89 : 0 ≤ ((bits2.length : Int)).toNat := by omega
    have hc90 : ((bits2.length : Int)).toNat ≤ ((([] : List Bool) ++ bits2) ++ [true]).length := by omega
    obtain ⟨q91, hcall92, hz86⟩ := bnd hz86
    replace hz86 := Option.some.inj hz86
    rcases Bool.eq_false_or_eq_true z93 with hb95 | hb95
    · skip
      replace hz94 := ifT hz94 hb95
      replace hz94 := Option.some.inj hz94
      refine dr_begin' (fun a w => Fr 138 a [(0, vqx0), (1, vthere1), (7, v8), (8, v16), (98, .bool z97)] ∧ Hp S w0 w (Res.sl (Ek.int .u8) 5 v8 ((([] : List Int) ++ qx0) ++ [(99 : Int)]) :: Res.sl Ek.bool 4 v16 ((([] : List Bool) ++ there1) ++ [true]) :: Res.sl Ek.bool 4 v24 ((([] : List Bool) ++ bits2) ++ [true]) :: Res.sl Ek.bool 4 v21 ([true]) :: Res.sl Ek.bool 4 v13 ([true]) :: Res.sl (Ek.int .u8) 5 v5 ([(99 : Int)]) :: ow)) (fun w' => ∃ l, Hp S35 w w' l) [] (by kernel_rfl) ?_
      refine dr_take 0 (v8) rfl (by kernel_rfl) (by kernel_rfl) (by kernel_rfl) (by kernel_rfl) rfl rfl hf (by decide) rfl (fun w hp => ?_) ⟨_, hp⟩ ?_
      · obtain ⟨_, hp⟩ := hp
        refine st_move hf rfl rfl (by decide) ?_
        clear hf; intro a ha hf
        exact st_nil hf (th_n ⟨ha, rfl⟩)
      clear hf; intro a hf
      refine dr_take 1 (vqx0) rfl (by kernel_rfl) (by kernel_rfl) (by kernel_rfl) (by kernel_rfl) rfl rfl hf (by decide) rfl (fun w hp => ?_) ⟨_, hp⟩ ?_
      · obtain ⟨_, hp⟩ := hp
        refine st_move hf rfl rfl (by decide) ?_
        clear hf; intro a ha hf
        exact st_nil hf (th_n ⟨ha, rfl⟩)
      clear hf; intro a hf
      refine dr_take 2 (.int .i64 (qx0.length : Int)) rfl (by kernel_rfl) (by kernel_rfl) (by kernel_rfl) (by kernel_rfl) rfl rfl hf (by decide) rfl (fun w hp => ?_) ⟨_, hp⟩ ?_
      · obtain ⟨_, hp⟩ := hp
        refine st_len (E := (Ek.int .u8)) hf (by decide) Try.underlying22 rfl rfl (rl40.sl hp) ?_
        clear hf; intro a ha hf
        exact st_nil hf (th_n ⟨ha, rfl⟩)
      clear hf; intro a hf
      refine dr_take 3 ((GL.cut v8 0 (((qx0.length : Int)).toNat) 1)) rfl (by kernel_rfl) (by kernel_rfl) (by kernel_rfl) (by kernel_rfl) rfl rfl hf (by decide) rfl (fun w hp => ?_) ⟨_, hp⟩ ?_
      · obtain ⟨_, hp⟩ := hp
        refine st_cutS (E := (Ek.int .u8)) hf (by decide) Try.underlying22 elt5 rfl rfl (rl43.sl hp) (.inl ⟨rfl, rfl⟩) (.inr ⟨_, _, rfl, evI rfl (by omega)⟩) hc47 hc48 ?_
        clear hf; intro a ha hf
        exact st_nil hf (th_n ⟨ha, rfl⟩)
      clear hf; intro a hf
      refine dr_take 4 (v16) rfl (by kernel_rfl) (by kernel_rfl) (by kernel_rfl) (by kernel_rfl) rfl rfl hf (by decide) rfl (fun w hp => ?_) ⟨_, hp⟩ ?_
      · obtain ⟨_, hp⟩ := hp
        refine st_move hf rfl rfl (by decide) ?_
        clear hf; intro a ha hf
        exact st_nil hf (th_n ⟨ha, rfl⟩)
      clear hf; intro a hf
      refine dr_take 5 (vthere1) rfl (by kernel_rfl) (by kernel_rfl) (by kernel_rfl) (by kernel_rfl) rfl rfl hf (by decide) rfl (fun w hp => ?_) ⟨_, hp⟩ ?_
      · obtain ⟨_, hp⟩ := hp
        refine st_move hf rfl rfl (by decide) ?_
        clear hf; intro a ha hf
        exact st_nil hf (th_n ⟨ha, rfl⟩)
      clear hf; intro a hf
      refine dr_take 6 (.int .i64 (there1.length : Int)) rfl (by kernel_rfl) (by kernel_rfl) (by kernel_rfl) (by kernel_rfl) rfl rfl hf (by decide) rfl (fun w hp => ?_) ⟨_, hp⟩ ?_
      · obtain ⟨_, hp⟩ := hp
        refine st_len (E := Ek.bool) hf (by decide) Try.underlying27 rfl rfl (rl41.sl hp) ?_
        clear hf; intro a ha hf
        exact st_nil hf (th_n ⟨ha, rfl⟩)
      clear hf; intro a hf
      refine dr_take 7 ((GL.cut v16 0 (((there1.length : Int)).toNat) 1)) rfl (by kernel_rfl) (by kernel_rfl) (by kernel_rfl) (by kernel_rfl) rfl rfl hf (by decide) rfl (fun w hp => ?_) ⟨_, hp⟩ ?_
      · obtain ⟨_, hp⟩ := hp
        refine st_cutS (E := Ek.bool) hf (by decide) Try.underlying27 elt4 rfl rfl (rl44.sl hp) (.inl ⟨rfl, rfl⟩) (.inr ⟨_, _, rfl, evI rfl (by omega)⟩) hc50 hc51 ?_
        clear hf; intro a ha hf
        exact st_nil hf (th_n ⟨ha, rfl⟩)
      clear hf; intro a hf
      refine dr_take 8 (vqx0) rfl (by kernel_rfl) (by kernel_rfl) (by kernel_rfl) (by kernel_rfl) rfl rfl hf (by decide) rfl (fun w hp => ?_) ⟨_, hp⟩ ?_
      · obtain ⟨_, hp⟩ := hp
        refine st_move hf rfl rfl (by decide) ?_
        clear hf; intro a ha hf
        exact st_nil hf (th_n ⟨ha, rfl⟩)
      clear hf; intro a hf
      refine dr_take 9 (vthere1) rfl (by kernel_rfl) (by kernel_rfl) (by kernel_rfl) (by kernel_rfl) rfl rfl hf (by decide) rfl (fun w hp => ?_) ⟨_, hp⟩ ?_
      · obtain ⟨_, hp⟩ := hp
        refine st_move hf rfl rfl (by decide) ?_
        clear hf; intro a ha hf
        exact st_nil hf (th_n ⟨ha, rfl⟩)
      clear hf; intro a hf
      refine dr_one 10 rfl (by kernel_rfl) ?_
      refine st_call hf (by decide) Try.func15 rfl rfl rfl rfl rfl (f_foghornlaw06_rows_c hp _ _ (RdS.cut rl43 hc47 hc48) _ _ (RdS.cut rl44 hc50 hc51) _ _ rl40 _ _ rl41 hcall53) ?_
      rintro _ w ⟨rfl, hp0⟩
      clear hp; have hp := hp0; clear hp0
      replace hp : Hp _ _ _ (Res.sl Ek.bool 4 v21 ([true]) :: Res.sl Ek.bool 4 v13 ([true]) :: Res.sl (Ek.int .u8) 5 v5 ([(99 : Int)]) :: ow) := hp
      refine ⟨_, rfl, ?_⟩
      clear hf; intro a hf
      refine st_nil hf (th_n ⟨fun _ _ => ⟨_, hp⟩, ?_⟩)
      refine dr_take 11 (.bool (!q52)) rfl (by kernel_rfl) (by kernel_rfl) (by kernel_rfl) (by kernel_rfl) rfl rfl hf (by decide) rfl (fun w hp => ?_) ⟨_, hp⟩ ?_
      · obtain ⟨_, hp⟩ := hp
        refine st_not hf (by decide) rfl rfl ?_
        clear hf; intro a ha hf
        exact st_nil hf (th_n ⟨ha, rfl⟩)
      clear hf; intro a hf
      refine dr_take 12 (.bool (!q52)) rfl (by kernel_rfl) (by kernel_rfl) (by kernel_rfl) (by kernel_rfl) rfl rfl hf (by decide) rfl (fun w hp => ?_) ⟨_, hp⟩ ?_
      · obtain ⟨_, hp⟩ := hp
        refine st_move hf rfl rfl (by decide) ?_
        clear hf; intro a ha hf
        exact st_nil hf (th_n ⟨ha, rfl⟩)
      clear hf; intro a hf
      refine dr_take 13 (v8) rfl (by kernel_rfl) (by kernel_rfl) (by kernel_rfl) (by kernel_rfl) rfl rfl hf (by decide) (wantY hf rfl rfl hb55) (fun w hp => ?_) ⟨_, hp⟩ ?_
      · obtain ⟨_, hp⟩ := hp
        refine st_move hf (wantY hf rfl rfl hb55) rfl (by decide) ?_
        clear hf; intro a ha hf
        exact st_nil hf (th_n ⟨ha, rfl⟩)
      clear hf; intro a hf
      refine dr_take 14 (vqx0) rfl (by kernel_rfl) (by kernel_rfl) (by kernel_rfl) (by kernel_rfl) rfl rfl hf (by decide) (wantY hf rfl rfl hb55) (fun w hp => ?_) ⟨_, hp⟩ ?_
      · obtain ⟨_, hp⟩ := hp
        refine st_move hf (wantY hf rfl rfl hb55) rfl (by decide) ?_
        clear hf; intro a ha hf
        exact st_nil hf (th_n ⟨ha, rfl⟩)
      clear hf; intro a hf
      refine dr_take 15 (.int .i64 (qx0.length : Int)) rfl (by kernel_rfl) (by kernel_rfl) (by kernel_rfl) (by kernel_rfl) rfl rfl hf (by decide) (wantY hf rfl rfl hb55) (fun w hp => ?_) ⟨_, hp⟩ ?_
      · obtain ⟨_, hp⟩ := hp
        refine st_len (E := (Ek.int .u8)) hf (by decide) Try.underlying22 (wantY hf rfl rfl hb55) rfl (rl40.sl hp) ?_
        clear hf; intro a ha hf
        exact st_nil hf (th_n ⟨ha, rfl⟩)
      clear hf; intro a hf
      refine dr_take 16 ((GL.cut v8 0 (((qx0.length : Int)).toNat) 1)) rfl (by kernel_rfl) (by kernel_rfl) (by kernel_rfl) (by kernel_rfl) rfl rfl hf (by decide) (wantY hf rfl rfl hb55) (fun w hp => ?_) ⟨_, hp⟩ ?_
      · obtain ⟨_, hp⟩ := hp
        refine st_cutS (E := (Ek.int .u8)) hf (by decide) Try.underlying22 elt5 (wantY hf rfl rfl hb55) rfl (rl43.sl hp) (.inl ⟨rfl, rfl⟩) (.inr ⟨_, _, rfl, evI rfl (by omega)⟩) hc57 hc58 ?_
        clear hf; intro a ha hf
        exact st_nil hf (th_n ⟨ha, rfl⟩)
      clear hf; intro a hf
      refine dr_take 17 (vqx0) rfl (by kernel_rfl) (by kernel_rfl) (by kernel_rfl) (by kernel_rfl) rfl rfl hf (by decide) (wantY hf rfl rfl hb55) (fun w hp => ?_) ⟨_, hp⟩ ?_
      · obtain ⟨_, hp⟩ := hp
        refine st_move hf (wantY hf rfl rfl hb55) rfl (by decide) ?_
        clear hf; intro a ha hf
        exact st_nil hf (th_n ⟨ha, rfl⟩)
      clear hf; intro a hf
      refine dr_one 18 rfl (by kernel_rfl) ?_
      refine st_call hf (by decide) Try.func13 rfl rfl (wantY hf rfl rfl hb55) rfl rfl (f_foghornlaw06_quarters_c hp _ _ (RdS.cut rl43 hc57 hc58) _ _ rl40 hcall60) ?_
      rintro _ w ⟨rfl, hp0⟩
      clear hp; have hp := hp0; clear hp0
      replace hp : Hp _ _ _ (Res.sl Ek.bool 4 v21 ([true]) :: Res.sl Ek.bool 4 v13 ([true]) :: Res.sl (Ek.int .u8) 5 v5 ([(99 : Int)]) :: ow) := hp
      refine ⟨_, rfl, ?_⟩
      clear hf; intro a hf
      refine st_nil hf (th_n ⟨fun _ _ => ⟨_, hp⟩, ?_⟩)
      refine dr_take 19 (.bool (!q59)) rfl (by kernel_rfl) (by kernel_rfl) (by kernel_rfl) (by kernel_rfl) rfl rfl hf (by decide) (wantY hf rfl rfl hb55) (fun w hp => ?_) ⟨_, hp⟩ ?_
      · obtain ⟨_, hp⟩ := hp
        refine st_not hf (by decide) (wantY hf rfl rfl hb55) rfl ?_
        clear hf; intro a ha hf
        exact st_nil hf (th_n ⟨ha, rfl⟩)
      clear hf; intro a hf
      refine dr_take 20 (.bool z61) rfl (by kernel_rfl) (by kernel_rfl) (by kernel_rfl) (by kernel_rfl) rfl rfl hf (by decide) rfl (fun w hp => ?_) ⟨_, hp⟩ ?_
      · obtain ⟨_, hp⟩ := hp
        refine st_pick (v := .bool z61) hf rfl rfl (fun hb' => absurd (hb55.symm.trans hb') (by decide)) (fun _ => by rw [← hz54]; rfl) (by decide) ?_
        clear hf; intro a ha hf
        exact st_nil hf (th_n ⟨ha, rfl⟩)
      clear hf; intro a hf
      refine dr_take 21 (.bool z61) rfl (by kernel_rfl) (by kernel_rfl) (by kernel_rfl) (by kernel_rfl) rfl rfl hf (by decide) rfl (fun w hp => ?_) ⟨_, hp⟩ ?_
      · obtain ⟨_, hp⟩ := hp
        refine st_move hf rfl rfl (by decide) ?_
        clear hf; intro a ha hf
        exact st_nil hf (th_n ⟨ha, rfl⟩)
      clear hf; intro a hf
      refine dr_take 22 (v8) rfl (by kernel_rfl) (by kernel_rfl) (by kernel_rfl) (by kernel_rfl) rfl rfl hf (by decide) (wantY hf rfl rfl hb63) (fun w hp => ?_) ⟨_, hp⟩ ?_
      · obtain ⟨_, hp⟩ := hp
        refine st_move hf (wantY hf rfl rfl hb63) rfl (by decide) ?_
        clear hf; intro a ha hf
        exact st_nil hf (th_n ⟨ha, rfl⟩)
      clear hf; intro a hf
      refine dr_take 23 (vqx0) rfl (by kernel_rfl) (by kernel_rfl) (by kernel_rfl) (by kernel_rfl) rfl rfl hf (by decide) (wantY hf rfl rfl hb63) (fun w hp => ?_) ⟨_, hp⟩ ?_
      · obtain ⟨_, hp⟩ := hp
        refine st_move hf (wantY hf rfl rfl hb63) rfl (by decide) ?_
        clear hf; intro a ha hf
        exact st_nil hf (th_n ⟨ha, rfl⟩)
      clear hf; intro a hf
      refine dr_take 24 (.int .i64 (qx0.length : Int)) rfl (by kernel_rfl) (by kernel_rfl) (by kernel_rfl) (by kernel_rfl) rfl rfl hf (by decide) (wantY hf rfl rfl hb63) (fun w hp => ?_) ⟨_, hp⟩ ?_
      · obtain ⟨_, hp⟩ := hp
        refine st_len (E := (Ek.int .u8)) hf (by decide) Try.underlying22 (wantY hf rfl rfl hb63) rfl (rl40.sl hp) ?_
        clear hf; intro a ha hf
        exact st_nil hf (th_n ⟨ha, rfl⟩)
      clear hf; intro a hf
      refine dr_take 25 (eptr v8 (qx0.length : Int) 1) rfl (by kernel_rfl) (by kernel_rfl) (by kernel_rfl) (by kernel_rfl) rfl rfl hf (by decide) (wantY hf rfl rfl hb63) (fun w hp => ?_) ⟨_, hp⟩ ?_
      · obtain ⟨_, hp⟩ := hp
        refine st_index (E := (Ek.int .u8)) hf (by decide) Try.underlying22 elt5 (wantY hf rfl rfl hb63) rfl rfl (rl43.sl hp) hc64.1 hc64.2 ?_
        clear hf; intro a ha hf
        exact st_nil hf (th_n ⟨ha, rfl⟩)
      clear hf; intro a hf
      refine dr_take 26 (.int .u8 (gt ((([] : List Int) ++ qx0) ++ [(99 : Int)]) (qx0.length : Int))) rfl (by kernel_rfl) (by kernel_rfl) (by kernel_rfl) (by kernel_rfl) rfl rfl hf (by decide) (wantY hf rfl rfl hb63) (fun w hp => ?_) ⟨_, hp⟩ ?_
      · obtain ⟨_, hp⟩ := hp
        refine st_ldI hf (by decide) pl5 (wantY hf rfl rfl hb63) rfl (rl43.sl hp) hc64.1 hc64.2 ?_
        clear hf; intro a ha hf
        exact st_nil hf (th_n ⟨ha, rfl⟩)
      clear hf; intro a hf
      refine dr_take 27 (.bool ((gt ((([] : List Int) ++ qx0) ++ [(99 : Int)]) (qx0.length : Int)) != (99 : Int))) rfl (by kernel_rfl) (by kernel_rfl) (by kernel_rfl) (by kernel_rfl) rfl rfl hf (by decide) (wantY hf rfl rfl hb63) (fun w hp => ?_) ⟨_, hp⟩ ?_
      · obtain ⟨_, hp⟩ := hp
        refine st_ineq hf (by decide) (wantY hf rfl rfl hb63) rfl rfl ?_
        clear hf; intro a ha hf
        exact st_nil hf (th_n ⟨ha, rfl⟩)
      clear hf; intro a hf
      refine dr_take 28 (.bool z65) rfl (by kernel_rfl) (by kernel_rfl) (by kernel_rfl) (by kernel_rfl) rfl rfl hf (by decide) rfl (fun w hp => ?_) ⟨_, hp⟩ ?_
      · obtain ⟨_, hp⟩ := hp
        refine st_pick (v := .bool z65) hf rfl rfl (fun hb' => absurd (hb63.symm.trans hb') (by decide)) (fun _ => by rw [← hz62]; rfl) (by decide) ?_
        clear hf; intro a ha hf
        exact st_nil hf (th_n ⟨ha, rfl⟩)
      clear hf; intro a hf
      refine dr_take 29 (.bool z65) rfl (by kernel_rfl) (by kernel_rfl) (by kernel_rfl) (by kernel_rfl) rfl rfl hf (by decide) rfl (fun w hp => ?_) ⟨_, hp⟩ ?_
      · obtain ⟨_, hp⟩ := hp
        refine st_move hf rfl rfl (by decide) ?_
        clear hf; intro a ha hf
        exact st_nil hf (th_n ⟨ha, rfl⟩)
      clear hf; intro a hf
      refine dr_take 30 (v16) rfl (by kernel_rfl) (by kernel_rfl) (by kernel_rfl) (by kernel_rfl) rfl rfl hf (by decide) (wantY hf rfl rfl hb67) (fun w hp => ?_) ⟨_, hp⟩ ?_
      · obtain ⟨_, hp⟩ := hp
        refine st_move hf (wantY hf rfl rfl hb67) rfl (by decide) ?_
        clear hf; intro a ha hf
        exact st_nil hf (th_n ⟨ha, rfl⟩)
      clear hf; intro a hf
      refine dr_take 31 (vthere1) rfl (by kernel_rfl) (by kernel_rfl) (by kernel_rfl) (by kernel_rfl) rfl rfl hf (by decide) (wantY hf rfl rfl hb67) (fun w hp => ?_) ⟨_, hp⟩ ?_
      · obtain ⟨_, hp⟩ := hp
        refine st_move hf (wantY hf rfl rfl hb67) rfl (by decide) ?_
        clear hf; intro a ha hf
        exact st_nil hf (th_n ⟨ha, rfl⟩)
      clear hf; intro a hf
      refine dr_take 32 (.int .i64 (there1.length : Int)) rfl (by kernel_rfl) (by kernel_rfl) (by kernel_rfl) (by kernel_rfl) rfl rfl hf (by decide) (wantY hf rfl rfl hb67) (fun w hp => ?_) ⟨_, hp⟩ ?_
      · obtain ⟨_, hp⟩ := hp
        refine st_len (E := Ek.bool) hf (by decide) Try.underlying27 (wantY hf rfl rfl hb67) rfl (rl41.sl hp) ?_
        clear hf; intro a ha hf
        exact st_nil hf (th_n ⟨ha, rfl⟩)
      clear hf; intro a hf
      refine dr_take 33 ((GL.cut v16 0 (((there1.length : Int)).toNat) 1)) rfl (by kernel_rfl) (by kernel_rfl) (by kernel_rfl) (by kernel_rfl) rfl rfl hf (by decide) (wantY hf rfl rfl hb67) (fun w hp => ?_) ⟨_, hp⟩ ?_
      · obtain ⟨_, hp⟩ := hp
        refine st_cutS (E := Ek.bool) hf (by decide) Try.underlying27 elt4 (wantY hf rfl rfl hb67) rfl (rl44.sl hp) (.inl ⟨rfl, rfl⟩) (.inr ⟨_, _, rfl, evI rfl (by omega)⟩) hc69 hc70 ?_
        clear hf; intro a ha hf
        exact st_nil hf (th_n ⟨ha, rfl⟩)
      clear hf; intro a hf
      refine dr_take 34 (vthere1) rfl (by kernel_rfl) (by kernel_rfl) (by kernel_rfl) (by kernel_rfl) rfl rfl hf (by decide) (wantY hf rfl rfl hb67) (fun w hp => ?_) ⟨_, hp⟩ ?_
      · obtain ⟨_, hp⟩ := hp
        refine st_move hf (wantY hf rfl rfl hb67) rfl (by decide) ?_
        clear hf; intro a ha hf
        exact st_nil hf (th_n ⟨ha, rfl⟩)
      clear hf; intro a hf
      refine dr_one 35 rfl (by kernel_rfl) ?_
      refine st_call hf (by decide) Try.func16 rfl rfl (wantY hf rfl rfl hb67) rfl rfl (f_foghornlaw06_truths_c hp _ _ (RdS.cut rl44 hc69 hc70) _ _ rl41 hcall72) ?_
      rintro _ w ⟨rfl, hp0⟩
      clear hp; have hp := hp0; clear hp0
      replace hp : Hp _ _ _ (Res.sl Ek.bool 4 v21 ([true]) :: Res.sl Ek.bool 4 v13 ([true]) :: Res.sl (Ek.int .u8) 5 v5 ([(99 : Int)]) :: ow) := hp
      refine ⟨_, rfl, ?_⟩
      clear hf; intro a hf
      refine st_nil hf (th_n ⟨fun _ _ => ⟨_, hp⟩, ?_⟩)
      refine dr_take 36 (.bool (!q71)) rfl (by kernel_rfl) (by kernel_rfl) (by kernel_rfl) (by kernel_rfl) rfl rfl hf (by decide) (wantY hf rfl rfl hb67) (fun w hp => ?_) ⟨_, hp⟩ ?_
      · obtain ⟨_, hp⟩ := hp
        refine st_not hf (by decide) (wantY hf rfl rfl hb67) rfl ?_
        clear hf; intro a ha hf
        exact st_nil hf (th_n ⟨ha, rfl⟩)
      clear hf; intro a hf
      refine dr_take 37 (.bool z73) rfl (by kernel_rfl) (by kernel_rfl) (by kernel_rfl) (by kernel_rfl) rfl rfl hf (by decide) rfl (fun w hp => ?_) ⟨_, hp⟩ ?_
      · obtain ⟨_, hp⟩ := hp
        refine st_pick (v := .bool z73) hf rfl rfl (fun hb' => absurd (hb67.symm.trans hb') (by decide)) (fun _ => by rw [← hz66]; rfl) (by decide) ?_
        clear hf; intro a ha hf
        exact st_nil hf (th_n ⟨ha, rfl⟩)
      clear hf; intro a hf
      refine dr_take 38 (.bool z73) rfl (by kernel_rfl) (by kernel_rfl) (by kernel_rfl) (by kernel_rfl) rfl rfl hf (by decide) rfl (fun w hp => ?_) ⟨_, hp⟩ ?_
      · obtain ⟨_, hp⟩ := hp
        refine st_move hf rfl rfl (by decide) ?_
        clear hf; intro a ha hf
        exact st_nil hf (th_n ⟨ha, rfl⟩)
      clear hf; intro a hf
      refine dr_take 39 (v16) rfl (by kernel_rfl) (by kernel_rfl) (by kernel_rfl) (by kernel_rfl) rfl rfl hf (by decide) (wantY hf rfl rfl hb75) (fun w hp => ?_) ⟨_, hp⟩ ?_
      · obtain ⟨_, hp⟩ := hp
        refine st_move hf (wantY hf rfl rfl hb75) rfl (by decide) ?_
        clear hf; intro a ha hf
        exact st_nil hf (th_n ⟨ha, rfl⟩)
      clear hf; intro a hf
      refine dr_take 40 (vthere1) rfl (by kernel_rfl) (by kernel_rfl) (by kernel_rfl) (by kernel_rfl) rfl rfl hf (by decide) (wantY hf rfl rfl hb75) (fun w hp => ?_) ⟨_, hp⟩ ?_
      · obtain ⟨_, hp⟩ := hp
        refine st_move hf (wantY hf rfl rfl hb75) rfl (by decide) ?_
        clear hf; intro a ha hf
        exact st_nil hf (th_n ⟨ha, rfl⟩)
      clear hf; intro a hf
      refine dr_take 41 (.int .i64 (there1.length : Int)) rfl (by kernel_rfl) (by kernel_rfl) (by kernel_rfl) (by kernel_rfl) rfl rfl hf (by decide) (wantY hf rfl rfl hb75) (fun w hp => ?_) ⟨_, hp⟩ ?_
      · obtain ⟨_, hp⟩ := hp
        refine st_len (E := Ek.bool) hf (by decide) Try.underlying27 (wantY hf rfl rfl hb75) rfl (rl41.sl hp) ?_
        clear hf; intro a ha hf
        exact st_nil hf (th_n ⟨ha, rfl⟩)
      clear hf; intro a hf
      refine dr_take 42 (eptr v16 (there1.length : Int) 1) rfl (by kernel_rfl) (by kernel_rfl) (by kernel_rfl) (by kernel_rfl) rfl rfl hf (by decide) (wantY hf rfl rfl hb75) (fun w hp => ?_) ⟨_, hp⟩ ?_
      · obtain ⟨_, hp⟩ := hp
        refine st_index (E := Ek.bool) hf (by decide) Try.underlying27 elt4 (wantY hf rfl rfl hb75) rfl rfl (rl44.sl hp) hc76.1 hc76.2 ?_
        clear hf; intro a ha hf
        exact st_nil hf (th_n ⟨ha, rfl⟩)
      clear hf; intro a hf
      refine dr_take 43 (.bool (gt ((([] : List Bool) ++ there1) ++ [true]) (there1.length : Int))) rfl (by kernel_rfl) (by kernel_rfl) (by kernel_rfl) (by kernel_rfl) rfl rfl hf (by decide) (wantY hf rfl rfl hb75) (fun w hp => ?_) ⟨_, hp⟩ ?_
      · obtain ⟨_, hp⟩ := hp
        refine st_ldB hf (by decide) pl4 (wantY hf rfl rfl hb75) rfl (rl44.sl hp) hc76.1 hc76.2 ?_
        clear hf; intro a ha hf
        exact st_nil hf (th_n ⟨ha, rfl⟩)
      clear hf; intro a hf
      refine dr_take 44 (.bool (!(gt ((([] : List Bool) ++ there1) ++ [true]) (there1.length : Int)))) rfl (by kernel_rfl) (by kernel_rfl) (by kernel_rfl) (by kernel_rfl) rfl rfl hf (by decide) (wantY hf rfl rfl hb75) (fun w hp => ?_) ⟨_, hp⟩ ?_
      · obtain ⟨_, hp⟩ := hp
        refine st_not hf (by decide) (wantY hf rfl rfl hb75) rfl ?_
        clear hf; intro a ha hf
        exact st_nil hf (th_n ⟨ha, rfl⟩)
      clear hf; intro a hf
      refine dr_take 45 (.bool z77) rfl (by kernel_rfl) (by kernel_rfl) (by kernel_rfl) (by kernel_rfl) rfl rfl hf (by decide) rfl (fun w hp => ?_) ⟨_, hp⟩ ?_
      · obtain ⟨_, hp⟩ := hp
        refine st_pick (v := .bool z77) hf rfl rfl (fun hb' => absurd (hb75.symm.trans hb') (by decide)) (fun _ => by rw [← hz74]; rfl) (by decide) ?_
        clear hf; intro a ha hf
        exact st_nil hf (th_n ⟨ha, rfl⟩)
      clear hf; intro a hf
      refine dr_take 46 (.bool z77) rfl (by kernel_rfl) (by kernel_rfl) (by kernel_rfl) (by kernel_rfl) rfl rfl hf (by decide) rfl (fun w hp => ?_) ⟨_, hp⟩ ?_
      · obtain ⟨_, hp⟩ := hp
        refine st_move hf rfl rfl (by decide) ?_
        clear hf; intro a ha hf
        exact st_nil hf (th_n ⟨ha, rfl⟩)
      clear hf; intro a hf
      refine dr_take 47 (v24) rfl (by kernel_rfl) (by kernel_rfl) (by kernel_rfl) (by kernel_rfl) rfl rfl hf (by decide) (wantY hf rfl rfl hb79) (fun w hp => ?_) ⟨_, hp⟩ ?_
      · obtain ⟨_, hp⟩ := hp
        refine st_move hf (wantY hf rfl rfl hb79) rfl (by decide) ?_
        clear hf; intro a ha hf
        exact st_nil hf (th_n ⟨ha, rfl⟩)
      clear hf; intro a hf
      refine dr_take 48 (vbits2) rfl (by kernel_rfl) (by kernel_rfl) (by kernel_rfl) (by kernel_rfl) rfl rfl hf (by decide) (wantY hf rfl rfl hb79) (fun w hp => ?_) ⟨_, hp⟩ ?_
      · obtain ⟨_, hp⟩ := hp
        refine st_move hf (wantY hf rfl rfl hb79) rfl (by decide) ?_
        clear hf; intro a ha hf
        exact st_nil hf (th_n ⟨ha, rfl⟩)
      clear hf; intro a hf
      refine dr_take 49 (.int .i64 (bits2.length : Int)) rfl (by kernel_rfl) (by kernel_rfl) (by kernel_rfl) (by kernel_rfl) rfl rfl hf (by decide) (wantY hf rfl rfl hb79) (fun w hp => ?_) ⟨_, hp⟩ ?_
      · obtain ⟨_, hp⟩ := hp
        refine st_len (E := Ek.bool) hf (by decide) Try.underlying27 (wantY hf rfl rfl hb79) rfl (rl42.sl hp) ?_
        clear hf; intro a ha hf
        exact st_nil hf (th_n ⟨ha, rfl⟩)
      clear hf; intro a hf
      refine dr_take 50 ((GL.cut v24 0 (((bits2.length : Int)).toNat) 1)) rfl (by kernel_rfl) (by kernel_rfl) (by kernel_rfl) (by kernel_rfl) rfl rfl hf (by decide) (wantY hf rfl rfl hb79) (fun w hp => ?_) ⟨_, hp⟩ ?_
      · obtain ⟨_, hp⟩ := hp
        refine st_cutS (E := Ek.bool) hf (by decide) Try.underlying27 elt4 (wantY hf rfl rfl hb79) rfl (rl45.sl hp) (.inl ⟨rfl, rfl⟩) (.inr ⟨_, _, rfl, evI rfl (by omega)⟩) hc81 hc82 ?_
        clear hf; intro a ha hf
        exact st_nil hf (th_n ⟨ha, rfl⟩)
      clear hf; intro a hf
      refine dr_take 51 (vbits2) rfl (by kernel_rfl) (by kernel_rfl) (by kernel_rfl) (by kernel_rfl) rfl rfl hf (by decide) (wantY hf rfl rfl hb79) (fun w hp => ?_) ⟨_, hp⟩ ?_
      · obtain ⟨_, hp⟩ := hp
        refine st_move hf (wantY hf rfl rfl hb79) rfl (by decide) ?_
        clear hf; intro a ha hf
        exact st_nil hf (th_n ⟨ha, rfl⟩)
      clear hf; intro a hf
      refine dr_one 52 rfl (by kernel_rfl) ?_
      refine st_call hf (by decide) Try.func17 rfl rfl (wantY hf rfl rfl hb79) rfl rfl (f_foghornlaw06_spelt_c hp _ _ (RdS.cut rl45 hc81 hc82) _ _ rl42 hcall84) ?_
      rintro _ w ⟨rfl, hp0⟩
      clear hp; have hp := hp0; clear hp0
      replace hp : Hp _ _ _ (Res.sl Ek.bool 4 v21 ([true]) :: Res.sl Ek.bool 4 v13 ([true]) :: Res.sl (Ek.int .u8) 5 v5 ([(99 : Int)]) :: ow) := hp
      refine ⟨_, rfl, ?_⟩
      clear hf; intro a hf
      refine st_nil hf (th_n ⟨fun _ _ => ⟨_, hp⟩, ?_⟩)
      refine dr_take 53 (.bool (!q83)) rfl (by kernel_rfl) (by kernel_rfl) (by kernel_rfl) (by kernel_rfl) rfl rfl hf (by decide) (wantY hf rfl rfl hb79) (fun w hp => ?_) ⟨_, hp⟩ ?_
      · obtain ⟨_, hp⟩ := hp
        refine st_not hf (by decide) (wantY hf rfl rfl hb79) rfl ?_
        clear hf; intro a ha hf
        exact st_nil hf (th_n ⟨ha, rfl⟩)
      clear hf; intro a hf
      refine dr_take 54 (.bool z85) rfl (by kernel_rfl) (by kernel_rfl) (by kernel_rfl) (by kernel_rfl) rfl rfl hf (by decide) rfl (fun w hp => ?_) ⟨_, hp⟩ ?_
      · obtain ⟨_, hp⟩ := hp
        refine st_pick (v := .bool z85) hf rfl rfl (fun hb' => absurd (hb79.symm.trans hb') (by decide)) (fun _ => by rw [← hz78]; rfl) (by decide) ?_
        clear hf; intro a ha hf
        exact st_nil hf (th_n ⟨ha, rfl⟩)
      clear hf; intro a hf
      refine dr_take 55 (.bool z85) rfl (by kernel_rfl) (by kernel_rfl) (by kernel_rfl) (by kernel_rfl) rfl rfl hf (by decide) rfl (fun w hp => ?_) ⟨_, hp⟩ ?_
      · obtain ⟨_, hp⟩ := hp
        refine st_move hf rfl rfl (by decide) ?_
        clear hf; intro a ha hf
        exact st_nil hf (th_n ⟨ha, rfl⟩)
      clear hf; intro a hf
      refine dr_take 56 (v24) rfl (by kernel_rfl) (by kernel_rfl) (by kernel_rfl) (by kernel_rfl) rfl rfl hf (by decide) (wantY hf rfl rfl hb87) (fun w hp => ?_) ⟨_, hp⟩ ?_
      · obtain ⟨_, hp⟩ := hp
        refine st_move hf (wantY hf rfl rfl hb87) rfl (by decide) ?_
        clear hf; intro a ha hf
        exact st_nil hf (th_n ⟨ha, rfl⟩)
      clear hf; intro a hf
      refine dr_take 57 (vbits2) rfl (by kernel_rfl) (by kernel_rfl) (by kernel_rfl) (by kernel_rfl) rfl rfl hf (by decide) (wantY hf rfl rfl hb87) (fun w hp => ?_) ⟨_, hp⟩ ?_
      · obtain ⟨_, hp⟩ := hp
        refine st_move hf (wantY hf rfl rfl hb87) rfl (by decide) ?_
        clear hf; intro a ha hf
        exact st_nil hf (th_n ⟨ha, rfl⟩)
      clear hf; intro a hf
      refine dr_take 58 (.int .i64 (bits2.length : Int)) rfl (by kernel_rfl) (by kernel_rfl) (by kernel_rfl) (by kernel_rfl) rfl rfl hf (by decide) (wantY hf rfl rfl hb87) (fun w hp => ?_) ⟨_, hp⟩ ?_
      · obtain ⟨_, hp⟩ := hp
        refine st_len (E := Ek.bool) hf (by decide) Try.underlying27 (wantY hf rfl rfl hb87) rfl (rl42.sl hp) ?_
        clear hf; intro a ha hf
        exact st_nil hf (th_n ⟨ha, rfl⟩)
      clear hf; intro a hf
      refine dr_take 59 ((GL.cut v24 0 (((bits2.length : Int)).toNat) 1)) rfl (by kernel_rfl) (by kernel_rfl) (by kernel_rfl) (by kernel_rfl) rfl rfl hf (by decide) (wantY hf rfl rfl hb87) (fun w hp => ?_) ⟨_, hp⟩ ?_
      · obtain ⟨_, hp⟩ := hp
        refine st_cutS (E := Ek.bool) hf (by decide) Try.underlying27 elt4 (wantY hf rfl rfl hb87) rfl (rl45.sl hp) (.inl ⟨rfl, rfl⟩) (.inr ⟨_, _, rfl, evI rfl (by omega)⟩) hc89 hc90 ?_
        clear hf; intro a ha hf
        exact st_nil hf (th_n ⟨ha, rfl⟩)
      clear hf; intro a hf
      refine dr_take 60 (vbits2) rfl (by kernel_rfl) (by kernel_rfl) (by kernel_rfl) (by kernel_rfl) rfl rfl hf (by decide) (wantY hf rfl rfl hb87) (fun w hp => ?_) ⟨_, hp⟩ ?_
      · obtain ⟨_, hp⟩ := hp
        refine st_move hf (wantY hf rfl rfl hb87) rfl (by decide) ?_
        clear hf; intro a ha hf
        exact st_nil hf (th_n ⟨ha, rfl⟩)
      clear hf; intro a hf
      refine dr_one 61 rfl (by kernel_rfl) ?_
      refine st_call hf (by decide) Try.func16 rfl rfl (wantY hf rfl rfl hb87) rfl rfl (f_foghornlaw06_truths_c hp _ _ (RdS.cut rl45 hc89 hc90) _ _ rl42 hcall92) ?_
      rintro _ w ⟨rfl, hp0⟩
      clear hp; have hp := hp0; clear hp0
      replace hp : Hp _ _ _ (Res.sl Ek.bool 4 v21 ([true]) :: Res.sl Ek.bool 4 v13 ([true]) :: Res.sl (Ek.int .u8) 5 v5 ([(99 : Int)]) :: ow) := hp
      refine ⟨_, rfl, ?_⟩
      clear hf; intro a hf
      refine st_nil hf (th_n ⟨fun _ _ => ⟨_, hp⟩, ?_⟩)
      refine dr_take 62 (.bool (!q91)) rfl (by kernel_rfl) (by kernel_rfl) (by kernel_rfl) (by kernel_rfl) rfl rfl hf (by decide) (wantY hf rfl rfl hb87) (fun w hp => ?_) ⟨_, hp⟩ ?_
      · obtain ⟨_, hp⟩ := hp
        refine st_not hf (by decide) (wantY hf rfl rfl hb87) rfl ?_
        clear hf; intro a ha hf
        exact st_nil hf (th_n ⟨ha, rfl⟩)
      clear hf; intro a hf
      refine dr_take 63 (.bool z93) rfl (by kernel_rfl) (by kernel_rfl) (by kernel_rfl) (by kernel_rfl) rfl rfl hf (by decide) rfl (fun w hp => ?_) ⟨_, hp⟩ ?_
      · obtain ⟨_, hp⟩ := hp
        refine st_pick (v := .bool z93) hf rfl rfl (fun hb' => absurd (hb87.symm.trans hb') (by decide)) (fun _ => by rw [← hz86]; rfl) (by decide) ?_
        clear hf; intro a ha hf
        exact st_nil hf (th_n ⟨ha, rfl⟩)
      clear hf; intro a hf
      refine dr_take 64 (.bool z93) rfl (by kernel_rfl) (by kernel_rfl) (by kernel_rfl) (by kernel_rfl) rfl rfl hf (by decide) rfl (fun w hp => ?_) ⟨_, hp⟩ ?_
      · obtain ⟨_, hp⟩ := hp
        refine st_move hf rfl rfl (by decide) ?_
        clear hf; intro a ha hf
        exact st_nil hf (th_n ⟨ha, rfl⟩)
      clear hf; intro a hf
      refine dr_out 65 rfl (by kernel_rfl) (by kernel_rfl) (by kernel_rfl) (by kernel_rfl) rfl hf (by decide) rfl (wantN hf rfl rfl hb95) ⟨_, hp⟩ ?_
      clear hf; intro a hf
      refine dr_out 66 rfl (by kernel_rfl) (by kernel_rfl) (by kernel_rfl) (by kernel_rfl) rfl hf (by decide) rfl (wantN hf rfl rfl hb95) ⟨_, hp⟩ ?_
      clear hf; intro a hf
      refine dr_out 67 rfl (by kernel_rfl) (by kernel_rfl) (by kernel_rfl) (by kernel_rfl) rfl hf (by decide) rfl (wantN hf rfl rfl hb95) ⟨_, hp⟩ ?_
      clear hf; intro a hf
      refine dr_out 68 rfl (by kernel_rfl) (by kernel_rfl) (by kernel_rfl) (by kernel_rfl) rfl hf (by decide) rfl (wantN hf rfl rfl hb95) ⟨_, hp⟩ ?_
      clear hf; intro a hf
      refine dr_out 69 rfl (by kernel_rfl) (by kernel_rfl) (by kernel_rfl) (by kernel_rfl) rfl hf (by decide) rfl (wantN hf rfl rfl hb95) ⟨_, hp⟩ ?_
      clear hf; intro a hf
      refine dr_out 70 rfl (by kernel_rfl) (by kernel_rfl) (by kernel_rfl) (by kernel_rfl) rfl hf (by decide) rfl (wantN hf rfl rfl hb95) ⟨_, hp⟩ ?_
      clear hf; intro a hf
      refine dr_take 71 (.bool z97) rfl (by kernel_rfl) (by kernel_rfl) (by kernel_rfl) (by kernel_rfl) rfl rfl hf (by decide) rfl (fun w hp => ?_) ⟨_, hp⟩ ?_
      · obtain ⟨_, hp⟩ := hp
        refine st_pick (v := .bool z97) hf rfl rfl (fun _ => by rw [← hz94]; rfl) (fun hb' => absurd (hb95.symm.trans hb') (by decide)) (by decide) ?_
        clear hf; intro a ha hf
        exact st_nil hf (th_n ⟨ha, rfl⟩)
      clear hf; intro a hf
      refine dr_end (by kernel_rfl) ?_ _
      have hp := bk39 _ _ hp
      have hp := bk34 _ _ hp
      have hp := bk29 _ _ hp
      exact ⟨hf.sub ⟨rfl, rfl, rfl, rfl, rfl, trivial⟩, hp⟩
    skip
    replace hz94 := ifF hz94 hb95
    obtain ⟨hc96, hz94⟩ := chk hz94
    replace hz94 := Option.some.inj hz94
    refine dr_begin' (fun a w => Fr 138 a [(0, vqx0), (1, vthere1), (7, v8), (8, v16), (98, .bool z97)] ∧ Hp S w0 w (Res.sl (Ek.int .u8) 5 v8 ((([] : List Int) ++ qx0) ++ [(99 : Int)]) :: Res.sl Ek.bool 4 v16 ((([] : List Bool) ++ there1) ++ [true]) :: Res.sl Ek.bool 4 v24 ((([] : List Bool) ++ bits2) ++ [true]) :: Res.sl Ek.bool 4 v21 ([true]) :: Res.sl Ek.bool 4 v13 ([true]) :: Res.sl (Ek.int .u8) 5 v5 ([(99 : Int)]) :: ow)) (fun w' => ∃ l, Hp S35 w w' l) [] (by kernel_rfl) ?_
    refine dr_take 0 (v8) rfl (by kernel_rfl) (by kernel_rfl) (by kernel_rfl) (by kernel_rfl) rfl rfl hf (by decide) rfl (fun w hp => ?_) ⟨_, hp⟩ ?_
    · obtain ⟨_, hp⟩ := hp
      refine st_move hf rfl rfl (by decide) ?_
      clear hf; intro a ha hf
      exact st_nil hf (th_n ⟨ha, rfl⟩)
    clear hf; intro a hf
    refine dr_take 1 (vqx0) rfl (by kernel_rfl) (by kernel_rfl) (by kernel_rfl) (by kernel_rfl) rfl rfl hf (by decide) rfl (fun w hp => ?_) ⟨_, hp⟩ ?_
    · obtain ⟨_, hp⟩ := hp
      refine st_move hf rfl rfl (by decide) ?_
      clear hf; intro a ha hf
      exact st_nil hf (th_n ⟨ha, rfl⟩)
    clear hf; intro a hf
    refine dr_take 2 (.int .i64 (qx0.length : Int)) rfl (by kernel_rfl) (by kernel_rfl) (by kernel_rfl) (by kernel_rfl) rfl rfl hf (by decide) rfl (fun w hp => ?_) ⟨_, hp⟩ ?_
    · obtain ⟨_, hp⟩ := hp
      refine st_len (E := (Ek.int .u8)) hf (by decide) Try.underlying22 rfl rfl (rl40.sl hp) ?_
      clear hf; intro a ha hf
      exact st_nil hf (th_n ⟨ha, rfl⟩)
    clear hf; intro a hf
    refine dr_take 3 ((GL.cut v8 0 (((qx0.length : Int)).toNat) 1)) rfl (by kernel_rfl) (by kernel_rfl) (by kernel_rfl) (by kernel_rfl) rfl rfl hf (by decide) rfl (fun w hp => ?_) ⟨_, hp⟩ ?_
    · obtain ⟨_, hp⟩ := hp
      refine st_cutS (E := (Ek.int .u8)) hf (by decide) Try.underlying22 elt5 rfl rfl (rl43.sl hp) (.inl ⟨rfl, rfl⟩) (.inr ⟨_, _, rfl, evI rfl (by omega)⟩) hc47 hc48 ?_
      clear hf; intro a ha hf
      exact st_nil hf (th_n ⟨ha, rfl⟩)
    clear hf; intro a hf
    refine dr_take 4 (v16) rfl (by kernel_rfl) (by kernel_rfl) (by kernel_rfl) (by kernel_rfl) rfl rfl hf (by decide) rfl (fun w hp => ?_) ⟨_, hp⟩ ?_
    · obtain ⟨_, hp⟩ := hp
      refine st_move hf rfl rfl (by decide) ?_
      clear hf; intro a ha hf
      exact st_nil hf (th_n ⟨ha, rfl⟩)
    clear hf; intro a hf
    refine dr_take 5 (vthere1) rfl (by kernel_rfl) (by kernel_rfl) (by kernel_rfl) (by kernel_rfl) rfl rfl hf (by decide) rfl (fun w hp => ?_) ⟨_, hp⟩ ?_
    · obtain ⟨_, hp⟩ := hp
      refine st_move hf rfl rfl (by decide) ?_
      clear hf; intro a ha hf
      exact st_nil hf (th_n ⟨ha, rfl⟩)
    clear hf; intro a hf
    refine dr_take 6 (.int .i64 (there1.length : Int)) rfl (by kernel_rfl) (by kernel_rfl) (by kernel_rfl) (by kernel_rfl) rfl rfl hf (by decide) rfl (fun w hp => ?_) ⟨_, hp⟩ ?_
    · obtain ⟨_, hp⟩ := hp
      refine st_len (E := Ek.bool) hf (by decide) Try.underlying27 rfl rfl (rl41.sl hp) ?_
      clear hf; intro a ha hf
      exact st_nil hf (th_n ⟨ha, rfl⟩)
    clear hf; intro a hf
    refine dr_take 7 ((GL.cut v16 0 (((there1.length : Int)).toNat) 1)) rfl (by kernel_rfl) (by kernel_rfl) (by kernel_rfl) (by kernel_rfl) rfl rfl hf (by decide) rfl (fun w hp => ?_) ⟨_, hp⟩ ?_
    · obtain ⟨_, hp⟩ := hp
      refine st_cutS (E := Ek.bool) hf (by decide) Try.underlying27 elt4 rfl rfl (rl44.sl hp) (.inl ⟨rfl, rfl⟩) (.inr ⟨_, _, rfl, evI rfl (by omega)⟩) hc50 hc51 ?_
      clear hf; intro a ha hf
      exact st_nil hf (th_n ⟨ha, rfl⟩)
    clear hf; intro a hf
    refine dr_take 8 (vqx0) rfl (by kernel_rfl) (by kernel_rfl) (by kernel_rfl) (by kernel_rfl) rfl rfl hf (by decide) rfl (fun w hp => ?_) ⟨_, hp⟩ ?_
    · obtain ⟨_, hp⟩ := hp
      refine st_move hf rfl rfl (by decide) ?_
      clear hf; intro a ha hf
      exact st_nil hf (th_n ⟨ha, rfl⟩)
    clear hf; intro a hf
    refine dr_take 9 (vthere1) rfl (by kernel_rfl) (by kernel_rfl) (by kernel_rfl) (by kernel_rfl) rfl rfl hf (by decide) rfl (fun w hp => ?_) ⟨_, hp⟩ ?_
    · obtain ⟨_, hp⟩ := hp
      refine st_move hf rfl rfl (by decide) ?_
      clear hf; intro a ha hf
      exact st_nil hf (th_n ⟨ha, rfl⟩)
    clear hf; intro a hf
    refine dr_one 10 rfl (by kernel_rfl) ?_
    refine st_call hf (by decide) Try.func15 rfl rfl rfl rfl rfl (f_foghornlaw06_rows_c hp _ _ (RdS.cut rl43 hc47 hc48) _ _ (RdS.cut rl44 hc50 hc51) _ _ rl40 _ _ rl41 hcall53) ?_
    rintro _ w ⟨rfl, hp0⟩
    clear hp; have hp := hp0; clear hp0
    replace hp : Hp _ _ _ (Res.sl Ek.bool 4 v21 ([true]) :: Res.sl Ek.bool 4 v13 ([true]) :: Res.sl (Ek.int .u8) 5 v5 ([(99 : Int)]) :: ow) := hp
    refine ⟨_, rfl, ?_⟩
    clear hf; intro a hf
    refine st_nil hf (th_n ⟨fun _ _ => ⟨_, hp⟩, ?_⟩)
    refine dr_take 11 (.bool (!q52)) rfl (by kernel_rfl) (by kernel_rfl) (by kernel_rfl) (by kernel_rfl) rfl rfl hf (by decide) rfl (fun w hp => ?_) ⟨_, hp⟩ ?_
    · obtain ⟨_, hp⟩ := hp
      refine st_not hf (by decide) rfl rfl ?_
      clear hf; intro a ha hf
      exact st_nil hf (th_n ⟨ha, rfl⟩)
    clear hf; intro a hf
    refine dr_take 12 (.bool (!q52)) rfl (by kernel_rfl) (by kernel_rfl) (by kernel_rfl) (by kernel_rfl) rfl rfl hf (by decide) rfl (fun w hp => ?_) ⟨_, hp⟩ ?_
    · obtain ⟨_, hp⟩ := hp
      refine st_move hf rfl rfl (by decide) ?_
      clear hf; intro a ha hf
      exact st_nil hf (th_n ⟨ha, rfl⟩)
    clear hf; intro a hf
    refine dr_take 13 (v8) rfl (by kernel_rfl) (by kernel_rfl) (by kernel_rfl) (by kernel_rfl) rfl rfl hf (by decide) (wantY hf rfl rfl hb55) (fun w hp => ?_) ⟨_, hp⟩ ?_
    · obtain ⟨_, hp⟩ := hp
      refine st_move hf (wantY hf rfl rfl hb55) rfl (by decide) ?_
      clear hf; intro a ha hf
      exact st_nil hf (th_n ⟨ha, rfl⟩)
    clear hf; intro a hf
    refine dr_take 14 (vqx0) rfl (by kernel_rfl) (by kernel_rfl) (by kernel_rfl) (by kernel_rfl) rfl rfl hf (by decide) (wantY hf rfl rfl hb55) (fun w hp => ?_) ⟨_, hp⟩ ?_
    · obtain ⟨_, hp⟩ := hp
      refine st_move hf (wantY hf rfl rfl hb55) rfl (by decide) ?_
      clear hf; intro a ha hf
      exact st_nil hf (th_n ⟨ha, rfl⟩)
    clear hf; intro a hf
    refine dr_take 15 (.int .i64 (qx0.length : Int)) rfl (by kernel_rfl) (by kernel_rfl) (by kernel_rfl) (by kernel_rfl) rfl rfl hf (by decide) (wantY hf rfl rfl hb55) (fun w hp => ?_) ⟨_, hp⟩ ?_
    · obtain ⟨_, hp⟩ := hp
      refine st_len (E := (Ek.int .u8)) hf (by decide) Try.underlying22 (wantY hf rfl rfl hb55) rfl (rl40.sl hp) ?_
      clear hf; intro a ha hf
      exact st_nil hf (th_n ⟨ha, rfl⟩)
    clear hf; intro a hf
    refine dr_take 16 ((GL.cut v8 0 (((qx0.length : Int)).toNat) 1)) rfl (by kernel_rfl) (by kernel_rfl) (by kernel_rfl) (by kernel_rfl) rfl rfl hf (by decide) (wantY hf rfl rfl hb55) (fun w hp => ?_) ⟨_, hp⟩ ?_
    · obtain ⟨_, hp⟩ := hp
      refine st_cutS (E := (Ek.int .u8)) hf (by decide) Try.underlying22 elt5 (wantY hf rfl rfl hb55) rfl (rl43.sl hp) (.inl ⟨rfl, rfl⟩) (.inr ⟨_, _, rfl, evI rfl (by omega)⟩) hc57 hc58 ?_
      clear hf; intro a ha hf
      exact st_nil hf (th_n ⟨ha, rfl⟩)
    clear hf; intro a hf
    refine dr_take 17 (vqx0) rfl (by kernel_rfl) (by kernel_rfl) (by kernel_rfl) (by kernel_rfl) rfl rfl hf (by decide) (wantY hf rfl rfl hb55) (fun w hp => ?_) ⟨_, hp⟩ ?_
    · obtain ⟨_, hp⟩ := hp
      refine st_move hf (wantY hf rfl rfl hb55) rfl (by decide) ?_
      clear hf; intro a ha hf
      exact st_nil hf (th_n ⟨ha, rfl⟩)
    clear hf; intro a hf
    refine dr_one 18 rfl (by kernel_rfl) ?_
    refine st_call hf (by decide) Try.func13 rfl rfl (wantY hf rfl rfl hb55) rfl rfl (f_foghornlaw06_quarters_c hp _ _ (RdS.cut rl43 hc57 hc58) _ _ rl40 hcall60) ?_
    rintro _ w ⟨rfl, hp0⟩
    clear hp; have hp := hp0; clear hp0
    replace hp : Hp _ _ _ (Res.sl Ek.bool 4 v21 ([true]) :: Res.sl Ek.bool 4 v13 ([true]) :: Res.sl (Ek.int .u8) 5 v5 ([(99 : Int)]) :: ow) := hp
    refine ⟨_, rfl, ?_⟩
    clear hf; intro a hf
    refine st_nil hf (th_n ⟨fun _ _ => ⟨_, hp⟩, ?_⟩)
    refine dr_take 19 (.bool (!q59)) rfl (by kernel_rfl) (by kernel_rfl) (by kernel_rfl) (by kernel_rfl) rfl rfl hf (by decide) (wantY hf rfl rfl hb55) (fun w hp => ?_) ⟨_, hp⟩ ?_
    · obtain ⟨_, hp⟩ := hp
      refine st_not hf (by decide) (wantY hf rfl rfl hb55) rfl ?_
      clear hf; intro a ha hf
      exact st_nil hf (th_n ⟨ha, rfl⟩)
    clear hf; intro a hf
    refine dr_take 20 (.bool z61) rfl (by kernel_rfl) (by kernel_rfl) (by kernel_rfl) (by kernel_rfl) rfl rfl hf (by decide) rfl (fun w hp => ?_) ⟨_, hp⟩ ?_
    · obtain ⟨_, hp⟩ := hp
      refine st_pick (v := .bool z61) hf rfl rfl (fun hb' => absurd (hb55.symm.trans hb') (by decide)) (fun _ => by rw [← hz54]; rfl) (by decide) ?_
      clear hf; intro a ha hf
      exact st_nil hf (th_n ⟨ha, rfl⟩)
    clear hf; intro a hf
    refine dr_take 21 (.bool z61) rfl (by kernel_rfl) (by kernel_rfl) (by kernel_rfl) (by kernel_rfl) rfl rfl hf (by decide) rfl (fun w hp => ?_) ⟨_, hp⟩ ?_
    · obtain ⟨_, hp⟩ := hp
      refine st_move hf rfl rfl (by decide) ?_
      clear hf; intro a ha hf
      exact st_nil hf (th_n ⟨ha, rfl⟩)
    clear hf; intro a hf
    refine dr_take 22 (v8) rfl (by kernel_rfl) (by kernel_rfl) (by kernel_rfl) (by kernel_rfl) rfl rfl hf (by decide) (wantY hf rfl rfl hb63) (fun w hp => ?_) ⟨_, hp⟩ ?_
    · obtain ⟨_, hp⟩ := hp
      refine st_move hf (wantY hf rfl rfl hb63) rfl (by decide) ?_
      clear hf; intro a ha hf
      exact st_nil hf (th_n ⟨ha, rfl⟩)
    clear hf; intro a hf
    refine dr_take 23 (vqx0) rfl (by kernel_rfl) (by kernel_rfl) (by kernel_rfl) (by kernel_rfl) rfl rfl hf (by decide) (wantY hf rfl rfl hb63) (fun w hp => ?_) ⟨_, hp⟩ ?_
    · obtain ⟨_, hp⟩ := hp
      refine st_move hf (wantY hf rfl rfl hb63) rfl (by decide) ?_
      clear hf; intro a ha hf
      exact st_nil hf (th_n ⟨ha, rfl⟩)
    clear hf; intro a hf
    refine dr_take 24 (.int .i64 (qx0.length : Int)) rfl (by kernel_rfl) (by kernel_rfl) (by kernel_rfl) (by kernel_rfl) rfl rfl hf (by decide) (wantY hf rfl rfl hb63) (fun w hp => ?_) ⟨_, hp⟩ ?_
    · obtain ⟨_, hp⟩ := hp
      refine st_len (E := (Ek.int .u8)) hf (by decide) Try.underlying22 (wantY hf rfl rfl hb63) rfl (rl40.sl hp) ?_
      clear hf; intro a ha hf
      exact st_nil hf (th_n ⟨ha, rfl⟩)
    clear hf; intro a hf
    refine dr_take 25 (eptr v8 (qx0.length : Int) 1) rfl (by kernel_rfl) (by kernel_rfl) (by kernel_rfl) (by kernel_rfl) rfl rfl hf (by decide) (wantY hf rfl rfl hb63) (fun w hp => ?_) ⟨_, hp⟩ ?_
    · obtain ⟨_, hp⟩ := hp
      refine st_index (E := (Ek.int .u8)) hf (by decide) Try.underlying22 elt5 (wantY hf rfl rfl hb63) rfl rfl (rl43.sl hp) hc64.1 hc64.2 ?_
      clear hf; intro a ha hf
      exact st_nil hf (th_n ⟨ha, rfl⟩)
    clear hf; intro a hf
    refine dr_take 26 (.int .u8 (gt ((([] : List Int) ++ qx0) ++ [(99 : Int)]) (qx0.length : Int))) rfl (by kernel_rfl) (by kernel_rfl) (by kernel_rfl) (by kernel_rfl) rfl rfl hf (by decide) (wantY hf rfl rfl hb63) (fun w hp => ?_) ⟨_, hp⟩ ?_
    · obtain ⟨_, hp⟩ := hp
      refine st_ldI hf (by decide) pl5 (wantY hf rfl rfl hb63) rfl (rl43.sl hp) hc64.1 hc64.2 ?_
      clear hf; intro a ha hf
      exact st_nil hf (th_n ⟨ha, rfl⟩)
    clear hf; intro a hf
    refine dr_take 27 (.bool ((gt ((([] : List Int) ++ qx0) ++ [(99 : Int)]) (qx0.length : Int)) != (99 : Int))) rfl (by kernel_rfl) (by kernel_rfl) (by kernel_rfl) (by kernel_rfl) rfl rfl hf (by decide) (wantY hf rfl rfl hb63) (fun w hp => ?_) ⟨_, hp⟩ ?_
    · obtain ⟨_, hp⟩ := hp
      refine st_ineq hf (by decide) (wantY hf rfl rfl hb63) rfl rfl ?_
      clear hf; intro a ha hf
      exact st_nil hf (th_n ⟨ha, rfl⟩)
    clear hf; intro a hf
    refine dr_take 28 (.bool z65) rfl (by kernel_rfl) (by kernel_rfl) (by kernel_rfl) (by kernel_rfl) rfl rfl hf (by decide) rfl (fun w hp => ?_) ⟨_, hp⟩ ?_
    · obtain ⟨_, hp⟩ := hp
      refine st_pick (v := .bool z65) hf rfl rfl (fun hb' => absurd (hb63.symm.trans hb') (by decide)) (fun _ => by rw [← hz62]; rfl) (by decide) ?_
      clear hf; intro a ha hf
      exact st_nil hf (th_n ⟨ha, rfl⟩)
    clear hf; intro a hf
    refine dr_take 29 (.bool z65) rfl (by kernel_rfl) (by kernel_rfl) (by kernel_rfl) (by kernel_rfl) rfl rfl hf (by decide) rfl (fun w hp => ?_) ⟨_, hp⟩ ?_
    · obtain ⟨_, hp⟩ := hp
      refine st_move hf rfl rfl (by decide) ?_
      clear hf; intro a ha hf
      exact st_nil hf (th_n ⟨ha, rfl⟩)
    clear hf; intro a hf
    refine dr_take 30 (v16) rfl (by kernel_rfl) (by kernel_rfl) (by kernel_rfl) (by kernel_rfl) rfl rfl hf (by decide) (wantY hf rfl rfl hb67) (fun w hp => ?_) ⟨_, hp⟩ ?_
    · obtain ⟨_, hp⟩ := hp
      refine st_move hf (wantY hf rfl rfl hb67) rfl (by decide) ?_
      clear hf; intro a ha hf
      exact st_nil hf (th_n ⟨ha, rfl⟩)
    clear hf; intro a hf
    refine dr_take 31 (vthere1) rfl (by kernel_rfl) (by kernel_rfl) (by kernel_rfl) (by kernel_rfl) rfl rfl hf (by decide) (wantY hf rfl rfl hb67) (fun w hp => ?_) ⟨_, hp⟩ ?_
    · obtain ⟨_, hp⟩ := hp
      refine st_move hf (wantY hf rfl rfl hb67) rfl (by decide) ?_
      clear hf; intro a ha hf
      exact st_nil hf (th_n ⟨ha, rfl⟩)
    clear hf; intro a hf
    refine dr_take 32 (.int .i64 (there1.length : Int)) rfl (by kernel_rfl) (by kernel_rfl) (by kernel_rfl) (by kernel_rfl) rfl rfl hf (by decide) (wantY hf rfl rfl hb67) (fun w hp => ?_) ⟨_, hp⟩ ?_
    · obtain ⟨_, hp⟩ := hp
      refine st_len (E := Ek.bool) hf (by decide) Try.underlying27 (wantY hf rfl rfl hb67) rfl (rl41.sl hp) ?_
      clear hf; intro a ha hf
      exact st_nil hf (th_n ⟨ha, rfl⟩)
    clear hf; intro a hf
    refine dr_take 33 ((GL.cut v16 0 (((there1.length : Int)).toNat) 1)) rfl (by kernel_rfl) (by kernel_rfl) (by kernel_rfl) (by kernel_rfl) rfl rfl hf (by decide) (wantY hf rfl rfl hb67) (fun w hp => ?_) ⟨_, hp⟩ ?_
    · obtain ⟨_, hp⟩ := hp
      refine st_cutS (E := Ek.bool) hf (by decide) Try.underlying27 elt4 (wantY hf rfl rfl hb67) rfl (rl44.sl hp) (.inl ⟨rfl, rfl⟩) (.inr ⟨_, _, rfl, evI rfl (by omega)⟩) hc69 hc70 ?_
      clear hf; intro a ha hf
      exact st_nil hf (th_n ⟨ha, rfl⟩)
    clear hf; intro a hf
    refine dr_take 34 (vthere1) rfl (by kernel_rfl) (by kernel_rfl) (by kernel_rfl) (by kernel_rfl) rfl rfl hf (by decide) (wantY hf rfl rfl hb67) (fun w hp => ?_) ⟨_, hp⟩ ?_
    · obtain ⟨_, hp⟩ := hp
      refine st_move hf (wantY hf rfl rfl hb67) rfl (by decide) ?_
      clear hf; intro a ha hf
      exact st_nil hf (th_n ⟨ha, rfl⟩)
    clear hf; intro a hf
    refine dr_one 35 rfl (by kernel_rfl) ?_
    refine st_call hf (by decide) Try.func16 rfl rfl (wantY hf rfl rfl hb67) rfl rfl (f_foghornlaw06_truths_c hp _ _ (RdS.cut rl44 hc69 hc70) _ _ rl41 hcall72) ?_
    rintro _ w ⟨rfl, hp0⟩
    clear hp; have hp := hp0; clear hp0
    replace hp : Hp _ _ _ (Res.sl Ek.bool 4 v21 ([true]) :: Res.sl Ek.bool 4 v13 ([true]) :: Res.sl (Ek.int .u8) 5 v5 ([(99 : Int)]) :: ow) := hp
    refine ⟨_, rfl, ?_⟩
    clear hf; intro a hf
    refine st_nil hf (th_n ⟨fun _ _ => ⟨_, hp⟩, ?_⟩)
    refine dr_take 36 (.bool (!q71)) rfl (by kernel_rfl) (by kernel_rfl) (by kernel_rfl) (by kernel_rfl) rfl rfl hf (by decide) (wantY hf rfl rfl hb67) (fun w hp => ?_) ⟨_, hp⟩ ?_
    · obtain ⟨_, hp⟩ := hp
      refine st_not hf (by decide) (wantY hf rfl rfl hb67) rfl ?_
      clear hf; intro a ha hf
      exact st_nil hf (th_n ⟨ha, rfl⟩)
    clear hf; intro a hf
    refine dr_take 37 (.bool z73) rfl (by kernel_rfl) (by kernel_rfl) (by kernel_rfl) (by kernel_rfl) rfl rfl hf (by decide) rfl (fun w hp => ?_) ⟨_, hp⟩ ?_
    · obtain ⟨_, hp⟩ := hp
      refine st_pick (v := .bool z73) hf rfl rfl (fun hb' => absurd (hb67.symm.trans hb') (by decide)) (fun _ => by rw [← hz66]; rfl) (by decide) ?_
      clear hf; intro a ha hf
      exact st_nil hf (th_n ⟨ha, rfl⟩)
    clear hf; intro a hf
    refine dr_take 38 (.bool z73) rfl (by kernel_rfl) (by kernel_rfl) (by kernel_rfl) (by kernel_rfl) rfl rfl hf (by decide) rfl (fun w hp => ?_) ⟨_, hp⟩ ?_
    · obtain ⟨_, hp⟩ := hp
      refine st_move hf rfl rfl (by decide) ?_
      clear hf; intro a ha hf
      exact st_nil hf (th_n ⟨ha, rfl⟩)
    clear hf; intro a hf
    refine dr_take 39 (v16) rfl (by kernel_rfl) (by kernel_rfl) (by kernel_rfl) (by kernel_rfl) rfl rfl hf (by decide) (wantY hf rfl rfl hb75) (fun w hp => ?_) ⟨_, hp⟩ ?_
    · obtain ⟨_, hp⟩ := hp
      refine st_move hf (wantY hf rfl rfl hb75) rfl (by decide) ?_
      clear hf; intro a ha hf
      exact st_nil hf (th_n ⟨ha, rfl⟩)
    clear hf; intro a hf
    refine dr_take 40 (vthere1) rfl (by kernel_rfl) (by kernel_rfl) (by kernel_rfl) (by kernel_rfl) rfl rfl hf (by decide) (wantY hf rfl rfl hb75) (fun w hp => ?_) ⟨_, hp⟩ ?_
    · obtain ⟨_, hp⟩ := hp
      refine st_move hf (wantY hf rfl rfl hb75) rfl (by decide) ?_
      clear hf; intro a ha hf
      exact st_nil hf (th_n ⟨ha, rfl⟩)
    clear hf; intro a hf
    refine dr_take 41 (.int .i64 (there1.length : Int)) rfl (by kernel_rfl) (by kernel_rfl) (by kernel_rfl) (by kernel_rfl) rfl rfl hf (by decide) (wantY hf rfl rfl hb75) (fun w hp => ?_) ⟨_, hp⟩ ?_
    · obtain ⟨_, hp⟩ := hp
      refine st_len (E := Ek.bool) hf (by decide) Try.underlying27 (wantY hf rfl rfl hb75) rfl (rl41.sl hp) ?_
      clear hf; intro a ha hf
      exact st_nil hf (th_n ⟨ha, rfl⟩)
    clear hf; intro a hf
    refine dr_take 42 (eptr v16 (there1.length : Int) 1) rfl (by kernel_rfl) (by kernel_rfl) (by kernel_rfl) (by kernel_rfl) rfl rfl hf (by decide) (wantY hf rfl rfl hb75) (fun w hp => ?_) ⟨_, hp⟩ ?_
    · obtain ⟨_, hp⟩ := hp
      refine st_index (E := Ek.bool) hf (by decide) Try.underlying27 elt4 (wantY hf rfl rfl hb75) rfl rfl (rl44.sl hp) hc76.1 hc76.2 ?_
      clear hf; intro a ha hf
      exact st_nil hf (th_n ⟨ha, rfl⟩)
    clear hf; intro a hf
    refine dr_take 43 (.bool (gt ((([] : List Bool) ++ there1) ++ [true]) (there1.length : Int))) rfl (by kernel_rfl) (by kernel_rfl) (by kernel_rfl) (by kernel_rfl) rfl rfl hf (by decide) (wantY hf rfl rfl hb75) (fun w hp => ?_) ⟨_, hp⟩ ?_
    · obtain ⟨_, hp⟩ := hp
      refine st_ldB hf (by decide) pl4 (wantY hf rfl rfl hb75) rfl (rl44.sl hp) hc76.1 hc76.2 ?_
      clear hf; intro a ha hf
      exact st_nil hf (th_n ⟨ha, rfl⟩)
    clear hf; intro a hf
    refine dr_take 44 (.bool (!(gt ((([] : List Bool) ++ there1) ++ [true]) (there1.length : Int)))) rfl (by kernel_rfl) (by kernel_rfl) (by kernel_rfl) (by kernel_rfl) rfl rfl hf (by decide) (wantY hf rfl rfl hb75) (fun w hp => ?_) ⟨_, hp⟩ ?_
    · obtain ⟨_, hp⟩ := hp
      refine st_not hf (by decide) (wantY hf rfl rfl hb75) rfl ?_
      clear hf; intro a ha hf
      exact st_nil hf (th_n ⟨ha, rfl⟩)
    clear hf; intro a hf
    refine dr_take 45 (.bool z77) rfl (by kernel_rfl) (by kernel_rfl) (by kernel_rfl) (by kernel_rfl) rfl rfl hf (by decide) rfl (fun w hp => ?_) ⟨_, hp⟩ ?_
    · obtain ⟨_, hp⟩ := hp
      refine st_pick (v := .bool z77) hf rfl rfl (fun hb' => absurd (hb75.symm.trans hb') (by decide)) (fun _ => by rw [← hz74]; rfl) (by decide) ?_
      clear hf; intro a ha hf
      exact st_nil hf (th_n ⟨ha, rfl⟩)
    clear hf; intro a hf
    refine dr_take 46 (.bool z77) rfl (by kernel_rfl) (by kernel_rfl) (by kernel_rfl) (by kernel_rfl) rfl rfl hf (by decide) rfl (fun w hp => ?_) ⟨_, hp⟩ ?_
    · obtain ⟨_, hp⟩ := hp
      refine st_move hf rfl rfl (by decide) ?_
      clear hf; intro a ha hf
      exact st_nil hf (th_n ⟨ha, rfl⟩)
    clear hf; intro a hf
    refine dr_take 47 (v24) rfl (by kernel_rfl) (by kernel_rfl) (by kernel_rfl) (by kernel_rfl) rfl rfl hf (by decide) (wantY hf rfl rfl hb79) (fun w hp => ?_) ⟨_, hp⟩ ?_
    · obtain ⟨_, hp⟩ := hp
      refine st_move hf (wantY hf rfl rfl hb79) rfl (by decide) ?_
      clear hf; intro a ha hf
      exact st_nil hf (th_n ⟨ha, rfl⟩)
    clear hf; intro a hf
    refine dr_take 48 (vbits2) rfl (by kernel_rfl) (by kernel_rfl) (by kernel_rfl) (by kernel_rfl) rfl rfl hf (by decide) (wantY hf rfl rfl hb79) (fun w hp => ?_) ⟨_, hp⟩ ?_
    · obtain ⟨_, hp⟩ := hp
      refine st_move hf (wantY hf rfl rfl hb79) rfl (by decide) ?_
      clear hf; intro a ha hf
      exact st_nil hf (th_n ⟨ha, rfl⟩)
    clear hf; intro a hf
    refine dr_take 49 (.int .i64 (bits2.length : Int)) rfl (by kernel_rfl) (by kernel_rfl) (by kernel_rfl) (by kernel_rfl) rfl rfl hf (by decide) (wantY hf rfl rfl hb79) (fun w hp => ?_) ⟨_, hp⟩ ?_
    · obtain ⟨_, hp⟩ := hp
      refine st_len (E := Ek.bool) hf (by decide) Try.underlying27 (wantY hf rfl rfl hb79) rfl (rl42.sl hp) ?_
      clear hf; intro a ha hf
      exact st_nil hf (th_n ⟨ha, rfl⟩)
    clear hf; intro a hf
    refine dr_take 50 ((GL.cut v24 0 (((bits2.length : Int)).toNat) 1)) rfl (by kernel_rfl) (by kernel_rfl) (by kernel_rfl) (by kernel_rfl) rfl rfl hf (by decide) (wantY hf rfl rfl hb79) (fun w hp => ?_) ⟨_, hp⟩ ?_
    · obtain ⟨_, hp⟩ := hp
      refine st_cutS (E := Ek.bool) hf (by decide) Try.underlying27 elt4 (wantY hf rfl rfl hb79) rfl (rl45.sl hp) (.inl ⟨rfl, rfl⟩) (.inr ⟨_, _, rfl, evI rfl (by omega)⟩) hc81 hc82 ?_
      clear hf; intro a ha hf
      exact st_nil hf (th_n ⟨ha, rfl⟩)
    clear hf; intro a hf
    refine dr_take 51 (vbits2) rfl (by kernel_rfl) (by kernel_rfl) (by kernel_rfl) (by kernel_rfl) rfl rfl hf (by decide) (wantY hf rfl rfl hb79) (fun w hp => ?_) ⟨_, hp⟩ ?_
    · obtain ⟨_, hp⟩ := hp
      refine st_move hf (wantY hf rfl rfl hb79) rfl (by decide) ?_
      clear hf; intro a ha hf
      exact st_nil hf (th_n ⟨ha, rfl⟩)
    clear hf; intro a hf
    refine dr_one 52 rfl (by kernel_rfl) ?_
    refine st_call hf (by decide) Try.func17 rfl rfl (wantY hf rfl rfl hb79) rfl rfl (f_foghornlaw06_spelt_c hp _ _ (RdS.cut rl45 hc81 hc82) _ _ rl42 hcall84) ?_
    rintro _ w ⟨rfl, hp0⟩
    clear hp; have hp := hp0; clear hp0
    replace hp : Hp _ _ _ (Res.sl Ek.bool 4 v21 ([true]) :: Res.sl Ek.bool 4 v13 ([true]) :: Res.sl (Ek.int .u8) 5 v5 ([(99 : Int)]) :: ow) := hp
    refine ⟨_, rfl, ?_⟩
    clear hf; intro a hf
    refine st_nil hf (th_n ⟨fun _ _ => ⟨_, hp⟩, ?_⟩)
    refine dr_take 53 (.bool (!q83)) rfl (by kernel_rfl) (by kernel_rfl) (by kernel_rfl) (by kernel_rfl) rfl rfl hf (by decide) (wantY hf rfl rfl hb79) (fun w hp => ?_) ⟨_, hp⟩ ?_
    · obtain ⟨_, hp⟩ := hp
      refine st_not hf (by decide) (wantY hf rfl rfl hb79) rfl ?_
      clear hf; intro a ha hf
      exact st_nil hf (th_n ⟨ha, rfl⟩)
    clear hf; intro a hf
    refine dr_take 54 (.bool z85) rfl (by kernel_rfl) (by kernel_rfl) (by kernel_rfl) (by kernel_rfl) rfl rfl hf (by decide) rfl (fun w hp => ?_) ⟨_, hp⟩ ?_
    · obtain ⟨_, hp⟩ := hp
      refine st_pick (v := .bool z85) hf rfl rfl (fun hb' => absurd (hb79.symm.trans hb') (by decide)) (fun _ => by rw [← hz78]; rfl) (by decide) ?_
      clear hf; intro a ha hf
      exact st_nil hf (th_n ⟨ha, rfl⟩)
    clear hf; intro a hf
    refine dr_take 55 (.bool z85) rfl (by kernel_rfl) (by kernel_rfl) (by kernel_rfl) (by kernel_rfl) rfl rfl hf (by decide) rfl (fun w hp => ?_) ⟨_, hp⟩ ?_
    · obtain ⟨_, hp⟩ := hp
      refine st_move hf rfl rfl (by decide) ?_
      clear hf; intro a ha hf
      exact st_nil hf (th_n ⟨ha, rfl⟩)
    clear hf; intro a hf
    refine dr_take 56 (v24) rfl (by kernel_rfl) (by kernel_rfl) (by kernel_rfl) (by kernel_rfl) rfl rfl hf (by decide) (wantY hf rfl rfl hb87) (fun w hp => ?_) ⟨_, hp⟩ ?_
    · obtain ⟨_, hp⟩ := hp
      refine st_move hf (wantY hf rfl rfl hb87) rfl (by decide) ?_
      clear hf; intro a ha hf
      exact st_nil hf (th_n ⟨ha, rfl⟩)
    clear hf; intro a hf
    refine dr_take 57 (vbits2) rfl (by kernel_rfl) (by kernel_rfl) (by kernel_rfl) (by kernel_rfl) rfl rfl hf (by decide) (wantY hf rfl rfl hb87) (fun w hp => ?_) ⟨_, hp⟩ ?_
    · obtain ⟨_, hp⟩ := hp
      refine st_move hf (wantY hf rfl rfl hb87) rfl (by decide) ?_
      clear hf; intro a ha hf
      exact st_nil hf (th_n ⟨ha, rfl⟩)
    clear hf; intro a hf
    refine dr_take 58 (.int .i64 (bits2.length : Int)) rfl (by kernel_rfl) (by kernel_rfl) (by kernel_rfl) (by kernel_rfl) rfl rfl hf (by decide) (wantY hf rfl rfl hb87) (fun w hp => ?_) ⟨_, hp⟩ ?_
    · obtain ⟨_, hp⟩ := hp
      refine st_len (E := Ek.bool) hf (by decide) Try.underlying27 (wantY hf rfl rfl hb87) rfl (rl42.sl hp) ?_
      clear hf; intro a ha hf
      exact st_nil hf (th_n ⟨ha, rfl⟩)
    clear hf; intro a hf
    refine dr_take 59 ((GL.cut v24 0 (((bits2.length : Int)).toNat) 1)) rfl (by kernel_rfl) (by kernel_rfl) (by kernel_rfl) (by kernel_rfl) rfl rfl hf (by decide) (wantY hf rfl rfl hb87) (fun w hp => ?_) ⟨_, hp⟩ ?_
    · obtain ⟨_, hp⟩ := hp
      refine st_cutS (E := Ek.bool) hf (by decide) Try.underlying27 elt4 (wantY hf rfl rfl hb87) rfl (rl45.sl hp) (.inl ⟨rfl, rfl⟩) (.inr ⟨_, _, rfl, evI rfl (by omega)⟩) hc89 hc90 ?_
      clear hf; intro a ha hf
      exact st_nil hf (th_n ⟨ha, rfl⟩)
    clear hf; intro a hf
    refine dr_take 60 (vbits2) rfl (by kernel_rfl) (by kernel_rfl) (by kernel_rfl) (by kernel_rfl) rfl rfl hf (by decide) (wantY hf rfl rfl hb87) (fun w hp => ?_) ⟨_, hp⟩ ?_
    · obtain ⟨_, hp⟩ := hp
      refine st_move hf (wantY hf rfl rfl hb87) rfl (by decide) ?_
      clear hf; intro a ha hf
      exact st_nil hf (th_n ⟨ha, rfl⟩)
    clear hf; intro a hf
    refine dr_one 61 rfl (by kernel_rfl) ?_
    refine st_call hf (by decide) Try.func16 rfl rfl (wantY hf rfl rfl hb87) rfl rfl (f_foghornlaw06_truths_c hp _ _ (RdS.cut rl45 hc89 hc90) _ _ rl42 hcall92) ?_
    rintro _ w ⟨rfl, hp0⟩
    clear hp; have hp := hp0; clear hp0
    replace hp : Hp _ _ _ (Res.sl Ek.bool 4 v21 ([true]) :: Res.sl Ek.bool 4 v13 ([true]) :: Res.sl (Ek.int .u8) 5 v5 ([(99 : Int)]) :: ow) := hp
    refine ⟨_, rfl, ?_⟩
    clear hf; intro a hf
    refine st_nil hf (th_n ⟨fun _ _ => ⟨_, hp⟩, ?_⟩)
    refine dr_take 62 (.bool (!q91)) rfl (by kernel_rfl) (by kernel_rfl) (by kernel_rfl) (by kernel_rfl) rfl rfl hf (by decide) (wantY hf rfl rfl hb87) (fun w hp => ?_) ⟨_, hp⟩ ?_
    · obtain ⟨_, hp⟩ := hp
      refine st_not hf (by decide) (wantY hf rfl rfl hb87) rfl ?_
      clear hf; intro a ha hf
      exact st_nil hf (th_n ⟨ha, rfl⟩)
    clear hf; intro a hf
    refine dr_take 63 (.bool z93) rfl (by kernel_rfl) (by kernel_rfl) (by kernel_rfl) (by kernel_rfl) rfl rfl hf (by decide) rfl (fun w hp => ?_) ⟨_, hp⟩ ?_
    · obtain ⟨_, hp⟩ := hp
      refine st_pick (v := .bool z93) hf rfl rfl (fun hb' => absurd (hb87.symm.trans hb') (by decide)) (fun _ => by rw [← hz86]; rfl) (by decide) ?_
      clear hf; intro a ha hf
      exact st_nil hf (th_n ⟨ha, rfl⟩)
    clear hf; intro a hf
    refine dr_take 64 (.bool z93) rfl (by kernel_rfl) (by kernel_rfl) (by kernel_rfl) (by kernel_rfl) rfl rfl hf (by decide) rfl (fun w hp => ?_) ⟨_, hp⟩ ?_
    · obtain ⟨_, hp⟩ := hp
      refine st_move hf rfl rfl (by decide) ?_
      clear hf; intro a ha hf
      exact st_nil hf (th_n ⟨ha, rfl⟩)
    clear hf; intro a hf
    refine dr_take 65 (v24) rfl (by kernel_rfl) (by kernel_rfl) (by kernel_rfl) (by kernel_rfl) rfl rfl hf (by decide) (wantY hf rfl rfl hb95) (fun w hp => ?_) ⟨_, hp⟩ ?_
    · obtain ⟨_, hp⟩ := hp
      refine st_move hf (wantY hf rfl rfl hb95) rfl (by decide) ?_
      clear hf; intro a ha hf
      exact st_nil hf (th_n ⟨ha, rfl⟩)
    clear hf; intro a hf
    refine dr_take 66 (vbits2) rfl (by kernel_rfl) (by kernel_rfl) (by kernel_rfl) (by kernel_rfl) rfl rfl hf (by decide) (wantY hf rfl rfl hb95) (fun w hp => ?_) ⟨_, hp⟩ ?_
    · obtain ⟨_, hp⟩ := hp
      refine st_move hf (wantY hf rfl rfl hb95) rfl (by decide) ?_
      clear hf; intro a ha hf
      exact st_nil hf (th_n ⟨ha, rfl⟩)
    clear hf; intro a hf
    refine dr_take 67 (.int .i64 (bits2.length : Int)) rfl (by kernel_rfl) (by kernel_rfl) (by kernel_rfl) (by kernel_rfl) rfl rfl hf (by decide) (wantY hf rfl rfl hb95) (fun w hp => ?_) ⟨_, hp⟩ ?_
    · obtain ⟨_, hp⟩ := hp
      refine st_len (E := Ek.bool) hf (by decide) Try.underlying27 (wantY hf rfl rfl hb95) rfl (rl42.sl hp) ?_
      clear hf; intro a ha hf
      exact st_nil hf (th_n ⟨ha, rfl⟩)
    clear hf; intro a hf
    refine dr_take 68 (eptr v24 (bits2.length : Int) 1) rfl (by kernel_rfl) (by kernel_rfl) (by kernel_rfl) (by kernel_rfl) rfl rfl hf (by decide) (wantY hf rfl rfl hb95) (fun w hp => ?_) ⟨_, hp⟩ ?_
    · obtain ⟨_, hp⟩ := hp
      refine st_index (E := Ek.bool) hf (by decide) Try.underlying27 elt4 (wantY hf rfl rfl hb95) rfl rfl (rl45.sl hp) hc96.1 hc96.2 ?_
      clear hf; intro a ha hf
      exact st_nil hf (th_n ⟨ha, rfl⟩)
    clear hf; intro a hf
    refine dr_take 69 (.bool (gt ((([] : List Bool) ++ bits2) ++ [true]) (bits2.length : Int))) rfl (by kernel_rfl) (by kernel_rfl) (by kernel_rfl) (by kernel_rfl) rfl rfl hf (by decide) (wantY hf rfl rfl hb95) (fun w hp => ?_) ⟨_, hp⟩ ?_
    · obtain ⟨_, hp⟩ := hp
      refine st_ldB hf (by decide) pl4 (wantY hf rfl rfl hb95) rfl (rl45.sl hp) hc96.1 hc96.2 ?_
      clear hf; intro a ha hf
      exact st_nil hf (th_n ⟨ha, rfl⟩)
    clear hf; intro a hf
    refine dr_take 70 (.bool (!(gt ((([] : List Bool) ++ bits2) ++ [true]) (bits2.length : Int)))) rfl (by kernel_rfl) (by kernel_rfl) (by kernel_rfl) (by kernel_rfl) rfl rfl hf (by decide) (wantY hf rfl rfl hb95) (fun w hp => ?_) ⟨_, hp⟩ ?_
    · obtain ⟨_, hp⟩ := hp
      refine st_not hf (by decide) (wantY hf rfl rfl hb95) rfl ?_
      clear hf; intro a ha hf
      exact st_nil hf (th_n ⟨ha, rfl⟩)
    clear hf; intro a hf
    refine dr_take 71 (.bool z97) rfl (by kernel_rfl) (by kernel_rfl) (by kernel_rfl) (by kernel_rfl) rfl rfl hf (by decide) rfl (fun w hp => ?_) ⟨_, hp⟩ ?_
    · obtain ⟨_, hp⟩ := hp
      refine st_pick (v := .bool z97) hf rfl rfl (fun hb' => absurd (hb95.symm.trans hb') (by decide)) (fun _ => by rw [← hz94]; rfl) (by decide) ?_
      clear hf; intro a ha hf
      exact st_nil hf (th_n ⟨ha, rfl⟩)
    clear hf; intro a hf
    refine dr_end (by kernel_rfl) ?_ _
    have hp := bk39 _ _ hp
    have hp := bk34 _ _ hp
    have hp := bk29 _ _ hp
    exact ⟨hf.sub ⟨rfl, rfl, rfl, rfl, rfl, trivial⟩, hp⟩
  rintro a w ⟨hf, hp⟩
  refine th_n ?_
  refine wp_if hf rfl (fun hb => ?_) (fun hb => ?_)
  · replace h := ifT h hb
    refine wp_seq ?_
    refine wp_reg ?_
    refine st_assign hf rfl rfl (by decide) ?_
    clear hf; intro a ha hf; clear ha
    refine st_nil hf ?_
    refine th_n ?_
    refine wp_ret ?_
    refine th_r ?_
    obtain rfl := Option.some.inj h
    have hp : Hp _ _ _ (ow) := Hp.sel (pre := [Res.sl (Ek.int .u8) 5 v8 ((([] : List Int) ++ qx0) ++ [(99 : Int)]), Res.sl Ek.bool 4 v16 ((([] : List Bool) ++ there1) ++ [true]), Res.sl Ek.bool 4 v24 ((([] : List Bool) ++ bits2) ++ [true]), Res.sl Ek.bool 4 v21 ([true]), Res.sl Ek.bool 4 v13 ([true]), Res.sl (Ek.int .u8) 5 v5 ([(99 : Int)])]) (tail := ow) (rs' := []) hp [] (by decide) (by simp) rfl
    exact ⟨rfl, ⟨hf.sub ⟨rfl, trivial⟩, hp⟩⟩
  replace h := ifF h hb
  refine wp_skip ?_
  refine th_n ?_
  refine wp_seq ?_
  refine wp_reg ?_
  refine st_move hf rfl rfl (by decide) ?_
  clear hf; intro a ha hf; clear ha
  refine st_len (E := (Ek.int .u8)) hf (by decide) Try.underlying22 rfl rfl (hqx0.sl hp) ?_
  clear hf; intro a ha hf; clear ha
  obtain ⟨hc98, h⟩ := chk h
  refine st_make (E := (Ek.int .u8)) hf (by decide) elt5 Try.underlying22 (by decide) hp rfl rfl rfl hc98.1 hc98.2.1 hc98.2.2 ?_
  clear hf; intro a w v99 hf hp0; clear hp; have hp := hp0; clear hp0
  replace hp : Hp _ _ _ (Res.sl (Ek.int .u8) 5 v99 (List.replicate ((qx0.length : Int)).toNat (0 : Int)) :: Res.sl (Ek.int .u8) 5 v8 ((([] : List Int) ++ qx0) ++ [(99 : Int)]) :: Res.sl Ek.bool 4 v16 ((([] : List Bool) ++ there1) ++ [true]) :: Res.sl Ek.bool 4 v24 ((([] : List Bool) ++ bits2) ++ [true]) :: Res.sl Ek.bool 4 v21 ([true]) :: Res.sl Ek.bool 4 v13 ([true]) :: Res.sl (Ek.int .u8) 5 v5 ([(99 : Int)]) :: ow) := hp
  refine st_assign hf rfl rfl (by decide) ?_
  clear hf; intro a ha hf; clear ha
  refine st_nil hf ?_
  refine th_n ?_
  refine wp_seq ?_
  refine wp_seq ?_
  refine wp_reg ?_
  refine st_assign hf rfl rfl (by decide) ?_
  clear hf; intro a ha hf; clear ha
  refine st_nil hf ?_
  refine th_n ?_
  refine wp_block ?_
  obtain ⟨q113, hl, h⟩ := bnd h
  have hp : Hp _ _ _ (Res.sl (Ek.int .u8) 5 v8 ((([] : List Int) ++ qx0) ++ [(99 : Int)]) :: Res.sl (Ek.int .u8) 5 v99 (List.replicate ((qx0.length : Int)).toNat (0 : Int)) :: Res.sl Ek.bool 4 v16 ((([] : List Bool) ++ there1) ++ [true]) :: ow) := Hp.sel (pre := [Res.sl (Ek.int .u8) 5 v99 (List.replicate ((qx0.length : Int)).toNat (0 : Int)), Res.sl (Ek.int .u8) 5 v8 ((([] : List Int) ++ qx0) ++ [(99 : Int)]), Res.sl Ek.bool 4 v16 ((([] : List Bool) ++ there1) ++ [true]), Res.sl Ek.bool 4 v24 ((([] : List Bool) ++ bits2) ++ [true]), Res.sl Ek.bool 4 v21 ([true]), Res.sl Ek.bool 4 v13 ([true]), Res.sl (Ek.int .u8) 5 v5 ([(99 : Int)])]) (tail := ow) (rs' := [Res.sl (Ek.int .u8) 5 v8 ((([] : List Int) ++ qx0) ++ [(99 : Int)]), Res.sl (Ek.int .u8) 5 v99 (List.replicate ((qx0.length : Int)).toNat (0 : Int)), Res.sl Ek.bool 4 v16 ((([] : List Bool) ++ there1) ++ [true])]) hp [1, 0, 2] (by decide) (by simp) rfl
  refine wp_loop_pure (f := (f_foghornlaw06_TurnsRows.s1 qx0)) (s := (((([] : List Int) ++ qx0) ++ [(99 : Int)]), (List.replicate ((qx0.length : Int)).toNat (0 : Int)), (0 : Int))) (fun s a w => ∃ (v101 : Value) (v103 : Value), Fr 138 a [(0, vqx0), (1, vthere1), (7, v101), (8, v16), (10, v103), (11, .int .i64 s.2.2)] ∧ Hp S w0 w (Res.sl (Ek.int .u8) 5 v101 s.1 :: Res.sl (Ek.int .u8) 5 v103 s.2.1 :: Res.sl Ek.bool 4 v16 ((([] : List Bool) ++ there1) ++ [true]) :: ow)) (fun q e a w => e = .exit 0 ∧ ∃ (v105 : Value) (v107 : Value), Fr 138 a [(0, vqx0), (1, vthere1), (7, v105), (8, v16), (10, v107)] ∧ Hp S w0 w (Res.sl (Ek.int .u8) 5 v105 q.1 :: Res.sl (Ek.int .u8) 5 v107 q.2 :: Res.sl Ek.bool 4 v16 ((([] : List Bool) ++ there1) ++ [true]) :: ow)) ?_ hl ⟨_, _, hf.sub ⟨rfl, rfl, rfl, rfl, rfl, rfl, trivial⟩, hp⟩ ?_
  · clear hl hf hp
    intro s x a w h hI
    obtain ⟨m7, turned10, i11⟩ := s
    obtain ⟨v101, v103, hf, hp⟩ : ∃ (v101 : Value) (v103 : Value), Fr 138 a [(0, vqx0), (1, vthere1), (7, v101), (8, v16), (10, v103), (11, .int .i64 i11)] ∧ Hp S w0 w (Res.sl (Ek.int .u8) 5 v101 m7 :: Res.sl (Ek.int .u8) 5 v103 turned10 :: Res.sl Ek.bool 4 v16 ((([] : List Bool) ++ there1) ++ [true]) :: ow) := hI
    replace h : f_foghornlaw06_TurnsRows.s1c qx0 m7 turned10 i11 = some x := h
    unfold f_foghornlaw06_TurnsRows.s1c at h
    refine wp_seq ?_
    refine wp_seq ?_
    refine wp_reg ?_
    refine st_move hf rfl rfl (by decide) ?_
    clear hf; intro a ha hf; clear ha
    refine st_move hf rfl rfl (by decide) ?_
    clear hf; intro a ha hf; clear ha
    refine st_len (E := (Ek.int .u8)) hf (by decide) Try.underlying22 rfl rfl (hqx0.sl hp) ?_
    clear hf; intro a ha hf; clear ha
    refine st_ilss hf (by decide) rfl rfl rfl ?_
    clear hf; intro a ha hf; clear ha
    refine st_nil hf ?_
    refine th_n ?_
    refine wp_if hf rfl (fun hb => ?_) (fun hb => ?_)
    · replace h := ifT h hb
      refine wp_skip ?_
      refine th_n ?_
      refine wp_seq ?_
      refine wp_block ?_
      refine wp_seq ?_
      refine wp_reg ?_
      refine st_move hf rfl rfl (by decide) ?_
      clear hf; intro a ha hf; clear ha
      refine st_move hf rfl rfl (by decide) ?_
      clear hf; intro a ha hf; clear ha
      refine st_move hf rfl rfl (by decide) ?_
      clear hf; intro a ha hf; clear ha
      refine st_move hf rfl rfl (by decide) ?_
      clear hf; intro a ha hf; clear ha
      obtain ⟨hc109, h⟩ := chk h
      refine st_index (E := (Ek.int .u8)) hf (by decide) Try.underlying22 elt5 rfl rfl rfl (hqx0.sl hp) hc109.1 hc109.2 ?_
      clear hf; intro a ha hf; clear ha
      refine st_ldI hf (by decide) pl5 rfl rfl (hqx0.sl hp) hc109.1 hc109.2 ?_
      clear hf; intro a ha hf; clear ha
      refine st_iadd hf (by decide) rfl rfl rfl ?_
      clear hf; intro a ha hf; clear ha
      refine st_irem hf (by decide) rfl rfl rfl (by decide) ?_
      clear hf; intro a ha hf; clear ha
      obtain ⟨hc110, h⟩ := chk h
      refine st_index (E := (Ek.int .u8)) hf (by decide) Try.underlying22 elt5 rfl rfl rfl (hp.sl (i := 1) rfl) hc110.1 hc110.2 ?_
      clear hf; intro a ha hf; clear ha
      refine st_store (E := (Ek.int .u8)) hf elt5 hp (i := 1) rfl rfl rfl rfl rfl hc110.1 hc110.2 ?_
      clear hf; intro a w hf hp0; clear hp; have hp := hp0; clear hp0
      replace hp : Hp _ _ _ (Res.sl (Ek.int .u8) 5 v101 m7 :: Res.sl (Ek.int .u8) 5 v103 (turned10.set (i11).toNat (((IntKind.u8.wrap ((gt qx0 i11) + (1 : Int)))).tmod (4 : Int))) :: Res.sl Ek.bool 4 v16 ((([] : List Bool) ++ there1) ++ [true]) :: ow) := hp
      refine st_nil hf ?_
      refine th_n ?_
      refine wp_reg ?_
      refine st_move hf rfl rfl (by decide) ?_
      clear hf; intro a ha hf; clear ha
      refine st_move hf rfl rfl (by decide) ?_
      clear hf; intro a ha hf; clear ha
      refine st_move hf rfl rfl (by decide) ?_
      clear hf; intro a ha hf; clear ha
      refine st_move hf rfl rfl (by decide) ?_
      clear hf; intro a ha hf; clear ha
      obtain ⟨hc111, h⟩ := chk h
      refine st_index (E := (Ek.int .u8)) hf (by decide) Try.underlying22 elt5 rfl rfl rfl (hp.sl (i := 1) rfl) hc111.1 hc111.2 ?_
      clear hf; intro a ha hf; clear ha
      refine st_ldI hf (by decide) pl5 rfl rfl (hp.sl (i := 1) rfl) hc111.1 hc111.2 ?_
      clear hf; intro a ha hf; clear ha
      obtain ⟨hc112, h⟩ := chk h
      refine st_index (E := (Ek.int .u8)) hf (by decide) Try.underlying22 elt5 rfl rfl rfl (hp.sl (i := 0) rfl) hc112.1 hc112.2 ?_
      clear hf; intro a ha hf; clear ha
      refine st_store (E := (Ek.int .u8)) hf elt5 hp (i := 0) rfl rfl rfl rfl rfl hc112.1 hc112.2 ?_
      clear hf; intro a w hf hp0; clear hp; have hp := hp0; clear hp0
      replace hp : Hp _ _ _ (Res.sl (Ek.int .u8) 5 v101 (m7.set (i11).toNat (gt (turned10.set (i11).toNat (((IntKind.u8.wrap ((gt qx0 i11) + (1 : Int)))).tmod (4 : Int))) i11)) :: Res.sl (Ek.int .u8) 5 v103 (turned10.set (i11).toNat (((IntKind.u8.wrap ((gt qx0 i11) + (1 : Int)))).tmod (4 : Int))) :: Res.sl Ek.bool 4 v16 ((([] : List Bool) ++ there1) ++ [true]) :: ow) := hp
      refine st_nil hf ?_
      refine ib_n ?_
      refine th_n ?_
      refine wp_reg ?_
      refine st_move hf rfl rfl (by decide) ?_
      clear hf; intro a ha hf; clear ha
      refine st_iadd hf (by decide) rfl rfl rfl ?_
      clear hf; intro a ha hf; clear ha
      refine st_assign hf rfl rfl (by decide) ?_
      clear hf; intro a ha hf; clear ha
      refine st_nil hf ?_
      obtain rfl := Option.some.inj h
      exact rnd_l ⟨_, _, hf.sub ⟨rfl, rfl, rfl, rfl, rfl, rfl, trivial⟩, hp⟩
    replace h := ifF h hb
    refine wp_exit ?_
    refine th_e ?_
    obtain rfl := Option.some.inj h
    exact rnd_r (by simp) ⟨rfl, _, _, hf.sub ⟨rfl, rfl, rfl, rfl, rfl, trivial⟩, hp⟩
  clear hl hf hp
  intro e a w hne hO
  obtain ⟨rfl, v105, v107, hf, hp⟩ := hO
  refine ib_same ?_
  refine th_n ?_
  refine wp_seq ?_
  obtain ⟨S114, hp115, rd116, up117, bk118⟩ := Hp.lendS hp (i := 0) rfl
  obtain ⟨S119, hp120, rd121, up122, bk123⟩ := Hp.lendS hp115 (i := 1) rfl
  have rl124 := ((((hqx0.now hp).mono up117).now hp115).mono up122)
  have rl125 := ((((hthere1.now hp).mono up117).now hp115).mono up122)
  have rl126 := ((rd116.now hp115).mono up122)
  have rl127 := rd121
  obtain ⟨hc128, h⟩ := chk h
  have hc129 : 0 ≤ ((qx0.length : Int)).toNat := by omega
  have hc130 : ((qx0.length : Int)).toNat ≤ q113.1.length := by omega
  obtain ⟨hc131, h⟩ := chk h
  have hc132 : 0 ≤ ((there1.length : Int)).toNat := by omega
  have hc133 : ((there1.length : Int)).toNat ≤ ((([] : List Bool) ++ there1) ++ [true]).length := by omega
  obtain ⟨q134, hcall135, h⟩ := bnd h
  obtain ⟨z145, hz141, h⟩ := bnd h
  refine wp_cutN (fun a w => Fr 138 a [(6, .bool z145)] ∧ Hp S w0 w (Res.sl (Ek.int .u8) 5 v105 q113.1 :: Res.sl Ek.bool 4 v16 ((([] : List Bool) ++ there1) ++ [true]) :: Res.sl (Ek.int .u8) 5 v107 q113.2 :: ow)) ?_ ?_
  · have hp := hp120.same (Same.drew w)
    rcases Bool.eq_false_or_eq_true q134 with hb142 | hb142
    · skip
      replace hz141 := ifT hz141 hb142
      obtain ⟨q143, hcall144, hz141⟩ := bnd hz141
      replace hz141 := Option.some.inj hz141
      refine dr_begin' (fun a w => Fr 138 a [(6, .bool z145)] ∧ Hp S w0 w (Res.sl (Ek.int .u8) 5 v105 q113.1 :: Res.sl Ek.bool 4 v16 ((([] : List Bool) ++ there1) ++ [true]) :: Res.sl (Ek.int .u8) 5 v107 q113.2 :: ow)) (fun w' => ∃ l, Hp S119 w w' l) [] (by kernel_rfl) ?_
      refine dr_take 0 (v105) rfl (by kernel_rfl) (by kernel_rfl) (by kernel_rfl) (by kernel_rfl) rfl rfl hf (by decide) rfl (fun w hp => ?_) ⟨_, hp⟩ ?_
      · obtain ⟨_, hp⟩ := hp
        refine st_move hf rfl rfl (by decide) ?_
        clear hf; intro a ha hf
        exact st_nil hf (th_n ⟨ha, rfl⟩)
      clear hf; intro a hf
      refine dr_take 1 (vqx0) rfl (by kernel_rfl) (by kernel_rfl) (by kernel_rfl) (by kernel_rfl) rfl rfl hf (by decide) rfl (fun w hp => ?_) ⟨_, hp⟩ ?_
      · obtain ⟨_, hp⟩ := hp
        refine st_move hf rfl rfl (by decide) ?_
        clear hf; intro a ha hf
        exact st_nil hf (th_n ⟨ha, rfl⟩)
      clear hf; intro a hf
      refine dr_take 2 (.int .i64 (qx0.length : Int)) rfl (by kernel_rfl) (by kernel_rfl) (by kernel_rfl) (by kernel_rfl) rfl rfl hf (by decide) rfl (fun w hp => ?_) ⟨_, hp⟩ ?_
      · obtain ⟨_, hp⟩ := hp
        refine st_len (E := (Ek.int .u8)) hf (by decide) Try.underlying22 rfl rfl (rl124.sl hp) ?_
        clear hf; intro a ha hf
        exact st_nil hf (th_n ⟨ha, rfl⟩)
      clear hf; intro a hf
      refine dr_take 3 ((GL.cut v105 0 (((qx0.length : Int)).toNat) 1)) rfl (by kernel_rfl) (by kernel_rfl) (by kernel_rfl) (by kernel_rfl) rfl rfl hf (by decide) rfl (fun w hp => ?_) ⟨_, hp⟩ ?_
      · obtain ⟨_, hp⟩ := hp
        refine st_cutS (E := (Ek.int .u8)) hf (by decide) Try.underlying22 elt5 rfl rfl (rl126.sl hp) (.inl ⟨rfl, rfl⟩) (.inr ⟨_, _, rfl, evI rfl (by omega)⟩) hc129 hc130 ?_
        clear hf; intro a ha hf
        exact st_nil hf (th_n ⟨ha, rfl⟩)
      clear hf; intro a hf
      refine dr_take 4 (v16) rfl (by kernel_rfl) (by kernel_rfl) (by kernel_rfl) (by kernel_rfl) rfl rfl hf (by decide) rfl (fun w hp => ?_) ⟨_, hp⟩ ?_
      · obtain ⟨_, hp⟩ := hp
        refine st_move hf rfl rfl (by decide) ?_
        clear hf; intro a ha hf
        exact st_nil hf (th_n ⟨ha, rfl⟩)
      clear hf; intro a hf
      refine dr_take 5 (vthere1) rfl (by kernel_rfl) (by kernel_rfl) (by kernel_rfl) (by kernel_rfl) rfl rfl hf (by decide) rfl (fun w hp => ?_) ⟨_, hp⟩ ?_
      · obtain ⟨_, hp⟩ := hp
        refine st_move hf rfl rfl (by decide) ?_
        clear hf; intro a ha hf
        exact st_nil hf (th_n ⟨ha, rfl⟩)
      clear hf; intro a hf
      refine dr_take 6 (.int .i64 (there1.length : Int)) rfl (by kernel_rfl) (by kernel_rfl) (by kernel_rfl) (by kernel_rfl) rfl rfl hf (by decide) rfl (fun w hp => ?_) ⟨_, hp⟩ ?_
      · obtain ⟨_, hp⟩ := hp
        refine st_len (E := Ek.bool) hf (by decide) Try.underlying27 rfl rfl (rl125.sl hp) ?_
        clear hf; intro a ha hf
        exact st_nil hf (th_n ⟨ha, rfl⟩)
      clear hf; intro a hf
      refine dr_take 7 ((GL.cut v16 0 (((there1.length : Int)).toNat) 1)) rfl (by kernel_rfl) (by kernel_rfl) (by kernel_rfl) (by kernel_rfl) rfl rfl hf (by decide) rfl (fun w hp => ?_) ⟨_, hp⟩ ?_
      · obtain ⟨_, hp⟩ := hp
        refine st_cutS (E := Ek.bool) hf (by decide) Try.underlying27 elt4 rfl rfl (rl127.sl hp) (.inl ⟨rfl, rfl⟩) (.inr ⟨_, _, rfl, evI rfl (by omega)⟩) hc132 hc133 ?_
        clear hf; intro a ha hf
        exact st_nil hf (th_n ⟨ha, rfl⟩)
      clear hf; intro a hf
      refine dr_take 8 (v107) rfl (by kernel_rfl) (by kernel_rfl) (by kernel_rfl) (by kernel_rfl) rfl rfl hf (by decide) rfl (fun w hp => ?_) ⟨_, hp⟩ ?_
      · obtain ⟨_, hp⟩ := hp
        refine st_move hf rfl rfl (by decide) ?_
        clear hf; intro a ha hf
        exact st_nil hf (th_n ⟨ha, rfl⟩)
      clear hf; intro a hf
      refine dr_take 9 (vthere1) rfl (by kernel_rfl) (by kernel_rfl) (by kernel_rfl) (by kernel_rfl) rfl rfl hf (by decide) rfl (fun w hp => ?_) ⟨_, hp⟩ ?_
      · obtain ⟨_, hp⟩ := hp
        refine st_move hf rfl rfl (by decide) ?_
        clear hf; intro a ha hf
        exact st_nil hf (th_n ⟨ha, rfl⟩)
      clear hf; intro a hf
      refine dr_one 10 rfl (by kernel_rfl) ?_
      obtain ⟨S136, hp137, rd138, up139, bk140⟩ := Hp.lendS hp (i := 0) rfl
      refine st_call hf (by decide) Try.func15 rfl rfl rfl rfl rfl (f_foghornlaw06_rows_c hp137 _ _ (((RdS.cut rl126 hc129 hc130).now hp).mono up139) _ _ (((RdS.cut rl127 hc132 hc133).now hp).mono up139) _ _ rd138 _ _ ((rl125.now hp).mono up139) hcall135) ?_
      rintro _ w ⟨rfl, hp0⟩
      have hp0 := bk140 _ _ hp0
      clear hp; have hp := hp0; clear hp0
      replace hp : Hp _ _ _ (Res.sl (Ek.int .u8) 5 v107 q113.2 :: ow) := hp
      refine ⟨_, rfl, ?_⟩
      clear hf; intro a hf
      refine st_nil hf (th_n ⟨fun _ _ => ⟨_, hp⟩, ?_⟩)
      refine dr_take 11 (.bool q134) rfl (by kernel_rfl) (by kernel_rfl) (by kernel_rfl) (by kernel_rfl) rfl rfl hf (by decide) rfl (fun w hp => ?_) ⟨_, hp⟩ ?_
      · obtain ⟨_, hp⟩ := hp
        refine st_move hf rfl rfl (by decide) ?_
        clear hf; intro a ha hf
        exact st_nil hf (th_n ⟨ha, rfl⟩)
      clear hf; intro a hf
      refine dr_one 12 rfl (by kernel_rfl) ?_
      refine st_call hf (by decide) Try.func14 rfl rfl (wantY hf rfl rfl hb142) rfl rfl (f_foghornlaw06_awake_c hp  hcall144) ?_
      rintro _ w ⟨rfl, hp0⟩
      clear hp; have hp := hp0; clear hp0
      replace hp : Hp _ _ _ (Res.sl (Ek.int .u8) 5 v107 q113.2 :: ow) := hp
      refine ⟨_, rfl, ?_⟩
      clear hf; intro a hf
      refine st_nil hf (th_n ⟨fun _ _ => ⟨_, hp⟩, ?_⟩)
      refine dr_take 13 (.bool z145) rfl (by kernel_rfl) (by kernel_rfl) (by kernel_rfl) (by kernel_rfl) rfl rfl hf (by decide) rfl (fun w hp => ?_) ⟨_, hp⟩ ?_
      · obtain ⟨_, hp⟩ := hp
        refine st_pick (v := .bool z145) hf rfl rfl (fun _ => by rw [← hz141]; rfl) (fun hb' => absurd (hb142.symm.trans hb') (by decide)) (by decide) ?_
        clear hf; intro a ha hf
        exact st_nil hf (th_n ⟨ha, rfl⟩)
      clear hf; intro a hf
      refine dr_take 14 (.bool z145) rfl (by kernel_rfl) (by kernel_rfl) (by kernel_rfl) (by kernel_rfl) rfl rfl hf (by decide) rfl (fun w hp => ?_) ⟨_, hp⟩ ?_
      · obtain ⟨_, hp⟩ := hp
        refine st_assign hf rfl rfl (by decide) ?_
        clear hf; intro a ha hf
        exact st_nil hf (th_n ⟨ha, rfl⟩)
      clear hf; intro a hf
      refine dr_end (by kernel_rfl) ?_ _
      have hp := bk123 _ _ hp
      have hp := bk118 _ _ hp
      exact ⟨hf.sub ⟨rfl, trivial⟩, hp⟩
    skip
    replace hz141 := ifF hz141 hb142
    replace hz141 := Option.some.inj hz141
    refine dr_begin' (fun a w => Fr 138 a [(6, .bool z145)] ∧ Hp S w0 w (Res.sl (Ek.int .u8) 5 v105 q113.1 :: Res.sl Ek.bool 4 v16 ((([] : List Bool) ++ there1) ++ [true]) :: Res.sl (Ek.int .u8) 5 v107 q113.2 :: ow)) (fun w' => ∃ l, Hp S119 w w' l) [] (by kernel_rfl) ?_
    refine dr_take 0 (v105) rfl (by kernel_rfl) (by kernel_rfl) (by kernel_rfl) (by kernel_rfl) rfl rfl hf (by decide) rfl (fun w hp => ?_) ⟨_, hp⟩ ?_
    · obtain ⟨_, hp⟩ := hp
      refine st_move hf rfl rfl (by decide) ?_
      clear hf; intro a ha hf
      exact st_nil hf (th_n ⟨ha, rfl⟩)
    clear hf; intro a hf
    refine dr_take 1 (vqx0) rfl (by kernel_rfl) (by kernel_rfl) (by kernel_rfl) (by kernel_rfl) rfl rfl hf (by decide) rfl (fun w hp => ?_) ⟨_, hp⟩ ?_
    · obtain ⟨_, hp⟩ := hp
      refine st_move hf rfl rfl (by decide) ?_
      clear hf; intro a ha hf
      exact st_nil hf (th_n ⟨ha, rfl⟩)
    clear hf; intro a hf
    refine dr_take 2 (.int .i64 (qx0.length : Int)) rfl (by kernel_rfl) (by kernel_rfl) (by kernel_rfl) (by kernel_rfl) rfl rfl hf (by decide) rfl (fun w hp => ?_) ⟨_, hp⟩ ?_
    · obtain ⟨_, hp⟩ := hp
      refine st_len (E := (Ek.int .u8)) hf (by decide) Try.underlying22 rfl rfl (rl124.sl hp) ?_
      clear hf; intro a ha hf
      exact st_nil hf (th_n ⟨ha, rfl⟩)
    clear hf; intro a hf
    refine dr_take 3 ((GL.cut v105 0 (((qx0.length : Int)).toNat) 1)) rfl (by kernel_rfl) (by kernel_rfl) (by kernel_rfl) (by kernel_rfl) rfl rfl hf (by decide) rfl (fun w hp => ?_) ⟨_, hp⟩ ?_
    · obtain ⟨_, hp⟩ := hp
      refine st_cutS (E := (Ek.int .u8)) hf (by decide) Try.underlying22 elt5 rfl rfl (rl126.sl hp) (.inl ⟨rfl, rfl⟩) (.inr ⟨_, _, rfl, evI rfl (by omega)⟩) hc129 hc130 ?_
      clear hf; intro a ha hf
      exact st_nil hf (th_n ⟨ha, rfl⟩)
    clear hf; intro a hf
    refine dr_take 4 (v16) rfl (by kernel_rfl) (by kernel_rfl) (by kernel_rfl) (by kernel_rfl) rfl rfl hf (by decide) rfl (fun w hp => ?_) ⟨_, hp⟩ ?_
    · obtain ⟨_, hp⟩ := hp
      refine st_move hf rfl rfl (by decide) ?_
      clear hf; intro a ha hf
      exact st_nil hf (th_n ⟨ha, rfl⟩)
    clear hf; intro a hf
    refine dr_take 5 (vthere1) rfl (by kernel_rfl) (by kernel_rfl) (by kernel_rfl) (by kernel_rfl) rfl rfl hf (by decide) rfl (fun w hp => ?_) ⟨_, hp⟩ ?_
    · obtain ⟨_, hp⟩ := hp
      refine st_move hf rfl rfl (by decide) ?_
      clear hf; intro a ha hf
      exact st_nil hf (th_n ⟨ha, rfl⟩)
    clear hf; intro a hf
    refine dr_take 6 (.int .i64 (there1.length : Int)) rfl (by kernel_rfl) (by kernel_rfl) (by kernel_rfl) (by kernel_rfl) rfl rfl hf (by decide) rfl (fun w hp => ?_) ⟨_, hp⟩ ?_
    · obtain ⟨_, hp⟩ := hp
      refine st_len (E := Ek.bool) hf (by decide) Try.underlying27 rfl rfl (rl125.sl hp) ?_
      clear hf; intro a ha hf
      exact st_nil hf (th_n ⟨ha, rfl⟩)
    clear hf; intro a hf
    refine dr_take 7 ((GL.cut v16 0 (((there1.length : Int)).toNat) 1)) rfl (by kernel_rfl) (by kernel_rfl) (by kernel_rfl) (by kernel_rfl) rfl rfl hf (by decide) rfl (fun w hp => ?_) ⟨_, hp⟩ ?_
    · obtain ⟨_, hp⟩ := hp
      refine st_cutS (E := Ek.bool) hf (by decide) Try.underlying27 elt4 rfl rfl (rl127.sl hp) (.inl ⟨rfl, rfl⟩) (.inr ⟨_, _, rfl, evI rfl (by omega)⟩) hc132 hc133 ?_
      clear hf; intro a ha hf
      exact st_nil hf (th_n ⟨ha, rfl⟩)
    clear hf; intro a hf
    refine dr_take 8 (v107) rfl (by kernel_rfl) (by kernel_rfl) (by kernel_rfl) (by kernel_rfl) rfl rfl hf (by decide) rfl (fun w hp => ?_) ⟨_, hp⟩ ?_
    · obtain ⟨_, hp⟩ := hp
      refine st_move hf rfl rfl (by decide) ?_
      clear hf; intro a ha hf
      exact st_nil hf (th_n ⟨ha, rfl⟩)
    clear hf; intro a hf
    refine dr_take 9 (vthere1) rfl (by kernel_rfl) (by kernel_rfl) (by kernel_rfl) (by kernel_rfl) rfl rfl hf (by decide) rfl (fun w hp => ?_) ⟨_, hp⟩ ?_
    · obtain ⟨_, hp⟩ := hp
      refine st_move hf rfl rfl (by decide) ?_
      clear hf; intro a ha hf
      exact st_nil hf (th_n ⟨ha, rfl⟩)
    clear hf; intro a hf
    refine dr_one 10 rfl (by kernel_rfl) ?_
    obtain ⟨S136, hp137, rd138, up139, bk140⟩ := Hp.lendS hp (i := 0) rfl
    refine st_call hf (by decide) Try.func15 rfl rfl rfl rfl rfl (f_foghornlaw06_rows_c hp137 _ _ (((RdS.cut rl126 hc129 hc130).now hp).mono up139) _ _ (((RdS.cut rl127 hc132 hc133).now hp).mono up139) _ _ rd138 _ _ ((rl125.now hp).mono up139) hcall135) ?_
    rintro _ w ⟨rfl, hp0⟩
    have hp0 := bk140 _ _ hp0
    clear hp; have hp := hp0; clear hp0
    replace hp : Hp _ _ _ (Res.sl (Ek.int .u8) 5 v107 q113.2 :: ow) := hp
    refine ⟨_, rfl, ?_⟩
    clear hf; intro a hf
    refine st_nil hf (th_n ⟨fun _ _ => ⟨_, hp⟩, ?_⟩)
    refine dr_take 11 (.bool q134) rfl (by kernel_rfl) (by kernel_rfl) (by kernel_rfl) (by kernel_rfl) rfl rfl hf (by decide) rfl (fun w hp => ?_) ⟨_, hp⟩ ?_
    · obtain ⟨_, hp⟩ := hp
      refine st_move hf rfl rfl (by decide) ?_
      clear hf; intro a ha hf
      exact st_nil hf (th_n ⟨ha, rfl⟩)
    clear hf; intro a hf
    refine dr_out 12 rfl (by kernel_rfl) (by kernel_rfl) (by kernel_rfl) (by kernel_rfl) rfl hf (by decide) rfl (wantN hf rfl rfl hb142) ⟨_, hp⟩ ?_
    clear hf; intro a hf
    refine dr_take 13 (.bool z145) rfl (by kernel_rfl) (by kernel_rfl) (by kernel_rfl) (by kernel_rfl) rfl rfl hf (by decide) rfl (fun w hp => ?_) ⟨_, hp⟩ ?_
    · obtain ⟨_, hp⟩ := hp
      refine st_pick (v := .bool z145) hf rfl rfl (fun hb' => absurd (hb142.symm.trans hb') (by decide)) (fun _ => by rw [← hz141]; rfl) (by decide) ?_
      clear hf; intro a ha hf
      exact st_nil hf (th_n ⟨ha, rfl⟩)
    clear hf; intro a hf
    refine dr_take 14 (.bool z145) rfl (by kernel_rfl) (by kernel_rfl) (by kernel_rfl) (by kernel_rfl) rfl rfl hf (by decide) rfl (fun w hp => ?_) ⟨_, hp⟩ ?_
    · obtain ⟨_, hp⟩ := hp
      refine st_assign hf rfl rfl (by decide) ?_
      clear hf; intro a ha hf
      exact st_nil hf (th_n ⟨ha, rfl⟩)
    clear hf; intro a hf
    refine dr_end (by kernel_rfl) ?_ _
    have hp := bk123 _ _ hp
    have hp := bk118 _ _ hp
    exact ⟨hf.sub ⟨rfl, trivial⟩, hp⟩
  rintro a w ⟨hf, hp⟩
  refine th_n ?_
  refine wp_ret ?_
  obtain rfl := Option.some.inj h
  have hp : Hp _ _ _ (ow) := Hp.sel (pre := [Res.sl (Ek.int .u8) 5 v105 q113.1, Res.sl Ek.bool 4 v16 ((([] : List Bool) ++ there1) ++ [true]), Res.sl (Ek.int .u8) 5 v107 q113.2]) (tail := ow) (rs' := []) hp [] (by decide) (by simp) rfl
  exact ⟨rfl, ⟨hf.sub ⟨rfl, trivial⟩, hp⟩⟩

end Go.Proofs.Ytienojgmpjpcjaa
