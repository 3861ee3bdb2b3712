/- The functions foghorn foghornlaw23.SoftTurns: what each answers, as a plain function, and that its call answers it; printed by gen.py. -/
import Derived.Test.YtcooefnbolobaaaProg
import Derived.Test.YtcooefnbolobaaaGlUc
import Derived.KernelRfl
import Derived.Test.YtcooefnbolobaaaG6p3
set_option linter.unusedVariables false
set_option linter.unusedSimpArgs false
set_option maxRecDepth 100000
set_option maxHeartbeats 4000000
namespace Go.Proofs.Ytcooefnbolobaaa
open GL
noncomputable def f_foghornlaw23_SoftTurns.s1c (bits3 : (List Bool)) (l4 : (List (Int × Int × Bool))) (q5 : (Int × Int × Int)) (xx13 : (List ((Fl × Fl) × Bool))) (far14 : (List ((Fl × Fl) × Bool))) (i16 : Int) : Option (((List ((Fl × Fl) × Bool)) × (List ((Fl × Fl) × Bool)) × Int) ⊕ ((List ((Fl × Fl) × Bool)) × (List ((Fl × Fl) × Bool)))) := (if ((decide (i16 < (IntKind.i64.wrap ((IntKind.i64.wrap ((bits3.length : Int) + q5.1)) - (1 : Int))))) && (decide ((0 : Int) < (l4.length : Int)))) = true then (if (l4.length : Int) ≠ 0 then (if 0 ≤ ((i16).tmod (l4.length : Int)) ∧ ((i16).tmod (l4.length : Int)) < (l4.length : Int) then ((f_foghornlaw23_calm ((gt l4 ((i16).tmod (l4.length : Int))).1) ((gt l4 ((i16).tmod (l4.length : Int))).2.1) ((gt l4 ((i16).tmod (l4.length : Int))).2.2)).bind fun q27 => (if 0 ≤ i16 ∧ i16 < (xx13.length : Int) then (if 0 ≤ i16 ∧ i16 < ((xx13.set (i16).toNat (q27.1, q27.2)).length : Int) then ((farithS .mul (Fl.bits 4611686018427387904) ((gt (xx13.set (i16).toNat (q27.1, q27.2)) i16).1.1)).bind fun q48 => (if 0 ≤ i16 ∧ i16 < ((xx13.set (i16).toNat (q27.1, q27.2)).length : Int) then ((farithS .mul (Fl.bits 4611686018427387904) ((gt (xx13.set (i16).toNat (q27.1, q27.2)) i16).1.2)).bind fun q56 => (if 0 ≤ i16 ∧ i16 < ((xx13.set (i16).toNat (q27.1, q27.2)).length : Int) then (if 0 ≤ i16 ∧ i16 < (far14.length : Int) then (some (Sum.inl ((xx13.set (i16).toNat (q27.1, q27.2)), (far14.set (i16).toNat ((q48, q56), (gt (xx13.set (i16).toNat (q27.1, q27.2)) i16).2)), (IntKind.i64.wrap (i16 + (1 : Int)))))) else none) else none)) else none)) else none) else none)) else none) else none) else (some (Sum.inr (xx13, far14))))
noncomputable def f_foghornlaw23_SoftTurns.s1 (bits3 : (List Bool)) (l4 : (List (Int × Int × Bool))) (q5 : (Int × Int × Int)) (s : ((List ((Fl × Fl) × Bool)) × (List ((Fl × Fl) × Bool)) × Int)) : Option (((List ((Fl × Fl) × Bool)) × (List ((Fl × Fl) × Bool)) × Int) ⊕ ((List ((Fl × Fl) × Bool)) × (List ((Fl × Fl) × Bool)))) := f_foghornlaw23_SoftTurns.s1c bits3 l4 q5 s.1 s.2.1 s.2.2
noncomputable def f_foghornlaw23_SoftTurns.j1 (one1 : Bool) (two2 : Bool) (q61 : ((List ((Fl × Fl) × Bool)) × (List ((Fl × Fl) × Bool)))) (i17 : Int) (there15 : Fl) : Option ((Fl × Int) ⊕ (Fl ⊕ Bool)) := (if 0 ≤ i17 ∧ i17 < (q61.1.length : Int) then ((f_soft_Cost one1 two2 ((gt q61.1 i17).1) ((gt q61.1 i17).2)).bind fun q75 => (if 0 ≤ i17 ∧ i17 < (q61.1.length : Int) then (if 0 ≤ i17 ∧ i17 < (q61.1.length : Int) then (if 0 ≤ i17 ∧ i17 < (q61.1.length : Int) then ((f_soft_Cost one1 (!two2) ((gt q61.1 i17).1.1, (fsub (Fl.bits 0) ((gt q61.1 i17).1.2))) ((gt q61.1 i17).2)).bind fun q101 => (if (((q75.2 != (0 : Int)) || (q101.2 != (0 : Int))) || (fne q75.1 q101.1)) = true then (some (Sum.inr (Sum.inr false))) else (some (Sum.inl (there15, (IntKind.i64.wrap (i17 + (1 : Int)))))))) else none) else none) else none)) else none)
noncomputable def f_foghornlaw23_SoftTurns.s2c (one1 : Bool) (two2 : Bool) (bits3 : (List Bool)) (q5 : (Int × Int × Int)) (q61 : ((List ((Fl × Fl) × Bool)) × (List ((Fl × Fl) × Bool)))) (there15 : Fl) (i17 : Int) : Option ((Fl × Int) ⊕ (Fl ⊕ Bool)) := (if (decide (i17 < (IntKind.i64.wrap ((IntKind.i64.wrap ((bits3.length : Int) + q5.1)) - (1 : Int))))) = true then (if 0 ≤ i17 ∧ i17 < (q61.1.length : Int) then (if (!((gt q61.1 i17).2)) = true then (f_foghornlaw23_SoftTurns.j1 one1 two2 q61 i17 (fadd there15 (Fl.bits 4607182418800017408))) else (f_foghornlaw23_SoftTurns.j1 one1 two2 q61 i17 there15)) else none) else (some (Sum.inr (Sum.inl there15))))
noncomputable def f_foghornlaw23_SoftTurns.s2 (one1 : Bool) (two2 : Bool) (bits3 : (List Bool)) (q5 : (Int × Int × Int)) (q61 : ((List ((Fl × Fl) × Bool)) × (List ((Fl × Fl) × Bool)))) (s : (Fl × Int)) : Option ((Fl × Int) ⊕ (Fl ⊕ Bool)) := f_foghornlaw23_SoftTurns.s2c one1 two2 bits3 q5 q61 s.1 s.2
noncomputable def f_foghornlaw23_SoftTurns.s3c (q162 : ((List Fl) × Int)) (low31 : Fl) (sx32 : Int) : Option ((Fl × Int) ⊕ Fl) := (if (decide (sx32 < (q162.1.length : Int))) = true then (if 0 ≤ sx32 ∧ sx32 < (q162.1.length : Int) then ((fminS low31 (gt q162.1 sx32)).bind fun q187 => (some (Sum.inl (q187, (IntKind.i64.wrap (sx32 + (1 : Int))))))) else none) else (some (Sum.inr low31)))
noncomputable def f_foghornlaw23_SoftTurns.s3 (q162 : ((List Fl) × Int)) (s : (Fl × Int)) : Option ((Fl × Int) ⊕ Fl) := f_foghornlaw23_SoftTurns.s3c q162 s.1 s.2
noncomputable def f_foghornlaw23_SoftTurns.s6c (bits3 : (List Bool)) (q5 : (Int × Int × Int)) (d11c_0 : Int) (d11c_1 : Int) (d11c_2 : Int) (xx13 : (List ((Fl × Fl) × Bool))) (ahead33 : (List Fl)) (sx35 : Int) (from36c_0 : Int) (from36c_1 : Int) (k39 : Int) (best38 : Fl) (bx40 : Int) : Option ((Fl × Int) ⊕ (Fl ⊕ Bool)) := (if (decide (bx40 < (2 : Int))) = true then ((f_foghornlaw23_code d11c_0 d11c_1 d11c_2).bind fun q267 => (if 0 ≤ k39 ∧ k39 < (2 : Int) then ((f_trellis_Code_Step q267.1 q267.2.1 q267.2.2 (gt [from36c_0, from36c_1] k39) (bx40 == (1 : Int))).bind fun q270 => (if 0 ≤ (IntKind.i64.wrap ((IntKind.i64.wrap ((IntKind.i64.wrap ((bits3.length : Int) + q5.1)) - (1 : Int))) - (1 : Int))) ∧ (IntKind.i64.wrap ((IntKind.i64.wrap ((IntKind.i64.wrap ((bits3.length : Int) + q5.1)) - (1 : Int))) - (1 : Int))) < (xx13.length : Int) then ((f_soft_Cost q270.2.1 q270.2.2.1 ((gt xx13 (IntKind.i64.wrap ((IntKind.i64.wrap ((IntKind.i64.wrap ((bits3.length : Int) + q5.1)) - (1 : Int))) - (1 : Int)))).1) ((gt xx13 (IntKind.i64.wrap ((IntKind.i64.wrap ((IntKind.i64.wrap ((bits3.length : Int) + q5.1)) - (1 : Int))) - (1 : Int)))).2)).bind fun q279 => (if ((q270.2.2.2 != (0 : Int)) || (q279.2 != (0 : Int))) = true then (some (Sum.inr (Sum.inr false))) else (if (q270.1 == sx35) = true then (if 0 ≤ k39 ∧ k39 < (2 : Int) then (if 0 ≤ (gt [from36c_0, from36c_1] k39) ∧ (gt [from36c_0, from36c_1] k39) < (ahead33.length : Int) then ((fminS best38 (fadd (gt ahead33 (gt [from36c_0, from36c_1] k39)) q279.1)).bind fun q291 => (some (Sum.inl (q291, (IntKind.i64.wrap (bx40 + (1 : Int))))))) else none) else none) else (some (Sum.inl (best38, (IntKind.i64.wrap (bx40 + (1 : Int))))))))) else none)) else none)) else (some (Sum.inr (Sum.inl best38))))
noncomputable def f_foghornlaw23_SoftTurns.s6 (bits3 : (List Bool)) (q5 : (Int × Int × Int)) (d11c_0 : Int) (d11c_1 : Int) (d11c_2 : Int) (xx13 : (List ((Fl × Fl) × Bool))) (ahead33 : (List Fl)) (sx35 : Int) (from36c_0 : Int) (from36c_1 : Int) (k39 : Int) (s : (Fl × Int)) : Option ((Fl × Int) ⊕ (Fl ⊕ Bool)) := f_foghornlaw23_SoftTurns.s6c bits3 q5 d11c_0 d11c_1 d11c_2 xx13 ahead33 sx35 from36c_0 from36c_1 k39 s.1 s.2
noncomputable def f_foghornlaw23_SoftTurns.s5c (bits3 : (List Bool)) (q5 : (Int × Int × Int)) (sx35 : Int) (d11c_0 : Int) (d11c_1 : Int) (d11c_2 : Int) (xx13 : (List ((Fl × Fl) × Bool))) (ends29 : (List Fl)) (ahead33 : (List Fl)) (from36c_0 : Int) (from36c_1 : Int) (best38 : Fl) (k39 : Int) : Option ((Int × Int × Int × (List ((Fl × Fl) × Bool)) × (List Fl) × (List Fl) × Int × Int × Fl × Int) ⊕ ((Int × Int × Int × (List ((Fl × Fl) × Bool)) × (List Fl) × (List Fl) × Fl) ⊕ Bool)) := (if (decide (k39 < (2 : Int))) = true then ((loop (f_foghornlaw23_SoftTurns.s6 bits3 q5 d11c_0 d11c_1 d11c_2 xx13 ahead33 sx35 from36c_0 from36c_1 k39) (best38, (0 : Int))).bind (fun q293 => sm q293 (fun q294 => (some (Sum.inl (d11c_0, d11c_1, d11c_2, xx13, ends29, ahead33, from36c_0, from36c_1, q294, (IntKind.i64.wrap (k39 + (1 : Int))))))) (fun q295 => (some (Sum.inr (Sum.inr q295)))))) else (some (Sum.inr (Sum.inl (d11c_0, d11c_1, d11c_2, xx13, ends29, ahead33, best38)))))
noncomputable def f_foghornlaw23_SoftTurns.s5 (bits3 : (List Bool)) (q5 : (Int × Int × Int)) (sx35 : Int) (s : (Int × Int × Int × (List ((Fl × Fl) × Bool)) × (List Fl) × (List Fl) × Int × Int × Fl × Int)) : Option ((Int × Int × Int × (List ((Fl × Fl) × Bool)) × (List Fl) × (List Fl) × Int × Int × Fl × Int) ⊕ ((Int × Int × Int × (List ((Fl × Fl) × Bool)) × (List Fl) × (List Fl) × Fl) ⊕ Bool)) := f_foghornlaw23_SoftTurns.s5c bits3 q5 sx35 s.1 s.2.1 s.2.2.1 s.2.2.2.1 s.2.2.2.2.1 s.2.2.2.2.2.1 s.2.2.2.2.2.2.1 s.2.2.2.2.2.2.2.1 s.2.2.2.2.2.2.2.2.1 s.2.2.2.2.2.2.2.2.2
noncomputable def f_foghornlaw23_SoftTurns.s4c (bits3 : (List Bool)) (q5 : (Int × Int × Int)) (d11c_0 : Int) (d11c_1 : Int) (d11c_2 : Int) (xx13 : (List ((Fl × Fl) × Bool))) (ends29 : (List Fl)) (ahead33 : (List Fl)) (sx35 : Int) : Option ((Int × Int × Int × (List ((Fl × Fl) × Bool)) × (List Fl) × (List Fl) × Int) ⊕ (Unit ⊕ Bool)) := (if (decide (sx35 < (ends29.length : Int))) = true then ((f_foghornlaw23_code d11c_0 d11c_1 d11c_2).bind fun q222 => ((f_trellis_Code_From q222.1 q222.2.1 q222.2.2 sx35).bind fun q224 => (if (q224.2 != (0 : Int)) = true then (some (Sum.inr (Sum.inr false))) else ((f_math_Inf (1 : Int)).bind fun q228 => ((loop (f_foghornlaw23_SoftTurns.s5 bits3 q5 sx35) (d11c_0, d11c_1, d11c_2, xx13, ends29, ahead33, q224.1.1, q224.1.2, q228, (0 : Int))).bind (fun q296 => sm q296 (fun q297 => (if 0 ≤ sx35 ∧ sx35 < (q297.2.2.2.2.1.length : Int) then (if (fne (gt q297.2.2.2.2.1 sx35) q297.2.2.2.2.2.2) = true then (some (Sum.inr (Sum.inr false))) else (some (Sum.inl (q297.1, q297.2.1, q297.2.2.1, q297.2.2.2.1, q297.2.2.2.2.1, q297.2.2.2.2.2.1, (IntKind.i64.wrap (sx35 + (1 : Int))))))) else none)) (fun q298 => (some (Sum.inr (Sum.inr q298)))))))))) else (some (Sum.inr (Sum.inl ()))))
noncomputable def f_foghornlaw23_SoftTurns.s4 (bits3 : (List Bool)) (q5 : (Int × Int × Int)) (s : (Int × Int × Int × (List ((Fl × Fl) × Bool)) × (List Fl) × (List Fl) × Int)) : Option ((Int × Int × Int × (List ((Fl × Fl) × Bool)) × (List Fl) × (List Fl) × Int) ⊕ (Unit ⊕ Bool)) := f_foghornlaw23_SoftTurns.s4c bits3 q5 s.1 s.2.1 s.2.2.1 s.2.2.2.1 s.2.2.2.2.1 s.2.2.2.2.2.1 s.2.2.2.2.2.2
noncomputable def f_foghornlaw23_SoftTurns (cx0_Length : Int) (cx0_One : Int) (cx0_Two : Int) (one1 : Bool) (two2 : Bool) (bits3 : (List Bool)) (l4 : (List (Int × Int × Bool))) : Option Bool := ((f_foghornlaw23_awake).bind fun q3 => (if (!q3) = true then (some false) else ((f_foghornlaw23_codeOf cx0_Length cx0_One cx0_Two).bind fun q5 => (if (decide ((60 : Int) < (IntKind.i64.wrap ((IntKind.i64.wrap ((bits3.length : Int) + q5.1)) - (1 : Int))))) = true then (some true) else (if 0 ≤ (IntKind.i64.wrap ((IntKind.i64.wrap ((bits3.length : Int) + q5.1)) - (1 : Int))) ∧ (IntKind.i64.wrap ((IntKind.i64.wrap ((bits3.length : Int) + q5.1)) - (1 : Int))) ≤ (IntKind.i64.wrap ((IntKind.i64.wrap ((bits3.length : Int) + q5.1)) - (1 : Int))) ∧ (IntKind.i64.wrap ((IntKind.i64.wrap ((bits3.length : Int) + q5.1)) - (1 : Int))) * 24 ≤ 281474976710656 then (if 0 ≤ (IntKind.i64.wrap ((IntKind.i64.wrap ((bits3.length : Int) + q5.1)) - (1 : Int))) ∧ (IntKind.i64.wrap ((IntKind.i64.wrap ((bits3.length : Int) + q5.1)) - (1 : Int))) ≤ (IntKind.i64.wrap ((IntKind.i64.wrap ((bits3.length : Int) + q5.1)) - (1 : Int))) ∧ (IntKind.i64.wrap ((IntKind.i64.wrap ((bits3.length : Int) + q5.1)) - (1 : Int))) * 24 ≤ 281474976710656 then ((loop (f_foghornlaw23_SoftTurns.s1 bits3 l4 q5) ((List.replicate ((IntKind.i64.wrap ((IntKind.i64.wrap ((bits3.length : Int) + q5.1)) - (1 : Int)))).toNat ((Fl.bits 0, Fl.bits 0), false)), (List.replicate ((IntKind.i64.wrap ((IntKind.i64.wrap ((bits3.length : Int) + q5.1)) - (1 : Int)))).toNat ((Fl.bits 0, Fl.bits 0), false)), (0 : Int))).bind (fun q61 => ((loop (f_foghornlaw23_SoftTurns.s2 one1 two2 bits3 q5 q61) ((Fl.bits 0), (0 : Int))).bind (fun q112 => sm q112 (fun q113 => ((f_foghornlaw23_code q5.1 q5.2.1 q5.2.2).bind fun q115 => ((f_soft_Path q115.1 q115.2.1 q115.2.2 bits3 q61.1).bind fun q117 => ((f_foghornlaw23_code q5.1 q5.2.1 q5.2.2).bind fun q126 => ((f_soft_Path q126.1 q126.2.1 q126.2.2 bits3 q61.2).bind fun q128 => (if (((q117.2 != (0 : Int)) || (q128.2 != (0 : Int))) || (fne q128.1 (fsub (fmul (Fl.bits 4611686018427387904) q117.1) (fmul (Fl.bits 4611686018427387904) q113)))) = true then (some false) else ((f_foghornlaw23_code q5.1 q5.2.1 q5.2.2).bind fun q147 => ((f_soft_Decode q147.1 q147.2.1 q147.2.2 q61.1).bind fun q149 => ((f_foghornlaw23_code q5.1 q5.2.1 q5.2.2).bind fun q160 => ((f_soft_Ends q160.1 q160.2.1 q160.2.2 q61.1).bind fun q162 => ((if ((q149.2.2 != (0 : Int)) || (q162.2 != (0 : Int))) = true then (some true) else (if 0 ≤ (IntKind.i64.wrap (q5.1 - (1 : Int))) then (some ((q162.1.length : Int) != (ishl .i64 (1 : Int) (IntKind.i64.wrap (q5.1 - (1 : Int)))))) else none)).bind fun z175 => (if z175 = true then (some false) else (if 0 ≤ (0 : Int) ∧ (0 : Int) < (q162.1.length : Int) then ((loop (f_foghornlaw23_SoftTurns.s3 q162) ((gt q162.1 (0 : Int)), (1 : Int))).bind (fun q189 => (if ((fgt q189 q149.2.1) || ((IntKind.i64.wrap ((IntKind.i64.wrap ((bits3.length : Int) + q5.1)) - (1 : Int))) == (0 : Int))) = true then (some (fle q189 q149.2.1)) else ((f_foghornlaw23_code q5.1 q5.2.1 q5.2.2).bind fun q204 => (if 0 ≤ (IntKind.i64.wrap ((IntKind.i64.wrap ((IntKind.i64.wrap ((bits3.length : Int) + q5.1)) - (1 : Int))) - (1 : Int))) ∧ (IntKind.i64.wrap ((IntKind.i64.wrap ((IntKind.i64.wrap ((bits3.length : Int) + q5.1)) - (1 : Int))) - (1 : Int))) ≤ (q61.1.length : Int) then ((f_soft_Ends q204.1 q204.2.1 q204.2.2 ((q61.1.drop 0).take (((IntKind.i64.wrap ((IntKind.i64.wrap ((IntKind.i64.wrap ((bits3.length : Int) + q5.1)) - (1 : Int))) - (1 : Int)))).toNat - 0))).bind fun q209 => (if ((q209.2 != (0 : Int)) || ((q209.1.length : Int) != (q162.1.length : Int))) = true then (some false) else ((loop (f_foghornlaw23_SoftTurns.s4 bits3 q5) (q5.1, q5.2.1, q5.2.2, q61.1, q162.1, q209.1, (0 : Int))).bind (fun q302 => sm q302 (fun q303 => (some true)) (fun q304 => (some q304)))))) else none))))) else none))))))))))))) (fun q114 => (some q114)))))) else none) else none)))))
theorem f_foghornlaw23_SoftTurns_c {S : Nat → Prop} {w0 w : World} {ow : List Res} (hp : Hp S w0 w ow) (cx0_Length : Int) (cx0_One : Int) (cx0_Two : Int) (one1 : Bool) (two2 : Bool) (vbits3 : Value) (bits3 : (List Bool)) (hbits3 : RdS Ek.bool S w0 vbits3 bits3) (vl4 : Value) (l4 : (List (Int × Int × Bool))) (hl4 : RdS (Ek.pair (Ek.int .i32) (Ek.pair (Ek.int .i32) Ek.bool)) S w0 vl4 l4) {r : Bool} (h : f_foghornlaw23_SoftTurns cx0_Length cx0_One cx0_Two one1 two2 bits3 l4 = some r) :
    Calls Try.prog 8 #[.agg #[.int .i64 cx0_Length, .int .u32 cx0_One, .int .u32 cx0_Two], .bool one1, .bool two2, vbits3, vl4] w (fun e w' => e = .returned (.bool r) ∧ Hp S w0 w' (ow)) := by
  unfold f_foghornlaw23_SoftTurns at h
  refine enter (n := 347) (args := [.agg #[.int .i64 cx0_Length, .int .u32 cx0_One, .int .u32 cx0_Two], .bool one1, .bool two2, vbits3, vl4]) Try.func8 rfl rfl (Nat.le_of_ble_eq_true rfl) fun a hf => ?_
  replace hf : Fr 347 a [(0, .agg #[.int .i64 cx0_Length, .int .u32 cx0_One, .int .u32 cx0_Two]), (1, .bool one1), (2, .bool two2), (3, vbits3), (4, vl4)] := hf
  refine wp_mono (Q := fun e a w => e = .ret ∧ Fr 347 a [(10, .bool r)] ∧ Hp S w0 w (ow)) ?_ ?_
  rotate_left
  · rintro e a w ⟨rfl, hf, hp⟩
    exact ret1 hf rfl rfl ⟨rfl, hp⟩
  refine wp_seq ?_
  refine wp_reg ?_
  refine st_boxO (cs := [.int .i64 cx0_Length, .int .u32 cx0_One, .int .u32 cx0_Two]) hf (by decide) hp rfl rfl rfl ?_
  clear hf; intro a w v1 hf hp0; clear hp; have hp := hp0; clear hp0
  replace hp : Hp _ _ _ (Res.obj 24 v1 [.int .i64 cx0_Length, .int .u32 cx0_One, .int .u32 cx0_Two] :: ow) := hp
  refine st_assign hf rfl rfl (by decide) ?_
  clear hf; intro a ha hf; clear ha
  refine st_nil hf ?_
  refine th_n ?_
  refine wp_seq ?_
  refine wp_seq ?_
  refine wp_reg ?_
  obtain ⟨q3, hcall4, h⟩ := bnd h
  refine st_call hf (by decide) Try.func26 rfl rfl rfl rfl rfl (f_foghornlaw23_awake_c hp  hcall4) ?_
  rintro _ w ⟨rfl, hp0⟩
  clear hp; have hp := hp0; clear hp0
  replace hp : Hp _ _ _ (Res.obj 24 v1 [.int .i64 cx0_Length, .int .u32 cx0_One, .int .u32 cx0_Two] :: ow) := hp
  refine ⟨_, rfl, ?_⟩
  clear hf; intro a hf
  refine st_not hf (by decide) rfl rfl ?_
  clear hf; intro a ha hf; clear ha
  refine st_nil hf ?_
  refine th_n ?_
  refine wp_if hf rfl (fun hb => ?_) (fun hb => ?_)
  · replace h := ifT h hb
    refine wp_seq ?_
    refine wp_reg ?_
    refine st_assign hf rfl rfl (by decide) ?_
    clear hf; intro a ha hf; clear ha
    refine st_nil hf ?_
    refine th_n ?_
    refine wp_ret ?_
    refine th_r ?_
    obtain rfl := Option.some.inj h
    have hp : Hp _ _ _ (ow) := Hp.sel (pre := [Res.obj 24 v1 [.int .i64 cx0_Length, .int .u32 cx0_One, .int .u32 cx0_Two]]) (tail := ow) (rs' := []) hp [] (by decide) (by simp) rfl
    exact ⟨rfl, ⟨hf.sub ⟨rfl, trivial⟩, hp⟩⟩
  replace h := ifF h hb
  refine wp_skip ?_
  refine th_n ?_
  refine wp_seq ?_
  refine wp_reg ?_
  refine st_ldOA (m := 3) (us := [.int .i64 cx0_Length, .int .u32 cx0_One, .int .u32 cx0_Two]) hf (by decide) (by kernel_rfl) rfl rfl (hp.ob (i := 0) rfl) rfl rfl ?_
  clear hf; intro a ha hf; clear ha
  obtain ⟨q5, hcall6, h⟩ := bnd h
  refine st_call hf (by decide) Try.func27 rfl rfl rfl rfl rfl (f_foghornlaw23_codeOf_c hp _ _ _ hcall6) ?_
  rintro _ w ⟨rfl, hp0⟩
  clear hp; have hp := hp0; clear hp0
  replace hp : Hp _ _ _ (Res.obj 24 v1 [.int .i64 cx0_Length, .int .u32 cx0_One, .int .u32 cx0_Two] :: ow) := hp
  refine ⟨_, rfl, ?_⟩
  clear hf; intro a hf
  refine st_alloc (cs := [.int .i64 (0 : Int), .int .u32 (0 : Int), .int .u32 (0 : Int)]) (zv := .agg #[.int .i64 (0 : Int), .int .u32 (0 : Int), .int .u32 (0 : Int)]) hf (by decide) (by kernel_rfl) rfl hp rfl ?_
  clear hf; intro a w v7 hf hp0; clear hp; have hp := hp0; clear hp0
  replace hp : Hp _ _ _ (Res.obj 24 v7 [.int .i64 (0 : Int), .int .u32 (0 : Int), .int .u32 (0 : Int)] :: Res.obj 24 v1 [.int .i64 cx0_Length, .int .u32 cx0_One, .int .u32 cx0_Two] :: ow) := hp
  refine st_stO (us := [.int .i64 q5.1, .int .u32 q5.2.1, .int .u32 q5.2.2]) hf hp (i := 0) rfl rfl rfl rfl rfl (by rfl) (by kernel_rfl) (Nat.le_of_ble_eq_true rfl) ?_
  clear hf; intro a w hf hp0; clear hp; have hp := hp0; clear hp0
  replace hp : Hp _ _ _ (Res.obj 24 v7 [.int .i64 q5.1, .int .u32 q5.2.1, .int .u32 q5.2.2] :: Res.obj 24 v1 [.int .i64 cx0_Length, .int .u32 cx0_One, .int .u32 cx0_Two] :: ow) := hp
  refine st_nil hf ?_
  refine th_n ?_
  refine wp_seq ?_
  refine wp_reg ?_
  refine st_move hf rfl rfl (by decide) ?_
  clear hf; intro a ha hf; clear ha
  refine st_len (E := Ek.bool) hf (by decide) Try.underlying25 rfl rfl (hbits3.sl hp) ?_
  clear hf; intro a ha hf; clear ha
  refine st_fa (o' := 0) hf (by decide) (off := 0) (sz := 1) (by kernel_rfl) (by decide) rfl rfl (hp.ob (i := 0) rfl) rfl ?_
  clear hf; intro a ha hf; clear ha
  refine st_ldO (u := .int .i64 q5.1) hf (by decide) pl3 rfl rfl (hp.ob (i := 0) rfl) rfl ?_
  clear hf; intro a ha hf; clear ha
  refine st_iadd hf (by decide) rfl rfl rfl ?_
  clear hf; intro a ha hf; clear ha
  refine st_isub hf (by decide) rfl rfl rfl ?_
  clear hf; intro a ha hf; clear ha
  refine st_assign hf rfl rfl (by decide) ?_
  clear hf; intro a ha hf; clear ha
  refine st_nil hf ?_
  refine th_n ?_
  refine wp_seq ?_
  refine wp_seq ?_
  refine wp_reg ?_
  refine st_move hf rfl rfl (by decide) ?_
  clear hf; intro a ha hf; clear ha
  refine st_igtr hf (by decide) rfl rfl rfl ?_
  clear hf; intro a ha hf; clear ha
  refine st_nil hf ?_
  refine th_n ?_
  refine wp_if hf rfl (fun hb => ?_) (fun hb => ?_)
  · replace h := ifT h hb
    refine wp_seq ?_
    refine wp_reg ?_
    refine st_assign hf rfl rfl (by decide) ?_
    clear hf; intro a ha hf; clear ha
    refine st_nil hf ?_
    refine th_n ?_
    refine wp_ret ?_
    refine th_r ?_
    obtain rfl := Option.some.inj h
    have hp : Hp _ _ _ (ow) := Hp.sel (pre := [Res.obj 24 v7 [.int .i64 q5.1, .int .u32 q5.2.1, .int .u32 q5.2.2], Res.obj 24 v1 [.int .i64 cx0_Length, .int .u32 cx0_One, .int .u32 cx0_Two]]) (tail := ow) (rs' := []) hp [] (by decide) (by simp) rfl
    exact ⟨rfl, ⟨hf.sub ⟨rfl, trivial⟩, hp⟩⟩
  replace h := ifF h hb
  refine wp_skip ?_
  refine th_n ?_
  refine wp_seq ?_
  refine wp_reg ?_
  refine st_move hf rfl rfl (by decide) ?_
  clear hf; intro a ha hf; clear ha
  obtain ⟨hc9, h⟩ := chk h
  refine st_make (E := (Ek.pair Ek.c128 Ek.bool)) hf (by decide) elt35 Try.underlying27 (by decide) hp rfl rfl rfl hc9.1 hc9.2.1 hc9.2.2 ?_
  clear hf; intro a w v10 hf hp0; clear hp; have hp := hp0; clear hp0
  replace hp : Hp _ _ _ (Res.sl (Ek.pair Ek.c128 Ek.bool) 35 v10 (List.replicate ((IntKind.i64.wrap ((IntKind.i64.wrap ((bits3.length : Int) + q5.1)) - (1 : Int)))).toNat ((Fl.bits 0, Fl.bits 0), false)) :: Res.obj 24 v7 [.int .i64 q5.1, .int .u32 q5.2.1, .int .u32 q5.2.2] :: Res.obj 24 v1 [.int .i64 cx0_Length, .int .u32 cx0_One, .int .u32 cx0_Two] :: ow) := hp
  refine st_assign hf rfl rfl (by decide) ?_
  clear hf; intro a ha hf; clear ha
  refine st_nil hf ?_
  refine th_n ?_
  refine wp_seq ?_
  refine wp_reg ?_
  refine st_move hf rfl rfl (by decide) ?_
  clear hf; intro a ha hf; clear ha
  obtain ⟨hc12, h⟩ := chk h
  refine st_make (E := (Ek.pair Ek.c128 Ek.bool)) hf (by decide) elt35 Try.underlying27 (by decide) hp rfl rfl rfl hc12.1 hc12.2.1 hc12.2.2 ?_
  clear hf; intro a w v13 hf hp0; clear hp; have hp := hp0; clear hp0
  replace hp : Hp _ _ _ (Res.sl (Ek.pair Ek.c128 Ek.bool) 35 v13 (List.replicate ((IntKind.i64.wrap ((IntKind.i64.wrap ((bits3.length : Int) + q5.1)) - (1 : Int)))).toNat ((Fl.bits 0, Fl.bits 0), false)) :: Res.sl (Ek.pair Ek.c128 Ek.bool) 35 v10 (List.replicate ((IntKind.i64.wrap ((IntKind.i64.wrap ((bits3.length : Int) + q5.1)) - (1 : Int)))).toNat ((Fl.bits 0, Fl.bits 0), false)) :: Res.obj 24 v7 [.int .i64 q5.1, .int .u32 q5.2.1, .int .u32 q5.2.2] :: Res.obj 24 v1 [.int .i64 cx0_Length, .int .u32 cx0_One, .int .u32 cx0_Two] :: ow) := hp
  refine st_assign hf rfl rfl (by decide) ?_
  clear hf; intro a ha hf; clear ha
  refine st_nil hf ?_
  refine th_n ?_
  refine wp_seq ?_
  refine wp_reg ?_
  refine st_assign hf rfl rfl (by decide) ?_
  clear hf; intro a ha hf; clear ha
  refine st_nil hf ?_
  refine th_n ?_
  refine wp_seq ?_
  refine wp_seq ?_
  refine wp_reg ?_
  refine st_assign hf rfl rfl (by decide) ?_
  clear hf; intro a ha hf; clear ha
  refine st_nil hf ?_
  refine th_n ?_
  refine wp_block ?_
  obtain ⟨q61, hl, h⟩ := bnd h
  have hp : Hp _ _ _ (Res.sl (Ek.pair Ek.c128 Ek.bool) 35 v10 (List.replicate ((IntKind.i64.wrap ((IntKind.i64.wrap ((bits3.length : Int) + q5.1)) - (1 : Int)))).toNat ((Fl.bits 0, Fl.bits 0), false)) :: Res.sl (Ek.pair Ek.c128 Ek.bool) 35 v13 (List.replicate ((IntKind.i64.wrap ((IntKind.i64.wrap ((bits3.length : Int) + q5.1)) - (1 : Int)))).toNat ((Fl.bits 0, Fl.bits 0), false)) :: Res.obj 24 v7 [.int .i64 q5.1, .int .u32 q5.2.1, .int .u32 q5.2.2] :: ow) := Hp.sel (pre := [Res.sl (Ek.pair Ek.c128 Ek.bool) 35 v13 (List.replicate ((IntKind.i64.wrap ((IntKind.i64.wrap ((bits3.length : Int) + q5.1)) - (1 : Int)))).toNat ((Fl.bits 0, Fl.bits 0), false)), Res.sl (Ek.pair Ek.c128 Ek.bool) 35 v10 (List.replicate ((IntKind.i64.wrap ((IntKind.i64.wrap ((bits3.length : Int) + q5.1)) - (1 : Int)))).toNat ((Fl.bits 0, Fl.bits 0), false)), Res.obj 24 v7 [.int .i64 q5.1, .int .u32 q5.2.1, .int .u32 q5.2.2], Res.obj 24 v1 [.int .i64 cx0_Length, .int .u32 cx0_One, .int .u32 cx0_Two]]) (tail := ow) (rs' := [Res.sl (Ek.pair Ek.c128 Ek.bool) 35 v10 (List.replicate ((IntKind.i64.wrap ((IntKind.i64.wrap ((bits3.length : Int) + q5.1)) - (1 : Int)))).toNat ((Fl.bits 0, Fl.bits 0), false)), Res.sl (Ek.pair Ek.c128 Ek.bool) 35 v13 (List.replicate ((IntKind.i64.wrap ((IntKind.i64.wrap ((bits3.length : Int) + q5.1)) - (1 : Int)))).toNat ((Fl.bits 0, Fl.bits 0), false)), Res.obj 24 v7 [.int .i64 q5.1, .int .u32 q5.2.1, .int .u32 q5.2.2]]) hp [1, 0, 2] (by decide) (by simp) rfl
  refine wp_loop_pure (f := (f_foghornlaw23_SoftTurns.s1 bits3 l4 q5)) (s := ((List.replicate ((IntKind.i64.wrap ((IntKind.i64.wrap ((bits3.length : Int) + q5.1)) - (1 : Int)))).toNat ((Fl.bits 0, Fl.bits 0), false)), (List.replicate ((IntKind.i64.wrap ((IntKind.i64.wrap ((bits3.length : Int) + q5.1)) - (1 : Int)))).toNat ((Fl.bits 0, Fl.bits 0), false)), (0 : Int))) (fun s a w => ∃ (v15 : Value) (v17 : Value), Fr 347 a [(1, .bool one1), (2, .bool two2), (3, vbits3), (4, vl4), (11, optr v7 0), (12, .int .i64 (IntKind.i64.wrap ((IntKind.i64.wrap ((bits3.length : Int) + q5.1)) - (1 : Int)))), (13, v15), (14, v17), (15, .float .f64 0), (16, .int .i64 s.2.2)] ∧ Hp S w0 w (Res.sl (Ek.pair Ek.c128 Ek.bool) 35 v15 s.1 :: Res.sl (Ek.pair Ek.c128 Ek.bool) 35 v17 s.2.1 :: Res.obj 24 v7 [.int .i64 q5.1, .int .u32 q5.2.1, .int .u32 q5.2.2] :: ow)) (fun q e a w => e = .exit 0 ∧ ∃ (v19 : Value) (v21 : Value), Fr 347 a [(1, .bool one1), (2, .bool two2), (3, vbits3), (11, optr v7 0), (12, .int .i64 (IntKind.i64.wrap ((IntKind.i64.wrap ((bits3.length : Int) + q5.1)) - (1 : Int)))), (13, v19), (14, v21), (15, .float .f64 0)] ∧ Hp S w0 w (Res.sl (Ek.pair Ek.c128 Ek.bool) 35 v19 q.1 :: Res.sl (Ek.pair Ek.c128 Ek.bool) 35 v21 q.2 :: Res.obj 24 v7 [.int .i64 q5.1, .int .u32 q5.2.1, .int .u32 q5.2.2] :: ow)) ?_ hl ⟨_, _, hf.sub ⟨rfl, rfl, rfl, rfl, rfl, rfl, rfl, rfl, rfl, rfl, trivial⟩, hp⟩ ?_
  · clear hl hf hp
    intro s x a w h hI
    obtain ⟨xx13, far14, i16⟩ := s
    obtain ⟨v15, v17, hf, hp⟩ : ∃ (v15 : Value) (v17 : Value), Fr 347 a [(1, .bool one1), (2, .bool two2), (3, vbits3), (4, vl4), (11, optr v7 0), (12, .int .i64 (IntKind.i64.wrap ((IntKind.i64.wrap ((bits3.length : Int) + q5.1)) - (1 : Int)))), (13, v15), (14, v17), (15, .float .f64 0), (16, .int .i64 i16)] ∧ Hp S w0 w (Res.sl (Ek.pair Ek.c128 Ek.bool) 35 v15 xx13 :: Res.sl (Ek.pair Ek.c128 Ek.bool) 35 v17 far14 :: Res.obj 24 v7 [.int .i64 q5.1, .int .u32 q5.2.1, .int .u32 q5.2.2] :: ow) := hI
    replace h : f_foghornlaw23_SoftTurns.s1c bits3 l4 q5 xx13 far14 i16 = some x := h
    unfold f_foghornlaw23_SoftTurns.s1c at h
    refine wp_seq ?_
    refine wp_seq ?_
    refine wp_reg ?_
    refine st_move hf rfl rfl (by decide) ?_
    clear hf; intro a ha hf; clear ha
    refine st_move hf rfl rfl (by decide) ?_
    clear hf; intro a ha hf; clear ha
    refine st_ilss hf (by decide) rfl rfl rfl ?_
    clear hf; intro a ha hf; clear ha
    refine st_move hf rfl rfl (by decide) ?_
    clear hf; intro a ha hf; clear ha
    refine wpList_cut 4 (fun a w => Fr 347 a [(1, .bool one1), (2, .bool two2), (3, vbits3), (4, vl4), (11, optr v7 0), (12, .int .i64 (IntKind.i64.wrap ((IntKind.i64.wrap ((bits3.length : Int) + q5.1)) - (1 : Int)))), (13, v15), (14, v17), (15, .float .f64 0), (16, .int .i64 i16), (70, .bool ((decide (i16 < (IntKind.i64.wrap ((IntKind.i64.wrap ((bits3.length : Int) + q5.1)) - (1 : Int))))) && (decide ((0 : Int) < (l4.length : Int)))))] ∧ Hp S w0 w (Res.sl (Ek.pair Ek.c128 Ek.bool) 35 v15 xx13 :: Res.sl (Ek.pair Ek.c128 Ek.bool) 35 v17 far14 :: Res.obj 24 v7 [.int .i64 q5.1, .int .u32 q5.2.1, .int .u32 q5.2.2] :: ow)) ?_ ?_
    · rcases Bool.eq_false_or_eq_true (decide (i16 < (IntKind.i64.wrap ((IntKind.i64.wrap ((bits3.length : Int) + q5.1)) - (1 : Int))))) with hb24 | hb24
      · skip
        refine st_move hf (wantY hf rfl rfl hb24) rfl (by decide) ?_
        clear hf; intro a ha hf; clear ha
        refine st_len (E := (Ek.pair (Ek.int .i32) (Ek.pair (Ek.int .i32) Ek.bool))) hf (by decide) Try.underlying26 (wantY hf rfl rfl hb24) rfl (hl4.sl hp) ?_
        clear hf; intro a ha hf; clear ha
        refine st_igtr hf (by decide) (wantY hf rfl rfl hb24) rfl rfl ?_
        clear hf; intro a ha hf; clear ha
        refine st_pick (v := .bool (decide ((0 : Int) < (l4.length : Int)))) hf rfl rfl (fun hb' => ?_) (fun hb' => ?_) (by decide) ?_
        · rfl
        · exact absurd (hb24.symm.trans hb') (by decide)
        clear hf; intro a ha hf; clear ha
        refine st_nil hf (th_n ?_)
        exact ⟨hf.sub ⟨rfl, rfl, rfl, rfl, rfl, rfl, rfl, rfl, rfl, rfl, (by rw [hb24]; rfl), trivial⟩, hp⟩
      refine st_skip hf (wantN hf rfl rfl hb24) rfl (by decide) ?_ rfl
      clear hf; intro a hf
      refine st_skip hf (wantN hf rfl rfl hb24) rfl (by decide) ?_ rfl
      clear hf; intro a hf
      refine st_skip hf (wantN hf rfl rfl hb24) rfl (by decide) ?_ rfl
      clear hf; intro a hf
      refine st_pick (v := .bool false) hf rfl rfl (fun hb' => ?_) (fun hb' => ?_) (by decide) ?_
      · exact absurd (hb24.symm.trans hb') (by decide)
      · rfl
      clear hf; intro a ha hf; clear ha
      refine st_nil hf (th_n ?_)
      exact ⟨hf.sub ⟨rfl, rfl, rfl, rfl, rfl, rfl, rfl, rfl, rfl, rfl, (by rw [hb24]; rfl), trivial⟩, hp⟩
    rintro a w ⟨hf, hp⟩
    refine st_nil hf ?_
    refine th_n ?_
    refine wp_if hf rfl (fun hb => ?_) (fun hb => ?_)
    · replace h := ifT h hb
      refine wp_skip ?_
      refine th_n ?_
      refine wp_seq ?_
      refine wp_block ?_
      refine wp_seq ?_
      refine wp_reg ?_
      refine st_move hf rfl rfl (by decide) ?_
      clear hf; intro a ha hf; clear ha
      refine st_move hf rfl rfl (by decide) ?_
      clear hf; intro a ha hf; clear ha
      refine st_move hf rfl rfl (by decide) ?_
      clear hf; intro a ha hf; clear ha
      refine st_move hf rfl rfl (by decide) ?_
      clear hf; intro a ha hf; clear ha
      refine st_move hf rfl rfl (by decide) ?_
      clear hf; intro a ha hf; clear ha
      refine st_len (E := (Ek.pair (Ek.int .i32) (Ek.pair (Ek.int .i32) Ek.bool))) hf (by decide) Try.underlying26 rfl rfl (hl4.sl hp) ?_
      clear hf; intro a ha hf; clear ha
      obtain ⟨hc25, h⟩ := chk h
      refine st_irem hf (by decide) rfl rfl rfl hc25 ?_
      clear hf; intro a ha hf; clear ha
      obtain ⟨hc26, h⟩ := chk h
      refine st_index (E := (Ek.pair (Ek.int .i32) (Ek.pair (Ek.int .i32) Ek.bool))) hf (by decide) Try.underlying26 elt62 rfl rfl rfl (hl4.sl hp) hc26.1 hc26.2 ?_
      clear hf; intro a ha hf; clear ha
      refine st_ldQX (F := (Ek.pair (Ek.int .i32) (Ek.pair (Ek.int .i32) Ek.bool))) (yv := (gt l4 ((i16).tmod (l4.length : Int)))) (m := 3) (us := [.int .i32 ((gt l4 ((i16).tmod (l4.length : Int))).1), .int .i32 ((gt l4 ((i16).tmod (l4.length : Int))).2.1), .bool ((gt l4 ((i16).tmod (l4.length : Int))).2.2)]) hf (by decide) (by kernel_rfl) rfl (fun cs9 h9 => by obtain ⟨_, _, rfl, rfl, ⟨_, _, rfl, rfl, rfl⟩⟩ := h9; rfl) rfl rfl (Part.whole (hl4.sl hp) hc26.1 hc26.2) ?_
      clear hf; intro a ha hf; clear ha
      obtain ⟨q27, hcall28, h⟩ := bnd h
      refine st_call hf (by decide) Try.func28 rfl rfl rfl rfl rfl (f_foghornlaw23_calm_c hp _ _ _ hcall28) ?_
      rintro _ w ⟨v29, v30, rfl, y31, y32, hp0⟩
      clear hp; have hp := hp0; clear hp0
      replace hp : Hp _ _ _ (Res.sl (Ek.pair Ek.c128 Ek.bool) 35 v15 xx13 :: Res.sl (Ek.pair Ek.c128 Ek.bool) 35 v17 far14 :: Res.obj 24 v7 [.int .i64 q5.1, .int .u32 q5.2.1, .int .u32 q5.2.2] :: ow) := hp
      refine ⟨_, rfl, ?_⟩
      clear hf; intro a hf
      obtain ⟨hc33, h⟩ := chk h
      refine st_index (E := (Ek.pair Ek.c128 Ek.bool)) hf (by decide) Try.underlying27 elt35 rfl rfl rfl (hp.sl (i := 0) rfl) hc33.1 hc33.2 ?_
      clear hf; intro a ha hf; clear ha
      refine st_store (E := (Ek.pair Ek.c128 Ek.bool)) (x' := (q27.1, q27.2)) hf elt35 hp (i := 0) rfl rfl rfl rfl ⟨[.complex .f64 v29 v30], [.bool q27.2], rfl, (show Ek.c128.rep [.complex .f64 v29 v30] q27.1 from ⟨_, _, rfl, y31, y32⟩), rfl⟩ hc33.1 hc33.2 ?_
      clear hf; intro a w hf hp0; clear hp; have hp := hp0; clear hp0
      replace hp : Hp _ _ _ (Res.sl (Ek.pair Ek.c128 Ek.bool) 35 v15 (xx13.set (i16).toNat (q27.1, q27.2)) :: Res.sl (Ek.pair Ek.c128 Ek.bool) 35 v17 far14 :: Res.obj 24 v7 [.int .i64 q5.1, .int .u32 q5.2.1, .int .u32 q5.2.2] :: ow) := hp
      refine st_nil hf ?_
      refine th_n ?_
      obtain ⟨S34, hp35, rd36, up37, bk38⟩ := Hp.lendS hp (i := 0) rfl
      have rl39 := ((hbits3.now hp).mono up37)
      have rl40 := ((hl4.now hp).mono up37)
      have rl41 := rd36
      have fx60 := hp.sl (i := 1) rfl
      obtain ⟨hc42, h⟩ := chk h
      obtain ⟨bb44, bb45, y46, y47, hl43⟩ := RdS.pinPC (p := i16) (o := 0) (Sub.fst (E := Ek.c128) (F := Ek.bool)) rl41 hc42.1 hc42.2
      obtain ⟨q48, hq49, h⟩ := bnd h
      obtain ⟨hc50, h⟩ := chk h
      obtain ⟨bb52, bb53, y54, y55, hl51⟩ := RdS.pinPC (p := i16) (o := 0) (Sub.fst (E := Ek.c128) (F := Ek.bool)) rl41 hc50.1 hc50.2
      obtain ⟨q56, hq57, h⟩ := bnd h
      obtain ⟨hc58, h⟩ := chk h
      obtain ⟨hc59, h⟩ := chk h
      refine wp_cutN (fun a w => Fr 347 a [(1, .bool one1), (2, .bool two2), (3, vbits3), (4, vl4), (11, optr v7 0), (12, .int .i64 (IntKind.i64.wrap ((IntKind.i64.wrap ((bits3.length : Int) + q5.1)) - (1 : Int)))), (13, v15), (14, v17), (15, .float .f64 0), (16, .int .i64 i16)] ∧ Hp S w0 w (Res.sl (Ek.pair Ek.c128 Ek.bool) 35 v15 (xx13.set (i16).toNat (q27.1, q27.2)) :: Res.sl (Ek.pair Ek.c128 Ek.bool) 35 v17 (far14.set (i16).toNat ((q48, q56), (gt (xx13.set (i16).toNat (q27.1, q27.2)) i16).2)) :: Res.obj 24 v7 [.int .i64 q5.1, .int .u32 q5.2.1, .int .u32 q5.2.2] :: ow)) ?_ ?_
      · have hp := hp35.same (Same.drew w)
        refine dr_begin' (fun a w => Fr 347 a [(1, .bool one1), (2, .bool two2), (3, vbits3), (4, vl4), (11, optr v7 0), (12, .int .i64 (IntKind.i64.wrap ((IntKind.i64.wrap ((bits3.length : Int) + q5.1)) - (1 : Int)))), (13, v15), (14, v17), (15, .float .f64 0), (16, .int .i64 i16)] ∧ Hp S w0 w (Res.sl (Ek.pair Ek.c128 Ek.bool) 35 v15 (xx13.set (i16).toNat (q27.1, q27.2)) :: Res.sl (Ek.pair Ek.c128 Ek.bool) 35 v17 (far14.set (i16).toNat ((q48, q56), (gt (xx13.set (i16).toNat (q27.1, q27.2)) i16).2)) :: Res.obj 24 v7 [.int .i64 q5.1, .int .u32 q5.2.1, .int .u32 q5.2.2] :: ow)) (fun w' => ∃ l, Hp S34 w w' l) [] (by kernel_rfl) ?_
        refine dr_takeP 0 (v17) rfl (by kernel_rfl) (by kernel_rfl) (by kernel_rfl) rfl rfl hf (by decide) rfl (fun w => ?_) ?_
        · skip
          refine st_move hf rfl rfl (by decide) ?_
          clear hf; intro a ha hf
          exact st_nil hf (th_n ⟨ha, rfl⟩)
        clear hf; intro a hf
        refine dr_takeP 1 (.int .i64 i16) rfl (by kernel_rfl) (by kernel_rfl) (by kernel_rfl) rfl rfl hf (by decide) rfl (fun w => ?_) ?_
        · skip
          refine st_move hf rfl rfl (by decide) ?_
          clear hf; intro a ha hf
          exact st_nil hf (th_n ⟨ha, rfl⟩)
        clear hf; intro a hf
        refine dr_takeP 2 (v15) rfl (by kernel_rfl) (by kernel_rfl) (by kernel_rfl) rfl rfl hf (by decide) rfl (fun w => ?_) ?_
        · skip
          refine st_move hf rfl rfl (by decide) ?_
          clear hf; intro a ha hf
          exact st_nil hf (th_n ⟨ha, rfl⟩)
        clear hf; intro a hf
        refine dr_takeP 3 (.int .i64 i16) rfl (by kernel_rfl) (by kernel_rfl) (by kernel_rfl) rfl rfl hf (by decide) rfl (fun w => ?_) ?_
        · skip
          refine st_move hf rfl rfl (by decide) ?_
          clear hf; intro a ha hf
          exact st_nil hf (th_n ⟨ha, rfl⟩)
        clear hf; intro a hf
        refine dr_takeP 4 (eptr v15 i16 2) rfl (by kernel_rfl) (by kernel_rfl) (by kernel_rfl) rfl rfl hf (by decide) rfl (fun w => ?_) ?_
        · skip
          refine st_index (E := (Ek.pair Ek.c128 Ek.bool)) hf (by decide) Try.underlying27 elt35 rfl rfl rfl rl41.any hc42.1 hc42.2 ?_
          clear hf; intro a ha hf
          exact st_nil hf (th_n ⟨ha, rfl⟩)
        clear hf; intro a hf
        refine dr_takeP 5 (optr (eptr v15 i16 2) 0) rfl (by kernel_rfl) (by kernel_rfl) (by kernel_rfl) rfl rfl hf (by decide) rfl (fun w => ?_) ?_
        · skip
          refine st_faP (off := 0) (sz := 1) hf (by decide) (by kernel_rfl) (by decide) rfl rfl (Sl.isP rl41.any hc42.1 hc42.2) ?_
          clear hf; intro a ha hf
          exact st_nil hf (th_n ⟨ha, rfl⟩)
        clear hf; intro a hf
        refine dr_take 6 (.complex .f64 bb44 bb45) rfl (by kernel_rfl) (by kernel_rfl) (by kernel_rfl) (by kernel_rfl) rfl rfl hf (by decide) rfl (fun w hp => ?_) ⟨_, hp⟩ ?_
        · obtain ⟨_, hp⟩ := hp
          refine st_ldP hf (by decide) pl33 rfl rfl (hl43 _ _ hp) ?_
          clear hf; intro a ha hf
          exact st_nil hf (th_n ⟨ha, rfl⟩)
        clear hf; intro a hf
        refine dr_takeP 7 (.float .f64 bb44) rfl (by kernel_rfl) (by kernel_rfl) (by kernel_rfl) rfl rfl hf (by decide) rfl (fun w => ?_) ?_
        · skip
          refine st_real hf (by decide) rfl rfl ?_
          clear hf; intro a ha hf
          exact st_nil hf (th_n ⟨ha, rfl⟩)
        clear hf; intro a hf
        refine dr_takeP 8 (.float .f64 (flb q48)) rfl (by kernel_rfl) (by kernel_rfl) (by kernel_rfl) rfl rfl hf (by decide) rfl (fun w => ?_) ?_
        · skip
          refine st_fs (op := .mul) rfl hf (by decide) rfl rfl rfl (show Fl.rep 4611686018427387904 (Fl.bits 4611686018427387904) from rfl) (show Fl.rep bb44 ((gt (xx13.set (i16).toNat (q27.1, q27.2)) i16).1.1) from y46) hq49 ?_
          clear hf; intro a ha hf
          exact st_nil hf (th_n ⟨ha, rfl⟩)
        clear hf; intro a hf
        refine dr_takeP 9 (v15) rfl (by kernel_rfl) (by kernel_rfl) (by kernel_rfl) rfl rfl hf (by decide) rfl (fun w => ?_) ?_
        · skip
          refine st_move hf rfl rfl (by decide) ?_
          clear hf; intro a ha hf
          exact st_nil hf (th_n ⟨ha, rfl⟩)
        clear hf; intro a hf
        refine dr_takeP 10 (.int .i64 i16) rfl (by kernel_rfl) (by kernel_rfl) (by kernel_rfl) rfl rfl hf (by decide) rfl (fun w => ?_) ?_
        · skip
          refine st_move hf rfl rfl (by decide) ?_
          clear hf; intro a ha hf
          exact st_nil hf (th_n ⟨ha, rfl⟩)
        clear hf; intro a hf
        refine dr_takeP 11 (eptr v15 i16 2) rfl (by kernel_rfl) (by kernel_rfl) (by kernel_rfl) rfl rfl hf (by decide) rfl (fun w => ?_) ?_
        · skip
          refine st_index (E := (Ek.pair Ek.c128 Ek.bool)) hf (by decide) Try.underlying27 elt35 rfl rfl rfl rl41.any hc50.1 hc50.2 ?_
          clear hf; intro a ha hf
          exact st_nil hf (th_n ⟨ha, rfl⟩)
        clear hf; intro a hf
        refine dr_takeP 12 (optr (eptr v15 i16 2) 0) rfl (by kernel_rfl) (by kernel_rfl) (by kernel_rfl) rfl rfl hf (by decide) rfl (fun w => ?_) ?_
        · skip
          refine st_faP (off := 0) (sz := 1) hf (by decide) (by kernel_rfl) (by decide) rfl rfl (Sl.isP rl41.any hc50.1 hc50.2) ?_
          clear hf; intro a ha hf
          exact st_nil hf (th_n ⟨ha, rfl⟩)
        clear hf; intro a hf
        refine dr_take 13 (.complex .f64 bb52 bb53) rfl (by kernel_rfl) (by kernel_rfl) (by kernel_rfl) (by kernel_rfl) rfl rfl hf (by decide) rfl (fun w hp => ?_) ⟨_, hp⟩ ?_
        · obtain ⟨_, hp⟩ := hp
          refine st_ldP hf (by decide) pl33 rfl rfl (hl51 _ _ hp) ?_
          clear hf; intro a ha hf
          exact st_nil hf (th_n ⟨ha, rfl⟩)
        clear hf; intro a hf
        refine dr_takeP 14 (.float .f64 bb53) rfl (by kernel_rfl) (by kernel_rfl) (by kernel_rfl) rfl rfl hf (by decide) rfl (fun w => ?_) ?_
        · skip
          refine st_imag hf (by decide) rfl rfl ?_
          clear hf; intro a ha hf
          exact st_nil hf (th_n ⟨ha, rfl⟩)
        clear hf; intro a hf
        refine dr_takeP 15 (.float .f64 (flb q56)) rfl (by kernel_rfl) (by kernel_rfl) (by kernel_rfl) rfl rfl hf (by decide) rfl (fun w => ?_) ?_
        · skip
          refine st_fs (op := .mul) rfl hf (by decide) rfl rfl rfl (show Fl.rep 4611686018427387904 (Fl.bits 4611686018427387904) from rfl) (show Fl.rep bb53 ((gt (xx13.set (i16).toNat (q27.1, q27.2)) i16).1.2) from y55) hq57 ?_
          clear hf; intro a ha hf
          exact st_nil hf (th_n ⟨ha, rfl⟩)
        clear hf; intro a hf
        refine dr_takeP 16 (.complex .f64 (flb q48) (flb q56)) rfl (by kernel_rfl) (by kernel_rfl) (by kernel_rfl) rfl rfl hf (by decide) rfl (fun w => ?_) ?_
        · skip
          refine st_complex hf (by decide) rfl rfl rfl ?_
          clear hf; intro a ha hf
          exact st_nil hf (th_n ⟨ha, rfl⟩)
        clear hf; intro a hf
        refine dr_takeP 17 (v15) rfl (by kernel_rfl) (by kernel_rfl) (by kernel_rfl) rfl rfl hf (by decide) rfl (fun w => ?_) ?_
        · skip
          refine st_move hf rfl rfl (by decide) ?_
          clear hf; intro a ha hf
          exact st_nil hf (th_n ⟨ha, rfl⟩)
        clear hf; intro a hf
        refine dr_takeP 18 (.int .i64 i16) rfl (by kernel_rfl) (by kernel_rfl) (by kernel_rfl) rfl rfl hf (by decide) rfl (fun w => ?_) ?_
        · skip
          refine st_move hf rfl rfl (by decide) ?_
          clear hf; intro a ha hf
          exact st_nil hf (th_n ⟨ha, rfl⟩)
        clear hf; intro a hf
        refine dr_takeP 19 (eptr v15 i16 2) rfl (by kernel_rfl) (by kernel_rfl) (by kernel_rfl) rfl rfl hf (by decide) rfl (fun w => ?_) ?_
        · skip
          refine st_index (E := (Ek.pair Ek.c128 Ek.bool)) hf (by decide) Try.underlying27 elt35 rfl rfl rfl rl41.any hc58.1 hc58.2 ?_
          clear hf; intro a ha hf
          exact st_nil hf (th_n ⟨ha, rfl⟩)
        clear hf; intro a hf
        refine dr_takeP 20 (optr (eptr v15 i16 2) 1) rfl (by kernel_rfl) (by kernel_rfl) (by kernel_rfl) rfl rfl hf (by decide) rfl (fun w => ?_) ?_
        · skip
          refine st_faP (off := 1) (sz := 1) hf (by decide) (by kernel_rfl) (by decide) rfl rfl (Sl.isP rl41.any hc58.1 hc58.2) ?_
          clear hf; intro a ha hf
          exact st_nil hf (th_n ⟨ha, rfl⟩)
        clear hf; intro a hf
        refine dr_take 21 (.bool ((gt (xx13.set (i16).toNat (q27.1, q27.2)) i16).2)) rfl (by kernel_rfl) (by kernel_rfl) (by kernel_rfl) (by kernel_rfl) rfl rfl hf (by decide) rfl (fun w hp => ?_) ⟨_, hp⟩ ?_
        · obtain ⟨_, hp⟩ := hp
          refine st_ldQ (F := Ek.bool) (yv := (gt (xx13.set (i16).toNat (q27.1, q27.2)) i16).2) hf (by decide) pl4 (fun x => .bool x) (fun _ _ h => h) rfl rfl (Sl.part (E := (Ek.pair Ek.c128 Ek.bool)) (F := Ek.bool) (o := 1) (Sub.snd (E := Ek.c128) (F := Ek.bool)) (rl41.sl hp) hc58.1 hc58.2) ?_
          clear hf; intro a ha hf
          exact st_nil hf (th_n ⟨ha, rfl⟩)
        clear hf; intro a hf
        refine dr_takeP 22 (.agg #[.complex .f64 (flb q48) (flb q56), .bool ((gt (xx13.set (i16).toNat (q27.1, q27.2)) i16).2)]) rfl (by kernel_rfl) (by kernel_rfl) (by kernel_rfl) rfl rfl hf (by decide) rfl (fun w => ?_) ?_
        · skip
          refine st_buildA (vals := [(0, .complex .f64 (flb q48) (flb q56)), (1, .bool ((gt (xx13.set (i16).toNat (q27.1, q27.2)) i16).2))]) (cells := [.complex .f64 (flb q48) (flb q56), .bool ((gt (xx13.set (i16).toNat (q27.1, q27.2)) i16).2)]) hf (by decide) rfl (by simp [hf.ev (x := (Operand.tmp 100)) rfl, hf.ev (x := (Operand.tmp 105)) rfl]) (fun w => by kernel_rfl) ?_
          clear hf; intro a ha hf
          exact st_nil hf (th_n ⟨ha, rfl⟩)
        clear hf; intro a hf
        refine dr_takeP 23 (eptr v17 i16 2) rfl (by kernel_rfl) (by kernel_rfl) (by kernel_rfl) rfl rfl hf (by decide) rfl (fun w => ?_) ?_
        · skip
          refine st_index (E := (Ek.pair Ek.c128 Ek.bool)) hf (by decide) Try.underlying27 elt35 rfl rfl rfl fx60 hc59.1 hc59.2 ?_
          clear hf; intro a ha hf
          exact st_nil hf (th_n ⟨ha, rfl⟩)
        clear hf; intro a hf
        refine dr_one 24 rfl (by kernel_rfl) ?_
        refine st_store (E := (Ek.pair Ek.c128 Ek.bool)) (x' := ((q48, q56), (gt (xx13.set (i16).toNat (q27.1, q27.2)) i16).2)) hf elt35 hp (i := 0) rfl rfl rfl rfl ⟨[.complex .f64 (flb q48) (flb q56)], [.bool ((gt (xx13.set (i16).toNat (q27.1, q27.2)) i16).2)], rfl, (show Ek.c128.rep [.complex .f64 (flb q48) (flb q56)] (q48, q56) from ⟨_, _, rfl, (farithS_rep hq49), (farithS_rep hq57)⟩), rfl⟩ hc59.1 hc59.2 ?_
        clear hf; intro a w hf hp0; clear hp; have hp := hp0; clear hp0
        replace hp : Hp _ _ _ (Res.sl (Ek.pair Ek.c128 Ek.bool) 35 v17 (far14.set (i16).toNat ((q48, q56), (gt (xx13.set (i16).toNat (q27.1, q27.2)) i16).2)) :: Res.obj 24 v7 [.int .i64 q5.1, .int .u32 q5.2.1, .int .u32 q5.2.2] :: ow) := hp
        refine st_nil hf (th_n ⟨fun _ _ => ⟨_, hp⟩, ?_⟩)
        refine dr_end (by kernel_rfl) ?_ _
        have hp := bk38 _ _ hp
        exact ⟨hf.sub ⟨rfl, rfl, rfl, rfl, rfl, rfl, rfl, rfl, rfl, rfl, trivial⟩, hp⟩
      rintro a w ⟨hf, hp⟩
      refine ib_n ?_
      refine th_n ?_
      refine wp_reg ?_
      refine st_move hf rfl rfl (by decide) ?_
      clear hf; intro a ha hf; clear ha
      refine st_iadd hf (by decide) rfl rfl rfl ?_
      clear hf; intro a ha hf; clear ha
      refine st_assign hf rfl rfl (by decide) ?_
      clear hf; intro a ha hf; clear ha
      refine st_nil hf ?_
      obtain rfl := Option.some.inj h
      exact rnd_l ⟨_, _, hf.sub ⟨rfl, rfl, rfl, rfl, rfl, rfl, rfl, rfl, rfl, rfl, trivial⟩, hp⟩
    replace h := ifF h hb
    refine wp_exit ?_
    refine th_e ?_
    obtain rfl := Option.some.inj h
    exact rnd_r (by simp) ⟨rfl, _, _, hf.sub ⟨rfl, rfl, rfl, rfl, rfl, rfl, rfl, rfl, trivial⟩, hp⟩
  clear hl hf hp
  intro e a w hne hO
  obtain ⟨rfl, v19, v21, hf, hp⟩ := hO
  refine ib_same ?_
  refine th_n ?_
  refine wp_seq ?_
  refine wp_seq ?_
  refine wp_reg ?_
  refine st_assign hf rfl rfl (by decide) ?_
  clear hf; intro a ha hf; clear ha
  refine st_nil hf ?_
  refine th_n ?_
  refine wp_block ?_
  obtain ⟨q112, hl, h⟩ := bnd h
  have hp : Hp _ _ _ (Res.obj 24 v7 [.int .i64 q5.1, .int .u32 q5.2.1, .int .u32 q5.2.2] :: Res.sl (Ek.pair Ek.c128 Ek.bool) 35 v19 q61.1 :: Res.sl (Ek.pair Ek.c128 Ek.bool) 35 v21 q61.2 :: ow) := Hp.sel (pre := [Res.sl (Ek.pair Ek.c128 Ek.bool) 35 v19 q61.1, Res.sl (Ek.pair Ek.c128 Ek.bool) 35 v21 q61.2, Res.obj 24 v7 [.int .i64 q5.1, .int .u32 q5.2.1, .int .u32 q5.2.2]]) (tail := ow) (rs' := [Res.obj 24 v7 [.int .i64 q5.1, .int .u32 q5.2.1, .int .u32 q5.2.2], Res.sl (Ek.pair Ek.c128 Ek.bool) 35 v19 q61.1, Res.sl (Ek.pair Ek.c128 Ek.bool) 35 v21 q61.2]) hp [2, 0, 1] (by decide) (by simp) rfl
  refine wp_loop_pure (f := (f_foghornlaw23_SoftTurns.s2 one1 two2 bits3 q5 q61)) (s := ((Fl.bits 0), (0 : Int))) (fun s a w => ∃ (bb62 : Nat), Fr 347 a [(1, .bool one1), (2, .bool two2), (3, vbits3), (11, optr v7 0), (12, .int .i64 (IntKind.i64.wrap ((IntKind.i64.wrap ((bits3.length : Int) + q5.1)) - (1 : Int)))), (13, v19), (14, v21), (15, .float .f64 bb62), (17, .int .i64 s.2)] ∧ Fl.rep bb62 s.1 ∧ Hp S w0 w (Res.obj 24 v7 [.int .i64 q5.1, .int .u32 q5.2.1, .int .u32 q5.2.2] :: Res.sl (Ek.pair Ek.c128 Ek.bool) 35 v19 q61.1 :: Res.sl (Ek.pair Ek.c128 Ek.bool) 35 v21 q61.2 :: ow)) (fun q e a w => match q with | (Sum.inl q) => e = .exit 2 ∧ ∃ (bb64 : Nat), Fr 347 a [(3, vbits3), (11, optr v7 0), (12, .int .i64 (IntKind.i64.wrap ((IntKind.i64.wrap ((bits3.length : Int) + q5.1)) - (1 : Int)))), (13, v19), (14, v21), (15, .float .f64 bb64)] ∧ Fl.rep bb64 q ∧ Hp S w0 w (Res.obj 24 v7 [.int .i64 q5.1, .int .u32 q5.2.1, .int .u32 q5.2.2] :: Res.sl (Ek.pair Ek.c128 Ek.bool) 35 v19 q61.1 :: Res.sl (Ek.pair Ek.c128 Ek.bool) 35 v21 q61.2 :: ow) | (Sum.inr q) => e = .ret ∧ Fr 347 a [(10, .bool q)] ∧ Hp S w0 w (ow)) ?_ hl ⟨_, hf.sub ⟨rfl, rfl, rfl, rfl, rfl, rfl, rfl, rfl, rfl, trivial⟩, rfl, hp⟩ ?_
  · clear hl hf hp
    intro s x a w h hI
    obtain ⟨there15, i17⟩ := s
    obtain ⟨bb62, hf, y63, hp⟩ : ∃ (bb62 : Nat), Fr 347 a [(1, .bool one1), (2, .bool two2), (3, vbits3), (11, optr v7 0), (12, .int .i64 (IntKind.i64.wrap ((IntKind.i64.wrap ((bits3.length : Int) + q5.1)) - (1 : Int)))), (13, v19), (14, v21), (15, .float .f64 bb62), (17, .int .i64 i17)] ∧ Fl.rep bb62 there15 ∧ Hp S w0 w (Res.obj 24 v7 [.int .i64 q5.1, .int .u32 q5.2.1, .int .u32 q5.2.2] :: Res.sl (Ek.pair Ek.c128 Ek.bool) 35 v19 q61.1 :: Res.sl (Ek.pair Ek.c128 Ek.bool) 35 v21 q61.2 :: ow) := hI
    replace h : f_foghornlaw23_SoftTurns.s2c one1 two2 bits3 q5 q61 there15 i17 = some x := h
    unfold f_foghornlaw23_SoftTurns.s2c at h
    refine wp_seq ?_
    refine wp_seq ?_
    refine wp_reg ?_
    refine st_move hf rfl rfl (by decide) ?_
    clear hf; intro a ha hf; clear ha
    refine st_move hf rfl rfl (by decide) ?_
    clear hf; intro a ha hf; clear ha
    refine st_ilss hf (by decide) rfl rfl rfl ?_
    clear hf; intro a ha hf; clear ha
    refine st_nil hf ?_
    refine th_n ?_
    refine wp_if hf rfl (fun hb => ?_) (fun hb => ?_)
    · replace h := ifT h hb
      refine wp_skip ?_
      refine th_n ?_
      refine wp_seq ?_
      refine wp_block ?_
      refine wp_seq_cut (fun a w => ∃ (there15 : Fl) (bb66 : Nat), f_foghornlaw23_SoftTurns.j1 one1 two2 q61 i17 there15 = some x ∧ Fr 347 a [(1, .bool one1), (2, .bool two2), (3, vbits3), (11, optr v7 0), (12, .int .i64 (IntKind.i64.wrap ((IntKind.i64.wrap ((bits3.length : Int) + q5.1)) - (1 : Int)))), (13, v19), (14, v21), (15, .float .f64 bb66), (17, .int .i64 i17)] ∧ Fl.rep bb66 there15 ∧ Hp S w0 w (Res.obj 24 v7 [.int .i64 q5.1, .int .u32 q5.2.1, .int .u32 q5.2.2] :: Res.sl (Ek.pair Ek.c128 Ek.bool) 35 v19 q61.1 :: Res.sl (Ek.pair Ek.c128 Ek.bool) 35 v21 q61.2 :: ow)) ?_ ?_
      · skip
        refine wp_seq ?_
        refine wp_reg ?_
        refine st_move hf rfl rfl (by decide) ?_
        clear hf; intro a ha hf; clear ha
        refine st_move hf rfl rfl (by decide) ?_
        clear hf; intro a ha hf; clear ha
        obtain ⟨hc109, h⟩ := chk h
        refine st_index (E := (Ek.pair Ek.c128 Ek.bool)) hf (by decide) Try.underlying27 elt35 rfl rfl rfl (hp.sl (i := 1) rfl) hc109.1 hc109.2 ?_
        clear hf; intro a ha hf; clear ha
        refine st_faP (off := 1) (sz := 1) hf (by decide) (by kernel_rfl) (by decide) rfl rfl (Sl.isP (hp.sl (i := 1) rfl) hc109.1 hc109.2) ?_
        clear hf; intro a ha hf; clear ha
        refine st_ldQ (F := Ek.bool) (yv := (gt q61.1 i17).2) hf (by decide) pl4 (fun x => .bool x) (fun _ _ h => h) rfl rfl (Sl.part (E := (Ek.pair Ek.c128 Ek.bool)) (F := Ek.bool) (o := 1) (Sub.snd (E := Ek.c128) (F := Ek.bool)) (hp.sl (i := 1) rfl) hc109.1 hc109.2) ?_
        clear hf; intro a ha hf; clear ha
        refine st_not hf (by decide) rfl rfl ?_
        clear hf; intro a ha hf; clear ha
        refine st_nil hf ?_
        refine th_n ?_
        refine wp_if hf rfl (fun hb => ?_) (fun hb => ?_)
        · replace h := ifT h hb
          refine wp_reg ?_
          refine st_move hf rfl rfl (by decide) ?_
          clear hf; intro a ha hf; clear ha
          refine st_farith (op := .add) rfl hf (by decide) hp rfl rfl rfl (show Fl.rep bb62 there15 from y63) (show Fl.rep 4607182418800017408 (Fl.bits 4607182418800017408) from rfl) ?_
          clear hf; intro a w bb110 y111 hf hp0; clear hp; have hp := hp0; clear hp0
          replace hp : Hp _ _ _ (Res.obj 24 v7 [.int .i64 q5.1, .int .u32 q5.2.1, .int .u32 q5.2.2] :: Res.sl (Ek.pair Ek.c128 Ek.bool) 35 v19 q61.1 :: Res.sl (Ek.pair Ek.c128 Ek.bool) 35 v21 q61.2 :: ow) := hp
          refine st_assign hf rfl rfl (by decide) ?_
          clear hf; intro a ha hf; clear ha
          refine st_nil hf ?_
          refine th_n ?_
          exact ⟨_, _, h, hf.sub ⟨rfl, rfl, rfl, rfl, rfl, rfl, rfl, rfl, rfl, trivial⟩, y111, hp⟩
        replace h := ifF h hb
        refine wp_skip ?_
        refine th_n ?_
        exact ⟨_, _, h, hf.sub ⟨rfl, rfl, rfl, rfl, rfl, rfl, rfl, rfl, rfl, trivial⟩, y63, hp⟩
      rintro a w ⟨there15, bb66, h, hf, y67, hp⟩
      unfold f_foghornlaw23_SoftTurns.j1 at h
      refine wp_seq ?_
      refine wp_reg ?_
      refine st_move hf rfl rfl (by decide) ?_
      clear hf; intro a ha hf; clear ha
      refine st_move hf rfl rfl (by decide) ?_
      clear hf; intro a ha hf; clear ha
      refine st_move hf rfl rfl (by decide) ?_
      clear hf; intro a ha hf; clear ha
      refine st_move hf rfl rfl (by decide) ?_
      clear hf; intro a ha hf; clear ha
      obtain ⟨hc68, h⟩ := chk h
      refine st_index (E := (Ek.pair Ek.c128 Ek.bool)) hf (by decide) Try.underlying27 elt35 rfl rfl rfl (hp.sl (i := 1) rfl) hc68.1 hc68.2 ?_
      clear hf; intro a ha hf; clear ha
      refine st_ldQA (F := (Ek.pair Ek.c128 Ek.bool)) (yv := (gt q61.1 i17)) (m := 2) hf (by decide) (by kernel_rfl) rfl rfl rfl (Part.whole (hp.sl (i := 1) rfl) hc68.1 hc68.2) ?_
      clear hf; intro a cs69 hr70 ha hf; clear ha
      obtain ⟨_, _, rfl, ⟨bb71, bb72, rfl, y73, y74⟩, rfl⟩ := hr70
      replace hf : Fr _ _ ((127, .agg #[.complex .f64 bb71 bb72, .bool ((gt q61.1 i17).2)]) :: _) := hf
      obtain ⟨q75, hcall76, h⟩ := bnd h
      refine st_call hf (by decide) Try.func11 rfl rfl rfl rfl rfl (f_soft_Cost_c hp _ _ _ _ _ (show Fl.rep bb71 ((gt q61.1 i17).1).1 from y73) (show Fl.rep bb72 ((gt q61.1 i17).1).2 from y74) _ hcall76) ?_
      rintro _ w ⟨v77, rfl, y78, hp0⟩
      clear hp; have hp := hp0; clear hp0
      replace hp : Hp _ _ _ (Res.obj 24 v7 [.int .i64 q5.1, .int .u32 q5.2.1, .int .u32 q5.2.2] :: Res.sl (Ek.pair Ek.c128 Ek.bool) 35 v19 q61.1 :: Res.sl (Ek.pair Ek.c128 Ek.bool) 35 v21 q61.2 :: ow) := hp
      refine ⟨_, rfl, ?_⟩
      clear hf; intro a hf
      refine st_move hf rfl rfl (by decide) ?_
      clear hf; intro a ha hf; clear ha
      refine st_extract hf (by decide) rfl rfl rfl ?_
      clear hf; intro a ha hf; clear ha
      refine st_extract hf (by decide) rfl rfl rfl ?_
      clear hf; intro a ha hf; clear ha
      refine st_assign hf rfl rfl (by decide) ?_
      clear hf; intro a ha hf; clear ha
      refine st_assign hf rfl rfl (by decide) ?_
      clear hf; intro a ha hf; clear ha
      refine st_nil hf ?_
      refine th_n ?_
      refine wp_seq ?_
      obtain ⟨S79, hp80, rd81, up82, bk83⟩ := Hp.lendS hp (i := 1) rfl
      have rl84 := ((hbits3.now hp).mono up82)
      have rl85 := rd81
      obtain ⟨hc86, h⟩ := chk h
      obtain ⟨bb88, bb89, y90, y91, hl87⟩ := RdS.pinPC (p := i17) (o := 0) (Sub.fst (E := Ek.c128) (F := Ek.bool)) rl85 hc86.1 hc86.2
      obtain ⟨hc92, h⟩ := chk h
      obtain ⟨bb94, bb95, y96, y97, hl93⟩ := RdS.pinPC (p := i17) (o := 0) (Sub.fst (E := Ek.c128) (F := Ek.bool)) rl85 hc92.1 hc92.2
      obtain ⟨hc100, h⟩ := chk h
      obtain ⟨q101, hcall102, h⟩ := bnd h
      refine wp_cutN (fun a w => ∃ (v103 : Nat), Fl.rep v103 q101.1 ∧ Fr 347 a [(1, .bool one1), (2, .bool two2), (3, vbits3), (11, optr v7 0), (12, .int .i64 (IntKind.i64.wrap ((IntKind.i64.wrap ((bits3.length : Int) + q5.1)) - (1 : Int)))), (13, v19), (14, v21), (15, .float .f64 bb66), (17, .int .i64 i17), (18, .float .f64 v77), (19, .int .i64 q75.2), (20, .float .f64 v103), (21, .int .i64 q101.2)] ∧ Hp S w0 w (Res.sl (Ek.pair Ek.c128 Ek.bool) 35 v19 q61.1 :: Res.obj 24 v7 [.int .i64 q5.1, .int .u32 q5.2.1, .int .u32 q5.2.2] :: Res.sl (Ek.pair Ek.c128 Ek.bool) 35 v21 q61.2 :: ow)) ?_ ?_
      · have hp := hp80.same (Same.drew w)
        refine dr_begin' (fun a w => ∃ (v103 : Nat), Fl.rep v103 q101.1 ∧ Fr 347 a [(1, .bool one1), (2, .bool two2), (3, vbits3), (11, optr v7 0), (12, .int .i64 (IntKind.i64.wrap ((IntKind.i64.wrap ((bits3.length : Int) + q5.1)) - (1 : Int)))), (13, v19), (14, v21), (15, .float .f64 bb66), (17, .int .i64 i17), (18, .float .f64 v77), (19, .int .i64 q75.2), (20, .float .f64 v103), (21, .int .i64 q101.2)] ∧ Hp S w0 w (Res.sl (Ek.pair Ek.c128 Ek.bool) 35 v19 q61.1 :: Res.obj 24 v7 [.int .i64 q5.1, .int .u32 q5.2.1, .int .u32 q5.2.2] :: Res.sl (Ek.pair Ek.c128 Ek.bool) 35 v21 q61.2 :: ow)) (fun w' => ∃ l, Hp S79 w w' l) [] (by kernel_rfl) ?_
        refine dr_take 0 (.bool one1) rfl (by kernel_rfl) (by kernel_rfl) (by kernel_rfl) (by kernel_rfl) rfl rfl hf (by decide) rfl (fun w hp => ?_) ⟨_, hp⟩ ?_
        · obtain ⟨_, hp⟩ := hp
          refine st_move hf rfl rfl (by decide) ?_
          clear hf; intro a ha hf
          exact st_nil hf (th_n ⟨ha, rfl⟩)
        clear hf; intro a hf
        refine dr_take 1 (.bool two2) rfl (by kernel_rfl) (by kernel_rfl) (by kernel_rfl) (by kernel_rfl) rfl rfl hf (by decide) rfl (fun w hp => ?_) ⟨_, hp⟩ ?_
        · obtain ⟨_, hp⟩ := hp
          refine st_move hf rfl rfl (by decide) ?_
          clear hf; intro a ha hf
          exact st_nil hf (th_n ⟨ha, rfl⟩)
        clear hf; intro a hf
        refine dr_take 2 (.bool (!two2)) rfl (by kernel_rfl) (by kernel_rfl) (by kernel_rfl) (by kernel_rfl) rfl rfl hf (by decide) rfl (fun w hp => ?_) ⟨_, hp⟩ ?_
        · obtain ⟨_, hp⟩ := hp
          refine st_not hf (by decide) rfl rfl ?_
          clear hf; intro a ha hf
          exact st_nil hf (th_n ⟨ha, rfl⟩)
        clear hf; intro a hf
        refine dr_take 3 (v19) rfl (by kernel_rfl) (by kernel_rfl) (by kernel_rfl) (by kernel_rfl) rfl rfl hf (by decide) rfl (fun w hp => ?_) ⟨_, hp⟩ ?_
        · obtain ⟨_, hp⟩ := hp
          refine st_move hf rfl rfl (by decide) ?_
          clear hf; intro a ha hf
          exact st_nil hf (th_n ⟨ha, rfl⟩)
        clear hf; intro a hf
        refine dr_take 4 (.int .i64 i17) rfl (by kernel_rfl) (by kernel_rfl) (by kernel_rfl) (by kernel_rfl) rfl rfl hf (by decide) rfl (fun w hp => ?_) ⟨_, hp⟩ ?_
        · obtain ⟨_, hp⟩ := hp
          refine st_move hf rfl rfl (by decide) ?_
          clear hf; intro a ha hf
          exact st_nil hf (th_n ⟨ha, rfl⟩)
        clear hf; intro a hf
        refine dr_take 5 (eptr v19 i17 2) rfl (by kernel_rfl) (by kernel_rfl) (by kernel_rfl) (by kernel_rfl) rfl rfl hf (by decide) rfl (fun w hp => ?_) ⟨_, hp⟩ ?_
        · obtain ⟨_, hp⟩ := hp
          refine st_index (E := (Ek.pair Ek.c128 Ek.bool)) hf (by decide) Try.underlying27 elt35 rfl rfl rfl (rl85.sl hp) hc86.1 hc86.2 ?_
          clear hf; intro a ha hf
          exact st_nil hf (th_n ⟨ha, rfl⟩)
        clear hf; intro a hf
        refine dr_take 6 (optr (eptr v19 i17 2) 0) rfl (by kernel_rfl) (by kernel_rfl) (by kernel_rfl) (by kernel_rfl) rfl rfl hf (by decide) rfl (fun w hp => ?_) ⟨_, hp⟩ ?_
        · obtain ⟨_, hp⟩ := hp
          refine st_faP (off := 0) (sz := 1) hf (by decide) (by kernel_rfl) (by decide) rfl rfl (Sl.isP (rl85.sl hp) hc86.1 hc86.2) ?_
          clear hf; intro a ha hf
          exact st_nil hf (th_n ⟨ha, rfl⟩)
        clear hf; intro a hf
        refine dr_take 7 (.complex .f64 bb88 bb89) rfl (by kernel_rfl) (by kernel_rfl) (by kernel_rfl) (by kernel_rfl) rfl rfl hf (by decide) rfl (fun w hp => ?_) ⟨_, hp⟩ ?_
        · obtain ⟨_, hp⟩ := hp
          refine st_ldP hf (by decide) pl33 rfl rfl (hl87 _ _ hp) ?_
          clear hf; intro a ha hf
          exact st_nil hf (th_n ⟨ha, rfl⟩)
        clear hf; intro a hf
        refine dr_take 8 (.float .f64 bb88) rfl (by kernel_rfl) (by kernel_rfl) (by kernel_rfl) (by kernel_rfl) rfl rfl hf (by decide) rfl (fun w hp => ?_) ⟨_, hp⟩ ?_
        · obtain ⟨_, hp⟩ := hp
          refine st_real hf (by decide) rfl rfl ?_
          clear hf; intro a ha hf
          exact st_nil hf (th_n ⟨ha, rfl⟩)
        clear hf; intro a hf
        refine dr_take 9 (v19) rfl (by kernel_rfl) (by kernel_rfl) (by kernel_rfl) (by kernel_rfl) rfl rfl hf (by decide) rfl (fun w hp => ?_) ⟨_, hp⟩ ?_
        · obtain ⟨_, hp⟩ := hp
          refine st_move hf rfl rfl (by decide) ?_
          clear hf; intro a ha hf
          exact st_nil hf (th_n ⟨ha, rfl⟩)
        clear hf; intro a hf
        refine dr_take 10 (.int .i64 i17) rfl (by kernel_rfl) (by kernel_rfl) (by kernel_rfl) (by kernel_rfl) rfl rfl hf (by decide) rfl (fun w hp => ?_) ⟨_, hp⟩ ?_
        · obtain ⟨_, hp⟩ := hp
          refine st_move hf rfl rfl (by decide) ?_
          clear hf; intro a ha hf
          exact st_nil hf (th_n ⟨ha, rfl⟩)
        clear hf; intro a hf
        refine dr_take 11 (eptr v19 i17 2) rfl (by kernel_rfl) (by kernel_rfl) (by kernel_rfl) (by kernel_rfl) rfl rfl hf (by decide) rfl (fun w hp => ?_) ⟨_, hp⟩ ?_
        · obtain ⟨_, hp⟩ := hp
          refine st_index (E := (Ek.pair Ek.c128 Ek.bool)) hf (by decide) Try.underlying27 elt35 rfl rfl rfl (rl85.sl hp) hc92.1 hc92.2 ?_
          clear hf; intro a ha hf
          exact st_nil hf (th_n ⟨ha, rfl⟩)
        clear hf; intro a hf
        refine dr_take 12 (optr (eptr v19 i17 2) 0) rfl (by kernel_rfl) (by kernel_rfl) (by kernel_rfl) (by kernel_rfl) rfl rfl hf (by decide) rfl (fun w hp => ?_) ⟨_, hp⟩ ?_
        · obtain ⟨_, hp⟩ := hp
          refine st_faP (off := 0) (sz := 1) hf (by decide) (by kernel_rfl) (by decide) rfl rfl (Sl.isP (rl85.sl hp) hc92.1 hc92.2) ?_
          clear hf; intro a ha hf
          exact st_nil hf (th_n ⟨ha, rfl⟩)
        clear hf; intro a hf
        refine dr_take 13 (.complex .f64 bb94 bb95) rfl (by kernel_rfl) (by kernel_rfl) (by kernel_rfl) (by kernel_rfl) rfl rfl hf (by decide) rfl (fun w hp => ?_) ⟨_, hp⟩ ?_
        · obtain ⟨_, hp⟩ := hp
          refine st_ldP hf (by decide) pl33 rfl rfl (hl93 _ _ hp) ?_
          clear hf; intro a ha hf
          exact st_nil hf (th_n ⟨ha, rfl⟩)
        clear hf; intro a hf
        refine dr_take 14 (.float .f64 bb95) rfl (by kernel_rfl) (by kernel_rfl) (by kernel_rfl) (by kernel_rfl) rfl rfl hf (by decide) rfl (fun w hp => ?_) ⟨_, hp⟩ ?_
        · obtain ⟨_, hp⟩ := hp
          refine st_imag hf (by decide) rfl rfl ?_
          clear hf; intro a ha hf
          exact st_nil hf (th_n ⟨ha, rfl⟩)
        clear hf; intro a hf
        refine dr_take 17 (v19) rfl (by kernel_rfl) (by kernel_rfl) (by kernel_rfl) (by kernel_rfl) rfl rfl hf (by decide) rfl (fun w hp => ?_) ⟨_, hp⟩ ?_
        · obtain ⟨_, hp⟩ := hp
          refine st_move hf rfl rfl (by decide) ?_
          clear hf; intro a ha hf
          exact st_nil hf (th_n ⟨ha, rfl⟩)
        clear hf; intro a hf
        refine dr_take 18 (.int .i64 i17) rfl (by kernel_rfl) (by kernel_rfl) (by kernel_rfl) (by kernel_rfl) rfl rfl hf (by decide) rfl (fun w hp => ?_) ⟨_, hp⟩ ?_
        · obtain ⟨_, hp⟩ := hp
          refine st_move hf rfl rfl (by decide) ?_
          clear hf; intro a ha hf
          exact st_nil hf (th_n ⟨ha, rfl⟩)
        clear hf; intro a hf
        refine dr_take 19 (eptr v19 i17 2) rfl (by kernel_rfl) (by kernel_rfl) (by kernel_rfl) (by kernel_rfl) rfl rfl hf (by decide) rfl (fun w hp => ?_) ⟨_, hp⟩ ?_
        · obtain ⟨_, hp⟩ := hp
          refine st_index (E := (Ek.pair Ek.c128 Ek.bool)) hf (by decide) Try.underlying27 elt35 rfl rfl rfl (rl85.sl hp) hc100.1 hc100.2 ?_
          clear hf; intro a ha hf
          exact st_nil hf (th_n ⟨ha, rfl⟩)
        clear hf; intro a hf
        refine dr_take 20 (optr (eptr v19 i17 2) 1) rfl (by kernel_rfl) (by kernel_rfl) (by kernel_rfl) (by kernel_rfl) rfl rfl hf (by decide) rfl (fun w hp => ?_) ⟨_, hp⟩ ?_
        · obtain ⟨_, hp⟩ := hp
          refine st_faP (off := 1) (sz := 1) hf (by decide) (by kernel_rfl) (by decide) rfl rfl (Sl.isP (rl85.sl hp) hc100.1 hc100.2) ?_
          clear hf; intro a ha hf
          exact st_nil hf (th_n ⟨ha, rfl⟩)
        clear hf; intro a hf
        refine dr_take 21 (.bool ((gt q61.1 i17).2)) rfl (by kernel_rfl) (by kernel_rfl) (by kernel_rfl) (by kernel_rfl) rfl rfl hf (by decide) rfl (fun w hp => ?_) ⟨_, hp⟩ ?_
        · obtain ⟨_, hp⟩ := hp
          refine st_ldQ (F := Ek.bool) (yv := (gt q61.1 i17).2) hf (by decide) pl4 (fun x => .bool x) (fun _ _ h => h) rfl rfl (Sl.part (E := (Ek.pair Ek.c128 Ek.bool)) (F := Ek.bool) (o := 1) (Sub.snd (E := Ek.c128) (F := Ek.bool)) (rl85.sl hp) hc100.1 hc100.2) ?_
          clear hf; intro a ha hf
          exact st_nil hf (th_n ⟨ha, rfl⟩)
        clear hf; intro a hf
        refine dr_one 15 rfl (by kernel_rfl) ?_
        refine st_farith (op := .sub) rfl hf (by decide) hp rfl rfl rfl (show Fl.rep 0 (Fl.bits 0) from rfl) (show Fl.rep bb95 ((gt q61.1 i17).1.2) from y97) ?_
        clear hf; intro a w bb98 y99 hf hp0; clear hp; have hp := hp0; clear hp0
        replace hp : Hp _ _ _ (Res.obj 24 v7 [.int .i64 q5.1, .int .u32 q5.2.1, .int .u32 q5.2.2] :: Res.sl (Ek.pair Ek.c128 Ek.bool) 35 v21 q61.2 :: ow) := hp
        refine st_nil hf (th_n ⟨fun _ _ => ⟨_, hp⟩, ?_⟩)
        refine dr_take 16 (.complex .f64 bb88 bb98) rfl (by kernel_rfl) (by kernel_rfl) (by kernel_rfl) (by kernel_rfl) rfl rfl hf (by decide) rfl (fun w hp => ?_) ⟨_, hp⟩ ?_
        · obtain ⟨_, hp⟩ := hp
          refine st_complex hf (by decide) rfl rfl rfl ?_
          clear hf; intro a ha hf
          exact st_nil hf (th_n ⟨ha, rfl⟩)
        clear hf; intro a hf
        refine dr_take 22 (.agg #[.complex .f64 bb88 bb98, .bool ((gt q61.1 i17).2)]) rfl (by kernel_rfl) (by kernel_rfl) (by kernel_rfl) (by kernel_rfl) rfl rfl hf (by decide) rfl (fun w hp => ?_) ⟨_, hp⟩ ?_
        · obtain ⟨_, hp⟩ := hp
          refine st_buildA (vals := [(0, .complex .f64 bb88 bb98), (1, .bool ((gt q61.1 i17).2))]) (cells := [.complex .f64 bb88 bb98, .bool ((gt q61.1 i17).2)]) hf (by decide) rfl (by simp [hf.ev (x := (Operand.tmp 148)) rfl, hf.ev (x := (Operand.tmp 153)) rfl]) (fun w => by kernel_rfl) ?_
          clear hf; intro a ha hf
          exact st_nil hf (th_n ⟨ha, rfl⟩)
        clear hf; intro a hf
        refine dr_one 23 rfl (by kernel_rfl) ?_
        refine st_call hf (by decide) Try.func11 rfl rfl rfl rfl rfl (f_soft_Cost_c hp _ _ _ _ _ (show Fl.rep bb88 (((gt q61.1 i17).1.1, (fsub (Fl.bits 0) ((gt q61.1 i17).1.2)))).1 from y90) (show Fl.rep bb98 (((gt q61.1 i17).1.1, (fsub (Fl.bits 0) ((gt q61.1 i17).1.2)))).2 from y99) _ hcall102) ?_
        rintro _ w ⟨v103, rfl, y104, hp0⟩
        clear hp; have hp := hp0; clear hp0
        replace hp : Hp _ _ _ (Res.obj 24 v7 [.int .i64 q5.1, .int .u32 q5.2.1, .int .u32 q5.2.2] :: Res.sl (Ek.pair Ek.c128 Ek.bool) 35 v21 q61.2 :: ow) := hp
        refine ⟨_, rfl, ?_⟩
        clear hf; intro a hf
        refine st_nil hf (th_n ⟨fun _ _ => ⟨_, hp⟩, ?_⟩)
        refine dr_take 24 (.tuple #[.float .f64 v103, .int .i64 q101.2]) rfl (by kernel_rfl) (by kernel_rfl) (by kernel_rfl) (by kernel_rfl) rfl rfl hf (by decide) rfl (fun w hp => ?_) ⟨_, hp⟩ ?_
        · obtain ⟨_, hp⟩ := hp
          refine st_move hf rfl rfl (by decide) ?_
          clear hf; intro a ha hf
          exact st_nil hf (th_n ⟨ha, rfl⟩)
        clear hf; intro a hf
        refine dr_take 25 (.float .f64 v103) rfl (by kernel_rfl) (by kernel_rfl) (by kernel_rfl) (by kernel_rfl) rfl rfl hf (by decide) rfl (fun w hp => ?_) ⟨_, hp⟩ ?_
        · obtain ⟨_, hp⟩ := hp
          refine st_extract hf (by decide) rfl rfl rfl ?_
          clear hf; intro a ha hf
          exact st_nil hf (th_n ⟨ha, rfl⟩)
        clear hf; intro a hf
        refine dr_take 26 (.int .i64 q101.2) rfl (by kernel_rfl) (by kernel_rfl) (by kernel_rfl) (by kernel_rfl) rfl rfl hf (by decide) rfl (fun w hp => ?_) ⟨_, hp⟩ ?_
        · obtain ⟨_, hp⟩ := hp
          refine st_extract hf (by decide) rfl rfl rfl ?_
          clear hf; intro a ha hf
          exact st_nil hf (th_n ⟨ha, rfl⟩)
        clear hf; intro a hf
        refine dr_take 27 (.float .f64 v103) rfl (by kernel_rfl) (by kernel_rfl) (by kernel_rfl) (by kernel_rfl) rfl rfl hf (by decide) rfl (fun w hp => ?_) ⟨_, hp⟩ ?_
        · obtain ⟨_, hp⟩ := hp
          refine st_assign hf rfl rfl (by decide) ?_
          clear hf; intro a ha hf
          exact st_nil hf (th_n ⟨ha, rfl⟩)
        clear hf; intro a hf
        refine dr_take 28 (.int .i64 q101.2) rfl (by kernel_rfl) (by kernel_rfl) (by kernel_rfl) (by kernel_rfl) rfl rfl hf (by decide) rfl (fun w hp => ?_) ⟨_, hp⟩ ?_
        · obtain ⟨_, hp⟩ := hp
          refine st_assign hf rfl rfl (by decide) ?_
          clear hf; intro a ha hf
          exact st_nil hf (th_n ⟨ha, rfl⟩)
        clear hf; intro a hf
        refine dr_end (by kernel_rfl) ?_ _
        have hp := bk83 _ _ hp
        exact ⟨v103, y104, hf.sub ⟨rfl, rfl, rfl, rfl, rfl, rfl, rfl, rfl, rfl, rfl, rfl, rfl, rfl, trivial⟩, hp⟩
      rintro a w ⟨v103, y104, hf, hp⟩
      refine th_n ?_
      refine wp_seq ?_
      refine wp_reg ?_
      refine st_move hf rfl rfl (by decide) ?_
      clear hf; intro a ha hf; clear ha
      refine st_ineq hf (by decide) rfl rfl rfl ?_
      clear hf; intro a ha hf; clear ha
      refine st_move hf rfl rfl (by decide) ?_
      clear hf; intro a ha hf; clear ha
      refine wpList_cut 3 (fun a w => Fr 347 a [(1, .bool one1), (2, .bool two2), (3, vbits3), (11, optr v7 0), (12, .int .i64 (IntKind.i64.wrap ((IntKind.i64.wrap ((bits3.length : Int) + q5.1)) - (1 : Int)))), (13, v19), (14, v21), (15, .float .f64 bb66), (17, .int .i64 i17), (18, .float .f64 v77), (20, .float .f64 v103), (163, .bool ((q75.2 != (0 : Int)) || (q101.2 != (0 : Int))))] ∧ Hp S w0 w (Res.sl (Ek.pair Ek.c128 Ek.bool) 35 v19 q61.1 :: Res.obj 24 v7 [.int .i64 q5.1, .int .u32 q5.2.1, .int .u32 q5.2.2] :: Res.sl (Ek.pair Ek.c128 Ek.bool) 35 v21 q61.2 :: ow)) ?_ ?_
      · rcases Bool.eq_false_or_eq_true (q75.2 != (0 : Int)) with hb106 | hb106
        · skip
          refine st_skip hf (wantN hf rfl rfl hb106) rfl (by decide) ?_ rfl
          clear hf; intro a hf
          refine st_skip hf (wantN hf rfl rfl hb106) rfl (by decide) ?_ rfl
          clear hf; intro a hf
          refine st_pick (v := .bool true) hf rfl rfl (fun hb' => ?_) (fun hb' => ?_) (by decide) ?_
          · rfl
          · exact absurd (hb106.symm.trans hb') (by decide)
          clear hf; intro a ha hf; clear ha
          refine st_nil hf (th_n ?_)
          exact ⟨hf.sub ⟨rfl, rfl, rfl, rfl, rfl, rfl, rfl, rfl, rfl, rfl, rfl, (by rw [hb106]; rfl), trivial⟩, hp⟩
        refine st_move hf (wantY hf rfl rfl hb106) rfl (by decide) ?_
        clear hf; intro a ha hf; clear ha
        refine st_ineq hf (by decide) (wantY hf rfl rfl hb106) rfl rfl ?_
        clear hf; intro a ha hf; clear ha
        refine st_pick (v := .bool (q101.2 != (0 : Int))) hf rfl rfl (fun hb' => ?_) (fun hb' => ?_) (by decide) ?_
        · exact absurd (hb106.symm.trans hb') (by decide)
        · rfl
        clear hf; intro a ha hf; clear ha
        refine st_nil hf (th_n ?_)
        exact ⟨hf.sub ⟨rfl, rfl, rfl, rfl, rfl, rfl, rfl, rfl, rfl, rfl, rfl, (by rw [hb106]; rfl), trivial⟩, hp⟩
      rintro a w ⟨hf, hp⟩
      refine st_move hf rfl rfl (by decide) ?_
      clear hf; intro a ha hf; clear ha
      refine wpList_cut 4 (fun a w => Fr 347 a [(1, .bool one1), (2, .bool two2), (3, vbits3), (11, optr v7 0), (12, .int .i64 (IntKind.i64.wrap ((IntKind.i64.wrap ((bits3.length : Int) + q5.1)) - (1 : Int)))), (13, v19), (14, v21), (15, .float .f64 bb66), (17, .int .i64 i17), (168, .bool (((q75.2 != (0 : Int)) || (q101.2 != (0 : Int))) || (fne q75.1 q101.1)))] ∧ Hp S w0 w (Res.sl (Ek.pair Ek.c128 Ek.bool) 35 v19 q61.1 :: Res.obj 24 v7 [.int .i64 q5.1, .int .u32 q5.2.1, .int .u32 q5.2.2] :: Res.sl (Ek.pair Ek.c128 Ek.bool) 35 v21 q61.2 :: ow)) ?_ ?_
      · rcases Bool.eq_false_or_eq_true ((q75.2 != (0 : Int)) || (q101.2 != (0 : Int))) with hb108 | hb108
        · skip
          refine st_skip hf (wantN hf rfl rfl hb108) rfl (by decide) ?_ rfl
          clear hf; intro a hf
          refine st_skip hf (wantN hf rfl rfl hb108) rfl (by decide) ?_ rfl
          clear hf; intro a hf
          refine st_skip hf (wantN hf rfl rfl hb108) rfl (by decide) ?_ rfl
          clear hf; intro a hf
          refine st_pick (v := .bool true) hf rfl rfl (fun hb' => ?_) (fun hb' => ?_) (by decide) ?_
          · rfl
          · exact absurd (hb108.symm.trans hb') (by decide)
          clear hf; intro a ha hf; clear ha
          refine st_nil hf (th_n ?_)
          exact ⟨hf.sub ⟨rfl, rfl, rfl, rfl, rfl, rfl, rfl, rfl, rfl, (by rw [hb108]; rfl), trivial⟩, hp⟩
        refine st_move hf (wantY hf rfl rfl hb108) rfl (by decide) ?_
        clear hf; intro a ha hf; clear ha
        refine st_move hf (wantY hf rfl rfl hb108) rfl (by decide) ?_
        clear hf; intro a ha hf; clear ha
        refine st_fcmp (r_fne (fx := q75.1) (fy := q101.1) y78 y104) hf (by decide) (wantY hf rfl rfl hb108) rfl rfl ?_
        clear hf; intro a ha hf; clear ha
        refine st_pick (v := .bool (fne q75.1 q101.1)) hf rfl rfl (fun hb' => ?_) (fun hb' => ?_) (by decide) ?_
        · exact absurd (hb108.symm.trans hb') (by decide)
        · rfl
        clear hf; intro a ha hf; clear ha
        refine st_nil hf (th_n ?_)
        exact ⟨hf.sub ⟨rfl, rfl, rfl, rfl, rfl, rfl, rfl, rfl, rfl, (by rw [hb108]; rfl), trivial⟩, hp⟩
      rintro a w ⟨hf, hp⟩
      refine st_nil hf ?_
      refine th_n ?_
      refine wp_if hf rfl (fun hb => ?_) (fun hb => ?_)
      · replace h := ifT h hb
        refine wp_seq ?_
        refine wp_reg ?_
        refine st_assign hf rfl rfl (by decide) ?_
        clear hf; intro a ha hf; clear ha
        refine st_nil hf ?_
        refine th_n ?_
        refine wp_ret ?_
        refine ib_r ?_
        refine th_r ?_
        obtain rfl := Option.some.inj h
        have hp : Hp _ _ _ (ow) := Hp.sel (pre := [Res.sl (Ek.pair Ek.c128 Ek.bool) 35 v19 q61.1, Res.obj 24 v7 [.int .i64 q5.1, .int .u32 q5.2.1, .int .u32 q5.2.2], Res.sl (Ek.pair Ek.c128 Ek.bool) 35 v21 q61.2]) (tail := ow) (rs' := []) hp [] (by decide) (by simp) rfl
        exact rnd_r (by simp) ⟨rfl, ⟨hf.sub ⟨rfl, trivial⟩, hp⟩⟩
      replace h := ifF h hb
      refine wp_skip ?_
      refine ib_n ?_
      refine th_n ?_
      refine wp_reg ?_
      refine st_move hf rfl rfl (by decide) ?_
      clear hf; intro a ha hf; clear ha
      refine st_iadd hf (by decide) rfl rfl rfl ?_
      clear hf; intro a ha hf; clear ha
      refine st_assign hf rfl rfl (by decide) ?_
      clear hf; intro a ha hf; clear ha
      refine st_nil hf ?_
      obtain rfl := Option.some.inj h
      have hp : Hp _ _ _ (Res.obj 24 v7 [.int .i64 q5.1, .int .u32 q5.2.1, .int .u32 q5.2.2] :: Res.sl (Ek.pair Ek.c128 Ek.bool) 35 v19 q61.1 :: Res.sl (Ek.pair Ek.c128 Ek.bool) 35 v21 q61.2 :: ow) := Hp.sel (pre := [Res.sl (Ek.pair Ek.c128 Ek.bool) 35 v19 q61.1, Res.obj 24 v7 [.int .i64 q5.1, .int .u32 q5.2.1, .int .u32 q5.2.2], Res.sl (Ek.pair Ek.c128 Ek.bool) 35 v21 q61.2]) (tail := ow) (rs' := [Res.obj 24 v7 [.int .i64 q5.1, .int .u32 q5.2.1, .int .u32 q5.2.2], Res.sl (Ek.pair Ek.c128 Ek.bool) 35 v19 q61.1, Res.sl (Ek.pair Ek.c128 Ek.bool) 35 v21 q61.2]) hp [1, 0, 2] (by decide) (by simp) rfl
      exact rnd_l ⟨_, hf.sub ⟨rfl, rfl, rfl, rfl, rfl, rfl, rfl, rfl, rfl, trivial⟩, y67, hp⟩
    replace h := ifF h hb
    refine wp_exit ?_
    refine th_e ?_
    obtain rfl := Option.some.inj h
    exact rnd_r (by simp) ⟨rfl, _, hf.sub ⟨rfl, rfl, rfl, rfl, rfl, rfl, trivial⟩, y63, hp⟩
  clear hl hf hp
  intro e a w hne hO
  rcases q112 with q113 | q114
  · replace h := smL h
    obtain ⟨rfl, bb64, hf, y65, hp⟩ := hO
    refine ib_same ?_
    refine th_n ?_
    refine wp_seq ?_
    refine wp_reg ?_
    refine st_ldOA (m := 3) (us := [.int .i64 q5.1, .int .u32 q5.2.1, .int .u32 q5.2.2]) hf (by decide) (by kernel_rfl) rfl rfl (hp.ob (i := 0) rfl) rfl rfl ?_
    clear hf; intro a ha hf; clear ha
    obtain ⟨q115, hcall116, h⟩ := bnd h
    refine st_call hf (by decide) Try.func14 rfl rfl rfl rfl rfl (f_foghornlaw23_code_c hp _ _ _ hcall116) ?_
    rintro _ w ⟨rfl, hp0⟩
    clear hp; have hp := hp0; clear hp0
    replace hp : Hp _ _ _ (Res.obj 24 v7 [.int .i64 q5.1, .int .u32 q5.2.1, .int .u32 q5.2.2] :: Res.sl (Ek.pair Ek.c128 Ek.bool) 35 v19 q61.1 :: Res.sl (Ek.pair Ek.c128 Ek.bool) 35 v21 q61.2 :: ow) := hp
    refine ⟨_, rfl, ?_⟩
    clear hf; intro a hf
    refine st_move hf rfl rfl (by decide) ?_
    clear hf; intro a ha hf; clear ha
    refine st_move hf rfl rfl (by decide) ?_
    clear hf; intro a ha hf; clear ha
    obtain ⟨q117, hcall118, h⟩ := bnd h
    obtain ⟨S119, hp120, rd121, up122, bk123⟩ := Hp.lendS hp (i := 1) rfl
    refine st_call hf (by decide) Try.func18 rfl rfl rfl rfl rfl (f_soft_Path_c hp120 _ _ _ _ _ ((hbits3.now hp).mono up122) _ _ rd121 hcall118) ?_
    rintro _ w ⟨v124, rfl, y125, hp0⟩
    have hp0 := bk123 _ _ hp0
    clear hp; have hp := hp0; clear hp0
    replace hp : Hp _ _ _ (Res.sl (Ek.pair Ek.c128 Ek.bool) 35 v19 q61.1 :: Res.obj 24 v7 [.int .i64 q5.1, .int .u32 q5.2.1, .int .u32 q5.2.2] :: Res.sl (Ek.pair Ek.c128 Ek.bool) 35 v21 q61.2 :: ow) := hp
    refine ⟨_, rfl, ?_⟩
    clear hf; intro a hf
    refine st_move hf rfl rfl (by decide) ?_
    clear hf; intro a ha hf; clear ha
    refine st_extract hf (by decide) rfl rfl rfl ?_
    clear hf; intro a ha hf; clear ha
    refine st_extract hf (by decide) rfl rfl rfl ?_
    clear hf; intro a ha hf; clear ha
    refine st_assign hf rfl rfl (by decide) ?_
    clear hf; intro a ha hf; clear ha
    refine st_assign hf rfl rfl (by decide) ?_
    clear hf; intro a ha hf; clear ha
    refine st_nil hf ?_
    refine th_n ?_
    refine wp_seq ?_
    refine wp_reg ?_
    refine st_ldOA (m := 3) (us := [.int .i64 q5.1, .int .u32 q5.2.1, .int .u32 q5.2.2]) hf (by decide) (by kernel_rfl) rfl rfl (hp.ob (i := 1) rfl) rfl rfl ?_
    clear hf; intro a ha hf; clear ha
    obtain ⟨q126, hcall127, h⟩ := bnd h
    refine st_call hf (by decide) Try.func14 rfl rfl rfl rfl rfl (f_foghornlaw23_code_c hp _ _ _ hcall127) ?_
    rintro _ w ⟨rfl, hp0⟩
    clear hp; have hp := hp0; clear hp0
    replace hp : Hp _ _ _ (Res.sl (Ek.pair Ek.c128 Ek.bool) 35 v19 q61.1 :: Res.obj 24 v7 [.int .i64 q5.1, .int .u32 q5.2.1, .int .u32 q5.2.2] :: Res.sl (Ek.pair Ek.c128 Ek.bool) 35 v21 q61.2 :: ow) := hp
    refine ⟨_, rfl, ?_⟩
    clear hf; intro a hf
    refine st_move hf rfl rfl (by decide) ?_
    clear hf; intro a ha hf; clear ha
    refine st_move hf rfl rfl (by decide) ?_
    clear hf; intro a ha hf; clear ha
    obtain ⟨q128, hcall129, h⟩ := bnd h
    obtain ⟨S130, hp131, rd132, up133, bk134⟩ := Hp.lendS hp (i := 2) rfl
    refine st_call hf (by decide) Try.func18 rfl rfl rfl rfl rfl (f_soft_Path_c hp131 _ _ _ _ _ ((hbits3.now hp).mono up133) _ _ rd132 hcall129) ?_
    rintro _ w ⟨v135, rfl, y136, hp0⟩
    have hp0 := bk134 _ _ hp0
    clear hp; have hp := hp0; clear hp0
    replace hp : Hp _ _ _ (Res.sl (Ek.pair Ek.c128 Ek.bool) 35 v21 q61.2 :: Res.sl (Ek.pair Ek.c128 Ek.bool) 35 v19 q61.1 :: Res.obj 24 v7 [.int .i64 q5.1, .int .u32 q5.2.1, .int .u32 q5.2.2] :: ow) := hp
    refine ⟨_, rfl, ?_⟩
    clear hf; intro a hf
    refine st_move hf rfl rfl (by decide) ?_
    clear hf; intro a ha hf; clear ha
    refine st_extract hf (by decide) rfl rfl rfl ?_
    clear hf; intro a ha hf; clear ha
    refine st_extract hf (by decide) rfl rfl rfl ?_
    clear hf; intro a ha hf; clear ha
    refine st_assign hf rfl rfl (by decide) ?_
    clear hf; intro a ha hf; clear ha
    refine st_assign hf rfl rfl (by decide) ?_
    clear hf; intro a ha hf; clear ha
    refine st_nil hf ?_
    refine th_n ?_
    refine wp_seq ?_
    refine wp_seq ?_
    refine wp_reg ?_
    refine st_move hf rfl rfl (by decide) ?_
    clear hf; intro a ha hf; clear ha
    refine st_ineq hf (by decide) rfl rfl rfl ?_
    clear hf; intro a ha hf; clear ha
    refine st_move hf rfl rfl (by decide) ?_
    clear hf; intro a ha hf; clear ha
    refine wpList_cut 3 (fun a w => Fr 347 a [(11, optr v7 0), (12, .int .i64 (IntKind.i64.wrap ((IntKind.i64.wrap ((bits3.length : Int) + q5.1)) - (1 : Int)))), (13, v19), (15, .float .f64 bb64), (22, .float .f64 v124), (24, .float .f64 v135), (190, .bool ((q117.2 != (0 : Int)) || (q128.2 != (0 : Int))))] ∧ Hp S w0 w (Res.sl (Ek.pair Ek.c128 Ek.bool) 35 v21 q61.2 :: Res.sl (Ek.pair Ek.c128 Ek.bool) 35 v19 q61.1 :: Res.obj 24 v7 [.int .i64 q5.1, .int .u32 q5.2.1, .int .u32 q5.2.2] :: ow)) ?_ ?_
    · rcases Bool.eq_false_or_eq_true (q117.2 != (0 : Int)) with hb138 | hb138
      · skip
        refine st_skip hf (wantN hf rfl rfl hb138) rfl (by decide) ?_ rfl
        clear hf; intro a hf
        refine st_skip hf (wantN hf rfl rfl hb138) rfl (by decide) ?_ rfl
        clear hf; intro a hf
        refine st_pick (v := .bool true) hf rfl rfl (fun hb' => ?_) (fun hb' => ?_) (by decide) ?_
        · rfl
        · exact absurd (hb138.symm.trans hb') (by decide)
        clear hf; intro a ha hf; clear ha
        refine st_nil hf (th_n ?_)
        exact ⟨hf.sub ⟨rfl, rfl, rfl, rfl, rfl, rfl, (by rw [hb138]; rfl), trivial⟩, hp⟩
      refine st_move hf (wantY hf rfl rfl hb138) rfl (by decide) ?_
      clear hf; intro a ha hf; clear ha
      refine st_ineq hf (by decide) (wantY hf rfl rfl hb138) rfl rfl ?_
      clear hf; intro a ha hf; clear ha
      refine st_pick (v := .bool (q128.2 != (0 : Int))) hf rfl rfl (fun hb' => ?_) (fun hb' => ?_) (by decide) ?_
      · exact absurd (hb138.symm.trans hb') (by decide)
      · rfl
      clear hf; intro a ha hf; clear ha
      refine st_nil hf (th_n ?_)
      exact ⟨hf.sub ⟨rfl, rfl, rfl, rfl, rfl, rfl, (by rw [hb138]; rfl), trivial⟩, hp⟩
    rintro a w ⟨hf, hp⟩
    refine st_move hf rfl rfl (by decide) ?_
    clear hf; intro a ha hf; clear ha
    refine wpList_cut 8 (fun a w => Fr 347 a [(11, optr v7 0), (12, .int .i64 (IntKind.i64.wrap ((IntKind.i64.wrap ((bits3.length : Int) + q5.1)) - (1 : Int)))), (13, v19), (199, .bool (((q117.2 != (0 : Int)) || (q128.2 != (0 : Int))) || (fne q128.1 (fsub (fmul (Fl.bits 4611686018427387904) q117.1) (fmul (Fl.bits 4611686018427387904) q113)))))] ∧ Hp S w0 w (Res.sl (Ek.pair Ek.c128 Ek.bool) 35 v21 q61.2 :: Res.sl (Ek.pair Ek.c128 Ek.bool) 35 v19 q61.1 :: Res.obj 24 v7 [.int .i64 q5.1, .int .u32 q5.2.1, .int .u32 q5.2.2] :: ow)) ?_ ?_
    · rcases Bool.eq_false_or_eq_true ((q117.2 != (0 : Int)) || (q128.2 != (0 : Int))) with hb140 | hb140
      · skip
        refine st_skip hf (wantN hf rfl rfl hb140) rfl (by decide) ?_ rfl
        clear hf; intro a hf
        refine st_skip hf (wantN hf rfl rfl hb140) rfl (by decide) ?_ rfl
        clear hf; intro a hf
        refine st_skip hf (wantN hf rfl rfl hb140) rfl (by decide) ?_ rfl
        clear hf; intro a hf
        refine st_skip hf (wantN hf rfl rfl hb140) rfl (by decide) ?_ rfl
        clear hf; intro a hf
        refine st_skip hf (wantN hf rfl rfl hb140) rfl (by decide) ?_ rfl
        clear hf; intro a hf
        refine st_skip hf (wantN hf rfl rfl hb140) rfl (by decide) ?_ rfl
        clear hf; intro a hf
        refine st_skip hf (wantN hf rfl rfl hb140) rfl (by decide) ?_ rfl
        clear hf; intro a hf
        refine st_pick (v := .bool true) hf rfl rfl (fun hb' => ?_) (fun hb' => ?_) (by decide) ?_
        · rfl
        · exact absurd (hb140.symm.trans hb') (by decide)
        clear hf; intro a ha hf; clear ha
        refine st_nil hf (th_n ?_)
        exact ⟨hf.sub ⟨rfl, rfl, rfl, (by rw [hb140]; rfl), trivial⟩, hp⟩
      refine st_move hf (wantY hf rfl rfl hb140) rfl (by decide) ?_
      clear hf; intro a ha hf; clear ha
      refine st_move hf (wantY hf rfl rfl hb140) rfl (by decide) ?_
      clear hf; intro a ha hf; clear ha
      refine st_farith (op := .mul) rfl hf (by decide) hp (wantY hf rfl rfl hb140) rfl rfl (show Fl.rep 4611686018427387904 (Fl.bits 4611686018427387904) from rfl) (show Fl.rep v124 q117.1 from y125) ?_
      clear hf; intro a w bb141 y142 hf hp0; clear hp; have hp := hp0; clear hp0
      replace hp : Hp _ _ _ (Res.sl (Ek.pair Ek.c128 Ek.bool) 35 v21 q61.2 :: Res.sl (Ek.pair Ek.c128 Ek.bool) 35 v19 q61.1 :: Res.obj 24 v7 [.int .i64 q5.1, .int .u32 q5.2.1, .int .u32 q5.2.2] :: ow) := hp
      refine st_move hf (wantY hf rfl rfl hb140) rfl (by decide) ?_
      clear hf; intro a ha hf; clear ha
      refine st_farith (op := .mul) rfl hf (by decide) hp (wantY hf rfl rfl hb140) rfl rfl (show Fl.rep 4611686018427387904 (Fl.bits 4611686018427387904) from rfl) (show Fl.rep bb64 q113 from y65) ?_
      clear hf; intro a w bb143 y144 hf hp0; clear hp; have hp := hp0; clear hp0
      replace hp : Hp _ _ _ (Res.sl (Ek.pair Ek.c128 Ek.bool) 35 v21 q61.2 :: Res.sl (Ek.pair Ek.c128 Ek.bool) 35 v19 q61.1 :: Res.obj 24 v7 [.int .i64 q5.1, .int .u32 q5.2.1, .int .u32 q5.2.2] :: ow) := hp
      refine st_farith (op := .sub) rfl hf (by decide) hp (wantY hf rfl rfl hb140) rfl rfl (show Fl.rep bb141 (fmul (Fl.bits 4611686018427387904) q117.1) from y142) (show Fl.rep bb143 (fmul (Fl.bits 4611686018427387904) q113) from y144) ?_
      clear hf; intro a w bb145 y146 hf hp0; clear hp; have hp := hp0; clear hp0
      replace hp : Hp _ _ _ (Res.sl (Ek.pair Ek.c128 Ek.bool) 35 v21 q61.2 :: Res.sl (Ek.pair Ek.c128 Ek.bool) 35 v19 q61.1 :: Res.obj 24 v7 [.int .i64 q5.1, .int .u32 q5.2.1, .int .u32 q5.2.2] :: ow) := hp
      refine st_fcmp (r_fne (fx := q128.1) (fy := (fsub (fmul (Fl.bits 4611686018427387904) q117.1) (fmul (Fl.bits 4611686018427387904) q113))) y136 y146) hf (by decide) (wantY hf rfl rfl hb140) rfl rfl ?_
      clear hf; intro a ha hf; clear ha
      refine st_pick (v := .bool (fne q128.1 (fsub (fmul (Fl.bits 4611686018427387904) q117.1) (fmul (Fl.bits 4611686018427387904) q113)))) hf rfl rfl (fun hb' => ?_) (fun hb' => ?_) (by decide) ?_
      · exact absurd (hb140.symm.trans hb') (by decide)
      · rfl
      clear hf; intro a ha hf; clear ha
      refine st_nil hf (th_n ?_)
      exact ⟨hf.sub ⟨rfl, rfl, rfl, (by rw [hb140]; rfl), trivial⟩, hp⟩
    rintro a w ⟨hf, hp⟩
    refine st_nil hf ?_
    refine th_n ?_
    refine wp_if hf rfl (fun hb => ?_) (fun hb => ?_)
    · replace h := ifT h hb
      refine wp_seq ?_
      refine wp_reg ?_
      refine st_assign hf rfl rfl (by decide) ?_
      clear hf; intro a ha hf; clear ha
      refine st_nil hf ?_
      refine th_n ?_
      refine wp_ret ?_
      refine th_r ?_
      obtain rfl := Option.some.inj h
      have hp : Hp _ _ _ (ow) := Hp.sel (pre := [Res.sl (Ek.pair Ek.c128 Ek.bool) 35 v21 q61.2, Res.sl (Ek.pair Ek.c128 Ek.bool) 35 v19 q61.1, Res.obj 24 v7 [.int .i64 q5.1, .int .u32 q5.2.1, .int .u32 q5.2.2]]) (tail := ow) (rs' := []) hp [] (by decide) (by simp) rfl
      exact ⟨rfl, ⟨hf.sub ⟨rfl, trivial⟩, hp⟩⟩
    replace h := ifF h hb
    refine wp_skip ?_
    refine th_n ?_
    refine wp_seq ?_
    refine wp_reg ?_
    refine st_ldOA (m := 3) (us := [.int .i64 q5.1, .int .u32 q5.2.1, .int .u32 q5.2.2]) hf (by decide) (by kernel_rfl) rfl rfl (hp.ob (i := 2) rfl) rfl rfl ?_
    clear hf; intro a ha hf; clear ha
    obtain ⟨q147, hcall148, h⟩ := bnd h
    refine st_call hf (by decide) Try.func14 rfl rfl rfl rfl rfl (f_foghornlaw23_code_c hp _ _ _ hcall148) ?_
    rintro _ w ⟨rfl, hp0⟩
    clear hp; have hp := hp0; clear hp0
    replace hp : Hp _ _ _ (Res.sl (Ek.pair Ek.c128 Ek.bool) 35 v21 q61.2 :: Res.sl (Ek.pair Ek.c128 Ek.bool) 35 v19 q61.1 :: Res.obj 24 v7 [.int .i64 q5.1, .int .u32 q5.2.1, .int .u32 q5.2.2] :: ow) := hp
    refine ⟨_, rfl, ?_⟩
    clear hf; intro a hf
    refine st_move hf rfl rfl (by decide) ?_
    clear hf; intro a ha hf; clear ha
    obtain ⟨q149, hcall150, h⟩ := bnd h
    obtain ⟨S151, hp152, rd153, up154, bk155⟩ := Hp.lendS hp (i := 1) rfl
    refine st_call hf (by decide) Try.func21 rfl rfl rfl rfl rfl (f_soft_Decode_c hp152 _ _ _ _ _ rd153 hcall150) ?_
    rintro _ w ⟨v156, v157, rfl, y158, hp0⟩
    have hp0 := bk155 _ _ hp0
    clear hp; have hp := hp0; clear hp0
    replace hp : Hp _ _ _ (Res.sl (Ek.pair Ek.c128 Ek.bool) 35 v19 q61.1 :: Res.sl Ek.bool 4 v156 q149.1 :: Res.sl (Ek.pair Ek.c128 Ek.bool) 35 v21 q61.2 :: Res.obj 24 v7 [.int .i64 q5.1, .int .u32 q5.2.1, .int .u32 q5.2.2] :: ow) := hp
    refine ⟨_, rfl, ?_⟩
    clear hf; intro a hf
    refine st_move hf rfl rfl (by decide) ?_
    clear hf; intro a ha hf; clear ha
    refine st_extract hf (by decide) rfl rfl rfl ?_
    clear hf; intro a ha hf; clear ha
    refine st_extract hf (by decide) rfl rfl rfl ?_
    clear hf; intro a ha hf; clear ha
    refine st_extract hf (by decide) rfl rfl rfl ?_
    clear hf; intro a ha hf; clear ha
    refine st_assign hf rfl rfl (by decide) ?_
    clear hf; intro a ha hf; clear ha
    refine st_assign hf rfl rfl (by decide) ?_
    clear hf; intro a ha hf; clear ha
    refine st_assign hf rfl rfl (by decide) ?_
    clear hf; intro a ha hf; clear ha
    refine st_nil hf ?_
    refine th_n ?_
    refine wp_seq ?_
    refine wp_reg ?_
    refine st_ldOA (m := 3) (us := [.int .i64 q5.1, .int .u32 q5.2.1, .int .u32 q5.2.2]) hf (by decide) (by kernel_rfl) rfl rfl (hp.ob (i := 3) rfl) rfl rfl ?_
    clear hf; intro a ha hf; clear ha
    obtain ⟨q160, hcall161, h⟩ := bnd h
    refine st_call hf (by decide) Try.func14 rfl rfl rfl rfl rfl (f_foghornlaw23_code_c hp _ _ _ hcall161) ?_
    rintro _ w ⟨rfl, hp0⟩
    clear hp; have hp := hp0; clear hp0
    replace hp : Hp _ _ _ (Res.sl (Ek.pair Ek.c128 Ek.bool) 35 v19 q61.1 :: Res.sl Ek.bool 4 v156 q149.1 :: Res.sl (Ek.pair Ek.c128 Ek.bool) 35 v21 q61.2 :: Res.obj 24 v7 [.int .i64 q5.1, .int .u32 q5.2.1, .int .u32 q5.2.2] :: ow) := hp
    refine ⟨_, rfl, ?_⟩
    clear hf; intro a hf
    refine st_move hf rfl rfl (by decide) ?_
    clear hf; intro a ha hf; clear ha
    obtain ⟨q162, hcall163, h⟩ := bnd h
    obtain ⟨S164, hp165, rd166, up167, bk168⟩ := Hp.lendS hp (i := 0) rfl
    refine st_call hf (by decide) Try.func22 rfl rfl rfl rfl rfl (f_soft_Ends_c hp165 _ _ _ _ _ rd166 hcall163) ?_
    rintro _ w ⟨v169, rfl, hp0⟩
    have hp0 := bk168 _ _ hp0
    clear hp; have hp := hp0; clear hp0
    replace hp : Hp _ _ _ (Res.sl (Ek.pair Ek.c128 Ek.bool) 35 v19 q61.1 :: Res.sl Ek.f64 29 v169 q162.1 :: Res.sl Ek.bool 4 v156 q149.1 :: Res.sl (Ek.pair Ek.c128 Ek.bool) 35 v21 q61.2 :: Res.obj 24 v7 [.int .i64 q5.1, .int .u32 q5.2.1, .int .u32 q5.2.2] :: ow) := hp
    refine ⟨_, rfl, ?_⟩
    clear hf; intro a hf
    refine st_move hf rfl rfl (by decide) ?_
    clear hf; intro a ha hf; clear ha
    refine st_extract hf (by decide) rfl rfl rfl ?_
    clear hf; intro a ha hf; clear ha
    refine st_extract hf (by decide) rfl rfl rfl ?_
    clear hf; intro a ha hf; clear ha
    refine st_assign hf rfl rfl (by decide) ?_
    clear hf; intro a ha hf; clear ha
    refine st_assign hf rfl rfl (by decide) ?_
    clear hf; intro a ha hf; clear ha
    refine st_nil hf ?_
    refine th_n ?_
    refine wp_seq ?_
    refine wp_seq ?_
    refine wp_reg ?_
    refine st_move hf rfl rfl (by decide) ?_
    clear hf; intro a ha hf; clear ha
    refine st_ineq hf (by decide) rfl rfl rfl ?_
    clear hf; intro a ha hf; clear ha
    refine st_move hf rfl rfl (by decide) ?_
    clear hf; intro a ha hf; clear ha
    refine wpList_cut 3 (fun a w => Fr 347 a [(11, optr v7 0), (12, .int .i64 (IntKind.i64.wrap ((IntKind.i64.wrap ((bits3.length : Int) + q5.1)) - (1 : Int)))), (13, v19), (27, .float .f64 v157), (29, v169), (220, .bool ((q149.2.2 != (0 : Int)) || (q162.2 != (0 : Int))))] ∧ Hp S w0 w (Res.sl (Ek.pair Ek.c128 Ek.bool) 35 v19 q61.1 :: Res.sl Ek.f64 29 v169 q162.1 :: Res.sl Ek.bool 4 v156 q149.1 :: Res.sl (Ek.pair Ek.c128 Ek.bool) 35 v21 q61.2 :: Res.obj 24 v7 [.int .i64 q5.1, .int .u32 q5.2.1, .int .u32 q5.2.2] :: ow)) ?_ ?_
    · rcases Bool.eq_false_or_eq_true (q149.2.2 != (0 : Int)) with hb172 | hb172
      · skip
        refine st_skip hf (wantN hf rfl rfl hb172) rfl (by decide) ?_ rfl
        clear hf; intro a hf
        refine st_skip hf (wantN hf rfl rfl hb172) rfl (by decide) ?_ rfl
        clear hf; intro a hf
        refine st_pick (v := .bool true) hf rfl rfl (fun hb' => ?_) (fun hb' => ?_) (by decide) ?_
        · rfl
        · exact absurd (hb172.symm.trans hb') (by decide)
        clear hf; intro a ha hf; clear ha
        refine st_nil hf (th_n ?_)
        exact ⟨hf.sub ⟨rfl, rfl, rfl, rfl, rfl, (by rw [hb172]; rfl), trivial⟩, hp⟩
      refine st_move hf (wantY hf rfl rfl hb172) rfl (by decide) ?_
      clear hf; intro a ha hf; clear ha
      refine st_ineq hf (by decide) (wantY hf rfl rfl hb172) rfl rfl ?_
      clear hf; intro a ha hf; clear ha
      refine st_pick (v := .bool (q162.2 != (0 : Int))) hf rfl rfl (fun hb' => ?_) (fun hb' => ?_) (by decide) ?_
      · exact absurd (hb172.symm.trans hb') (by decide)
      · rfl
      clear hf; intro a ha hf; clear ha
      refine st_nil hf (th_n ?_)
      exact ⟨hf.sub ⟨rfl, rfl, rfl, rfl, rfl, (by rw [hb172]; rfl), trivial⟩, hp⟩
    rintro a w ⟨hf, hp⟩
    refine st_move hf rfl rfl (by decide) ?_
    clear hf; intro a ha hf; clear ha
    obtain ⟨z175, hz173, h⟩ := bnd h
    refine wpList_cut 8 (fun a w => Fr 347 a [(11, optr v7 0), (12, .int .i64 (IntKind.i64.wrap ((IntKind.i64.wrap ((bits3.length : Int) + q5.1)) - (1 : Int)))), (13, v19), (27, .float .f64 v157), (29, v169), (229, .bool z175)] ∧ Hp S w0 w (Res.sl (Ek.pair Ek.c128 Ek.bool) 35 v19 q61.1 :: Res.sl Ek.f64 29 v169 q162.1 :: Res.sl Ek.bool 4 v156 q149.1 :: Res.sl (Ek.pair Ek.c128 Ek.bool) 35 v21 q61.2 :: Res.obj 24 v7 [.int .i64 q5.1, .int .u32 q5.2.1, .int .u32 q5.2.2] :: ow)) ?_ ?_
    · rcases Bool.eq_false_or_eq_true ((q149.2.2 != (0 : Int)) || (q162.2 != (0 : Int))) with hb174 | hb174
      · skip
        replace hz173 := ifT hz173 hb174
        refine st_skip hf (wantN hf rfl rfl hb174) rfl (by decide) ?_ rfl
        clear hf; intro a hf
        refine st_skip hf (wantN hf rfl rfl hb174) rfl (by decide) ?_ rfl
        clear hf; intro a hf
        refine st_skip hf (wantN hf rfl rfl hb174) rfl (by decide) ?_ rfl
        clear hf; intro a hf
        refine st_skip hf (wantN hf rfl rfl hb174) rfl (by decide) ?_ rfl
        clear hf; intro a hf
        refine st_skip hf (wantN hf rfl rfl hb174) rfl (by decide) ?_ rfl
        clear hf; intro a hf
        refine st_skip hf (wantN hf rfl rfl hb174) rfl (by decide) ?_ rfl
        clear hf; intro a hf
        refine st_skip hf (wantN hf rfl rfl hb174) rfl (by decide) ?_ rfl
        clear hf; intro a hf
        obtain rfl := Option.some.inj hz173
        refine st_pick (v := .bool true) hf rfl rfl (fun hb' => ?_) (fun hb' => ?_) (by decide) ?_
        · rfl
        · exact absurd (hb174.symm.trans hb') (by decide)
        clear hf; intro a ha hf; clear ha
        refine st_nil hf (th_n ?_)
        exact ⟨hf.sub ⟨rfl, rfl, rfl, rfl, rfl, rfl, trivial⟩, hp⟩
      replace hz173 := ifF hz173 hb174
      refine st_move hf (wantY hf rfl rfl hb174) rfl (by decide) ?_
      clear hf; intro a ha hf; clear ha
      refine st_len (E := Ek.f64) hf (by decide) Try.underlying50 (wantY hf rfl rfl hb174) rfl (hp.sl (i := 1) rfl) ?_
      clear hf; intro a ha hf; clear ha
      refine st_fa (o' := 0) hf (by decide) (off := 0) (sz := 1) (by kernel_rfl) (by decide) (wantY hf rfl rfl hb174) rfl (hp.ob (i := 4) rfl) rfl ?_
      clear hf; intro a ha hf; clear ha
      refine st_ldO (u := .int .i64 q5.1) hf (by decide) pl3 (wantY hf rfl rfl hb174) rfl (hp.ob (i := 4) rfl) rfl ?_
      clear hf; intro a ha hf; clear ha
      refine st_isub hf (by decide) (wantY hf rfl rfl hb174) rfl rfl ?_
      clear hf; intro a ha hf; clear ha
      obtain ⟨hc176, hz173⟩ := chk hz173
      refine st_ishl hf (by decide) (wantY hf rfl rfl hb174) rfl rfl hc176 ?_
      clear hf; intro a ha hf; clear ha
      refine st_ineq hf (by decide) (wantY hf rfl rfl hb174) rfl rfl ?_
      clear hf; intro a ha hf; clear ha
      obtain rfl := Option.some.inj hz173
      refine st_pick (v := .bool ((q162.1.length : Int) != (ishl .i64 (1 : Int) (IntKind.i64.wrap (q5.1 - (1 : Int)))))) hf rfl rfl (fun hb' => ?_) (fun hb' => ?_) (by decide) ?_
      · exact absurd (hb174.symm.trans hb') (by decide)
      · rfl
      clear hf; intro a ha hf; clear ha
      refine st_nil hf (th_n ?_)
      exact ⟨hf.sub ⟨rfl, rfl, rfl, rfl, rfl, rfl, trivial⟩, hp⟩
    rintro a w ⟨hf, hp⟩
    refine st_nil hf ?_
    refine th_n ?_
    refine wp_if hf rfl (fun hb => ?_) (fun hb => ?_)
    · replace h := ifT h hb
      refine wp_seq ?_
      refine wp_reg ?_
      refine st_assign hf rfl rfl (by decide) ?_
      clear hf; intro a ha hf; clear ha
      refine st_nil hf ?_
      refine th_n ?_
      refine wp_ret ?_
      refine th_r ?_
      obtain rfl := Option.some.inj h
      have hp : Hp _ _ _ (ow) := Hp.sel (pre := [Res.sl (Ek.pair Ek.c128 Ek.bool) 35 v19 q61.1, Res.sl Ek.f64 29 v169 q162.1, Res.sl Ek.bool 4 v156 q149.1, Res.sl (Ek.pair Ek.c128 Ek.bool) 35 v21 q61.2, Res.obj 24 v7 [.int .i64 q5.1, .int .u32 q5.2.1, .int .u32 q5.2.2]]) (tail := ow) (rs' := []) hp [] (by decide) (by simp) rfl
      exact ⟨rfl, ⟨hf.sub ⟨rfl, trivial⟩, hp⟩⟩
    replace h := ifF h hb
    refine wp_skip ?_
    refine th_n ?_
    refine wp_seq ?_
    refine wp_reg ?_
    refine st_move hf rfl rfl (by decide) ?_
    clear hf; intro a ha hf; clear ha
    obtain ⟨hc177, h⟩ := chk h
    refine st_index (E := Ek.f64) hf (by decide) Try.underlying50 elt29 rfl rfl rfl (hp.sl (i := 1) rfl) hc177.1 hc177.2 ?_
    clear hf; intro a ha hf; clear ha
    refine st_ldF hf (by decide) pl29 rfl rfl (hp.sl (i := 1) rfl) hc177.1 hc177.2 ?_
    clear hf; intro a bb178 y179 ha hf; clear ha
    refine st_assign hf rfl rfl (by decide) ?_
    clear hf; intro a ha hf; clear ha
    refine st_nil hf ?_
    refine th_n ?_
    refine wp_seq ?_
    refine wp_seq ?_
    refine wp_reg ?_
    refine st_assign hf rfl rfl (by decide) ?_
    clear hf; intro a ha hf; clear ha
    refine st_nil hf ?_
    refine th_n ?_
    refine wp_block ?_
    obtain ⟨q189, hl, h⟩ := bnd h
    have hp : Hp _ _ _ (Res.obj 24 v7 [.int .i64 q5.1, .int .u32 q5.2.1, .int .u32 q5.2.2] :: Res.sl (Ek.pair Ek.c128 Ek.bool) 35 v19 q61.1 :: Res.sl Ek.f64 29 v169 q162.1 :: ow) := Hp.sel (pre := [Res.sl (Ek.pair Ek.c128 Ek.bool) 35 v19 q61.1, Res.sl Ek.f64 29 v169 q162.1, Res.sl Ek.bool 4 v156 q149.1, Res.sl (Ek.pair Ek.c128 Ek.bool) 35 v21 q61.2, Res.obj 24 v7 [.int .i64 q5.1, .int .u32 q5.2.1, .int .u32 q5.2.2]]) (tail := ow) (rs' := [Res.obj 24 v7 [.int .i64 q5.1, .int .u32 q5.2.1, .int .u32 q5.2.2], Res.sl (Ek.pair Ek.c128 Ek.bool) 35 v19 q61.1, Res.sl Ek.f64 29 v169 q162.1]) hp [4, 0, 1] (by decide) (by simp) rfl
    refine wp_loop_pure (f := (f_foghornlaw23_SoftTurns.s3 q162)) (s := ((gt q162.1 (0 : Int)), (1 : Int))) (fun s a w => ∃ (bb180 : Nat), Fr 347 a [(11, optr v7 0), (12, .int .i64 (IntKind.i64.wrap ((IntKind.i64.wrap ((bits3.length : Int) + q5.1)) - (1 : Int)))), (13, v19), (27, .float .f64 v157), (29, v169), (31, .float .f64 bb180), (32, .int .i64 s.2)] ∧ Fl.rep bb180 s.1 ∧ Hp S w0 w (Res.obj 24 v7 [.int .i64 q5.1, .int .u32 q5.2.1, .int .u32 q5.2.2] :: Res.sl (Ek.pair Ek.c128 Ek.bool) 35 v19 q61.1 :: Res.sl Ek.f64 29 v169 q162.1 :: ow)) (fun q e a w => e = .exit 4 ∧ ∃ (bb182 : Nat), Fr 347 a [(11, optr v7 0), (12, .int .i64 (IntKind.i64.wrap ((IntKind.i64.wrap ((bits3.length : Int) + q5.1)) - (1 : Int)))), (13, v19), (27, .float .f64 v157), (29, v169), (31, .float .f64 bb182)] ∧ Fl.rep bb182 q ∧ Hp S w0 w (Res.obj 24 v7 [.int .i64 q5.1, .int .u32 q5.2.1, .int .u32 q5.2.2] :: Res.sl (Ek.pair Ek.c128 Ek.bool) 35 v19 q61.1 :: Res.sl Ek.f64 29 v169 q162.1 :: ow)) ?_ hl ⟨_, hf.sub ⟨rfl, rfl, rfl, rfl, rfl, rfl, rfl, trivial⟩, y179, hp⟩ ?_
    · clear hl hf hp
      intro s x a w h hI
      obtain ⟨low31, sx32⟩ := s
      obtain ⟨bb180, hf, y181, hp⟩ : ∃ (bb180 : Nat), Fr 347 a [(11, optr v7 0), (12, .int .i64 (IntKind.i64.wrap ((IntKind.i64.wrap ((bits3.length : Int) + q5.1)) - (1 : Int)))), (13, v19), (27, .float .f64 v157), (29, v169), (31, .float .f64 bb180), (32, .int .i64 sx32)] ∧ Fl.rep bb180 low31 ∧ Hp S w0 w (Res.obj 24 v7 [.int .i64 q5.1, .int .u32 q5.2.1, .int .u32 q5.2.2] :: Res.sl (Ek.pair Ek.c128 Ek.bool) 35 v19 q61.1 :: Res.sl Ek.f64 29 v169 q162.1 :: ow) := hI
      replace h : f_foghornlaw23_SoftTurns.s3c q162 low31 sx32 = some x := h
      unfold f_foghornlaw23_SoftTurns.s3c at h
      refine wp_seq ?_
      refine wp_seq ?_
      refine wp_reg ?_
      refine st_move hf rfl rfl (by decide) ?_
      clear hf; intro a ha hf; clear ha
      refine st_move hf rfl rfl (by decide) ?_
      clear hf; intro a ha hf; clear ha
      refine st_len (E := Ek.f64) hf (by decide) Try.underlying50 rfl rfl (hp.sl (i := 2) rfl) ?_
      clear hf; intro a ha hf; clear ha
      refine st_ilss hf (by decide) rfl rfl rfl ?_
      clear hf; intro a ha hf; clear ha
      refine st_nil hf ?_
      refine th_n ?_
      refine wp_if hf rfl (fun hb => ?_) (fun hb => ?_)
      · replace h := ifT h hb
        refine wp_skip ?_
        refine th_n ?_
        refine wp_seq ?_
        refine wp_block ?_
        refine wp_reg ?_
        refine st_move hf rfl rfl (by decide) ?_
        clear hf; intro a ha hf; clear ha
        refine st_move hf rfl rfl (by decide) ?_
        clear hf; intro a ha hf; clear ha
        refine st_move hf rfl rfl (by decide) ?_
        clear hf; intro a ha hf; clear ha
        obtain ⟨hc184, h⟩ := chk h
        refine st_index (E := Ek.f64) hf (by decide) Try.underlying50 elt29 rfl rfl rfl (hp.sl (i := 2) rfl) hc184.1 hc184.2 ?_
        clear hf; intro a ha hf; clear ha
        refine st_ldF hf (by decide) pl29 rfl rfl (hp.sl (i := 2) rfl) hc184.1 hc184.2 ?_
        clear hf; intro a bb185 y186 ha hf; clear ha
        obtain ⟨q187, hq188, h⟩ := bnd h
        refine st_fminS (fx := low31) (fy := (gt q162.1 sx32)) hf (by decide) rfl rfl rfl y181 y186 hq188 ?_
        clear hf; intro a ha hf; clear ha
        refine st_assign hf rfl rfl (by decide) ?_
        clear hf; intro a ha hf; clear ha
        refine st_nil hf ?_
        refine ib_n ?_
        refine th_n ?_
        refine wp_reg ?_
        refine st_move hf rfl rfl (by decide) ?_
        clear hf; intro a ha hf; clear ha
        refine st_iadd hf (by decide) rfl rfl rfl ?_
        clear hf; intro a ha hf; clear ha
        refine st_assign hf rfl rfl (by decide) ?_
        clear hf; intro a ha hf; clear ha
        refine st_nil hf ?_
        obtain rfl := Option.some.inj h
        exact rnd_l ⟨_, hf.sub ⟨rfl, rfl, rfl, rfl, rfl, rfl, rfl, trivial⟩, (fminS_rep hq188), hp⟩
      replace h := ifF h hb
      refine wp_exit ?_
      refine th_e ?_
      obtain rfl := Option.some.inj h
      exact rnd_r (by simp) ⟨rfl, _, hf.sub ⟨rfl, rfl, rfl, rfl, rfl, rfl, trivial⟩, y181, hp⟩
    clear hl hf hp
    intro e a w hne hO
    obtain ⟨rfl, bb182, hf, y183, hp⟩ := hO
    refine ib_same ?_
    refine th_n ?_
    refine wp_seq ?_
    refine wp_seq ?_
    refine wp_reg ?_
    refine st_move hf rfl rfl (by decide) ?_
    clear hf; intro a ha hf; clear ha
    refine st_move hf rfl rfl (by decide) ?_
    clear hf; intro a ha hf; clear ha
    refine st_fcmp (r_fgt (fx := q189) (fy := q149.2.1) y183 y158) hf (by decide) rfl rfl rfl ?_
    clear hf; intro a ha hf; clear ha
    refine st_move hf rfl rfl (by decide) ?_
    clear hf; intro a ha hf; clear ha
    refine wpList_cut 3 (fun a w => Fr 347 a [(11, optr v7 0), (12, .int .i64 (IntKind.i64.wrap ((IntKind.i64.wrap ((bits3.length : Int) + q5.1)) - (1 : Int)))), (13, v19), (27, .float .f64 v157), (29, v169), (31, .float .f64 bb182), (251, .bool ((fgt q189 q149.2.1) || ((IntKind.i64.wrap ((IntKind.i64.wrap ((bits3.length : Int) + q5.1)) - (1 : Int))) == (0 : Int))))] ∧ Hp S w0 w (Res.obj 24 v7 [.int .i64 q5.1, .int .u32 q5.2.1, .int .u32 q5.2.2] :: Res.sl (Ek.pair Ek.c128 Ek.bool) 35 v19 q61.1 :: Res.sl Ek.f64 29 v169 q162.1 :: ow)) ?_ ?_
    · rcases Bool.eq_false_or_eq_true (fgt q189 q149.2.1) with hb191 | hb191
      · skip
        refine st_skip hf (wantN hf rfl rfl hb191) rfl (by decide) ?_ rfl
        clear hf; intro a hf
        refine st_skip hf (wantN hf rfl rfl hb191) rfl (by decide) ?_ rfl
        clear hf; intro a hf
        refine st_pick (v := .bool true) hf rfl rfl (fun hb' => ?_) (fun hb' => ?_) (by decide) ?_
        · rfl
        · exact absurd (hb191.symm.trans hb') (by decide)
        clear hf; intro a ha hf; clear ha
        refine st_nil hf (th_n ?_)
        exact ⟨hf.sub ⟨rfl, rfl, rfl, rfl, rfl, rfl, (by rw [hb191]; rfl), trivial⟩, hp⟩
      refine st_move hf (wantY hf rfl rfl hb191) rfl (by decide) ?_
      clear hf; intro a ha hf; clear ha
      refine st_ieql hf (by decide) (wantY hf rfl rfl hb191) rfl rfl ?_
      clear hf; intro a ha hf; clear ha
      refine st_pick (v := .bool ((IntKind.i64.wrap ((IntKind.i64.wrap ((bits3.length : Int) + q5.1)) - (1 : Int))) == (0 : Int))) hf rfl rfl (fun hb' => ?_) (fun hb' => ?_) (by decide) ?_
      · exact absurd (hb191.symm.trans hb') (by decide)
      · rfl
      clear hf; intro a ha hf; clear ha
      refine st_nil hf (th_n ?_)
      exact ⟨hf.sub ⟨rfl, rfl, rfl, rfl, rfl, rfl, (by rw [hb191]; rfl), trivial⟩, hp⟩
    rintro a w ⟨hf, hp⟩
    refine st_nil hf ?_
    refine th_n ?_
    refine wp_if hf rfl (fun hb => ?_) (fun hb => ?_)
    · replace h := ifT h hb
      refine wp_seq ?_
      refine wp_reg ?_
      refine st_move hf rfl rfl (by decide) ?_
      clear hf; intro a ha hf; clear ha
      refine st_move hf rfl rfl (by decide) ?_
      clear hf; intro a ha hf; clear ha
      refine st_fcmp (r_fle (fx := q189) (fy := q149.2.1) y183 y158) hf (by decide) rfl rfl rfl ?_
      clear hf; intro a ha hf; clear ha
      refine st_assign hf rfl rfl (by decide) ?_
      clear hf; intro a ha hf; clear ha
      refine st_nil hf ?_
      refine th_n ?_
      refine wp_ret ?_
      refine th_r ?_
      obtain rfl := Option.some.inj h
      have hp : Hp _ _ _ (ow) := Hp.sel (pre := [Res.obj 24 v7 [.int .i64 q5.1, .int .u32 q5.2.1, .int .u32 q5.2.2], Res.sl (Ek.pair Ek.c128 Ek.bool) 35 v19 q61.1, Res.sl Ek.f64 29 v169 q162.1]) (tail := ow) (rs' := []) hp [] (by decide) (by simp) rfl
      exact ⟨rfl, ⟨hf.sub ⟨rfl, trivial⟩, hp⟩⟩
    replace h := ifF h hb
    refine wp_skip ?_
    refine th_n ?_
    refine wp_seq ?_
    obtain ⟨S192, hp193, rd194, up195, bk196⟩ := Hp.lendO hp (i := 0) rfl
    obtain ⟨S197, hp198, rd199, up200, bk201⟩ := Hp.lendS hp193 (i := 0) rfl
    have rl202 := ((rd194.now hp193).mono up200)
    have rl203 := rd199
    obtain ⟨q204, hcall205, h⟩ := bnd h
    obtain ⟨hc206, h⟩ := chk h
    have hc207 : 0 ≤ ((IntKind.i64.wrap ((IntKind.i64.wrap ((IntKind.i64.wrap ((bits3.length : Int) + q5.1)) - (1 : Int))) - (1 : Int)))).toNat := by omega
    have hc208 : ((IntKind.i64.wrap ((IntKind.i64.wrap ((IntKind.i64.wrap ((bits3.length : Int) + q5.1)) - (1 : Int))) - (1 : Int)))).toNat ≤ q61.1.length := by omega
    obtain ⟨q209, hcall210, h⟩ := bnd h
    refine wp_cutN (fun a w => ∃ (v211 : Value), Fr 347 a [(11, optr v7 0), (12, .int .i64 (IntKind.i64.wrap ((IntKind.i64.wrap ((bits3.length : Int) + q5.1)) - (1 : Int)))), (13, v19), (29, v169), (33, v211), (34, .int .i64 q209.2)] ∧ Hp S w0 w (Res.obj 24 v7 [.int .i64 q5.1, .int .u32 q5.2.1, .int .u32 q5.2.2] :: Res.sl (Ek.pair Ek.c128 Ek.bool) 35 v19 q61.1 :: Res.sl Ek.f64 29 v211 q209.1 :: Res.sl Ek.f64 29 v169 q162.1 :: ow)) ?_ ?_
    · have hp := hp198.same (Same.drew w)
      refine dr_begin' (fun a w => ∃ (v211 : Value), Fr 347 a [(11, optr v7 0), (12, .int .i64 (IntKind.i64.wrap ((IntKind.i64.wrap ((bits3.length : Int) + q5.1)) - (1 : Int)))), (13, v19), (29, v169), (33, v211), (34, .int .i64 q209.2)] ∧ Hp S w0 w (Res.obj 24 v7 [.int .i64 q5.1, .int .u32 q5.2.1, .int .u32 q5.2.2] :: Res.sl (Ek.pair Ek.c128 Ek.bool) 35 v19 q61.1 :: Res.sl Ek.f64 29 v211 q209.1 :: Res.sl Ek.f64 29 v169 q162.1 :: ow)) (fun w' => ∃ l, Hp S197 w w' l) [] (by kernel_rfl) ?_
      refine dr_take 0 (.agg #[.int .i64 q5.1, .int .u32 q5.2.1, .int .u32 q5.2.2]) rfl (by kernel_rfl) (by kernel_rfl) (by kernel_rfl) (by kernel_rfl) rfl rfl hf (by decide) rfl (fun w hp => ?_) ⟨_, hp⟩ ?_
      · obtain ⟨_, hp⟩ := hp
        refine st_ldOA (m := 3) (us := [.int .i64 q5.1, .int .u32 q5.2.1, .int .u32 q5.2.2]) hf (by decide) (by kernel_rfl) rfl rfl (rl202.ob hp) rfl rfl ?_
        clear hf; intro a ha hf
        exact st_nil hf (th_n ⟨ha, rfl⟩)
      clear hf; intro a hf
      refine dr_take 2 (v19) rfl (by kernel_rfl) (by kernel_rfl) (by kernel_rfl) (by kernel_rfl) rfl rfl hf (by decide) rfl (fun w hp => ?_) ⟨_, hp⟩ ?_
      · obtain ⟨_, hp⟩ := hp
        refine st_move hf rfl rfl (by decide) ?_
        clear hf; intro a ha hf
        exact st_nil hf (th_n ⟨ha, rfl⟩)
      clear hf; intro a hf
      refine dr_take 3 (.int .i64 (IntKind.i64.wrap ((IntKind.i64.wrap ((bits3.length : Int) + q5.1)) - (1 : Int)))) rfl (by kernel_rfl) (by kernel_rfl) (by kernel_rfl) (by kernel_rfl) rfl rfl hf (by decide) rfl (fun w hp => ?_) ⟨_, hp⟩ ?_
      · obtain ⟨_, hp⟩ := hp
        refine st_move hf rfl rfl (by decide) ?_
        clear hf; intro a ha hf
        exact st_nil hf (th_n ⟨ha, rfl⟩)
      clear hf; intro a hf
      refine dr_take 4 (.int .i64 (IntKind.i64.wrap ((IntKind.i64.wrap ((IntKind.i64.wrap ((bits3.length : Int) + q5.1)) - (1 : Int))) - (1 : Int)))) rfl (by kernel_rfl) (by kernel_rfl) (by kernel_rfl) (by kernel_rfl) rfl rfl hf (by decide) rfl (fun w hp => ?_) ⟨_, hp⟩ ?_
      · obtain ⟨_, hp⟩ := hp
        refine st_isub hf (by decide) rfl rfl rfl ?_
        clear hf; intro a ha hf
        exact st_nil hf (th_n ⟨ha, rfl⟩)
      clear hf; intro a hf
      refine dr_take 5 ((GL.cut v19 0 (((IntKind.i64.wrap ((IntKind.i64.wrap ((IntKind.i64.wrap ((bits3.length : Int) + q5.1)) - (1 : Int))) - (1 : Int)))).toNat) 2)) rfl (by kernel_rfl) (by kernel_rfl) (by kernel_rfl) (by kernel_rfl) rfl rfl hf (by decide) rfl (fun w hp => ?_) ⟨_, hp⟩ ?_
      · obtain ⟨_, hp⟩ := hp
        refine st_cutS (E := (Ek.pair Ek.c128 Ek.bool)) hf (by decide) Try.underlying27 elt35 rfl rfl (rl203.sl hp) (.inl ⟨rfl, rfl⟩) (.inr ⟨_, _, rfl, evI rfl (by omega)⟩) hc207 hc208 ?_
        clear hf; intro a ha hf
        exact st_nil hf (th_n ⟨ha, rfl⟩)
      clear hf; intro a hf
      refine dr_one 1 rfl (by kernel_rfl) ?_
      refine st_call hf (by decide) Try.func14 rfl rfl rfl rfl rfl (f_foghornlaw23_code_c hp _ _ _ hcall205) ?_
      rintro _ w ⟨rfl, hp0⟩
      clear hp; have hp := hp0; clear hp0
      replace hp : Hp _ _ _ (Res.sl Ek.f64 29 v169 q162.1 :: ow) := hp
      refine ⟨_, rfl, ?_⟩
      clear hf; intro a hf
      refine st_nil hf (th_n ⟨fun _ _ => ⟨_, hp⟩, ?_⟩)
      refine dr_one 6 rfl (by kernel_rfl) ?_
      refine st_call hf (by decide) Try.func22 rfl rfl rfl rfl rfl (f_soft_Ends_c hp _ _ _ _ _ (RdS.cut rl203 hc207 hc208) hcall210) ?_
      rintro _ w ⟨v211, rfl, hp0⟩
      clear hp; have hp := hp0; clear hp0
      replace hp : Hp _ _ _ (Res.sl Ek.f64 29 v211 q209.1 :: Res.sl Ek.f64 29 v169 q162.1 :: ow) := hp
      refine ⟨_, rfl, ?_⟩
      clear hf; intro a hf
      refine st_nil hf (th_n ⟨fun _ _ => ⟨_, hp⟩, ?_⟩)
      refine dr_take 7 (.tuple #[v211, .int .i64 q209.2]) rfl (by kernel_rfl) (by kernel_rfl) (by kernel_rfl) (by kernel_rfl) rfl rfl hf (by decide) rfl (fun w hp => ?_) ⟨_, hp⟩ ?_
      · obtain ⟨_, hp⟩ := hp
        refine st_move hf rfl rfl (by decide) ?_
        clear hf; intro a ha hf
        exact st_nil hf (th_n ⟨ha, rfl⟩)
      clear hf; intro a hf
      refine dr_take 8 (v211) rfl (by kernel_rfl) (by kernel_rfl) (by kernel_rfl) (by kernel_rfl) rfl rfl hf (by decide) rfl (fun w hp => ?_) ⟨_, hp⟩ ?_
      · obtain ⟨_, hp⟩ := hp
        refine st_extract hf (by decide) rfl rfl rfl ?_
        clear hf; intro a ha hf
        exact st_nil hf (th_n ⟨ha, rfl⟩)
      clear hf; intro a hf
      refine dr_take 9 (.int .i64 q209.2) rfl (by kernel_rfl) (by kernel_rfl) (by kernel_rfl) (by kernel_rfl) rfl rfl hf (by decide) rfl (fun w hp => ?_) ⟨_, hp⟩ ?_
      · obtain ⟨_, hp⟩ := hp
        refine st_extract hf (by decide) rfl rfl rfl ?_
        clear hf; intro a ha hf
        exact st_nil hf (th_n ⟨ha, rfl⟩)
      clear hf; intro a hf
      refine dr_take 10 (v211) rfl (by kernel_rfl) (by kernel_rfl) (by kernel_rfl) (by kernel_rfl) rfl rfl hf (by decide) rfl (fun w hp => ?_) ⟨_, hp⟩ ?_
      · obtain ⟨_, hp⟩ := hp
        refine st_assign hf rfl rfl (by decide) ?_
        clear hf; intro a ha hf
        exact st_nil hf (th_n ⟨ha, rfl⟩)
      clear hf; intro a hf
      refine dr_take 11 (.int .i64 q209.2) rfl (by kernel_rfl) (by kernel_rfl) (by kernel_rfl) (by kernel_rfl) rfl rfl hf (by decide) rfl (fun w hp => ?_) ⟨_, hp⟩ ?_
      · obtain ⟨_, hp⟩ := hp
        refine st_assign hf rfl rfl (by decide) ?_
        clear hf; intro a ha hf
        exact st_nil hf (th_n ⟨ha, rfl⟩)
      clear hf; intro a hf
      refine dr_end (by kernel_rfl) ?_ _
      have hp := bk201 _ _ hp
      have hp := bk196 _ _ hp
      exact ⟨v211, hf.sub ⟨rfl, rfl, rfl, rfl, rfl, rfl, trivial⟩, hp⟩
    rintro a w ⟨v211, hf, hp⟩
    refine th_n ?_
    refine wp_seq ?_
    refine wp_seq ?_
    refine wp_reg ?_
    refine st_move hf rfl rfl (by decide) ?_
    clear hf; intro a ha hf; clear ha
    refine st_ineq hf (by decide) rfl rfl rfl ?_
    clear hf; intro a ha hf; clear ha
    refine st_move hf rfl rfl (by decide) ?_
    clear hf; intro a ha hf; clear ha
    refine wpList_cut 6 (fun a w => Fr 347 a [(11, optr v7 0), (12, .int .i64 (IntKind.i64.wrap ((IntKind.i64.wrap ((bits3.length : Int) + q5.1)) - (1 : Int)))), (13, v19), (29, v169), (33, v211), (273, .bool ((q209.2 != (0 : Int)) || ((q209.1.length : Int) != (q162.1.length : Int))))] ∧ Hp S w0 w (Res.obj 24 v7 [.int .i64 q5.1, .int .u32 q5.2.1, .int .u32 q5.2.2] :: Res.sl (Ek.pair Ek.c128 Ek.bool) 35 v19 q61.1 :: Res.sl Ek.f64 29 v211 q209.1 :: Res.sl Ek.f64 29 v169 q162.1 :: ow)) ?_ ?_
    · rcases Bool.eq_false_or_eq_true (q209.2 != (0 : Int)) with hb214 | hb214
      · skip
        refine st_skip hf (wantN hf rfl rfl hb214) rfl (by decide) ?_ rfl
        clear hf; intro a hf
        refine st_skip hf (wantN hf rfl rfl hb214) rfl (by decide) ?_ rfl
        clear hf; intro a hf
        refine st_skip hf (wantN hf rfl rfl hb214) rfl (by decide) ?_ rfl
        clear hf; intro a hf
        refine st_skip hf (wantN hf rfl rfl hb214) rfl (by decide) ?_ rfl
        clear hf; intro a hf
        refine st_skip hf (wantN hf rfl rfl hb214) rfl (by decide) ?_ rfl
        clear hf; intro a hf
        refine st_pick (v := .bool true) hf rfl rfl (fun hb' => ?_) (fun hb' => ?_) (by decide) ?_
        · rfl
        · exact absurd (hb214.symm.trans hb') (by decide)
        clear hf; intro a ha hf; clear ha
        refine st_nil hf (th_n ?_)
        exact ⟨hf.sub ⟨rfl, rfl, rfl, rfl, rfl, (by rw [hb214]; rfl), trivial⟩, hp⟩
      refine st_move hf (wantY hf rfl rfl hb214) rfl (by decide) ?_
      clear hf; intro a ha hf; clear ha
      refine st_len (E := Ek.f64) hf (by decide) Try.underlying50 (wantY hf rfl rfl hb214) rfl (hp.sl (i := 2) rfl) ?_
      clear hf; intro a ha hf; clear ha
      refine st_move hf (wantY hf rfl rfl hb214) rfl (by decide) ?_
      clear hf; intro a ha hf; clear ha
      refine st_len (E := Ek.f64) hf (by decide) Try.underlying50 (wantY hf rfl rfl hb214) rfl (hp.sl (i := 3) rfl) ?_
      clear hf; intro a ha hf; clear ha
      refine st_ineq hf (by decide) (wantY hf rfl rfl hb214) rfl rfl ?_
      clear hf; intro a ha hf; clear ha
      refine st_pick (v := .bool ((q209.1.length : Int) != (q162.1.length : Int))) hf rfl rfl (fun hb' => ?_) (fun hb' => ?_) (by decide) ?_
      · exact absurd (hb214.symm.trans hb') (by decide)
      · rfl
      clear hf; intro a ha hf; clear ha
      refine st_nil hf (th_n ?_)
      exact ⟨hf.sub ⟨rfl, rfl, rfl, rfl, rfl, (by rw [hb214]; rfl), trivial⟩, hp⟩
    rintro a w ⟨hf, hp⟩
    refine st_nil hf ?_
    refine th_n ?_
    refine wp_if hf rfl (fun hb => ?_) (fun hb => ?_)
    · replace h := ifT h hb
      refine wp_seq ?_
      refine wp_reg ?_
      refine st_assign hf rfl rfl (by decide) ?_
      clear hf; intro a ha hf; clear ha
      refine st_nil hf ?_
      refine th_n ?_
      refine wp_ret ?_
      refine th_r ?_
      obtain rfl := Option.some.inj h
      have hp : Hp _ _ _ (ow) := Hp.sel (pre := [Res.obj 24 v7 [.int .i64 q5.1, .int .u32 q5.2.1, .int .u32 q5.2.2], Res.sl (Ek.pair Ek.c128 Ek.bool) 35 v19 q61.1, Res.sl Ek.f64 29 v211 q209.1, Res.sl Ek.f64 29 v169 q162.1]) (tail := ow) (rs' := []) hp [] (by decide) (by simp) rfl
      exact ⟨rfl, ⟨hf.sub ⟨rfl, trivial⟩, hp⟩⟩
    replace h := ifF h hb
    refine wp_skip ?_
    refine th_n ?_
    refine wp_seq ?_
    refine wp_seq ?_
    refine wp_reg ?_
    refine st_assign hf rfl rfl (by decide) ?_
    clear hf; intro a ha hf; clear ha
    refine st_nil hf ?_
    refine th_n ?_
    refine wp_block ?_
    obtain ⟨q302, hl, h⟩ := bnd h
    have hp : Hp _ _ _ (Res.obj 24 v7 [.int .i64 q5.1, .int .u32 q5.2.1, .int .u32 q5.2.2] :: Res.sl (Ek.pair Ek.c128 Ek.bool) 35 v19 q61.1 :: Res.sl Ek.f64 29 v169 q162.1 :: Res.sl Ek.f64 29 v211 q209.1 :: ow) := Hp.sel (pre := [Res.obj 24 v7 [.int .i64 q5.1, .int .u32 q5.2.1, .int .u32 q5.2.2], Res.sl (Ek.pair Ek.c128 Ek.bool) 35 v19 q61.1, Res.sl Ek.f64 29 v211 q209.1, Res.sl Ek.f64 29 v169 q162.1]) (tail := ow) (rs' := [Res.obj 24 v7 [.int .i64 q5.1, .int .u32 q5.2.1, .int .u32 q5.2.2], Res.sl (Ek.pair Ek.c128 Ek.bool) 35 v19 q61.1, Res.sl Ek.f64 29 v169 q162.1, Res.sl Ek.f64 29 v211 q209.1]) hp [0, 1, 3, 2] (by decide) (by simp) rfl
    refine wp_loop_pure (f := (f_foghornlaw23_SoftTurns.s4 bits3 q5)) (s := (q5.1, q5.2.1, q5.2.2, q61.1, q162.1, q209.1, (0 : Int))) (fun s a w => ∃ (v216 : Value) (v218 : Value) (v220 : Value), Fr 347 a [(11, optr v7 0), (12, .int .i64 (IntKind.i64.wrap ((IntKind.i64.wrap ((bits3.length : Int) + q5.1)) - (1 : Int)))), (13, v216), (29, v218), (33, v220), (35, .int .i64 s.2.2.2.2.2.2)] ∧ Hp S w0 w (Res.obj 24 v7 [.int .i64 s.1, .int .u32 s.2.1, .int .u32 s.2.2.1] :: Res.sl (Ek.pair Ek.c128 Ek.bool) 35 v216 s.2.2.2.1 :: Res.sl Ek.f64 29 v218 s.2.2.2.2.1 :: Res.sl Ek.f64 29 v220 s.2.2.2.2.2.1 :: ow)) (fun q e a w => match q with | (Sum.inl q) => e = .exit 6 ∧ Fr 347 a [] ∧ Hp S w0 w (ow) | (Sum.inr q) => e = .ret ∧ Fr 347 a [(10, .bool q)] ∧ Hp S w0 w (ow)) ?_ hl ⟨_, _, _, hf.sub ⟨rfl, rfl, rfl, rfl, rfl, rfl, trivial⟩, hp⟩ ?_
    · clear hl hf hp
      intro s x a w h hI
      obtain ⟨d11c_0, d11c_1, d11c_2, xx13, ends29, ahead33, sx35⟩ := s
      obtain ⟨v216, v218, v220, hf, hp⟩ : ∃ (v216 : Value) (v218 : Value) (v220 : Value), Fr 347 a [(11, optr v7 0), (12, .int .i64 (IntKind.i64.wrap ((IntKind.i64.wrap ((bits3.length : Int) + q5.1)) - (1 : Int)))), (13, v216), (29, v218), (33, v220), (35, .int .i64 sx35)] ∧ Hp S w0 w (Res.obj 24 v7 [.int .i64 d11c_0, .int .u32 d11c_1, .int .u32 d11c_2] :: Res.sl (Ek.pair Ek.c128 Ek.bool) 35 v216 xx13 :: Res.sl Ek.f64 29 v218 ends29 :: Res.sl Ek.f64 29 v220 ahead33 :: ow) := hI
      replace h : f_foghornlaw23_SoftTurns.s4c bits3 q5 d11c_0 d11c_1 d11c_2 xx13 ends29 ahead33 sx35 = some x := h
      unfold f_foghornlaw23_SoftTurns.s4c at h
      refine wp_seq ?_
      refine wp_seq ?_
      refine wp_reg ?_
      refine st_move hf rfl rfl (by decide) ?_
      clear hf; intro a ha hf; clear ha
      refine st_move hf rfl rfl (by decide) ?_
      clear hf; intro a ha hf; clear ha
      refine st_len (E := Ek.f64) hf (by decide) Try.underlying50 rfl rfl (hp.sl (i := 2) rfl) ?_
      clear hf; intro a ha hf; clear ha
      refine st_ilss hf (by decide) rfl rfl rfl ?_
      clear hf; intro a ha hf; clear ha
      refine st_nil hf ?_
      refine th_n ?_
      refine wp_if hf rfl (fun hb => ?_) (fun hb => ?_)
      · replace h := ifT h hb
        refine wp_skip ?_
        refine th_n ?_
        refine wp_seq ?_
        refine wp_block ?_
        refine wp_seq ?_
        refine wp_reg ?_
        refine st_ldOA (m := 3) (us := [.int .i64 d11c_0, .int .u32 d11c_1, .int .u32 d11c_2]) hf (by decide) (by kernel_rfl) rfl rfl (hp.ob (i := 0) rfl) rfl rfl ?_
        clear hf; intro a ha hf; clear ha
        obtain ⟨q222, hcall223, h⟩ := bnd h
        refine st_call hf (by decide) Try.func14 rfl rfl rfl rfl rfl (f_foghornlaw23_code_c hp _ _ _ hcall223) ?_
        rintro _ w ⟨rfl, hp0⟩
        clear hp; have hp := hp0; clear hp0
        replace hp : Hp _ _ _ (Res.obj 24 v7 [.int .i64 d11c_0, .int .u32 d11c_1, .int .u32 d11c_2] :: Res.sl (Ek.pair Ek.c128 Ek.bool) 35 v216 xx13 :: Res.sl Ek.f64 29 v218 ends29 :: Res.sl Ek.f64 29 v220 ahead33 :: ow) := hp
        refine ⟨_, rfl, ?_⟩
        clear hf; intro a hf
        refine st_move hf rfl rfl (by decide) ?_
        clear hf; intro a ha hf; clear ha
        obtain ⟨q224, hcall225, h⟩ := bnd h
        refine st_call hf (by decide) Try.func30 rfl rfl rfl rfl rfl (f_trellis_Code_From_c hp _ _ _ _ hcall225) ?_
        rintro _ w ⟨rfl, hp0⟩
        clear hp; have hp := hp0; clear hp0
        replace hp : Hp _ _ _ (Res.obj 24 v7 [.int .i64 d11c_0, .int .u32 d11c_1, .int .u32 d11c_2] :: Res.sl (Ek.pair Ek.c128 Ek.bool) 35 v216 xx13 :: Res.sl Ek.f64 29 v218 ends29 :: Res.sl Ek.f64 29 v220 ahead33 :: ow) := hp
        refine ⟨_, rfl, ?_⟩
        clear hf; intro a hf
        refine st_move hf rfl rfl (by decide) ?_
        clear hf; intro a ha hf; clear ha
        refine st_extract hf (by decide) rfl rfl rfl ?_
        clear hf; intro a ha hf; clear ha
        refine st_extract hf (by decide) rfl rfl rfl ?_
        clear hf; intro a ha hf; clear ha
        refine st_alloc (cs := [.int .i64 (0 : Int), .int .i64 (0 : Int)]) (zv := .agg #[.int .i64 (0 : Int), .int .i64 (0 : Int)]) hf (by decide) (by kernel_rfl) rfl hp rfl ?_
        clear hf; intro a w v226 hf hp0; clear hp; have hp := hp0; clear hp0
        replace hp : Hp _ _ _ (Res.obj 67 v226 [.int .i64 (0 : Int), .int .i64 (0 : Int)] :: Res.obj 24 v7 [.int .i64 d11c_0, .int .u32 d11c_1, .int .u32 d11c_2] :: Res.sl (Ek.pair Ek.c128 Ek.bool) 35 v216 xx13 :: Res.sl Ek.f64 29 v218 ends29 :: Res.sl Ek.f64 29 v220 ahead33 :: ow) := hp
        refine st_stO (us := [.int .i64 q224.1.1, .int .i64 q224.1.2]) hf hp (i := 0) rfl rfl rfl rfl rfl (by rfl) (by kernel_rfl) (Nat.le_of_ble_eq_true rfl) ?_
        clear hf; intro a w hf hp0; clear hp; have hp := hp0; clear hp0
        replace hp : Hp _ _ _ (Res.obj 67 v226 [.int .i64 q224.1.1, .int .i64 q224.1.2] :: Res.obj 24 v7 [.int .i64 d11c_0, .int .u32 d11c_1, .int .u32 d11c_2] :: Res.sl (Ek.pair Ek.c128 Ek.bool) 35 v216 xx13 :: Res.sl Ek.f64 29 v218 ends29 :: Res.sl Ek.f64 29 v220 ahead33 :: ow) := hp
        refine st_assign hf rfl rfl (by decide) ?_
        clear hf; intro a ha hf; clear ha
        refine st_nil hf ?_
        refine th_n ?_
        refine wp_seq ?_
        refine wp_seq ?_
        refine wp_reg ?_
        refine st_move hf rfl rfl (by decide) ?_
        clear hf; intro a ha hf; clear ha
        refine st_ineq hf (by decide) rfl rfl rfl ?_
        clear hf; intro a ha hf; clear ha
        refine st_nil hf ?_
        refine th_n ?_
        refine wp_if hf rfl (fun hb => ?_) (fun hb => ?_)
        · replace h := ifT h hb
          refine wp_seq ?_
          refine wp_reg ?_
          refine st_assign hf rfl rfl (by decide) ?_
          clear hf; intro a ha hf; clear ha
          refine st_nil hf ?_
          refine th_n ?_
          refine wp_ret ?_
          refine th_r ?_
          refine ib_r ?_
          refine th_r ?_
          obtain rfl := Option.some.inj h
          have hp : Hp _ _ _ (ow) := Hp.sel (pre := [Res.obj 67 v226 [.int .i64 q224.1.1, .int .i64 q224.1.2], Res.obj 24 v7 [.int .i64 d11c_0, .int .u32 d11c_1, .int .u32 d11c_2], Res.sl (Ek.pair Ek.c128 Ek.bool) 35 v216 xx13, Res.sl Ek.f64 29 v218 ends29, Res.sl Ek.f64 29 v220 ahead33]) (tail := ow) (rs' := []) hp [] (by decide) (by simp) rfl
          exact rnd_r (by simp) ⟨rfl, ⟨hf.sub ⟨rfl, trivial⟩, hp⟩⟩
        replace h := ifF h hb
        refine wp_skip ?_
        refine th_n ?_
        refine wp_seq ?_
        refine wp_reg ?_
        obtain ⟨q228, hcall229, h⟩ := bnd h
        refine st_call hf (by decide) Try.func31 rfl rfl rfl rfl rfl (f_math_Inf_c hp _ hcall229) ?_
        rintro _ w ⟨v230, rfl, y231, hp0⟩
        clear hp; have hp := hp0; clear hp0
        replace hp : Hp _ _ _ (Res.obj 67 v226 [.int .i64 q224.1.1, .int .i64 q224.1.2] :: Res.obj 24 v7 [.int .i64 d11c_0, .int .u32 d11c_1, .int .u32 d11c_2] :: Res.sl (Ek.pair Ek.c128 Ek.bool) 35 v216 xx13 :: Res.sl Ek.f64 29 v218 ends29 :: Res.sl Ek.f64 29 v220 ahead33 :: ow) := hp
        refine ⟨_, rfl, ?_⟩
        clear hf; intro a hf
        refine st_assign hf rfl rfl (by decide) ?_
        clear hf; intro a ha hf; clear ha
        refine st_nil hf ?_
        refine th_n ?_
        refine wp_seq ?_
        refine wp_seq ?_
        refine wp_reg ?_
        refine st_assign hf rfl rfl (by decide) ?_
        clear hf; intro a ha hf; clear ha
        refine st_nil hf ?_
        refine th_n ?_
        refine wp_block ?_
        obtain ⟨q296, hl, h⟩ := bnd h
        have hp : Hp _ _ _ (Res.obj 24 v7 [.int .i64 d11c_0, .int .u32 d11c_1, .int .u32 d11c_2] :: Res.sl (Ek.pair Ek.c128 Ek.bool) 35 v216 xx13 :: Res.sl Ek.f64 29 v218 ends29 :: Res.sl Ek.f64 29 v220 ahead33 :: Res.obj 67 v226 [.int .i64 q224.1.1, .int .i64 q224.1.2] :: ow) := Hp.sel (pre := [Res.obj 67 v226 [.int .i64 q224.1.1, .int .i64 q224.1.2], Res.obj 24 v7 [.int .i64 d11c_0, .int .u32 d11c_1, .int .u32 d11c_2], Res.sl (Ek.pair Ek.c128 Ek.bool) 35 v216 xx13, Res.sl Ek.f64 29 v218 ends29, Res.sl Ek.f64 29 v220 ahead33]) (tail := ow) (rs' := [Res.obj 24 v7 [.int .i64 d11c_0, .int .u32 d11c_1, .int .u32 d11c_2], Res.sl (Ek.pair Ek.c128 Ek.bool) 35 v216 xx13, Res.sl Ek.f64 29 v218 ends29, Res.sl Ek.f64 29 v220 ahead33, Res.obj 67 v226 [.int .i64 q224.1.1, .int .i64 q224.1.2]]) hp [1, 2, 3, 4, 0] (by decide) (by simp) rfl
        refine wp_loop_pure (f := (f_foghornlaw23_SoftTurns.s5 bits3 q5 sx35)) (s := (d11c_0, d11c_1, d11c_2, xx13, ends29, ahead33, q224.1.1, q224.1.2, q228, (0 : Int))) (fun s a w => ∃ (v233 : Value) (v235 : Value) (v237 : Value) (bb240 : Nat), Fr 347 a [(11, optr v7 0), (12, .int .i64 (IntKind.i64.wrap ((IntKind.i64.wrap ((bits3.length : Int) + q5.1)) - (1 : Int)))), (13, v233), (29, v235), (33, v237), (35, .int .i64 sx35), (36, optr v226 0), (38, .float .f64 bb240), (39, .int .i64 s.2.2.2.2.2.2.2.2.2)] ∧ Fl.rep bb240 s.2.2.2.2.2.2.2.2.1 ∧ Hp S w0 w (Res.obj 24 v7 [.int .i64 s.1, .int .u32 s.2.1, .int .u32 s.2.2.1] :: Res.sl (Ek.pair Ek.c128 Ek.bool) 35 v233 s.2.2.2.1 :: Res.sl Ek.f64 29 v235 s.2.2.2.2.1 :: Res.sl Ek.f64 29 v237 s.2.2.2.2.2.1 :: Res.obj 67 v226 [.int .i64 s.2.2.2.2.2.2.1, .int .i64 s.2.2.2.2.2.2.2.1] :: ow)) (fun q e a w => match q with | (Sum.inl q) => e = .exit 8 ∧ ∃ (v243 : Value) (v245 : Value) (v247 : Value) (bb249 : Nat), Fr 347 a [(11, optr v7 0), (12, .int .i64 (IntKind.i64.wrap ((IntKind.i64.wrap ((bits3.length : Int) + q5.1)) - (1 : Int)))), (13, v243), (29, v245), (33, v247), (35, .int .i64 sx35), (38, .float .f64 bb249)] ∧ Fl.rep bb249 q.2.2.2.2.2.2 ∧ Hp S w0 w (Res.obj 24 v7 [.int .i64 q.1, .int .u32 q.2.1, .int .u32 q.2.2.1] :: Res.sl (Ek.pair Ek.c128 Ek.bool) 35 v243 q.2.2.2.1 :: Res.sl Ek.f64 29 v245 q.2.2.2.2.1 :: Res.sl Ek.f64 29 v247 q.2.2.2.2.2.1 :: ow) | (Sum.inr q) => e = .ret ∧ Fr 347 a [(10, .bool q)] ∧ Hp S w0 w (ow)) ?_ hl ⟨_, _, _, _, hf.sub ⟨rfl, rfl, rfl, rfl, rfl, rfl, rfl, rfl, rfl, trivial⟩, y231, hp⟩ ?_
        · clear hl hf hp
          intro s x a w h hI
          obtain ⟨d11c_0, d11c_1, d11c_2, xx13, ends29, ahead33, from36c_0, from36c_1, best38, k39⟩ := s
          obtain ⟨v233, v235, v237, bb240, hf, y241, hp⟩ : ∃ (v233 : Value) (v235 : Value) (v237 : Value) (bb240 : Nat), Fr 347 a [(11, optr v7 0), (12, .int .i64 (IntKind.i64.wrap ((IntKind.i64.wrap ((bits3.length : Int) + q5.1)) - (1 : Int)))), (13, v233), (29, v235), (33, v237), (35, .int .i64 sx35), (36, optr v226 0), (38, .float .f64 bb240), (39, .int .i64 k39)] ∧ Fl.rep bb240 best38 ∧ Hp S w0 w (Res.obj 24 v7 [.int .i64 d11c_0, .int .u32 d11c_1, .int .u32 d11c_2] :: Res.sl (Ek.pair Ek.c128 Ek.bool) 35 v233 xx13 :: Res.sl Ek.f64 29 v235 ends29 :: Res.sl Ek.f64 29 v237 ahead33 :: Res.obj 67 v226 [.int .i64 from36c_0, .int .i64 from36c_1] :: ow) := hI
          replace h : f_foghornlaw23_SoftTurns.s5c bits3 q5 sx35 d11c_0 d11c_1 d11c_2 xx13 ends29 ahead33 from36c_0 from36c_1 best38 k39 = some x := h
          unfold f_foghornlaw23_SoftTurns.s5c at h
          refine wp_seq ?_
          refine wp_seq ?_
          refine wp_reg ?_
          refine st_move hf rfl rfl (by decide) ?_
          clear hf; intro a ha hf; clear ha
          refine st_ilss hf (by decide) rfl rfl rfl ?_
          clear hf; intro a ha hf; clear ha
          refine st_nil hf ?_
          refine th_n ?_
          refine wp_if hf rfl (fun hb => ?_) (fun hb => ?_)
          · replace h := ifT h hb
            refine wp_skip ?_
            refine th_n ?_
            refine wp_seq ?_
            refine wp_block ?_
            refine wp_seq ?_
            refine wp_reg ?_
            refine st_assign hf rfl rfl (by decide) ?_
            clear hf; intro a ha hf; clear ha
            refine st_nil hf ?_
            refine th_n ?_
            refine wp_block ?_
            obtain ⟨q293, hl, h⟩ := bnd h
            refine wp_loop_pure (f := (f_foghornlaw23_SoftTurns.s6 bits3 q5 d11c_0 d11c_1 d11c_2 xx13 ahead33 sx35 from36c_0 from36c_1 k39)) (s := (best38, (0 : Int))) (fun s a w => ∃ (bb251 : Nat), Fr 347 a [(11, optr v7 0), (12, .int .i64 (IntKind.i64.wrap ((IntKind.i64.wrap ((bits3.length : Int) + q5.1)) - (1 : Int)))), (13, v233), (29, v235), (33, v237), (35, .int .i64 sx35), (36, optr v226 0), (38, .float .f64 bb251), (39, .int .i64 k39), (40, .int .i64 s.2)] ∧ Fl.rep bb251 s.1 ∧ Hp S w0 w (Res.obj 24 v7 [.int .i64 d11c_0, .int .u32 d11c_1, .int .u32 d11c_2] :: Res.sl (Ek.pair Ek.c128 Ek.bool) 35 v233 xx13 :: Res.sl Ek.f64 29 v235 ends29 :: Res.sl Ek.f64 29 v237 ahead33 :: Res.obj 67 v226 [.int .i64 from36c_0, .int .i64 from36c_1] :: ow)) (fun q e a w => match q with | (Sum.inl q) => e = .exit 10 ∧ ∃ (bb253 : Nat), Fr 347 a [(11, optr v7 0), (12, .int .i64 (IntKind.i64.wrap ((IntKind.i64.wrap ((bits3.length : Int) + q5.1)) - (1 : Int)))), (13, v233), (29, v235), (33, v237), (35, .int .i64 sx35), (36, optr v226 0), (38, .float .f64 bb253), (39, .int .i64 k39)] ∧ Fl.rep bb253 q ∧ Hp S w0 w (Res.obj 24 v7 [.int .i64 d11c_0, .int .u32 d11c_1, .int .u32 d11c_2] :: Res.sl (Ek.pair Ek.c128 Ek.bool) 35 v233 xx13 :: Res.sl Ek.f64 29 v235 ends29 :: Res.sl Ek.f64 29 v237 ahead33 :: Res.obj 67 v226 [.int .i64 from36c_0, .int .i64 from36c_1] :: ow) | (Sum.inr q) => e = .ret ∧ Fr 347 a [(10, .bool q)] ∧ Hp S w0 w (ow)) ?_ hl ⟨_, hf.sub ⟨rfl, rfl, rfl, rfl, rfl, rfl, rfl, rfl, rfl, rfl, trivial⟩, y241, hp⟩ ?_
            · clear hl hf hp
              intro s x a w h hI
              obtain ⟨best38, bx40⟩ := s
              obtain ⟨bb251, hf, y252, hp⟩ : ∃ (bb251 : Nat), Fr 347 a [(11, optr v7 0), (12, .int .i64 (IntKind.i64.wrap ((IntKind.i64.wrap ((bits3.length : Int) + q5.1)) - (1 : Int)))), (13, v233), (29, v235), (33, v237), (35, .int .i64 sx35), (36, optr v226 0), (38, .float .f64 bb251), (39, .int .i64 k39), (40, .int .i64 bx40)] ∧ Fl.rep bb251 best38 ∧ Hp S w0 w (Res.obj 24 v7 [.int .i64 d11c_0, .int .u32 d11c_1, .int .u32 d11c_2] :: Res.sl (Ek.pair Ek.c128 Ek.bool) 35 v233 xx13 :: Res.sl Ek.f64 29 v235 ends29 :: Res.sl Ek.f64 29 v237 ahead33 :: Res.obj 67 v226 [.int .i64 from36c_0, .int .i64 from36c_1] :: ow) := hI
              replace h : f_foghornlaw23_SoftTurns.s6c bits3 q5 d11c_0 d11c_1 d11c_2 xx13 ahead33 sx35 from36c_0 from36c_1 k39 best38 bx40 = some x := h
              unfold f_foghornlaw23_SoftTurns.s6c at h
              refine wp_seq ?_
              refine wp_seq ?_
              refine wp_reg ?_
              refine st_move hf rfl rfl (by decide) ?_
              clear hf; intro a ha hf; clear ha
              refine st_ilss hf (by decide) rfl rfl rfl ?_
              clear hf; intro a ha hf; clear ha
              refine st_nil hf ?_
              refine th_n ?_
              refine wp_if hf rfl (fun hb => ?_) (fun hb => ?_)
              · replace h := ifT h hb
                refine wp_skip ?_
                refine th_n ?_
                refine wp_seq ?_
                refine wp_block ?_
                refine wp_seq ?_
                obtain ⟨S255, hp256, rd257, up258, bk259⟩ := Hp.lendO hp (i := 0) rfl
                obtain ⟨S260, hp261, rd262, up263, bk264⟩ := Hp.lendO hp256 (i := 3) rfl
                have rl265 := ((rd257.now hp256).mono up263)
                have rl266 := rd262
                obtain ⟨q267, hcall268, h⟩ := bnd h
                obtain ⟨hc269, h⟩ := chk h
                obtain ⟨q270, hcall271, h⟩ := bnd h
                refine wp_cutN (fun a w => Fr 347 a [(11, optr v7 0), (12, .int .i64 (IntKind.i64.wrap ((IntKind.i64.wrap ((bits3.length : Int) + q5.1)) - (1 : Int)))), (13, v233), (29, v235), (33, v237), (35, .int .i64 sx35), (36, optr v226 0), (38, .float .f64 bb251), (39, .int .i64 k39), (40, .int .i64 bx40), (41, .int .i64 q270.1), (42, .bool q270.2.1), (43, .bool q270.2.2.1), (44, .int .i64 q270.2.2.2)] ∧ Hp S w0 w (Res.obj 24 v7 [.int .i64 d11c_0, .int .u32 d11c_1, .int .u32 d11c_2] :: Res.obj 67 v226 [.int .i64 from36c_0, .int .i64 from36c_1] :: Res.sl (Ek.pair Ek.c128 Ek.bool) 35 v233 xx13 :: Res.sl Ek.f64 29 v235 ends29 :: Res.sl Ek.f64 29 v237 ahead33 :: ow)) ?_ ?_
                · have hp := hp261.same (Same.drew w)
                  refine dr_begin' (fun a w => Fr 347 a [(11, optr v7 0), (12, .int .i64 (IntKind.i64.wrap ((IntKind.i64.wrap ((bits3.length : Int) + q5.1)) - (1 : Int)))), (13, v233), (29, v235), (33, v237), (35, .int .i64 sx35), (36, optr v226 0), (38, .float .f64 bb251), (39, .int .i64 k39), (40, .int .i64 bx40), (41, .int .i64 q270.1), (42, .bool q270.2.1), (43, .bool q270.2.2.1), (44, .int .i64 q270.2.2.2)] ∧ Hp S w0 w (Res.obj 24 v7 [.int .i64 d11c_0, .int .u32 d11c_1, .int .u32 d11c_2] :: Res.obj 67 v226 [.int .i64 from36c_0, .int .i64 from36c_1] :: Res.sl (Ek.pair Ek.c128 Ek.bool) 35 v233 xx13 :: Res.sl Ek.f64 29 v235 ends29 :: Res.sl Ek.f64 29 v237 ahead33 :: ow)) (fun w' => ∃ l, Hp S260 w w' l) [] (by kernel_rfl) ?_
                  refine dr_take 0 (.agg #[.int .i64 d11c_0, .int .u32 d11c_1, .int .u32 d11c_2]) rfl (by kernel_rfl) (by kernel_rfl) (by kernel_rfl) (by kernel_rfl) rfl rfl hf (by decide) rfl (fun w hp => ?_) ⟨_, hp⟩ ?_
                  · obtain ⟨_, hp⟩ := hp
                    refine st_ldOA (m := 3) (us := [.int .i64 d11c_0, .int .u32 d11c_1, .int .u32 d11c_2]) hf (by decide) (by kernel_rfl) rfl rfl (rl265.ob hp) rfl rfl ?_
                    clear hf; intro a ha hf
                    exact st_nil hf (th_n ⟨ha, rfl⟩)
                  clear hf; intro a hf
                  refine dr_take 2 (.int .i64 k39) rfl (by kernel_rfl) (by kernel_rfl) (by kernel_rfl) (by kernel_rfl) rfl rfl hf (by decide) rfl (fun w hp => ?_) ⟨_, hp⟩ ?_
                  · obtain ⟨_, hp⟩ := hp
                    refine st_move hf rfl rfl (by decide) ?_
                    clear hf; intro a ha hf
                    exact st_nil hf (th_n ⟨ha, rfl⟩)
                  clear hf; intro a hf
                  refine dr_take 3 (optr v226 (0 + (k39).toNat * 1)) rfl (by kernel_rfl) (by kernel_rfl) (by kernel_rfl) (by kernel_rfl) rfl rfl hf (by decide) rfl (fun w hp => ?_) ⟨_, hp⟩ ?_
                  · obtain ⟨_, hp⟩ := hp
                    refine st_ia (o' := 0 + (k39).toNat * 1) hf (by decide) Try.underlying67 (sz := 1) (by kernel_rfl) rfl rfl rfl (rl266.ob hp) hc269.1 hc269.2 rfl ?_
                    clear hf; intro a ha hf
                    exact st_nil hf (th_n ⟨ha, rfl⟩)
                  clear hf; intro a hf
                  refine dr_take 4 (.int .i64 (gt [from36c_0, from36c_1] k39)) rfl (by kernel_rfl) (by kernel_rfl) (by kernel_rfl) (by kernel_rfl) rfl rfl hf (by decide) rfl (fun w hp => ?_) ⟨_, hp⟩ ?_
                  · obtain ⟨_, hp⟩ := hp
                    refine st_ldO (u := .int .i64 (gt [from36c_0, from36c_1] k39)) hf (by decide) pl3 rfl rfl (rl266.ob hp) (sel_int (xs := [from36c_0, from36c_1]) (N := 2) hc269 rfl) ?_
                    clear hf; intro a ha hf
                    exact st_nil hf (th_n ⟨ha, rfl⟩)
                  clear hf; intro a hf
                  refine dr_take 5 (.int .i64 bx40) rfl (by kernel_rfl) (by kernel_rfl) (by kernel_rfl) (by kernel_rfl) rfl rfl hf (by decide) rfl (fun w hp => ?_) ⟨_, hp⟩ ?_
                  · obtain ⟨_, hp⟩ := hp
                    refine st_move hf rfl rfl (by decide) ?_
                    clear hf; intro a ha hf
                    exact st_nil hf (th_n ⟨ha, rfl⟩)
                  clear hf; intro a hf
                  refine dr_take 6 (.bool (bx40 == (1 : Int))) rfl (by kernel_rfl) (by kernel_rfl) (by kernel_rfl) (by kernel_rfl) rfl rfl hf (by decide) rfl (fun w hp => ?_) ⟨_, hp⟩ ?_
                  · obtain ⟨_, hp⟩ := hp
                    refine st_ieql hf (by decide) rfl rfl rfl ?_
                    clear hf; intro a ha hf
                    exact st_nil hf (th_n ⟨ha, rfl⟩)
                  clear hf; intro a hf
                  refine dr_one 1 rfl (by kernel_rfl) ?_
                  refine st_call hf (by decide) Try.func14 rfl rfl rfl rfl rfl (f_foghornlaw23_code_c hp _ _ _ hcall268) ?_
                  rintro _ w ⟨rfl, hp0⟩
                  clear hp; have hp := hp0; clear hp0
                  replace hp : Hp _ _ _ (Res.sl (Ek.pair Ek.c128 Ek.bool) 35 v233 xx13 :: Res.sl Ek.f64 29 v235 ends29 :: Res.sl Ek.f64 29 v237 ahead33 :: ow) := hp
                  refine ⟨_, rfl, ?_⟩
                  clear hf; intro a hf
                  refine st_nil hf (th_n ⟨fun _ _ => ⟨_, hp⟩, ?_⟩)
                  refine dr_one 7 rfl (by kernel_rfl) ?_
                  refine st_call hf (by decide) Try.func32 rfl rfl rfl rfl rfl (f_trellis_Code_Step_c hp _ _ _ _ _ hcall271) ?_
                  rintro _ w ⟨rfl, hp0⟩
                  clear hp; have hp := hp0; clear hp0
                  replace hp : Hp _ _ _ (Res.sl (Ek.pair Ek.c128 Ek.bool) 35 v233 xx13 :: Res.sl Ek.f64 29 v235 ends29 :: Res.sl Ek.f64 29 v237 ahead33 :: ow) := hp
                  refine ⟨_, rfl, ?_⟩
                  clear hf; intro a hf
                  refine st_nil hf (th_n ⟨fun _ _ => ⟨_, hp⟩, ?_⟩)
                  refine dr_take 8 (.tuple #[.int .i64 q270.1, .bool q270.2.1, .bool q270.2.2.1, .int .i64 q270.2.2.2]) rfl (by kernel_rfl) (by kernel_rfl) (by kernel_rfl) (by kernel_rfl) rfl rfl hf (by decide) rfl (fun w hp => ?_) ⟨_, hp⟩ ?_
                  · obtain ⟨_, hp⟩ := hp
                    refine st_move hf rfl rfl (by decide) ?_
                    clear hf; intro a ha hf
                    exact st_nil hf (th_n ⟨ha, rfl⟩)
                  clear hf; intro a hf
                  refine dr_take 9 (.int .i64 q270.1) rfl (by kernel_rfl) (by kernel_rfl) (by kernel_rfl) (by kernel_rfl) rfl rfl hf (by decide) rfl (fun w hp => ?_) ⟨_, hp⟩ ?_
                  · obtain ⟨_, hp⟩ := hp
                    refine st_extract hf (by decide) rfl rfl rfl ?_
                    clear hf; intro a ha hf
                    exact st_nil hf (th_n ⟨ha, rfl⟩)
                  clear hf; intro a hf
                  refine dr_take 10 (.bool q270.2.1) rfl (by kernel_rfl) (by kernel_rfl) (by kernel_rfl) (by kernel_rfl) rfl rfl hf (by decide) rfl (fun w hp => ?_) ⟨_, hp⟩ ?_
                  · obtain ⟨_, hp⟩ := hp
                    refine st_extract hf (by decide) rfl rfl rfl ?_
                    clear hf; intro a ha hf
                    exact st_nil hf (th_n ⟨ha, rfl⟩)
                  clear hf; intro a hf
                  refine dr_take 11 (.bool q270.2.2.1) rfl (by kernel_rfl) (by kernel_rfl) (by kernel_rfl) (by kernel_rfl) rfl rfl hf (by decide) rfl (fun w hp => ?_) ⟨_, hp⟩ ?_
                  · obtain ⟨_, hp⟩ := hp
                    refine st_extract hf (by decide) rfl rfl rfl ?_
                    clear hf; intro a ha hf
                    exact st_nil hf (th_n ⟨ha, rfl⟩)
                  clear hf; intro a hf
                  refine dr_take 12 (.int .i64 q270.2.2.2) rfl (by kernel_rfl) (by kernel_rfl) (by kernel_rfl) (by kernel_rfl) rfl rfl hf (by decide) rfl (fun w hp => ?_) ⟨_, hp⟩ ?_
                  · obtain ⟨_, hp⟩ := hp
                    refine st_extract hf (by decide) rfl rfl rfl ?_
                    clear hf; intro a ha hf
                    exact st_nil hf (th_n ⟨ha, rfl⟩)
                  clear hf; intro a hf
                  refine dr_take 13 (.int .i64 q270.1) rfl (by kernel_rfl) (by kernel_rfl) (by kernel_rfl) (by kernel_rfl) rfl rfl hf (by decide) rfl (fun w hp => ?_) ⟨_, hp⟩ ?_
                  · obtain ⟨_, hp⟩ := hp
                    refine st_assign hf rfl rfl (by decide) ?_
                    clear hf; intro a ha hf
                    exact st_nil hf (th_n ⟨ha, rfl⟩)
                  clear hf; intro a hf
                  refine dr_take 14 (.bool q270.2.1) rfl (by kernel_rfl) (by kernel_rfl) (by kernel_rfl) (by kernel_rfl) rfl rfl hf (by decide) rfl (fun w hp => ?_) ⟨_, hp⟩ ?_
                  · obtain ⟨_, hp⟩ := hp
                    refine st_assign hf rfl rfl (by decide) ?_
                    clear hf; intro a ha hf
                    exact st_nil hf (th_n ⟨ha, rfl⟩)
                  clear hf; intro a hf
                  refine dr_take 15 (.bool q270.2.2.1) rfl (by kernel_rfl) (by kernel_rfl) (by kernel_rfl) (by kernel_rfl) rfl rfl hf (by decide) rfl (fun w hp => ?_) ⟨_, hp⟩ ?_
                  · obtain ⟨_, hp⟩ := hp
                    refine st_assign hf rfl rfl (by decide) ?_
                    clear hf; intro a ha hf
                    exact st_nil hf (th_n ⟨ha, rfl⟩)
                  clear hf; intro a hf
                  refine dr_take 16 (.int .i64 q270.2.2.2) rfl (by kernel_rfl) (by kernel_rfl) (by kernel_rfl) (by kernel_rfl) rfl rfl hf (by decide) rfl (fun w hp => ?_) ⟨_, hp⟩ ?_
                  · obtain ⟨_, hp⟩ := hp
                    refine st_assign hf rfl rfl (by decide) ?_
                    clear hf; intro a ha hf
                    exact st_nil hf (th_n ⟨ha, rfl⟩)
                  clear hf; intro a hf
                  refine dr_end (by kernel_rfl) ?_ _
                  have hp := bk264 _ _ hp
                  have hp := bk259 _ _ hp
                  exact ⟨hf.sub ⟨rfl, rfl, rfl, rfl, rfl, rfl, rfl, rfl, rfl, rfl, rfl, rfl, rfl, rfl, trivial⟩, hp⟩
                rintro a w ⟨hf, hp⟩
                refine th_n ?_
                refine wp_seq ?_
                refine wp_reg ?_
                refine st_move hf rfl rfl (by decide) ?_
                clear hf; intro a ha hf; clear ha
                refine st_move hf rfl rfl (by decide) ?_
                clear hf; intro a ha hf; clear ha
                refine st_move hf rfl rfl (by decide) ?_
                clear hf; intro a ha hf; clear ha
                refine st_move hf rfl rfl (by decide) ?_
                clear hf; intro a ha hf; clear ha
                refine st_isub hf (by decide) rfl rfl rfl ?_
                clear hf; intro a ha hf; clear ha
                obtain ⟨hc272, h⟩ := chk h
                refine st_index (E := (Ek.pair Ek.c128 Ek.bool)) hf (by decide) Try.underlying27 elt35 rfl rfl rfl (hp.sl (i := 2) rfl) hc272.1 hc272.2 ?_
                clear hf; intro a ha hf; clear ha
                refine st_ldQA (F := (Ek.pair Ek.c128 Ek.bool)) (yv := (gt xx13 (IntKind.i64.wrap ((IntKind.i64.wrap ((IntKind.i64.wrap ((bits3.length : Int) + q5.1)) - (1 : Int))) - (1 : Int))))) (m := 2) hf (by decide) (by kernel_rfl) rfl rfl rfl (Part.whole (hp.sl (i := 2) rfl) hc272.1 hc272.2) ?_
                clear hf; intro a cs273 hr274 ha hf; clear ha
                obtain ⟨_, _, rfl, ⟨bb275, bb276, rfl, y277, y278⟩, rfl⟩ := hr274
                replace hf : Fr _ _ ((318, .agg #[.complex .f64 bb275 bb276, .bool ((gt xx13 (IntKind.i64.wrap ((IntKind.i64.wrap ((IntKind.i64.wrap ((bits3.length : Int) + q5.1)) - (1 : Int))) - (1 : Int)))).2)]) :: _) := hf
                obtain ⟨q279, hcall280, h⟩ := bnd h
                refine st_call hf (by decide) Try.func11 rfl rfl rfl rfl rfl (f_soft_Cost_c hp _ _ _ _ _ (show Fl.rep bb275 ((gt xx13 (IntKind.i64.wrap ((IntKind.i64.wrap ((IntKind.i64.wrap ((bits3.length : Int) + q5.1)) - (1 : Int))) - (1 : Int)))).1).1 from y277) (show Fl.rep bb276 ((gt xx13 (IntKind.i64.wrap ((IntKind.i64.wrap ((IntKind.i64.wrap ((bits3.length : Int) + q5.1)) - (1 : Int))) - (1 : Int)))).1).2 from y278) _ hcall280) ?_
                rintro _ w ⟨v281, rfl, y282, hp0⟩
                clear hp; have hp := hp0; clear hp0
                replace hp : Hp _ _ _ (Res.obj 24 v7 [.int .i64 d11c_0, .int .u32 d11c_1, .int .u32 d11c_2] :: Res.obj 67 v226 [.int .i64 from36c_0, .int .i64 from36c_1] :: Res.sl (Ek.pair Ek.c128 Ek.bool) 35 v233 xx13 :: Res.sl Ek.f64 29 v235 ends29 :: Res.sl Ek.f64 29 v237 ahead33 :: ow) := hp
                refine ⟨_, rfl, ?_⟩
                clear hf; intro a hf
                refine st_move hf rfl rfl (by decide) ?_
                clear hf; intro a ha hf; clear ha
                refine st_extract hf (by decide) rfl rfl rfl ?_
                clear hf; intro a ha hf; clear ha
                refine st_extract hf (by decide) rfl rfl rfl ?_
                clear hf; intro a ha hf; clear ha
                refine st_assign hf rfl rfl (by decide) ?_
                clear hf; intro a ha hf; clear ha
                refine st_assign hf rfl rfl (by decide) ?_
                clear hf; intro a ha hf; clear ha
                refine st_nil hf ?_
                refine th_n ?_
                refine wp_seq ?_
                refine wp_seq ?_
                refine wp_reg ?_
                refine st_move hf rfl rfl (by decide) ?_
                clear hf; intro a ha hf; clear ha
                refine st_ineq hf (by decide) rfl rfl rfl ?_
                clear hf; intro a ha hf; clear ha
                refine st_move hf rfl rfl (by decide) ?_
                clear hf; intro a ha hf; clear ha
                refine wpList_cut 3 (fun a w => Fr 347 a [(11, optr v7 0), (12, .int .i64 (IntKind.i64.wrap ((IntKind.i64.wrap ((bits3.length : Int) + q5.1)) - (1 : Int)))), (13, v233), (29, v235), (33, v237), (35, .int .i64 sx35), (36, optr v226 0), (38, .float .f64 bb251), (39, .int .i64 k39), (40, .int .i64 bx40), (41, .int .i64 q270.1), (45, .float .f64 v281), (327, .bool ((q270.2.2.2 != (0 : Int)) || (q279.2 != (0 : Int))))] ∧ Hp S w0 w (Res.obj 24 v7 [.int .i64 d11c_0, .int .u32 d11c_1, .int .u32 d11c_2] :: Res.obj 67 v226 [.int .i64 from36c_0, .int .i64 from36c_1] :: Res.sl (Ek.pair Ek.c128 Ek.bool) 35 v233 xx13 :: Res.sl Ek.f64 29 v235 ends29 :: Res.sl Ek.f64 29 v237 ahead33 :: ow)) ?_ ?_
                · rcases Bool.eq_false_or_eq_true (q270.2.2.2 != (0 : Int)) with hb284 | hb284
                  · skip
                    refine st_skip hf (wantN hf rfl rfl hb284) rfl (by decide) ?_ rfl
                    clear hf; intro a hf
                    refine st_skip hf (wantN hf rfl rfl hb284) rfl (by decide) ?_ rfl
                    clear hf; intro a hf
                    refine st_pick (v := .bool true) hf rfl rfl (fun hb' => ?_) (fun hb' => ?_) (by decide) ?_
                    · rfl
                    · exact absurd (hb284.symm.trans hb') (by decide)
                    clear hf; intro a ha hf; clear ha
                    refine st_nil hf (th_n ?_)
                    exact ⟨hf.sub ⟨rfl, rfl, rfl, rfl, rfl, rfl, rfl, rfl, rfl, rfl, rfl, rfl, (by rw [hb284]; rfl), trivial⟩, hp⟩
                  refine st_move hf (wantY hf rfl rfl hb284) rfl (by decide) ?_
                  clear hf; intro a ha hf; clear ha
                  refine st_ineq hf (by decide) (wantY hf rfl rfl hb284) rfl rfl ?_
                  clear hf; intro a ha hf; clear ha
                  refine st_pick (v := .bool (q279.2 != (0 : Int))) hf rfl rfl (fun hb' => ?_) (fun hb' => ?_) (by decide) ?_
                  · exact absurd (hb284.symm.trans hb') (by decide)
                  · rfl
                  clear hf; intro a ha hf; clear ha
                  refine st_nil hf (th_n ?_)
                  exact ⟨hf.sub ⟨rfl, rfl, rfl, rfl, rfl, rfl, rfl, rfl, rfl, rfl, rfl, rfl, (by rw [hb284]; rfl), trivial⟩, hp⟩
                rintro a w ⟨hf, hp⟩
                refine st_nil hf ?_
                refine th_n ?_
                refine wp_if hf rfl (fun hb => ?_) (fun hb => ?_)
                · replace h := ifT h hb
                  refine wp_seq ?_
                  refine wp_reg ?_
                  refine st_assign hf rfl rfl (by decide) ?_
                  clear hf; intro a ha hf; clear ha
                  refine st_nil hf ?_
                  refine th_n ?_
                  refine wp_ret ?_
                  refine th_r ?_
                  refine ib_r ?_
                  refine th_r ?_
                  obtain rfl := Option.some.inj h
                  have hp : Hp _ _ _ (ow) := Hp.sel (pre := [Res.obj 24 v7 [.int .i64 d11c_0, .int .u32 d11c_1, .int .u32 d11c_2], Res.obj 67 v226 [.int .i64 from36c_0, .int .i64 from36c_1], Res.sl (Ek.pair Ek.c128 Ek.bool) 35 v233 xx13, Res.sl Ek.f64 29 v235 ends29, Res.sl Ek.f64 29 v237 ahead33]) (tail := ow) (rs' := []) hp [] (by decide) (by simp) rfl
                  exact rnd_r (by simp) ⟨rfl, ⟨hf.sub ⟨rfl, trivial⟩, hp⟩⟩
                replace h := ifF h hb
                refine wp_skip ?_
                refine th_n ?_
                refine wp_seq ?_
                refine wp_reg ?_
                refine st_move hf rfl rfl (by decide) ?_
                clear hf; intro a ha hf; clear ha
                refine st_move hf rfl rfl (by decide) ?_
                clear hf; intro a ha hf; clear ha
                refine st_ieql hf (by decide) rfl rfl rfl ?_
                clear hf; intro a ha hf; clear ha
                refine st_nil hf ?_
                refine th_n ?_
                refine wp_if hf rfl (fun hb => ?_) (fun hb => ?_)
                · replace h := ifT h hb
                  refine wp_reg ?_
                  refine st_move hf rfl rfl (by decide) ?_
                  clear hf; intro a ha hf; clear ha
                  refine st_move hf rfl rfl (by decide) ?_
                  clear hf; intro a ha hf; clear ha
                  refine st_move hf rfl rfl (by decide) ?_
                  clear hf; intro a ha hf; clear ha
                  obtain ⟨hc285, h⟩ := chk h
                  refine st_ia (o' := 0 + (k39).toNat * 1) hf (by decide) Try.underlying67 (sz := 1) (by kernel_rfl) rfl rfl rfl (hp.ob (i := 1) rfl) hc285.1 hc285.2 rfl ?_
                  clear hf; intro a ha hf; clear ha
                  refine st_ldO (u := .int .i64 (gt [from36c_0, from36c_1] k39)) hf (by decide) pl3 rfl rfl (hp.ob (i := 1) rfl) (sel_int (xs := [from36c_0, from36c_1]) (N := 2) hc285 rfl) ?_
                  clear hf; intro a ha hf; clear ha
                  obtain ⟨hc286, h⟩ := chk h
                  refine st_index (E := Ek.f64) hf (by decide) Try.underlying50 elt29 rfl rfl rfl (hp.sl (i := 4) rfl) hc286.1 hc286.2 ?_
                  clear hf; intro a ha hf; clear ha
                  refine st_ldF hf (by decide) pl29 rfl rfl (hp.sl (i := 4) rfl) hc286.1 hc286.2 ?_
                  clear hf; intro a bb287 y288 ha hf; clear ha
                  refine st_move hf rfl rfl (by decide) ?_
                  clear hf; intro a ha hf; clear ha
                  refine st_farith (op := .add) rfl hf (by decide) hp rfl rfl rfl (show Fl.rep bb287 (gt ahead33 (gt [from36c_0, from36c_1] k39)) from y288) (show Fl.rep v281 q279.1 from y282) ?_
                  clear hf; intro a w bb289 y290 hf hp0; clear hp; have hp := hp0; clear hp0
                  replace hp : Hp _ _ _ (Res.obj 24 v7 [.int .i64 d11c_0, .int .u32 d11c_1, .int .u32 d11c_2] :: Res.obj 67 v226 [.int .i64 from36c_0, .int .i64 from36c_1] :: Res.sl (Ek.pair Ek.c128 Ek.bool) 35 v233 xx13 :: Res.sl Ek.f64 29 v235 ends29 :: Res.sl Ek.f64 29 v237 ahead33 :: ow) := hp
                  obtain ⟨q291, hq292, h⟩ := bnd h
                  refine st_fminS (fx := best38) (fy := (fadd (gt ahead33 (gt [from36c_0, from36c_1] k39)) q279.1)) hf (by decide) rfl rfl rfl y252 y290 hq292 ?_
                  clear hf; intro a ha hf; clear ha
                  refine st_assign hf rfl rfl (by decide) ?_
                  clear hf; intro a ha hf; clear ha
                  refine st_nil hf ?_
                  refine ib_n ?_
                  refine th_n ?_
                  refine wp_reg ?_
                  refine st_move hf rfl rfl (by decide) ?_
                  clear hf; intro a ha hf; clear ha
                  refine st_iadd hf (by decide) rfl rfl rfl ?_
                  clear hf; intro a ha hf; clear ha
                  refine st_assign hf rfl rfl (by decide) ?_
                  clear hf; intro a ha hf; clear ha
                  refine st_nil hf ?_
                  obtain rfl := Option.some.inj h
                  have hp : Hp _ _ _ (Res.obj 24 v7 [.int .i64 d11c_0, .int .u32 d11c_1, .int .u32 d11c_2] :: Res.sl (Ek.pair Ek.c128 Ek.bool) 35 v233 xx13 :: Res.sl Ek.f64 29 v235 ends29 :: Res.sl Ek.f64 29 v237 ahead33 :: Res.obj 67 v226 [.int .i64 from36c_0, .int .i64 from36c_1] :: ow) := Hp.sel (pre := [Res.obj 24 v7 [.int .i64 d11c_0, .int .u32 d11c_1, .int .u32 d11c_2], Res.obj 67 v226 [.int .i64 from36c_0, .int .i64 from36c_1], Res.sl (Ek.pair Ek.c128 Ek.bool) 35 v233 xx13, Res.sl Ek.f64 29 v235 ends29, Res.sl Ek.f64 29 v237 ahead33]) (tail := ow) (rs' := [Res.obj 24 v7 [.int .i64 d11c_0, .int .u32 d11c_1, .int .u32 d11c_2], Res.sl (Ek.pair Ek.c128 Ek.bool) 35 v233 xx13, Res.sl Ek.f64 29 v235 ends29, Res.sl Ek.f64 29 v237 ahead33, Res.obj 67 v226 [.int .i64 from36c_0, .int .i64 from36c_1]]) hp [0, 2, 3, 4, 1] (by decide) (by simp) rfl
                  exact rnd_l ⟨_, hf.sub ⟨rfl, rfl, rfl, rfl, rfl, rfl, rfl, rfl, rfl, rfl, trivial⟩, (fminS_rep hq292), hp⟩
                replace h := ifF h hb
                refine wp_skip ?_
                refine ib_n ?_
                refine th_n ?_
                refine wp_reg ?_
                refine st_move hf rfl rfl (by decide) ?_
                clear hf; intro a ha hf; clear ha
                refine st_iadd hf (by decide) rfl rfl rfl ?_
                clear hf; intro a ha hf; clear ha
                refine st_assign hf rfl rfl (by decide) ?_
                clear hf; intro a ha hf; clear ha
                refine st_nil hf ?_
                obtain rfl := Option.some.inj h
                have hp : Hp _ _ _ (Res.obj 24 v7 [.int .i64 d11c_0, .int .u32 d11c_1, .int .u32 d11c_2] :: Res.sl (Ek.pair Ek.c128 Ek.bool) 35 v233 xx13 :: Res.sl Ek.f64 29 v235 ends29 :: Res.sl Ek.f64 29 v237 ahead33 :: Res.obj 67 v226 [.int .i64 from36c_0, .int .i64 from36c_1] :: ow) := Hp.sel (pre := [Res.obj 24 v7 [.int .i64 d11c_0, .int .u32 d11c_1, .int .u32 d11c_2], Res.obj 67 v226 [.int .i64 from36c_0, .int .i64 from36c_1], Res.sl (Ek.pair Ek.c128 Ek.bool) 35 v233 xx13, Res.sl Ek.f64 29 v235 ends29, Res.sl Ek.f64 29 v237 ahead33]) (tail := ow) (rs' := [Res.obj 24 v7 [.int .i64 d11c_0, .int .u32 d11c_1, .int .u32 d11c_2], Res.sl (Ek.pair Ek.c128 Ek.bool) 35 v233 xx13, Res.sl Ek.f64 29 v235 ends29, Res.sl Ek.f64 29 v237 ahead33, Res.obj 67 v226 [.int .i64 from36c_0, .int .i64 from36c_1]]) hp [0, 2, 3, 4, 1] (by decide) (by simp) rfl
                exact rnd_l ⟨_, hf.sub ⟨rfl, rfl, rfl, rfl, rfl, rfl, rfl, rfl, rfl, rfl, trivial⟩, y252, hp⟩
              replace h := ifF h hb
              refine wp_exit ?_
              refine th_e ?_
              obtain rfl := Option.some.inj h
              exact rnd_r (by simp) ⟨rfl, _, hf.sub ⟨rfl, rfl, rfl, rfl, rfl, rfl, rfl, rfl, rfl, trivial⟩, y252, hp⟩
            clear hl hf hp
            intro e a w hne hO
            rcases q293 with q294 | q295
            · replace h := smL h
              obtain ⟨rfl, bb253, hf, y254, hp⟩ := hO
              refine ib_same ?_
              refine ib_n ?_
              refine th_n ?_
              refine wp_reg ?_
              refine st_move hf rfl rfl (by decide) ?_
              clear hf; intro a ha hf; clear ha
              refine st_iadd hf (by decide) rfl rfl rfl ?_
              clear hf; intro a ha hf; clear ha
              refine st_assign hf rfl rfl (by decide) ?_
              clear hf; intro a ha hf; clear ha
              refine st_nil hf ?_
              obtain rfl := Option.some.inj h
              exact rnd_l ⟨_, _, _, _, hf.sub ⟨rfl, rfl, rfl, rfl, rfl, rfl, rfl, rfl, rfl, trivial⟩, y254, hp⟩
            replace h := smR h
            obtain ⟨rfl, hf, hp⟩ := hO
            refine ib_r ?_
            refine ib_r ?_
            refine th_r ?_
            obtain rfl := Option.some.inj h
            exact rnd_r (by simp) ⟨rfl, ⟨hf.sub ⟨rfl, trivial⟩, hp⟩⟩
          replace h := ifF h hb
          refine wp_exit ?_
          refine th_e ?_
          obtain rfl := Option.some.inj h
          have hp : Hp _ _ _ (Res.obj 24 v7 [.int .i64 d11c_0, .int .u32 d11c_1, .int .u32 d11c_2] :: Res.sl (Ek.pair Ek.c128 Ek.bool) 35 v233 xx13 :: Res.sl Ek.f64 29 v235 ends29 :: Res.sl Ek.f64 29 v237 ahead33 :: ow) := Hp.sel (pre := [Res.obj 24 v7 [.int .i64 d11c_0, .int .u32 d11c_1, .int .u32 d11c_2], Res.sl (Ek.pair Ek.c128 Ek.bool) 35 v233 xx13, Res.sl Ek.f64 29 v235 ends29, Res.sl Ek.f64 29 v237 ahead33, Res.obj 67 v226 [.int .i64 from36c_0, .int .i64 from36c_1]]) (tail := ow) (rs' := [Res.obj 24 v7 [.int .i64 d11c_0, .int .u32 d11c_1, .int .u32 d11c_2], Res.sl (Ek.pair Ek.c128 Ek.bool) 35 v233 xx13, Res.sl Ek.f64 29 v235 ends29, Res.sl Ek.f64 29 v237 ahead33]) hp [0, 1, 2, 3] (by decide) (by simp) rfl
          exact rnd_r (by simp) ⟨rfl, _, _, _, _, hf.sub ⟨rfl, rfl, rfl, rfl, rfl, rfl, rfl, trivial⟩, y241, hp⟩
        clear hl hf hp
        intro e a w hne hO
        rcases q296 with q297 | q298
        · replace h := smL h
          obtain ⟨rfl, v243, v245, v247, bb249, hf, y250, hp⟩ := hO
          refine ib_same ?_
          refine th_n ?_
          refine wp_seq ?_
          refine wp_reg ?_
          refine st_move hf rfl rfl (by decide) ?_
          clear hf; intro a ha hf; clear ha
          refine st_move hf rfl rfl (by decide) ?_
          clear hf; intro a ha hf; clear ha
          obtain ⟨hc299, h⟩ := chk h
          refine st_index (E := Ek.f64) hf (by decide) Try.underlying50 elt29 rfl rfl rfl (hp.sl (i := 2) rfl) hc299.1 hc299.2 ?_
          clear hf; intro a ha hf; clear ha
          refine st_ldF hf (by decide) pl29 rfl rfl (hp.sl (i := 2) rfl) hc299.1 hc299.2 ?_
          clear hf; intro a bb300 y301 ha hf; clear ha
          refine st_move hf rfl rfl (by decide) ?_
          clear hf; intro a ha hf; clear ha
          refine st_fcmp (r_fne (fx := (gt q297.2.2.2.2.1 sx35)) (fy := q297.2.2.2.2.2.2) y301 y250) hf (by decide) rfl rfl rfl ?_
          clear hf; intro a ha hf; clear ha
          refine st_nil hf ?_
          refine th_n ?_
          refine wp_if hf rfl (fun hb => ?_) (fun hb => ?_)
          · replace h := ifT h hb
            refine wp_seq ?_
            refine wp_reg ?_
            refine st_assign hf rfl rfl (by decide) ?_
            clear hf; intro a ha hf; clear ha
            refine st_nil hf ?_
            refine th_n ?_
            refine wp_ret ?_
            refine ib_r ?_
            refine th_r ?_
            obtain rfl := Option.some.inj h
            have hp : Hp _ _ _ (ow) := Hp.sel (pre := [Res.obj 24 v7 [.int .i64 q297.1, .int .u32 q297.2.1, .int .u32 q297.2.2.1], Res.sl (Ek.pair Ek.c128 Ek.bool) 35 v243 q297.2.2.2.1, Res.sl Ek.f64 29 v245 q297.2.2.2.2.1, Res.sl Ek.f64 29 v247 q297.2.2.2.2.2.1]) (tail := ow) (rs' := []) hp [] (by decide) (by simp) rfl
            exact rnd_r (by simp) ⟨rfl, ⟨hf.sub ⟨rfl, trivial⟩, hp⟩⟩
          replace h := ifF h hb
          refine wp_skip ?_
          refine ib_n ?_
          refine th_n ?_
          refine wp_reg ?_
          refine st_move hf rfl rfl (by decide) ?_
          clear hf; intro a ha hf; clear ha
          refine st_iadd hf (by decide) rfl rfl rfl ?_
          clear hf; intro a ha hf; clear ha
          refine st_assign hf rfl rfl (by decide) ?_
          clear hf; intro a ha hf; clear ha
          refine st_nil hf ?_
          obtain rfl := Option.some.inj h
          exact rnd_l ⟨_, _, _, hf.sub ⟨rfl, rfl, rfl, rfl, rfl, rfl, trivial⟩, hp⟩
        replace h := smR h
        obtain ⟨rfl, hf, hp⟩ := hO
        refine ib_r ?_
        refine th_r ?_
        refine ib_r ?_
        refine th_r ?_
        obtain rfl := Option.some.inj h
        exact rnd_r (by simp) ⟨rfl, ⟨hf.sub ⟨rfl, trivial⟩, hp⟩⟩
      replace h := ifF h hb
      refine wp_exit ?_
      refine th_e ?_
      obtain rfl := Option.some.inj h
      have hp : Hp _ _ _ (ow) := Hp.sel (pre := [Res.obj 24 v7 [.int .i64 d11c_0, .int .u32 d11c_1, .int .u32 d11c_2], Res.sl (Ek.pair Ek.c128 Ek.bool) 35 v216 xx13, Res.sl Ek.f64 29 v218 ends29, Res.sl Ek.f64 29 v220 ahead33]) (tail := ow) (rs' := []) hp [] (by decide) (by simp) rfl
      exact rnd_r (by simp) ⟨rfl, hf.sub trivial, hp⟩
    clear hl hf hp
    intro e a w hne hO
    rcases q302 with q303 | q304
    · replace h := smL h
      obtain ⟨rfl, hf, hp⟩ := hO
      refine ib_same ?_
      refine th_n ?_
      refine wp_seq ?_
      refine wp_reg ?_
      refine st_assign hf rfl rfl (by decide) ?_
      clear hf; intro a ha hf; clear ha
      refine st_nil hf ?_
      refine th_n ?_
      refine wp_ret ?_
      obtain rfl := Option.some.inj h
      exact ⟨rfl, ⟨hf.sub ⟨rfl, trivial⟩, hp⟩⟩
    replace h := smR h
    obtain ⟨rfl, hf, hp⟩ := hO
    refine ib_r ?_
    refine th_r ?_
    obtain rfl := Option.some.inj h
    exact ⟨rfl, ⟨hf.sub ⟨rfl, trivial⟩, hp⟩⟩
  replace h := smR h
  obtain ⟨rfl, hf, hp⟩ := hO
  refine ib_r ?_
  refine th_r ?_
  obtain rfl := Option.some.inj h
  exact ⟨rfl, ⟨hf.sub ⟨rfl, trivial⟩, hp⟩⟩

end Go.Proofs.Ytcooefnbolobaaa
