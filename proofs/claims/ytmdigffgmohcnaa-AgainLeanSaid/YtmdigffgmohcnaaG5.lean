/- The functions foghorn foghornlaw28.AgainLean: what each answers, as a plain function, and that its call answers it; printed by gen.py. -/
import Derived.Test.YtmdigffgmohcnaaProg
import Derived.Test.YtmdigffgmohcnaaGlUb
import Derived.KernelRfl
import Derived.Test.YtmdigffgmohcnaaG5p4
set_option linter.unusedVariables false
set_option linter.unusedSimpArgs false
set_option maxRecDepth 100000
set_option maxHeartbeats 4000000
namespace Go.Proofs.Ytmdigffgmohcnaa
open GL
noncomputable def f_foghornlaw28_AgainLean.s1c (many2 : Int) (sx9c_0 : Int) (sx9c_1 : Int) (sx9c_2 : Int) (sx9c_3 : Int) (sx9c_4 : (List (ByteArray × Bool × Int × Bool))) (k14c_0 : Int) (k14c_2c_0 : Int) (k14c_2c_1 : Int) (k14c_2c_2 : (List (Int × ByteArray))) (k14c_3 : (List (Int × Int × (Int × Int × Bool × ByteArray)))) (k14c_4 : (List (Int × Int × (Int × Int × Bool × ByteArray)))) (k14c_5 : (List Int)) (k14c_6 : Int) (k14c_7 : (List (Int × Int))) (k14c_8 : Int) (k14c_9 : Int) (k14c_10 : Int) (k14c_11 : (List ByteArray)) (k14c_12 : Bool) (k14c_13 : (List Int)) (i15 : Int) : Option ((Int × Int × Int × Int × (List (ByteArray × Bool × Int × Bool)) × Int × Int × Int × (List (Int × ByteArray)) × (List (Int × Int × (Int × Int × Bool × ByteArray))) × (List (Int × Int × (Int × Int × Bool × ByteArray))) × (List Int) × Int × (List (Int × Int)) × Int × Int × Int × (List ByteArray) × Bool × (List Int) × Int) ⊕ ((Int × Int × Int × Int × (List (ByteArray × Bool × Int × Bool)) × Int × Int × Int × (List (Int × ByteArray)) × (List (Int × Int × (Int × Int × Bool × ByteArray))) × (List (Int × Int × (Int × Int × Bool × ByteArray))) × (List Int) × Int × (List (Int × Int)) × Int × Int × Int × (List ByteArray) × Bool × (List Int)) ⊕ Bool)) := (if (decide (i15 < (IntKind.i64.wrap (((IntKind.u64.wrap many2)).tmod (300 : Int))))) = true then ((f_again_Sender_Offer sx9c_0 sx9c_1 sx9c_2 sx9c_3 sx9c_4 (ByteArray.mk #[120])).bind fun q72 => (if (q72.1 != (0 : Int)) = true then (some (Sum.inr (Sum.inr false))) else (some (Sum.inl (q72.2.1, q72.2.2.1, q72.2.2.2.1, q72.2.2.2.2.1, q72.2.2.2.2.2, k14c_0, k14c_2c_0, k14c_2c_1, k14c_2c_2, k14c_3, k14c_4, k14c_5, k14c_6, k14c_7, k14c_8, k14c_9, k14c_10, k14c_11, k14c_12, k14c_13, (IntKind.i64.wrap (i15 + (1 : Int)))))))) else (some (Sum.inr (Sum.inl (sx9c_0, sx9c_1, sx9c_2, sx9c_3, sx9c_4, k14c_0, k14c_2c_0, k14c_2c_1, k14c_2c_2, k14c_3, k14c_4, k14c_5, k14c_6, k14c_7, k14c_8, k14c_9, k14c_10, k14c_11, k14c_12, k14c_13)))))
noncomputable def f_foghornlaw28_AgainLean.s1 (many2 : Int) (s : (Int × Int × Int × Int × (List (ByteArray × Bool × Int × Bool)) × Int × Int × Int × (List (Int × ByteArray)) × (List (Int × Int × (Int × Int × Bool × ByteArray))) × (List (Int × Int × (Int × Int × Bool × ByteArray))) × (List Int) × Int × (List (Int × Int)) × Int × Int × Int × (List ByteArray) × Bool × (List Int) × Int)) : Option ((Int × Int × Int × Int × (List (ByteArray × Bool × Int × Bool)) × Int × Int × Int × (List (Int × ByteArray)) × (List (Int × Int × (Int × Int × Bool × ByteArray))) × (List (Int × Int × (Int × Int × Bool × ByteArray))) × (List Int) × Int × (List (Int × Int)) × Int × Int × Int × (List ByteArray) × Bool × (List Int) × Int) ⊕ ((Int × Int × Int × Int × (List (ByteArray × Bool × Int × Bool)) × Int × Int × Int × (List (Int × ByteArray)) × (List (Int × Int × (Int × Int × Bool × ByteArray))) × (List (Int × Int × (Int × Int × Bool × ByteArray))) × (List Int) × Int × (List (Int × Int)) × Int × Int × Int × (List ByteArray) × Bool × (List Int)) ⊕ Bool)) := f_foghornlaw28_AgainLean.s1c many2 s.1 s.2.1 s.2.2.1 s.2.2.2.1 s.2.2.2.2.1 s.2.2.2.2.2.1 s.2.2.2.2.2.2.1 s.2.2.2.2.2.2.2.1 s.2.2.2.2.2.2.2.2.1 s.2.2.2.2.2.2.2.2.2.1 s.2.2.2.2.2.2.2.2.2.2.1 s.2.2.2.2.2.2.2.2.2.2.2.1 s.2.2.2.2.2.2.2.2.2.2.2.2.1 s.2.2.2.2.2.2.2.2.2.2.2.2.2.1 s.2.2.2.2.2.2.2.2.2.2.2.2.2.2.1 s.2.2.2.2.2.2.2.2.2.2.2.2.2.2.2.1 s.2.2.2.2.2.2.2.2.2.2.2.2.2.2.2.2.1 s.2.2.2.2.2.2.2.2.2.2.2.2.2.2.2.2.2.1 s.2.2.2.2.2.2.2.2.2.2.2.2.2.2.2.2.2.2.1 s.2.2.2.2.2.2.2.2.2.2.2.2.2.2.2.2.2.2.2.1 s.2.2.2.2.2.2.2.2.2.2.2.2.2.2.2.2.2.2.2.2
noncomputable def f_foghornlaw28_AgainLean.s2c (many2 : Int) (sx9c_0 : Int) (sx9c_1 : Int) (sx9c_2 : Int) (sx9c_3 : Int) (sx9c_4 : (List (ByteArray × Bool × Int × Bool))) (k14c_0 : Int) (k14c_2c_0 : Int) (k14c_2c_1 : Int) (k14c_2c_2 : (List (Int × ByteArray))) (k14c_3 : (List (Int × Int × (Int × Int × Bool × ByteArray)))) (k14c_4 : (List (Int × Int × (Int × Int × Bool × ByteArray)))) (k14c_5 : (List Int)) (k14c_6 : Int) (k14c_7 : (List (Int × Int))) (k14c_8 : Int) (k14c_9 : Int) (k14c_10 : Int) (k14c_11 : (List ByteArray)) (k14c_12 : Bool) (k14c_13 : (List Int)) (now16 : Int) : Option ((Int × Int × Int × Int × (List (ByteArray × Bool × Int × Bool)) × Int × Int × Int × (List (Int × ByteArray)) × (List (Int × Int × (Int × Int × Bool × ByteArray))) × (List (Int × Int × (Int × Int × Bool × ByteArray))) × (List Int) × Int × (List (Int × Int)) × Int × Int × Int × (List ByteArray) × Bool × (List Int) × Int) ⊕ ((Int × Int × Int × Int × (List (ByteArray × Bool × Int × Bool)) × Int × Int × Int × (List (Int × ByteArray)) × (List (Int × Int × (Int × Int × Bool × ByteArray))) × (List (Int × Int × (Int × Int × Bool × ByteArray))) × (List Int) × Int × (List (Int × Int)) × Int × Int × Int × (List ByteArray) × Bool × (List Int)) ⊕ Bool)) := ((if (decide (now16 < (IntKind.i64.wrap ((IntKind.i64.wrap ((20 : Int) * (IntKind.i64.wrap (((IntKind.u64.wrap many2)).tmod (300 : Int))))) + (20 : Int))))) = true then ((f_again_Sender_Left sx9c_0 sx9c_1 sx9c_2 sx9c_3 sx9c_4).bind fun q124 => (some (decide ((0 : Int) < q124)))) else (some false)).bind fun z123 => (if z123 = true then ((f_foghornlaw28_link_tick k14c_0 (some (sx9c_0, sx9c_1, sx9c_2, sx9c_3, sx9c_4)) (some (k14c_2c_0, k14c_2c_1, k14c_2c_2)) k14c_3 k14c_4 k14c_5 k14c_6 k14c_7 k14c_8 k14c_9 k14c_10 k14c_11 k14c_12 k14c_13 now16).bind fun q136 => ((q136.2.2.1).bind fun s154 => ((q136.2.2.2.1).bind fun s158 => (if ((!q136.1) || q136.2.2.2.2.2.2.2.2.2.2.2.2.2.1) = true then (some (Sum.inr (Sum.inr false))) else (some (Sum.inl (s154.1, s154.2.1, s154.2.2.1, s154.2.2.2.1, s154.2.2.2.2, q136.2.1, s158.1, s158.2.1, s158.2.2, q136.2.2.2.2.1, q136.2.2.2.2.2.1, k14c_5, q136.2.2.2.2.2.2.2.1, q136.2.2.2.2.2.2.2.2.1, q136.2.2.2.2.2.2.2.2.2.1, q136.2.2.2.2.2.2.2.2.2.2.1, q136.2.2.2.2.2.2.2.2.2.2.2.1, q136.2.2.2.2.2.2.2.2.2.2.2.2.1, q136.2.2.2.2.2.2.2.2.2.2.2.2.2.1, q136.2.2.2.2.2.2.2.2.2.2.2.2.2.2, (IntKind.i64.wrap (now16 + (1 : Int)))))))))) else (some (Sum.inr (Sum.inl (sx9c_0, sx9c_1, sx9c_2, sx9c_3, sx9c_4, k14c_0, k14c_2c_0, k14c_2c_1, k14c_2c_2, k14c_3, k14c_4, k14c_5, k14c_6, k14c_7, k14c_8, k14c_9, k14c_10, k14c_11, k14c_12, k14c_13))))))
noncomputable def f_foghornlaw28_AgainLean.s2 (many2 : Int) (s : (Int × Int × Int × Int × (List (ByteArray × Bool × Int × Bool)) × Int × Int × Int × (List (Int × ByteArray)) × (List (Int × Int × (Int × Int × Bool × ByteArray))) × (List (Int × Int × (Int × Int × Bool × ByteArray))) × (List Int) × Int × (List (Int × Int)) × Int × Int × Int × (List ByteArray) × Bool × (List Int) × Int)) : Option ((Int × Int × Int × Int × (List (ByteArray × Bool × Int × Bool)) × Int × Int × Int × (List (Int × ByteArray)) × (List (Int × Int × (Int × Int × Bool × ByteArray))) × (List (Int × Int × (Int × Int × Bool × ByteArray))) × (List Int) × Int × (List (Int × Int)) × Int × Int × Int × (List ByteArray) × Bool × (List Int) × Int) ⊕ ((Int × Int × Int × Int × (List (ByteArray × Bool × Int × Bool)) × Int × Int × Int × (List (Int × ByteArray)) × (List (Int × Int × (Int × Int × Bool × ByteArray))) × (List (Int × Int × (Int × Int × Bool × ByteArray))) × (List Int) × Int × (List (Int × Int)) × Int × Int × Int × (List ByteArray) × Bool × (List Int)) ⊕ Bool)) := f_foghornlaw28_AgainLean.s2c many2 s.1 s.2.1 s.2.2.1 s.2.2.2.1 s.2.2.2.2.1 s.2.2.2.2.2.1 s.2.2.2.2.2.2.1 s.2.2.2.2.2.2.2.1 s.2.2.2.2.2.2.2.2.1 s.2.2.2.2.2.2.2.2.2.1 s.2.2.2.2.2.2.2.2.2.2.1 s.2.2.2.2.2.2.2.2.2.2.2.1 s.2.2.2.2.2.2.2.2.2.2.2.2.1 s.2.2.2.2.2.2.2.2.2.2.2.2.2.1 s.2.2.2.2.2.2.2.2.2.2.2.2.2.2.1 s.2.2.2.2.2.2.2.2.2.2.2.2.2.2.2.1 s.2.2.2.2.2.2.2.2.2.2.2.2.2.2.2.2.1 s.2.2.2.2.2.2.2.2.2.2.2.2.2.2.2.2.2.1 s.2.2.2.2.2.2.2.2.2.2.2.2.2.2.2.2.2.2.1 s.2.2.2.2.2.2.2.2.2.2.2.2.2.2.2.2.2.2.2.1 s.2.2.2.2.2.2.2.2.2.2.2.2.2.2.2.2.2.2.2.2
noncomputable def f_foghornlaw28_AgainLean.s3c (many2 : Int) (q165 : (Int × Int × Int × Int × (List (ByteArray × Bool × Int × Bool)) × Int × Int × Int × (List (Int × ByteArray)) × (List (Int × Int × (Int × Int × Bool × ByteArray))) × (List (Int × Int × (Int × Int × Bool × ByteArray))) × (List Int) × Int × (List (Int × Int)) × Int × Int × Int × (List ByteArray) × Bool × (List Int))) (i17 : Int) : Option (Int ⊕ (Unit ⊕ Bool)) := (if (decide (i17 < (IntKind.i64.wrap (((IntKind.u64.wrap many2)).tmod (300 : Int))))) = true then (if 0 ≤ i17 ∧ i17 < (q165.2.2.2.2.2.2.2.2.2.2.2.2.2.2.2.2.2.2.2.length : Int) then (if ((gt q165.2.2.2.2.2.2.2.2.2.2.2.2.2.2.2.2.2.2.2 i17) != (1 : Int)) = true then (some (Sum.inr (Sum.inr false))) else (some (Sum.inl (IntKind.i64.wrap (i17 + (1 : Int)))))) else none) else (some (Sum.inr (Sum.inl ()))))
noncomputable def f_foghornlaw28_AgainLean.s3 (many2 : Int) (q165 : (Int × Int × Int × Int × (List (ByteArray × Bool × Int × Bool)) × Int × Int × Int × (List (Int × ByteArray)) × (List (Int × Int × (Int × Int × Bool × ByteArray))) × (List (Int × Int × (Int × Int × Bool × ByteArray))) × (List Int) × Int × (List (Int × Int)) × Int × Int × Int × (List ByteArray) × Bool × (List Int))) (s : Int) : Option (Int ⊕ (Unit ⊕ Bool)) := f_foghornlaw28_AgainLean.s3c many2 q165 s
noncomputable def f_foghornlaw28_AgainLean.s4c (wait1 : Int) (many2 : Int) (sx9c_0 : Int) (sx9c_1 : Int) (sx9c_2 : Int) (sx9c_3 : Int) (sx9c_4 : (List (ByteArray × Bool × Int × Bool))) (now19 : Int) : Option ((Int × Int × Int × Int × (List (ByteArray × Bool × Int × Bool)) × Int) ⊕ (Unit ⊕ Bool)) := (if (decide (now19 ≤ (IntKind.i64.wrap ((2 : Int) * (IntKind.i64.wrap ((9 : Int) + (IntKind.i64.wrap (((IntKind.u64.wrap wait1)).tmod (30 : Int))))))))) = true then ((f_again_Sender_Tick sx9c_0 sx9c_1 sx9c_2 sx9c_3 sx9c_4 (IntKind.i64.wrap ((IntKind.i64.wrap ((IntKind.i64.wrap ((20 : Int) * (IntKind.i64.wrap (((IntKind.u64.wrap many2)).tmod (300 : Int))))) + (100 : Int))) + now19))).bind fun q197 => ((if (q197.2.1 != (0 : Int)) = true then (some true) else (if (IntKind.i64.wrap ((9 : Int) + (IntKind.i64.wrap (((IntKind.u64.wrap wait1)).tmod (30 : Int))))) ≠ 0 then (some (((q197.1.length : Int) == (1 : Int)) != (((now19).tmod (IntKind.i64.wrap ((9 : Int) + (IntKind.i64.wrap (((IntKind.u64.wrap wait1)).tmod (30 : Int)))))) == (0 : Int)))) else none)).bind fun z206 => (if (z206 || (decide ((1 : Int) < (q197.1.length : Int)))) = true then (some (Sum.inr (Sum.inr false))) else (some (Sum.inl (q197.2.2.1, q197.2.2.2.1, q197.2.2.2.2.1, q197.2.2.2.2.2.1, q197.2.2.2.2.2.2, (IntKind.i64.wrap (now19 + (1 : Int))))))))) else (some (Sum.inr (Sum.inl ()))))
noncomputable def f_foghornlaw28_AgainLean.s4 (wait1 : Int) (many2 : Int) (s : (Int × Int × Int × Int × (List (ByteArray × Bool × Int × Bool)) × Int)) : Option ((Int × Int × Int × Int × (List (ByteArray × Bool × Int × Bool)) × Int) ⊕ (Unit ⊕ Bool)) := f_foghornlaw28_AgainLean.s4c wait1 many2 s.1 s.2.1 s.2.2.1 s.2.2.2.1 s.2.2.2.2.1 s.2.2.2.2.2
noncomputable def f_foghornlaw28_AgainLean (window0 : Int) (wait1 : Int) (many2 : Int) (late3 : Int) : Option Bool := ((f_foghornlaw28_works).bind fun q1 => (if (!q1) = true then (some false) else ((f_again_NewSender (IntKind.i64.wrap ((1 : Int) + (IntKind.i64.wrap (((IntKind.u64.wrap window0)).tmod (128 : Int))))) (IntKind.i64.wrap ((9 : Int) + (IntKind.i64.wrap (((IntKind.u64.wrap wait1)).tmod (30 : Int)))))).bind fun q3 => ((f_again_NewReceiver (IntKind.i64.wrap ((1 : Int) + (IntKind.i64.wrap (((IntKind.u64.wrap window0)).tmod (128 : Int)))))).bind fun q7 => (if ((((q3.2 != (0 : Int)) || (q7.2 != (0 : Int))) || ((q3.1).isNone)) || ((q7.1).isNone)) = true then (some false) else (if 0 ≤ (IntKind.i64.wrap (((IntKind.u64.wrap many2)).tmod (300 : Int))) ∧ (IntKind.i64.wrap (((IntKind.u64.wrap many2)).tmod (300 : Int))) ≤ (IntKind.i64.wrap (((IntKind.u64.wrap many2)).tmod (300 : Int))) ∧ (IntKind.i64.wrap (((IntKind.u64.wrap many2)).tmod (300 : Int))) * 8 ≤ 281474976710656 then ((q3.1).bind fun s24 => ((q7.1).bind fun s28 => ((loop (f_foghornlaw28_AgainLean.s1 many2) (s24.1, s24.2.1, s24.2.2.1, s24.2.2.2.1, s24.2.2.2.2, (IntKind.i64.wrap ((1 : Int) + (IntKind.i64.wrap (((IntKind.u64.wrap window0)).tmod (128 : Int))))), s28.1, s28.2.1, s28.2.2, [], [], [(iand .u8 (iandn .u8 late3 (1 : Int)) (7 : Int))], (0 : Int), ([] : (List (Int × Int))), (0 : Int), (0 : Int), (IntKind.i64.wrap (((IntKind.u64.wrap many2)).tmod (300 : Int))), [], false, (List.replicate ((IntKind.i64.wrap (((IntKind.u64.wrap many2)).tmod (300 : Int)))).toNat (0 : Int)), (0 : Int))).bind (fun q77 => sm q77 (fun q81 => ((loop (f_foghornlaw28_AgainLean.s2 many2) (q81.1, q81.2.1, q81.2.2.1, q81.2.2.2.1, q81.2.2.2.2.1, q81.2.2.2.2.2.1, q81.2.2.2.2.2.2.1, q81.2.2.2.2.2.2.2.1, q81.2.2.2.2.2.2.2.2.1, q81.2.2.2.2.2.2.2.2.2.1, q81.2.2.2.2.2.2.2.2.2.2.1, q81.2.2.2.2.2.2.2.2.2.2.2.1, q81.2.2.2.2.2.2.2.2.2.2.2.2.1, q81.2.2.2.2.2.2.2.2.2.2.2.2.2.1, q81.2.2.2.2.2.2.2.2.2.2.2.2.2.2.1, q81.2.2.2.2.2.2.2.2.2.2.2.2.2.2.2.1, q81.2.2.2.2.2.2.2.2.2.2.2.2.2.2.2.2.1, q81.2.2.2.2.2.2.2.2.2.2.2.2.2.2.2.2.2.1, q81.2.2.2.2.2.2.2.2.2.2.2.2.2.2.2.2.2.2.1, q81.2.2.2.2.2.2.2.2.2.2.2.2.2.2.2.2.2.2.2, (0 : Int))).bind (fun q164 => sm q164 (fun q165 => ((loop (f_foghornlaw28_AgainLean.s3 many2 q165) (0 : Int)).bind (fun q168 => sm q168 (fun q169 => ((f_again_Sender_Left q165.1 q165.2.1 q165.2.2.1 q165.2.2.2.1 q165.2.2.2.2.1).bind fun q171 => ((if (q171 != (0 : Int)) = true then (some (true, q165.1, q165.2.1, q165.2.2.1, q165.2.2.2.1, q165.2.2.2.2.1)) else ((f_again_Sender_Offer q165.1 q165.2.1 q165.2.2.1 q165.2.2.2.1 q165.2.2.2.2.1 (ByteArray.mk #[108, 97, 115, 116])).bind fun q189 => (some ((q189.1 != (0 : Int)), q189.2.1, q189.2.2.1, q189.2.2.2.1, q189.2.2.2.2.1, q189.2.2.2.2.2)))).bind fun z188 => (if z188.1 = true then (some false) else ((loop (f_foghornlaw28_AgainLean.s4 wait1 many2) (z188.2.1, z188.2.2.1, z188.2.2.2.1, z188.2.2.2.2.1, z188.2.2.2.2.2, (0 : Int))).bind (fun q210 => sm q210 (fun q211 => (some true)) (fun q212 => (some q212)))))))) (fun q170 => (some q170))))) (fun q166 => (some q166))))) (fun q82 => (some q82)))))) else none))))))
theorem f_foghornlaw28_AgainLean_c {S : Nat → Prop} {w0 w : World} {ow : List Res} (hp : Hp S w0 w ow) (window0 : Int) (wait1 : Int) (many2 : Int) (late3 : Int) {r : Bool} (h : f_foghornlaw28_AgainLean window0 wait1 many2 late3 = some r) :
   Calls Try.prog 7 #[.int .i64 window0, .int .i64 wait1, .int .i64 many2, .int .u8 late3] w (fun e w' => e = .returned (.bool r) ∧ Hp S w0 w' (ow)) := by
  unfold f_foghornlaw28_AgainLean at h
  refine enter (n := 162) (args := [.int .i64 window0, .int .i64 wait1, .int .i64 many2, .int .u8 late3]) Try.func7 rfl rfl (Nat.le_of_ble_eq_true rfl) fun a hf => ?_
  replace hf : Fr 162 a [(0, .int .i64 window0), (1, .int .i64 wait1), (2, .int .i64 many2), (3, .int .u8 late3)] := hf
  refine wp_mono (Q := fun e a w => e = .ret ∧ Fr 162 a [(8, .bool r)] ∧ Hp S w0 w (ow)) ?_ ?_
  rotate_left
  ·
   rintro e a w ⟨rfl, hf, hp⟩
   exact ret1 hf rfl rfl ⟨rfl, hp⟩
  refine wp_seq ?_
  refine wp_reg ?_
  refine st_assign hf rfl rfl (by decide) ?_
  clear hf; intro a ha hf; clear ha
  refine st_nil hf ?_
  refine th_n ?_
  refine wp_seq ?_
  refine wp_seq ?_
  refine wp_reg ?_
  obtain ⟨q1, hcall2, h⟩ := bnd h
  refine st_call hf (by decide) Try.func27 rfl rfl rfl rfl rfl (f_foghornlaw28_works_c hp  hcall2) ?_
  rintro _ w ⟨rfl, hp0⟩
  clear hp; have hp := hp0; clear hp0
  replace hp : Hp _ _ _ (ow) := hp
  refine ⟨_, rfl, ?_⟩
  clear hf; intro a hf
  refine st_not hf (by decide) rfl rfl ?_
  clear hf; intro a ha hf; clear ha
  refine st_nil hf ?_
  refine th_n ?_
  refine wp_if hf rfl (fun hb => ?_) (fun hb => ?_)
  ·
   replace h := ifT h hb
   refine wp_seq ?_
   refine wp_reg ?_
   refine st_assign hf rfl rfl (by decide) ?_
   clear hf; intro a ha hf; clear ha
   refine st_nil hf ?_
   refine th_n ?_
   refine wp_ret ?_
   refine th_r ?_
   obtain rfl := Option.some.inj h
   exact ⟨rfl, ⟨hf.sub ⟨rfl, trivial⟩, hp⟩⟩
  replace h := ifF h hb
  refine wp_skip ?_
  refine th_n ?_
  refine wp_seq ?_
  refine wp_reg ?_
  refine st_move hf rfl rfl (by decide) ?_
  clear hf; intro a ha hf; clear ha
  refine st_conv_ii hf (by decide) (by rw [Try.underlying3]; rfl) Try.underlying62 rfl rfl ?_
  clear hf; intro a ha hf; clear ha
  refine st_irem hf (by decide) rfl rfl rfl (by decide) ?_
  clear hf; intro a ha hf; clear ha
  refine st_conv_ii hf (by decide) (by rw [Try.underlying62]; rfl) Try.underlying3 rfl rfl ?_
  clear hf; intro a ha hf; clear ha
  refine st_iadd hf (by decide) rfl rfl rfl ?_
  clear hf; intro a ha hf; clear ha
  refine st_assign hf rfl rfl (by decide) ?_
  clear hf; intro a ha hf; clear ha
  refine st_nil hf ?_
  refine th_n ?_
  refine wp_seq ?_
  refine wp_reg ?_
  refine st_move hf rfl rfl (by decide) ?_
  clear hf; intro a ha hf; clear ha
  refine st_conv_ii hf (by decide) (by rw [Try.underlying3]; rfl) Try.underlying62 rfl rfl ?_
  clear hf; intro a ha hf; clear ha
  refine st_irem hf (by decide) rfl rfl rfl (by decide) ?_
  clear hf; intro a ha hf; clear ha
  refine st_conv_ii hf (by decide) (by rw [Try.underlying62]; rfl) Try.underlying3 rfl rfl ?_
  clear hf; intro a ha hf; clear ha
  refine st_iadd hf (by decide) rfl rfl rfl ?_
  clear hf; intro a ha hf; clear ha
  refine st_assign hf rfl rfl (by decide) ?_
  clear hf; intro a ha hf; clear ha
  refine st_nil hf ?_
  refine th_n ?_
  refine wp_seq ?_
  refine wp_reg ?_
  refine st_move hf rfl rfl (by decide) ?_
  clear hf; intro a ha hf; clear ha
  refine st_conv_ii hf (by decide) (by rw [Try.underlying3]; rfl) Try.underlying62 rfl rfl ?_
  clear hf; intro a ha hf; clear ha
  refine st_irem hf (by decide) rfl rfl rfl (by decide) ?_
  clear hf; intro a ha hf; clear ha
  refine st_conv_ii hf (by decide) (by rw [Try.underlying62]; rfl) Try.underlying3 rfl rfl ?_
  clear hf; intro a ha hf; clear ha
  refine st_assign hf rfl rfl (by decide) ?_
  clear hf; intro a ha hf; clear ha
  refine st_nil hf ?_
  refine th_n ?_
  refine wp_seq ?_
  refine wp_reg ?_
  refine st_move hf rfl rfl (by decide) ?_
  clear hf; intro a ha hf; clear ha
  refine st_move hf rfl rfl (by decide) ?_
  clear hf; intro a ha hf; clear ha
  obtain ⟨q3, hcall4, h⟩ := bnd h
  refine st_call hf (by decide) Try.func15 rfl rfl rfl rfl rfl (f_again_NewSender_c hp _ _ hcall4) ?_
  rintro _ w ⟨v5, rfl, hp0⟩
  clear hp; have hp := hp0; clear hp0
  replace hp : Hp _ _ _ (Res.opt pk79 v5 q3.1 :: ow) := hp
  refine ⟨_, rfl, ?_⟩
  clear hf; intro a hf
  refine st_move hf rfl rfl (by decide) ?_
  clear hf; intro a ha hf; clear ha
  refine st_extract hf (by decide) rfl rfl rfl ?_
  clear hf; intro a ha hf; clear ha
  refine st_extract hf (by decide) rfl rfl rfl ?_
  clear hf; intro a ha hf; clear ha
  refine st_assign hf rfl rfl (by decide) ?_
  clear hf; intro a ha hf; clear ha
  refine st_assign hf rfl rfl (by decide) ?_
  clear hf; intro a ha hf; clear ha
  refine st_nil hf ?_
  refine th_n ?_
  refine wp_seq ?_
  refine wp_reg ?_
  refine st_move hf rfl rfl (by decide) ?_
  clear hf; intro a ha hf; clear ha
  obtain ⟨q7, hcall8, h⟩ := bnd h
  refine st_call hf (by decide) Try.func8 rfl rfl rfl rfl rfl (f_again_NewReceiver_c hp _ hcall8) ?_
  rintro _ w ⟨v9, rfl, hp0⟩
  clear hp; have hp := hp0; clear hp0
  replace hp : Hp _ _ _ (Res.opt pk74 v9 q7.1 :: _ :: ow) := hp
  refine ⟨_, rfl, ?_⟩
  clear hf; intro a hf
  refine st_move hf rfl rfl (by decide) ?_
  clear hf; intro a ha hf; clear ha
  refine st_extract hf (by decide) rfl rfl rfl ?_
  clear hf; intro a ha hf; clear ha
  refine st_extract hf (by decide) rfl rfl rfl ?_
  clear hf; intro a ha hf; clear ha
  refine st_assign hf rfl rfl (by decide) ?_
  clear hf; intro a ha hf; clear ha
  refine st_assign hf rfl rfl (by decide) ?_
  clear hf; intro a ha hf; clear ha
  refine st_nil hf ?_
  refine th_n ?_
  refine wp_seq ?_
  refine wp_seq ?_
  refine wp_reg ?_
  refine st_move hf rfl rfl (by decide) ?_
  clear hf; intro a ha hf; clear ha
  refine st_ineq hf (by decide) rfl rfl rfl ?_
  clear hf; intro a ha hf; clear ha
  refine st_move hf rfl rfl (by decide) ?_
  clear hf; intro a ha hf; clear ha
  refine wpList_cut 3 (fun a w => Fr 162 a [(0, .int .i64 (IntKind.i64.wrap ((1 : Int) + (IntKind.i64.wrap (((IntKind.u64.wrap window0)).tmod (128 : Int)))))), (1, .int .i64 (IntKind.i64.wrap ((9 : Int) + (IntKind.i64.wrap (((IntKind.u64.wrap wait1)).tmod (30 : Int)))))), (2, .int .i64 (IntKind.i64.wrap (((IntKind.u64.wrap many2)).tmod (300 : Int)))), (3, .int .u8 late3), (9, v5), (11, v9), (54, .bool ((q3.2 != (0 : Int)) || (q7.2 != (0 : Int))))] ∧ Hp S w0 w (Res.opt pk74 v9 q7.1 :: Res.opt pk79 v5 q3.1 :: ow)) ?_ ?_
  ·
   rcases Bool.eq_false_or_eq_true (q3.2 != (0 : Int)) with hb12 | hb12
   ·
    refine st_skip hf (wantN hf rfl rfl hb12) rfl (by decide) ?_ rfl
    clear hf; intro a hf
    refine st_skip hf (wantN hf rfl rfl hb12) rfl (by decide) ?_ rfl
    clear hf; intro a hf
    refine st_pick (v := .bool true) hf rfl rfl (fun hb' => ?_) (fun hb' => ?_) (by decide) ?_
    · rfl
    · exact absurd (hb12.symm.trans hb') (by decide)
    clear hf; intro a ha hf; clear ha
    refine st_nil hf (th_n ?_)
    exact ⟨hf.sub ⟨rfl, rfl, rfl, rfl, rfl, rfl, (by rw [hb12]; rfl), trivial⟩, hp⟩
   refine st_move hf (wantY hf rfl rfl hb12) rfl (by decide) ?_
   clear hf; intro a ha hf; clear ha
   refine st_ineq hf (by decide) (wantY hf rfl rfl hb12) rfl rfl ?_
   clear hf; intro a ha hf; clear ha
   refine st_pick (v := .bool (q7.2 != (0 : Int))) hf rfl rfl (fun hb' => ?_) (fun hb' => ?_) (by decide) ?_
   · exact absurd (hb12.symm.trans hb') (by decide)
   · rfl
   clear hf; intro a ha hf; clear ha
   refine st_nil hf (th_n ?_)
   exact ⟨hf.sub ⟨rfl, rfl, rfl, rfl, rfl, rfl, (by rw [hb12]; rfl), trivial⟩, hp⟩
  rintro a w ⟨hf, hp⟩
  refine st_move hf rfl rfl (by decide) ?_
  clear hf; intro a ha hf; clear ha
  refine wpList_cut 3 (fun a w => Fr 162 a [(0, .int .i64 (IntKind.i64.wrap ((1 : Int) + (IntKind.i64.wrap (((IntKind.u64.wrap window0)).tmod (128 : Int)))))), (1, .int .i64 (IntKind.i64.wrap ((9 : Int) + (IntKind.i64.wrap (((IntKind.u64.wrap wait1)).tmod (30 : Int)))))), (2, .int .i64 (IntKind.i64.wrap (((IntKind.u64.wrap many2)).tmod (300 : Int)))), (3, .int .u8 late3), (9, v5), (11, v9), (58, .bool (((q3.2 != (0 : Int)) || (q7.2 != (0 : Int))) || ((q3.1).isNone)))] ∧ Hp S w0 w (Res.opt pk74 v9 q7.1 :: Res.opt pk79 v5 q3.1 :: ow)) ?_ ?_
  ·
   rcases Bool.eq_false_or_eq_true ((q3.2 != (0 : Int)) || (q7.2 != (0 : Int))) with hb14 | hb14
   ·
    refine st_skip hf (wantN hf rfl rfl hb14) rfl (by decide) ?_ rfl
    clear hf; intro a hf
    refine st_skip hf (wantN hf rfl rfl hb14) rfl (by decide) ?_ rfl
    clear hf; intro a hf
    refine st_pick (v := .bool true) hf rfl rfl (fun hb' => ?_) (fun hb' => ?_) (by decide) ?_
    · rfl
    · exact absurd (hb14.symm.trans hb') (by decide)
    clear hf; intro a ha hf; clear ha
    refine st_nil hf (th_n ?_)
    exact ⟨hf.sub ⟨rfl, rfl, rfl, rfl, rfl, rfl, (by rw [hb14]; rfl), trivial⟩, hp⟩
   refine st_move hf (wantY hf rfl rfl hb14) rfl (by decide) ?_
   clear hf; intro a ha hf; clear ha
   refine st_peql hf (by decide) Try.underlying44 (wantY hf rfl rfl hb14) rfl rfl (hp.nilB (i := 1) rfl) ?_
   clear hf; intro a ha hf; clear ha
   refine st_pick (v := .bool ((q3.1).isNone)) hf rfl rfl (fun hb' => ?_) (fun hb' => ?_) (by decide) ?_
   · exact absurd (hb14.symm.trans hb') (by decide)
   · rfl
   clear hf; intro a ha hf; clear ha
   refine st_nil hf (th_n ?_)
   exact ⟨hf.sub ⟨rfl, rfl, rfl, rfl, rfl, rfl, (by rw [hb14]; rfl), trivial⟩, hp⟩
  rintro a w ⟨hf, hp⟩
  refine st_move hf rfl rfl (by decide) ?_
  clear hf; intro a ha hf; clear ha
  refine wpList_cut 3 (fun a w => Fr 162 a [(0, .int .i64 (IntKind.i64.wrap ((1 : Int) + (IntKind.i64.wrap (((IntKind.u64.wrap window0)).tmod (128 : Int)))))), (1, .int .i64 (IntKind.i64.wrap ((9 : Int) + (IntKind.i64.wrap (((IntKind.u64.wrap wait1)).tmod (30 : Int)))))), (2, .int .i64 (IntKind.i64.wrap (((IntKind.u64.wrap many2)).tmod (300 : Int)))), (3, .int .u8 late3), (9, v5), (11, v9), (62, .bool ((((q3.2 != (0 : Int)) || (q7.2 != (0 : Int))) || ((q3.1).isNone)) || ((q7.1).isNone)))] ∧ Hp S w0 w (Res.opt pk74 v9 q7.1 :: Res.opt pk79 v5 q3.1 :: ow)) ?_ ?_
  ·
   rcases Bool.eq_false_or_eq_true (((q3.2 != (0 : Int)) || (q7.2 != (0 : Int))) || ((q3.1).isNone)) with hb16 | hb16
   ·
    refine st_skip hf (wantN hf rfl rfl hb16) rfl (by decide) ?_ rfl
    clear hf; intro a hf
    refine st_skip hf (wantN hf rfl rfl hb16) rfl (by decide) ?_ rfl
    clear hf; intro a hf
    refine st_pick (v := .bool true) hf rfl rfl (fun hb' => ?_) (fun hb' => ?_) (by decide) ?_
    · rfl
    · exact absurd (hb16.symm.trans hb') (by decide)
    clear hf; intro a ha hf; clear ha
    refine st_nil hf (th_n ?_)
    exact ⟨hf.sub ⟨rfl, rfl, rfl, rfl, rfl, rfl, (by rw [hb16]; rfl), trivial⟩, hp⟩
   refine st_move hf (wantY hf rfl rfl hb16) rfl (by decide) ?_
   clear hf; intro a ha hf; clear ha
   refine st_peql hf (by decide) Try.underlying23 (wantY hf rfl rfl hb16) rfl rfl (hp.nilB (i := 0) rfl) ?_
   clear hf; intro a ha hf; clear ha
   refine st_pick (v := .bool ((q7.1).isNone)) hf rfl rfl (fun hb' => ?_) (fun hb' => ?_) (by decide) ?_
   · exact absurd (hb16.symm.trans hb') (by decide)
   · rfl
   clear hf; intro a ha hf; clear ha
   refine st_nil hf (th_n ?_)
   exact ⟨hf.sub ⟨rfl, rfl, rfl, rfl, rfl, rfl, (by rw [hb16]; rfl), trivial⟩, hp⟩
  rintro a w ⟨hf, hp⟩
  refine st_nil hf ?_
  refine th_n ?_
  refine wp_if hf rfl (fun hb => ?_) (fun hb => ?_)
  ·
   replace h := ifT h hb
   refine wp_seq ?_
   refine wp_reg ?_
   refine st_assign hf rfl rfl (by decide) ?_
   clear hf; intro a ha hf; clear ha
   refine st_nil hf ?_
   refine th_n ?_
   refine wp_ret ?_
   refine th_r ?_
   obtain rfl := Option.some.inj h
   have hp : Hp _ _ _ (ow) := Hp.sel (pre := [Res.opt pk74 v9 q7.1, Res.opt pk79 v5 q3.1]) (tail := ow) (rs' := []) hp [] (by decide) (by simp) rfl
   exact ⟨rfl, ⟨hf.sub ⟨rfl, trivial⟩, hp⟩⟩
  replace h := ifF h hb
  refine wp_skip ?_
  refine th_n ?_
  refine wp_seq ?_
  refine wp_reg ?_
  refine st_move hf rfl rfl (by decide) ?_
  clear hf; intro a ha hf; clear ha
  refine st_iandn hf (by decide) rfl rfl rfl ?_
  clear hf; intro a ha hf; clear ha
  refine st_iand hf (by decide) rfl rfl rfl ?_
  clear hf; intro a ha hf; clear ha
  refine st_assign hf rfl rfl (by decide) ?_
  clear hf; intro a ha hf; clear ha
  refine st_nil hf ?_
  refine th_n ?_
  refine wp_seq ?_
  refine wp_reg ?_
  refine st_move hf rfl rfl (by decide) ?_
  clear hf; intro a ha hf; clear ha
  refine st_move hf rfl rfl (by decide) ?_
  clear hf; intro a ha hf; clear ha
  refine st_move hf rfl rfl (by decide) ?_
  clear hf; intro a ha hf; clear ha
  refine st_move hf rfl rfl (by decide) ?_
  clear hf; intro a ha hf; clear ha
  refine st_build (E := (Ek.int .u8)) (xs := [(iand .u8 (iandn .u8 late3 (1 : Int)) (7 : Int))]) hf (by decide) elt5 Try.underlying61 hp (vals := #[(0, .int .u8 (iand .u8 (iandn .u8 late3 (1 : Int)) (7 : Int)))]) (cells := #[.int .u8 (iand .u8 (iandn .u8 late3 (1 : Int)) (7 : Int))]) rfl (by simp [hf.ev (x := (Operand.tmp 69)) rfl]) (by decide) (by decide) (z := .int .u8 0) (by kernel_rfl) (by kernel_rfl) rfl (reps_cons (cs := [.int .u8 (iand .u8 (iandn .u8 late3 (1 : Int)) (7 : Int))]) rfl (reps_nil _)) ?_
  clear hf; intro a w v17 hf hp0; clear hp; have hp := hp0; clear hp0
  replace hp : Hp _ _ _ (Res.sl (Ek.int .u8) 5 v17 ([(iand .u8 (iandn .u8 late3 (1 : Int)) (7 : Int))]) :: _ :: _ :: ow) := hp
  refine st_makeMap (enc := (fun x : Int => Value.int .i64 x)) hf (by decide) hp rfl ?_
  clear hf; intro a w g19 hf hp0; clear hp; have hp := hp0; clear hp0
  replace hp : Hp _ _ _ (Res.map (fun x : Int => Value.int .i64 x) (.map (some g19)) ([] : (List (Int × Int))) :: _ :: _ :: _ :: ow) := hp
  refine st_move hf rfl rfl (by decide) ?_
  clear hf; intro a ha hf; clear ha
  refine st_move hf rfl rfl (by decide) ?_
  clear hf; intro a ha hf; clear ha
  obtain ⟨hc21, h⟩ := chk h
  refine st_make (E := (Ek.int .i64)) hf (by decide) elt3 Try.underlying65 (by decide) hp rfl rfl rfl hc21.1 hc21.2.1 hc21.2.2 ?_
  clear hf; intro a w v22 hf hp0; clear hp; have hp := hp0; clear hp0
  replace hp : Hp _ _ _ (Res.sl (Ek.int .i64) 3 v22 (List.replicate ((IntKind.i64.wrap (((IntKind.u64.wrap many2)).tmod (300 : Int)))).toNat (0 : Int)) :: _ :: _ :: _ :: _ :: ow) := hp
  obtain ⟨s24, hs25, h⟩ := bnd h
  have hp : Hp _ _ _ (_ :: _ :: _ :: _ :: _ :: ow) := Hp.sel (pre := [Res.sl (Ek.int .i64) 3 v22 (List.replicate ((IntKind.i64.wrap (((IntKind.u64.wrap many2)).tmod (300 : Int)))).toNat (0 : Int)), Res.map (fun x : Int => Value.int .i64 x) (.map (some g19)) ([] : (List (Int × Int))), Res.sl (Ek.int .u8) 5 v17 ([(iand .u8 (iandn .u8 late3 (1 : Int)) (7 : Int))]), Res.opt pk74 v9 q7.1, Res.opt pk79 v5 q3.1]) (tail := ow) (rs' := [Res.opt pk79 v5 q3.1, Res.sl (Ek.int .i64) 3 v22 (List.replicate ((IntKind.i64.wrap (((IntKind.u64.wrap many2)).tmod (300 : Int)))).toNat (0 : Int)), Res.map (fun x : Int => Value.int .i64 x) (.map (some g19)) ([] : (List (Int × Int))), Res.sl (Ek.int .u8) 5 v17 ([(iand .u8 (iandn .u8 late3 (1 : Int)) (7 : Int))]), Res.opt pk74 v9 q7.1]) hp [4, 0, 1, 2, 3] (by decide) (by simp) rfl
  replace hp : Hp _ _ _ (pk79.R v5 s24 :: _ :: _ :: _ :: _ :: ow) := hp.optSome hs25
  obtain ⟨v26, hp⟩ := pk79_in hp
  replace hp : Hp _ _ _ (Res.obj 79 v5 [.int .i64 s24.1, .int .i64 s24.2.1, .int .i64 s24.2.2.1, .int .i64 s24.2.2.2.1, v26] :: Res.sl (Ek.pair Ek.str (Ek.pair Ek.bool (Ek.pair (Ek.int .i64) Ek.bool))) 81 v26 s24.2.2.2.2 :: _ :: _ :: _ :: _ :: ow) := hp
  obtain ⟨s28, hs29, h⟩ := bnd h
  have hp : Hp _ _ _ (_ :: _ :: _ :: _ :: _ :: _ :: ow) := Hp.sel (pre := [Res.obj 79 v5 [.int .i64 s24.1, .int .i64 s24.2.1, .int .i64 s24.2.2.1, .int .i64 s24.2.2.2.1, v26], Res.sl (Ek.pair Ek.str (Ek.pair Ek.bool (Ek.pair (Ek.int .i64) Ek.bool))) 81 v26 s24.2.2.2.2, Res.sl (Ek.int .i64) 3 v22 (List.replicate ((IntKind.i64.wrap (((IntKind.u64.wrap many2)).tmod (300 : Int)))).toNat (0 : Int)), Res.map (fun x : Int => Value.int .i64 x) (.map (some g19)) ([] : (List (Int × Int))), Res.sl (Ek.int .u8) 5 v17 ([(iand .u8 (iandn .u8 late3 (1 : Int)) (7 : Int))]), Res.opt pk74 v9 q7.1]) (tail := ow) (rs' := [Res.opt pk74 v9 q7.1, Res.obj 79 v5 [.int .i64 s24.1, .int .i64 s24.2.1, .int .i64 s24.2.2.1, .int .i64 s24.2.2.2.1, v26], Res.sl (Ek.pair Ek.str (Ek.pair Ek.bool (Ek.pair (Ek.int .i64) Ek.bool))) 81 v26 s24.2.2.2.2, Res.sl (Ek.int .i64) 3 v22 (List.replicate ((IntKind.i64.wrap (((IntKind.u64.wrap many2)).tmod (300 : Int)))).toNat (0 : Int)), Res.map (fun x : Int => Value.int .i64 x) (.map (some g19)) ([] : (List (Int × Int))), Res.sl (Ek.int .u8) 5 v17 ([(iand .u8 (iandn .u8 late3 (1 : Int)) (7 : Int))])]) hp [5, 0, 1, 2, 3, 4] (by decide) (by simp) rfl
  replace hp : Hp _ _ _ (pk74.R v9 s28 :: _ :: _ :: _ :: _ :: _ :: ow) := hp.optSome hs29
  obtain ⟨v30, hp⟩ := pk74_in hp
  replace hp : Hp _ _ _ (Res.obj 74 v9 [.int .i64 s28.1, .int .i64 s28.2.1, v30] :: Res.map (fun x : ByteArray => Value.string x) v30 s28.2.2 :: _ :: _ :: _ :: _ :: _ :: ow) := hp
  refine st_buildA (vals := [(0, .int .i64 (IntKind.i64.wrap ((1 : Int) + (IntKind.i64.wrap (((IntKind.u64.wrap window0)).tmod (128 : Int)))))), (1, v5), (2, v9), (5, v17), (7, (.map (some g19))), (10, .int .i64 (IntKind.i64.wrap (((IntKind.u64.wrap many2)).tmod (300 : Int)))), (13, v22)]) (cells := [.int .i64 (IntKind.i64.wrap ((1 : Int) + (IntKind.i64.wrap (((IntKind.u64.wrap window0)).tmod (128 : Int))))), v5, v9, .slice none 0 0, .slice none 0 0, v17, .int .i64 (0 : Int), (.map (some g19)), .int .i64 (0 : Int), .int .i64 (0 : Int), .int .i64 (IntKind.i64.wrap (((IntKind.u64.wrap many2)).tmod (300 : Int))), .slice none 0 0, .bool false, v22]) hf (by decide) rfl (by simp [hf.ev (x := (Operand.tmp 66)) rfl, hf.ev (x := (Operand.tmp 67)) rfl, hf.ev (x := (Operand.tmp 68)) rfl, hf.ev (x := (Operand.tmp 70)) rfl, hf.ev (x := (Operand.tmp 71)) rfl, hf.ev (x := (Operand.tmp 72)) rfl, hf.ev (x := (Operand.tmp 74)) rfl]) (fun w => by obtain ⟨_, rfl, _, _⟩ := (hp.ob (i := 2) rfl); obtain ⟨_, rfl, _, _⟩ := (hp.ob (i := 0) rfl); obtain ⟨_, _, rfl⟩ := (hp.sl (i := 6) rfl).shapeV; obtain ⟨_, _, rfl⟩ := (hp.sl (i := 4) rfl).shapeV; kernel_rfl) ?_
  clear hf; intro a ha hf; clear ha
  refine st_boxO (cs := [.int .i64 (IntKind.i64.wrap ((1 : Int) + (IntKind.i64.wrap (((IntKind.u64.wrap window0)).tmod (128 : Int))))), v5, v9, .slice none 0 0, .slice none 0 0, v17, .int .i64 (0 : Int), (.map (some g19)), .int .i64 (0 : Int), .int .i64 (0 : Int), .int .i64 (IntKind.i64.wrap (((IntKind.u64.wrap many2)).tmod (300 : Int))), .slice none 0 0, .bool false, v22]) hf (by decide) hp rfl rfl rfl ?_
  clear hf; intro a w v32 hf hp0; clear hp; have hp := hp0; clear hp0
  replace hp : Hp _ _ _ (Res.obj 68 v32 [.int .i64 (IntKind.i64.wrap ((1 : Int) + (IntKind.i64.wrap (((IntKind.u64.wrap window0)).tmod (128 : Int))))), v5, v9, .slice none 0 0, .slice none 0 0, v17, .int .i64 (0 : Int), (.map (some g19)), .int .i64 (0 : Int), .int .i64 (0 : Int), .int .i64 (IntKind.i64.wrap (((IntKind.u64.wrap many2)).tmod (300 : Int))), .slice none 0 0, .bool false, v22] :: _ :: _ :: _ :: _ :: _ :: _ :: _ :: ow) := hp
  rw [hp.eq0] at hf
  refine st_assign hf rfl rfl (by decide) ?_
  clear hf; intro a ha hf; clear ha
  refine st_nil hf ?_
  refine th_n ?_
  refine wp_seq ?_
  refine wp_seq ?_
  refine wp_reg ?_
  refine st_assign hf rfl rfl (by decide) ?_
  clear hf; intro a ha hf; clear ha
  refine st_nil hf ?_
  refine th_n ?_
  refine wp_block ?_
  obtain ⟨q77, hl, h⟩ := bnd h
  have hp := hp.nil (Ek.pair (Ek.int .i64) (Ek.pair (Ek.int .i64) (Ek.pair (Ek.int .u8) (Ek.pair (Ek.int .u8) (Ek.pair Ek.bool Ek.str))))) 88
  have hp := hp.nil (Ek.pair (Ek.int .i64) (Ek.pair (Ek.int .i64) (Ek.pair (Ek.int .u8) (Ek.pair (Ek.int .u8) (Ek.pair Ek.bool Ek.str))))) 88
  have hp := hp.nil Ek.str 9
  have hp : Hp _ _ _ (_ :: _ :: _ :: _ :: Res.sl (Ek.pair (Ek.int .i64) (Ek.pair (Ek.int .i64) (Ek.pair (Ek.int .u8) (Ek.pair (Ek.int .u8) (Ek.pair Ek.bool Ek.str))))) 88 (.slice none 0 0) ([]) :: Res.sl (Ek.pair (Ek.int .i64) (Ek.pair (Ek.int .i64) (Ek.pair (Ek.int .u8) (Ek.pair (Ek.int .u8) (Ek.pair Ek.bool Ek.str))))) 88 (.slice none 0 0) ([]) :: _ :: _ :: Res.sl Ek.str 9 (.slice none 0 0) ([]) :: _ :: _ :: ow) := Hp.sel (pre := [Res.sl Ek.str 9 (.slice none 0 0) ([]), Res.sl (Ek.pair (Ek.int .i64) (Ek.pair (Ek.int .i64) (Ek.pair (Ek.int .u8) (Ek.pair (Ek.int .u8) (Ek.pair Ek.bool Ek.str))))) 88 (.slice none 0 0) ([]), Res.sl (Ek.pair (Ek.int .i64) (Ek.pair (Ek.int .i64) (Ek.pair (Ek.int .u8) (Ek.pair (Ek.int .u8) (Ek.pair Ek.bool Ek.str))))) 88 (.slice none 0 0) ([]), Res.obj 68 v32 [.int .i64 (IntKind.i64.wrap ((1 : Int) + (IntKind.i64.wrap (((IntKind.u64.wrap window0)).tmod (128 : Int))))), v5, v9, .slice none 0 0, .slice none 0 0, v17, .int .i64 (0 : Int), (.map (some g19)), .int .i64 (0 : Int), .int .i64 (0 : Int), .int .i64 (IntKind.i64.wrap (((IntKind.u64.wrap many2)).tmod (300 : Int))), .slice none 0 0, .bool false, v22], Res.obj 74 v9 [.int .i64 s28.1, .int .i64 s28.2.1, v30], Res.map (fun x : ByteArray => Value.string x) v30 s28.2.2, Res.obj 79 v5 [.int .i64 s24.1, .int .i64 s24.2.1, .int .i64 s24.2.2.1, .int .i64 s24.2.2.2.1, v26], Res.sl (Ek.pair Ek.str (Ek.pair Ek.bool (Ek.pair (Ek.int .i64) Ek.bool))) 81 v26 s24.2.2.2.2, Res.sl (Ek.int .i64) 3 v22 (List.replicate ((IntKind.i64.wrap (((IntKind.u64.wrap many2)).tmod (300 : Int)))).toNat (0 : Int)), Res.map (fun x : Int => Value.int .i64 x) (.map (some g19)) ([] : (List (Int × Int))), Res.sl (Ek.int .u8) 5 v17 ([(iand .u8 (iandn .u8 late3 (1 : Int)) (7 : Int))])]) (tail := ow) (rs' := [Res.sl (Ek.pair Ek.str (Ek.pair Ek.bool (Ek.pair (Ek.int .i64) Ek.bool))) 81 v26 s24.2.2.2.2, Res.obj 79 v5 [.int .i64 s24.1, .int .i64 s24.2.1, .int .i64 s24.2.2.1, .int .i64 s24.2.2.2.1, v26], Res.map (fun x : ByteArray => Value.string x) v30 s28.2.2, Res.obj 74 v9 [.int .i64 s28.1, .int .i64 s28.2.1, v30], Res.sl (Ek.pair (Ek.int .i64) (Ek.pair (Ek.int .i64) (Ek.pair (Ek.int .u8) (Ek.pair (Ek.int .u8) (Ek.pair Ek.bool Ek.str))))) 88 (.slice none 0 0) ([]), Res.sl (Ek.pair (Ek.int .i64) (Ek.pair (Ek.int .i64) (Ek.pair (Ek.int .u8) (Ek.pair (Ek.int .u8) (Ek.pair Ek.bool Ek.str))))) 88 (.slice none 0 0) ([]), Res.sl (Ek.int .u8) 5 v17 ([(iand .u8 (iandn .u8 late3 (1 : Int)) (7 : Int))]), Res.map (fun x : Int => Value.int .i64 x) (.map (some g19)) ([] : (List (Int × Int))), Res.sl Ek.str 9 (.slice none 0 0) ([]), Res.sl (Ek.int .i64) 3 v22 (List.replicate ((IntKind.i64.wrap (((IntKind.u64.wrap many2)).tmod (300 : Int)))).toNat (0 : Int)), Res.obj 68 v32 [.int .i64 (IntKind.i64.wrap ((1 : Int) + (IntKind.i64.wrap (((IntKind.u64.wrap window0)).tmod (128 : Int))))), v5, v9, .slice none 0 0, .slice none 0 0, v17, .int .i64 (0 : Int), (.map (some g19)), .int .i64 (0 : Int), .int .i64 (0 : Int), .int .i64 (IntKind.i64.wrap (((IntKind.u64.wrap many2)).tmod (300 : Int))), .slice none 0 0, .bool false, v22]]) hp [7, 6, 5, 4, 2, 1, 10, 9, 0, 8, 3] (by decide) (by simp) rfl
  refine wp_loop_pure (f := (f_foghornlaw28_AgainLean.s1 many2)) (s := (s24.1, s24.2.1, s24.2.2.1, s24.2.2.2.1, s24.2.2.2.2, (IntKind.i64.wrap ((1 : Int) + (IntKind.i64.wrap (((IntKind.u64.wrap window0)).tmod (128 : Int))))), s28.1, s28.2.1, s28.2.2, [], [], [(iand .u8 (iandn .u8 late3 (1 : Int)) (7 : Int))], (0 : Int), ([] : (List (Int × Int))), (0 : Int), (0 : Int), (IntKind.i64.wrap (((IntKind.u64.wrap many2)).tmod (300 : Int))), [], false, (List.replicate ((IntKind.i64.wrap (((IntKind.u64.wrap many2)).tmod (300 : Int)))).toNat (0 : Int)), (0 : Int))) (fun s a w => ∃ (v34 : Value) (v37 : Value) (v40 : Value) (v42 : Value) (v44 : Value) (v46 : Value) (v48 : Value) (v50 : Value), Fr 162 a [(1, .int .i64 (IntKind.i64.wrap ((9 : Int) + (IntKind.i64.wrap (((IntKind.u64.wrap wait1)).tmod (30 : Int)))))), (2, .int .i64 (IntKind.i64.wrap (((IntKind.u64.wrap many2)).tmod (300 : Int)))), (9, v5), (14, v32), (15, .int .i64 s.2.2.2.2.2.2.2.2.2.2.2.2.2.2.2.2.2.2.2.2)] ∧ Hp S w0 w (Res.sl (Ek.pair Ek.str (Ek.pair Ek.bool (Ek.pair (Ek.int .i64) Ek.bool))) 81 v34 s.2.2.2.2.1 :: Res.obj 79 v5 [.int .i64 s.1, .int .i64 s.2.1, .int .i64 s.2.2.1, .int .i64 s.2.2.2.1, v34] :: Res.map (fun x : ByteArray => Value.string x) v37 s.2.2.2.2.2.2.2.2.1 :: Res.obj 74 v9 [.int .i64 s.2.2.2.2.2.2.1, .int .i64 s.2.2.2.2.2.2.2.1, v37] :: Res.sl (Ek.pair (Ek.int .i64) (Ek.pair (Ek.int .i64) (Ek.pair (Ek.int .u8) (Ek.pair (Ek.int .u8) (Ek.pair Ek.bool Ek.str))))) 88 v40 s.2.2.2.2.2.2.2.2.2.1 :: Res.sl (Ek.pair (Ek.int .i64) (Ek.pair (Ek.int .i64) (Ek.pair (Ek.int .u8) (Ek.pair (Ek.int .u8) (Ek.pair Ek.bool Ek.str))))) 88 v42 s.2.2.2.2.2.2.2.2.2.2.1 :: Res.sl (Ek.int .u8) 5 v44 s.2.2.2.2.2.2.2.2.2.2.2.1 :: Res.map (fun x : Int => Value.int .i64 x) v46 s.2.2.2.2.2.2.2.2.2.2.2.2.2.1 :: Res.sl Ek.str 9 v48 s.2.2.2.2.2.2.2.2.2.2.2.2.2.2.2.2.2.1 :: Res.sl (Ek.int .i64) 3 v50 s.2.2.2.2.2.2.2.2.2.2.2.2.2.2.2.2.2.2.2.1 :: Res.obj 68 v32 [.int .i64 s.2.2.2.2.2.1, v5, v9, v40, v42, v44, .int .i64 s.2.2.2.2.2.2.2.2.2.2.2.2.1, v46, .int .i64 s.2.2.2.2.2.2.2.2.2.2.2.2.2.2.1, .int .i64 s.2.2.2.2.2.2.2.2.2.2.2.2.2.2.2.1, .int .i64 s.2.2.2.2.2.2.2.2.2.2.2.2.2.2.2.2.1, v48, .bool s.2.2.2.2.2.2.2.2.2.2.2.2.2.2.2.2.2.2.1, v50] :: ow)) (fun q e a w => match q with | (Sum.inl q) => e = .exit 0 ∧ ∃ (v53 : Value) (v56 : Value) (v59 : Value) (v61 : Value) (v63 : Value) (v65 : Value) (v67 : Value) (v69 : Value), Fr 162 a [(1, .int .i64 (IntKind.i64.wrap ((9 : Int) + (IntKind.i64.wrap (((IntKind.u64.wrap wait1)).tmod (30 : Int)))))), (2, .int .i64 (IntKind.i64.wrap (((IntKind.u64.wrap many2)).tmod (300 : Int)))), (9, v5), (14, v32)] ∧ Hp S w0 w (Res.sl (Ek.pair Ek.str (Ek.pair Ek.bool (Ek.pair (Ek.int .i64) Ek.bool))) 81 v53 q.2.2.2.2.1 :: Res.obj 79 v5 [.int .i64 q.1, .int .i64 q.2.1, .int .i64 q.2.2.1, .int .i64 q.2.2.2.1, v53] :: Res.map (fun x : ByteArray => Value.string x) v56 q.2.2.2.2.2.2.2.2.1 :: Res.obj 74 v9 [.int .i64 q.2.2.2.2.2.2.1, .int .i64 q.2.2.2.2.2.2.2.1, v56] :: Res.sl (Ek.pair (Ek.int .i64) (Ek.pair (Ek.int .i64) (Ek.pair (Ek.int .u8) (Ek.pair (Ek.int .u8) (Ek.pair Ek.bool Ek.str))))) 88 v59 q.2.2.2.2.2.2.2.2.2.1 :: Res.sl (Ek.pair (Ek.int .i64) (Ek.pair (Ek.int .i64) (Ek.pair (Ek.int .u8) (Ek.pair (Ek.int .u8) (Ek.pair Ek.bool Ek.str))))) 88 v61 q.2.2.2.2.2.2.2.2.2.2.1 :: Res.sl (Ek.int .u8) 5 v63 q.2.2.2.2.2.2.2.2.2.2.2.1 :: Res.map (fun x : Int => Value.int .i64 x) v65 q.2.2.2.2.2.2.2.2.2.2.2.2.2.1 :: Res.sl Ek.str 9 v67 q.2.2.2.2.2.2.2.2.2.2.2.2.2.2.2.2.2.1 :: Res.sl (Ek.int .i64) 3 v69 q.2.2.2.2.2.2.2.2.2.2.2.2.2.2.2.2.2.2.2 :: Res.obj 68 v32 [.int .i64 q.2.2.2.2.2.1, v5, v9, v59, v61, v63, .int .i64 q.2.2.2.2.2.2.2.2.2.2.2.2.1, v65, .int .i64 q.2.2.2.2.2.2.2.2.2.2.2.2.2.2.1, .int .i64 q.2.2.2.2.2.2.2.2.2.2.2.2.2.2.2.1, .int .i64 q.2.2.2.2.2.2.2.2.2.2.2.2.2.2.2.2.1, v67, .bool q.2.2.2.2.2.2.2.2.2.2.2.2.2.2.2.2.2.2.1, v69] :: ow) | (Sum.inr q) => e = .ret ∧ Fr 162 a [(8, .bool q)] ∧ Hp S w0 w (ow)) ?_ hl ⟨_, _, _, _, _, _, _, _, hf.sub ⟨rfl, rfl, rfl, rfl, rfl, trivial⟩, hp⟩ ?_
  ·
   clear hl hf hp
   intro s x a w h hI
   obtain ⟨sx9c_0, sx9c_1, sx9c_2, sx9c_3, sx9c_4, k14c_0, k14c_2c_0, k14c_2c_1, k14c_2c_2, k14c_3, k14c_4, k14c_5, k14c_6, k14c_7, k14c_8, k14c_9, k14c_10, k14c_11, k14c_12, k14c_13, i15⟩ := s
   obtain ⟨v34, v37, v40, v42, v44, v46, v48, v50, hf, hp⟩ : ∃ (v34 : Value) (v37 : Value) (v40 : Value) (v42 : Value) (v44 : Value) (v46 : Value) (v48 : Value) (v50 : Value), Fr 162 a [(1, .int .i64 (IntKind.i64.wrap ((9 : Int) + (IntKind.i64.wrap (((IntKind.u64.wrap wait1)).tmod (30 : Int)))))), (2, .int .i64 (IntKind.i64.wrap (((IntKind.u64.wrap many2)).tmod (300 : Int)))), (9, v5), (14, v32), (15, .int .i64 i15)] ∧ Hp S w0 w (Res.sl (Ek.pair Ek.str (Ek.pair Ek.bool (Ek.pair (Ek.int .i64) Ek.bool))) 81 v34 sx9c_4 :: Res.obj 79 v5 [.int .i64 sx9c_0, .int .i64 sx9c_1, .int .i64 sx9c_2, .int .i64 sx9c_3, v34] :: Res.map (fun x : ByteArray => Value.string x) v37 k14c_2c_2 :: Res.obj 74 v9 [.int .i64 k14c_2c_0, .int .i64 k14c_2c_1, v37] :: Res.sl (Ek.pair (Ek.int .i64) (Ek.pair (Ek.int .i64) (Ek.pair (Ek.int .u8) (Ek.pair (Ek.int .u8) (Ek.pair Ek.bool Ek.str))))) 88 v40 k14c_3 :: Res.sl (Ek.pair (Ek.int .i64) (Ek.pair (Ek.int .i64) (Ek.pair (Ek.int .u8) (Ek.pair (Ek.int .u8) (Ek.pair Ek.bool Ek.str))))) 88 v42 k14c_4 :: Res.sl (Ek.int .u8) 5 v44 k14c_5 :: Res.map (fun x : Int => Value.int .i64 x) v46 k14c_7 :: Res.sl Ek.str 9 v48 k14c_11 :: Res.sl (Ek.int .i64) 3 v50 k14c_13 :: Res.obj 68 v32 [.int .i64 k14c_0, v5, v9, v40, v42, v44, .int .i64 k14c_6, v46, .int .i64 k14c_8, .int .i64 k14c_9, .int .i64 k14c_10, v48, .bool k14c_12, v50] :: ow) := hI
   replace h : f_foghornlaw28_AgainLean.s1c many2 sx9c_0 sx9c_1 sx9c_2 sx9c_3 sx9c_4 k14c_0 k14c_2c_0 k14c_2c_1 k14c_2c_2 k14c_3 k14c_4 k14c_5 k14c_6 k14c_7 k14c_8 k14c_9 k14c_10 k14c_11 k14c_12 k14c_13 i15 = some x := h
   unfold f_foghornlaw28_AgainLean.s1c at h
   refine wp_seq ?_
   refine wp_seq ?_
   refine wp_reg ?_
   refine st_move hf rfl rfl (by decide) ?_
   clear hf; intro a ha hf; clear ha
   refine st_move hf rfl rfl (by decide) ?_
   clear hf; intro a ha hf; clear ha
   refine st_ilss hf (by decide) rfl rfl rfl ?_
   clear hf; intro a ha hf; clear ha
   refine st_nil hf ?_
   refine th_n ?_
   refine wp_if hf rfl (fun hb => ?_) (fun hb => ?_)
   ·
    replace h := ifT h hb
    refine wp_skip ?_
    refine th_n ?_
    refine wp_seq ?_
    refine wp_block ?_
    refine wp_seq ?_
    refine wp_reg ?_
    refine st_move hf rfl rfl (by decide) ?_
    clear hf; intro a ha hf; clear ha
    obtain ⟨q72, hcall73, h⟩ := bnd h
    have hp74 : Hp _ _ _ (Res.sl (Ek.pair Ek.str (Ek.pair Ek.bool (Ek.pair (Ek.int .i64) Ek.bool))) 81 v34 sx9c_4 :: Res.obj 79 v5 [.int .i64 sx9c_0, .int .i64 sx9c_1, .int .i64 sx9c_2, .int .i64 sx9c_3, v34] :: Res.map (fun x : ByteArray => Value.string x) v37 k14c_2c_2 :: Res.obj 74 v9 [.int .i64 k14c_2c_0, .int .i64 k14c_2c_1, v37] :: Res.sl (Ek.pair (Ek.int .i64) (Ek.pair (Ek.int .i64) (Ek.pair (Ek.int .u8) (Ek.pair (Ek.int .u8) (Ek.pair Ek.bool Ek.str))))) 88 v40 k14c_3 :: Res.sl (Ek.pair (Ek.int .i64) (Ek.pair (Ek.int .i64) (Ek.pair (Ek.int .u8) (Ek.pair (Ek.int .u8) (Ek.pair Ek.bool Ek.str))))) 88 v42 k14c_4 :: Res.sl (Ek.int .u8) 5 v44 k14c_5 :: Res.map (fun x : Int => Value.int .i64 x) v46 k14c_7 :: Res.sl Ek.str 9 v48 k14c_11 :: Res.sl (Ek.int .i64) 3 v50 k14c_13 :: Res.obj 68 v32 [.int .i64 k14c_0, v5, v9, v40, v42, v44, .int .i64 k14c_6, v46, .int .i64 k14c_8, .int .i64 k14c_9, .int .i64 k14c_10, v48, .bool k14c_12, v50] :: ow) := Hp.sel (pre := [Res.sl (Ek.pair Ek.str (Ek.pair Ek.bool (Ek.pair (Ek.int .i64) Ek.bool))) 81 v34 sx9c_4, Res.obj 79 v5 [.int .i64 sx9c_0, .int .i64 sx9c_1, .int .i64 sx9c_2, .int .i64 sx9c_3, v34], Res.map (fun x : ByteArray => Value.string x) v37 k14c_2c_2, Res.obj 74 v9 [.int .i64 k14c_2c_0, .int .i64 k14c_2c_1, v37], Res.sl (Ek.pair (Ek.int .i64) (Ek.pair (Ek.int .i64) (Ek.pair (Ek.int .u8) (Ek.pair (Ek.int .u8) (Ek.pair Ek.bool Ek.str))))) 88 v40 k14c_3, Res.sl (Ek.pair (Ek.int .i64) (Ek.pair (Ek.int .i64) (Ek.pair (Ek.int .u8) (Ek.pair (Ek.int .u8) (Ek.pair Ek.bool Ek.str))))) 88 v42 k14c_4, Res.sl (Ek.int .u8) 5 v44 k14c_5, Res.map (fun x : Int => Value.int .i64 x) v46 k14c_7, Res.sl Ek.str 9 v48 k14c_11, Res.sl (Ek.int .i64) 3 v50 k14c_13, Res.obj 68 v32 [.int .i64 k14c_0, v5, v9, v40, v42, v44, .int .i64 k14c_6, v46, .int .i64 k14c_8, .int .i64 k14c_9, .int .i64 k14c_10, v48, .bool k14c_12, v50]]) (tail := ow) (rs' := [Res.sl (Ek.pair Ek.str (Ek.pair Ek.bool (Ek.pair (Ek.int .i64) Ek.bool))) 81 v34 sx9c_4, Res.obj 79 v5 [.int .i64 sx9c_0, .int .i64 sx9c_1, .int .i64 sx9c_2, .int .i64 sx9c_3, v34], Res.map (fun x : ByteArray => Value.string x) v37 k14c_2c_2, Res.obj 74 v9 [.int .i64 k14c_2c_0, .int .i64 k14c_2c_1, v37], Res.sl (Ek.pair (Ek.int .i64) (Ek.pair (Ek.int .i64) (Ek.pair (Ek.int .u8) (Ek.pair (Ek.int .u8) (Ek.pair Ek.bool Ek.str))))) 88 v40 k14c_3, Res.sl (Ek.pair (Ek.int .i64) (Ek.pair (Ek.int .i64) (Ek.pair (Ek.int .u8) (Ek.pair (Ek.int .u8) (Ek.pair Ek.bool Ek.str))))) 88 v42 k14c_4, Res.sl (Ek.int .u8) 5 v44 k14c_5, Res.map (fun x : Int => Value.int .i64 x) v46 k14c_7, Res.sl Ek.str 9 v48 k14c_11, Res.sl (Ek.int .i64) 3 v50 k14c_13, Res.obj 68 v32 [.int .i64 k14c_0, v5, v9, v40, v42, v44, .int .i64 k14c_6, v46, .int .i64 k14c_8, .int .i64 k14c_9, .int .i64 k14c_10, v48, .bool k14c_12, v50]]) hp [0, 1, 2, 3, 4, 5, 6, 7, 8, 9, 10] (by decide) (by simp) rfl
    refine st_call hf (by decide) Try.func17 rfl rfl rfl rfl rfl (f_again_Sender_Offer_c _ _ _ _ _ _ _ _ hp74 hcall73) ?_
    rintro _ w ⟨v75, rfl, hp0⟩
    clear hp; have hp := hp0; clear hp0
    replace hp : Hp _ _ _ (Res.sl (Ek.pair Ek.str (Ek.pair Ek.bool (Ek.pair (Ek.int .i64) Ek.bool))) 81 v75 q72.2.2.2.2.2 :: Res.obj 79 v5 [.int .i64 q72.2.1, .int .i64 q72.2.2.1, .int .i64 q72.2.2.2.1, .int .i64 q72.2.2.2.2.1, v75] :: Res.map (fun x : ByteArray => Value.string x) v37 k14c_2c_2 :: Res.obj 74 v9 [.int .i64 k14c_2c_0, .int .i64 k14c_2c_1, v37] :: Res.sl (Ek.pair (Ek.int .i64) (Ek.pair (Ek.int .i64) (Ek.pair (Ek.int .u8) (Ek.pair (Ek.int .u8) (Ek.pair Ek.bool Ek.str))))) 88 v40 k14c_3 :: Res.sl (Ek.pair (Ek.int .i64) (Ek.pair (Ek.int .i64) (Ek.pair (Ek.int .u8) (Ek.pair (Ek.int .u8) (Ek.pair Ek.bool Ek.str))))) 88 v42 k14c_4 :: Res.sl (Ek.int .u8) 5 v44 k14c_5 :: Res.map (fun x : Int => Value.int .i64 x) v46 k14c_7 :: Res.sl Ek.str 9 v48 k14c_11 :: Res.sl (Ek.int .i64) 3 v50 k14c_13 :: Res.obj 68 v32 [.int .i64 k14c_0, v5, v9, v40, v42, v44, .int .i64 k14c_6, v46, .int .i64 k14c_8, .int .i64 k14c_9, .int .i64 k14c_10, v48, .bool k14c_12, v50] :: ow) := hp
    refine ⟨_, rfl, ?_⟩
    clear hf; intro a hf
    refine st_ineq hf (by decide) rfl rfl rfl ?_
    clear hf; intro a ha hf; clear ha
    refine st_nil hf ?_
    refine th_n ?_
    refine wp_if hf rfl (fun hb => ?_) (fun hb => ?_)
    ·
     replace h := ifT h hb
     refine wp_seq ?_
     refine wp_reg ?_
     refine st_assign hf rfl rfl (by decide) ?_
     clear hf; intro a ha hf; clear ha
     refine st_nil hf ?_
     refine th_n ?_
     refine wp_ret ?_
     refine ib_r ?_
     refine th_r ?_
     obtain rfl := Option.some.inj h
     have hp : Hp _ _ _ (ow) := Hp.sel (pre := [Res.sl (Ek.pair Ek.str (Ek.pair Ek.bool (Ek.pair (Ek.int .i64) Ek.bool))) 81 v75 q72.2.2.2.2.2, Res.obj 79 v5 [.int .i64 q72.2.1, .int .i64 q72.2.2.1, .int .i64 q72.2.2.2.1, .int .i64 q72.2.2.2.2.1, v75], Res.map (fun x : ByteArray => Value.string x) v37 k14c_2c_2, Res.obj 74 v9 [.int .i64 k14c_2c_0, .int .i64 k14c_2c_1, v37], Res.sl (Ek.pair (Ek.int .i64) (Ek.pair (Ek.int .i64) (Ek.pair (Ek.int .u8) (Ek.pair (Ek.int .u8) (Ek.pair Ek.bool Ek.str))))) 88 v40 k14c_3, Res.sl (Ek.pair (Ek.int .i64) (Ek.pair (Ek.int .i64) (Ek.pair (Ek.int .u8) (Ek.pair (Ek.int .u8) (Ek.pair Ek.bool Ek.str))))) 88 v42 k14c_4, Res.sl (Ek.int .u8) 5 v44 k14c_5, Res.map (fun x : Int => Value.int .i64 x) v46 k14c_7, Res.sl Ek.str 9 v48 k14c_11, Res.sl (Ek.int .i64) 3 v50 k14c_13, Res.obj 68 v32 [.int .i64 k14c_0, v5, v9, v40, v42, v44, .int .i64 k14c_6, v46, .int .i64 k14c_8, .int .i64 k14c_9, .int .i64 k14c_10, v48, .bool k14c_12, v50]]) (tail := ow) (rs' := []) hp [] (by decide) (by simp) rfl
     exact rnd_r (by simp) ⟨rfl, ⟨hf.sub ⟨rfl, trivial⟩, hp⟩⟩
    replace h := ifF h hb
    refine wp_skip ?_
    refine ib_n ?_
    refine th_n ?_
    refine wp_reg ?_
    refine st_move hf rfl rfl (by decide) ?_
    clear hf; intro a ha hf; clear ha
    refine st_iadd hf (by decide) rfl rfl rfl ?_
    clear hf; intro a ha hf; clear ha
    refine st_assign hf rfl rfl (by decide) ?_
    clear hf; intro a ha hf; clear ha
    refine st_nil hf ?_
    obtain rfl := Option.some.inj h
    exact rnd_l ⟨_, _, _, _, _, _, _, _, hf.sub ⟨rfl, rfl, rfl, rfl, rfl, trivial⟩, hp⟩
   replace h := ifF h hb
   refine wp_exit ?_
   refine th_e ?_
   obtain rfl := Option.some.inj h
   exact rnd_r (by simp) ⟨rfl, _, _, _, _, _, _, _, _, hf.sub ⟨rfl, rfl, rfl, rfl, trivial⟩, hp⟩
  clear hl hf hp
  intro e a w hne hO
  rcases q77 with q81 | q82
  ·
   replace h := smL h
   obtain ⟨rfl, v53, v56, v59, v61, v63, v65, v67, v69, hf, hp⟩ := hO
   refine ib_same ?_
   refine th_n ?_
   refine wp_seq ?_
   refine wp_seq ?_
   refine wp_reg ?_
   refine st_assign hf rfl rfl (by decide) ?_
   clear hf; intro a ha hf; clear ha
   refine st_nil hf ?_
   refine th_n ?_
   refine wp_block ?_
   obtain ⟨q164, hl, h⟩ := bnd h
   refine wp_loop_pure (f := (f_foghornlaw28_AgainLean.s2 many2)) (s := (q81.1, q81.2.1, q81.2.2.1, q81.2.2.2.1, q81.2.2.2.2.1, q81.2.2.2.2.2.1, q81.2.2.2.2.2.2.1, q81.2.2.2.2.2.2.2.1, q81.2.2.2.2.2.2.2.2.1, q81.2.2.2.2.2.2.2.2.2.1, q81.2.2.2.2.2.2.2.2.2.2.1, q81.2.2.2.2.2.2.2.2.2.2.2.1, q81.2.2.2.2.2.2.2.2.2.2.2.2.1, q81.2.2.2.2.2.2.2.2.2.2.2.2.2.1, q81.2.2.2.2.2.2.2.2.2.2.2.2.2.2.1, q81.2.2.2.2.2.2.2.2.2.2.2.2.2.2.2.1, q81.2.2.2.2.2.2.2.2.2.2.2.2.2.2.2.2.1, q81.2.2.2.2.2.2.2.2.2.2.2.2.2.2.2.2.2.1, q81.2.2.2.2.2.2.2.2.2.2.2.2.2.2.2.2.2.2.1, q81.2.2.2.2.2.2.2.2.2.2.2.2.2.2.2.2.2.2.2, (0 : Int))) (fun s a w => ∃ (v83 : Value) (v86 : Value) (v89 : Value) (v91 : Value) (v93 : Value) (v95 : Value) (v97 : Value) (v99 : Value), Fr 162 a [(1, .int .i64 (IntKind.i64.wrap ((9 : Int) + (IntKind.i64.wrap (((IntKind.u64.wrap wait1)).tmod (30 : Int)))))), (2, .int .i64 (IntKind.i64.wrap (((IntKind.u64.wrap many2)).tmod (300 : Int)))), (9, v5), (14, v32), (16, .int .i64 s.2.2.2.2.2.2.2.2.2.2.2.2.2.2.2.2.2.2.2.2)] ∧ Hp S w0 w (Res.sl (Ek.pair Ek.str (Ek.pair Ek.bool (Ek.pair (Ek.int .i64) Ek.bool))) 81 v83 s.2.2.2.2.1 :: Res.obj 79 v5 [.int .i64 s.1, .int .i64 s.2.1, .int .i64 s.2.2.1, .int .i64 s.2.2.2.1, v83] :: Res.map (fun x : ByteArray => Value.string x) v86 s.2.2.2.2.2.2.2.2.1 :: Res.obj 74 v9 [.int .i64 s.2.2.2.2.2.2.1, .int .i64 s.2.2.2.2.2.2.2.1, v86] :: Res.sl (Ek.pair (Ek.int .i64) (Ek.pair (Ek.int .i64) (Ek.pair (Ek.int .u8) (Ek.pair (Ek.int .u8) (Ek.pair Ek.bool Ek.str))))) 88 v89 s.2.2.2.2.2.2.2.2.2.1 :: Res.sl (Ek.pair (Ek.int .i64) (Ek.pair (Ek.int .i64) (Ek.pair (Ek.int .u8) (Ek.pair (Ek.int .u8) (Ek.pair Ek.bool Ek.str))))) 88 v91 s.2.2.2.2.2.2.2.2.2.2.1 :: Res.sl (Ek.int .u8) 5 v93 s.2.2.2.2.2.2.2.2.2.2.2.1 :: Res.map (fun x : Int => Value.int .i64 x) v95 s.2.2.2.2.2.2.2.2.2.2.2.2.2.1 :: Res.sl Ek.str 9 v97 s.2.2.2.2.2.2.2.2.2.2.2.2.2.2.2.2.2.1 :: Res.sl (Ek.int .i64) 3 v99 s.2.2.2.2.2.2.2.2.2.2.2.2.2.2.2.2.2.2.2.1 :: Res.obj 68 v32 [.int .i64 s.2.2.2.2.2.1, v5, v9, v89, v91, v93, .int .i64 s.2.2.2.2.2.2.2.2.2.2.2.2.1, v95, .int .i64 s.2.2.2.2.2.2.2.2.2.2.2.2.2.2.1, .int .i64 s.2.2.2.2.2.2.2.2.2.2.2.2.2.2.2.1, .int .i64 s.2.2.2.2.2.2.2.2.2.2.2.2.2.2.2.2.1, v97, .bool s.2.2.2.2.2.2.2.2.2.2.2.2.2.2.2.2.2.2.1, v99] :: ow)) (fun q e a w => match q with | (Sum.inl q) => e = .exit 2 ∧ ∃ (v102 : Value) (v105 : Value) (v108 : Value) (v110 : Value) (v112 : Value) (v114 : Value) (v116 : Value) (v118 : Value), Fr 162 a [(1, .int .i64 (IntKind.i64.wrap ((9 : Int) + (IntKind.i64.wrap (((IntKind.u64.wrap wait1)).tmod (30 : Int)))))), (2, .int .i64 (IntKind.i64.wrap (((IntKind.u64.wrap many2)).tmod (300 : Int)))), (9, v5), (14, v32)] ∧ Hp S w0 w (Res.sl (Ek.pair Ek.str (Ek.pair Ek.bool (Ek.pair (Ek.int .i64) Ek.bool))) 81 v102 q.2.2.2.2.1 :: Res.obj 79 v5 [.int .i64 q.1, .int .i64 q.2.1, .int .i64 q.2.2.1, .int .i64 q.2.2.2.1, v102] :: Res.map (fun x : ByteArray => Value.string x) v105 q.2.2.2.2.2.2.2.2.1 :: Res.obj 74 v9 [.int .i64 q.2.2.2.2.2.2.1, .int .i64 q.2.2.2.2.2.2.2.1, v105] :: Res.sl (Ek.pair (Ek.int .i64) (Ek.pair (Ek.int .i64) (Ek.pair (Ek.int .u8) (Ek.pair (Ek.int .u8) (Ek.pair Ek.bool Ek.str))))) 88 v108 q.2.2.2.2.2.2.2.2.2.1 :: Res.sl (Ek.pair (Ek.int .i64) (Ek.pair (Ek.int .i64) (Ek.pair (Ek.int .u8) (Ek.pair (Ek.int .u8) (Ek.pair Ek.bool Ek.str))))) 88 v110 q.2.2.2.2.2.2.2.2.2.2.1 :: Res.sl (Ek.int .u8) 5 v112 q.2.2.2.2.2.2.2.2.2.2.2.1 :: Res.map (fun x : Int => Value.int .i64 x) v114 q.2.2.2.2.2.2.2.2.2.2.2.2.2.1 :: Res.sl Ek.str 9 v116 q.2.2.2.2.2.2.2.2.2.2.2.2.2.2.2.2.2.1 :: Res.sl (Ek.int .i64) 3 v118 q.2.2.2.2.2.2.2.2.2.2.2.2.2.2.2.2.2.2.2 :: Res.obj 68 v32 [.int .i64 q.2.2.2.2.2.1, v5, v9, v108, v110, v112, .int .i64 q.2.2.2.2.2.2.2.2.2.2.2.2.1, v114, .int .i64 q.2.2.2.2.2.2.2.2.2.2.2.2.2.2.1, .int .i64 q.2.2.2.2.2.2.2.2.2.2.2.2.2.2.2.1, .int .i64 q.2.2.2.2.2.2.2.2.2.2.2.2.2.2.2.2.1, v116, .bool q.2.2.2.2.2.2.2.2.2.2.2.2.2.2.2.2.2.2.1, v118] :: ow) | (Sum.inr q) => e = .ret ∧ Fr 162 a [(8, .bool q)] ∧ Hp S w0 w (ow)) ?_ hl ⟨_, _, _, _, _, _, _, _, hf.sub ⟨rfl, rfl, rfl, rfl, rfl, trivial⟩, hp⟩ ?_
   ·
    clear hl hf hp
    intro s x a w h hI
    obtain ⟨sx9c_0, sx9c_1, sx9c_2, sx9c_3, sx9c_4, k14c_0, k14c_2c_0, k14c_2c_1, k14c_2c_2, k14c_3, k14c_4, k14c_5, k14c_6, k14c_7, k14c_8, k14c_9, k14c_10, k14c_11, k14c_12, k14c_13, now16⟩ := s
    obtain ⟨v83, v86, v89, v91, v93, v95, v97, v99, hf, hp⟩ : ∃ (v83 : Value) (v86 : Value) (v89 : Value) (v91 : Value) (v93 : Value) (v95 : Value) (v97 : Value) (v99 : Value), Fr 162 a [(1, .int .i64 (IntKind.i64.wrap ((9 : Int) + (IntKind.i64.wrap (((IntKind.u64.wrap wait1)).tmod (30 : Int)))))), (2, .int .i64 (IntKind.i64.wrap (((IntKind.u64.wrap many2)).tmod (300 : Int)))), (9, v5), (14, v32), (16, .int .i64 now16)] ∧ Hp S w0 w (Res.sl (Ek.pair Ek.str (Ek.pair Ek.bool (Ek.pair (Ek.int .i64) Ek.bool))) 81 v83 sx9c_4 :: Res.obj 79 v5 [.int .i64 sx9c_0, .int .i64 sx9c_1, .int .i64 sx9c_2, .int .i64 sx9c_3, v83] :: Res.map (fun x : ByteArray => Value.string x) v86 k14c_2c_2 :: Res.obj 74 v9 [.int .i64 k14c_2c_0, .int .i64 k14c_2c_1, v86] :: Res.sl (Ek.pair (Ek.int .i64) (Ek.pair (Ek.int .i64) (Ek.pair (Ek.int .u8) (Ek.pair (Ek.int .u8) (Ek.pair Ek.bool Ek.str))))) 88 v89 k14c_3 :: Res.sl (Ek.pair (Ek.int .i64) (Ek.pair (Ek.int .i64) (Ek.pair (Ek.int .u8) (Ek.pair (Ek.int .u8) (Ek.pair Ek.bool Ek.str))))) 88 v91 k14c_4 :: Res.sl (Ek.int .u8) 5 v93 k14c_5 :: Res.map (fun x : Int => Value.int .i64 x) v95 k14c_7 :: Res.sl Ek.str 9 v97 k14c_11 :: Res.sl (Ek.int .i64) 3 v99 k14c_13 :: Res.obj 68 v32 [.int .i64 k14c_0, v5, v9, v89, v91, v93, .int .i64 k14c_6, v95, .int .i64 k14c_8, .int .i64 k14c_9, .int .i64 k14c_10, v97, .bool k14c_12, v99] :: ow) := hI
    replace h : f_foghornlaw28_AgainLean.s2c many2 sx9c_0 sx9c_1 sx9c_2 sx9c_3 sx9c_4 k14c_0 k14c_2c_0 k14c_2c_1 k14c_2c_2 k14c_3 k14c_4 k14c_5 k14c_6 k14c_7 k14c_8 k14c_9 k14c_10 k14c_11 k14c_12 k14c_13 now16 = some x := h
    unfold f_foghornlaw28_AgainLean.s2c at h
    refine wp_seq ?_
    refine wp_seq ?_
    refine wp_reg ?_
    refine st_move hf rfl rfl (by decide) ?_
    clear hf; intro a ha hf; clear ha
    refine st_move hf rfl rfl (by decide) ?_
    clear hf; intro a ha hf; clear ha
    refine st_imul hf (by decide) rfl rfl rfl ?_
    clear hf; intro a ha hf; clear ha
    refine st_iadd hf (by decide) rfl rfl rfl ?_
    clear hf; intro a ha hf; clear ha
    refine st_ilss hf (by decide) rfl rfl rfl ?_
    clear hf; intro a ha hf; clear ha
    refine st_move hf rfl rfl (by decide) ?_
    clear hf; intro a ha hf; clear ha
    obtain ⟨z123, hz121, h⟩ := bnd h
    refine wpList_cut 4 (fun a w => Fr 162 a [(1, .int .i64 (IntKind.i64.wrap ((9 : Int) + (IntKind.i64.wrap (((IntKind.u64.wrap wait1)).tmod (30 : Int)))))), (2, .int .i64 (IntKind.i64.wrap (((IntKind.u64.wrap many2)).tmod (300 : Int)))), (9, v5), (14, v32), (16, .int .i64 now16), (94, .bool z123)] ∧ Hp S w0 w (Res.sl (Ek.pair Ek.str (Ek.pair Ek.bool (Ek.pair (Ek.int .i64) Ek.bool))) 81 v83 sx9c_4 :: Res.obj 79 v5 [.int .i64 sx9c_0, .int .i64 sx9c_1, .int .i64 sx9c_2, .int .i64 sx9c_3, v83] :: Res.map (fun x : ByteArray => Value.string x) v86 k14c_2c_2 :: Res.obj 74 v9 [.int .i64 k14c_2c_0, .int .i64 k14c_2c_1, v86] :: Res.sl (Ek.pair (Ek.int .i64) (Ek.pair (Ek.int .i64) (Ek.pair (Ek.int .u8) (Ek.pair (Ek.int .u8) (Ek.pair Ek.bool Ek.str))))) 88 v89 k14c_3 :: Res.sl (Ek.pair (Ek.int .i64) (Ek.pair (Ek.int .i64) (Ek.pair (Ek.int .u8) (Ek.pair (Ek.int .u8) (Ek.pair Ek.bool Ek.str))))) 88 v91 k14c_4 :: Res.sl (Ek.int .u8) 5 v93 k14c_5 :: Res.map (fun x : Int => Value.int .i64 x) v95 k14c_7 :: Res.sl Ek.str 9 v97 k14c_11 :: Res.sl (Ek.int .i64) 3 v99 k14c_13 :: Res.obj 68 v32 [.int .i64 k14c_0, v5, v9, v89, v91, v93, .int .i64 k14c_6, v95, .int .i64 k14c_8, .int .i64 k14c_9, .int .i64 k14c_10, v97, .bool k14c_12, v99] :: ow)) ?_ ?_
    ·
     rcases Bool.eq_false_or_eq_true (decide (now16 < (IntKind.i64.wrap ((IntKind.i64.wrap ((20 : Int) * (IntKind.i64.wrap (((IntKind.u64.wrap many2)).tmod (300 : Int))))) + (20 : Int))))) with hb122 | hb122
     ·
      replace hz121 := ifT hz121 hb122
      refine st_move hf (wantY hf rfl rfl hb122) rfl (by decide) ?_
      clear hf; intro a ha hf; clear ha
      obtain ⟨q124, hcall125, hz121⟩ := bnd hz121
      obtain ⟨S126, hp127, rd128, up129, bk130⟩ := Hp.lendS hp (i := 0) rfl
      obtain ⟨S131, hp132, rd133, up134, bk135⟩ := Hp.lendO hp127 (i := 0) rfl
      refine st_call hf (by decide) Try.func25 rfl rfl (wantY hf rfl rfl hb122) rfl rfl (f_again_Sender_Left_c hp132 _ _ _ _ _ _ ((rd128.now hp127).mono up134) _ rd133 hcall125) ?_
      rintro _ w ⟨rfl, hp0⟩
      have hp0 := bk135 _ _ hp0
      have hp0 := bk130 _ _ hp0
      clear hp; have hp := hp0; clear hp0
      replace hp : Hp _ _ _ (Res.sl (Ek.pair Ek.str (Ek.pair Ek.bool (Ek.pair (Ek.int .i64) Ek.bool))) 81 v83 sx9c_4 :: Res.obj 79 v5 [.int .i64 sx9c_0, .int .i64 sx9c_1, .int .i64 sx9c_2, .int .i64 sx9c_3, v83] :: Res.map (fun x : ByteArray => Value.string x) v86 k14c_2c_2 :: Res.obj 74 v9 [.int .i64 k14c_2c_0, .int .i64 k14c_2c_1, v86] :: Res.sl (Ek.pair (Ek.int .i64) (Ek.pair (Ek.int .i64) (Ek.pair (Ek.int .u8) (Ek.pair (Ek.int .u8) (Ek.pair Ek.bool Ek.str))))) 88 v89 k14c_3 :: Res.sl (Ek.pair (Ek.int .i64) (Ek.pair (Ek.int .i64) (Ek.pair (Ek.int .u8) (Ek.pair (Ek.int .u8) (Ek.pair Ek.bool Ek.str))))) 88 v91 k14c_4 :: Res.sl (Ek.int .u8) 5 v93 k14c_5 :: Res.map (fun x : Int => Value.int .i64 x) v95 k14c_7 :: Res.sl Ek.str 9 v97 k14c_11 :: Res.sl (Ek.int .i64) 3 v99 k14c_13 :: Res.obj 68 v32 [.int .i64 k14c_0, v5, v9, v89, v91, v93, .int .i64 k14c_6, v95, .int .i64 k14c_8, .int .i64 k14c_9, .int .i64 k14c_10, v97, .bool k14c_12, v99] :: ow) := hp
      refine ⟨_, rfl, ?_⟩
      clear hf; intro a hf
      refine st_igtr hf (by decide) (wantY hf rfl rfl hb122) rfl rfl ?_
      clear hf; intro a ha hf; clear ha
      obtain rfl := Option.some.inj hz121
      refine st_pick (v := .bool (decide ((0 : Int) < q124))) hf rfl rfl (fun hb' => ?_) (fun hb' => ?_) (by decide) ?_
      · rfl
      · exact absurd (hb122.symm.trans hb') (by decide)
      clear hf; intro a ha hf; clear ha
      refine st_nil hf (th_n ?_)
      exact ⟨hf.sub ⟨rfl, rfl, rfl, rfl, rfl, rfl, trivial⟩, hp⟩
     replace hz121 := ifF hz121 hb122
     refine st_skip hf (wantN hf rfl rfl hb122) rfl (by decide) ?_ rfl
     clear hf; intro a hf
     refine st_skip hf (wantN hf rfl rfl hb122) rfl (by decide) ?_ rfl
     clear hf; intro a hf
     refine st_skip hf (wantN hf rfl rfl hb122) rfl (by decide) ?_ rfl
     clear hf; intro a hf
     obtain rfl := Option.some.inj hz121
     refine st_pick (v := .bool false) hf rfl rfl (fun hb' => ?_) (fun hb' => ?_) (by decide) ?_
     · exact absurd (hb122.symm.trans hb') (by decide)
     · rfl
     clear hf; intro a ha hf; clear ha
     refine st_nil hf (th_n ?_)
     exact ⟨hf.sub ⟨rfl, rfl, rfl, rfl, rfl, rfl, trivial⟩, hp⟩
    rintro a w ⟨hf, hp⟩
    refine st_nil hf ?_
    refine th_n ?_
    refine wp_if hf rfl (fun hb => ?_) (fun hb => ?_)
    ·
     replace h := ifT h hb
     refine wp_skip ?_
     refine th_n ?_
     refine wp_seq ?_
     refine wp_block ?_
     refine wp_seq ?_
     refine wp_reg ?_
     refine st_move hf rfl rfl (by decide) ?_
     clear hf; intro a ha hf; clear ha
     refine st_move hf rfl rfl (by decide) ?_
     clear hf; intro a ha hf; clear ha
     obtain ⟨q136, hcall137, h⟩ := bnd h
     have hp : Hp _ _ _ (_ :: _ :: _ :: _ :: _ :: _ :: _ :: _ :: _ :: _ :: _ :: ow) := Hp.sel (pre := [Res.sl (Ek.pair Ek.str (Ek.pair Ek.bool (Ek.pair (Ek.int .i64) Ek.bool))) 81 v83 sx9c_4, Res.obj 79 v5 [.int .i64 sx9c_0, .int .i64 sx9c_1, .int .i64 sx9c_2, .int .i64 sx9c_3, v83], Res.map (fun x : ByteArray => Value.string x) v86 k14c_2c_2, Res.obj 74 v9 [.int .i64 k14c_2c_0, .int .i64 k14c_2c_1, v86], Res.sl (Ek.pair (Ek.int .i64) (Ek.pair (Ek.int .i64) (Ek.pair (Ek.int .u8) (Ek.pair (Ek.int .u8) (Ek.pair Ek.bool Ek.str))))) 88 v89 k14c_3, Res.sl (Ek.pair (Ek.int .i64) (Ek.pair (Ek.int .i64) (Ek.pair (Ek.int .u8) (Ek.pair (Ek.int .u8) (Ek.pair Ek.bool Ek.str))))) 88 v91 k14c_4, Res.sl (Ek.int .u8) 5 v93 k14c_5, Res.map (fun x : Int => Value.int .i64 x) v95 k14c_7, Res.sl Ek.str 9 v97 k14c_11, Res.sl (Ek.int .i64) 3 v99 k14c_13, Res.obj 68 v32 [.int .i64 k14c_0, v5, v9, v89, v91, v93, .int .i64 k14c_6, v95, .int .i64 k14c_8, .int .i64 k14c_9, .int .i64 k14c_10, v97, .bool k14c_12, v99]]) (tail := ow) (rs' := [Res.obj 79 v5 [.int .i64 sx9c_0, .int .i64 sx9c_1, .int .i64 sx9c_2, .int .i64 sx9c_3, v83], Res.sl (Ek.pair Ek.str (Ek.pair Ek.bool (Ek.pair (Ek.int .i64) Ek.bool))) 81 v83 sx9c_4, Res.map (fun x : ByteArray => Value.string x) v86 k14c_2c_2, Res.obj 74 v9 [.int .i64 k14c_2c_0, .int .i64 k14c_2c_1, v86], Res.sl (Ek.pair (Ek.int .i64) (Ek.pair (Ek.int .i64) (Ek.pair (Ek.int .u8) (Ek.pair (Ek.int .u8) (Ek.pair Ek.bool Ek.str))))) 88 v89 k14c_3, Res.sl (Ek.pair (Ek.int .i64) (Ek.pair (Ek.int .i64) (Ek.pair (Ek.int .u8) (Ek.pair (Ek.int .u8) (Ek.pair Ek.bool Ek.str))))) 88 v91 k14c_4, Res.sl (Ek.int .u8) 5 v93 k14c_5, Res.map (fun x : Int => Value.int .i64 x) v95 k14c_7, Res.sl Ek.str 9 v97 k14c_11, Res.sl (Ek.int .i64) 3 v99 k14c_13, Res.obj 68 v32 [.int .i64 k14c_0, v5, v9, v89, v91, v93, .int .i64 k14c_6, v95, .int .i64 k14c_8, .int .i64 k14c_9, .int .i64 k14c_10, v97, .bool k14c_12, v99]]) hp [1, 0, 2, 3, 4, 5, 6, 7, 8, 9, 10] (by decide) (by simp) rfl
     replace hp : Hp _ _ _ (Res.opt pk79 v5 (some (sx9c_0, sx9c_1, sx9c_2, sx9c_3, sx9c_4)) :: _ :: _ :: _ :: _ :: _ :: _ :: _ :: _ :: _ :: ow) := pk79_out (s := (sx9c_0, sx9c_1, sx9c_2, sx9c_3, sx9c_4)) (u := v83) hp
     have hp : Hp _ _ _ (_ :: _ :: _ :: _ :: _ :: _ :: _ :: _ :: _ :: _ :: ow) := Hp.sel (pre := [Res.opt pk79 v5 (some (sx9c_0, sx9c_1, sx9c_2, sx9c_3, sx9c_4)), Res.map (fun x : ByteArray => Value.string x) v86 k14c_2c_2, Res.obj 74 v9 [.int .i64 k14c_2c_0, .int .i64 k14c_2c_1, v86], Res.sl (Ek.pair (Ek.int .i64) (Ek.pair (Ek.int .i64) (Ek.pair (Ek.int .u8) (Ek.pair (Ek.int .u8) (Ek.pair Ek.bool Ek.str))))) 88 v89 k14c_3, Res.sl (Ek.pair (Ek.int .i64) (Ek.pair (Ek.int .i64) (Ek.pair (Ek.int .u8) (Ek.pair (Ek.int .u8) (Ek.pair Ek.bool Ek.str))))) 88 v91 k14c_4, Res.sl (Ek.int .u8) 5 v93 k14c_5, Res.map (fun x : Int => Value.int .i64 x) v95 k14c_7, Res.sl Ek.str 9 v97 k14c_11, Res.sl (Ek.int .i64) 3 v99 k14c_13, Res.obj 68 v32 [.int .i64 k14c_0, v5, v9, v89, v91, v93, .int .i64 k14c_6, v95, .int .i64 k14c_8, .int .i64 k14c_9, .int .i64 k14c_10, v97, .bool k14c_12, v99]]) (tail := ow) (rs' := [Res.obj 74 v9 [.int .i64 k14c_2c_0, .int .i64 k14c_2c_1, v86], Res.map (fun x : ByteArray => Value.string x) v86 k14c_2c_2, Res.opt pk79 v5 (some (sx9c_0, sx9c_1, sx9c_2, sx9c_3, sx9c_4)), Res.sl (Ek.pair (Ek.int .i64) (Ek.pair (Ek.int .i64) (Ek.pair (Ek.int .u8) (Ek.pair (Ek.int .u8) (Ek.pair Ek.bool Ek.str))))) 88 v89 k14c_3, Res.sl (Ek.pair (Ek.int .i64) (Ek.pair (Ek.int .i64) (Ek.pair (Ek.int .u8) (Ek.pair (Ek.int .u8) (Ek.pair Ek.bool Ek.str))))) 88 v91 k14c_4, Res.sl (Ek.int .u8) 5 v93 k14c_5, Res.map (fun x : Int => Value.int .i64 x) v95 k14c_7, Res.sl Ek.str 9 v97 k14c_11, Res.sl (Ek.int .i64) 3 v99 k14c_13, Res.obj 68 v32 [.int .i64 k14c_0, v5, v9, v89, v91, v93, .int .i64 k14c_6, v95, .int .i64 k14c_8, .int .i64 k14c_9, .int .i64 k14c_10, v97, .bool k14c_12, v99]]) hp [2, 1, 0, 3, 4, 5, 6, 7, 8, 9] (by decide) (by simp) rfl
     replace hp : Hp _ _ _ (Res.opt pk74 v9 (some (k14c_2c_0, k14c_2c_1, k14c_2c_2)) :: _ :: _ :: _ :: _ :: _ :: _ :: _ :: _ :: ow) := pk74_out (s := (k14c_2c_0, k14c_2c_1, k14c_2c_2)) (u := v86) hp
     obtain ⟨S138, hp139, rd140, up141, bk142⟩ := Hp.lendS hp (i := 4) rfl
     have hp143 : Hp _ _ _ (Res.opt pk79 v5 (some (sx9c_0, sx9c_1, sx9c_2, sx9c_3, sx9c_4)) :: Res.opt pk74 v9 (some (k14c_2c_0, k14c_2c_1, k14c_2c_2)) :: Res.sl (Ek.pair (Ek.int .i64) (Ek.pair (Ek.int .i64) (Ek.pair (Ek.int .u8) (Ek.pair (Ek.int .u8) (Ek.pair Ek.bool Ek.str))))) 88 v89 k14c_3 :: Res.sl (Ek.pair (Ek.int .i64) (Ek.pair (Ek.int .i64) (Ek.pair (Ek.int .u8) (Ek.pair (Ek.int .u8) (Ek.pair Ek.bool Ek.str))))) 88 v91 k14c_4 :: Res.map (fun x : Int => Value.int .i64 x) v95 k14c_7 :: Res.sl Ek.str 9 v97 k14c_11 :: Res.sl (Ek.int .i64) 3 v99 k14c_13 :: Res.obj 68 v32 [.int .i64 k14c_0, v5, v9, v89, v91, v93, .int .i64 k14c_6, v95, .int .i64 k14c_8, .int .i64 k14c_9, .int .i64 k14c_10, v97, .bool k14c_12, v99] :: ow) := Hp.sel (pre := [Res.opt pk74 v9 (some (k14c_2c_0, k14c_2c_1, k14c_2c_2)), Res.opt pk79 v5 (some (sx9c_0, sx9c_1, sx9c_2, sx9c_3, sx9c_4)), Res.sl (Ek.pair (Ek.int .i64) (Ek.pair (Ek.int .i64) (Ek.pair (Ek.int .u8) (Ek.pair (Ek.int .u8) (Ek.pair Ek.bool Ek.str))))) 88 v89 k14c_3, Res.sl (Ek.pair (Ek.int .i64) (Ek.pair (Ek.int .i64) (Ek.pair (Ek.int .u8) (Ek.pair (Ek.int .u8) (Ek.pair Ek.bool Ek.str))))) 88 v91 k14c_4, Res.map (fun x : Int => Value.int .i64 x) v95 k14c_7, Res.sl Ek.str 9 v97 k14c_11, Res.sl (Ek.int .i64) 3 v99 k14c_13, Res.obj 68 v32 [.int .i64 k14c_0, v5, v9, v89, v91, v93, .int .i64 k14c_6, v95, .int .i64 k14c_8, .int .i64 k14c_9, .int .i64 k14c_10, v97, .bool k14c_12, v99]]) (tail := ow) (rs' := [Res.opt pk79 v5 (some (sx9c_0, sx9c_1, sx9c_2, sx9c_3, sx9c_4)), Res.opt pk74 v9 (some (k14c_2c_0, k14c_2c_1, k14c_2c_2)), Res.sl (Ek.pair (Ek.int .i64) (Ek.pair (Ek.int .i64) (Ek.pair (Ek.int .u8) (Ek.pair (Ek.int .u8) (Ek.pair Ek.bool Ek.str))))) 88 v89 k14c_3, Res.sl (Ek.pair (Ek.int .i64) (Ek.pair (Ek.int .i64) (Ek.pair (Ek.int .u8) (Ek.pair (Ek.int .u8) (Ek.pair Ek.bool Ek.str))))) 88 v91 k14c_4, Res.map (fun x : Int => Value.int .i64 x) v95 k14c_7, Res.sl Ek.str 9 v97 k14c_11, Res.sl (Ek.int .i64) 3 v99 k14c_13, Res.obj 68 v32 [.int .i64 k14c_0, v5, v9, v89, v91, v93, .int .i64 k14c_6, v95, .int .i64 k14c_8, .int .i64 k14c_9, .int .i64 k14c_10, v97, .bool k14c_12, v99]]) hp139 [1, 0, 2, 3, 4, 5, 6, 7] (by decide) (by simp) rfl
     refine st_call hf (by decide) Try.func28 rfl rfl rfl rfl rfl (f_foghornlaw28_link_tick_c _ _ _ _ _ _ _ _ _ _ _ rd140 _ _ _ _ _ _ _ _ _ _ _ _ _ hp143 hcall137) ?_
     rintro _ w ⟨v144, v145, v146, v147, v148, rfl, hp0⟩
     have hp0 := bk142 _ _ hp0
     clear hp; have hp := hp0; clear hp0
     replace hp : Hp _ _ _ (_ :: Res.opt pk79 v5 q136.2.2.1 :: Res.opt pk74 v9 q136.2.2.2.1 :: Res.sl (Ek.pair (Ek.int .i64) (Ek.pair (Ek.int .i64) (Ek.pair (Ek.int .u8) (Ek.pair (Ek.int .u8) (Ek.pair Ek.bool Ek.str))))) 88 v144 q136.2.2.2.2.1 :: Res.sl (Ek.pair (Ek.int .i64) (Ek.pair (Ek.int .i64) (Ek.pair (Ek.int .u8) (Ek.pair (Ek.int .u8) (Ek.pair Ek.bool Ek.str))))) 88 v145 q136.2.2.2.2.2.1 :: Res.map (fun x : Int => Value.int .i64 x) v146 q136.2.2.2.2.2.2.2.2.1 :: Res.sl Ek.str 9 v147 q136.2.2.2.2.2.2.2.2.2.2.2.2.1 :: Res.sl (Ek.int .i64) 3 v148 q136.2.2.2.2.2.2.2.2.2.2.2.2.2.2 :: Res.obj 68 v32 [.int .i64 q136.2.1, v5, v9, v144, v145, v93, .int .i64 q136.2.2.2.2.2.2.2.1, v146, .int .i64 q136.2.2.2.2.2.2.2.2.2.1, .int .i64 q136.2.2.2.2.2.2.2.2.2.2.1, .int .i64 q136.2.2.2.2.2.2.2.2.2.2.2.1, v147, .bool q136.2.2.2.2.2.2.2.2.2.2.2.2.2.1, v148] :: ow) := hp
     refine ⟨_, rfl, ?_⟩
     clear hf; intro a hf
     refine st_not hf (by decide) rfl rfl ?_
     clear hf; intro a ha hf; clear ha
     refine st_move hf rfl rfl (by decide) ?_
     clear hf; intro a ha hf; clear ha
     obtain ⟨s154, hs155, h⟩ := bnd h
     have hp : Hp _ _ _ (_ :: _ :: _ :: _ :: _ :: _ :: _ :: _ :: _ :: ow) := Hp.sel (pre := [Res.sl (Ek.int .u8) 5 v93 k14c_5, Res.opt pk79 v5 q136.2.2.1, Res.opt pk74 v9 q136.2.2.2.1, Res.sl (Ek.pair (Ek.int .i64) (Ek.pair (Ek.int .i64) (Ek.pair (Ek.int .u8) (Ek.pair (Ek.int .u8) (Ek.pair Ek.bool Ek.str))))) 88 v144 q136.2.2.2.2.1, Res.sl (Ek.pair (Ek.int .i64) (Ek.pair (Ek.int .i64) (Ek.pair (Ek.int .u8) (Ek.pair (Ek.int .u8) (Ek.pair Ek.bool Ek.str))))) 88 v145 q136.2.2.2.2.2.1, Res.map (fun x : Int => Value.int .i64 x) v146 q136.2.2.2.2.2.2.2.2.1, Res.sl Ek.str 9 v147 q136.2.2.2.2.2.2.2.2.2.2.2.2.1, Res.sl (Ek.int .i64) 3 v148 q136.2.2.2.2.2.2.2.2.2.2.2.2.2.2, Res.obj 68 v32 [.int .i64 q136.2.1, v5, v9, v144, v145, v93, .int .i64 q136.2.2.2.2.2.2.2.1, v146, .int .i64 q136.2.2.2.2.2.2.2.2.2.1, .int .i64 q136.2.2.2.2.2.2.2.2.2.2.1, .int .i64 q136.2.2.2.2.2.2.2.2.2.2.2.1, v147, .bool q136.2.2.2.2.2.2.2.2.2.2.2.2.2.1, v148]]) (tail := ow) (rs' := [Res.opt pk79 v5 q136.2.2.1, Res.sl (Ek.int .u8) 5 v93 k14c_5, Res.opt pk74 v9 q136.2.2.2.1, Res.sl (Ek.pair (Ek.int .i64) (Ek.pair (Ek.int .i64) (Ek.pair (Ek.int .u8) (Ek.pair (Ek.int .u8) (Ek.pair Ek.bool Ek.str))))) 88 v144 q136.2.2.2.2.1, Res.sl (Ek.pair (Ek.int .i64) (Ek.pair (Ek.int .i64) (Ek.pair (Ek.int .u8) (Ek.pair (Ek.int .u8) (Ek.pair Ek.bool Ek.str))))) 88 v145 q136.2.2.2.2.2.1, Res.map (fun x : Int => Value.int .i64 x) v146 q136.2.2.2.2.2.2.2.2.1, Res.sl Ek.str 9 v147 q136.2.2.2.2.2.2.2.2.2.2.2.2.1, Res.sl (Ek.int .i64) 3 v148 q136.2.2.2.2.2.2.2.2.2.2.2.2.2.2, Res.obj 68 v32 [.int .i64 q136.2.1, v5, v9, v144, v145, v93, .int .i64 q136.2.2.2.2.2.2.2.1, v146, .int .i64 q136.2.2.2.2.2.2.2.2.2.1, .int .i64 q136.2.2.2.2.2.2.2.2.2.2.1, .int .i64 q136.2.2.2.2.2.2.2.2.2.2.2.1, v147, .bool q136.2.2.2.2.2.2.2.2.2.2.2.2.2.1, v148]]) hp [1, 0, 2, 3, 4, 5, 6, 7, 8] (by decide) (by simp) rfl
     replace hp : Hp _ _ _ (pk79.R v5 s154 :: _ :: _ :: _ :: _ :: _ :: _ :: _ :: _ :: ow) := hp.optSome hs155
     obtain ⟨v156, hp⟩ := pk79_in hp
     replace hp : Hp _ _ _ (Res.obj 79 v5 [.int .i64 s154.1, .int .i64 s154.2.1, .int .i64 s154.2.2.1, .int .i64 s154.2.2.2.1, v156] :: Res.sl (Ek.pair Ek.str (Ek.pair Ek.bool (Ek.pair (Ek.int .i64) Ek.bool))) 81 v156 s154.2.2.2.2 :: _ :: _ :: _ :: _ :: _ :: _ :: _ :: _ :: ow) := hp
     obtain ⟨s158, hs159, h⟩ := bnd h
     have hp : Hp _ _ _ (_ :: _ :: _ :: _ :: _ :: _ :: _ :: _ :: _ :: _ :: ow) := Hp.sel (pre := [Res.obj 79 v5 [.int .i64 s154.1, .int .i64 s154.2.1, .int .i64 s154.2.2.1, .int .i64 s154.2.2.2.1, v156], Res.sl (Ek.pair Ek.str (Ek.pair Ek.bool (Ek.pair (Ek.int .i64) Ek.bool))) 81 v156 s154.2.2.2.2, Res.sl (Ek.int .u8) 5 v93 k14c_5, Res.opt pk74 v9 q136.2.2.2.1, Res.sl (Ek.pair (Ek.int .i64) (Ek.pair (Ek.int .i64) (Ek.pair (Ek.int .u8) (Ek.pair (Ek.int .u8) (Ek.pair Ek.bool Ek.str))))) 88 v144 q136.2.2.2.2.1, Res.sl (Ek.pair (Ek.int .i64) (Ek.pair (Ek.int .i64) (Ek.pair (Ek.int .u8) (Ek.pair (Ek.int .u8) (Ek.pair Ek.bool Ek.str))))) 88 v145 q136.2.2.2.2.2.1, Res.map (fun x : Int => Value.int .i64 x) v146 q136.2.2.2.2.2.2.2.2.1, Res.sl Ek.str 9 v147 q136.2.2.2.2.2.2.2.2.2.2.2.2.1, Res.sl (Ek.int .i64) 3 v148 q136.2.2.2.2.2.2.2.2.2.2.2.2.2.2, Res.obj 68 v32 [.int .i64 q136.2.1, v5, v9, v144, v145, v93, .int .i64 q136.2.2.2.2.2.2.2.1, v146, .int .i64 q136.2.2.2.2.2.2.2.2.2.1, .int .i64 q136.2.2.2.2.2.2.2.2.2.2.1, .int .i64 q136.2.2.2.2.2.2.2.2.2.2.2.1, v147, .bool q136.2.2.2.2.2.2.2.2.2.2.2.2.2.1, v148]]) (tail := ow) (rs' := [Res.opt pk74 v9 q136.2.2.2.1, Res.obj 79 v5 [.int .i64 s154.1, .int .i64 s154.2.1, .int .i64 s154.2.2.1, .int .i64 s154.2.2.2.1, v156], Res.sl (Ek.pair Ek.str (Ek.pair Ek.bool (Ek.pair (Ek.int .i64) Ek.bool))) 81 v156 s154.2.2.2.2, Res.sl (Ek.int .u8) 5 v93 k14c_5, Res.sl (Ek.pair (Ek.int .i64) (Ek.pair (Ek.int .i64) (Ek.pair (Ek.int .u8) (Ek.pair (Ek.int .u8) (Ek.pair Ek.bool Ek.str))))) 88 v144 q136.2.2.2.2.1, Res.sl (Ek.pair (Ek.int .i64) (Ek.pair (Ek.int .i64) (Ek.pair (Ek.int .u8) (Ek.pair (Ek.int .u8) (Ek.pair Ek.bool Ek.str))))) 88 v145 q136.2.2.2.2.2.1, Res.map (fun x : Int => Value.int .i64 x) v146 q136.2.2.2.2.2.2.2.2.1, Res.sl Ek.str 9 v147 q136.2.2.2.2.2.2.2.2.2.2.2.2.1, Res.sl (Ek.int .i64) 3 v148 q136.2.2.2.2.2.2.2.2.2.2.2.2.2.2, Res.obj 68 v32 [.int .i64 q136.2.1, v5, v9, v144, v145, v93, .int .i64 q136.2.2.2.2.2.2.2.1, v146, .int .i64 q136.2.2.2.2.2.2.2.2.2.1, .int .i64 q136.2.2.2.2.2.2.2.2.2.2.1, .int .i64 q136.2.2.2.2.2.2.2.2.2.2.2.1, v147, .bool q136.2.2.2.2.2.2.2.2.2.2.2.2.2.1, v148]]) hp [3, 0, 1, 2, 4, 5, 6, 7, 8, 9] (by decide) (by simp) rfl
     replace hp : Hp _ _ _ (pk74.R v9 s158 :: _ :: _ :: _ :: _ :: _ :: _ :: _ :: _ :: _ :: ow) := hp.optSome hs159
     obtain ⟨v160, hp⟩ := pk74_in hp
     replace hp : Hp _ _ _ (Res.obj 74 v9 [.int .i64 s158.1, .int .i64 s158.2.1, v160] :: Res.map (fun x : ByteArray => Value.string x) v160 s158.2.2 :: _ :: _ :: _ :: _ :: _ :: _ :: _ :: _ :: _ :: ow) := hp
     refine wpList_cut 5 (fun a w => Fr 162 a [(1, .int .i64 (IntKind.i64.wrap ((9 : Int) + (IntKind.i64.wrap (((IntKind.u64.wrap wait1)).tmod (30 : Int)))))), (2, .int .i64 (IntKind.i64.wrap (((IntKind.u64.wrap many2)).tmod (300 : Int)))), (9, v5), (14, v32), (16, .int .i64 now16), (106, .bool ((!q136.1) || q136.2.2.2.2.2.2.2.2.2.2.2.2.2.1))] ∧ Hp S w0 w (Res.obj 74 v9 [.int .i64 s158.1, .int .i64 s158.2.1, v160] :: Res.map (fun x : ByteArray => Value.string x) v160 s158.2.2 :: Res.obj 79 v5 [.int .i64 s154.1, .int .i64 s154.2.1, .int .i64 s154.2.2.1, .int .i64 s154.2.2.2.1, v156] :: Res.sl (Ek.pair Ek.str (Ek.pair Ek.bool (Ek.pair (Ek.int .i64) Ek.bool))) 81 v156 s154.2.2.2.2 :: Res.sl (Ek.int .u8) 5 v93 k14c_5 :: Res.sl (Ek.pair (Ek.int .i64) (Ek.pair (Ek.int .i64) (Ek.pair (Ek.int .u8) (Ek.pair (Ek.int .u8) (Ek.pair Ek.bool Ek.str))))) 88 v144 q136.2.2.2.2.1 :: Res.sl (Ek.pair (Ek.int .i64) (Ek.pair (Ek.int .i64) (Ek.pair (Ek.int .u8) (Ek.pair (Ek.int .u8) (Ek.pair Ek.bool Ek.str))))) 88 v145 q136.2.2.2.2.2.1 :: Res.map (fun x : Int => Value.int .i64 x) v146 q136.2.2.2.2.2.2.2.2.1 :: Res.sl Ek.str 9 v147 q136.2.2.2.2.2.2.2.2.2.2.2.2.1 :: Res.sl (Ek.int .i64) 3 v148 q136.2.2.2.2.2.2.2.2.2.2.2.2.2.2 :: Res.obj 68 v32 [.int .i64 q136.2.1, v5, v9, v144, v145, v93, .int .i64 q136.2.2.2.2.2.2.2.1, v146, .int .i64 q136.2.2.2.2.2.2.2.2.2.1, .int .i64 q136.2.2.2.2.2.2.2.2.2.2.1, .int .i64 q136.2.2.2.2.2.2.2.2.2.2.2.1, v147, .bool q136.2.2.2.2.2.2.2.2.2.2.2.2.2.1, v148] :: ow)) ?_ ?_
     ·
      rcases Bool.eq_false_or_eq_true (!q136.1) with hb163 | hb163
      ·
       refine st_skip hf (wantN hf rfl rfl hb163) rfl (by decide) ?_ rfl
       clear hf; intro a hf
       refine st_skip hf (wantN hf rfl rfl hb163) rfl (by decide) ?_ rfl
       clear hf; intro a hf
       refine st_skip hf (wantN hf rfl rfl hb163) rfl (by decide) ?_ rfl
       clear hf; intro a hf
       refine st_skip hf (wantN hf rfl rfl hb163) rfl (by decide) ?_ rfl
       clear hf; intro a hf
       refine st_pick (v := .bool true) hf rfl rfl (fun hb' => ?_) (fun hb' => ?_) (by decide) ?_
       · rfl
       · exact absurd (hb163.symm.trans hb') (by decide)
       clear hf; intro a ha hf; clear ha
       refine st_nil hf (th_n ?_)
       exact ⟨hf.sub ⟨rfl, rfl, rfl, rfl, rfl, (by rw [hb163]; rfl), trivial⟩, hp⟩
      refine st_move hf (wantY hf rfl rfl hb163) rfl (by decide) ?_
      clear hf; intro a ha hf; clear ha
      refine st_nilV hf (by decide) (wantY hf rfl rfl hb163) rfl (hp.ob (i := 10) rfl) ?_
      clear hf; intro a ha hf; clear ha
      refine st_fa (o' := 12) hf (by decide) (off := 12) (sz := 1) (by kernel_rfl) (by decide) (wantY hf rfl rfl hb163) rfl (hp.ob (i := 10) rfl) rfl ?_
      clear hf; intro a ha hf; clear ha
      refine st_ldO (u := .bool q136.2.2.2.2.2.2.2.2.2.2.2.2.2.1) hf (by decide) pl4 (wantY hf rfl rfl hb163) rfl (hp.ob (i := 10) rfl) rfl ?_
      clear hf; intro a ha hf; clear ha
      refine st_pick (v := .bool q136.2.2.2.2.2.2.2.2.2.2.2.2.2.1) hf rfl rfl (fun hb' => ?_) (fun hb' => ?_) (by decide) ?_
      · exact absurd (hb163.symm.trans hb') (by decide)
      · rfl
      clear hf; intro a ha hf; clear ha
      refine st_nil hf (th_n ?_)
      exact ⟨hf.sub ⟨rfl, rfl, rfl, rfl, rfl, (by rw [hb163]; rfl), trivial⟩, hp⟩
     rintro a w ⟨hf, hp⟩
     refine st_nil hf ?_
     refine th_n ?_
     refine wp_if hf rfl (fun hb => ?_) (fun hb => ?_)
     ·
      replace h := ifT h hb
      refine wp_seq ?_
      refine wp_reg ?_
      refine st_assign hf rfl rfl (by decide) ?_
      clear hf; intro a ha hf; clear ha
      refine st_nil hf ?_
      refine th_n ?_
      refine wp_ret ?_
      refine ib_r ?_
      refine th_r ?_
      obtain rfl := Option.some.inj h
      have hp : Hp _ _ _ (ow) := Hp.sel (pre := [Res.obj 74 v9 [.int .i64 s158.1, .int .i64 s158.2.1, v160], Res.map (fun x : ByteArray => Value.string x) v160 s158.2.2, Res.obj 79 v5 [.int .i64 s154.1, .int .i64 s154.2.1, .int .i64 s154.2.2.1, .int .i64 s154.2.2.2.1, v156], Res.sl (Ek.pair Ek.str (Ek.pair Ek.bool (Ek.pair (Ek.int .i64) Ek.bool))) 81 v156 s154.2.2.2.2, Res.sl (Ek.int .u8) 5 v93 k14c_5, Res.sl (Ek.pair (Ek.int .i64) (Ek.pair (Ek.int .i64) (Ek.pair (Ek.int .u8) (Ek.pair (Ek.int .u8) (Ek.pair Ek.bool Ek.str))))) 88 v144 q136.2.2.2.2.1, Res.sl (Ek.pair (Ek.int .i64) (Ek.pair (Ek.int .i64) (Ek.pair (Ek.int .u8) (Ek.pair (Ek.int .u8) (Ek.pair Ek.bool Ek.str))))) 88 v145 q136.2.2.2.2.2.1, Res.map (fun x : Int => Value.int .i64 x) v146 q136.2.2.2.2.2.2.2.2.1, Res.sl Ek.str 9 v147 q136.2.2.2.2.2.2.2.2.2.2.2.2.1, Res.sl (Ek.int .i64) 3 v148 q136.2.2.2.2.2.2.2.2.2.2.2.2.2.2, Res.obj 68 v32 [.int .i64 q136.2.1, v5, v9, v144, v145, v93, .int .i64 q136.2.2.2.2.2.2.2.1, v146, .int .i64 q136.2.2.2.2.2.2.2.2.2.1, .int .i64 q136.2.2.2.2.2.2.2.2.2.2.1, .int .i64 q136.2.2.2.2.2.2.2.2.2.2.2.1, v147, .bool q136.2.2.2.2.2.2.2.2.2.2.2.2.2.1, v148]]) (tail := ow) (rs' := []) hp [] (by decide) (by simp) rfl
      exact rnd_r (by simp) ⟨rfl, ⟨hf.sub ⟨rfl, trivial⟩, hp⟩⟩
     replace h := ifF h hb
     refine wp_skip ?_
     refine ib_n ?_
     refine th_n ?_
     refine wp_reg ?_
     refine st_move hf rfl rfl (by decide) ?_
     clear hf; intro a ha hf; clear ha
     refine st_iadd hf (by decide) rfl rfl rfl ?_
     clear hf; intro a ha hf; clear ha
     refine st_assign hf rfl rfl (by decide) ?_
     clear hf; intro a ha hf; clear ha
     refine st_nil hf ?_
     obtain rfl := Option.some.inj h
     have hp : Hp _ _ _ (_ :: _ :: _ :: _ :: _ :: _ :: _ :: _ :: _ :: _ :: _ :: ow) := Hp.sel (pre := [Res.obj 74 v9 [.int .i64 s158.1, .int .i64 s158.2.1, v160], Res.map (fun x : ByteArray => Value.string x) v160 s158.2.2, Res.obj 79 v5 [.int .i64 s154.1, .int .i64 s154.2.1, .int .i64 s154.2.2.1, .int .i64 s154.2.2.2.1, v156], Res.sl (Ek.pair Ek.str (Ek.pair Ek.bool (Ek.pair (Ek.int .i64) Ek.bool))) 81 v156 s154.2.2.2.2, Res.sl (Ek.int .u8) 5 v93 k14c_5, Res.sl (Ek.pair (Ek.int .i64) (Ek.pair (Ek.int .i64) (Ek.pair (Ek.int .u8) (Ek.pair (Ek.int .u8) (Ek.pair Ek.bool Ek.str))))) 88 v144 q136.2.2.2.2.1, Res.sl (Ek.pair (Ek.int .i64) (Ek.pair (Ek.int .i64) (Ek.pair (Ek.int .u8) (Ek.pair (Ek.int .u8) (Ek.pair Ek.bool Ek.str))))) 88 v145 q136.2.2.2.2.2.1, Res.map (fun x : Int => Value.int .i64 x) v146 q136.2.2.2.2.2.2.2.2.1, Res.sl Ek.str 9 v147 q136.2.2.2.2.2.2.2.2.2.2.2.2.1, Res.sl (Ek.int .i64) 3 v148 q136.2.2.2.2.2.2.2.2.2.2.2.2.2.2, Res.obj 68 v32 [.int .i64 q136.2.1, v5, v9, v144, v145, v93, .int .i64 q136.2.2.2.2.2.2.2.1, v146, .int .i64 q136.2.2.2.2.2.2.2.2.2.1, .int .i64 q136.2.2.2.2.2.2.2.2.2.2.1, .int .i64 q136.2.2.2.2.2.2.2.2.2.2.2.1, v147, .bool q136.2.2.2.2.2.2.2.2.2.2.2.2.2.1, v148]]) (tail := ow) (rs' := [Res.sl (Ek.pair Ek.str (Ek.pair Ek.bool (Ek.pair (Ek.int .i64) Ek.bool))) 81 v156 s154.2.2.2.2, Res.obj 79 v5 [.int .i64 s154.1, .int .i64 s154.2.1, .int .i64 s154.2.2.1, .int .i64 s154.2.2.2.1, v156], Res.map (fun x : ByteArray => Value.string x) v160 s158.2.2, Res.obj 74 v9 [.int .i64 s158.1, .int .i64 s158.2.1, v160], Res.sl (Ek.pair (Ek.int .i64) (Ek.pair (Ek.int .i64) (Ek.pair (Ek.int .u8) (Ek.pair (Ek.int .u8) (Ek.pair Ek.bool Ek.str))))) 88 v144 q136.2.2.2.2.1, Res.sl (Ek.pair (Ek.int .i64) (Ek.pair (Ek.int .i64) (Ek.pair (Ek.int .u8) (Ek.pair (Ek.int .u8) (Ek.pair Ek.bool Ek.str))))) 88 v145 q136.2.2.2.2.2.1, Res.sl (Ek.int .u8) 5 v93 k14c_5, Res.map (fun x : Int => Value.int .i64 x) v146 q136.2.2.2.2.2.2.2.2.1, Res.sl Ek.str 9 v147 q136.2.2.2.2.2.2.2.2.2.2.2.2.1, Res.sl (Ek.int .i64) 3 v148 q136.2.2.2.2.2.2.2.2.2.2.2.2.2.2, Res.obj 68 v32 [.int .i64 q136.2.1, v5, v9, v144, v145, v93, .int .i64 q136.2.2.2.2.2.2.2.1, v146, .int .i64 q136.2.2.2.2.2.2.2.2.2.1, .int .i64 q136.2.2.2.2.2.2.2.2.2.2.1, .int .i64 q136.2.2.2.2.2.2.2.2.2.2.2.1, v147, .bool q136.2.2.2.2.2.2.2.2.2.2.2.2.2.1, v148]]) hp [3, 2, 1, 0, 5, 6, 4, 7, 8, 9, 10] (by decide) (by simp) rfl
     exact rnd_l ⟨_, _, _, _, _, _, _, _, hf.sub ⟨rfl, rfl, rfl, rfl, rfl, trivial⟩, hp⟩
    replace h := ifF h hb
    refine wp_exit ?_
    refine th_e ?_
    obtain rfl := Option.some.inj h
    exact rnd_r (by simp) ⟨rfl, _, _, _, _, _, _, _, _, hf.sub ⟨rfl, rfl, rfl, rfl, trivial⟩, hp⟩
   clear hl hf hp
   intro e a w hne hO
   rcases q164 with q165 | q166
   ·
    replace h := smL h
    obtain ⟨rfl, v102, v105, v108, v110, v112, v114, v116, v118, hf, hp⟩ := hO
    refine ib_same ?_
    refine th_n ?_
    refine wp_seq ?_
    refine wp_seq ?_
    refine wp_reg ?_
    refine st_assign hf rfl rfl (by decide) ?_
    clear hf; intro a ha hf; clear ha
    refine st_nil hf ?_
    refine th_n ?_
    refine wp_block ?_
    obtain ⟨q168, hl, h⟩ := bnd h
    have hp : Hp _ _ _ (Res.obj 79 v5 [.int .i64 q165.1, .int .i64 q165.2.1, .int .i64 q165.2.2.1, .int .i64 q165.2.2.2.1, v102] :: Res.sl (Ek.pair Ek.str (Ek.pair Ek.bool (Ek.pair (Ek.int .i64) Ek.bool))) 81 v102 q165.2.2.2.2.1 :: Res.obj 68 v32 [.int .i64 q165.2.2.2.2.2.1, v5, v9, v108, v110, v112, .int .i64 q165.2.2.2.2.2.2.2.2.2.2.2.2.1, v114, .int .i64 q165.2.2.2.2.2.2.2.2.2.2.2.2.2.2.1, .int .i64 q165.2.2.2.2.2.2.2.2.2.2.2.2.2.2.2.1, .int .i64 q165.2.2.2.2.2.2.2.2.2.2.2.2.2.2.2.2.1, v116, .bool q165.2.2.2.2.2.2.2.2.2.2.2.2.2.2.2.2.2.2.1, v118] :: Res.obj 74 v9 [.int .i64 q165.2.2.2.2.2.2.1, .int .i64 q165.2.2.2.2.2.2.2.1, v105] :: Res.map (fun x : ByteArray => Value.string x) v105 q165.2.2.2.2.2.2.2.2.1 :: Res.sl (Ek.pair (Ek.int .i64) (Ek.pair (Ek.int .i64) (Ek.pair (Ek.int .u8) (Ek.pair (Ek.int .u8) (Ek.pair Ek.bool Ek.str))))) 88 v108 q165.2.2.2.2.2.2.2.2.2.1 :: Res.sl (Ek.pair (Ek.int .i64) (Ek.pair (Ek.int .i64) (Ek.pair (Ek.int .u8) (Ek.pair (Ek.int .u8) (Ek.pair Ek.bool Ek.str))))) 88 v110 q165.2.2.2.2.2.2.2.2.2.2.1 :: Res.sl (Ek.int .u8) 5 v112 q165.2.2.2.2.2.2.2.2.2.2.2.1 :: Res.map (fun x : Int => Value.int .i64 x) v114 q165.2.2.2.2.2.2.2.2.2.2.2.2.2.1 :: Res.sl Ek.str 9 v116 q165.2.2.2.2.2.2.2.2.2.2.2.2.2.2.2.2.2.1 :: Res.sl (Ek.int .i64) 3 v118 q165.2.2.2.2.2.2.2.2.2.2.2.2.2.2.2.2.2.2.2 :: ow) := Hp.sel (pre := [Res.sl (Ek.pair Ek.str (Ek.pair Ek.bool (Ek.pair (Ek.int .i64) Ek.bool))) 81 v102 q165.2.2.2.2.1, Res.obj 79 v5 [.int .i64 q165.1, .int .i64 q165.2.1, .int .i64 q165.2.2.1, .int .i64 q165.2.2.2.1, v102], Res.map (fun x : ByteArray => Value.string x) v105 q165.2.2.2.2.2.2.2.2.1, Res.obj 74 v9 [.int .i64 q165.2.2.2.2.2.2.1, .int .i64 q165.2.2.2.2.2.2.2.1, v105], Res.sl (Ek.pair (Ek.int .i64) (Ek.pair (Ek.int .i64) (Ek.pair (Ek.int .u8) (Ek.pair (Ek.int .u8) (Ek.pair Ek.bool Ek.str))))) 88 v108 q165.2.2.2.2.2.2.2.2.2.1, Res.sl (Ek.pair (Ek.int .i64) (Ek.pair (Ek.int .i64) (Ek.pair (Ek.int .u8) (Ek.pair (Ek.int .u8) (Ek.pair Ek.bool Ek.str))))) 88 v110 q165.2.2.2.2.2.2.2.2.2.2.1, Res.sl (Ek.int .u8) 5 v112 q165.2.2.2.2.2.2.2.2.2.2.2.1, Res.map (fun x : Int => Value.int .i64 x) v114 q165.2.2.2.2.2.2.2.2.2.2.2.2.2.1, Res.sl Ek.str 9 v116 q165.2.2.2.2.2.2.2.2.2.2.2.2.2.2.2.2.2.1, Res.sl (Ek.int .i64) 3 v118 q165.2.2.2.2.2.2.2.2.2.2.2.2.2.2.2.2.2.2.2, Res.obj 68 v32 [.int .i64 q165.2.2.2.2.2.1, v5, v9, v108, v110, v112, .int .i64 q165.2.2.2.2.2.2.2.2.2.2.2.2.1, v114, .int .i64 q165.2.2.2.2.2.2.2.2.2.2.2.2.2.2.1, .int .i64 q165.2.2.2.2.2.2.2.2.2.2.2.2.2.2.2.1, .int .i64 q165.2.2.2.2.2.2.2.2.2.2.2.2.2.2.2.2.1, v116, .bool q165.2.2.2.2.2.2.2.2.2.2.2.2.2.2.2.2.2.2.1, v118]]) (tail := ow) (rs' := [Res.obj 79 v5 [.int .i64 q165.1, .int .i64 q165.2.1, .int .i64 q165.2.2.1, .int .i64 q165.2.2.2.1, v102], Res.sl (Ek.pair Ek.str (Ek.pair Ek.bool (Ek.pair (Ek.int .i64) Ek.bool))) 81 v102 q165.2.2.2.2.1, Res.obj 68 v32 [.int .i64 q165.2.2.2.2.2.1, v5, v9, v108, v110, v112, .int .i64 q165.2.2.2.2.2.2.2.2.2.2.2.2.1, v114, .int .i64 q165.2.2.2.2.2.2.2.2.2.2.2.2.2.2.1, .int .i64 q165.2.2.2.2.2.2.2.2.2.2.2.2.2.2.2.1, .int .i64 q165.2.2.2.2.2.2.2.2.2.2.2.2.2.2.2.2.1, v116, .bool q165.2.2.2.2.2.2.2.2.2.2.2.2.2.2.2.2.2.2.1, v118], Res.obj 74 v9 [.int .i64 q165.2.2.2.2.2.2.1, .int .i64 q165.2.2.2.2.2.2.2.1, v105], Res.map (fun x : ByteArray => Value.string x) v105 q165.2.2.2.2.2.2.2.2.1, Res.sl (Ek.pair (Ek.int .i64) (Ek.pair (Ek.int .i64) (Ek.pair (Ek.int .u8) (Ek.pair (Ek.int .u8) (Ek.pair Ek.bool Ek.str))))) 88 v108 q165.2.2.2.2.2.2.2.2.2.1, Res.sl (Ek.pair (Ek.int .i64) (Ek.pair (Ek.int .i64) (Ek.pair (Ek.int .u8) (Ek.pair (Ek.int .u8) (Ek.pair Ek.bool Ek.str))))) 88 v110 q165.2.2.2.2.2.2.2.2.2.2.1, Res.sl (Ek.int .u8) 5 v112 q165.2.2.2.2.2.2.2.2.2.2.2.1, Res.map (fun x : Int => Value.int .i64 x) v114 q165.2.2.2.2.2.2.2.2.2.2.2.2.2.1, Res.sl Ek.str 9 v116 q165.2.2.2.2.2.2.2.2.2.2.2.2.2.2.2.2.2.1, Res.sl (Ek.int .i64) 3 v118 q165.2.2.2.2.2.2.2.2.2.2.2.2.2.2.2.2.2.2.2]) hp [1, 0, 10, 3, 2, 4, 5, 6, 7, 8, 9] (by decide) (by simp) rfl
    refine wp_loop_pure (f := (f_foghornlaw28_AgainLean.s3 many2 q165)) (s := (0 : Int)) (fun s a w => Fr 162 a [(1, .int .i64 (IntKind.i64.wrap ((9 : Int) + (IntKind.i64.wrap (((IntKind.u64.wrap wait1)).tmod (30 : Int)))))), (2, .int .i64 (IntKind.i64.wrap (((IntKind.u64.wrap many2)).tmod (300 : Int)))), (9, v5), (14, v32), (17, .int .i64 s)] ∧ Hp S w0 w (Res.obj 79 v5 [.int .i64 q165.1, .int .i64 q165.2.1, .int .i64 q165.2.2.1, .int .i64 q165.2.2.2.1, v102] :: Res.sl (Ek.pair Ek.str (Ek.pair Ek.bool (Ek.pair (Ek.int .i64) Ek.bool))) 81 v102 q165.2.2.2.2.1 :: Res.obj 68 v32 [.int .i64 q165.2.2.2.2.2.1, v5, v9, v108, v110, v112, .int .i64 q165.2.2.2.2.2.2.2.2.2.2.2.2.1, v114, .int .i64 q165.2.2.2.2.2.2.2.2.2.2.2.2.2.2.1, .int .i64 q165.2.2.2.2.2.2.2.2.2.2.2.2.2.2.2.1, .int .i64 q165.2.2.2.2.2.2.2.2.2.2.2.2.2.2.2.2.1, v116, .bool q165.2.2.2.2.2.2.2.2.2.2.2.2.2.2.2.2.2.2.1, v118] :: Res.obj 74 v9 [.int .i64 q165.2.2.2.2.2.2.1, .int .i64 q165.2.2.2.2.2.2.2.1, v105] :: Res.map (fun x : ByteArray => Value.string x) v105 q165.2.2.2.2.2.2.2.2.1 :: Res.sl (Ek.pair (Ek.int .i64) (Ek.pair (Ek.int .i64) (Ek.pair (Ek.int .u8) (Ek.pair (Ek.int .u8) (Ek.pair Ek.bool Ek.str))))) 88 v108 q165.2.2.2.2.2.2.2.2.2.1 :: Res.sl (Ek.pair (Ek.int .i64) (Ek.pair (Ek.int .i64) (Ek.pair (Ek.int .u8) (Ek.pair (Ek.int .u8) (Ek.pair Ek.bool Ek.str))))) 88 v110 q165.2.2.2.2.2.2.2.2.2.2.1 :: Res.sl (Ek.int .u8) 5 v112 q165.2.2.2.2.2.2.2.2.2.2.2.1 :: Res.map (fun x : Int => Value.int .i64 x) v114 q165.2.2.2.2.2.2.2.2.2.2.2.2.2.1 :: Res.sl Ek.str 9 v116 q165.2.2.2.2.2.2.2.2.2.2.2.2.2.2.2.2.2.1 :: Res.sl (Ek.int .i64) 3 v118 q165.2.2.2.2.2.2.2.2.2.2.2.2.2.2.2.2.2.2.2 :: ow)) (fun q e a w => match q with | (Sum.inl q) => e = .exit 4 ∧ Fr 162 a [(1, .int .i64 (IntKind.i64.wrap ((9 : Int) + (IntKind.i64.wrap (((IntKind.u64.wrap wait1)).tmod (30 : Int)))))), (2, .int .i64 (IntKind.i64.wrap (((IntKind.u64.wrap many2)).tmod (300 : Int)))), (9, v5)] ∧ Hp S w0 w (Res.obj 79 v5 [.int .i64 q165.1, .int .i64 q165.2.1, .int .i64 q165.2.2.1, .int .i64 q165.2.2.2.1, v102] :: Res.sl (Ek.pair Ek.str (Ek.pair Ek.bool (Ek.pair (Ek.int .i64) Ek.bool))) 81 v102 q165.2.2.2.2.1 :: ow) | (Sum.inr q) => e = .ret ∧ Fr 162 a [(8, .bool q)] ∧ Hp S w0 w (ow)) ?_ hl ⟨hf.sub ⟨rfl, rfl, rfl, rfl, rfl, trivial⟩, hp⟩ ?_
    ·
     clear hl hf hp
     intro s x a w h hI
     obtain ⟨i17, hs⟩ : ∃ z, z = s := ⟨s, rfl⟩; subst hs
     obtain ⟨hf, hp⟩ : Fr 162 a [(1, .int .i64 (IntKind.i64.wrap ((9 : Int) + (IntKind.i64.wrap (((IntKind.u64.wrap wait1)).tmod (30 : Int)))))), (2, .int .i64 (IntKind.i64.wrap (((IntKind.u64.wrap many2)).tmod (300 : Int)))), (9, v5), (14, v32), (17, .int .i64 i17)] ∧ Hp S w0 w (Res.obj 79 v5 [.int .i64 q165.1, .int .i64 q165.2.1, .int .i64 q165.2.2.1, .int .i64 q165.2.2.2.1, v102] :: Res.sl (Ek.pair Ek.str (Ek.pair Ek.bool (Ek.pair (Ek.int .i64) Ek.bool))) 81 v102 q165.2.2.2.2.1 :: Res.obj 68 v32 [.int .i64 q165.2.2.2.2.2.1, v5, v9, v108, v110, v112, .int .i64 q165.2.2.2.2.2.2.2.2.2.2.2.2.1, v114, .int .i64 q165.2.2.2.2.2.2.2.2.2.2.2.2.2.2.1, .int .i64 q165.2.2.2.2.2.2.2.2.2.2.2.2.2.2.2.1, .int .i64 q165.2.2.2.2.2.2.2.2.2.2.2.2.2.2.2.2.1, v116, .bool q165.2.2.2.2.2.2.2.2.2.2.2.2.2.2.2.2.2.2.1, v118] :: Res.obj 74 v9 [.int .i64 q165.2.2.2.2.2.2.1, .int .i64 q165.2.2.2.2.2.2.2.1, v105] :: Res.map (fun x : ByteArray => Value.string x) v105 q165.2.2.2.2.2.2.2.2.1 :: Res.sl (Ek.pair (Ek.int .i64) (Ek.pair (Ek.int .i64) (Ek.pair (Ek.int .u8) (Ek.pair (Ek.int .u8) (Ek.pair Ek.bool Ek.str))))) 88 v108 q165.2.2.2.2.2.2.2.2.2.1 :: Res.sl (Ek.pair (Ek.int .i64) (Ek.pair (Ek.int .i64) (Ek.pair (Ek.int .u8) (Ek.pair (Ek.int .u8) (Ek.pair Ek.bool Ek.str))))) 88 v110 q165.2.2.2.2.2.2.2.2.2.2.1 :: Res.sl (Ek.int .u8) 5 v112 q165.2.2.2.2.2.2.2.2.2.2.2.1 :: Res.map (fun x : Int => Value.int .i64 x) v114 q165.2.2.2.2.2.2.2.2.2.2.2.2.2.1 :: Res.sl Ek.str 9 v116 q165.2.2.2.2.2.2.2.2.2.2.2.2.2.2.2.2.2.1 :: Res.sl (Ek.int .i64) 3 v118 q165.2.2.2.2.2.2.2.2.2.2.2.2.2.2.2.2.2.2.2 :: ow) := hI
     replace h : f_foghornlaw28_AgainLean.s3c many2 q165 i17 = some x := h
     unfold f_foghornlaw28_AgainLean.s3c at h
     refine wp_seq ?_
     refine wp_seq ?_
     refine wp_reg ?_
     refine st_move hf rfl rfl (by decide) ?_
     clear hf; intro a ha hf; clear ha
     refine st_move hf rfl rfl (by decide) ?_
     clear hf; intro a ha hf; clear ha
     refine st_ilss hf (by decide) rfl rfl rfl ?_
     clear hf; intro a ha hf; clear ha
     refine st_nil hf ?_
     refine th_n ?_
     refine wp_if hf rfl (fun hb => ?_) (fun hb => ?_)
     ·
      replace h := ifT h hb
      refine wp_skip ?_
      refine th_n ?_
      refine wp_seq ?_
      refine wp_block ?_
      refine wp_seq ?_
      refine wp_reg ?_
      refine st_move hf rfl rfl (by decide) ?_
      clear hf; intro a ha hf; clear ha
      refine st_nilV hf (by decide) rfl rfl (hp.ob (i := 2) rfl) ?_
      clear hf; intro a ha hf; clear ha
      refine st_fa (o' := 13) hf (by decide) (off := 13) (sz := 1) (by kernel_rfl) (by decide) rfl rfl (hp.ob (i := 2) rfl) rfl ?_
      clear hf; intro a ha hf; clear ha
      refine st_ldO (u := v118) hf (by decide) pl65 rfl rfl (hp.ob (i := 2) rfl) rfl ?_
      clear hf; intro a ha hf; clear ha
      refine st_move hf rfl rfl (by decide) ?_
      clear hf; intro a ha hf; clear ha
      obtain ⟨hc167, h⟩ := chk h
      refine st_index (E := (Ek.int .i64)) hf (by decide) Try.underlying65 elt3 rfl rfl rfl (hp.sl (i := 10) rfl) hc167.1 hc167.2 ?_
      clear hf; intro a ha hf; clear ha
      refine st_ldI hf (by decide) pl3 rfl rfl (hp.sl (i := 10) rfl) hc167.1 hc167.2 ?_
      clear hf; intro a ha hf; clear ha
      refine st_ineq hf (by decide) rfl rfl rfl ?_
      clear hf; intro a ha hf; clear ha
      refine st_nil hf ?_
      refine th_n ?_
      refine wp_if hf rfl (fun hb => ?_) (fun hb => ?_)
      ·
       replace h := ifT h hb
       refine wp_seq ?_
       refine wp_reg ?_
       refine st_assign hf rfl rfl (by decide) ?_
       clear hf; intro a ha hf; clear ha
       refine st_nil hf ?_
       refine th_n ?_
       refine wp_ret ?_
       refine ib_r ?_
       refine th_r ?_
       obtain rfl := Option.some.inj h
       have hp : Hp _ _ _ (ow) := Hp.sel (pre := [Res.obj 79 v5 [.int .i64 q165.1, .int .i64 q165.2.1, .int .i64 q165.2.2.1, .int .i64 q165.2.2.2.1, v102], Res.sl (Ek.pair Ek.str (Ek.pair Ek.bool (Ek.pair (Ek.int .i64) Ek.bool))) 81 v102 q165.2.2.2.2.1, Res.obj 68 v32 [.int .i64 q165.2.2.2.2.2.1, v5, v9, v108, v110, v112, .int .i64 q165.2.2.2.2.2.2.2.2.2.2.2.2.1, v114, .int .i64 q165.2.2.2.2.2.2.2.2.2.2.2.2.2.2.1, .int .i64 q165.2.2.2.2.2.2.2.2.2.2.2.2.2.2.2.1, .int .i64 q165.2.2.2.2.2.2.2.2.2.2.2.2.2.2.2.2.1, v116, .bool q165.2.2.2.2.2.2.2.2.2.2.2.2.2.2.2.2.2.2.1, v118], Res.obj 74 v9 [.int .i64 q165.2.2.2.2.2.2.1, .int .i64 q165.2.2.2.2.2.2.2.1, v105], Res.map (fun x : ByteArray => Value.string x) v105 q165.2.2.2.2.2.2.2.2.1, Res.sl (Ek.pair (Ek.int .i64) (Ek.pair (Ek.int .i64) (Ek.pair (Ek.int .u8) (Ek.pair (Ek.int .u8) (Ek.pair Ek.bool Ek.str))))) 88 v108 q165.2.2.2.2.2.2.2.2.2.1, Res.sl (Ek.pair (Ek.int .i64) (Ek.pair (Ek.int .i64) (Ek.pair (Ek.int .u8) (Ek.pair (Ek.int .u8) (Ek.pair Ek.bool Ek.str))))) 88 v110 q165.2.2.2.2.2.2.2.2.2.2.1, Res.sl (Ek.int .u8) 5 v112 q165.2.2.2.2.2.2.2.2.2.2.2.1, Res.map (fun x : Int => Value.int .i64 x) v114 q165.2.2.2.2.2.2.2.2.2.2.2.2.2.1, Res.sl Ek.str 9 v116 q165.2.2.2.2.2.2.2.2.2.2.2.2.2.2.2.2.2.1, Res.sl (Ek.int .i64) 3 v118 q165.2.2.2.2.2.2.2.2.2.2.2.2.2.2.2.2.2.2.2]) (tail := ow) (rs' := []) hp [] (by decide) (by simp) rfl
       exact rnd_r (by simp) ⟨rfl, ⟨hf.sub ⟨rfl, trivial⟩, hp⟩⟩
      replace h := ifF h hb
      refine wp_skip ?_
      refine ib_n ?_
      refine th_n ?_
      refine wp_reg ?_
      refine st_move hf rfl rfl (by decide) ?_
      clear hf; intro a ha hf; clear ha
      refine st_iadd hf (by decide) rfl rfl rfl ?_
      clear hf; intro a ha hf; clear ha
      refine st_assign hf rfl rfl (by decide) ?_
      clear hf; intro a ha hf; clear ha
      refine st_nil hf ?_
      obtain rfl := Option.some.inj h
      exact rnd_l ⟨hf.sub ⟨rfl, rfl, rfl, rfl, rfl, trivial⟩, hp⟩
     replace h := ifF h hb
     refine wp_exit ?_
     refine th_e ?_
     obtain rfl := Option.some.inj h
     have hp : Hp _ _ _ (_ :: _ :: ow) := Hp.sel (pre := [Res.obj 79 v5 [.int .i64 q165.1, .int .i64 q165.2.1, .int .i64 q165.2.2.1, .int .i64 q165.2.2.2.1, v102], Res.sl (Ek.pair Ek.str (Ek.pair Ek.bool (Ek.pair (Ek.int .i64) Ek.bool))) 81 v102 q165.2.2.2.2.1, Res.obj 68 v32 [.int .i64 q165.2.2.2.2.2.1, v5, v9, v108, v110, v112, .int .i64 q165.2.2.2.2.2.2.2.2.2.2.2.2.1, v114, .int .i64 q165.2.2.2.2.2.2.2.2.2.2.2.2.2.2.1, .int .i64 q165.2.2.2.2.2.2.2.2.2.2.2.2.2.2.2.1, .int .i64 q165.2.2.2.2.2.2.2.2.2.2.2.2.2.2.2.2.1, v116, .bool q165.2.2.2.2.2.2.2.2.2.2.2.2.2.2.2.2.2.2.1, v118], Res.obj 74 v9 [.int .i64 q165.2.2.2.2.2.2.1, .int .i64 q165.2.2.2.2.2.2.2.1, v105], Res.map (fun x : ByteArray => Value.string x) v105 q165.2.2.2.2.2.2.2.2.1, Res.sl (Ek.pair (Ek.int .i64) (Ek.pair (Ek.int .i64) (Ek.pair (Ek.int .u8) (Ek.pair (Ek.int .u8) (Ek.pair Ek.bool Ek.str))))) 88 v108 q165.2.2.2.2.2.2.2.2.2.1, Res.sl (Ek.pair (Ek.int .i64) (Ek.pair (Ek.int .i64) (Ek.pair (Ek.int .u8) (Ek.pair (Ek.int .u8) (Ek.pair Ek.bool Ek.str))))) 88 v110 q165.2.2.2.2.2.2.2.2.2.2.1, Res.sl (Ek.int .u8) 5 v112 q165.2.2.2.2.2.2.2.2.2.2.2.1, Res.map (fun x : Int => Value.int .i64 x) v114 q165.2.2.2.2.2.2.2.2.2.2.2.2.2.1, Res.sl Ek.str 9 v116 q165.2.2.2.2.2.2.2.2.2.2.2.2.2.2.2.2.2.1, Res.sl (Ek.int .i64) 3 v118 q165.2.2.2.2.2.2.2.2.2.2.2.2.2.2.2.2.2.2.2]) (tail := ow) (rs' := [Res.obj 79 v5 [.int .i64 q165.1, .int .i64 q165.2.1, .int .i64 q165.2.2.1, .int .i64 q165.2.2.2.1, v102], Res.sl (Ek.pair Ek.str (Ek.pair Ek.bool (Ek.pair (Ek.int .i64) Ek.bool))) 81 v102 q165.2.2.2.2.1]) hp [0, 1] (by decide) (by simp) rfl
     exact rnd_r (by simp) ⟨rfl, hf.sub ⟨rfl, rfl, rfl, trivial⟩, hp⟩
    clear hl hf hp
    intro e a w hne hO
    rcases q168 with q169 | q170
    ·
     replace h := smL h
     obtain ⟨rfl, hf, hp⟩ := hO
     refine ib_same ?_
     refine th_n ?_
     refine wp_seq ?_
     refine wp_seq ?_
     refine wp_reg ?_
     refine st_move hf rfl rfl (by decide) ?_
     clear hf; intro a ha hf; clear ha
     obtain ⟨q171, hcall172, h⟩ := bnd h
     obtain ⟨S173, hp174, rd175, up176, bk177⟩ := Hp.lendS hp (i := 1) rfl
     obtain ⟨S178, hp179, rd180, up181, bk182⟩ := Hp.lendO hp174 (i := 0) rfl
     refine st_call hf (by decide) Try.func25 rfl rfl rfl rfl rfl (f_again_Sender_Left_c hp179 _ _ _ _ _ _ ((rd175.now hp174).mono up181) _ rd180 hcall172) ?_
     rintro _ w ⟨rfl, hp0⟩
     have hp0 := bk182 _ _ hp0
     have hp0 := bk177 _ _ hp0
     clear hp; have hp := hp0; clear hp0
     replace hp : Hp _ _ _ (_ :: _ :: ow) := hp
     refine ⟨_, rfl, ?_⟩
     clear hf; intro a hf
     refine st_ineq hf (by decide) rfl rfl rfl ?_
     clear hf; intro a ha hf; clear ha
     refine st_move hf rfl rfl (by decide) ?_
     clear hf; intro a ha hf; clear ha
     obtain ⟨z188, hz183, h⟩ := bnd h
     refine wpList_cut 4 (fun a w => ∃ (v185 : Value), Fr 162 a [(1, .int .i64 (IntKind.i64.wrap ((9 : Int) + (IntKind.i64.wrap (((IntKind.u64.wrap wait1)).tmod (30 : Int)))))), (2, .int .i64 (IntKind.i64.wrap (((IntKind.u64.wrap many2)).tmod (300 : Int)))), (9, v5), (127, .bool z188.1)] ∧ Hp S w0 w (Res.sl (Ek.pair Ek.str (Ek.pair Ek.bool (Ek.pair (Ek.int .i64) Ek.bool))) 81 v185 z188.2.2.2.2.2 :: Res.obj 79 v5 [.int .i64 z188.2.1, .int .i64 z188.2.2.1, .int .i64 z188.2.2.2.1, .int .i64 z188.2.2.2.2.1, v185] :: ow)) ?_ ?_
     ·
      rcases Bool.eq_false_or_eq_true (q171 != (0 : Int)) with hb184 | hb184
      ·
       replace hz183 := ifT hz183 hb184
       refine st_skip hf (wantN hf rfl rfl hb184) rfl (by decide) ?_ rfl
       clear hf; intro a hf
       refine st_skip hf (wantN hf rfl rfl hb184) rfl (by decide) ?_ rfl
       clear hf; intro a hf
       refine st_skip hf (wantN hf rfl rfl hb184) rfl (by decide) ?_ rfl
       clear hf; intro a hf
       obtain rfl := Option.some.inj hz183
       refine st_pick (v := .bool true) hf rfl rfl (fun hb' => ?_) (fun hb' => ?_) (by decide) ?_
       · rfl
       · exact absurd (hb184.symm.trans hb') (by decide)
       clear hf; intro a ha hf; clear ha
       refine st_nil hf (th_n ?_)
       exact ⟨_, hf.sub ⟨rfl, rfl, rfl, rfl, trivial⟩, hp⟩
      replace hz183 := ifF hz183 hb184
      refine st_move hf (wantY hf rfl rfl hb184) rfl (by decide) ?_
      clear hf; intro a ha hf; clear ha
      obtain ⟨q189, hcall190, hz183⟩ := bnd hz183
      have hp191 : Hp _ _ _ (Res.sl (Ek.pair Ek.str (Ek.pair Ek.bool (Ek.pair (Ek.int .i64) Ek.bool))) 81 v102 q165.2.2.2.2.1 :: Res.obj 79 v5 [.int .i64 q165.1, .int .i64 q165.2.1, .int .i64 q165.2.2.1, .int .i64 q165.2.2.2.1, v102] :: ow) := Hp.sel (pre := [Res.sl (Ek.pair Ek.str (Ek.pair Ek.bool (Ek.pair (Ek.int .i64) Ek.bool))) 81 v102 q165.2.2.2.2.1, Res.obj 79 v5 [.int .i64 q165.1, .int .i64 q165.2.1, .int .i64 q165.2.2.1, .int .i64 q165.2.2.2.1, v102]]) (tail := ow) (rs' := [Res.sl (Ek.pair Ek.str (Ek.pair Ek.bool (Ek.pair (Ek.int .i64) Ek.bool))) 81 v102 q165.2.2.2.2.1, Res.obj 79 v5 [.int .i64 q165.1, .int .i64 q165.2.1, .int .i64 q165.2.2.1, .int .i64 q165.2.2.2.1, v102]]) hp [0, 1] (by decide) (by simp) rfl
      refine st_call hf (by decide) Try.func17 rfl rfl (wantY hf rfl rfl hb184) rfl rfl (f_again_Sender_Offer_c _ _ _ _ _ _ _ _ hp191 hcall190) ?_
      rintro _ w ⟨v192, rfl, hp0⟩
      clear hp; have hp := hp0; clear hp0
      replace hp : Hp _ _ _ (Res.sl (Ek.pair Ek.str (Ek.pair Ek.bool (Ek.pair (Ek.int .i64) Ek.bool))) 81 v192 q189.2.2.2.2.2 :: Res.obj 79 v5 [.int .i64 q189.2.1, .int .i64 q189.2.2.1, .int .i64 q189.2.2.2.1, .int .i64 q189.2.2.2.2.1, v192] :: ow) := hp
      refine ⟨_, rfl, ?_⟩
      clear hf; intro a hf
      refine st_ineq hf (by decide) (wantY hf rfl rfl hb184) rfl rfl ?_
      clear hf; intro a ha hf; clear ha
      obtain rfl := Option.some.inj hz183
      refine st_pick (v := .bool (q189.1 != (0 : Int))) hf rfl rfl (fun hb' => ?_) (fun hb' => ?_) (by decide) ?_
      · exact absurd (hb184.symm.trans hb') (by decide)
      · rfl
      clear hf; intro a ha hf; clear ha
      refine st_nil hf (th_n ?_)
      exact ⟨_, hf.sub ⟨rfl, rfl, rfl, rfl, trivial⟩, hp⟩
     rintro a w ⟨v185, hf, hp⟩
     refine st_nil hf ?_
     refine th_n ?_
     refine wp_if hf rfl (fun hb => ?_) (fun hb => ?_)
     ·
      replace h := ifT h hb
      refine wp_seq ?_
      refine wp_reg ?_
      refine st_assign hf rfl rfl (by decide) ?_
      clear hf; intro a ha hf; clear ha
      refine st_nil hf ?_
      refine th_n ?_
      refine wp_ret ?_
      refine th_r ?_
      obtain rfl := Option.some.inj h
      have hp : Hp _ _ _ (ow) := Hp.sel (pre := [Res.sl (Ek.pair Ek.str (Ek.pair Ek.bool (Ek.pair (Ek.int .i64) Ek.bool))) 81 v185 z188.2.2.2.2.2, Res.obj 79 v5 [.int .i64 z188.2.1, .int .i64 z188.2.2.1, .int .i64 z188.2.2.2.1, .int .i64 z188.2.2.2.2.1, v185]]) (tail := ow) (rs' := []) hp [] (by decide) (by simp) rfl
      exact ⟨rfl, ⟨hf.sub ⟨rfl, trivial⟩, hp⟩⟩
     replace h := ifF h hb
     refine wp_skip ?_
     refine th_n ?_
     refine wp_seq ?_
     refine wp_reg ?_
     refine st_move hf rfl rfl (by decide) ?_
     clear hf; intro a ha hf; clear ha
     refine st_imul hf (by decide) rfl rfl rfl ?_
     clear hf; intro a ha hf; clear ha
     refine st_iadd hf (by decide) rfl rfl rfl ?_
     clear hf; intro a ha hf; clear ha
     refine st_assign hf rfl rfl (by decide) ?_
     clear hf; intro a ha hf; clear ha
     refine st_nil hf ?_
     refine th_n ?_
     refine wp_seq ?_
     refine wp_seq ?_
     refine wp_reg ?_
     refine st_assign hf rfl rfl (by decide) ?_
     clear hf; intro a ha hf; clear ha
     refine st_nil hf ?_
     refine th_n ?_
     refine wp_block ?_
     obtain ⟨q210, hl, h⟩ := bnd h
     refine wp_loop_pure (f := (f_foghornlaw28_AgainLean.s4 wait1 many2)) (s := (z188.2.1, z188.2.2.1, z188.2.2.2.1, z188.2.2.2.2.1, z188.2.2.2.2.2, (0 : Int))) (fun s a w => ∃ (v194 : Value), Fr 162 a [(1, .int .i64 (IntKind.i64.wrap ((9 : Int) + (IntKind.i64.wrap (((IntKind.u64.wrap wait1)).tmod (30 : Int)))))), (9, v5), (18, .int .i64 (IntKind.i64.wrap ((IntKind.i64.wrap ((20 : Int) * (IntKind.i64.wrap (((IntKind.u64.wrap many2)).tmod (300 : Int))))) + (100 : Int)))), (19, .int .i64 s.2.2.2.2.2)] ∧ Hp S w0 w (Res.sl (Ek.pair Ek.str (Ek.pair Ek.bool (Ek.pair (Ek.int .i64) Ek.bool))) 81 v194 s.2.2.2.2.1 :: Res.obj 79 v5 [.int .i64 s.1, .int .i64 s.2.1, .int .i64 s.2.2.1, .int .i64 s.2.2.2.1, v194] :: ow)) (fun q e a w => match q with | (Sum.inl q) => e = .exit 6 ∧ Fr 162 a [] ∧ Hp S w0 w (ow) | (Sum.inr q) => e = .ret ∧ Fr 162 a [(8, .bool q)] ∧ Hp S w0 w (ow)) ?_ hl ⟨_, hf.sub ⟨rfl, rfl, rfl, rfl, trivial⟩, hp⟩ ?_
     ·
      clear hl hf hp
      intro s x a w h hI
      obtain ⟨sx9c_0, sx9c_1, sx9c_2, sx9c_3, sx9c_4, now19⟩ := s
      obtain ⟨v194, hf, hp⟩ : ∃ (v194 : Value), Fr 162 a [(1, .int .i64 (IntKind.i64.wrap ((9 : Int) + (IntKind.i64.wrap (((IntKind.u64.wrap wait1)).tmod (30 : Int)))))), (9, v5), (18, .int .i64 (IntKind.i64.wrap ((IntKind.i64.wrap ((20 : Int) * (IntKind.i64.wrap (((IntKind.u64.wrap many2)).tmod (300 : Int))))) + (100 : Int)))), (19, .int .i64 now19)] ∧ Hp S w0 w (Res.sl (Ek.pair Ek.str (Ek.pair Ek.bool (Ek.pair (Ek.int .i64) Ek.bool))) 81 v194 sx9c_4 :: Res.obj 79 v5 [.int .i64 sx9c_0, .int .i64 sx9c_1, .int .i64 sx9c_2, .int .i64 sx9c_3, v194] :: ow) := hI
      replace h : f_foghornlaw28_AgainLean.s4c wait1 many2 sx9c_0 sx9c_1 sx9c_2 sx9c_3 sx9c_4 now19 = some x := h
      unfold f_foghornlaw28_AgainLean.s4c at h
      refine wp_seq ?_
      refine wp_seq ?_
      refine wp_reg ?_
      refine st_move hf rfl rfl (by decide) ?_
      clear hf; intro a ha hf; clear ha
      refine st_move hf rfl rfl (by decide) ?_
      clear hf; intro a ha hf; clear ha
      refine st_imul hf (by decide) rfl rfl rfl ?_
      clear hf; intro a ha hf; clear ha
      refine st_ileq hf (by decide) rfl rfl rfl ?_
      clear hf; intro a ha hf; clear ha
      refine st_nil hf ?_
      refine th_n ?_
      refine wp_if hf rfl (fun hb => ?_) (fun hb => ?_)
      ·
       replace h := ifT h hb
       refine wp_skip ?_
       refine th_n ?_
       refine wp_seq ?_
       refine wp_block ?_
       refine wp_seq ?_
       refine wp_reg ?_
       refine st_move hf rfl rfl (by decide) ?_
       clear hf; intro a ha hf; clear ha
       refine st_move hf rfl rfl (by decide) ?_
       clear hf; intro a ha hf; clear ha
       refine st_move hf rfl rfl (by decide) ?_
       clear hf; intro a ha hf; clear ha
       refine st_iadd hf (by decide) rfl rfl rfl ?_
       clear hf; intro a ha hf; clear ha
       obtain ⟨q197, hcall198, h⟩ := bnd h
       have hp199 : Hp _ _ _ (Res.sl (Ek.pair Ek.str (Ek.pair Ek.bool (Ek.pair (Ek.int .i64) Ek.bool))) 81 v194 sx9c_4 :: Res.obj 79 v5 [.int .i64 sx9c_0, .int .i64 sx9c_1, .int .i64 sx9c_2, .int .i64 sx9c_3, v194] :: ow) := Hp.sel (pre := [Res.sl (Ek.pair Ek.str (Ek.pair Ek.bool (Ek.pair (Ek.int .i64) Ek.bool))) 81 v194 sx9c_4, Res.obj 79 v5 [.int .i64 sx9c_0, .int .i64 sx9c_1, .int .i64 sx9c_2, .int .i64 sx9c_3, v194]]) (tail := ow) (rs' := [Res.sl (Ek.pair Ek.str (Ek.pair Ek.bool (Ek.pair (Ek.int .i64) Ek.bool))) 81 v194 sx9c_4, Res.obj 79 v5 [.int .i64 sx9c_0, .int .i64 sx9c_1, .int .i64 sx9c_2, .int .i64 sx9c_3, v194]]) hp [0, 1] (by decide) (by simp) rfl
       refine st_call hf (by decide) Try.func19 rfl rfl rfl rfl rfl (f_again_Sender_Tick_c _ _ _ _ _ _ _ _ hp199 hcall198) ?_
       rintro _ w ⟨v200, v201, rfl, hp0⟩
       clear hp; have hp := hp0; clear hp0
       replace hp : Hp _ _ _ (Res.sl (Ek.pair (Ek.int .u8) (Ek.pair (Ek.int .u8) (Ek.pair Ek.bool Ek.str))) 31 v200 q197.1 :: Res.sl (Ek.pair Ek.str (Ek.pair Ek.bool (Ek.pair (Ek.int .i64) Ek.bool))) 81 v201 q197.2.2.2.2.2.2 :: Res.obj 79 v5 [.int .i64 q197.2.2.1, .int .i64 q197.2.2.2.1, .int .i64 q197.2.2.2.2.1, .int .i64 q197.2.2.2.2.2.1, v201] :: ow) := hp
       refine ⟨_, rfl, ?_⟩
       clear hf; intro a hf
       refine st_move hf rfl rfl (by decide) ?_
       clear hf; intro a ha hf; clear ha
       refine st_extract hf (by decide) rfl rfl rfl ?_
       clear hf; intro a ha hf; clear ha
       refine st_extract hf (by decide) rfl rfl rfl ?_
       clear hf; intro a ha hf; clear ha
       refine st_assign hf rfl rfl (by decide) ?_
       clear hf; intro a ha hf; clear ha
       refine st_assign hf rfl rfl (by decide) ?_
       clear hf; intro a ha hf; clear ha
       refine st_nil hf ?_
       refine th_n ?_
       refine wp_seq ?_
       refine wp_reg ?_
       refine st_move hf rfl rfl (by decide) ?_
       clear hf; intro a ha hf; clear ha
       refine st_ineq hf (by decide) rfl rfl rfl ?_
       clear hf; intro a ha hf; clear ha
       refine st_move hf rfl rfl (by decide) ?_
       clear hf; intro a ha hf; clear ha
       obtain ⟨z206, hz204, h⟩ := bnd h
       refine wpList_cut 9 (fun a w => Fr 162 a [(1, .int .i64 (IntKind.i64.wrap ((9 : Int) + (IntKind.i64.wrap (((IntKind.u64.wrap wait1)).tmod (30 : Int)))))), (9, v5), (18, .int .i64 (IntKind.i64.wrap ((IntKind.i64.wrap ((20 : Int) * (IntKind.i64.wrap (((IntKind.u64.wrap many2)).tmod (300 : Int))))) + (100 : Int)))), (19, .int .i64 now19), (20, v200), (156, .bool z206)] ∧ Hp S w0 w (Res.sl (Ek.pair (Ek.int .u8) (Ek.pair (Ek.int .u8) (Ek.pair Ek.bool Ek.str))) 31 v200 q197.1 :: Res.sl (Ek.pair Ek.str (Ek.pair Ek.bool (Ek.pair (Ek.int .i64) Ek.bool))) 81 v201 q197.2.2.2.2.2.2 :: Res.obj 79 v5 [.int .i64 q197.2.2.1, .int .i64 q197.2.2.2.1, .int .i64 q197.2.2.2.2.1, .int .i64 q197.2.2.2.2.2.1, v201] :: ow)) ?_ ?_
       ·
        rcases Bool.eq_false_or_eq_true (q197.2.1 != (0 : Int)) with hb205 | hb205
        ·
         replace hz204 := ifT hz204 hb205
         refine st_skip hf (wantN hf rfl rfl hb205) rfl (by decide) ?_ rfl
         clear hf; intro a hf
         refine st_skip hf (wantN hf rfl rfl hb205) rfl (by decide) ?_ rfl
         clear hf; intro a hf
         refine st_skip hf (wantN hf rfl rfl hb205) rfl (by decide) ?_ rfl
         clear hf; intro a hf
         refine st_skip hf (wantN hf rfl rfl hb205) rfl (by decide) ?_ rfl
         clear hf; intro a hf
         refine st_skip hf (wantN hf rfl rfl hb205) rfl (by decide) ?_ rfl
         clear hf; intro a hf
         refine st_skip hf (wantN hf rfl rfl hb205) rfl (by decide) ?_ rfl
         clear hf; intro a hf
         refine st_skip hf (wantN hf rfl rfl hb205) rfl (by decide) ?_ rfl
         clear hf; intro a hf
         refine st_skip hf (wantN hf rfl rfl hb205) rfl (by decide) ?_ rfl
         clear hf; intro a hf
         obtain rfl := Option.some.inj hz204
         refine st_pick (v := .bool true) hf rfl rfl (fun hb' => ?_) (fun hb' => ?_) (by decide) ?_
         · rfl
         · exact absurd (hb205.symm.trans hb') (by decide)
         clear hf; intro a ha hf; clear ha
         refine st_nil hf (th_n ?_)
         exact ⟨hf.sub ⟨rfl, rfl, rfl, rfl, rfl, rfl, trivial⟩, hp⟩
        replace hz204 := ifF hz204 hb205
        refine st_move hf (wantY hf rfl rfl hb205) rfl (by decide) ?_
        clear hf; intro a ha hf; clear ha
        refine st_len (E := (Ek.pair (Ek.int .u8) (Ek.pair (Ek.int .u8) (Ek.pair Ek.bool Ek.str)))) hf (by decide) Try.underlying54 (wantY hf rfl rfl hb205) rfl (hp.sl (i := 0) rfl) ?_
        clear hf; intro a ha hf; clear ha
        refine st_ieql hf (by decide) (wantY hf rfl rfl hb205) rfl rfl ?_
        clear hf; intro a ha hf; clear ha
        refine st_move hf (wantY hf rfl rfl hb205) rfl (by decide) ?_
        clear hf; intro a ha hf; clear ha
        refine st_move hf (wantY hf rfl rfl hb205) rfl (by decide) ?_
        clear hf; intro a ha hf; clear ha
        obtain ⟨hc207, hz204⟩ := chk hz204
        refine st_irem hf (by decide) (wantY hf rfl rfl hb205) rfl rfl hc207 ?_
        clear hf; intro a ha hf; clear ha
        refine st_ieql hf (by decide) (wantY hf rfl rfl hb205) rfl rfl ?_
        clear hf; intro a ha hf; clear ha
        refine st_bneq hf (by decide) Try.underlying4 (wantY hf rfl rfl hb205) rfl rfl ?_
        clear hf; intro a ha hf; clear ha
        obtain rfl := Option.some.inj hz204
        refine st_pick (v := .bool (((q197.1.length : Int) == (1 : Int)) != (((now19).tmod (IntKind.i64.wrap ((9 : Int) + (IntKind.i64.wrap (((IntKind.u64.wrap wait1)).tmod (30 : Int)))))) == (0 : Int)))) hf rfl rfl (fun hb' => ?_) (fun hb' => ?_) (by decide) ?_
        · exact absurd (hb205.symm.trans hb') (by decide)
        · rfl
        clear hf; intro a ha hf; clear ha
        refine st_nil hf (th_n ?_)
        exact ⟨hf.sub ⟨rfl, rfl, rfl, rfl, rfl, rfl, trivial⟩, hp⟩
       rintro a w ⟨hf, hp⟩
       refine st_move hf rfl rfl (by decide) ?_
       clear hf; intro a ha hf; clear ha
       refine wpList_cut 4 (fun a w => Fr 162 a [(1, .int .i64 (IntKind.i64.wrap ((9 : Int) + (IntKind.i64.wrap (((IntKind.u64.wrap wait1)).tmod (30 : Int)))))), (9, v5), (18, .int .i64 (IntKind.i64.wrap ((IntKind.i64.wrap ((20 : Int) * (IntKind.i64.wrap (((IntKind.u64.wrap many2)).tmod (300 : Int))))) + (100 : Int)))), (19, .int .i64 now19), (161, .bool (z206 || (decide ((1 : Int) < (q197.1.length : Int)))))] ∧ Hp S w0 w (Res.sl (Ek.pair (Ek.int .u8) (Ek.pair (Ek.int .u8) (Ek.pair Ek.bool Ek.str))) 31 v200 q197.1 :: Res.sl (Ek.pair Ek.str (Ek.pair Ek.bool (Ek.pair (Ek.int .i64) Ek.bool))) 81 v201 q197.2.2.2.2.2.2 :: Res.obj 79 v5 [.int .i64 q197.2.2.1, .int .i64 q197.2.2.2.1, .int .i64 q197.2.2.2.2.1, .int .i64 q197.2.2.2.2.2.1, v201] :: ow)) ?_ ?_
       ·
        rcases Bool.eq_false_or_eq_true z206 with hb209 | hb209
        ·
         refine st_skip hf (wantN hf rfl rfl hb209) rfl (by decide) ?_ rfl
         clear hf; intro a hf
         refine st_skip hf (wantN hf rfl rfl hb209) rfl (by decide) ?_ rfl
         clear hf; intro a hf
         refine st_skip hf (wantN hf rfl rfl hb209) rfl (by decide) ?_ rfl
         clear hf; intro a hf
         refine st_pick (v := .bool true) hf rfl rfl (fun hb' => ?_) (fun hb' => ?_) (by decide) ?_
         · rfl
         · exact absurd (hb209.symm.trans hb') (by decide)
         clear hf; intro a ha hf; clear ha
         refine st_nil hf (th_n ?_)
         exact ⟨hf.sub ⟨rfl, rfl, rfl, rfl, (by rw [hb209]; rfl), trivial⟩, hp⟩
        refine st_move hf (wantY hf rfl rfl hb209) rfl (by decide) ?_
        clear hf; intro a ha hf; clear ha
        refine st_len (E := (Ek.pair (Ek.int .u8) (Ek.pair (Ek.int .u8) (Ek.pair Ek.bool Ek.str)))) hf (by decide) Try.underlying54 (wantY hf rfl rfl hb209) rfl (hp.sl (i := 0) rfl) ?_
        clear hf; intro a ha hf; clear ha
        refine st_igtr hf (by decide) (wantY hf rfl rfl hb209) rfl rfl ?_
        clear hf; intro a ha hf; clear ha
        refine st_pick (v := .bool (decide ((1 : Int) < (q197.1.length : Int)))) hf rfl rfl (fun hb' => ?_) (fun hb' => ?_) (by decide) ?_
        · exact absurd (hb209.symm.trans hb') (by decide)
        · rfl
        clear hf; intro a ha hf; clear ha
        refine st_nil hf (th_n ?_)
        exact ⟨hf.sub ⟨rfl, rfl, rfl, rfl, (by rw [hb209]; rfl), trivial⟩, hp⟩
       rintro a w ⟨hf, hp⟩
       refine st_nil hf ?_
       refine th_n ?_
       refine wp_if hf rfl (fun hb => ?_) (fun hb => ?_)
       ·
        replace h := ifT h hb
        refine wp_seq ?_
        refine wp_reg ?_
        refine st_assign hf rfl rfl (by decide) ?_
        clear hf; intro a ha hf; clear ha
        refine st_nil hf ?_
        refine th_n ?_
        refine wp_ret ?_
        refine ib_r ?_
        refine th_r ?_
        obtain rfl := Option.some.inj h
        have hp : Hp _ _ _ (ow) := Hp.sel (pre := [Res.sl (Ek.pair (Ek.int .u8) (Ek.pair (Ek.int .u8) (Ek.pair Ek.bool Ek.str))) 31 v200 q197.1, Res.sl (Ek.pair Ek.str (Ek.pair Ek.bool (Ek.pair (Ek.int .i64) Ek.bool))) 81 v201 q197.2.2.2.2.2.2, Res.obj 79 v5 [.int .i64 q197.2.2.1, .int .i64 q197.2.2.2.1, .int .i64 q197.2.2.2.2.1, .int .i64 q197.2.2.2.2.2.1, v201]]) (tail := ow) (rs' := []) hp [] (by decide) (by simp) rfl
        exact rnd_r (by simp) ⟨rfl, ⟨hf.sub ⟨rfl, trivial⟩, hp⟩⟩
       replace h := ifF h hb
       refine wp_skip ?_
       refine ib_n ?_
       refine th_n ?_
       refine wp_reg ?_
       refine st_move hf rfl rfl (by decide) ?_
       clear hf; intro a ha hf; clear ha
       refine st_iadd hf (by decide) rfl rfl rfl ?_
       clear hf; intro a ha hf; clear ha
       refine st_assign hf rfl rfl (by decide) ?_
       clear hf; intro a ha hf; clear ha
       refine st_nil hf ?_
       obtain rfl := Option.some.inj h
       have hp : Hp _ _ _ (_ :: _ :: ow) := Hp.sel (pre := [Res.sl (Ek.pair (Ek.int .u8) (Ek.pair (Ek.int .u8) (Ek.pair Ek.bool Ek.str))) 31 v200 q197.1, Res.sl (Ek.pair Ek.str (Ek.pair Ek.bool (Ek.pair (Ek.int .i64) Ek.bool))) 81 v201 q197.2.2.2.2.2.2, Res.obj 79 v5 [.int .i64 q197.2.2.1, .int .i64 q197.2.2.2.1, .int .i64 q197.2.2.2.2.1, .int .i64 q197.2.2.2.2.2.1, v201]]) (tail := ow) (rs' := [Res.sl (Ek.pair Ek.str (Ek.pair Ek.bool (Ek.pair (Ek.int .i64) Ek.bool))) 81 v201 q197.2.2.2.2.2.2, Res.obj 79 v5 [.int .i64 q197.2.2.1, .int .i64 q197.2.2.2.1, .int .i64 q197.2.2.2.2.1, .int .i64 q197.2.2.2.2.2.1, v201]]) hp [1, 2] (by decide) (by simp) rfl
       exact rnd_l ⟨_, hf.sub ⟨rfl, rfl, rfl, rfl, trivial⟩, hp⟩
      replace h := ifF h hb
      refine wp_exit ?_
      refine th_e ?_
      obtain rfl := Option.some.inj h
      have hp : Hp _ _ _ (ow) := Hp.sel (pre := [Res.sl (Ek.pair Ek.str (Ek.pair Ek.bool (Ek.pair (Ek.int .i64) Ek.bool))) 81 v194 sx9c_4, Res.obj 79 v5 [.int .i64 sx9c_0, .int .i64 sx9c_1, .int .i64 sx9c_2, .int .i64 sx9c_3, v194]]) (tail := ow) (rs' := []) hp [] (by decide) (by simp) rfl
      exact rnd_r (by simp) ⟨rfl, hf.sub trivial, hp⟩
     clear hl hf hp
     intro e a w hne hO
     rcases q210 with q211 | q212
     ·
      replace h := smL h
      obtain ⟨rfl, hf, hp⟩ := hO
      refine ib_same ?_
      refine th_n ?_
      refine wp_seq ?_
      refine wp_reg ?_
      refine st_assign hf rfl rfl (by decide) ?_
      clear hf; intro a ha hf; clear ha
      refine st_nil hf ?_
      refine th_n ?_
      refine wp_ret ?_
      obtain rfl := Option.some.inj h
      exact ⟨rfl, ⟨hf.sub ⟨rfl, trivial⟩, hp⟩⟩
     replace h := smR h
     obtain ⟨rfl, hf, hp⟩ := hO
     refine ib_r ?_
     refine th_r ?_
     obtain rfl := Option.some.inj h
     exact ⟨rfl, ⟨hf.sub ⟨rfl, trivial⟩, hp⟩⟩
    replace h := smR h
    obtain ⟨rfl, hf, hp⟩ := hO
    refine ib_r ?_
    refine th_r ?_
    obtain rfl := Option.some.inj h
    exact ⟨rfl, ⟨hf.sub ⟨rfl, trivial⟩, hp⟩⟩
   replace h := smR h
   obtain ⟨rfl, hf, hp⟩ := hO
   refine ib_r ?_
   refine th_r ?_
   obtain rfl := Option.some.inj h
   exact ⟨rfl, ⟨hf.sub ⟨rfl, trivial⟩, hp⟩⟩
  replace h := smR h
  obtain ⟨rfl, hf, hp⟩ := hO
  refine ib_r ?_
  refine th_r ?_
  obtain rfl := Option.some.inj h
  exact ⟨rfl, ⟨hf.sub ⟨rfl, trivial⟩, hp⟩⟩

end Go.Proofs.Ytmdigffgmohcnaa
