/- The functions foghorn foghornlaw28.AgainLean: what each answers, as a plain function, and that its call answers it; printed by gen.py. -/
import Derived.Test.YtmdigffgmohcnaaProg
import Derived.Test.YtmdigffgmohcnaaGlUb
import Derived.KernelRfl
import Derived.Test.YtmdigffgmohcnaaG5p2
set_option linter.unusedVariables false
set_option linter.unusedSimpArgs false
set_option maxRecDepth 100000
set_option maxHeartbeats 4000000
namespace Go.Proofs.Ytmdigffgmohcnaa
open GL
noncomputable def f_foghornlaw28_link_come.s1c (k0_picks : (List Int)) (now1 : Int) (k0c_0 : Int) (k0c_1c_0 : Int) (k0c_1c_1 : Int) (k0c_1c_2 : Int) (k0c_1c_3 : Int) (k0c_1c_4 : (List (ByteArray × Bool × Int × Bool))) (k0c_2c_0 : Int) (k0c_2c_1 : Int) (k0c_2c_2 : (List (Int × ByteArray))) (k0c_3 : (List (Int × Int × (Int × Int × Bool × ByteArray)))) (k0c_4 : (List (Int × Int × (Int × Int × Bool × ByteArray)))) (k0c_6 : Int) (k0c_7 : (List (Int × Int))) (k0c_8 : Int) (k0c_9 : Int) (k0c_10 : Int) (k0c_11 : (List ByteArray)) (k0c_12 : Bool) (k0c_13 : (List Int)) (later5 : (List (Int × Int × (Int × Int × Bool × ByteArray)))) (i6 : Int) : Option ((Int × Int × Int × Int × Int × (List (ByteArray × Bool × Int × Bool)) × Int × Int × (List (Int × ByteArray)) × (List (Int × Int × (Int × Int × Bool × ByteArray))) × (List (Int × Int × (Int × Int × Bool × ByteArray))) × Int × (List (Int × Int)) × Int × Int × Int × (List ByteArray) × Bool × (List Int) × (List (Int × Int × (Int × Int × Bool × ByteArray))) × Int) ⊕ ((Int × Int × Int × Int × Int × (List (ByteArray × Bool × Int × Bool)) × Int × Int × (List (Int × ByteArray)) × (List (Int × Int × (Int × Int × Bool × ByteArray))) × (List (Int × Int × (Int × Int × Bool × ByteArray))) × Int × (List (Int × Int)) × Int × Int × Int × (List ByteArray) × Bool × (List Int) × (List (Int × Int × (Int × Int × Bool × ByteArray)))) ⊕ (Bool × (Int × (Option (Int × Int × Int × Int × (List (ByteArray × Bool × Int × Bool)))) × (Option (Int × Int × (List (Int × ByteArray)))) × (List (Int × Int × (Int × Int × Bool × ByteArray))) × (List (Int × Int × (Int × Int × Bool × ByteArray))) × (List Int) × Int × (List (Int × Int)) × Int × Int × Int × (List ByteArray) × Bool × (List Int))))) := (if (decide (i6 < (k0c_3.length : Int))) = true then (if 0 ≤ i6 ∧ i6 < (k0c_3.length : Int) then (if (decide (now1 < (gt k0c_3 i6).1)) = true then (if (later5.length + ([((gt k0c_3 i6).1, (gt k0c_3 i6).2.1, (((gt k0c_3 i6).2.2).1, ((gt k0c_3 i6).2.2).2.1, ((gt k0c_3 i6).2.2).2.2.1, ((gt k0c_3 i6).2.2).2.2.2))]).length) * 40 ≤ 140737488355328 then (some (Sum.inl (k0c_0, k0c_1c_0, k0c_1c_1, k0c_1c_2, k0c_1c_3, k0c_1c_4, k0c_2c_0, k0c_2c_1, k0c_2c_2, k0c_3, k0c_4, k0c_6, k0c_7, k0c_8, k0c_9, k0c_10, k0c_11, k0c_12, k0c_13, (later5 ++ [((gt k0c_3 i6).1, (gt k0c_3 i6).2.1, (((gt k0c_3 i6).2.2).1, ((gt k0c_3 i6).2.2).2.1, ((gt k0c_3 i6).2.2).2.2.1, ((gt k0c_3 i6).2.2).2.2.2))]), (IntKind.i64.wrap (i6 + (1 : Int)))))) else none) else ((f_again_Receiver_Handed k0c_2c_0 k0c_2c_1).bind fun q75 => (if (decide ((IntKind.i64.wrap ((256 : Int) - k0c_0)) < (IntKind.i64.wrap (q75 - (gt k0c_3 i6).2.1)))) = true then (some (Sum.inr (Sum.inr (true, (k0c_0, (some (k0c_1c_0, k0c_1c_1, k0c_1c_2, k0c_1c_3, k0c_1c_4)), (some (k0c_2c_0, k0c_2c_1, k0c_2c_2)), k0c_3, k0c_4, k0_picks, k0c_6, k0c_7, k0c_8, k0c_9, k0c_10, k0c_11, true, k0c_13))))) else ((f_again_Receiver_Take k0c_2c_0 k0c_2c_1 k0c_2c_2 (((gt k0c_3 i6).2.2).1) (((gt k0c_3 i6).2.2).2.1) (((gt k0c_3 i6).2.2).2.2.1) (((gt k0c_3 i6).2.2).2.2.2)).bind fun q95 => (if (q95.2.2.1 != (0 : Int)) = true then (some (Sum.inr (Sum.inr (false, (k0c_0, (some (k0c_1c_0, k0c_1c_1, k0c_1c_2, k0c_1c_3, k0c_1c_4)), (some (q95.2.2.2.1, q95.2.2.2.2.1, q95.2.2.2.2.2)), k0c_3, k0c_4, k0_picks, k0c_6, k0c_7, k0c_8, k0c_9, k0c_10, k0c_11, k0c_12, k0c_13))))) else (if (k0c_11.length + q95.1.length) * 16 ≤ 140737488355328 then ((f_foghornlaw28_link_pick k0c_0 (some (k0c_1c_0, k0c_1c_1, k0c_1c_2, k0c_1c_3, k0c_1c_4)) (some (q95.2.2.2.1, q95.2.2.2.2.1, q95.2.2.2.2.2)) k0c_3 k0c_4 k0_picks k0c_6 k0c_7 k0c_8 k0c_9 k0c_10 (k0c_11 ++ q95.1) k0c_12 k0c_13).bind fun q106 => ((q106.2.2.1).bind fun s119 => ((q106.2.2.2.1).bind fun s123 => (if (((iand .i64 q106.1 (1 : Int)) == (1 : Int)) && (decide (q106.2.2.2.2.2.2.2.2.2.1 < (3 : Int)))) = true then (some (Sum.inl (q106.2.1, s119.1, s119.2.1, s119.2.2.1, s119.2.2.2.1, s119.2.2.2.2, s123.1, s123.2.1, s123.2.2, q106.2.2.2.2.1, q106.2.2.2.2.2.1, q106.2.2.2.2.2.2.2.1, q106.2.2.2.2.2.2.2.2.1, (IntKind.i64.wrap (q106.2.2.2.2.2.2.2.2.2.1 + (1 : Int))), q106.2.2.2.2.2.2.2.2.2.2.1, q106.2.2.2.2.2.2.2.2.2.2.2.1, q106.2.2.2.2.2.2.2.2.2.2.2.2.1, q106.2.2.2.2.2.2.2.2.2.2.2.2.2.1, q106.2.2.2.2.2.2.2.2.2.2.2.2.2.2, later5, (IntKind.i64.wrap (i6 + (1 : Int)))))) else ((f_again_Receiver_Handed s123.1 s123.2.1).bind fun q142 => (if (q106.2.2.2.2.2.1.length + ([((IntKind.i64.wrap ((IntKind.i64.wrap (now1 + (1 : Int))) + (iand .i64 (ishr .i64 q106.1 (1 : Int)) (3 : Int)))), q142, (q95.2.1.1, q95.2.1.2.1, q95.2.1.2.2.1, q95.2.1.2.2.2))]).length) * 40 ≤ 140737488355328 then (some (Sum.inl (q106.2.1, s119.1, s119.2.1, s119.2.2.1, s119.2.2.2.1, s119.2.2.2.2, s123.1, s123.2.1, s123.2.2, q106.2.2.2.2.1, (q106.2.2.2.2.2.1 ++ [((IntKind.i64.wrap ((IntKind.i64.wrap (now1 + (1 : Int))) + (iand .i64 (ishr .i64 q106.1 (1 : Int)) (3 : Int)))), q142, (q95.2.1.1, q95.2.1.2.1, q95.2.1.2.2.1, q95.2.1.2.2.2))]), q106.2.2.2.2.2.2.2.1, q106.2.2.2.2.2.2.2.2.1, (0 : Int), q106.2.2.2.2.2.2.2.2.2.2.1, q106.2.2.2.2.2.2.2.2.2.2.2.1, q106.2.2.2.2.2.2.2.2.2.2.2.2.1, q106.2.2.2.2.2.2.2.2.2.2.2.2.2.1, q106.2.2.2.2.2.2.2.2.2.2.2.2.2.2, later5, (IntKind.i64.wrap (i6 + (1 : Int)))))) else none)))))) else none)))))) else none) else (some (Sum.inr (Sum.inl (k0c_0, k0c_1c_0, k0c_1c_1, k0c_1c_2, k0c_1c_3, k0c_1c_4, k0c_2c_0, k0c_2c_1, k0c_2c_2, k0c_3, k0c_4, k0c_6, k0c_7, k0c_8, k0c_9, k0c_10, k0c_11, k0c_12, k0c_13, later5)))))
noncomputable def f_foghornlaw28_link_come.s1 (k0_picks : (List Int)) (now1 : Int) (s : (Int × Int × Int × Int × Int × (List (ByteArray × Bool × Int × Bool)) × Int × Int × (List (Int × ByteArray)) × (List (Int × Int × (Int × Int × Bool × ByteArray))) × (List (Int × Int × (Int × Int × Bool × ByteArray))) × Int × (List (Int × Int)) × Int × Int × Int × (List ByteArray) × Bool × (List Int) × (List (Int × Int × (Int × Int × Bool × ByteArray))) × Int)) : Option ((Int × Int × Int × Int × Int × (List (ByteArray × Bool × Int × Bool)) × Int × Int × (List (Int × ByteArray)) × (List (Int × Int × (Int × Int × Bool × ByteArray))) × (List (Int × Int × (Int × Int × Bool × ByteArray))) × Int × (List (Int × Int)) × Int × Int × Int × (List ByteArray) × Bool × (List Int) × (List (Int × Int × (Int × Int × Bool × ByteArray))) × Int) ⊕ ((Int × Int × Int × Int × Int × (List (ByteArray × Bool × Int × Bool)) × Int × Int × (List (Int × ByteArray)) × (List (Int × Int × (Int × Int × Bool × ByteArray))) × (List (Int × Int × (Int × Int × Bool × ByteArray))) × Int × (List (Int × Int)) × Int × Int × Int × (List ByteArray) × Bool × (List Int) × (List (Int × Int × (Int × Int × Bool × ByteArray)))) ⊕ (Bool × (Int × (Option (Int × Int × Int × Int × (List (ByteArray × Bool × Int × Bool)))) × (Option (Int × Int × (List (Int × ByteArray)))) × (List (Int × Int × (Int × Int × Bool × ByteArray))) × (List (Int × Int × (Int × Int × Bool × ByteArray))) × (List Int) × Int × (List (Int × Int)) × Int × Int × Int × (List ByteArray) × Bool × (List Int))))) := f_foghornlaw28_link_come.s1c k0_picks now1 s.1 s.2.1 s.2.2.1 s.2.2.2.1 s.2.2.2.2.1 s.2.2.2.2.2.1 s.2.2.2.2.2.2.1 s.2.2.2.2.2.2.2.1 s.2.2.2.2.2.2.2.2.1 s.2.2.2.2.2.2.2.2.2.1 s.2.2.2.2.2.2.2.2.2.2.1 s.2.2.2.2.2.2.2.2.2.2.2.1 s.2.2.2.2.2.2.2.2.2.2.2.2.1 s.2.2.2.2.2.2.2.2.2.2.2.2.2.1 s.2.2.2.2.2.2.2.2.2.2.2.2.2.2.1 s.2.2.2.2.2.2.2.2.2.2.2.2.2.2.2.1 s.2.2.2.2.2.2.2.2.2.2.2.2.2.2.2.2.1 s.2.2.2.2.2.2.2.2.2.2.2.2.2.2.2.2.2.1 s.2.2.2.2.2.2.2.2.2.2.2.2.2.2.2.2.2.2.1 s.2.2.2.2.2.2.2.2.2.2.2.2.2.2.2.2.2.2.2.1 s.2.2.2.2.2.2.2.2.2.2.2.2.2.2.2.2.2.2.2.2
noncomputable def f_foghornlaw28_link_come.s2c (k0_picks : (List Int)) (now1 : Int) (k0c_0 : Int) (k0c_1c_0 : Int) (k0c_1c_1 : Int) (k0c_1c_2 : Int) (k0c_1c_3 : Int) (k0c_1c_4 : (List (ByteArray × Bool × Int × Bool))) (k0c_2c_0 : Int) (k0c_2c_1 : Int) (k0c_2c_2 : (List (Int × ByteArray))) (k0c_3 : (List (Int × Int × (Int × Int × Bool × ByteArray)))) (k0c_4 : (List (Int × Int × (Int × Int × Bool × ByteArray)))) (k0c_6 : Int) (k0c_7 : (List (Int × Int))) (k0c_8 : Int) (k0c_9 : Int) (k0c_10 : Int) (k0c_11 : (List ByteArray)) (k0c_12 : Bool) (k0c_13 : (List Int)) (later5 : (List (Int × Int × (Int × Int × Bool × ByteArray)))) (i12 : Int) : Option ((Int × Int × Int × Int × Int × (List (ByteArray × Bool × Int × Bool)) × Int × Int × (List (Int × ByteArray)) × (List (Int × Int × (Int × Int × Bool × ByteArray))) × (List (Int × Int × (Int × Int × Bool × ByteArray))) × Int × (List (Int × Int)) × Int × Int × Int × (List ByteArray) × Bool × (List Int) × (List (Int × Int × (Int × Int × Bool × ByteArray))) × Int) ⊕ ((Int × Int × Int × Int × Int × (List (ByteArray × Bool × Int × Bool)) × Int × Int × (List (Int × ByteArray)) × (List (Int × Int × (Int × Int × Bool × ByteArray))) × (List (Int × Int × (Int × Int × Bool × ByteArray))) × Int × (List (Int × Int)) × Int × Int × Int × (List ByteArray) × Bool × (List Int) × (List (Int × Int × (Int × Int × Bool × ByteArray)))) ⊕ (Bool × (Int × (Option (Int × Int × Int × Int × (List (ByteArray × Bool × Int × Bool)))) × (Option (Int × Int × (List (Int × ByteArray)))) × (List (Int × Int × (Int × Int × Bool × ByteArray))) × (List (Int × Int × (Int × Int × Bool × ByteArray))) × (List Int) × Int × (List (Int × Int)) × Int × Int × Int × (List ByteArray) × Bool × (List Int))))) := (if (decide (i12 < (k0c_4.length : Int))) = true then (if 0 ≤ i12 ∧ i12 < (k0c_4.length : Int) then (if (decide (now1 < (gt k0c_4 i12).1)) = true then (if (later5.length + ([((gt k0c_4 i12).1, (gt k0c_4 i12).2.1, (((gt k0c_4 i12).2.2).1, ((gt k0c_4 i12).2.2).2.1, ((gt k0c_4 i12).2.2).2.2.1, ((gt k0c_4 i12).2.2).2.2.2))]).length) * 40 ≤ 140737488355328 then (some (Sum.inl (k0c_0, k0c_1c_0, k0c_1c_1, k0c_1c_2, k0c_1c_3, k0c_1c_4, k0c_2c_0, k0c_2c_1, k0c_2c_2, k0c_3, k0c_4, k0c_6, k0c_7, k0c_8, k0c_9, k0c_10, k0c_11, k0c_12, k0c_13, (later5 ++ [((gt k0c_4 i12).1, (gt k0c_4 i12).2.1, (((gt k0c_4 i12).2.2).1, ((gt k0c_4 i12).2.2).2.1, ((gt k0c_4 i12).2.2).2.2.1, ((gt k0c_4 i12).2.2).2.2.2))]), (IntKind.i64.wrap (i12 + (1 : Int)))))) else none) else (if (decide ((IntKind.i64.wrap ((256 : Int) - k0c_0)) ≤ (IntKind.i64.wrap (k0c_9 - (gt k0c_4 i12).2.1)))) = true then (some (Sum.inr (Sum.inr (true, (k0c_0, (some (k0c_1c_0, k0c_1c_1, k0c_1c_2, k0c_1c_3, k0c_1c_4)), (some (k0c_2c_0, k0c_2c_1, k0c_2c_2)), k0c_3, k0c_4, k0_picks, k0c_6, k0c_7, k0c_8, k0c_9, k0c_10, k0c_11, true, k0c_13))))) else ((f_again_Sender_Hear k0c_1c_0 k0c_1c_1 k0c_1c_2 k0c_1c_3 k0c_1c_4 (((gt k0c_4 i12).2.2).1) (((gt k0c_4 i12).2.2).2.1) (((gt k0c_4 i12).2.2).2.2.1) (((gt k0c_4 i12).2.2).2.2.2)).bind fun q228 => (if (q228.1 != (0 : Int)) = true then (some (Sum.inr (Sum.inr (false, (k0c_0, (some (q228.2.1, q228.2.2.1, q228.2.2.2.1, q228.2.2.2.2.1, q228.2.2.2.2.2)), (some (k0c_2c_0, k0c_2c_1, k0c_2c_2)), k0c_3, k0c_4, k0_picks, k0c_6, k0c_7, k0c_8, k0c_9, k0c_10, k0c_11, k0c_12, k0c_13))))) else ((f_again_Sender_Left q228.2.1 q228.2.2.1 q228.2.2.2.1 q228.2.2.2.2.1 q228.2.2.2.2.2).bind fun q240 => (some (Sum.inl (k0c_0, q228.2.1, q228.2.2.1, q228.2.2.2.1, q228.2.2.2.2.1, q228.2.2.2.2.2, k0c_2c_0, k0c_2c_1, k0c_2c_2, k0c_3, k0c_4, k0c_6, k0c_7, k0c_8, (IntKind.i64.wrap (k0c_10 - q240)), k0c_10, k0c_11, k0c_12, k0c_13, later5, (IntKind.i64.wrap (i12 + (1 : Int))))))))))) else none) else (some (Sum.inr (Sum.inl (k0c_0, k0c_1c_0, k0c_1c_1, k0c_1c_2, k0c_1c_3, k0c_1c_4, k0c_2c_0, k0c_2c_1, k0c_2c_2, k0c_3, k0c_4, k0c_6, k0c_7, k0c_8, k0c_9, k0c_10, k0c_11, k0c_12, k0c_13, later5)))))
noncomputable def f_foghornlaw28_link_come.s2 (k0_picks : (List Int)) (now1 : Int) (s : (Int × Int × Int × Int × Int × (List (ByteArray × Bool × Int × Bool)) × Int × Int × (List (Int × ByteArray)) × (List (Int × Int × (Int × Int × Bool × ByteArray))) × (List (Int × Int × (Int × Int × Bool × ByteArray))) × Int × (List (Int × Int)) × Int × Int × Int × (List ByteArray) × Bool × (List Int) × (List (Int × Int × (Int × Int × Bool × ByteArray))) × Int)) : Option ((Int × Int × Int × Int × Int × (List (ByteArray × Bool × Int × Bool)) × Int × Int × (List (Int × ByteArray)) × (List (Int × Int × (Int × Int × Bool × ByteArray))) × (List (Int × Int × (Int × Int × Bool × ByteArray))) × Int × (List (Int × Int)) × Int × Int × Int × (List ByteArray) × Bool × (List Int) × (List (Int × Int × (Int × Int × Bool × ByteArray))) × Int) ⊕ ((Int × Int × Int × Int × Int × (List (ByteArray × Bool × Int × Bool)) × Int × Int × (List (Int × ByteArray)) × (List (Int × Int × (Int × Int × Bool × ByteArray))) × (List (Int × Int × (Int × Int × Bool × ByteArray))) × Int × (List (Int × Int)) × Int × Int × Int × (List ByteArray) × Bool × (List Int) × (List (Int × Int × (Int × Int × Bool × ByteArray)))) ⊕ (Bool × (Int × (Option (Int × Int × Int × Int × (List (ByteArray × Bool × Int × Bool)))) × (Option (Int × Int × (List (Int × ByteArray)))) × (List (Int × Int × (Int × Int × Bool × ByteArray))) × (List (Int × Int × (Int × Int × Bool × ByteArray))) × (List Int) × Int × (List (Int × Int)) × Int × Int × Int × (List ByteArray) × Bool × (List Int))))) := f_foghornlaw28_link_come.s2c k0_picks now1 s.1 s.2.1 s.2.2.1 s.2.2.2.1 s.2.2.2.2.1 s.2.2.2.2.2.1 s.2.2.2.2.2.2.1 s.2.2.2.2.2.2.2.1 s.2.2.2.2.2.2.2.2.1 s.2.2.2.2.2.2.2.2.2.1 s.2.2.2.2.2.2.2.2.2.2.1 s.2.2.2.2.2.2.2.2.2.2.2.1 s.2.2.2.2.2.2.2.2.2.2.2.2.1 s.2.2.2.2.2.2.2.2.2.2.2.2.2.1 s.2.2.2.2.2.2.2.2.2.2.2.2.2.2.1 s.2.2.2.2.2.2.2.2.2.2.2.2.2.2.2.1 s.2.2.2.2.2.2.2.2.2.2.2.2.2.2.2.2.1 s.2.2.2.2.2.2.2.2.2.2.2.2.2.2.2.2.2.1 s.2.2.2.2.2.2.2.2.2.2.2.2.2.2.2.2.2.2.1 s.2.2.2.2.2.2.2.2.2.2.2.2.2.2.2.2.2.2.2.1 s.2.2.2.2.2.2.2.2.2.2.2.2.2.2.2.2.2.2.2.2
noncomputable def f_foghornlaw28_link_come (k0_window : Int) (k0_s : (Option (Int × Int × Int × Int × (List (ByteArray × Bool × Int × Bool))))) (k0_r : (Option (Int × Int × (List (Int × ByteArray))))) (k0_there : (List (Int × Int × (Int × Int × Bool × ByteArray)))) (k0_back : (List (Int × Int × (Int × Int × Bool × ByteArray)))) (k0_picks : (List Int)) (k0_at : Int) (k0_lost : (List (Int × Int))) (k0_row : Int) (k0_base : Int) (k0_offered : Int) (k0_got : (List ByteArray)) (k0_excluded : Bool) (k0_times : (List Int)) (now1 : Int) : Option (Bool × (Int × (Option (Int × Int × Int × Int × (List (ByteArray × Bool × Int × Bool)))) × (Option (Int × Int × (List (Int × ByteArray)))) × (List (Int × Int × (Int × Int × Bool × ByteArray))) × (List (Int × Int × (Int × Int × Bool × ByteArray))) × (List Int) × Int × (List (Int × Int)) × Int × Int × Int × (List ByteArray) × Bool × (List Int))) := ((k0_s).bind fun s9 => ((k0_r).bind fun s13 => ((loop (f_foghornlaw28_link_come.s1 k0_picks now1) (k0_window, s9.1, s9.2.1, s9.2.2.1, s9.2.2.2.1, s9.2.2.2.2, s13.1, s13.2.1, s13.2.2, k0_there, k0_back, k0_at, k0_lost, k0_row, k0_base, k0_offered, k0_got, k0_excluded, k0_times, [], (0 : Int))).bind (fun q153 => sm q153 (fun q155 => ((loop (f_foghornlaw28_link_come.s2 k0_picks now1) (q155.1, q155.2.1, q155.2.2.1, q155.2.2.2.1, q155.2.2.2.2.1, q155.2.2.2.2.2.1, q155.2.2.2.2.2.2.1, q155.2.2.2.2.2.2.2.1, q155.2.2.2.2.2.2.2.2.1, q155.2.2.2.2.2.2.2.2.2.2.2.2.2.2.2.2.2.2.2, q155.2.2.2.2.2.2.2.2.2.2.1, q155.2.2.2.2.2.2.2.2.2.2.2.1, q155.2.2.2.2.2.2.2.2.2.2.2.2.1, q155.2.2.2.2.2.2.2.2.2.2.2.2.2.1, q155.2.2.2.2.2.2.2.2.2.2.2.2.2.2.1, q155.2.2.2.2.2.2.2.2.2.2.2.2.2.2.2.1, q155.2.2.2.2.2.2.2.2.2.2.2.2.2.2.2.2.1, q155.2.2.2.2.2.2.2.2.2.2.2.2.2.2.2.2.2.1, q155.2.2.2.2.2.2.2.2.2.2.2.2.2.2.2.2.2.2.1, [], (0 : Int))).bind (fun q252 => sm q252 (fun q254 => (some (true, (q254.1, (some (q254.2.1, q254.2.2.1, q254.2.2.2.1, q254.2.2.2.2.1, q254.2.2.2.2.2.1)), (some (q254.2.2.2.2.2.2.1, q254.2.2.2.2.2.2.2.1, q254.2.2.2.2.2.2.2.2.1)), q254.2.2.2.2.2.2.2.2.2.1, q254.2.2.2.2.2.2.2.2.2.2.2.2.2.2.2.2.2.2.2, k0_picks, q254.2.2.2.2.2.2.2.2.2.2.2.1, q254.2.2.2.2.2.2.2.2.2.2.2.2.1, q254.2.2.2.2.2.2.2.2.2.2.2.2.2.1, q254.2.2.2.2.2.2.2.2.2.2.2.2.2.2.1, q254.2.2.2.2.2.2.2.2.2.2.2.2.2.2.2.1, q254.2.2.2.2.2.2.2.2.2.2.2.2.2.2.2.2.1, q254.2.2.2.2.2.2.2.2.2.2.2.2.2.2.2.2.2.1, q254.2.2.2.2.2.2.2.2.2.2.2.2.2.2.2.2.2.2.1)))) (fun q255 => (some (q255.1, (q255.2.1, q255.2.2.1, q255.2.2.2.1, q255.2.2.2.2.1, q255.2.2.2.2.2.1, k0_picks, q255.2.2.2.2.2.2.2.1, q255.2.2.2.2.2.2.2.2.1, q255.2.2.2.2.2.2.2.2.2.1, q255.2.2.2.2.2.2.2.2.2.2.1, q255.2.2.2.2.2.2.2.2.2.2.2.1, q255.2.2.2.2.2.2.2.2.2.2.2.2.1, q255.2.2.2.2.2.2.2.2.2.2.2.2.2.1, q255.2.2.2.2.2.2.2.2.2.2.2.2.2.2))))))) (fun q156 => (some (q156.1, (q156.2.1, q156.2.2.1, q156.2.2.2.1, q156.2.2.2.2.1, q156.2.2.2.2.2.1, k0_picks, q156.2.2.2.2.2.2.2.1, q156.2.2.2.2.2.2.2.2.1, q156.2.2.2.2.2.2.2.2.2.1, q156.2.2.2.2.2.2.2.2.2.2.1, q156.2.2.2.2.2.2.2.2.2.2.2.1, q156.2.2.2.2.2.2.2.2.2.2.2.2.1, q156.2.2.2.2.2.2.2.2.2.2.2.2.2.1, q156.2.2.2.2.2.2.2.2.2.2.2.2.2.2))))))))
theorem f_foghornlaw28_link_come_c {S : Nat → Prop} {w0 w : World} {ow : List Res} (k0_window : Int) (vk0_s : Value) (k0_s : (Option (Int × Int × Int × Int × (List (ByteArray × Bool × Int × Bool))))) (vk0_r : Value) (k0_r : (Option (Int × Int × (List (Int × ByteArray))))) (vk0_there : Value) (k0_there : (List (Int × Int × (Int × Int × Bool × ByteArray)))) (vk0_back : Value) (k0_back : (List (Int × Int × (Int × Int × Bool × ByteArray)))) (vk0_picks : Value) (k0_picks : (List Int)) (hk0_picks : RdS (Ek.int .u8) S w0 vk0_picks k0_picks) (k0_at : Int) (vk0_lost : Value) (k0_lost : (List (Int × Int))) (k0_row : Int) (k0_base : Int) (k0_offered : Int) (vk0_got : Value) (k0_got : (List ByteArray)) (k0_excluded : Bool) (vk0_times : Value) (k0_times : (List Int)) (ok0 : Value) (now1 : Int) (hp : Hp S w0 w (Res.opt pk79 vk0_s k0_s :: Res.opt pk74 vk0_r k0_r :: Res.sl (Ek.pair (Ek.int .i64) (Ek.pair (Ek.int .i64) (Ek.pair (Ek.int .u8) (Ek.pair (Ek.int .u8) (Ek.pair Ek.bool Ek.str))))) 88 vk0_there k0_there :: Res.sl (Ek.pair (Ek.int .i64) (Ek.pair (Ek.int .i64) (Ek.pair (Ek.int .u8) (Ek.pair (Ek.int .u8) (Ek.pair Ek.bool Ek.str))))) 88 vk0_back k0_back :: Res.map (fun x : Int => Value.int .i64 x) vk0_lost k0_lost :: Res.sl Ek.str 9 vk0_got k0_got :: Res.sl (Ek.int .i64) 3 vk0_times k0_times :: Res.obj 68 ok0 [.int .i64 k0_window, vk0_s, vk0_r, vk0_there, vk0_back, vk0_picks, .int .i64 k0_at, vk0_lost, .int .i64 k0_row, .int .i64 k0_base, .int .i64 k0_offered, vk0_got, .bool k0_excluded, vk0_times] :: ow)) {r : (Bool × (Int × (Option (Int × Int × Int × Int × (List (ByteArray × Bool × Int × Bool)))) × (Option (Int × Int × (List (Int × ByteArray)))) × (List (Int × Int × (Int × Int × Bool × ByteArray))) × (List (Int × Int × (Int × Int × Bool × ByteArray))) × (List Int) × Int × (List (Int × Int)) × Int × Int × Int × (List ByteArray) × Bool × (List Int)))} (h : f_foghornlaw28_link_come k0_window k0_s k0_r k0_there k0_back k0_picks k0_at k0_lost k0_row k0_base k0_offered k0_got k0_excluded k0_times now1 = some r) :
   Calls Try.prog 33 #[ok0, .int .i64 now1] w (fun e w' => ∃ (u0 : Value) (u1 : Value) (u2 : Value) (u3 : Value) (u4 : Value), e = .returned (.bool r.1) ∧ Hp S w0 w' (Res.opt pk79 vk0_s r.2.2.1 :: Res.opt pk74 vk0_r r.2.2.2.1 :: Res.sl (Ek.pair (Ek.int .i64) (Ek.pair (Ek.int .i64) (Ek.pair (Ek.int .u8) (Ek.pair (Ek.int .u8) (Ek.pair Ek.bool Ek.str))))) 88 u0 r.2.2.2.2.1 :: Res.sl (Ek.pair (Ek.int .i64) (Ek.pair (Ek.int .i64) (Ek.pair (Ek.int .u8) (Ek.pair (Ek.int .u8) (Ek.pair Ek.bool Ek.str))))) 88 u1 r.2.2.2.2.2.1 :: Res.map (fun x : Int => Value.int .i64 x) u2 r.2.2.2.2.2.2.2.2.1 :: Res.sl Ek.str 9 u3 r.2.2.2.2.2.2.2.2.2.2.2.2.1 :: Res.sl (Ek.int .i64) 3 u4 r.2.2.2.2.2.2.2.2.2.2.2.2.2.2 :: Res.obj 68 ok0 [.int .i64 r.2.1, vk0_s, vk0_r, u0, u1, vk0_picks, .int .i64 r.2.2.2.2.2.2.2.1, u2, .int .i64 r.2.2.2.2.2.2.2.2.2.1, .int .i64 r.2.2.2.2.2.2.2.2.2.2.1, .int .i64 r.2.2.2.2.2.2.2.2.2.2.2.1, u3, .bool r.2.2.2.2.2.2.2.2.2.2.2.2.2.1, u4] :: ow)) := by
  unfold f_foghornlaw28_link_come at h
  refine enter (n := 190) (args := [ok0, .int .i64 now1]) Try.func33 rfl rfl (Nat.le_of_ble_eq_true rfl) fun a hf => ?_
  replace hf : Fr 190 a [(0, ok0), (1, .int .i64 now1)] := hf
  refine wp_mono (Q := fun e a w => e = .ret ∧ ∃ (u0 : Value) (u1 : Value) (u2 : Value) (u3 : Value) (u4 : Value), Fr 190 a [(4, .bool r.1)] ∧ Hp S w0 w (Res.opt pk79 vk0_s r.2.2.1 :: Res.opt pk74 vk0_r r.2.2.2.1 :: Res.sl (Ek.pair (Ek.int .i64) (Ek.pair (Ek.int .i64) (Ek.pair (Ek.int .u8) (Ek.pair (Ek.int .u8) (Ek.pair Ek.bool Ek.str))))) 88 u0 r.2.2.2.2.1 :: Res.sl (Ek.pair (Ek.int .i64) (Ek.pair (Ek.int .i64) (Ek.pair (Ek.int .u8) (Ek.pair (Ek.int .u8) (Ek.pair Ek.bool Ek.str))))) 88 u1 r.2.2.2.2.2.1 :: Res.map (fun x : Int => Value.int .i64 x) u2 r.2.2.2.2.2.2.2.2.1 :: Res.sl Ek.str 9 u3 r.2.2.2.2.2.2.2.2.2.2.2.2.1 :: Res.sl (Ek.int .i64) 3 u4 r.2.2.2.2.2.2.2.2.2.2.2.2.2.2 :: Res.obj 68 ok0 [.int .i64 r.2.1, vk0_s, vk0_r, u0, u1, vk0_picks, .int .i64 r.2.2.2.2.2.2.2.1, u2, .int .i64 r.2.2.2.2.2.2.2.2.2.1, .int .i64 r.2.2.2.2.2.2.2.2.2.2.1, .int .i64 r.2.2.2.2.2.2.2.2.2.2.2.1, u3, .bool r.2.2.2.2.2.2.2.2.2.2.2.2.2.1, u4] :: ow)) ?_ ?_
  rotate_left
  ·
   rintro e a w ⟨rfl, x0, x1, x2, x3, x4, hf, hp⟩
   exact ret1 hf rfl rfl ⟨x0, x1, x2, x3, x4, rfl, hp⟩
  refine wp_seq ?_
  refine wp_reg ?_
  refine st_assign hf rfl rfl (by decide) ?_
  clear hf; intro a ha hf; clear ha
  refine st_nil hf ?_
  refine th_n ?_
  refine wp_seq ?_
  refine wp_reg ?_
  refine st_assign hf rfl rfl (by decide) ?_
  clear hf; intro a ha hf; clear ha
  refine st_nil hf ?_
  refine th_n ?_
  refine wp_seq ?_
  refine wp_seq ?_
  refine wp_reg ?_
  refine st_assign hf rfl rfl (by decide) ?_
  clear hf; intro a ha hf; clear ha
  refine st_nil hf ?_
  refine th_n ?_
  refine wp_block ?_
  obtain ⟨s9, hs10, h⟩ := bnd h
  replace hp : Hp _ _ _ (pk79.R vk0_s s9 :: Res.opt pk74 vk0_r k0_r :: Res.sl (Ek.pair (Ek.int .i64) (Ek.pair (Ek.int .i64) (Ek.pair (Ek.int .u8) (Ek.pair (Ek.int .u8) (Ek.pair Ek.bool Ek.str))))) 88 vk0_there k0_there :: Res.sl (Ek.pair (Ek.int .i64) (Ek.pair (Ek.int .i64) (Ek.pair (Ek.int .u8) (Ek.pair (Ek.int .u8) (Ek.pair Ek.bool Ek.str))))) 88 vk0_back k0_back :: Res.map (fun x : Int => Value.int .i64 x) vk0_lost k0_lost :: Res.sl Ek.str 9 vk0_got k0_got :: Res.sl (Ek.int .i64) 3 vk0_times k0_times :: Res.obj 68 ok0 [.int .i64 k0_window, vk0_s, vk0_r, vk0_there, vk0_back, vk0_picks, .int .i64 k0_at, vk0_lost, .int .i64 k0_row, .int .i64 k0_base, .int .i64 k0_offered, vk0_got, .bool k0_excluded, vk0_times] :: ow) := hp.optSome hs10
  obtain ⟨v11, hp⟩ := pk79_in hp
  replace hp : Hp _ _ _ (Res.obj 79 vk0_s [.int .i64 s9.1, .int .i64 s9.2.1, .int .i64 s9.2.2.1, .int .i64 s9.2.2.2.1, v11] :: Res.sl (Ek.pair Ek.str (Ek.pair Ek.bool (Ek.pair (Ek.int .i64) Ek.bool))) 81 v11 s9.2.2.2.2 :: _ :: _ :: _ :: _ :: _ :: _ :: _ :: ow) := hp
  obtain ⟨s13, hs14, h⟩ := bnd h
  have hp : Hp _ _ _ (_ :: _ :: _ :: _ :: _ :: _ :: _ :: _ :: _ :: ow) := Hp.sel (pre := [Res.obj 79 vk0_s [.int .i64 s9.1, .int .i64 s9.2.1, .int .i64 s9.2.2.1, .int .i64 s9.2.2.2.1, v11], Res.sl (Ek.pair Ek.str (Ek.pair Ek.bool (Ek.pair (Ek.int .i64) Ek.bool))) 81 v11 s9.2.2.2.2, Res.opt pk74 vk0_r k0_r, Res.sl (Ek.pair (Ek.int .i64) (Ek.pair (Ek.int .i64) (Ek.pair (Ek.int .u8) (Ek.pair (Ek.int .u8) (Ek.pair Ek.bool Ek.str))))) 88 vk0_there k0_there, Res.sl (Ek.pair (Ek.int .i64) (Ek.pair (Ek.int .i64) (Ek.pair (Ek.int .u8) (Ek.pair (Ek.int .u8) (Ek.pair Ek.bool Ek.str))))) 88 vk0_back k0_back, Res.map (fun x : Int => Value.int .i64 x) vk0_lost k0_lost, Res.sl Ek.str 9 vk0_got k0_got, Res.sl (Ek.int .i64) 3 vk0_times k0_times, Res.obj 68 ok0 [.int .i64 k0_window, vk0_s, vk0_r, vk0_there, vk0_back, vk0_picks, .int .i64 k0_at, vk0_lost, .int .i64 k0_row, .int .i64 k0_base, .int .i64 k0_offered, vk0_got, .bool k0_excluded, vk0_times]]) (tail := ow) (rs' := [Res.opt pk74 vk0_r k0_r, Res.obj 79 vk0_s [.int .i64 s9.1, .int .i64 s9.2.1, .int .i64 s9.2.2.1, .int .i64 s9.2.2.2.1, v11], Res.sl (Ek.pair Ek.str (Ek.pair Ek.bool (Ek.pair (Ek.int .i64) Ek.bool))) 81 v11 s9.2.2.2.2, Res.sl (Ek.pair (Ek.int .i64) (Ek.pair (Ek.int .i64) (Ek.pair (Ek.int .u8) (Ek.pair (Ek.int .u8) (Ek.pair Ek.bool Ek.str))))) 88 vk0_there k0_there, Res.sl (Ek.pair (Ek.int .i64) (Ek.pair (Ek.int .i64) (Ek.pair (Ek.int .u8) (Ek.pair (Ek.int .u8) (Ek.pair Ek.bool Ek.str))))) 88 vk0_back k0_back, Res.map (fun x : Int => Value.int .i64 x) vk0_lost k0_lost, Res.sl Ek.str 9 vk0_got k0_got, Res.sl (Ek.int .i64) 3 vk0_times k0_times, Res.obj 68 ok0 [.int .i64 k0_window, vk0_s, vk0_r, vk0_there, vk0_back, vk0_picks, .int .i64 k0_at, vk0_lost, .int .i64 k0_row, .int .i64 k0_base, .int .i64 k0_offered, vk0_got, .bool k0_excluded, vk0_times]]) hp [2, 0, 1, 3, 4, 5, 6, 7, 8] (by decide) (by simp) rfl
  replace hp : Hp _ _ _ (pk74.R vk0_r s13 :: _ :: _ :: _ :: _ :: _ :: _ :: _ :: _ :: ow) := hp.optSome hs14
  obtain ⟨v15, hp⟩ := pk74_in hp
  replace hp : Hp _ _ _ (Res.obj 74 vk0_r [.int .i64 s13.1, .int .i64 s13.2.1, v15] :: Res.map (fun x : ByteArray => Value.string x) v15 s13.2.2 :: _ :: _ :: _ :: _ :: _ :: _ :: _ :: _ :: ow) := hp
  obtain ⟨q153, hl, h⟩ := bnd h
  have hp := hp.nil (Ek.pair (Ek.int .i64) (Ek.pair (Ek.int .i64) (Ek.pair (Ek.int .u8) (Ek.pair (Ek.int .u8) (Ek.pair Ek.bool Ek.str))))) 88
  have hp : Hp _ _ _ (_ :: _ :: _ :: _ :: _ :: _ :: _ :: _ :: _ :: _ :: Res.sl (Ek.pair (Ek.int .i64) (Ek.pair (Ek.int .i64) (Ek.pair (Ek.int .u8) (Ek.pair (Ek.int .u8) (Ek.pair Ek.bool Ek.str))))) 88 (.slice none 0 0) ([]) :: ow) := Hp.sel (pre := [Res.sl (Ek.pair (Ek.int .i64) (Ek.pair (Ek.int .i64) (Ek.pair (Ek.int .u8) (Ek.pair (Ek.int .u8) (Ek.pair Ek.bool Ek.str))))) 88 (.slice none 0 0) ([]), Res.obj 74 vk0_r [.int .i64 s13.1, .int .i64 s13.2.1, v15], Res.map (fun x : ByteArray => Value.string x) v15 s13.2.2, Res.obj 79 vk0_s [.int .i64 s9.1, .int .i64 s9.2.1, .int .i64 s9.2.2.1, .int .i64 s9.2.2.2.1, v11], Res.sl (Ek.pair Ek.str (Ek.pair Ek.bool (Ek.pair (Ek.int .i64) Ek.bool))) 81 v11 s9.2.2.2.2, Res.sl (Ek.pair (Ek.int .i64) (Ek.pair (Ek.int .i64) (Ek.pair (Ek.int .u8) (Ek.pair (Ek.int .u8) (Ek.pair Ek.bool Ek.str))))) 88 vk0_there k0_there, Res.sl (Ek.pair (Ek.int .i64) (Ek.pair (Ek.int .i64) (Ek.pair (Ek.int .u8) (Ek.pair (Ek.int .u8) (Ek.pair Ek.bool Ek.str))))) 88 vk0_back k0_back, Res.map (fun x : Int => Value.int .i64 x) vk0_lost k0_lost, Res.sl Ek.str 9 vk0_got k0_got, Res.sl (Ek.int .i64) 3 vk0_times k0_times, Res.obj 68 ok0 [.int .i64 k0_window, vk0_s, vk0_r, vk0_there, vk0_back, vk0_picks, .int .i64 k0_at, vk0_lost, .int .i64 k0_row, .int .i64 k0_base, .int .i64 k0_offered, vk0_got, .bool k0_excluded, vk0_times]]) (tail := ow) (rs' := [Res.sl (Ek.pair Ek.str (Ek.pair Ek.bool (Ek.pair (Ek.int .i64) Ek.bool))) 81 v11 s9.2.2.2.2, Res.obj 79 vk0_s [.int .i64 s9.1, .int .i64 s9.2.1, .int .i64 s9.2.2.1, .int .i64 s9.2.2.2.1, v11], Res.map (fun x : ByteArray => Value.string x) v15 s13.2.2, Res.obj 74 vk0_r [.int .i64 s13.1, .int .i64 s13.2.1, v15], Res.sl (Ek.pair (Ek.int .i64) (Ek.pair (Ek.int .i64) (Ek.pair (Ek.int .u8) (Ek.pair (Ek.int .u8) (Ek.pair Ek.bool Ek.str))))) 88 vk0_there k0_there, Res.sl (Ek.pair (Ek.int .i64) (Ek.pair (Ek.int .i64) (Ek.pair (Ek.int .u8) (Ek.pair (Ek.int .u8) (Ek.pair Ek.bool Ek.str))))) 88 vk0_back k0_back, Res.map (fun x : Int => Value.int .i64 x) vk0_lost k0_lost, Res.sl Ek.str 9 vk0_got k0_got, Res.sl (Ek.int .i64) 3 vk0_times k0_times, Res.obj 68 ok0 [.int .i64 k0_window, vk0_s, vk0_r, vk0_there, vk0_back, vk0_picks, .int .i64 k0_at, vk0_lost, .int .i64 k0_row, .int .i64 k0_base, .int .i64 k0_offered, vk0_got, .bool k0_excluded, vk0_times], Res.sl (Ek.pair (Ek.int .i64) (Ek.pair (Ek.int .i64) (Ek.pair (Ek.int .u8) (Ek.pair (Ek.int .u8) (Ek.pair Ek.bool Ek.str))))) 88 (.slice none 0 0) ([])]) hp [4, 3, 2, 1, 5, 6, 7, 8, 9, 10, 0] (by decide) (by simp) rfl
  refine wp_loop_pure (f := (f_foghornlaw28_link_come.s1 k0_picks now1)) (s := (k0_window, s9.1, s9.2.1, s9.2.2.1, s9.2.2.2.1, s9.2.2.2.2, s13.1, s13.2.1, s13.2.2, k0_there, k0_back, k0_at, k0_lost, k0_row, k0_base, k0_offered, k0_got, k0_excluded, k0_times, [], (0 : Int))) (fun s a w => ∃ (v17 : Value) (v20 : Value) (v23 : Value) (v25 : Value) (v27 : Value) (v29 : Value) (v31 : Value) (v34 : Value), Fr 190 a [(0, ok0), (1, .int .i64 now1), (5, v34), (6, .int .i64 s.2.2.2.2.2.2.2.2.2.2.2.2.2.2.2.2.2.2.2.2)] ∧ Hp S w0 w (Res.sl (Ek.pair Ek.str (Ek.pair Ek.bool (Ek.pair (Ek.int .i64) Ek.bool))) 81 v17 s.2.2.2.2.2.1 :: Res.obj 79 vk0_s [.int .i64 s.2.1, .int .i64 s.2.2.1, .int .i64 s.2.2.2.1, .int .i64 s.2.2.2.2.1, v17] :: Res.map (fun x : ByteArray => Value.string x) v20 s.2.2.2.2.2.2.2.2.1 :: Res.obj 74 vk0_r [.int .i64 s.2.2.2.2.2.2.1, .int .i64 s.2.2.2.2.2.2.2.1, v20] :: Res.sl (Ek.pair (Ek.int .i64) (Ek.pair (Ek.int .i64) (Ek.pair (Ek.int .u8) (Ek.pair (Ek.int .u8) (Ek.pair Ek.bool Ek.str))))) 88 v23 s.2.2.2.2.2.2.2.2.2.1 :: Res.sl (Ek.pair (Ek.int .i64) (Ek.pair (Ek.int .i64) (Ek.pair (Ek.int .u8) (Ek.pair (Ek.int .u8) (Ek.pair Ek.bool Ek.str))))) 88 v25 s.2.2.2.2.2.2.2.2.2.2.1 :: Res.map (fun x : Int => Value.int .i64 x) v27 s.2.2.2.2.2.2.2.2.2.2.2.2.1 :: Res.sl Ek.str 9 v29 s.2.2.2.2.2.2.2.2.2.2.2.2.2.2.2.2.1 :: Res.sl (Ek.int .i64) 3 v31 s.2.2.2.2.2.2.2.2.2.2.2.2.2.2.2.2.2.2.1 :: Res.obj 68 ok0 [.int .i64 s.1, vk0_s, vk0_r, v23, v25, vk0_picks, .int .i64 s.2.2.2.2.2.2.2.2.2.2.2.1, v27, .int .i64 s.2.2.2.2.2.2.2.2.2.2.2.2.2.1, .int .i64 s.2.2.2.2.2.2.2.2.2.2.2.2.2.2.1, .int .i64 s.2.2.2.2.2.2.2.2.2.2.2.2.2.2.2.1, v29, .bool s.2.2.2.2.2.2.2.2.2.2.2.2.2.2.2.2.2.1, v31] :: Res.sl (Ek.pair (Ek.int .i64) (Ek.pair (Ek.int .i64) (Ek.pair (Ek.int .u8) (Ek.pair (Ek.int .u8) (Ek.pair Ek.bool Ek.str))))) 88 v34 s.2.2.2.2.2.2.2.2.2.2.2.2.2.2.2.2.2.2.2.1 :: ow)) (fun q e a w => match q with | (Sum.inl q) => e = .exit 0 ∧ ∃ (v36 : Value) (v39 : Value) (v42 : Value) (v44 : Value) (v46 : Value) (v48 : Value) (v50 : Value) (v53 : Value), Fr 190 a [(0, ok0), (1, .int .i64 now1), (5, v53)] ∧ Hp S w0 w (Res.sl (Ek.pair Ek.str (Ek.pair Ek.bool (Ek.pair (Ek.int .i64) Ek.bool))) 81 v36 q.2.2.2.2.2.1 :: Res.obj 79 vk0_s [.int .i64 q.2.1, .int .i64 q.2.2.1, .int .i64 q.2.2.2.1, .int .i64 q.2.2.2.2.1, v36] :: Res.map (fun x : ByteArray => Value.string x) v39 q.2.2.2.2.2.2.2.2.1 :: Res.obj 74 vk0_r [.int .i64 q.2.2.2.2.2.2.1, .int .i64 q.2.2.2.2.2.2.2.1, v39] :: Res.sl (Ek.pair (Ek.int .i64) (Ek.pair (Ek.int .i64) (Ek.pair (Ek.int .u8) (Ek.pair (Ek.int .u8) (Ek.pair Ek.bool Ek.str))))) 88 v42 q.2.2.2.2.2.2.2.2.2.1 :: Res.sl (Ek.pair (Ek.int .i64) (Ek.pair (Ek.int .i64) (Ek.pair (Ek.int .u8) (Ek.pair (Ek.int .u8) (Ek.pair Ek.bool Ek.str))))) 88 v44 q.2.2.2.2.2.2.2.2.2.2.1 :: Res.map (fun x : Int => Value.int .i64 x) v46 q.2.2.2.2.2.2.2.2.2.2.2.2.1 :: Res.sl Ek.str 9 v48 q.2.2.2.2.2.2.2.2.2.2.2.2.2.2.2.2.1 :: Res.sl (Ek.int .i64) 3 v50 q.2.2.2.2.2.2.2.2.2.2.2.2.2.2.2.2.2.2.1 :: Res.obj 68 ok0 [.int .i64 q.1, vk0_s, vk0_r, v42, v44, vk0_picks, .int .i64 q.2.2.2.2.2.2.2.2.2.2.2.1, v46, .int .i64 q.2.2.2.2.2.2.2.2.2.2.2.2.2.1, .int .i64 q.2.2.2.2.2.2.2.2.2.2.2.2.2.2.1, .int .i64 q.2.2.2.2.2.2.2.2.2.2.2.2.2.2.2.1, v48, .bool q.2.2.2.2.2.2.2.2.2.2.2.2.2.2.2.2.2.1, v50] :: Res.sl (Ek.pair (Ek.int .i64) (Ek.pair (Ek.int .i64) (Ek.pair (Ek.int .u8) (Ek.pair (Ek.int .u8) (Ek.pair Ek.bool Ek.str))))) 88 v53 q.2.2.2.2.2.2.2.2.2.2.2.2.2.2.2.2.2.2.2 :: ow) | (Sum.inr q) => e = .ret ∧ ∃ (u0 : Value) (u1 : Value) (u2 : Value) (u3 : Value) (u4 : Value), Fr 190 a [(4, .bool q.1)] ∧ Hp S w0 w (Res.opt pk79 vk0_s q.2.2.1 :: Res.opt pk74 vk0_r q.2.2.2.1 :: Res.sl (Ek.pair (Ek.int .i64) (Ek.pair (Ek.int .i64) (Ek.pair (Ek.int .u8) (Ek.pair (Ek.int .u8) (Ek.pair Ek.bool Ek.str))))) 88 u0 q.2.2.2.2.1 :: Res.sl (Ek.pair (Ek.int .i64) (Ek.pair (Ek.int .i64) (Ek.pair (Ek.int .u8) (Ek.pair (Ek.int .u8) (Ek.pair Ek.bool Ek.str))))) 88 u1 q.2.2.2.2.2.1 :: Res.map (fun x : Int => Value.int .i64 x) u2 q.2.2.2.2.2.2.2.2.1 :: Res.sl Ek.str 9 u3 q.2.2.2.2.2.2.2.2.2.2.2.2.1 :: Res.sl (Ek.int .i64) 3 u4 q.2.2.2.2.2.2.2.2.2.2.2.2.2.2 :: Res.obj 68 ok0 [.int .i64 q.2.1, vk0_s, vk0_r, u0, u1, vk0_picks, .int .i64 q.2.2.2.2.2.2.2.1, u2, .int .i64 q.2.2.2.2.2.2.2.2.2.1, .int .i64 q.2.2.2.2.2.2.2.2.2.2.1, .int .i64 q.2.2.2.2.2.2.2.2.2.2.2.1, u3, .bool q.2.2.2.2.2.2.2.2.2.2.2.2.2.1, u4] :: ow)) ?_ hl ⟨_, _, _, _, _, _, _, _, hf.sub ⟨rfl, rfl, rfl, rfl, trivial⟩, hp⟩ ?_
  ·
   clear hl hf hp
   intro s x a w h hI
   obtain ⟨k0c_0, k0c_1c_0, k0c_1c_1, k0c_1c_2, k0c_1c_3, k0c_1c_4, k0c_2c_0, k0c_2c_1, k0c_2c_2, k0c_3, k0c_4, k0c_6, k0c_7, k0c_8, k0c_9, k0c_10, k0c_11, k0c_12, k0c_13, later5, i6⟩ := s
   obtain ⟨v17, v20, v23, v25, v27, v29, v31, v34, hf, hp⟩ : ∃ (v17 : Value) (v20 : Value) (v23 : Value) (v25 : Value) (v27 : Value) (v29 : Value) (v31 : Value) (v34 : Value), Fr 190 a [(0, ok0), (1, .int .i64 now1), (5, v34), (6, .int .i64 i6)] ∧ Hp S w0 w (Res.sl (Ek.pair Ek.str (Ek.pair Ek.bool (Ek.pair (Ek.int .i64) Ek.bool))) 81 v17 k0c_1c_4 :: Res.obj 79 vk0_s [.int .i64 k0c_1c_0, .int .i64 k0c_1c_1, .int .i64 k0c_1c_2, .int .i64 k0c_1c_3, v17] :: Res.map (fun x : ByteArray => Value.string x) v20 k0c_2c_2 :: Res.obj 74 vk0_r [.int .i64 k0c_2c_0, .int .i64 k0c_2c_1, v20] :: Res.sl (Ek.pair (Ek.int .i64) (Ek.pair (Ek.int .i64) (Ek.pair (Ek.int .u8) (Ek.pair (Ek.int .u8) (Ek.pair Ek.bool Ek.str))))) 88 v23 k0c_3 :: Res.sl (Ek.pair (Ek.int .i64) (Ek.pair (Ek.int .i64) (Ek.pair (Ek.int .u8) (Ek.pair (Ek.int .u8) (Ek.pair Ek.bool Ek.str))))) 88 v25 k0c_4 :: Res.map (fun x : Int => Value.int .i64 x) v27 k0c_7 :: Res.sl Ek.str 9 v29 k0c_11 :: Res.sl (Ek.int .i64) 3 v31 k0c_13 :: Res.obj 68 ok0 [.int .i64 k0c_0, vk0_s, vk0_r, v23, v25, vk0_picks, .int .i64 k0c_6, v27, .int .i64 k0c_8, .int .i64 k0c_9, .int .i64 k0c_10, v29, .bool k0c_12, v31] :: Res.sl (Ek.pair (Ek.int .i64) (Ek.pair (Ek.int .i64) (Ek.pair (Ek.int .u8) (Ek.pair (Ek.int .u8) (Ek.pair Ek.bool Ek.str))))) 88 v34 later5 :: ow) := hI
   replace h : f_foghornlaw28_link_come.s1c k0_picks now1 k0c_0 k0c_1c_0 k0c_1c_1 k0c_1c_2 k0c_1c_3 k0c_1c_4 k0c_2c_0 k0c_2c_1 k0c_2c_2 k0c_3 k0c_4 k0c_6 k0c_7 k0c_8 k0c_9 k0c_10 k0c_11 k0c_12 k0c_13 later5 i6 = some x := h
   unfold f_foghornlaw28_link_come.s1c at h
   refine wp_seq ?_
   refine wp_seq ?_
   refine wp_reg ?_
   refine st_move hf rfl rfl (by decide) ?_
   clear hf; intro a ha hf; clear ha
   refine st_move hf rfl rfl (by decide) ?_
   clear hf; intro a ha hf; clear ha
   refine st_nilV hf (by decide) rfl rfl (hp.ob (i := 9) rfl) ?_
   clear hf; intro a ha hf; clear ha
   refine st_fa (o' := 3) hf (by decide) (off := 3) (sz := 1) (by kernel_rfl) (by decide) rfl rfl (hp.ob (i := 9) rfl) rfl ?_
   clear hf; intro a ha hf; clear ha
   refine st_ldO (u := v23) hf (by decide) pl66 rfl rfl (hp.ob (i := 9) rfl) rfl ?_
   clear hf; intro a ha hf; clear ha
   refine st_len (E := (Ek.pair (Ek.int .i64) (Ek.pair (Ek.int .i64) (Ek.pair (Ek.int .u8) (Ek.pair (Ek.int .u8) (Ek.pair Ek.bool Ek.str)))))) hf (by decide) Try.underlying66 rfl rfl (hp.sl (i := 4) rfl) ?_
   clear hf; intro a ha hf; clear ha
   refine st_ilss hf (by decide) rfl rfl rfl ?_
   clear hf; intro a ha hf; clear ha
   refine st_nil hf ?_
   refine th_n ?_
   refine wp_if hf rfl (fun hb => ?_) (fun hb => ?_)
   ·
    replace h := ifT h hb
    refine wp_skip ?_
    refine th_n ?_
    refine wp_seq ?_
    refine wp_block ?_
    refine wp_seq ?_
    refine wp_reg ?_
    refine st_move hf rfl rfl (by decide) ?_
    clear hf; intro a ha hf; clear ha
    refine st_nilV hf (by decide) rfl rfl (hp.ob (i := 9) rfl) ?_
    clear hf; intro a ha hf; clear ha
    refine st_fa (o' := 3) hf (by decide) (off := 3) (sz := 1) (by kernel_rfl) (by decide) rfl rfl (hp.ob (i := 9) rfl) rfl ?_
    clear hf; intro a ha hf; clear ha
    refine st_ldO (u := v23) hf (by decide) pl66 rfl rfl (hp.ob (i := 9) rfl) rfl ?_
    clear hf; intro a ha hf; clear ha
    refine st_move hf rfl rfl (by decide) ?_
    clear hf; intro a ha hf; clear ha
    obtain ⟨hc55, h⟩ := chk h
    refine st_index (E := (Ek.pair (Ek.int .i64) (Ek.pair (Ek.int .i64) (Ek.pair (Ek.int .u8) (Ek.pair (Ek.int .u8) (Ek.pair Ek.bool Ek.str)))))) hf (by decide) Try.underlying66 elt88 rfl rfl rfl (hp.sl (i := 4) rfl) hc55.1 hc55.2 ?_
    clear hf; intro a ha hf; clear ha
    refine st_ldQX (F := (Ek.pair (Ek.int .i64) (Ek.pair (Ek.int .i64) (Ek.pair (Ek.int .u8) (Ek.pair (Ek.int .u8) (Ek.pair Ek.bool Ek.str)))))) (yv := (gt k0c_3 i6)) (m := 6) (us := [.int .i64 ((gt k0c_3 i6).1), .int .i64 ((gt k0c_3 i6).2.1), .int .u8 (((gt k0c_3 i6).2.2).1), .int .u8 (((gt k0c_3 i6).2.2).2.1), .bool (((gt k0c_3 i6).2.2).2.2.1), .string (((gt k0c_3 i6).2.2).2.2.2)]) hf (by decide) (by kernel_rfl) rfl (fun cs9 h9 => by obtain ⟨_, _, rfl, rfl, ⟨_, _, rfl, rfl, ⟨_, _, rfl, rfl, ⟨_, _, rfl, rfl, ⟨_, _, rfl, rfl, rfl⟩⟩⟩⟩⟩ := h9; rfl) rfl rfl (Part.whole (hp.sl (i := 4) rfl) hc55.1 hc55.2) ?_
    clear hf; intro a ha hf; clear ha
    refine st_alloc (cs := [.int .i64 (0 : Int), .int .i64 (0 : Int), .int .u8 (0 : Int), .int .u8 (0 : Int), .bool false, .string ByteArray.empty]) (zv := .agg #[.int .i64 (0 : Int), .int .i64 (0 : Int), .int .u8 (0 : Int), .int .u8 (0 : Int), .bool false, .string ByteArray.empty]) hf (by decide) (by kernel_rfl) rfl hp rfl ?_
    clear hf; intro a w v56 hf hp0; clear hp; have hp := hp0; clear hp0
    replace hp : Hp _ _ _ (Res.obj 88 v56 [.int .i64 (0 : Int), .int .i64 (0 : Int), .int .u8 (0 : Int), .int .u8 (0 : Int), .bool false, .string ByteArray.empty] :: Res.sl (Ek.pair Ek.str (Ek.pair Ek.bool (Ek.pair (Ek.int .i64) Ek.bool))) 81 v17 k0c_1c_4 :: Res.obj 79 vk0_s [.int .i64 k0c_1c_0, .int .i64 k0c_1c_1, .int .i64 k0c_1c_2, .int .i64 k0c_1c_3, v17] :: Res.map (fun x : ByteArray => Value.string x) v20 k0c_2c_2 :: Res.obj 74 vk0_r [.int .i64 k0c_2c_0, .int .i64 k0c_2c_1, v20] :: Res.sl (Ek.pair (Ek.int .i64) (Ek.pair (Ek.int .i64) (Ek.pair (Ek.int .u8) (Ek.pair (Ek.int .u8) (Ek.pair Ek.bool Ek.str))))) 88 v23 k0c_3 :: Res.sl (Ek.pair (Ek.int .i64) (Ek.pair (Ek.int .i64) (Ek.pair (Ek.int .u8) (Ek.pair (Ek.int .u8) (Ek.pair Ek.bool Ek.str))))) 88 v25 k0c_4 :: Res.map (fun x : Int => Value.int .i64 x) v27 k0c_7 :: Res.sl Ek.str 9 v29 k0c_11 :: Res.sl (Ek.int .i64) 3 v31 k0c_13 :: Res.obj 68 ok0 [.int .i64 k0c_0, vk0_s, vk0_r, v23, v25, vk0_picks, .int .i64 k0c_6, v27, .int .i64 k0c_8, .int .i64 k0c_9, .int .i64 k0c_10, v29, .bool k0c_12, v31] :: Res.sl (Ek.pair (Ek.int .i64) (Ek.pair (Ek.int .i64) (Ek.pair (Ek.int .u8) (Ek.pair (Ek.int .u8) (Ek.pair Ek.bool Ek.str))))) 88 v34 later5 :: ow) := hp
    refine st_stO (us := [.int .i64 ((gt k0c_3 i6).1), .int .i64 ((gt k0c_3 i6).2.1), .int .u8 (((gt k0c_3 i6).2.2).1), .int .u8 (((gt k0c_3 i6).2.2).2.1), .bool (((gt k0c_3 i6).2.2).2.2.1), .string (((gt k0c_3 i6).2.2).2.2.2)]) hf hp (i := 0) rfl rfl rfl rfl rfl (by rfl) (by kernel_rfl) (Nat.le_of_ble_eq_true rfl) ?_
    clear hf; intro a w hf hp0; clear hp; have hp := hp0; clear hp0
    replace hp : Hp _ _ _ (Res.obj 88 v56 [.int .i64 ((gt k0c_3 i6).1), .int .i64 ((gt k0c_3 i6).2.1), .int .u8 (((gt k0c_3 i6).2.2).1), .int .u8 (((gt k0c_3 i6).2.2).2.1), .bool (((gt k0c_3 i6).2.2).2.2.1), .string (((gt k0c_3 i6).2.2).2.2.2)] :: _ :: _ :: _ :: _ :: _ :: _ :: _ :: _ :: _ :: _ :: _ :: ow) := hp
    refine st_nil hf ?_
    refine th_n ?_
    refine wp_seq ?_
    refine wp_seq ?_
    refine wp_reg ?_
    refine st_fa (o' := 0) hf (by decide) (off := 0) (sz := 1) (by kernel_rfl) (by decide) rfl rfl (hp.ob (i := 0) rfl) rfl ?_
    clear hf; intro a ha hf; clear ha
    refine st_ldO (u := .int .i64 ((gt k0c_3 i6).1)) hf (by decide) pl3 rfl rfl (hp.ob (i := 0) rfl) rfl ?_
    clear hf; intro a ha hf; clear ha
    refine st_move hf rfl rfl (by decide) ?_
    clear hf; intro a ha hf; clear ha
    refine st_igtr hf (by decide) rfl rfl rfl ?_
    clear hf; intro a ha hf; clear ha
    refine st_nil hf ?_
    refine th_n ?_
    refine wp_if hf rfl (fun hb => ?_) (fun hb => ?_)
    ·
     replace h := ifT h hb
     refine wp_seq ?_
     refine wp_reg ?_
     refine st_move hf rfl rfl (by decide) ?_
     clear hf; intro a ha hf; clear ha
     refine st_ldOA (m := 6) (us := [.int .i64 ((gt k0c_3 i6).1), .int .i64 ((gt k0c_3 i6).2.1), .int .u8 (((gt k0c_3 i6).2.2).1), .int .u8 (((gt k0c_3 i6).2.2).2.1), .bool (((gt k0c_3 i6).2.2).2.2.1), .string (((gt k0c_3 i6).2.2).2.2.2)]) hf (by decide) (by kernel_rfl) rfl rfl (hp.ob (i := 0) rfl) rfl rfl ?_
     clear hf; intro a ha hf; clear ha
     refine st_build (E := (Ek.pair (Ek.int .i64) (Ek.pair (Ek.int .i64) (Ek.pair (Ek.int .u8) (Ek.pair (Ek.int .u8) (Ek.pair Ek.bool Ek.str)))))) (xs := [((gt k0c_3 i6).1, (gt k0c_3 i6).2.1, (((gt k0c_3 i6).2.2).1, ((gt k0c_3 i6).2.2).2.1, ((gt k0c_3 i6).2.2).2.2.1, ((gt k0c_3 i6).2.2).2.2.2))]) hf (by decide) elt88 Try.underlying66 hp (vals := #[(0, .agg #[.int .i64 ((gt k0c_3 i6).1), .int .i64 ((gt k0c_3 i6).2.1), .int .u8 (((gt k0c_3 i6).2.2).1), .int .u8 (((gt k0c_3 i6).2.2).2.1), .bool (((gt k0c_3 i6).2.2).2.2.1), .string (((gt k0c_3 i6).2.2).2.2.2)])]) (cells := #[.int .i64 ((gt k0c_3 i6).1), .int .i64 ((gt k0c_3 i6).2.1), .int .u8 (((gt k0c_3 i6).2.2).1), .int .u8 (((gt k0c_3 i6).2.2).2.1), .bool (((gt k0c_3 i6).2.2).2.2.1), .string (((gt k0c_3 i6).2.2).2.2.2)]) rfl (by simp [hf.ev (x := (Operand.tmp 35)) rfl]) (by decide) (by decide) (z := .agg #[.int .i64 0, .int .i64 0, .int .u8 0, .int .u8 0, .bool false, .string ByteArray.empty]) (by kernel_rfl) (by kernel_rfl) rfl (reps_cons (cs := [.int .i64 ((gt k0c_3 i6).1), .int .i64 ((gt k0c_3 i6).2.1), .int .u8 (((gt k0c_3 i6).2.2).1), .int .u8 (((gt k0c_3 i6).2.2).2.1), .bool (((gt k0c_3 i6).2.2).2.2.1), .string (((gt k0c_3 i6).2.2).2.2.2)]) ⟨[.int .i64 ((gt k0c_3 i6).1)], [.int .i64 ((gt k0c_3 i6).2.1), .int .u8 (((gt k0c_3 i6).2.2).1), .int .u8 (((gt k0c_3 i6).2.2).2.1), .bool (((gt k0c_3 i6).2.2).2.2.1), .string (((gt k0c_3 i6).2.2).2.2.2)], rfl, rfl, ⟨[.int .i64 ((gt k0c_3 i6).2.1)], [.int .u8 (((gt k0c_3 i6).2.2).1), .int .u8 (((gt k0c_3 i6).2.2).2.1), .bool (((gt k0c_3 i6).2.2).2.2.1), .string (((gt k0c_3 i6).2.2).2.2.2)], rfl, rfl, ⟨[.int .u8 (((gt k0c_3 i6).2.2).1)], [.int .u8 (((gt k0c_3 i6).2.2).2.1), .bool (((gt k0c_3 i6).2.2).2.2.1), .string (((gt k0c_3 i6).2.2).2.2.2)], rfl, rfl, ⟨[.int .u8 (((gt k0c_3 i6).2.2).2.1)], [.bool (((gt k0c_3 i6).2.2).2.2.1), .string (((gt k0c_3 i6).2.2).2.2.2)], rfl, rfl, ⟨[.bool (((gt k0c_3 i6).2.2).2.2.1)], [.string (((gt k0c_3 i6).2.2).2.2.2)], rfl, rfl, rfl⟩⟩⟩⟩⟩ (reps_nil _)) ?_
     clear hf; intro a w v58 hf hp0; clear hp; have hp := hp0; clear hp0
     replace hp : Hp _ _ _ (Res.sl (Ek.pair (Ek.int .i64) (Ek.pair (Ek.int .i64) (Ek.pair (Ek.int .u8) (Ek.pair (Ek.int .u8) (Ek.pair Ek.bool Ek.str))))) 88 v58 ([((gt k0c_3 i6).1, (gt k0c_3 i6).2.1, (((gt k0c_3 i6).2.2).1, ((gt k0c_3 i6).2.2).2.1, ((gt k0c_3 i6).2.2).2.2.1, ((gt k0c_3 i6).2.2).2.2.2))]) :: _ :: _ :: _ :: _ :: _ :: _ :: _ :: _ :: _ :: _ :: _ :: _ :: ow) := hp
     obtain ⟨hc60, h⟩ := chk h
     refine st_append (E := (Ek.pair (Ek.int .i64) (Ek.pair (Ek.int .i64) (Ek.pair (Ek.int .u8) (Ek.pair (Ek.int .u8) (Ek.pair Ek.bool Ek.str)))))) hf (by decide) elt88 Try.underlying66 (by decide) hp (i := 12) rfl rfl rfl rfl (hp.sl (i := 0) rfl) hc60 ?_
     clear hf; intro a w v61 hf hp0; clear hp; have hp := hp0; clear hp0
     replace hp : Hp _ _ _ (_ :: _ :: _ :: _ :: _ :: _ :: _ :: _ :: _ :: _ :: _ :: _ :: Res.sl (Ek.pair (Ek.int .i64) (Ek.pair (Ek.int .i64) (Ek.pair (Ek.int .u8) (Ek.pair (Ek.int .u8) (Ek.pair Ek.bool Ek.str))))) 88 v61 (later5 ++ [((gt k0c_3 i6).1, (gt k0c_3 i6).2.1, (((gt k0c_3 i6).2.2).1, ((gt k0c_3 i6).2.2).2.1, ((gt k0c_3 i6).2.2).2.2.1, ((gt k0c_3 i6).2.2).2.2.2))]) :: ow) := hp
     refine st_assign hf rfl rfl (by decide) ?_
     clear hf; intro a ha hf; clear ha
     refine st_nil hf ?_
     refine th_n ?_
     refine wp_exit ?_
     refine th_e ?_
     refine ib_same ?_
     refine th_n ?_
     refine wp_reg ?_
     refine st_move hf rfl rfl (by decide) ?_
     clear hf; intro a ha hf; clear ha
     refine st_iadd hf (by decide) rfl rfl rfl ?_
     clear hf; intro a ha hf; clear ha
     refine st_assign hf rfl rfl (by decide) ?_
     clear hf; intro a ha hf; clear ha
     refine st_nil hf ?_
     obtain rfl := Option.some.inj h
     have hp : Hp _ _ _ (_ :: _ :: _ :: _ :: _ :: _ :: _ :: _ :: _ :: _ :: _ :: ow) := Hp.sel (pre := [Res.sl (Ek.pair (Ek.int .i64) (Ek.pair (Ek.int .i64) (Ek.pair (Ek.int .u8) (Ek.pair (Ek.int .u8) (Ek.pair Ek.bool Ek.str))))) 88 v58 ([((gt k0c_3 i6).1, (gt k0c_3 i6).2.1, (((gt k0c_3 i6).2.2).1, ((gt k0c_3 i6).2.2).2.1, ((gt k0c_3 i6).2.2).2.2.1, ((gt k0c_3 i6).2.2).2.2.2))]), Res.obj 88 v56 [.int .i64 ((gt k0c_3 i6).1), .int .i64 ((gt k0c_3 i6).2.1), .int .u8 (((gt k0c_3 i6).2.2).1), .int .u8 (((gt k0c_3 i6).2.2).2.1), .bool (((gt k0c_3 i6).2.2).2.2.1), .string (((gt k0c_3 i6).2.2).2.2.2)], Res.sl (Ek.pair Ek.str (Ek.pair Ek.bool (Ek.pair (Ek.int .i64) Ek.bool))) 81 v17 k0c_1c_4, Res.obj 79 vk0_s [.int .i64 k0c_1c_0, .int .i64 k0c_1c_1, .int .i64 k0c_1c_2, .int .i64 k0c_1c_3, v17], Res.map (fun x : ByteArray => Value.string x) v20 k0c_2c_2, Res.obj 74 vk0_r [.int .i64 k0c_2c_0, .int .i64 k0c_2c_1, v20], Res.sl (Ek.pair (Ek.int .i64) (Ek.pair (Ek.int .i64) (Ek.pair (Ek.int .u8) (Ek.pair (Ek.int .u8) (Ek.pair Ek.bool Ek.str))))) 88 v23 k0c_3, Res.sl (Ek.pair (Ek.int .i64) (Ek.pair (Ek.int .i64) (Ek.pair (Ek.int .u8) (Ek.pair (Ek.int .u8) (Ek.pair Ek.bool Ek.str))))) 88 v25 k0c_4, Res.map (fun x : Int => Value.int .i64 x) v27 k0c_7, Res.sl Ek.str 9 v29 k0c_11, Res.sl (Ek.int .i64) 3 v31 k0c_13, Res.obj 68 ok0 [.int .i64 k0c_0, vk0_s, vk0_r, v23, v25, vk0_picks, .int .i64 k0c_6, v27, .int .i64 k0c_8, .int .i64 k0c_9, .int .i64 k0c_10, v29, .bool k0c_12, v31], Res.sl (Ek.pair (Ek.int .i64) (Ek.pair (Ek.int .i64) (Ek.pair (Ek.int .u8) (Ek.pair (Ek.int .u8) (Ek.pair Ek.bool Ek.str))))) 88 v61 (later5 ++ [((gt k0c_3 i6).1, (gt k0c_3 i6).2.1, (((gt k0c_3 i6).2.2).1, ((gt k0c_3 i6).2.2).2.1, ((gt k0c_3 i6).2.2).2.2.1, ((gt k0c_3 i6).2.2).2.2.2))])]) (tail := ow) (rs' := [Res.sl (Ek.pair Ek.str (Ek.pair Ek.bool (Ek.pair (Ek.int .i64) Ek.bool))) 81 v17 k0c_1c_4, Res.obj 79 vk0_s [.int .i64 k0c_1c_0, .int .i64 k0c_1c_1, .int .i64 k0c_1c_2, .int .i64 k0c_1c_3, v17], Res.map (fun x : ByteArray => Value.string x) v20 k0c_2c_2, Res.obj 74 vk0_r [.int .i64 k0c_2c_0, .int .i64 k0c_2c_1, v20], Res.sl (Ek.pair (Ek.int .i64) (Ek.pair (Ek.int .i64) (Ek.pair (Ek.int .u8) (Ek.pair (Ek.int .u8) (Ek.pair Ek.bool Ek.str))))) 88 v23 k0c_3, Res.sl (Ek.pair (Ek.int .i64) (Ek.pair (Ek.int .i64) (Ek.pair (Ek.int .u8) (Ek.pair (Ek.int .u8) (Ek.pair Ek.bool Ek.str))))) 88 v25 k0c_4, Res.map (fun x : Int => Value.int .i64 x) v27 k0c_7, Res.sl Ek.str 9 v29 k0c_11, Res.sl (Ek.int .i64) 3 v31 k0c_13, Res.obj 68 ok0 [.int .i64 k0c_0, vk0_s, vk0_r, v23, v25, vk0_picks, .int .i64 k0c_6, v27, .int .i64 k0c_8, .int .i64 k0c_9, .int .i64 k0c_10, v29, .bool k0c_12, v31], Res.sl (Ek.pair (Ek.int .i64) (Ek.pair (Ek.int .i64) (Ek.pair (Ek.int .u8) (Ek.pair (Ek.int .u8) (Ek.pair Ek.bool Ek.str))))) 88 v61 (later5 ++ [((gt k0c_3 i6).1, (gt k0c_3 i6).2.1, (((gt k0c_3 i6).2.2).1, ((gt k0c_3 i6).2.2).2.1, ((gt k0c_3 i6).2.2).2.2.1, ((gt k0c_3 i6).2.2).2.2.2))])]) hp [2, 3, 4, 5, 6, 7, 8, 9, 10, 11, 12] (by decide) (by simp) rfl
     exact rnd_l ⟨_, _, _, _, _, _, _, _, hf.sub ⟨rfl, rfl, rfl, rfl, trivial⟩, hp⟩
    replace h := ifF h hb
    refine wp_skip ?_
    refine th_n ?_
    refine wp_seq ?_
    refine wp_seq ?_
    obtain ⟨S62, hp63, rd64, up65, bk66⟩ := Hp.lendO hp (i := 10) rfl
    obtain ⟨S67, hp68, rd69, up70, bk71⟩ := Hp.lendO hp63 (i := 0) rfl
    have rl72 := ((rd64.now hp63).mono up70)
    have rl73 := ((((hk0_picks.now hp).mono up65).now hp63).mono up70)
    have rl74 := rd69
    obtain ⟨q75, hcall76, h⟩ := bnd h
    refine wp_cutN (fun a w => Fr 190 a [(0, ok0), (1, .int .i64 now1), (5, v34), (6, .int .i64 i6), (7, optr v56 0), (51, .bool (decide ((IntKind.i64.wrap ((256 : Int) - k0c_0)) < (IntKind.i64.wrap (q75 - (gt k0c_3 i6).2.1)))))] ∧ Hp S w0 w (Res.obj 68 ok0 [.int .i64 k0c_0, vk0_s, vk0_r, v23, v25, vk0_picks, .int .i64 k0c_6, v27, .int .i64 k0c_8, .int .i64 k0c_9, .int .i64 k0c_10, v29, .bool k0c_12, v31] :: Res.obj 88 v56 [.int .i64 ((gt k0c_3 i6).1), .int .i64 ((gt k0c_3 i6).2.1), .int .u8 (((gt k0c_3 i6).2.2).1), .int .u8 (((gt k0c_3 i6).2.2).2.1), .bool (((gt k0c_3 i6).2.2).2.2.1), .string (((gt k0c_3 i6).2.2).2.2.2)] :: Res.obj 74 vk0_r [.int .i64 k0c_2c_0, .int .i64 k0c_2c_1, v20] :: Res.sl (Ek.pair Ek.str (Ek.pair Ek.bool (Ek.pair (Ek.int .i64) Ek.bool))) 81 v17 k0c_1c_4 :: Res.obj 79 vk0_s [.int .i64 k0c_1c_0, .int .i64 k0c_1c_1, .int .i64 k0c_1c_2, .int .i64 k0c_1c_3, v17] :: Res.map (fun x : ByteArray => Value.string x) v20 k0c_2c_2 :: Res.sl (Ek.pair (Ek.int .i64) (Ek.pair (Ek.int .i64) (Ek.pair (Ek.int .u8) (Ek.pair (Ek.int .u8) (Ek.pair Ek.bool Ek.str))))) 88 v23 k0c_3 :: Res.sl (Ek.pair (Ek.int .i64) (Ek.pair (Ek.int .i64) (Ek.pair (Ek.int .u8) (Ek.pair (Ek.int .u8) (Ek.pair Ek.bool Ek.str))))) 88 v25 k0c_4 :: Res.map (fun x : Int => Value.int .i64 x) v27 k0c_7 :: Res.sl Ek.str 9 v29 k0c_11 :: Res.sl (Ek.int .i64) 3 v31 k0c_13 :: Res.sl (Ek.pair (Ek.int .i64) (Ek.pair (Ek.int .i64) (Ek.pair (Ek.int .u8) (Ek.pair (Ek.int .u8) (Ek.pair Ek.bool Ek.str))))) 88 v34 later5 :: ow)) ?_ ?_
    ·
     have hp := hp68.same (Same.drew w)
     refine dr_begin' _ (fun w' => ∃ l, Hp S67 w w' l) [] (by kernel_rfl) ?_
     refine dr_takeK 0 (ok0) rfl hf rfl (fun w ⟨_, hp⟩ => ?_) ⟨_, hp⟩ ?_
     · exact st_move hf rfl rfl (by decide) tk
     clear hf; intro a hf
     refine dr_nilV 1 rfl (by kernel_rfl) (by kernel_rfl) (by kernel_rfl) hf (by decide) rfl rfl (rl72.ob hp) ?_
     clear hf; intro a hf
     refine dr_takeK 2 (optr ok0 2) rfl hf rfl (fun w ⟨_, hp⟩ => ?_) ⟨_, hp⟩ ?_
     · exact st_fa (o' := 2) hf (by decide) (off := 2) (sz := 1) (by kernel_rfl) (by decide) rfl rfl (rl72.ob hp) rfl tk
     clear hf; intro a hf
     refine dr_takeK 3 (vk0_r) rfl hf rfl (fun w ⟨_, hp⟩ => ?_) ⟨_, hp⟩ ?_
     · exact st_ldO (u := vk0_r) hf (by decide) pl23 rfl rfl (rl72.ob hp) rfl tk
     clear hf; intro a hf
     refine dr_takeK 5 (optr v56 1) rfl hf rfl (fun w ⟨_, hp⟩ => ?_) ⟨_, hp⟩ ?_
     · exact st_fa (o' := 1) hf (by decide) (off := 1) (sz := 1) (by kernel_rfl) (by decide) rfl rfl (rl74.ob hp) rfl tk
     clear hf; intro a hf
     refine dr_takeK 6 (.int .i64 ((gt k0c_3 i6).2.1)) rfl hf rfl (fun w ⟨_, hp⟩ => ?_) ⟨_, hp⟩ ?_
     · exact st_ldO (u := .int .i64 ((gt k0c_3 i6).2.1)) hf (by decide) pl3 rfl rfl (rl74.ob hp) rfl tk
     clear hf; intro a hf
     refine dr_takeK 8 (ok0) rfl hf rfl (fun w ⟨_, hp⟩ => ?_) ⟨_, hp⟩ ?_
     · exact st_move hf rfl rfl (by decide) tk
     clear hf; intro a hf
     refine dr_nilV 9 rfl (by kernel_rfl) (by kernel_rfl) (by kernel_rfl) hf (by decide) rfl rfl (rl72.ob hp) ?_
     clear hf; intro a hf
     refine dr_takeK 10 (optr ok0 0) rfl hf rfl (fun w ⟨_, hp⟩ => ?_) ⟨_, hp⟩ ?_
     · exact st_fa (o' := 0) hf (by decide) (off := 0) (sz := 1) (by kernel_rfl) (by decide) rfl rfl (rl72.ob hp) rfl tk
     clear hf; intro a hf
     refine dr_takeK 11 (.int .i64 k0c_0) rfl hf rfl (fun w ⟨_, hp⟩ => ?_) ⟨_, hp⟩ ?_
     · exact st_ldO (u := .int .i64 k0c_0) hf (by decide) pl3 rfl rfl (rl72.ob hp) rfl tk
     clear hf; intro a hf
     refine dr_takeK 12 (.int .i64 (IntKind.i64.wrap ((256 : Int) - k0c_0))) rfl hf rfl (fun w ⟨_, hp⟩ => ?_) ⟨_, hp⟩ ?_
     · exact st_isub hf (by decide) rfl rfl rfl tk
     clear hf; intro a hf
     refine dr_one 4 rfl (by kernel_rfl) ?_
     obtain ⟨S77, hp78, rd79, up80, bk81⟩ := Hp.lendO hp (i := 3) rfl
     refine st_call hf (by decide) Try.func14 rfl rfl rfl rfl rfl (f_again_Receiver_Handed_c hp78 _ _ _ _ rd79 hcall76) ?_
     rintro _ w ⟨rfl, hp0⟩
     have hp0 := bk81 _ _ hp0
     clear hp; have hp := hp0; clear hp0
     replace hp : Hp _ _ _ (_ :: _ :: _ :: _ :: _ :: _ :: _ :: _ :: _ :: Res.sl (Ek.pair (Ek.int .i64) (Ek.pair (Ek.int .i64) (Ek.pair (Ek.int .u8) (Ek.pair (Ek.int .u8) (Ek.pair Ek.bool Ek.str))))) 88 v34 later5 :: ow) := hp
     refine ⟨_, rfl, ?_⟩
     clear hf; intro a hf
     refine nx hf (fun _ _ => ⟨_, hp⟩) ?_
     refine dr_takeK 7 (.int .i64 (IntKind.i64.wrap (q75 - (gt k0c_3 i6).2.1))) rfl hf rfl (fun w ⟨_, hp⟩ => ?_) ⟨_, hp⟩ ?_
     · exact st_isub hf (by decide) rfl rfl rfl tk
     clear hf; intro a hf
     refine dr_takeK 13 (.bool (decide ((IntKind.i64.wrap ((256 : Int) - k0c_0)) < (IntKind.i64.wrap (q75 - (gt k0c_3 i6).2.1))))) rfl hf rfl (fun w ⟨_, hp⟩ => ?_) ⟨_, hp⟩ ?_
     · exact st_igtr hf (by decide) rfl rfl rfl tk
     clear hf; intro a hf
     refine dr_end (by kernel_rfl) ?_ _
     have hp := bk71 _ _ hp
     have hp := bk66 _ _ hp
     exact ⟨hf.sub ⟨rfl, rfl, rfl, rfl, rfl, rfl, trivial⟩, hp⟩
    rintro a w ⟨hf, hp⟩
    refine th_n ?_
    refine wp_if hf rfl (fun hb => ?_) (fun hb => ?_)
    ·
     replace h := ifT h hb
     refine wp_seq ?_
     refine wp_reg ?_
     refine st_move hf rfl rfl (by decide) ?_
     clear hf; intro a ha hf; clear ha
     refine st_nilV hf (by decide) rfl rfl (hp.ob (i := 0) rfl) ?_
     clear hf; intro a ha hf; clear ha
     refine st_fa (o' := 12) hf (by decide) (off := 12) (sz := 1) (by kernel_rfl) (by decide) rfl rfl (hp.ob (i := 0) rfl) rfl ?_
     clear hf; intro a ha hf; clear ha
     refine st_stO (us := [.bool true]) hf hp (i := 0) rfl rfl rfl rfl rfl (by rfl) (by kernel_rfl) (Nat.le_of_ble_eq_true rfl) ?_
     clear hf; intro a w hf hp0; clear hp; have hp := hp0; clear hp0
     replace hp : Hp _ _ _ (Res.obj 68 ok0 [.int .i64 k0c_0, vk0_s, vk0_r, v23, v25, vk0_picks, .int .i64 k0c_6, v27, .int .i64 k0c_8, .int .i64 k0c_9, .int .i64 k0c_10, v29, .bool true, v31] :: Res.obj 88 v56 [.int .i64 ((gt k0c_3 i6).1), .int .i64 ((gt k0c_3 i6).2.1), .int .u8 (((gt k0c_3 i6).2.2).1), .int .u8 (((gt k0c_3 i6).2.2).2.1), .bool (((gt k0c_3 i6).2.2).2.2.1), .string (((gt k0c_3 i6).2.2).2.2.2)] :: _ :: _ :: _ :: _ :: _ :: _ :: _ :: _ :: _ :: _ :: ow) := hp
     refine st_nil hf ?_
     refine th_n ?_
     refine wp_seq ?_
     refine wp_reg ?_
     refine st_assign hf rfl rfl (by decide) ?_
     clear hf; intro a ha hf; clear ha
     refine st_nil hf ?_
     refine th_n ?_
     refine wp_ret ?_
     refine th_r ?_
     refine ib_r ?_
     refine th_r ?_
     have hp : Hp _ _ _ (_ :: _ :: _ :: _ :: _ :: _ :: _ :: _ :: _ :: _ :: _ :: _ :: ow) := Hp.sel (pre := [Res.obj 68 ok0 [.int .i64 k0c_0, vk0_s, vk0_r, v23, v25, vk0_picks, .int .i64 k0c_6, v27, .int .i64 k0c_8, .int .i64 k0c_9, .int .i64 k0c_10, v29, .bool true, v31], Res.obj 88 v56 [.int .i64 ((gt k0c_3 i6).1), .int .i64 ((gt k0c_3 i6).2.1), .int .u8 (((gt k0c_3 i6).2.2).1), .int .u8 (((gt k0c_3 i6).2.2).2.1), .bool (((gt k0c_3 i6).2.2).2.2.1), .string (((gt k0c_3 i6).2.2).2.2.2)], Res.obj 74 vk0_r [.int .i64 k0c_2c_0, .int .i64 k0c_2c_1, v20], Res.sl (Ek.pair Ek.str (Ek.pair Ek.bool (Ek.pair (Ek.int .i64) Ek.bool))) 81 v17 k0c_1c_4, Res.obj 79 vk0_s [.int .i64 k0c_1c_0, .int .i64 k0c_1c_1, .int .i64 k0c_1c_2, .int .i64 k0c_1c_3, v17], Res.map (fun x : ByteArray => Value.string x) v20 k0c_2c_2, Res.sl (Ek.pair (Ek.int .i64) (Ek.pair (Ek.int .i64) (Ek.pair (Ek.int .u8) (Ek.pair (Ek.int .u8) (Ek.pair Ek.bool Ek.str))))) 88 v23 k0c_3, Res.sl (Ek.pair (Ek.int .i64) (Ek.pair (Ek.int .i64) (Ek.pair (Ek.int .u8) (Ek.pair (Ek.int .u8) (Ek.pair Ek.bool Ek.str))))) 88 v25 k0c_4, Res.map (fun x : Int => Value.int .i64 x) v27 k0c_7, Res.sl Ek.str 9 v29 k0c_11, Res.sl (Ek.int .i64) 3 v31 k0c_13, Res.sl (Ek.pair (Ek.int .i64) (Ek.pair (Ek.int .i64) (Ek.pair (Ek.int .u8) (Ek.pair (Ek.int .u8) (Ek.pair Ek.bool Ek.str))))) 88 v34 later5]) (tail := ow) (rs' := [Res.obj 74 vk0_r [.int .i64 k0c_2c_0, .int .i64 k0c_2c_1, v20], Res.map (fun x : ByteArray => Value.string x) v20 k0c_2c_2, Res.obj 68 ok0 [.int .i64 k0c_0, vk0_s, vk0_r, v23, v25, vk0_picks, .int .i64 k0c_6, v27, .int .i64 k0c_8, .int .i64 k0c_9, .int .i64 k0c_10, v29, .bool true, v31], Res.obj 88 v56 [.int .i64 ((gt k0c_3 i6).1), .int .i64 ((gt k0c_3 i6).2.1), .int .u8 (((gt k0c_3 i6).2.2).1), .int .u8 (((gt k0c_3 i6).2.2).2.1), .bool (((gt k0c_3 i6).2.2).2.2.1), .string (((gt k0c_3 i6).2.2).2.2.2)], Res.sl (Ek.pair Ek.str (Ek.pair Ek.bool (Ek.pair (Ek.int .i64) Ek.bool))) 81 v17 k0c_1c_4, Res.obj 79 vk0_s [.int .i64 k0c_1c_0, .int .i64 k0c_1c_1, .int .i64 k0c_1c_2, .int .i64 k0c_1c_3, v17], Res.sl (Ek.pair (Ek.int .i64) (Ek.pair (Ek.int .i64) (Ek.pair (Ek.int .u8) (Ek.pair (Ek.int .u8) (Ek.pair Ek.bool Ek.str))))) 88 v23 k0c_3, Res.sl (Ek.pair (Ek.int .i64) (Ek.pair (Ek.int .i64) (Ek.pair (Ek.int .u8) (Ek.pair (Ek.int .u8) (Ek.pair Ek.bool Ek.str))))) 88 v25 k0c_4, Res.map (fun x : Int => Value.int .i64 x) v27 k0c_7, Res.sl Ek.str 9 v29 k0c_11, Res.sl (Ek.int .i64) 3 v31 k0c_13, Res.sl (Ek.pair (Ek.int .i64) (Ek.pair (Ek.int .i64) (Ek.pair (Ek.int .u8) (Ek.pair (Ek.int .u8) (Ek.pair Ek.bool Ek.str))))) 88 v34 later5]) hp [2, 5, 0, 1, 3, 4, 6, 7, 8, 9, 10, 11] (by decide) (by simp) rfl
     replace hp : Hp _ _ _ (Res.opt pk74 vk0_r (some (k0c_2c_0, k0c_2c_1, k0c_2c_2)) :: _ :: _ :: _ :: _ :: _ :: _ :: _ :: _ :: _ :: _ :: ow) := pk74_out (s := (k0c_2c_0, k0c_2c_1, k0c_2c_2)) (u := v20) hp
     have hp : Hp _ _ _ (_ :: _ :: _ :: _ :: _ :: _ :: _ :: _ :: _ :: _ :: _ :: ow) := Hp.sel (pre := [Res.opt pk74 vk0_r (some (k0c_2c_0, k0c_2c_1, k0c_2c_2)), Res.obj 68 ok0 [.int .i64 k0c_0, vk0_s, vk0_r, v23, v25, vk0_picks, .int .i64 k0c_6, v27, .int .i64 k0c_8, .int .i64 k0c_9, .int .i64 k0c_10, v29, .bool true, v31], Res.obj 88 v56 [.int .i64 ((gt k0c_3 i6).1), .int .i64 ((gt k0c_3 i6).2.1), .int .u8 (((gt k0c_3 i6).2.2).1), .int .u8 (((gt k0c_3 i6).2.2).2.1), .bool (((gt k0c_3 i6).2.2).2.2.1), .string (((gt k0c_3 i6).2.2).2.2.2)], Res.sl (Ek.pair Ek.str (Ek.pair Ek.bool (Ek.pair (Ek.int .i64) Ek.bool))) 81 v17 k0c_1c_4, Res.obj 79 vk0_s [.int .i64 k0c_1c_0, .int .i64 k0c_1c_1, .int .i64 k0c_1c_2, .int .i64 k0c_1c_3, v17], Res.sl (Ek.pair (Ek.int .i64) (Ek.pair (Ek.int .i64) (Ek.pair (Ek.int .u8) (Ek.pair (Ek.int .u8) (Ek.pair Ek.bool Ek.str))))) 88 v23 k0c_3, Res.sl (Ek.pair (Ek.int .i64) (Ek.pair (Ek.int .i64) (Ek.pair (Ek.int .u8) (Ek.pair (Ek.int .u8) (Ek.pair Ek.bool Ek.str))))) 88 v25 k0c_4, Res.map (fun x : Int => Value.int .i64 x) v27 k0c_7, Res.sl Ek.str 9 v29 k0c_11, Res.sl (Ek.int .i64) 3 v31 k0c_13, Res.sl (Ek.pair (Ek.int .i64) (Ek.pair (Ek.int .i64) (Ek.pair (Ek.int .u8) (Ek.pair (Ek.int .u8) (Ek.pair Ek.bool Ek.str))))) 88 v34 later5]) (tail := ow) (rs' := [Res.obj 79 vk0_s [.int .i64 k0c_1c_0, .int .i64 k0c_1c_1, .int .i64 k0c_1c_2, .int .i64 k0c_1c_3, v17], Res.sl (Ek.pair Ek.str (Ek.pair Ek.bool (Ek.pair (Ek.int .i64) Ek.bool))) 81 v17 k0c_1c_4, Res.opt pk74 vk0_r (some (k0c_2c_0, k0c_2c_1, k0c_2c_2)), Res.obj 68 ok0 [.int .i64 k0c_0, vk0_s, vk0_r, v23, v25, vk0_picks, .int .i64 k0c_6, v27, .int .i64 k0c_8, .int .i64 k0c_9, .int .i64 k0c_10, v29, .bool true, v31], Res.obj 88 v56 [.int .i64 ((gt k0c_3 i6).1), .int .i64 ((gt k0c_3 i6).2.1), .int .u8 (((gt k0c_3 i6).2.2).1), .int .u8 (((gt k0c_3 i6).2.2).2.1), .bool (((gt k0c_3 i6).2.2).2.2.1), .string (((gt k0c_3 i6).2.2).2.2.2)], Res.sl (Ek.pair (Ek.int .i64) (Ek.pair (Ek.int .i64) (Ek.pair (Ek.int .u8) (Ek.pair (Ek.int .u8) (Ek.pair Ek.bool Ek.str))))) 88 v23 k0c_3, Res.sl (Ek.pair (Ek.int .i64) (Ek.pair (Ek.int .i64) (Ek.pair (Ek.int .u8) (Ek.pair (Ek.int .u8) (Ek.pair Ek.bool Ek.str))))) 88 v25 k0c_4, Res.map (fun x : Int => Value.int .i64 x) v27 k0c_7, Res.sl Ek.str 9 v29 k0c_11, Res.sl (Ek.int .i64) 3 v31 k0c_13, Res.sl (Ek.pair (Ek.int .i64) (Ek.pair (Ek.int .i64) (Ek.pair (Ek.int .u8) (Ek.pair (Ek.int .u8) (Ek.pair Ek.bool Ek.str))))) 88 v34 later5]) hp [4, 3, 0, 1, 2, 5, 6, 7, 8, 9, 10] (by decide) (by simp) rfl
     replace hp : Hp _ _ _ (Res.opt pk79 vk0_s (some (k0c_1c_0, k0c_1c_1, k0c_1c_2, k0c_1c_3, k0c_1c_4)) :: _ :: _ :: _ :: _ :: _ :: _ :: _ :: _ :: _ :: ow) := pk79_out (s := (k0c_1c_0, k0c_1c_1, k0c_1c_2, k0c_1c_3, k0c_1c_4)) (u := v17) hp
     obtain rfl := Option.some.inj h
     have hp : Hp _ _ _ (_ :: _ :: _ :: _ :: _ :: _ :: _ :: _ :: ow) := Hp.sel (pre := [Res.opt pk79 vk0_s (some (k0c_1c_0, k0c_1c_1, k0c_1c_2, k0c_1c_3, k0c_1c_4)), Res.opt pk74 vk0_r (some (k0c_2c_0, k0c_2c_1, k0c_2c_2)), Res.obj 68 ok0 [.int .i64 k0c_0, vk0_s, vk0_r, v23, v25, vk0_picks, .int .i64 k0c_6, v27, .int .i64 k0c_8, .int .i64 k0c_9, .int .i64 k0c_10, v29, .bool true, v31], Res.obj 88 v56 [.int .i64 ((gt k0c_3 i6).1), .int .i64 ((gt k0c_3 i6).2.1), .int .u8 (((gt k0c_3 i6).2.2).1), .int .u8 (((gt k0c_3 i6).2.2).2.1), .bool (((gt k0c_3 i6).2.2).2.2.1), .string (((gt k0c_3 i6).2.2).2.2.2)], Res.sl (Ek.pair (Ek.int .i64) (Ek.pair (Ek.int .i64) (Ek.pair (Ek.int .u8) (Ek.pair (Ek.int .u8) (Ek.pair Ek.bool Ek.str))))) 88 v23 k0c_3, Res.sl (Ek.pair (Ek.int .i64) (Ek.pair (Ek.int .i64) (Ek.pair (Ek.int .u8) (Ek.pair (Ek.int .u8) (Ek.pair Ek.bool Ek.str))))) 88 v25 k0c_4, Res.map (fun x : Int => Value.int .i64 x) v27 k0c_7, Res.sl Ek.str 9 v29 k0c_11, Res.sl (Ek.int .i64) 3 v31 k0c_13, Res.sl (Ek.pair (Ek.int .i64) (Ek.pair (Ek.int .i64) (Ek.pair (Ek.int .u8) (Ek.pair (Ek.int .u8) (Ek.pair Ek.bool Ek.str))))) 88 v34 later5]) (tail := ow) (rs' := [Res.opt pk79 vk0_s (some (k0c_1c_0, k0c_1c_1, k0c_1c_2, k0c_1c_3, k0c_1c_4)), Res.opt pk74 vk0_r (some (k0c_2c_0, k0c_2c_1, k0c_2c_2)), Res.sl (Ek.pair (Ek.int .i64) (Ek.pair (Ek.int .i64) (Ek.pair (Ek.int .u8) (Ek.pair (Ek.int .u8) (Ek.pair Ek.bool Ek.str))))) 88 v23 k0c_3, Res.sl (Ek.pair (Ek.int .i64) (Ek.pair (Ek.int .i64) (Ek.pair (Ek.int .u8) (Ek.pair (Ek.int .u8) (Ek.pair Ek.bool Ek.str))))) 88 v25 k0c_4, Res.map (fun x : Int => Value.int .i64 x) v27 k0c_7, Res.sl Ek.str 9 v29 k0c_11, Res.sl (Ek.int .i64) 3 v31 k0c_13, Res.obj 68 ok0 [.int .i64 k0c_0, vk0_s, vk0_r, v23, v25, vk0_picks, .int .i64 k0c_6, v27, .int .i64 k0c_8, .int .i64 k0c_9, .int .i64 k0c_10, v29, .bool true, v31]]) hp [0, 1, 4, 5, 6, 7, 8, 2] (by decide) (by simp) rfl
     exact rnd_r (by simp) ⟨rfl, ⟨_, _, _, _, _, hf.sub ⟨rfl, trivial⟩, hp⟩⟩
    replace h := ifF h hb
    refine wp_skip ?_
    refine th_n ?_
    refine wp_seq ?_
    obtain ⟨S82, hp83, rd84, up85, bk86⟩ := Hp.lendO hp (i := 0) rfl
    obtain ⟨S87, hp88, rd89, up90, bk91⟩ := Hp.lendO hp83 (i := 0) rfl
    have rl92 := ((rd84.now hp83).mono up90)
    have rl93 := ((((hk0_picks.now hp).mono up85).now hp83).mono up90)
    have rl94 := rd89
    obtain ⟨q95, hcall96, h⟩ := bnd h
    refine wp_cutN (fun a w => ∃ (v98 : Value) (v99 : Value) (v102 : Value), Fr 190 a [(0, ok0), (1, .int .i64 now1), (5, v34), (6, .int .i64 i6), (8, v98), (9, optr v102 0), (10, .int .i64 q95.2.2.1)] ∧ Hp S w0 w (Res.obj 68 ok0 [.int .i64 k0c_0, vk0_s, vk0_r, v23, v25, vk0_picks, .int .i64 k0c_6, v27, .int .i64 k0c_8, .int .i64 k0c_9, .int .i64 k0c_10, v29, .bool k0c_12, v31] :: Res.obj 88 v56 [.int .i64 ((gt k0c_3 i6).1), .int .i64 ((gt k0c_3 i6).2.1), .int .u8 (((gt k0c_3 i6).2.2).1), .int .u8 (((gt k0c_3 i6).2.2).2.1), .bool (((gt k0c_3 i6).2.2).2.2.1), .string (((gt k0c_3 i6).2.2).2.2.2)] :: Res.obj 31 v102 [.int .u8 q95.2.1.1, .int .u8 q95.2.1.2.1, .bool q95.2.1.2.2.1, .string q95.2.1.2.2.2] :: Res.sl Ek.str 9 v98 q95.1 :: Res.map (fun x : ByteArray => Value.string x) v99 q95.2.2.2.2.2 :: Res.obj 74 vk0_r [.int .i64 q95.2.2.2.1, .int .i64 q95.2.2.2.2.1, v99] :: Res.sl (Ek.pair Ek.str (Ek.pair Ek.bool (Ek.pair (Ek.int .i64) Ek.bool))) 81 v17 k0c_1c_4 :: Res.obj 79 vk0_s [.int .i64 k0c_1c_0, .int .i64 k0c_1c_1, .int .i64 k0c_1c_2, .int .i64 k0c_1c_3, v17] :: Res.sl (Ek.pair (Ek.int .i64) (Ek.pair (Ek.int .i64) (Ek.pair (Ek.int .u8) (Ek.pair (Ek.int .u8) (Ek.pair Ek.bool Ek.str))))) 88 v23 k0c_3 :: Res.sl (Ek.pair (Ek.int .i64) (Ek.pair (Ek.int .i64) (Ek.pair (Ek.int .u8) (Ek.pair (Ek.int .u8) (Ek.pair Ek.bool Ek.str))))) 88 v25 k0c_4 :: Res.map (fun x : Int => Value.int .i64 x) v27 k0c_7 :: Res.sl Ek.str 9 v29 k0c_11 :: Res.sl (Ek.int .i64) 3 v31 k0c_13 :: Res.sl (Ek.pair (Ek.int .i64) (Ek.pair (Ek.int .i64) (Ek.pair (Ek.int .u8) (Ek.pair (Ek.int .u8) (Ek.pair Ek.bool Ek.str))))) 88 v34 later5 :: ow)) ?_ ?_
    ·
     have hp := hp88.same (Same.drew w)
     refine dr_begin' _ (fun w' => ∃ l, Hp S87 w w' l) [] (by kernel_rfl) ?_
     refine dr_takeK 0 (ok0) rfl hf rfl (fun w ⟨_, hp⟩ => ?_) ⟨_, hp⟩ ?_
     · exact st_move hf rfl rfl (by decide) tk
     clear hf; intro a hf
     refine dr_nilV 1 rfl (by kernel_rfl) (by kernel_rfl) (by kernel_rfl) hf (by decide) rfl rfl (rl92.ob hp) ?_
     clear hf; intro a hf
     refine dr_takeK 2 (optr ok0 2) rfl hf rfl (fun w ⟨_, hp⟩ => ?_) ⟨_, hp⟩ ?_
     · exact st_fa (o' := 2) hf (by decide) (off := 2) (sz := 1) (by kernel_rfl) (by decide) rfl rfl (rl92.ob hp) rfl tk
     clear hf; intro a hf
     refine dr_takeK 3 (vk0_r) rfl hf rfl (fun w ⟨_, hp⟩ => ?_) ⟨_, hp⟩ ?_
     · exact st_ldO (u := vk0_r) hf (by decide) pl23 rfl rfl (rl92.ob hp) rfl tk
     clear hf; intro a hf
     refine dr_takeK 4 (optr v56 2) rfl hf rfl (fun w ⟨_, hp⟩ => ?_) ⟨_, hp⟩ ?_
     · exact st_fa (o' := 2) hf (by decide) (off := 2) (sz := 4) (by kernel_rfl) (by decide) rfl rfl (rl94.ob hp) rfl tk
     clear hf; intro a hf
     refine dr_takeK 5 (.agg #[.int .u8 (((gt k0c_3 i6).2.2).1), .int .u8 (((gt k0c_3 i6).2.2).2.1), .bool (((gt k0c_3 i6).2.2).2.2.1), .string (((gt k0c_3 i6).2.2).2.2.2)]) rfl hf rfl (fun w ⟨_, hp⟩ => ?_) ⟨_, hp⟩ ?_
     · exact st_ldOA (m := 4) (us := [.int .u8 (((gt k0c_3 i6).2.2).1), .int .u8 (((gt k0c_3 i6).2.2).2.1), .bool (((gt k0c_3 i6).2.2).2.2.1), .string (((gt k0c_3 i6).2.2).2.2.2)]) hf (by decide) (by kernel_rfl) rfl rfl (rl94.ob hp) rfl rfl tk
     clear hf; intro a hf
     refine dr_two 6 11 rfl rfl (by kernel_rfl) ?_ ?_
     ·
      have hp97 : Hp _ _ _ (Res.map (fun x : ByteArray => Value.string x) v20 k0c_2c_2 :: Res.obj 74 vk0_r [.int .i64 k0c_2c_0, .int .i64 k0c_2c_1, v20] :: Res.sl (Ek.pair Ek.str (Ek.pair Ek.bool (Ek.pair (Ek.int .i64) Ek.bool))) 81 v17 k0c_1c_4 :: Res.obj 79 vk0_s [.int .i64 k0c_1c_0, .int .i64 k0c_1c_1, .int .i64 k0c_1c_2, .int .i64 k0c_1c_3, v17] :: Res.sl (Ek.pair (Ek.int .i64) (Ek.pair (Ek.int .i64) (Ek.pair (Ek.int .u8) (Ek.pair (Ek.int .u8) (Ek.pair Ek.bool Ek.str))))) 88 v23 k0c_3 :: Res.sl (Ek.pair (Ek.int .i64) (Ek.pair (Ek.int .i64) (Ek.pair (Ek.int .u8) (Ek.pair (Ek.int .u8) (Ek.pair Ek.bool Ek.str))))) 88 v25 k0c_4 :: Res.map (fun x : Int => Value.int .i64 x) v27 k0c_7 :: Res.sl Ek.str 9 v29 k0c_11 :: Res.sl (Ek.int .i64) 3 v31 k0c_13 :: Res.sl (Ek.pair (Ek.int .i64) (Ek.pair (Ek.int .i64) (Ek.pair (Ek.int .u8) (Ek.pair (Ek.int .u8) (Ek.pair Ek.bool Ek.str))))) 88 v34 later5 :: ow) := Hp.sel (pre := [Res.obj 74 vk0_r [.int .i64 k0c_2c_0, .int .i64 k0c_2c_1, v20], Res.sl (Ek.pair Ek.str (Ek.pair Ek.bool (Ek.pair (Ek.int .i64) Ek.bool))) 81 v17 k0c_1c_4, Res.obj 79 vk0_s [.int .i64 k0c_1c_0, .int .i64 k0c_1c_1, .int .i64 k0c_1c_2, .int .i64 k0c_1c_3, v17], Res.map (fun x : ByteArray => Value.string x) v20 k0c_2c_2, Res.sl (Ek.pair (Ek.int .i64) (Ek.pair (Ek.int .i64) (Ek.pair (Ek.int .u8) (Ek.pair (Ek.int .u8) (Ek.pair Ek.bool Ek.str))))) 88 v23 k0c_3, Res.sl (Ek.pair (Ek.int .i64) (Ek.pair (Ek.int .i64) (Ek.pair (Ek.int .u8) (Ek.pair (Ek.int .u8) (Ek.pair Ek.bool Ek.str))))) 88 v25 k0c_4, Res.map (fun x : Int => Value.int .i64 x) v27 k0c_7, Res.sl Ek.str 9 v29 k0c_11, Res.sl (Ek.int .i64) 3 v31 k0c_13, Res.sl (Ek.pair (Ek.int .i64) (Ek.pair (Ek.int .i64) (Ek.pair (Ek.int .u8) (Ek.pair (Ek.int .u8) (Ek.pair Ek.bool Ek.str))))) 88 v34 later5]) (tail := ow) (rs' := [Res.map (fun x : ByteArray => Value.string x) v20 k0c_2c_2, Res.obj 74 vk0_r [.int .i64 k0c_2c_0, .int .i64 k0c_2c_1, v20], Res.sl (Ek.pair Ek.str (Ek.pair Ek.bool (Ek.pair (Ek.int .i64) Ek.bool))) 81 v17 k0c_1c_4, Res.obj 79 vk0_s [.int .i64 k0c_1c_0, .int .i64 k0c_1c_1, .int .i64 k0c_1c_2, .int .i64 k0c_1c_3, v17], Res.sl (Ek.pair (Ek.int .i64) (Ek.pair (Ek.int .i64) (Ek.pair (Ek.int .u8) (Ek.pair (Ek.int .u8) (Ek.pair Ek.bool Ek.str))))) 88 v23 k0c_3, Res.sl (Ek.pair (Ek.int .i64) (Ek.pair (Ek.int .i64) (Ek.pair (Ek.int .u8) (Ek.pair (Ek.int .u8) (Ek.pair Ek.bool Ek.str))))) 88 v25 k0c_4, Res.map (fun x : Int => Value.int .i64 x) v27 k0c_7, Res.sl Ek.str 9 v29 k0c_11, Res.sl (Ek.int .i64) 3 v31 k0c_13, Res.sl (Ek.pair (Ek.int .i64) (Ek.pair (Ek.int .i64) (Ek.pair (Ek.int .u8) (Ek.pair (Ek.int .u8) (Ek.pair Ek.bool Ek.str))))) 88 v34 later5]) hp [3, 0, 1, 2, 4, 5, 6, 7, 8, 9] (by decide) (by simp) rfl
      refine st_call hf (by decide) Try.func10 rfl rfl rfl rfl rfl (f_again_Receiver_Take_c _ _ _ _ _ _ _ _ _ hp97 hcall96) ?_
      rintro _ w ⟨v98, v99, rfl, hp0⟩
      clear hp; have hp := hp0; clear hp0
      replace hp : Hp _ _ _ (Res.sl Ek.str 9 v98 q95.1 :: Res.map (fun x : ByteArray => Value.string x) v99 q95.2.2.2.2.2 :: Res.obj 74 vk0_r [.int .i64 q95.2.2.2.1, .int .i64 q95.2.2.2.2.1, v99] :: Res.sl (Ek.pair Ek.str (Ek.pair Ek.bool (Ek.pair (Ek.int .i64) Ek.bool))) 81 v17 k0c_1c_4 :: Res.obj 79 vk0_s [.int .i64 k0c_1c_0, .int .i64 k0c_1c_1, .int .i64 k0c_1c_2, .int .i64 k0c_1c_3, v17] :: _ :: _ :: _ :: _ :: _ :: Res.sl (Ek.pair (Ek.int .i64) (Ek.pair (Ek.int .i64) (Ek.pair (Ek.int .u8) (Ek.pair (Ek.int .u8) (Ek.pair Ek.bool Ek.str))))) 88 v34 later5 :: ow) := hp
      refine ⟨_, rfl, ?_⟩
      clear hf; intro a hf
      refine nx hf (fun _ _ => ⟨_, hp⟩) ?_
      refine dr_takeK 7 (.tuple #[v98, .agg #[.int .u8 q95.2.1.1, .int .u8 q95.2.1.2.1, .bool q95.2.1.2.2.1, .string q95.2.1.2.2.2], .int .i64 q95.2.2.1]) rfl hf rfl (fun w ⟨_, hp⟩ => ?_) ⟨_, hp⟩ ?_
      · exact st_move hf rfl rfl (by decide) tk
      clear hf; intro a hf
      refine dr_takeK 8 (v98) rfl hf rfl (fun w ⟨_, hp⟩ => ?_) ⟨_, hp⟩ ?_
      · exact st_extract hf (by decide) rfl rfl rfl tk
      clear hf; intro a hf
      refine dr_takeK 9 (.agg #[.int .u8 q95.2.1.1, .int .u8 q95.2.1.2.1, .bool q95.2.1.2.2.1, .string q95.2.1.2.2.2]) rfl hf rfl (fun w ⟨_, hp⟩ => ?_) ⟨_, hp⟩ ?_
      · exact st_extract hf (by decide) rfl rfl rfl tk
      clear hf; intro a hf
      refine dr_takeK 10 (.int .i64 q95.2.2.1) rfl hf rfl (fun w ⟨_, hp⟩ => ?_) ⟨_, hp⟩ ?_
      · exact st_extract hf (by decide) rfl rfl rfl tk
      clear hf; intro a hf
      refine dr_one 11 rfl (by kernel_rfl) ?_
      refine st_alloc (cs := [.int .u8 (0 : Int), .int .u8 (0 : Int), .bool false, .string ByteArray.empty]) (zv := .agg #[.int .u8 (0 : Int), .int .u8 (0 : Int), .bool false, .string ByteArray.empty]) hf (by decide) (by kernel_rfl) rfl hp rfl ?_
      clear hf; intro a w v102 hf hp0; clear hp; have hp := hp0; clear hp0
      replace hp : Hp _ _ _ (Res.obj 31 v102 [.int .u8 (0 : Int), .int .u8 (0 : Int), .bool false, .string ByteArray.empty] :: _ :: _ :: _ :: _ :: _ :: _ :: _ :: _ :: _ :: _ :: _ :: ow) := hp
      refine nx hf (fun _ _ => ⟨_, hp⟩) ?_
      refine dr_takeK 12 (v98) rfl hf rfl (fun w ⟨_, hp⟩ => ?_) ⟨_, hp⟩ ?_
      · exact st_assign hf rfl rfl (by decide) tk
      clear hf; intro a hf
      refine dr_one 13 rfl (by kernel_rfl) ?_
      refine st_stO (us := [.int .u8 q95.2.1.1, .int .u8 q95.2.1.2.1, .bool q95.2.1.2.2.1, .string q95.2.1.2.2.2]) hf hp (i := 0) rfl rfl rfl rfl rfl (by rfl) (by kernel_rfl) (Nat.le_of_ble_eq_true rfl) ?_
      clear hf; intro a w hf hp0; clear hp; have hp := hp0; clear hp0
      replace hp : Hp _ _ _ (Res.obj 31 v102 [.int .u8 q95.2.1.1, .int .u8 q95.2.1.2.1, .bool q95.2.1.2.2.1, .string q95.2.1.2.2.2] :: _ :: _ :: _ :: _ :: _ :: _ :: _ :: _ :: _ :: _ :: _ :: ow) := hp
      refine nx hf (fun _ _ => ⟨_, hp⟩) ?_
      refine dr_takeK 14 (.int .i64 q95.2.2.1) rfl hf rfl (fun w ⟨_, hp⟩ => ?_) ⟨_, hp⟩ ?_
      · exact st_assign hf rfl rfl (by decide) tk
      clear hf; intro a hf
      refine dr_end (by kernel_rfl) ?_ _
      have hp := bk91 _ _ hp
      have hp := bk86 _ _ hp
      exact ⟨v98, v99, v102, hf.sub ⟨rfl, rfl, rfl, rfl, rfl, rfl, rfl, trivial⟩, hp⟩
     ·
      refine st_alloc (cs := [.int .u8 (0 : Int), .int .u8 (0 : Int), .bool false, .string ByteArray.empty]) (zv := .agg #[.int .u8 (0 : Int), .int .u8 (0 : Int), .bool false, .string ByteArray.empty]) hf (by decide) (by kernel_rfl) rfl hp rfl ?_
      clear hf; intro a w v102 hf hp0; clear hp; have hp := hp0; clear hp0
      replace hp : Hp _ _ _ (Res.obj 31 v102 [.int .u8 (0 : Int), .int .u8 (0 : Int), .bool false, .string ByteArray.empty] :: Res.obj 74 vk0_r [.int .i64 k0c_2c_0, .int .i64 k0c_2c_1, v20] :: _ :: _ :: Res.map (fun x : ByteArray => Value.string x) v20 k0c_2c_2 :: _ :: _ :: _ :: _ :: _ :: _ :: ow) := hp
      refine nx hf (fun _ _ => ⟨_, hp⟩) ?_
      refine dr_one 6 rfl (by kernel_rfl) ?_
      have hp97 : Hp _ _ _ (Res.map (fun x : ByteArray => Value.string x) v20 k0c_2c_2 :: Res.obj 74 vk0_r [.int .i64 k0c_2c_0, .int .i64 k0c_2c_1, v20] :: Res.obj 31 v102 [.int .u8 (0 : Int), .int .u8 (0 : Int), .bool false, .string ByteArray.empty] :: Res.sl (Ek.pair Ek.str (Ek.pair Ek.bool (Ek.pair (Ek.int .i64) Ek.bool))) 81 v17 k0c_1c_4 :: Res.obj 79 vk0_s [.int .i64 k0c_1c_0, .int .i64 k0c_1c_1, .int .i64 k0c_1c_2, .int .i64 k0c_1c_3, v17] :: Res.sl (Ek.pair (Ek.int .i64) (Ek.pair (Ek.int .i64) (Ek.pair (Ek.int .u8) (Ek.pair (Ek.int .u8) (Ek.pair Ek.bool Ek.str))))) 88 v23 k0c_3 :: Res.sl (Ek.pair (Ek.int .i64) (Ek.pair (Ek.int .i64) (Ek.pair (Ek.int .u8) (Ek.pair (Ek.int .u8) (Ek.pair Ek.bool Ek.str))))) 88 v25 k0c_4 :: Res.map (fun x : Int => Value.int .i64 x) v27 k0c_7 :: Res.sl Ek.str 9 v29 k0c_11 :: Res.sl (Ek.int .i64) 3 v31 k0c_13 :: Res.sl (Ek.pair (Ek.int .i64) (Ek.pair (Ek.int .i64) (Ek.pair (Ek.int .u8) (Ek.pair (Ek.int .u8) (Ek.pair Ek.bool Ek.str))))) 88 v34 later5 :: ow) := Hp.sel (pre := [Res.obj 31 v102 [.int .u8 (0 : Int), .int .u8 (0 : Int), .bool false, .string ByteArray.empty], Res.obj 74 vk0_r [.int .i64 k0c_2c_0, .int .i64 k0c_2c_1, v20], Res.sl (Ek.pair Ek.str (Ek.pair Ek.bool (Ek.pair (Ek.int .i64) Ek.bool))) 81 v17 k0c_1c_4, Res.obj 79 vk0_s [.int .i64 k0c_1c_0, .int .i64 k0c_1c_1, .int .i64 k0c_1c_2, .int .i64 k0c_1c_3, v17], Res.map (fun x : ByteArray => Value.string x) v20 k0c_2c_2, Res.sl (Ek.pair (Ek.int .i64) (Ek.pair (Ek.int .i64) (Ek.pair (Ek.int .u8) (Ek.pair (Ek.int .u8) (Ek.pair Ek.bool Ek.str))))) 88 v23 k0c_3, Res.sl (Ek.pair (Ek.int .i64) (Ek.pair (Ek.int .i64) (Ek.pair (Ek.int .u8) (Ek.pair (Ek.int .u8) (Ek.pair Ek.bool Ek.str))))) 88 v25 k0c_4, Res.map (fun x : Int => Value.int .i64 x) v27 k0c_7, Res.sl Ek.str 9 v29 k0c_11, Res.sl (Ek.int .i64) 3 v31 k0c_13, Res.sl (Ek.pair (Ek.int .i64) (Ek.pair (Ek.int .i64) (Ek.pair (Ek.int .u8) (Ek.pair (Ek.int .u8) (Ek.pair Ek.bool Ek.str))))) 88 v34 later5]) (tail := ow) (rs' := [Res.map (fun x : ByteArray => Value.string x) v20 k0c_2c_2, Res.obj 74 vk0_r [.int .i64 k0c_2c_0, .int .i64 k0c_2c_1, v20], Res.obj 31 v102 [.int .u8 (0 : Int), .int .u8 (0 : Int), .bool false, .string ByteArray.empty], Res.sl (Ek.pair Ek.str (Ek.pair Ek.bool (Ek.pair (Ek.int .i64) Ek.bool))) 81 v17 k0c_1c_4, Res.obj 79 vk0_s [.int .i64 k0c_1c_0, .int .i64 k0c_1c_1, .int .i64 k0c_1c_2, .int .i64 k0c_1c_3, v17], Res.sl (Ek.pair (Ek.int .i64) (Ek.pair (Ek.int .i64) (Ek.pair (Ek.int .u8) (Ek.pair (Ek.int .u8) (Ek.pair Ek.bool Ek.str))))) 88 v23 k0c_3, Res.sl (Ek.pair (Ek.int .i64) (Ek.pair (Ek.int .i64) (Ek.pair (Ek.int .u8) (Ek.pair (Ek.int .u8) (Ek.pair Ek.bool Ek.str))))) 88 v25 k0c_4, Res.map (fun x : Int => Value.int .i64 x) v27 k0c_7, Res.sl Ek.str 9 v29 k0c_11, Res.sl (Ek.int .i64) 3 v31 k0c_13, Res.sl (Ek.pair (Ek.int .i64) (Ek.pair (Ek.int .i64) (Ek.pair (Ek.int .u8) (Ek.pair (Ek.int .u8) (Ek.pair Ek.bool Ek.str))))) 88 v34 later5]) hp [4, 1, 0, 2, 3, 5, 6, 7, 8, 9, 10] (by decide) (by simp) rfl
      refine st_call hf (by decide) Try.func10 rfl rfl rfl rfl rfl (f_again_Receiver_Take_c _ _ _ _ _ _ _ _ _ hp97 hcall96) ?_
      rintro _ w ⟨v98, v99, rfl, hp0⟩
      clear hp; have hp := hp0; clear hp0
      replace hp : Hp _ _ _ (Res.sl Ek.str 9 v98 q95.1 :: Res.map (fun x : ByteArray => Value.string x) v99 q95.2.2.2.2.2 :: Res.obj 74 vk0_r [.int .i64 q95.2.2.2.1, .int .i64 q95.2.2.2.2.1, v99] :: _ :: _ :: _ :: _ :: _ :: _ :: _ :: _ :: _ :: ow) := hp
      refine ⟨_, rfl, ?_⟩
      clear hf; intro a hf
      refine nx hf (fun _ _ => ⟨_, hp⟩) ?_
      refine dr_takeK 7 (.tuple #[v98, .agg #[.int .u8 q95.2.1.1, .int .u8 q95.2.1.2.1, .bool q95.2.1.2.2.1, .string q95.2.1.2.2.2], .int .i64 q95.2.2.1]) rfl hf rfl (fun w ⟨_, hp⟩ => ?_) ⟨_, hp⟩ ?_
      · exact st_move hf rfl rfl (by decide) tk
      clear hf; intro a hf
      refine dr_takeK 8 (v98) rfl hf rfl (fun w ⟨_, hp⟩ => ?_) ⟨_, hp⟩ ?_
      · exact st_extract hf (by decide) rfl rfl rfl tk
      clear hf; intro a hf
      refine dr_takeK 9 (.agg #[.int .u8 q95.2.1.1, .int .u8 q95.2.1.2.1, .bool q95.2.1.2.2.1, .string q95.2.1.2.2.2]) rfl hf rfl (fun w ⟨_, hp⟩ => ?_) ⟨_, hp⟩ ?_
      · exact st_extract hf (by decide) rfl rfl rfl tk
      clear hf; intro a hf
      refine dr_takeK 10 (.int .i64 q95.2.2.1) rfl hf rfl (fun w ⟨_, hp⟩ => ?_) ⟨_, hp⟩ ?_
      · exact st_extract hf (by decide) rfl rfl rfl tk
      clear hf; intro a hf
      refine dr_takeK 12 (v98) rfl hf rfl (fun w ⟨_, hp⟩ => ?_) ⟨_, hp⟩ ?_
      · exact st_assign hf rfl rfl (by decide) tk
      clear hf; intro a hf
      refine dr_one 13 rfl (by kernel_rfl) ?_
      refine st_stO (us := [.int .u8 q95.2.1.1, .int .u8 q95.2.1.2.1, .bool q95.2.1.2.2.1, .string q95.2.1.2.2.2]) hf hp (i := 3) rfl rfl rfl rfl rfl (by rfl) (by kernel_rfl) (Nat.le_of_ble_eq_true rfl) ?_
      clear hf; intro a w hf hp0; clear hp; have hp := hp0; clear hp0
      replace hp : Hp _ _ _ (_ :: _ :: _ :: Res.obj 31 v102 [.int .u8 q95.2.1.1, .int .u8 q95.2.1.2.1, .bool q95.2.1.2.2.1, .string q95.2.1.2.2.2] :: _ :: _ :: _ :: _ :: _ :: _ :: _ :: _ :: ow) := hp
      refine nx hf (fun _ _ => ⟨_, hp⟩) ?_
      refine dr_takeK 14 (.int .i64 q95.2.2.1) rfl hf rfl (fun w ⟨_, hp⟩ => ?_) ⟨_, hp⟩ ?_
      · exact st_assign hf rfl rfl (by decide) tk
      clear hf; intro a hf
      refine dr_end (by kernel_rfl) ?_ _
      have hp : Hp _ _ _ (_ :: _ :: _ :: _ :: _ :: _ :: _ :: _ :: _ :: _ :: _ :: _ :: ow) := Hp.sel (pre := [Res.sl Ek.str 9 v98 q95.1, Res.map (fun x : ByteArray => Value.string x) v99 q95.2.2.2.2.2, Res.obj 74 vk0_r [.int .i64 q95.2.2.2.1, .int .i64 q95.2.2.2.2.1, v99], Res.obj 31 v102 [.int .u8 q95.2.1.1, .int .u8 q95.2.1.2.1, .bool q95.2.1.2.2.1, .string q95.2.1.2.2.2], Res.sl (Ek.pair Ek.str (Ek.pair Ek.bool (Ek.pair (Ek.int .i64) Ek.bool))) 81 v17 k0c_1c_4, Res.obj 79 vk0_s [.int .i64 k0c_1c_0, .int .i64 k0c_1c_1, .int .i64 k0c_1c_2, .int .i64 k0c_1c_3, v17], Res.sl (Ek.pair (Ek.int .i64) (Ek.pair (Ek.int .i64) (Ek.pair (Ek.int .u8) (Ek.pair (Ek.int .u8) (Ek.pair Ek.bool Ek.str))))) 88 v23 k0c_3, Res.sl (Ek.pair (Ek.int .i64) (Ek.pair (Ek.int .i64) (Ek.pair (Ek.int .u8) (Ek.pair (Ek.int .u8) (Ek.pair Ek.bool Ek.str))))) 88 v25 k0c_4, Res.map (fun x : Int => Value.int .i64 x) v27 k0c_7, Res.sl Ek.str 9 v29 k0c_11, Res.sl (Ek.int .i64) 3 v31 k0c_13, Res.sl (Ek.pair (Ek.int .i64) (Ek.pair (Ek.int .i64) (Ek.pair (Ek.int .u8) (Ek.pair (Ek.int .u8) (Ek.pair Ek.bool Ek.str))))) 88 v34 later5]) (tail := ow) (rs' := [Res.obj 31 v102 [.int .u8 q95.2.1.1, .int .u8 q95.2.1.2.1, .bool q95.2.1.2.2.1, .string q95.2.1.2.2.2], Res.sl Ek.str 9 v98 q95.1, Res.map (fun x : ByteArray => Value.string x) v99 q95.2.2.2.2.2, Res.obj 74 vk0_r [.int .i64 q95.2.2.2.1, .int .i64 q95.2.2.2.2.1, v99], Res.sl (Ek.pair Ek.str (Ek.pair Ek.bool (Ek.pair (Ek.int .i64) Ek.bool))) 81 v17 k0c_1c_4, Res.obj 79 vk0_s [.int .i64 k0c_1c_0, .int .i64 k0c_1c_1, .int .i64 k0c_1c_2, .int .i64 k0c_1c_3, v17], Res.sl (Ek.pair (Ek.int .i64) (Ek.pair (Ek.int .i64) (Ek.pair (Ek.int .u8) (Ek.pair (Ek.int .u8) (Ek.pair Ek.bool Ek.str))))) 88 v23 k0c_3, Res.sl (Ek.pair (Ek.int .i64) (Ek.pair (Ek.int .i64) (Ek.pair (Ek.int .u8) (Ek.pair (Ek.int .u8) (Ek.pair Ek.bool Ek.str))))) 88 v25 k0c_4, Res.map (fun x : Int => Value.int .i64 x) v27 k0c_7, Res.sl Ek.str 9 v29 k0c_11, Res.sl (Ek.int .i64) 3 v31 k0c_13, Res.sl (Ek.pair (Ek.int .i64) (Ek.pair (Ek.int .i64) (Ek.pair (Ek.int .u8) (Ek.pair (Ek.int .u8) (Ek.pair Ek.bool Ek.str))))) 88 v34 later5]) hp [3, 0, 1, 2, 4, 5, 6, 7, 8, 9, 10, 11] (by decide) (by simp) rfl
      have hp := bk91 _ _ hp
      have hp := bk86 _ _ hp
      exact ⟨v98, v99, v102, hf.sub ⟨rfl, rfl, rfl, rfl, rfl, rfl, rfl, trivial⟩, hp⟩
    rintro a w ⟨v98, v99, v102, hf, hp⟩
    refine th_n ?_
    refine wp_seq ?_
    refine wp_seq ?_
    refine wp_reg ?_
    refine st_move hf rfl rfl (by decide) ?_
    clear hf; intro a ha hf; clear ha
    refine st_ineq hf (by decide) rfl rfl rfl ?_
    clear hf; intro a ha hf; clear ha
    refine st_nil hf ?_
    refine th_n ?_
    refine wp_if hf rfl (fun hb => ?_) (fun hb => ?_)
    ·
     replace h := ifT h hb
     refine wp_seq ?_
     refine wp_reg ?_
     refine st_assign hf rfl rfl (by decide) ?_
     clear hf; intro a ha hf; clear ha
     refine st_nil hf ?_
     refine th_n ?_
     refine wp_ret ?_
     refine th_r ?_
     refine ib_r ?_
     refine th_r ?_
     have hp : Hp _ _ _ (_ :: _ :: Res.obj 68 ok0 [.int .i64 k0c_0, vk0_s, vk0_r, v23, v25, vk0_picks, .int .i64 k0c_6, v27, .int .i64 k0c_8, .int .i64 k0c_9, .int .i64 k0c_10, v29, .bool k0c_12, v31] :: Res.obj 88 v56 [.int .i64 ((gt k0c_3 i6).1), .int .i64 ((gt k0c_3 i6).2.1), .int .u8 (((gt k0c_3 i6).2.2).1), .int .u8 (((gt k0c_3 i6).2.2).2.1), .bool (((gt k0c_3 i6).2.2).2.2.1), .string (((gt k0c_3 i6).2.2).2.2.2)] :: _ :: _ :: _ :: _ :: _ :: _ :: _ :: _ :: _ :: _ :: ow) := Hp.sel (pre := [Res.obj 68 ok0 [.int .i64 k0c_0, vk0_s, vk0_r, v23, v25, vk0_picks, .int .i64 k0c_6, v27, .int .i64 k0c_8, .int .i64 k0c_9, .int .i64 k0c_10, v29, .bool k0c_12, v31], Res.obj 88 v56 [.int .i64 ((gt k0c_3 i6).1), .int .i64 ((gt k0c_3 i6).2.1), .int .u8 (((gt k0c_3 i6).2.2).1), .int .u8 (((gt k0c_3 i6).2.2).2.1), .bool (((gt k0c_3 i6).2.2).2.2.1), .string (((gt k0c_3 i6).2.2).2.2.2)], Res.obj 31 v102 [.int .u8 q95.2.1.1, .int .u8 q95.2.1.2.1, .bool q95.2.1.2.2.1, .string q95.2.1.2.2.2], Res.sl Ek.str 9 v98 q95.1, Res.map (fun x : ByteArray => Value.string x) v99 q95.2.2.2.2.2, Res.obj 74 vk0_r [.int .i64 q95.2.2.2.1, .int .i64 q95.2.2.2.2.1, v99], Res.sl (Ek.pair Ek.str (Ek.pair Ek.bool (Ek.pair (Ek.int .i64) Ek.bool))) 81 v17 k0c_1c_4, Res.obj 79 vk0_s [.int .i64 k0c_1c_0, .int .i64 k0c_1c_1, .int .i64 k0c_1c_2, .int .i64 k0c_1c_3, v17], Res.sl (Ek.pair (Ek.int .i64) (Ek.pair (Ek.int .i64) (Ek.pair (Ek.int .u8) (Ek.pair (Ek.int .u8) (Ek.pair Ek.bool Ek.str))))) 88 v23 k0c_3, Res.sl (Ek.pair (Ek.int .i64) (Ek.pair (Ek.int .i64) (Ek.pair (Ek.int .u8) (Ek.pair (Ek.int .u8) (Ek.pair Ek.bool Ek.str))))) 88 v25 k0c_4, Res.map (fun x : Int => Value.int .i64 x) v27 k0c_7, Res.sl Ek.str 9 v29 k0c_11, Res.sl (Ek.int .i64) 3 v31 k0c_13, Res.sl (Ek.pair (Ek.int .i64) (Ek.pair (Ek.int .i64) (Ek.pair (Ek.int .u8) (Ek.pair (Ek.int .u8) (Ek.pair Ek.bool Ek.str))))) 88 v34 later5]) (tail := ow) (rs' := [Res.obj 74 vk0_r [.int .i64 q95.2.2.2.1, .int .i64 q95.2.2.2.2.1, v99], Res.map (fun x : ByteArray => Value.string x) v99 q95.2.2.2.2.2, Res.obj 68 ok0 [.int .i64 k0c_0, vk0_s, vk0_r, v23, v25, vk0_picks, .int .i64 k0c_6, v27, .int .i64 k0c_8, .int .i64 k0c_9, .int .i64 k0c_10, v29, .bool k0c_12, v31], Res.obj 88 v56 [.int .i64 ((gt k0c_3 i6).1), .int .i64 ((gt k0c_3 i6).2.1), .int .u8 (((gt k0c_3 i6).2.2).1), .int .u8 (((gt k0c_3 i6).2.2).2.1), .bool (((gt k0c_3 i6).2.2).2.2.1), .string (((gt k0c_3 i6).2.2).2.2.2)], Res.obj 31 v102 [.int .u8 q95.2.1.1, .int .u8 q95.2.1.2.1, .bool q95.2.1.2.2.1, .string q95.2.1.2.2.2], Res.sl Ek.str 9 v98 q95.1, Res.sl (Ek.pair Ek.str (Ek.pair Ek.bool (Ek.pair (Ek.int .i64) Ek.bool))) 81 v17 k0c_1c_4, Res.obj 79 vk0_s [.int .i64 k0c_1c_0, .int .i64 k0c_1c_1, .int .i64 k0c_1c_2, .int .i64 k0c_1c_3, v17], Res.sl (Ek.pair (Ek.int .i64) (Ek.pair (Ek.int .i64) (Ek.pair (Ek.int .u8) (Ek.pair (Ek.int .u8) (Ek.pair Ek.bool Ek.str))))) 88 v23 k0c_3, Res.sl (Ek.pair (Ek.int .i64) (Ek.pair (Ek.int .i64) (Ek.pair (Ek.int .u8) (Ek.pair (Ek.int .u8) (Ek.pair Ek.bool Ek.str))))) 88 v25 k0c_4, Res.map (fun x : Int => Value.int .i64 x) v27 k0c_7, Res.sl Ek.str 9 v29 k0c_11, Res.sl (Ek.int .i64) 3 v31 k0c_13, Res.sl (Ek.pair (Ek.int .i64) (Ek.pair (Ek.int .i64) (Ek.pair (Ek.int .u8) (Ek.pair (Ek.int .u8) (Ek.pair Ek.bool Ek.str))))) 88 v34 later5]) hp [5, 4, 0, 1, 2, 3, 6, 7, 8, 9, 10, 11, 12, 13] (by decide) (by simp) rfl
     replace hp : Hp _ _ _ (Res.opt pk74 vk0_r (some (q95.2.2.2.1, q95.2.2.2.2.1, q95.2.2.2.2.2)) :: _ :: _ :: _ :: _ :: _ :: _ :: _ :: _ :: _ :: _ :: _ :: _ :: ow) := pk74_out (s := (q95.2.2.2.1, q95.2.2.2.2.1, q95.2.2.2.2.2)) (u := v99) hp
     have hp : Hp _ _ _ (_ :: _ :: _ :: _ :: _ :: _ :: _ :: _ :: _ :: _ :: _ :: _ :: _ :: ow) := Hp.sel (pre := [Res.opt pk74 vk0_r (some (q95.2.2.2.1, q95.2.2.2.2.1, q95.2.2.2.2.2)), Res.obj 68 ok0 [.int .i64 k0c_0, vk0_s, vk0_r, v23, v25, vk0_picks, .int .i64 k0c_6, v27, .int .i64 k0c_8, .int .i64 k0c_9, .int .i64 k0c_10, v29, .bool k0c_12, v31], Res.obj 88 v56 [.int .i64 ((gt k0c_3 i6).1), .int .i64 ((gt k0c_3 i6).2.1), .int .u8 (((gt k0c_3 i6).2.2).1), .int .u8 (((gt k0c_3 i6).2.2).2.1), .bool (((gt k0c_3 i6).2.2).2.2.1), .string (((gt k0c_3 i6).2.2).2.2.2)], Res.obj 31 v102 [.int .u8 q95.2.1.1, .int .u8 q95.2.1.2.1, .bool q95.2.1.2.2.1, .string q95.2.1.2.2.2], Res.sl Ek.str 9 v98 q95.1, Res.sl (Ek.pair Ek.str (Ek.pair Ek.bool (Ek.pair (Ek.int .i64) Ek.bool))) 81 v17 k0c_1c_4, Res.obj 79 vk0_s [.int .i64 k0c_1c_0, .int .i64 k0c_1c_1, .int .i64 k0c_1c_2, .int .i64 k0c_1c_3, v17], Res.sl (Ek.pair (Ek.int .i64) (Ek.pair (Ek.int .i64) (Ek.pair (Ek.int .u8) (Ek.pair (Ek.int .u8) (Ek.pair Ek.bool Ek.str))))) 88 v23 k0c_3, Res.sl (Ek.pair (Ek.int .i64) (Ek.pair (Ek.int .i64) (Ek.pair (Ek.int .u8) (Ek.pair (Ek.int .u8) (Ek.pair Ek.bool Ek.str))))) 88 v25 k0c_4, Res.map (fun x : Int => Value.int .i64 x) v27 k0c_7, Res.sl Ek.str 9 v29 k0c_11, Res.sl (Ek.int .i64) 3 v31 k0c_13, Res.sl (Ek.pair (Ek.int .i64) (Ek.pair (Ek.int .i64) (Ek.pair (Ek.int .u8) (Ek.pair (Ek.int .u8) (Ek.pair Ek.bool Ek.str))))) 88 v34 later5]) (tail := ow) (rs' := [Res.obj 79 vk0_s [.int .i64 k0c_1c_0, .int .i64 k0c_1c_1, .int .i64 k0c_1c_2, .int .i64 k0c_1c_3, v17], Res.sl (Ek.pair Ek.str (Ek.pair Ek.bool (Ek.pair (Ek.int .i64) Ek.bool))) 81 v17 k0c_1c_4, Res.opt pk74 vk0_r (some (q95.2.2.2.1, q95.2.2.2.2.1, q95.2.2.2.2.2)), Res.obj 68 ok0 [.int .i64 k0c_0, vk0_s, vk0_r, v23, v25, vk0_picks, .int .i64 k0c_6, v27, .int .i64 k0c_8, .int .i64 k0c_9, .int .i64 k0c_10, v29, .bool k0c_12, v31], Res.obj 88 v56 [.int .i64 ((gt k0c_3 i6).1), .int .i64 ((gt k0c_3 i6).2.1), .int .u8 (((gt k0c_3 i6).2.2).1), .int .u8 (((gt k0c_3 i6).2.2).2.1), .bool (((gt k0c_3 i6).2.2).2.2.1), .string (((gt k0c_3 i6).2.2).2.2.2)], Res.obj 31 v102 [.int .u8 q95.2.1.1, .int .u8 q95.2.1.2.1, .bool q95.2.1.2.2.1, .string q95.2.1.2.2.2], Res.sl Ek.str 9 v98 q95.1, Res.sl (Ek.pair (Ek.int .i64) (Ek.pair (Ek.int .i64) (Ek.pair (Ek.int .u8) (Ek.pair (Ek.int .u8) (Ek.pair Ek.bool Ek.str))))) 88 v23 k0c_3, Res.sl (Ek.pair (Ek.int .i64) (Ek.pair (Ek.int .i64) (Ek.pair (Ek.int .u8) (Ek.pair (Ek.int .u8) (Ek.pair Ek.bool Ek.str))))) 88 v25 k0c_4, Res.map (fun x : Int => Value.int .i64 x) v27 k0c_7, Res.sl Ek.str 9 v29 k0c_11, Res.sl (Ek.int .i64) 3 v31 k0c_13, Res.sl (Ek.pair (Ek.int .i64) (Ek.pair (Ek.int .i64) (Ek.pair (Ek.int .u8) (Ek.pair (Ek.int .u8) (Ek.pair Ek.bool Ek.str))))) 88 v34 later5]) hp [6, 5, 0, 1, 2, 3, 4, 7, 8, 9, 10, 11, 12] (by decide) (by simp) rfl
     replace hp : Hp _ _ _ (Res.opt pk79 vk0_s (some (k0c_1c_0, k0c_1c_1, k0c_1c_2, k0c_1c_3, k0c_1c_4)) :: _ :: _ :: _ :: _ :: _ :: _ :: _ :: _ :: _ :: _ :: _ :: ow) := pk79_out (s := (k0c_1c_0, k0c_1c_1, k0c_1c_2, k0c_1c_3, k0c_1c_4)) (u := v17) hp
     obtain rfl := Option.some.inj h
     have hp : Hp _ _ _ (_ :: _ :: _ :: _ :: _ :: _ :: _ :: _ :: ow) := Hp.sel (pre := [Res.opt pk79 vk0_s (some (k0c_1c_0, k0c_1c_1, k0c_1c_2, k0c_1c_3, k0c_1c_4)), Res.opt pk74 vk0_r (some (q95.2.2.2.1, q95.2.2.2.2.1, q95.2.2.2.2.2)), Res.obj 68 ok0 [.int .i64 k0c_0, vk0_s, vk0_r, v23, v25, vk0_picks, .int .i64 k0c_6, v27, .int .i64 k0c_8, .int .i64 k0c_9, .int .i64 k0c_10, v29, .bool k0c_12, v31], Res.obj 88 v56 [.int .i64 ((gt k0c_3 i6).1), .int .i64 ((gt k0c_3 i6).2.1), .int .u8 (((gt k0c_3 i6).2.2).1), .int .u8 (((gt k0c_3 i6).2.2).2.1), .bool (((gt k0c_3 i6).2.2).2.2.1), .string (((gt k0c_3 i6).2.2).2.2.2)], Res.obj 31 v102 [.int .u8 q95.2.1.1, .int .u8 q95.2.1.2.1, .bool q95.2.1.2.2.1, .string q95.2.1.2.2.2], Res.sl Ek.str 9 v98 q95.1, Res.sl (Ek.pair (Ek.int .i64) (Ek.pair (Ek.int .i64) (Ek.pair (Ek.int .u8) (Ek.pair (Ek.int .u8) (Ek.pair Ek.bool Ek.str))))) 88 v23 k0c_3, Res.sl (Ek.pair (Ek.int .i64) (Ek.pair (Ek.int .i64) (Ek.pair (Ek.int .u8) (Ek.pair (Ek.int .u8) (Ek.pair Ek.bool Ek.str))))) 88 v25 k0c_4, Res.map (fun x : Int => Value.int .i64 x) v27 k0c_7, Res.sl Ek.str 9 v29 k0c_11, Res.sl (Ek.int .i64) 3 v31 k0c_13, Res.sl (Ek.pair (Ek.int .i64) (Ek.pair (Ek.int .i64) (Ek.pair (Ek.int .u8) (Ek.pair (Ek.int .u8) (Ek.pair Ek.bool Ek.str))))) 88 v34 later5]) (tail := ow) (rs' := [Res.opt pk79 vk0_s (some (k0c_1c_0, k0c_1c_1, k0c_1c_2, k0c_1c_3, k0c_1c_4)), Res.opt pk74 vk0_r (some (q95.2.2.2.1, q95.2.2.2.2.1, q95.2.2.2.2.2)), Res.sl (Ek.pair (Ek.int .i64) (Ek.pair (Ek.int .i64) (Ek.pair (Ek.int .u8) (Ek.pair (Ek.int .u8) (Ek.pair Ek.bool Ek.str))))) 88 v23 k0c_3, Res.sl (Ek.pair (Ek.int .i64) (Ek.pair (Ek.int .i64) (Ek.pair (Ek.int .u8) (Ek.pair (Ek.int .u8) (Ek.pair Ek.bool Ek.str))))) 88 v25 k0c_4, Res.map (fun x : Int => Value.int .i64 x) v27 k0c_7, Res.sl Ek.str 9 v29 k0c_11, Res.sl (Ek.int .i64) 3 v31 k0c_13, Res.obj 68 ok0 [.int .i64 k0c_0, vk0_s, vk0_r, v23, v25, vk0_picks, .int .i64 k0c_6, v27, .int .i64 k0c_8, .int .i64 k0c_9, .int .i64 k0c_10, v29, .bool k0c_12, v31]]) hp [0, 1, 6, 7, 8, 9, 10, 2] (by decide) (by simp) rfl
     exact rnd_r (by simp) ⟨rfl, ⟨_, _, _, _, _, hf.sub ⟨rfl, trivial⟩, hp⟩⟩
    replace h := ifF h hb
    refine wp_skip ?_
    refine th_n ?_
    refine wp_seq ?_
    refine wp_reg ?_
    refine st_move hf rfl rfl (by decide) ?_
    clear hf; intro a ha hf; clear ha
    refine st_move hf rfl rfl (by decide) ?_
    clear hf; intro a ha hf; clear ha
    refine st_nilV hf (by decide) rfl rfl (hp.ob (i := 0) rfl) ?_
    clear hf; intro a ha hf; clear ha
    refine st_fa (o' := 11) hf (by decide) (off := 11) (sz := 1) (by kernel_rfl) (by decide) rfl rfl (hp.ob (i := 0) rfl) rfl ?_
    clear hf; intro a ha hf; clear ha
    refine st_ldO (u := v29) hf (by decide) pl35 rfl rfl (hp.ob (i := 0) rfl) rfl ?_
    clear hf; intro a ha hf; clear ha
    refine st_move hf rfl rfl (by decide) ?_
    clear hf; intro a ha hf; clear ha
    obtain ⟨hc104, h⟩ := chk h
    refine st_append (E := Ek.str) hf (by decide) elt9 Try.underlying35 (by decide) hp (i := 11) rfl rfl rfl rfl (hp.sl (i := 3) rfl) hc104 ?_
    clear hf; intro a w v105 hf hp0; clear hp; have hp := hp0; clear hp0
    replace hp : Hp _ _ _ (_ :: Res.obj 88 v56 [.int .i64 ((gt k0c_3 i6).1), .int .i64 ((gt k0c_3 i6).2.1), .int .u8 (((gt k0c_3 i6).2.2).1), .int .u8 (((gt k0c_3 i6).2.2).2.1), .bool (((gt k0c_3 i6).2.2).2.2.1), .string (((gt k0c_3 i6).2.2).2.2.2)] :: Res.obj 31 v102 [.int .u8 q95.2.1.1, .int .u8 q95.2.1.2.1, .bool q95.2.1.2.2.1, .string q95.2.1.2.2.2] :: Res.sl Ek.str 9 v98 q95.1 :: Res.map (fun x : ByteArray => Value.string x) v99 q95.2.2.2.2.2 :: Res.obj 74 vk0_r [.int .i64 q95.2.2.2.1, .int .i64 q95.2.2.2.2.1, v99] :: Res.sl (Ek.pair Ek.str (Ek.pair Ek.bool (Ek.pair (Ek.int .i64) Ek.bool))) 81 v17 k0c_1c_4 :: Res.obj 79 vk0_s [.int .i64 k0c_1c_0, .int .i64 k0c_1c_1, .int .i64 k0c_1c_2, .int .i64 k0c_1c_3, v17] :: _ :: _ :: _ :: Res.sl Ek.str 9 v105 (k0c_11 ++ q95.1) :: _ :: Res.sl (Ek.pair (Ek.int .i64) (Ek.pair (Ek.int .i64) (Ek.pair (Ek.int .u8) (Ek.pair (Ek.int .u8) (Ek.pair Ek.bool Ek.str))))) 88 v34 later5 :: ow) := hp
    refine st_nilV hf (by decide) rfl rfl (hp.ob (i := 0) rfl) ?_
    clear hf; intro a ha hf; clear ha
    refine st_fa (o' := 11) hf (by decide) (off := 11) (sz := 1) (by kernel_rfl) (by decide) rfl rfl (hp.ob (i := 0) rfl) rfl ?_
    clear hf; intro a ha hf; clear ha
    refine st_stO (us := [v105]) hf hp (i := 0) rfl rfl rfl rfl (cells_sh (hp.sl (i := 11) rfl).shapeV) (ones_sh (hp.sl (i := 11) rfl).shapeV) (by kernel_rfl) (Nat.le_of_ble_eq_true rfl) ?_
    clear hf; intro a w hf hp0; clear hp; have hp := hp0; clear hp0
    replace hp : Hp _ _ _ (Res.obj 68 ok0 [.int .i64 k0c_0, vk0_s, vk0_r, v23, v25, vk0_picks, .int .i64 k0c_6, v27, .int .i64 k0c_8, .int .i64 k0c_9, .int .i64 k0c_10, v105, .bool k0c_12, v31] :: _ :: _ :: _ :: _ :: _ :: _ :: _ :: _ :: _ :: _ :: _ :: _ :: _ :: ow) := hp
    refine st_nil hf ?_
    refine th_n ?_
    refine wp_seq ?_
    refine wp_reg ?_
    refine st_move hf rfl rfl (by decide) ?_
    clear hf; intro a ha hf; clear ha
    obtain ⟨q106, hcall107, h⟩ := bnd h
    have hp : Hp _ _ _ (_ :: _ :: _ :: _ :: _ :: _ :: _ :: _ :: _ :: _ :: _ :: _ :: _ :: _ :: ow) := Hp.sel (pre := [Res.obj 68 ok0 [.int .i64 k0c_0, vk0_s, vk0_r, v23, v25, vk0_picks, .int .i64 k0c_6, v27, .int .i64 k0c_8, .int .i64 k0c_9, .int .i64 k0c_10, v105, .bool k0c_12, v31], Res.obj 88 v56 [.int .i64 ((gt k0c_3 i6).1), .int .i64 ((gt k0c_3 i6).2.1), .int .u8 (((gt k0c_3 i6).2.2).1), .int .u8 (((gt k0c_3 i6).2.2).2.1), .bool (((gt k0c_3 i6).2.2).2.2.1), .string (((gt k0c_3 i6).2.2).2.2.2)], Res.obj 31 v102 [.int .u8 q95.2.1.1, .int .u8 q95.2.1.2.1, .bool q95.2.1.2.2.1, .string q95.2.1.2.2.2], Res.sl Ek.str 9 v98 q95.1, Res.map (fun x : ByteArray => Value.string x) v99 q95.2.2.2.2.2, Res.obj 74 vk0_r [.int .i64 q95.2.2.2.1, .int .i64 q95.2.2.2.2.1, v99], Res.sl (Ek.pair Ek.str (Ek.pair Ek.bool (Ek.pair (Ek.int .i64) Ek.bool))) 81 v17 k0c_1c_4, Res.obj 79 vk0_s [.int .i64 k0c_1c_0, .int .i64 k0c_1c_1, .int .i64 k0c_1c_2, .int .i64 k0c_1c_3, v17], Res.sl (Ek.pair (Ek.int .i64) (Ek.pair (Ek.int .i64) (Ek.pair (Ek.int .u8) (Ek.pair (Ek.int .u8) (Ek.pair Ek.bool Ek.str))))) 88 v23 k0c_3, Res.sl (Ek.pair (Ek.int .i64) (Ek.pair (Ek.int .i64) (Ek.pair (Ek.int .u8) (Ek.pair (Ek.int .u8) (Ek.pair Ek.bool Ek.str))))) 88 v25 k0c_4, Res.map (fun x : Int => Value.int .i64 x) v27 k0c_7, Res.sl Ek.str 9 v105 (k0c_11 ++ q95.1), Res.sl (Ek.int .i64) 3 v31 k0c_13, Res.sl (Ek.pair (Ek.int .i64) (Ek.pair (Ek.int .i64) (Ek.pair (Ek.int .u8) (Ek.pair (Ek.int .u8) (Ek.pair Ek.bool Ek.str))))) 88 v34 later5]) (tail := ow) (rs' := [Res.obj 79 vk0_s [.int .i64 k0c_1c_0, .int .i64 k0c_1c_1, .int .i64 k0c_1c_2, .int .i64 k0c_1c_3, v17], Res.sl (Ek.pair Ek.str (Ek.pair Ek.bool (Ek.pair (Ek.int .i64) Ek.bool))) 81 v17 k0c_1c_4, Res.obj 68 ok0 [.int .i64 k0c_0, vk0_s, vk0_r, v23, v25, vk0_picks, .int .i64 k0c_6, v27, .int .i64 k0c_8, .int .i64 k0c_9, .int .i64 k0c_10, v105, .bool k0c_12, v31], Res.obj 88 v56 [.int .i64 ((gt k0c_3 i6).1), .int .i64 ((gt k0c_3 i6).2.1), .int .u8 (((gt k0c_3 i6).2.2).1), .int .u8 (((gt k0c_3 i6).2.2).2.1), .bool (((gt k0c_3 i6).2.2).2.2.1), .string (((gt k0c_3 i6).2.2).2.2.2)], Res.obj 31 v102 [.int .u8 q95.2.1.1, .int .u8 q95.2.1.2.1, .bool q95.2.1.2.2.1, .string q95.2.1.2.2.2], Res.sl Ek.str 9 v98 q95.1, Res.map (fun x : ByteArray => Value.string x) v99 q95.2.2.2.2.2, Res.obj 74 vk0_r [.int .i64 q95.2.2.2.1, .int .i64 q95.2.2.2.2.1, v99], Res.sl (Ek.pair (Ek.int .i64) (Ek.pair (Ek.int .i64) (Ek.pair (Ek.int .u8) (Ek.pair (Ek.int .u8) (Ek.pair Ek.bool Ek.str))))) 88 v23 k0c_3, Res.sl (Ek.pair (Ek.int .i64) (Ek.pair (Ek.int .i64) (Ek.pair (Ek.int .u8) (Ek.pair (Ek.int .u8) (Ek.pair Ek.bool Ek.str))))) 88 v25 k0c_4, Res.map (fun x : Int => Value.int .i64 x) v27 k0c_7, Res.sl Ek.str 9 v105 (k0c_11 ++ q95.1), Res.sl (Ek.int .i64) 3 v31 k0c_13, Res.sl (Ek.pair (Ek.int .i64) (Ek.pair (Ek.int .i64) (Ek.pair (Ek.int .u8) (Ek.pair (Ek.int .u8) (Ek.pair Ek.bool Ek.str))))) 88 v34 later5]) hp [7, 6, 0, 1, 2, 3, 4, 5, 8, 9, 10, 11, 12, 13] (by decide) (by simp) rfl
    replace hp : Hp _ _ _ (Res.opt pk79 vk0_s (some (k0c_1c_0, k0c_1c_1, k0c_1c_2, k0c_1c_3, k0c_1c_4)) :: _ :: _ :: _ :: _ :: _ :: _ :: _ :: _ :: _ :: _ :: _ :: _ :: ow) := pk79_out (s := (k0c_1c_0, k0c_1c_1, k0c_1c_2, k0c_1c_3, k0c_1c_4)) (u := v17) hp
    have hp : Hp _ _ _ (_ :: _ :: _ :: _ :: _ :: _ :: _ :: _ :: _ :: _ :: _ :: _ :: _ :: ow) := Hp.sel (pre := [Res.opt pk79 vk0_s (some (k0c_1c_0, k0c_1c_1, k0c_1c_2, k0c_1c_3, k0c_1c_4)), Res.obj 68 ok0 [.int .i64 k0c_0, vk0_s, vk0_r, v23, v25, vk0_picks, .int .i64 k0c_6, v27, .int .i64 k0c_8, .int .i64 k0c_9, .int .i64 k0c_10, v105, .bool k0c_12, v31], Res.obj 88 v56 [.int .i64 ((gt k0c_3 i6).1), .int .i64 ((gt k0c_3 i6).2.1), .int .u8 (((gt k0c_3 i6).2.2).1), .int .u8 (((gt k0c_3 i6).2.2).2.1), .bool (((gt k0c_3 i6).2.2).2.2.1), .string (((gt k0c_3 i6).2.2).2.2.2)], Res.obj 31 v102 [.int .u8 q95.2.1.1, .int .u8 q95.2.1.2.1, .bool q95.2.1.2.2.1, .string q95.2.1.2.2.2], Res.sl Ek.str 9 v98 q95.1, Res.map (fun x : ByteArray => Value.string x) v99 q95.2.2.2.2.2, Res.obj 74 vk0_r [.int .i64 q95.2.2.2.1, .int .i64 q95.2.2.2.2.1, v99], Res.sl (Ek.pair (Ek.int .i64) (Ek.pair (Ek.int .i64) (Ek.pair (Ek.int .u8) (Ek.pair (Ek.int .u8) (Ek.pair Ek.bool Ek.str))))) 88 v23 k0c_3, Res.sl (Ek.pair (Ek.int .i64) (Ek.pair (Ek.int .i64) (Ek.pair (Ek.int .u8) (Ek.pair (Ek.int .u8) (Ek.pair Ek.bool Ek.str))))) 88 v25 k0c_4, Res.map (fun x : Int => Value.int .i64 x) v27 k0c_7, Res.sl Ek.str 9 v105 (k0c_11 ++ q95.1), Res.sl (Ek.int .i64) 3 v31 k0c_13, Res.sl (Ek.pair (Ek.int .i64) (Ek.pair (Ek.int .i64) (Ek.pair (Ek.int .u8) (Ek.pair (Ek.int .u8) (Ek.pair Ek.bool Ek.str))))) 88 v34 later5]) (tail := ow) (rs' := [Res.obj 74 vk0_r [.int .i64 q95.2.2.2.1, .int .i64 q95.2.2.2.2.1, v99], Res.map (fun x : ByteArray => Value.string x) v99 q95.2.2.2.2.2, Res.opt pk79 vk0_s (some (k0c_1c_0, k0c_1c_1, k0c_1c_2, k0c_1c_3, k0c_1c_4)), Res.obj 68 ok0 [.int .i64 k0c_0, vk0_s, vk0_r, v23, v25, vk0_picks, .int .i64 k0c_6, v27, .int .i64 k0c_8, .int .i64 k0c_9, .int .i64 k0c_10, v105, .bool k0c_12, v31], Res.obj 88 v56 [.int .i64 ((gt k0c_3 i6).1), .int .i64 ((gt k0c_3 i6).2.1), .int .u8 (((gt k0c_3 i6).2.2).1), .int .u8 (((gt k0c_3 i6).2.2).2.1), .bool (((gt k0c_3 i6).2.2).2.2.1), .string (((gt k0c_3 i6).2.2).2.2.2)], Res.obj 31 v102 [.int .u8 q95.2.1.1, .int .u8 q95.2.1.2.1, .bool q95.2.1.2.2.1, .string q95.2.1.2.2.2], Res.sl Ek.str 9 v98 q95.1, Res.sl (Ek.pair (Ek.int .i64) (Ek.pair (Ek.int .i64) (Ek.pair (Ek.int .u8) (Ek.pair (Ek.int .u8) (Ek.pair Ek.bool Ek.str))))) 88 v23 k0c_3, Res.sl (Ek.pair (Ek.int .i64) (Ek.pair (Ek.int .i64) (Ek.pair (Ek.int .u8) (Ek.pair (Ek.int .u8) (Ek.pair Ek.bool Ek.str))))) 88 v25 k0c_4, Res.map (fun x : Int => Value.int .i64 x) v27 k0c_7, Res.sl Ek.str 9 v105 (k0c_11 ++ q95.1), Res.sl (Ek.int .i64) 3 v31 k0c_13, Res.sl (Ek.pair (Ek.int .i64) (Ek.pair (Ek.int .i64) (Ek.pair (Ek.int .u8) (Ek.pair (Ek.int .u8) (Ek.pair Ek.bool Ek.str))))) 88 v34 later5]) hp [6, 5, 0, 1, 2, 3, 4, 7, 8, 9, 10, 11, 12] (by decide) (by simp) rfl
    replace hp : Hp _ _ _ (Res.opt pk74 vk0_r (some (q95.2.2.2.1, q95.2.2.2.2.1, q95.2.2.2.2.2)) :: _ :: _ :: _ :: _ :: _ :: _ :: _ :: _ :: _ :: _ :: _ :: ow) := pk74_out (s := (q95.2.2.2.1, q95.2.2.2.2.1, q95.2.2.2.2.2)) (u := v99) hp
    have hp108 : Hp _ _ _ (Res.opt pk79 vk0_s (some (k0c_1c_0, k0c_1c_1, k0c_1c_2, k0c_1c_3, k0c_1c_4)) :: Res.opt pk74 vk0_r (some (q95.2.2.2.1, q95.2.2.2.2.1, q95.2.2.2.2.2)) :: Res.sl (Ek.pair (Ek.int .i64) (Ek.pair (Ek.int .i64) (Ek.pair (Ek.int .u8) (Ek.pair (Ek.int .u8) (Ek.pair Ek.bool Ek.str))))) 88 v23 k0c_3 :: Res.sl (Ek.pair (Ek.int .i64) (Ek.pair (Ek.int .i64) (Ek.pair (Ek.int .u8) (Ek.pair (Ek.int .u8) (Ek.pair Ek.bool Ek.str))))) 88 v25 k0c_4 :: Res.map (fun x : Int => Value.int .i64 x) v27 k0c_7 :: Res.sl Ek.str 9 v105 (k0c_11 ++ q95.1) :: Res.sl (Ek.int .i64) 3 v31 k0c_13 :: Res.obj 68 ok0 [.int .i64 k0c_0, vk0_s, vk0_r, v23, v25, vk0_picks, .int .i64 k0c_6, v27, .int .i64 k0c_8, .int .i64 k0c_9, .int .i64 k0c_10, v105, .bool k0c_12, v31] :: Res.obj 88 v56 [.int .i64 ((gt k0c_3 i6).1), .int .i64 ((gt k0c_3 i6).2.1), .int .u8 (((gt k0c_3 i6).2.2).1), .int .u8 (((gt k0c_3 i6).2.2).2.1), .bool (((gt k0c_3 i6).2.2).2.2.1), .string (((gt k0c_3 i6).2.2).2.2.2)] :: Res.obj 31 v102 [.int .u8 q95.2.1.1, .int .u8 q95.2.1.2.1, .bool q95.2.1.2.2.1, .string q95.2.1.2.2.2] :: Res.sl Ek.str 9 v98 q95.1 :: Res.sl (Ek.pair (Ek.int .i64) (Ek.pair (Ek.int .i64) (Ek.pair (Ek.int .u8) (Ek.pair (Ek.int .u8) (Ek.pair Ek.bool Ek.str))))) 88 v34 later5 :: ow) := Hp.sel (pre := [Res.opt pk74 vk0_r (some (q95.2.2.2.1, q95.2.2.2.2.1, q95.2.2.2.2.2)), Res.opt pk79 vk0_s (some (k0c_1c_0, k0c_1c_1, k0c_1c_2, k0c_1c_3, k0c_1c_4)), Res.obj 68 ok0 [.int .i64 k0c_0, vk0_s, vk0_r, v23, v25, vk0_picks, .int .i64 k0c_6, v27, .int .i64 k0c_8, .int .i64 k0c_9, .int .i64 k0c_10, v105, .bool k0c_12, v31], Res.obj 88 v56 [.int .i64 ((gt k0c_3 i6).1), .int .i64 ((gt k0c_3 i6).2.1), .int .u8 (((gt k0c_3 i6).2.2).1), .int .u8 (((gt k0c_3 i6).2.2).2.1), .bool (((gt k0c_3 i6).2.2).2.2.1), .string (((gt k0c_3 i6).2.2).2.2.2)], Res.obj 31 v102 [.int .u8 q95.2.1.1, .int .u8 q95.2.1.2.1, .bool q95.2.1.2.2.1, .string q95.2.1.2.2.2], Res.sl Ek.str 9 v98 q95.1, Res.sl (Ek.pair (Ek.int .i64) (Ek.pair (Ek.int .i64) (Ek.pair (Ek.int .u8) (Ek.pair (Ek.int .u8) (Ek.pair Ek.bool Ek.str))))) 88 v23 k0c_3, Res.sl (Ek.pair (Ek.int .i64) (Ek.pair (Ek.int .i64) (Ek.pair (Ek.int .u8) (Ek.pair (Ek.int .u8) (Ek.pair Ek.bool Ek.str))))) 88 v25 k0c_4, Res.map (fun x : Int => Value.int .i64 x) v27 k0c_7, Res.sl Ek.str 9 v105 (k0c_11 ++ q95.1), Res.sl (Ek.int .i64) 3 v31 k0c_13, Res.sl (Ek.pair (Ek.int .i64) (Ek.pair (Ek.int .i64) (Ek.pair (Ek.int .u8) (Ek.pair (Ek.int .u8) (Ek.pair Ek.bool Ek.str))))) 88 v34 later5]) (tail := ow) (rs' := [Res.opt pk79 vk0_s (some (k0c_1c_0, k0c_1c_1, k0c_1c_2, k0c_1c_3, k0c_1c_4)), Res.opt pk74 vk0_r (some (q95.2.2.2.1, q95.2.2.2.2.1, q95.2.2.2.2.2)), Res.sl (Ek.pair (Ek.int .i64) (Ek.pair (Ek.int .i64) (Ek.pair (Ek.int .u8) (Ek.pair (Ek.int .u8) (Ek.pair Ek.bool Ek.str))))) 88 v23 k0c_3, Res.sl (Ek.pair (Ek.int .i64) (Ek.pair (Ek.int .i64) (Ek.pair (Ek.int .u8) (Ek.pair (Ek.int .u8) (Ek.pair Ek.bool Ek.str))))) 88 v25 k0c_4, Res.map (fun x : Int => Value.int .i64 x) v27 k0c_7, Res.sl Ek.str 9 v105 (k0c_11 ++ q95.1), Res.sl (Ek.int .i64) 3 v31 k0c_13, Res.obj 68 ok0 [.int .i64 k0c_0, vk0_s, vk0_r, v23, v25, vk0_picks, .int .i64 k0c_6, v27, .int .i64 k0c_8, .int .i64 k0c_9, .int .i64 k0c_10, v105, .bool k0c_12, v31], Res.obj 88 v56 [.int .i64 ((gt k0c_3 i6).1), .int .i64 ((gt k0c_3 i6).2.1), .int .u8 (((gt k0c_3 i6).2.2).1), .int .u8 (((gt k0c_3 i6).2.2).2.1), .bool (((gt k0c_3 i6).2.2).2.2.1), .string (((gt k0c_3 i6).2.2).2.2.2)], Res.obj 31 v102 [.int .u8 q95.2.1.1, .int .u8 q95.2.1.2.1, .bool q95.2.1.2.2.1, .string q95.2.1.2.2.2], Res.sl Ek.str 9 v98 q95.1, Res.sl (Ek.pair (Ek.int .i64) (Ek.pair (Ek.int .i64) (Ek.pair (Ek.int .u8) (Ek.pair (Ek.int .u8) (Ek.pair Ek.bool Ek.str))))) 88 v34 later5]) hp [1, 0, 6, 7, 8, 9, 10, 2, 3, 4, 5, 11] (by decide) (by simp) rfl
    refine st_call hf (by decide) Try.func32 rfl rfl rfl rfl rfl (f_foghornlaw28_link_pick_c _ _ _ _ _ _ _ _ _ _ _ hk0_picks _ _ _ _ _ _ _ _ _ _ _ _ hp108 hcall107) ?_
    rintro _ w ⟨v109, v110, v111, v112, v113, rfl, hp0⟩
    clear hp; have hp := hp0; clear hp0
    replace hp : Hp _ _ _ (Res.opt pk79 vk0_s q106.2.2.1 :: Res.opt pk74 vk0_r q106.2.2.2.1 :: Res.sl (Ek.pair (Ek.int .i64) (Ek.pair (Ek.int .i64) (Ek.pair (Ek.int .u8) (Ek.pair (Ek.int .u8) (Ek.pair Ek.bool Ek.str))))) 88 v109 q106.2.2.2.2.1 :: Res.sl (Ek.pair (Ek.int .i64) (Ek.pair (Ek.int .i64) (Ek.pair (Ek.int .u8) (Ek.pair (Ek.int .u8) (Ek.pair Ek.bool Ek.str))))) 88 v110 q106.2.2.2.2.2.1 :: Res.map (fun x : Int => Value.int .i64 x) v111 q106.2.2.2.2.2.2.2.2.1 :: Res.sl Ek.str 9 v112 q106.2.2.2.2.2.2.2.2.2.2.2.2.1 :: Res.sl (Ek.int .i64) 3 v113 q106.2.2.2.2.2.2.2.2.2.2.2.2.2.2 :: Res.obj 68 ok0 [.int .i64 q106.2.1, vk0_s, vk0_r, v109, v110, vk0_picks, .int .i64 q106.2.2.2.2.2.2.2.1, v111, .int .i64 q106.2.2.2.2.2.2.2.2.2.1, .int .i64 q106.2.2.2.2.2.2.2.2.2.2.1, .int .i64 q106.2.2.2.2.2.2.2.2.2.2.2.1, v112, .bool q106.2.2.2.2.2.2.2.2.2.2.2.2.2.1, v113] :: _ :: _ :: _ :: _ :: ow) := hp
    refine ⟨_, rfl, ?_⟩
    clear hf; intro a hf
    refine st_assign hf rfl rfl (by decide) ?_
    clear hf; intro a ha hf; clear ha
    refine st_nil hf ?_
    refine th_n ?_
    refine wp_seq ?_
    refine wp_seq ?_
    refine wp_reg ?_
    refine st_move hf rfl rfl (by decide) ?_
    clear hf; intro a ha hf; clear ha
    refine st_iand hf (by decide) rfl rfl rfl ?_
    clear hf; intro a ha hf; clear ha
    refine st_ieql hf (by decide) rfl rfl rfl ?_
    clear hf; intro a ha hf; clear ha
    refine st_move hf rfl rfl (by decide) ?_
    clear hf; intro a ha hf; clear ha
    obtain ⟨s119, hs120, h⟩ := bnd h
    replace hp : Hp _ _ _ (pk79.R vk0_s s119 :: _ :: _ :: _ :: _ :: _ :: _ :: _ :: _ :: _ :: _ :: _ :: ow) := hp.optSome hs120
    obtain ⟨v121, hp⟩ := pk79_in hp
    replace hp : Hp _ _ _ (Res.obj 79 vk0_s [.int .i64 s119.1, .int .i64 s119.2.1, .int .i64 s119.2.2.1, .int .i64 s119.2.2.2.1, v121] :: Res.sl (Ek.pair Ek.str (Ek.pair Ek.bool (Ek.pair (Ek.int .i64) Ek.bool))) 81 v121 s119.2.2.2.2 :: _ :: _ :: _ :: _ :: _ :: _ :: _ :: _ :: _ :: _ :: _ :: ow) := hp
    obtain ⟨s123, hs124, h⟩ := bnd h
    have hp : Hp _ _ _ (_ :: _ :: _ :: _ :: _ :: _ :: _ :: _ :: _ :: _ :: _ :: _ :: _ :: ow) := Hp.sel (pre := [Res.obj 79 vk0_s [.int .i64 s119.1, .int .i64 s119.2.1, .int .i64 s119.2.2.1, .int .i64 s119.2.2.2.1, v121], Res.sl (Ek.pair Ek.str (Ek.pair Ek.bool (Ek.pair (Ek.int .i64) Ek.bool))) 81 v121 s119.2.2.2.2, Res.opt pk74 vk0_r q106.2.2.2.1, Res.sl (Ek.pair (Ek.int .i64) (Ek.pair (Ek.int .i64) (Ek.pair (Ek.int .u8) (Ek.pair (Ek.int .u8) (Ek.pair Ek.bool Ek.str))))) 88 v109 q106.2.2.2.2.1, Res.sl (Ek.pair (Ek.int .i64) (Ek.pair (Ek.int .i64) (Ek.pair (Ek.int .u8) (Ek.pair (Ek.int .u8) (Ek.pair Ek.bool Ek.str))))) 88 v110 q106.2.2.2.2.2.1, Res.map (fun x : Int => Value.int .i64 x) v111 q106.2.2.2.2.2.2.2.2.1, Res.sl Ek.str 9 v112 q106.2.2.2.2.2.2.2.2.2.2.2.2.1, Res.sl (Ek.int .i64) 3 v113 q106.2.2.2.2.2.2.2.2.2.2.2.2.2.2, Res.obj 68 ok0 [.int .i64 q106.2.1, vk0_s, vk0_r, v109, v110, vk0_picks, .int .i64 q106.2.2.2.2.2.2.2.1, v111, .int .i64 q106.2.2.2.2.2.2.2.2.2.1, .int .i64 q106.2.2.2.2.2.2.2.2.2.2.1, .int .i64 q106.2.2.2.2.2.2.2.2.2.2.2.1, v112, .bool q106.2.2.2.2.2.2.2.2.2.2.2.2.2.1, v113], Res.obj 88 v56 [.int .i64 ((gt k0c_3 i6).1), .int .i64 ((gt k0c_3 i6).2.1), .int .u8 (((gt k0c_3 i6).2.2).1), .int .u8 (((gt k0c_3 i6).2.2).2.1), .bool (((gt k0c_3 i6).2.2).2.2.1), .string (((gt k0c_3 i6).2.2).2.2.2)], Res.obj 31 v102 [.int .u8 q95.2.1.1, .int .u8 q95.2.1.2.1, .bool q95.2.1.2.2.1, .string q95.2.1.2.2.2], Res.sl Ek.str 9 v98 q95.1, Res.sl (Ek.pair (Ek.int .i64) (Ek.pair (Ek.int .i64) (Ek.pair (Ek.int .u8) (Ek.pair (Ek.int .u8) (Ek.pair Ek.bool Ek.str))))) 88 v34 later5]) (tail := ow) (rs' := [Res.opt pk74 vk0_r q106.2.2.2.1, Res.obj 79 vk0_s [.int .i64 s119.1, .int .i64 s119.2.1, .int .i64 s119.2.2.1, .int .i64 s119.2.2.2.1, v121], Res.sl (Ek.pair Ek.str (Ek.pair Ek.bool (Ek.pair (Ek.int .i64) Ek.bool))) 81 v121 s119.2.2.2.2, Res.sl (Ek.pair (Ek.int .i64) (Ek.pair (Ek.int .i64) (Ek.pair (Ek.int .u8) (Ek.pair (Ek.int .u8) (Ek.pair Ek.bool Ek.str))))) 88 v109 q106.2.2.2.2.1, Res.sl (Ek.pair (Ek.int .i64) (Ek.pair (Ek.int .i64) (Ek.pair (Ek.int .u8) (Ek.pair (Ek.int .u8) (Ek.pair Ek.bool Ek.str))))) 88 v110 q106.2.2.2.2.2.1, Res.map (fun x : Int => Value.int .i64 x) v111 q106.2.2.2.2.2.2.2.2.1, Res.sl Ek.str 9 v112 q106.2.2.2.2.2.2.2.2.2.2.2.2.1, Res.sl (Ek.int .i64) 3 v113 q106.2.2.2.2.2.2.2.2.2.2.2.2.2.2, Res.obj 68 ok0 [.int .i64 q106.2.1, vk0_s, vk0_r, v109, v110, vk0_picks, .int .i64 q106.2.2.2.2.2.2.2.1, v111, .int .i64 q106.2.2.2.2.2.2.2.2.2.1, .int .i64 q106.2.2.2.2.2.2.2.2.2.2.1, .int .i64 q106.2.2.2.2.2.2.2.2.2.2.2.1, v112, .bool q106.2.2.2.2.2.2.2.2.2.2.2.2.2.1, v113], Res.obj 88 v56 [.int .i64 ((gt k0c_3 i6).1), .int .i64 ((gt k0c_3 i6).2.1), .int .u8 (((gt k0c_3 i6).2.2).1), .int .u8 (((gt k0c_3 i6).2.2).2.1), .bool (((gt k0c_3 i6).2.2).2.2.1), .string (((gt k0c_3 i6).2.2).2.2.2)], Res.obj 31 v102 [.int .u8 q95.2.1.1, .int .u8 q95.2.1.2.1, .bool q95.2.1.2.2.1, .string q95.2.1.2.2.2], Res.sl Ek.str 9 v98 q95.1, Res.sl (Ek.pair (Ek.int .i64) (Ek.pair (Ek.int .i64) (Ek.pair (Ek.int .u8) (Ek.pair (Ek.int .u8) (Ek.pair Ek.bool Ek.str))))) 88 v34 later5]) hp [2, 0, 1, 3, 4, 5, 6, 7, 8, 9, 10, 11, 12] (by decide) (by simp) rfl
    replace hp : Hp _ _ _ (pk74.R vk0_r s123 :: _ :: _ :: _ :: _ :: _ :: _ :: _ :: _ :: _ :: _ :: _ :: _ :: ow) := hp.optSome hs124
    obtain ⟨v125, hp⟩ := pk74_in hp
    replace hp : Hp _ _ _ (Res.obj 74 vk0_r [.int .i64 s123.1, .int .i64 s123.2.1, v125] :: Res.map (fun x : ByteArray => Value.string x) v125 s123.2.2 :: _ :: _ :: _ :: _ :: _ :: _ :: _ :: _ :: _ :: _ :: _ :: _ :: ow) := hp
    refine wpList_cut 6 (fun a w => Fr 190 a [(0, ok0), (1, .int .i64 now1), (5, v34), (6, .int .i64 i6), (9, optr v102 0), (11, .int .i64 q106.1), (88, .bool (((iand .i64 q106.1 (1 : Int)) == (1 : Int)) && (decide (q106.2.2.2.2.2.2.2.2.2.1 < (3 : Int)))))] ∧ Hp S w0 w (Res.obj 74 vk0_r [.int .i64 s123.1, .int .i64 s123.2.1, v125] :: Res.map (fun x : ByteArray => Value.string x) v125 s123.2.2 :: Res.obj 79 vk0_s [.int .i64 s119.1, .int .i64 s119.2.1, .int .i64 s119.2.2.1, .int .i64 s119.2.2.2.1, v121] :: Res.sl (Ek.pair Ek.str (Ek.pair Ek.bool (Ek.pair (Ek.int .i64) Ek.bool))) 81 v121 s119.2.2.2.2 :: Res.sl (Ek.pair (Ek.int .i64) (Ek.pair (Ek.int .i64) (Ek.pair (Ek.int .u8) (Ek.pair (Ek.int .u8) (Ek.pair Ek.bool Ek.str))))) 88 v109 q106.2.2.2.2.1 :: Res.sl (Ek.pair (Ek.int .i64) (Ek.pair (Ek.int .i64) (Ek.pair (Ek.int .u8) (Ek.pair (Ek.int .u8) (Ek.pair Ek.bool Ek.str))))) 88 v110 q106.2.2.2.2.2.1 :: Res.map (fun x : Int => Value.int .i64 x) v111 q106.2.2.2.2.2.2.2.2.1 :: Res.sl Ek.str 9 v112 q106.2.2.2.2.2.2.2.2.2.2.2.2.1 :: Res.sl (Ek.int .i64) 3 v113 q106.2.2.2.2.2.2.2.2.2.2.2.2.2.2 :: Res.obj 68 ok0 [.int .i64 q106.2.1, vk0_s, vk0_r, v109, v110, vk0_picks, .int .i64 q106.2.2.2.2.2.2.2.1, v111, .int .i64 q106.2.2.2.2.2.2.2.2.2.1, .int .i64 q106.2.2.2.2.2.2.2.2.2.2.1, .int .i64 q106.2.2.2.2.2.2.2.2.2.2.2.1, v112, .bool q106.2.2.2.2.2.2.2.2.2.2.2.2.2.1, v113] :: Res.obj 88 v56 [.int .i64 ((gt k0c_3 i6).1), .int .i64 ((gt k0c_3 i6).2.1), .int .u8 (((gt k0c_3 i6).2.2).1), .int .u8 (((gt k0c_3 i6).2.2).2.1), .bool (((gt k0c_3 i6).2.2).2.2.1), .string (((gt k0c_3 i6).2.2).2.2.2)] :: Res.obj 31 v102 [.int .u8 q95.2.1.1, .int .u8 q95.2.1.2.1, .bool q95.2.1.2.2.1, .string q95.2.1.2.2.2] :: Res.sl Ek.str 9 v98 q95.1 :: Res.sl (Ek.pair (Ek.int .i64) (Ek.pair (Ek.int .i64) (Ek.pair (Ek.int .u8) (Ek.pair (Ek.int .u8) (Ek.pair Ek.bool Ek.str))))) 88 v34 later5 :: ow)) ?_ ?_
    ·
     rcases Bool.eq_false_or_eq_true ((iand .i64 q106.1 (1 : Int)) == (1 : Int)) with hb128 | hb128
     ·
      refine st_move hf (wantY hf rfl rfl hb128) rfl (by decide) ?_
      clear hf; intro a ha hf; clear ha
      refine st_nilV hf (by decide) (wantY hf rfl rfl hb128) rfl (hp.ob (i := 9) rfl) ?_
      clear hf; intro a ha hf; clear ha
      refine st_fa (o' := 8) hf (by decide) (off := 8) (sz := 1) (by kernel_rfl) (by decide) (wantY hf rfl rfl hb128) rfl (hp.ob (i := 9) rfl) rfl ?_
      clear hf; intro a ha hf; clear ha
      refine st_ldO (u := .int .i64 q106.2.2.2.2.2.2.2.2.2.1) hf (by decide) pl3 (wantY hf rfl rfl hb128) rfl (hp.ob (i := 9) rfl) rfl ?_
      clear hf; intro a ha hf; clear ha
      refine st_ilss hf (by decide) (wantY hf rfl rfl hb128) rfl rfl ?_
      clear hf; intro a ha hf; clear ha
      refine st_pick (v := .bool (decide (q106.2.2.2.2.2.2.2.2.2.1 < (3 : Int)))) hf rfl rfl (fun hb' => ?_) (fun hb' => ?_) (by decide) ?_
      · rfl
      · exact absurd (hb128.symm.trans hb') (by decide)
      clear hf; intro a ha hf; clear ha
      refine st_nil hf (th_n ?_)
      exact ⟨hf.sub ⟨rfl, rfl, rfl, rfl, rfl, rfl, (by rw [hb128]; rfl), trivial⟩, hp⟩
     refine st_skip hf (wantN hf rfl rfl hb128) rfl (by decide) ?_ rfl
     clear hf; intro a hf
     refine st_skip hf (wantN hf rfl rfl hb128) rfl (by decide) ?_ rfl
     clear hf; intro a hf
     refine st_skip hf (wantN hf rfl rfl hb128) rfl (by decide) ?_ rfl
     clear hf; intro a hf
     refine st_skip hf (wantN hf rfl rfl hb128) rfl (by decide) ?_ rfl
     clear hf; intro a hf
     refine st_skip hf (wantN hf rfl rfl hb128) rfl (by decide) ?_ rfl
     clear hf; intro a hf
     refine st_pick (v := .bool false) hf rfl rfl (fun hb' => ?_) (fun hb' => ?_) (by decide) ?_
     · exact absurd (hb128.symm.trans hb') (by decide)
     · rfl
     clear hf; intro a ha hf; clear ha
     refine st_nil hf (th_n ?_)
     exact ⟨hf.sub ⟨rfl, rfl, rfl, rfl, rfl, rfl, (by rw [hb128]; rfl), trivial⟩, hp⟩
    rintro a w ⟨hf, hp⟩
    refine st_nil hf ?_
    refine th_n ?_
    refine wp_if hf rfl (fun hb => ?_) (fun hb => ?_)
    ·
     replace h := ifT h hb
     refine wp_seq ?_
     refine wp_reg ?_
     refine st_move hf rfl rfl (by decide) ?_
     clear hf; intro a ha hf; clear ha
     refine st_nilV hf (by decide) rfl rfl (hp.ob (i := 9) rfl) ?_
     clear hf; intro a ha hf; clear ha
     refine st_fa (o' := 8) hf (by decide) (off := 8) (sz := 1) (by kernel_rfl) (by decide) rfl rfl (hp.ob (i := 9) rfl) rfl ?_
     clear hf; intro a ha hf; clear ha
     refine st_ldO (u := .int .i64 q106.2.2.2.2.2.2.2.2.2.1) hf (by decide) pl3 rfl rfl (hp.ob (i := 9) rfl) rfl ?_
     clear hf; intro a ha hf; clear ha
     refine st_iadd hf (by decide) rfl rfl rfl ?_
     clear hf; intro a ha hf; clear ha
     refine st_nilV hf (by decide) rfl rfl (hp.ob (i := 9) rfl) ?_
     clear hf; intro a ha hf; clear ha
     refine st_fa (o' := 8) hf (by decide) (off := 8) (sz := 1) (by kernel_rfl) (by decide) rfl rfl (hp.ob (i := 9) rfl) rfl ?_
     clear hf; intro a ha hf; clear ha
     refine st_stO (us := [.int .i64 (IntKind.i64.wrap (q106.2.2.2.2.2.2.2.2.2.1 + (1 : Int)))]) hf hp (i := 9) rfl rfl rfl rfl rfl (by rfl) (by kernel_rfl) (Nat.le_of_ble_eq_true rfl) ?_
     clear hf; intro a w hf hp0; clear hp; have hp := hp0; clear hp0
     replace hp : Hp _ _ _ (_ :: _ :: _ :: _ :: _ :: _ :: _ :: _ :: _ :: Res.obj 68 ok0 [.int .i64 q106.2.1, vk0_s, vk0_r, v109, v110, vk0_picks, .int .i64 q106.2.2.2.2.2.2.2.1, v111, .int .i64 (IntKind.i64.wrap (q106.2.2.2.2.2.2.2.2.2.1 + (1 : Int))), .int .i64 q106.2.2.2.2.2.2.2.2.2.2.1, .int .i64 q106.2.2.2.2.2.2.2.2.2.2.2.1, v112, .bool q106.2.2.2.2.2.2.2.2.2.2.2.2.2.1, v113] :: _ :: _ :: _ :: _ :: ow) := hp
     refine st_nil hf ?_
     refine th_n ?_
     refine wp_exit ?_
     refine th_e ?_
     refine ib_same ?_
     refine th_n ?_
     refine wp_reg ?_
     refine st_move hf rfl rfl (by decide) ?_
     clear hf; intro a ha hf; clear ha
     refine st_iadd hf (by decide) rfl rfl rfl ?_
     clear hf; intro a ha hf; clear ha
     refine st_assign hf rfl rfl (by decide) ?_
     clear hf; intro a ha hf; clear ha
     refine st_nil hf ?_
     obtain rfl := Option.some.inj h
     have hp : Hp _ _ _ (_ :: _ :: _ :: _ :: _ :: _ :: _ :: _ :: _ :: _ :: _ :: ow) := Hp.sel (pre := [Res.obj 74 vk0_r [.int .i64 s123.1, .int .i64 s123.2.1, v125], Res.map (fun x : ByteArray => Value.string x) v125 s123.2.2, Res.obj 79 vk0_s [.int .i64 s119.1, .int .i64 s119.2.1, .int .i64 s119.2.2.1, .int .i64 s119.2.2.2.1, v121], Res.sl (Ek.pair Ek.str (Ek.pair Ek.bool (Ek.pair (Ek.int .i64) Ek.bool))) 81 v121 s119.2.2.2.2, Res.sl (Ek.pair (Ek.int .i64) (Ek.pair (Ek.int .i64) (Ek.pair (Ek.int .u8) (Ek.pair (Ek.int .u8) (Ek.pair Ek.bool Ek.str))))) 88 v109 q106.2.2.2.2.1, Res.sl (Ek.pair (Ek.int .i64) (Ek.pair (Ek.int .i64) (Ek.pair (Ek.int .u8) (Ek.pair (Ek.int .u8) (Ek.pair Ek.bool Ek.str))))) 88 v110 q106.2.2.2.2.2.1, Res.map (fun x : Int => Value.int .i64 x) v111 q106.2.2.2.2.2.2.2.2.1, Res.sl Ek.str 9 v112 q106.2.2.2.2.2.2.2.2.2.2.2.2.1, Res.sl (Ek.int .i64) 3 v113 q106.2.2.2.2.2.2.2.2.2.2.2.2.2.2, Res.obj 68 ok0 [.int .i64 q106.2.1, vk0_s, vk0_r, v109, v110, vk0_picks, .int .i64 q106.2.2.2.2.2.2.2.1, v111, .int .i64 (IntKind.i64.wrap (q106.2.2.2.2.2.2.2.2.2.1 + (1 : Int))), .int .i64 q106.2.2.2.2.2.2.2.2.2.2.1, .int .i64 q106.2.2.2.2.2.2.2.2.2.2.2.1, v112, .bool q106.2.2.2.2.2.2.2.2.2.2.2.2.2.1, v113], Res.obj 88 v56 [.int .i64 ((gt k0c_3 i6).1), .int .i64 ((gt k0c_3 i6).2.1), .int .u8 (((gt k0c_3 i6).2.2).1), .int .u8 (((gt k0c_3 i6).2.2).2.1), .bool (((gt k0c_3 i6).2.2).2.2.1), .string (((gt k0c_3 i6).2.2).2.2.2)], Res.obj 31 v102 [.int .u8 q95.2.1.1, .int .u8 q95.2.1.2.1, .bool q95.2.1.2.2.1, .string q95.2.1.2.2.2], Res.sl Ek.str 9 v98 q95.1, Res.sl (Ek.pair (Ek.int .i64) (Ek.pair (Ek.int .i64) (Ek.pair (Ek.int .u8) (Ek.pair (Ek.int .u8) (Ek.pair Ek.bool Ek.str))))) 88 v34 later5]) (tail := ow) (rs' := [Res.sl (Ek.pair Ek.str (Ek.pair Ek.bool (Ek.pair (Ek.int .i64) Ek.bool))) 81 v121 s119.2.2.2.2, Res.obj 79 vk0_s [.int .i64 s119.1, .int .i64 s119.2.1, .int .i64 s119.2.2.1, .int .i64 s119.2.2.2.1, v121], Res.map (fun x : ByteArray => Value.string x) v125 s123.2.2, Res.obj 74 vk0_r [.int .i64 s123.1, .int .i64 s123.2.1, v125], Res.sl (Ek.pair (Ek.int .i64) (Ek.pair (Ek.int .i64) (Ek.pair (Ek.int .u8) (Ek.pair (Ek.int .u8) (Ek.pair Ek.bool Ek.str))))) 88 v109 q106.2.2.2.2.1, Res.sl (Ek.pair (Ek.int .i64) (Ek.pair (Ek.int .i64) (Ek.pair (Ek.int .u8) (Ek.pair (Ek.int .u8) (Ek.pair Ek.bool Ek.str))))) 88 v110 q106.2.2.2.2.2.1, Res.map (fun x : Int => Value.int .i64 x) v111 q106.2.2.2.2.2.2.2.2.1, Res.sl Ek.str 9 v112 q106.2.2.2.2.2.2.2.2.2.2.2.2.1, Res.sl (Ek.int .i64) 3 v113 q106.2.2.2.2.2.2.2.2.2.2.2.2.2.2, Res.obj 68 ok0 [.int .i64 q106.2.1, vk0_s, vk0_r, v109, v110, vk0_picks, .int .i64 q106.2.2.2.2.2.2.2.1, v111, .int .i64 (IntKind.i64.wrap (q106.2.2.2.2.2.2.2.2.2.1 + (1 : Int))), .int .i64 q106.2.2.2.2.2.2.2.2.2.2.1, .int .i64 q106.2.2.2.2.2.2.2.2.2.2.2.1, v112, .bool q106.2.2.2.2.2.2.2.2.2.2.2.2.2.1, v113], Res.sl (Ek.pair (Ek.int .i64) (Ek.pair (Ek.int .i64) (Ek.pair (Ek.int .u8) (Ek.pair (Ek.int .u8) (Ek.pair Ek.bool Ek.str))))) 88 v34 later5]) hp [3, 2, 1, 0, 4, 5, 6, 7, 8, 9, 13] (by decide) (by simp) rfl
     exact rnd_l ⟨_, _, _, _, _, _, _, _, hf.sub ⟨rfl, rfl, rfl, rfl, trivial⟩, hp⟩
    replace h := ifF h hb
    refine wp_skip ?_
    refine th_n ?_
    refine wp_seq ?_
    refine wp_reg ?_
    refine st_move hf rfl rfl (by decide) ?_
    clear hf; intro a ha hf; clear ha
    refine st_nilV hf (by decide) rfl rfl (hp.ob (i := 9) rfl) ?_
    clear hf; intro a ha hf; clear ha
    refine st_fa (o' := 8) hf (by decide) (off := 8) (sz := 1) (by kernel_rfl) (by decide) rfl rfl (hp.ob (i := 9) rfl) rfl ?_
    clear hf; intro a ha hf; clear ha
    refine st_stO (us := [.int .i64 (0 : Int)]) hf hp (i := 9) rfl rfl rfl rfl rfl (by rfl) (by kernel_rfl) (Nat.le_of_ble_eq_true rfl) ?_
    clear hf; intro a w hf hp0; clear hp; have hp := hp0; clear hp0
    replace hp : Hp _ _ _ (_ :: _ :: _ :: _ :: _ :: _ :: _ :: _ :: _ :: Res.obj 68 ok0 [.int .i64 q106.2.1, vk0_s, vk0_r, v109, v110, vk0_picks, .int .i64 q106.2.2.2.2.2.2.2.1, v111, .int .i64 (0 : Int), .int .i64 q106.2.2.2.2.2.2.2.2.2.2.1, .int .i64 q106.2.2.2.2.2.2.2.2.2.2.2.1, v112, .bool q106.2.2.2.2.2.2.2.2.2.2.2.2.2.1, v113] :: Res.obj 88 v56 [.int .i64 ((gt k0c_3 i6).1), .int .i64 ((gt k0c_3 i6).2.1), .int .u8 (((gt k0c_3 i6).2.2).1), .int .u8 (((gt k0c_3 i6).2.2).2.1), .bool (((gt k0c_3 i6).2.2).2.2.1), .string (((gt k0c_3 i6).2.2).2.2.2)] :: Res.obj 31 v102 [.int .u8 q95.2.1.1, .int .u8 q95.2.1.2.1, .bool q95.2.1.2.2.1, .string q95.2.1.2.2.2] :: Res.sl Ek.str 9 v98 q95.1 :: _ :: ow) := hp
    refine st_nil hf ?_
    refine th_n ?_
    obtain ⟨S129, hp130, rd131, up132, bk133⟩ := Hp.lendO hp (i := 9) rfl
    obtain ⟨S134, hp135, rd136, up137, bk138⟩ := Hp.lendO hp130 (i := 10) rfl
    have rl139 := ((rd131.now hp130).mono up137)
    have rl140 := ((((hk0_picks.now hp).mono up132).now hp130).mono up137)
    have rl141 := rd136
    obtain ⟨q142, hcall143, h⟩ := bnd h
    obtain ⟨hc151, h⟩ := chk h
    refine wp_cutN (fun a w => ∃ (v149 : Value) (v152 : Value), Fr 190 a [(0, ok0), (1, .int .i64 now1), (5, v34), (6, .int .i64 i6)] ∧ Hp S w0 w (Res.obj 68 ok0 [.int .i64 q106.2.1, vk0_s, vk0_r, v109, v152, vk0_picks, .int .i64 q106.2.2.2.2.2.2.2.1, v111, .int .i64 (0 : Int), .int .i64 q106.2.2.2.2.2.2.2.2.2.2.1, .int .i64 q106.2.2.2.2.2.2.2.2.2.2.2.1, v112, .bool q106.2.2.2.2.2.2.2.2.2.2.2.2.2.1, v113] :: Res.obj 31 v102 [.int .u8 q95.2.1.1, .int .u8 q95.2.1.2.1, .bool q95.2.1.2.2.1, .string q95.2.1.2.2.2] :: Res.sl (Ek.pair (Ek.int .i64) (Ek.pair (Ek.int .i64) (Ek.pair (Ek.int .u8) (Ek.pair (Ek.int .u8) (Ek.pair Ek.bool Ek.str))))) 88 v149 ([((IntKind.i64.wrap ((IntKind.i64.wrap (now1 + (1 : Int))) + (iand .i64 (ishr .i64 q106.1 (1 : Int)) (3 : Int)))), q142, (q95.2.1.1, q95.2.1.2.1, q95.2.1.2.2.1, q95.2.1.2.2.2))]) :: Res.obj 74 vk0_r [.int .i64 s123.1, .int .i64 s123.2.1, v125] :: Res.map (fun x : ByteArray => Value.string x) v125 s123.2.2 :: Res.obj 79 vk0_s [.int .i64 s119.1, .int .i64 s119.2.1, .int .i64 s119.2.2.1, .int .i64 s119.2.2.2.1, v121] :: Res.sl (Ek.pair Ek.str (Ek.pair Ek.bool (Ek.pair (Ek.int .i64) Ek.bool))) 81 v121 s119.2.2.2.2 :: Res.sl (Ek.pair (Ek.int .i64) (Ek.pair (Ek.int .i64) (Ek.pair (Ek.int .u8) (Ek.pair (Ek.int .u8) (Ek.pair Ek.bool Ek.str))))) 88 v109 q106.2.2.2.2.1 :: Res.sl (Ek.pair (Ek.int .i64) (Ek.pair (Ek.int .i64) (Ek.pair (Ek.int .u8) (Ek.pair (Ek.int .u8) (Ek.pair Ek.bool Ek.str))))) 88 v152 (q106.2.2.2.2.2.1 ++ [((IntKind.i64.wrap ((IntKind.i64.wrap (now1 + (1 : Int))) + (iand .i64 (ishr .i64 q106.1 (1 : Int)) (3 : Int)))), q142, (q95.2.1.1, q95.2.1.2.1, q95.2.1.2.2.1, q95.2.1.2.2.2))]) :: Res.map (fun x : Int => Value.int .i64 x) v111 q106.2.2.2.2.2.2.2.2.1 :: Res.sl Ek.str 9 v112 q106.2.2.2.2.2.2.2.2.2.2.2.2.1 :: Res.sl (Ek.int .i64) 3 v113 q106.2.2.2.2.2.2.2.2.2.2.2.2.2.2 :: Res.obj 88 v56 [.int .i64 ((gt k0c_3 i6).1), .int .i64 ((gt k0c_3 i6).2.1), .int .u8 (((gt k0c_3 i6).2.2).1), .int .u8 (((gt k0c_3 i6).2.2).2.1), .bool (((gt k0c_3 i6).2.2).2.2.1), .string (((gt k0c_3 i6).2.2).2.2.2)] :: Res.sl Ek.str 9 v98 q95.1 :: Res.sl (Ek.pair (Ek.int .i64) (Ek.pair (Ek.int .i64) (Ek.pair (Ek.int .u8) (Ek.pair (Ek.int .u8) (Ek.pair Ek.bool Ek.str))))) 88 v34 later5 :: ow)) ?_ ?_
    ·
     have hp := hp135.same (Same.drew w)
     refine dr_begin' _ (fun w' => ∃ l, Hp S134 w w' l) [22] (by kernel_rfl) ?_
     refine dr_takeP 0 (ok0) rfl (by kernel_rfl) (by kernel_rfl) (by kernel_rfl) rfl rfl hf (by decide) rfl (fun w => ?_) ?_
     ·
      refine st_move hf rfl rfl (by decide) ?_
      clear hf; intro a ha hf
      exact st_nil hf (th_n ⟨ha, rfl⟩)
     clear hf; intro a hf
     refine dr_takeP 1 (ok0) rfl (by kernel_rfl) (by kernel_rfl) (by kernel_rfl) rfl rfl hf (by decide) rfl (fun w => ?_) ?_
     ·
      refine st_move hf rfl rfl (by decide) ?_
      clear hf; intro a ha hf
      exact st_nil hf (th_n ⟨ha, rfl⟩)
     clear hf; intro a hf
     refine dr_nilV 2 rfl (by kernel_rfl) (by kernel_rfl) (by kernel_rfl) hf (by decide) rfl rfl (rl139.mono fun _ _ => trivial) ?_
     clear hf; intro a hf
     refine dr_takeP 3 (optr ok0 4) rfl (by kernel_rfl) (by kernel_rfl) (by kernel_rfl) rfl rfl hf (by decide) rfl (fun w => ?_) ?_
     ·
      refine st_fa (o' := 4) hf (by decide) (off := 4) (sz := 1) (by kernel_rfl) (by decide) rfl rfl (rl139.mono fun _ _ => trivial) rfl ?_
      clear hf; intro a ha hf
      exact st_nil hf (th_n ⟨ha, rfl⟩)
     clear hf; intro a hf
     refine dr_take2 4 (v110) rfl (by kernel_rfl) (by kernel_rfl) (by kernel_rfl) (by kernel_rfl) (by kernel_rfl) rfl rfl hf (by decide) rfl (fun w hp => ?_) ⟨_, hp⟩ ?_
     ·
      obtain ⟨_, hp⟩ := hp
      refine st_ldO (u := v110) hf (by decide) pl66 rfl rfl (rl139.ob hp) rfl ?_
      clear hf; intro a ha hf
      exact st_nil hf (th_n ⟨ha, rfl⟩)
     clear hf; intro a hf
     refine dr_takeP 5 (.int .i64 now1) rfl (by kernel_rfl) (by kernel_rfl) (by kernel_rfl) rfl rfl hf (by decide) rfl (fun w => ?_) ?_
     ·
      refine st_move hf rfl rfl (by decide) ?_
      clear hf; intro a ha hf
      exact st_nil hf (th_n ⟨ha, rfl⟩)
     clear hf; intro a hf
     refine dr_takeP 6 (.int .i64 (IntKind.i64.wrap (now1 + (1 : Int)))) rfl (by kernel_rfl) (by kernel_rfl) (by kernel_rfl) rfl rfl hf (by decide) rfl (fun w => ?_) ?_
     ·
      refine st_iadd hf (by decide) rfl rfl rfl ?_
      clear hf; intro a ha hf
      exact st_nil hf (th_n ⟨ha, rfl⟩)
     clear hf; intro a hf
     refine dr_takeP 7 (.int .i64 q106.1) rfl (by kernel_rfl) (by kernel_rfl) (by kernel_rfl) rfl rfl hf (by decide) rfl (fun w => ?_) ?_
     ·
      refine st_move hf rfl rfl (by decide) ?_
      clear hf; intro a ha hf
      exact st_nil hf (th_n ⟨ha, rfl⟩)
     clear hf; intro a hf
     refine dr_takeP 8 (.int .i64 (ishr .i64 q106.1 (1 : Int))) rfl (by kernel_rfl) (by kernel_rfl) (by kernel_rfl) rfl rfl hf (by decide) rfl (fun w => ?_) ?_
     ·
      refine st_ishr hf (by decide) rfl rfl rfl (by decide) ?_
      clear hf; intro a ha hf
      exact st_nil hf (th_n ⟨ha, rfl⟩)
     clear hf; intro a hf
     refine dr_takeP 9 (.int .i64 (iand .i64 (ishr .i64 q106.1 (1 : Int)) (3 : Int))) rfl (by kernel_rfl) (by kernel_rfl) (by kernel_rfl) rfl rfl hf (by decide) rfl (fun w => ?_) ?_
     ·
      refine st_iand hf (by decide) rfl rfl rfl ?_
      clear hf; intro a ha hf
      exact st_nil hf (th_n ⟨ha, rfl⟩)
     clear hf; intro a hf
     refine dr_takeP 10 (.int .i64 (IntKind.i64.wrap ((IntKind.i64.wrap (now1 + (1 : Int))) + (iand .i64 (ishr .i64 q106.1 (1 : Int)) (3 : Int))))) rfl (by kernel_rfl) (by kernel_rfl) (by kernel_rfl) rfl rfl hf (by decide) rfl (fun w => ?_) ?_
     ·
      refine st_iadd hf (by decide) rfl rfl rfl ?_
      clear hf; intro a ha hf
      exact st_nil hf (th_n ⟨ha, rfl⟩)
     clear hf; intro a hf
     refine dr_takeP 11 (ok0) rfl (by kernel_rfl) (by kernel_rfl) (by kernel_rfl) rfl rfl hf (by decide) rfl (fun w => ?_) ?_
     ·
      refine st_move hf rfl rfl (by decide) ?_
      clear hf; intro a ha hf
      exact st_nil hf (th_n ⟨ha, rfl⟩)
     clear hf; intro a hf
     refine dr_nilV 12 rfl (by kernel_rfl) (by kernel_rfl) (by kernel_rfl) hf (by decide) rfl rfl (rl139.mono fun _ _ => trivial) ?_
     clear hf; intro a hf
     refine dr_takeP 13 (optr ok0 2) rfl (by kernel_rfl) (by kernel_rfl) (by kernel_rfl) rfl rfl hf (by decide) rfl (fun w => ?_) ?_
     ·
      refine st_fa (o' := 2) hf (by decide) (off := 2) (sz := 1) (by kernel_rfl) (by decide) rfl rfl (rl139.mono fun _ _ => trivial) rfl ?_
      clear hf; intro a ha hf
      exact st_nil hf (th_n ⟨ha, rfl⟩)
     clear hf; intro a hf
     refine dr_take2 14 (vk0_r) rfl (by kernel_rfl) (by kernel_rfl) (by kernel_rfl) (by kernel_rfl) (by kernel_rfl) rfl rfl hf (by decide) rfl (fun w hp => ?_) ⟨_, hp⟩ ?_
     ·
      obtain ⟨_, hp⟩ := hp
      refine st_ldO (u := vk0_r) hf (by decide) pl23 rfl rfl (rl139.ob hp) rfl ?_
      clear hf; intro a ha hf
      exact st_nil hf (th_n ⟨ha, rfl⟩)
     clear hf; intro a hf
     refine dr_take2 16 (.agg #[.int .u8 q95.2.1.1, .int .u8 q95.2.1.2.1, .bool q95.2.1.2.2.1, .string q95.2.1.2.2.2]) rfl (by kernel_rfl) (by kernel_rfl) (by kernel_rfl) (by kernel_rfl) (by kernel_rfl) rfl rfl hf (by decide) rfl (fun w hp => ?_) ⟨_, hp⟩ ?_
     ·
      obtain ⟨_, hp⟩ := hp
      refine st_ldOA (m := 4) (us := [.int .u8 q95.2.1.1, .int .u8 q95.2.1.2.1, .bool q95.2.1.2.2.1, .string q95.2.1.2.2.2]) hf (by decide) (by kernel_rfl) rfl rfl (rl141.ob hp) rfl rfl ?_
      clear hf; intro a ha hf
      exact st_nil hf (th_n ⟨ha, rfl⟩)
     clear hf; intro a hf
     refine dr_one 15 rfl (by kernel_rfl) ?_
     obtain ⟨S144, hp145, rd146, up147, bk148⟩ := Hp.lendO hp (i := 0) rfl
     refine st_call hf (by decide) Try.func14 rfl rfl rfl rfl rfl (f_again_Receiver_Handed_c hp145 _ _ _ _ rd146 hcall143) ?_
     rintro _ w ⟨rfl, hp0⟩
     have hp0 := bk148 _ _ hp0
     clear hp; have hp := hp0; clear hp0
     replace hp : Hp _ _ _ (_ :: _ :: _ :: _ :: _ :: _ :: _ :: _ :: _ :: _ :: _ :: _ :: ow) := hp
     refine ⟨_, rfl, ?_⟩
     clear hf; intro a hf
     refine nx hf (fun _ _ => ⟨_, hp⟩) ?_
     refine dr_takeP 17 (.agg #[.int .i64 (IntKind.i64.wrap ((IntKind.i64.wrap (now1 + (1 : Int))) + (iand .i64 (ishr .i64 q106.1 (1 : Int)) (3 : Int)))), .int .i64 q142, .int .u8 q95.2.1.1, .int .u8 q95.2.1.2.1, .bool q95.2.1.2.2.1, .string q95.2.1.2.2.2]) rfl (by kernel_rfl) (by kernel_rfl) (by kernel_rfl) rfl rfl hf (by decide) rfl (fun w => ?_) ?_
     ·
      refine st_buildA (vals := [(0, .int .i64 (IntKind.i64.wrap ((IntKind.i64.wrap (now1 + (1 : Int))) + (iand .i64 (ishr .i64 q106.1 (1 : Int)) (3 : Int))))), (1, .int .i64 q142), (2, .agg #[.int .u8 q95.2.1.1, .int .u8 q95.2.1.2.1, .bool q95.2.1.2.2.1, .string q95.2.1.2.2.2])]) (cells := [.int .i64 (IntKind.i64.wrap ((IntKind.i64.wrap (now1 + (1 : Int))) + (iand .i64 (ishr .i64 q106.1 (1 : Int)) (3 : Int)))), .int .i64 q142, .int .u8 q95.2.1.1, .int .u8 q95.2.1.2.1, .bool q95.2.1.2.2.1, .string q95.2.1.2.2.2]) hf (by decide) rfl (by simp [hf.ev (x := (Operand.tmp 109)) rfl, hf.ev (x := (Operand.tmp 114)) rfl, hf.ev (x := (Operand.tmp 115)) rfl]) (fun w => by kernel_rfl) ?_
      clear hf; intro a ha hf
      exact st_nil hf (th_n ⟨ha, rfl⟩)
     clear hf; intro a hf
     refine dr_one 18 rfl (by kernel_rfl) ?_
     refine st_build (E := (Ek.pair (Ek.int .i64) (Ek.pair (Ek.int .i64) (Ek.pair (Ek.int .u8) (Ek.pair (Ek.int .u8) (Ek.pair Ek.bool Ek.str)))))) (xs := [((IntKind.i64.wrap ((IntKind.i64.wrap (now1 + (1 : Int))) + (iand .i64 (ishr .i64 q106.1 (1 : Int)) (3 : Int)))), q142, (q95.2.1.1, q95.2.1.2.1, q95.2.1.2.2.1, q95.2.1.2.2.2))]) hf (by decide) elt88 Try.underlying66 hp (vals := #[(0, .agg #[.int .i64 (IntKind.i64.wrap ((IntKind.i64.wrap (now1 + (1 : Int))) + (iand .i64 (ishr .i64 q106.1 (1 : Int)) (3 : Int)))), .int .i64 q142, .int .u8 q95.2.1.1, .int .u8 q95.2.1.2.1, .bool q95.2.1.2.2.1, .string q95.2.1.2.2.2])]) (cells := #[.int .i64 (IntKind.i64.wrap ((IntKind.i64.wrap (now1 + (1 : Int))) + (iand .i64 (ishr .i64 q106.1 (1 : Int)) (3 : Int)))), .int .i64 q142, .int .u8 q95.2.1.1, .int .u8 q95.2.1.2.1, .bool q95.2.1.2.2.1, .string q95.2.1.2.2.2]) rfl (by simp [hf.ev (x := (Operand.tmp 116)) rfl]) (by decide) (by decide) (z := .agg #[.int .i64 0, .int .i64 0, .int .u8 0, .int .u8 0, .bool false, .string ByteArray.empty]) (by kernel_rfl) (by kernel_rfl) rfl (reps_cons (cs := [.int .i64 (IntKind.i64.wrap ((IntKind.i64.wrap (now1 + (1 : Int))) + (iand .i64 (ishr .i64 q106.1 (1 : Int)) (3 : Int)))), .int .i64 q142, .int .u8 q95.2.1.1, .int .u8 q95.2.1.2.1, .bool q95.2.1.2.2.1, .string q95.2.1.2.2.2]) ⟨[.int .i64 (IntKind.i64.wrap ((IntKind.i64.wrap (now1 + (1 : Int))) + (iand .i64 (ishr .i64 q106.1 (1 : Int)) (3 : Int))))], [.int .i64 q142, .int .u8 q95.2.1.1, .int .u8 q95.2.1.2.1, .bool q95.2.1.2.2.1, .string q95.2.1.2.2.2], rfl, rfl, ⟨[.int .i64 q142], [.int .u8 q95.2.1.1, .int .u8 q95.2.1.2.1, .bool q95.2.1.2.2.1, .string q95.2.1.2.2.2], rfl, rfl, ⟨[.int .u8 q95.2.1.1], [.int .u8 q95.2.1.2.1, .bool q95.2.1.2.2.1, .string q95.2.1.2.2.2], rfl, rfl, ⟨[.int .u8 q95.2.1.2.1], [.bool q95.2.1.2.2.1, .string q95.2.1.2.2.2], rfl, rfl, ⟨[.bool q95.2.1.2.2.1], [.string q95.2.1.2.2.2], rfl, rfl, rfl⟩⟩⟩⟩⟩ (reps_nil _)) ?_
     clear hf; intro a w v149 hf hp0; clear hp; have hp := hp0; clear hp0
     replace hp : Hp _ _ _ (Res.sl (Ek.pair (Ek.int .i64) (Ek.pair (Ek.int .i64) (Ek.pair (Ek.int .u8) (Ek.pair (Ek.int .u8) (Ek.pair Ek.bool Ek.str))))) 88 v149 ([((IntKind.i64.wrap ((IntKind.i64.wrap (now1 + (1 : Int))) + (iand .i64 (ishr .i64 q106.1 (1 : Int)) (3 : Int)))), q142, (q95.2.1.1, q95.2.1.2.1, q95.2.1.2.2.1, q95.2.1.2.2.2))]) :: _ :: _ :: _ :: _ :: _ :: _ :: _ :: _ :: _ :: _ :: _ :: _ :: ow) := hp
     refine nx hf (fun _ _ => ⟨_, hp⟩) ?_
     refine dr_one 19 rfl (by kernel_rfl) ?_
     refine st_append (E := (Ek.pair (Ek.int .i64) (Ek.pair (Ek.int .i64) (Ek.pair (Ek.int .u8) (Ek.pair (Ek.int .u8) (Ek.pair Ek.bool Ek.str)))))) hf (by decide) elt88 Try.underlying66 (by decide) hp (i := 6) rfl rfl rfl rfl (hp.sl (i := 0) rfl) hc151 ?_
     clear hf; intro a w v152 hf hp0; clear hp; have hp := hp0; clear hp0
     replace hp : Hp _ _ _ (_ :: _ :: _ :: _ :: _ :: _ :: Res.sl (Ek.pair (Ek.int .i64) (Ek.pair (Ek.int .i64) (Ek.pair (Ek.int .u8) (Ek.pair (Ek.int .u8) (Ek.pair Ek.bool Ek.str))))) 88 v152 (q106.2.2.2.2.2.1 ++ [((IntKind.i64.wrap ((IntKind.i64.wrap (now1 + (1 : Int))) + (iand .i64 (ishr .i64 q106.1 (1 : Int)) (3 : Int)))), q142, (q95.2.1.1, q95.2.1.2.1, q95.2.1.2.2.1, q95.2.1.2.2.2))]) :: _ :: _ :: _ :: _ :: _ :: _ :: ow) := hp
     refine nx hf (fun _ _ => ⟨_, hp⟩) ?_
     refine dr_nilV 20 rfl (by kernel_rfl) (by kernel_rfl) (by kernel_rfl) hf (by decide) rfl rfl (rl139.mono fun _ _ => trivial) ?_
     clear hf; intro a hf
     refine dr_takeP 21 (optr ok0 4) rfl (by kernel_rfl) (by kernel_rfl) (by kernel_rfl) rfl rfl hf (by decide) rfl (fun w => ?_) ?_
     ·
      refine st_fa (o' := 4) hf (by decide) (off := 4) (sz := 1) (by kernel_rfl) (by decide) rfl rfl (rl139.mono fun _ _ => trivial) rfl ?_
      clear hf; intro a ha hf
      exact st_nil hf (th_n ⟨ha, rfl⟩)
     clear hf; intro a hf
     have hp := bk138 _ _ hp
     have hp := bk133 _ _ hp
     refine dr_one 22 rfl (by kernel_rfl) ?_
     refine st_stO (us := [v152]) hf hp (i := 0) rfl rfl rfl rfl (cells_sh (hp.sl (i := 8) rfl).shapeV) (ones_sh (hp.sl (i := 8) rfl).shapeV) (by kernel_rfl) (Nat.le_of_ble_eq_true rfl) ?_
     clear hf; intro a w hf hp0; clear hp; have hp := hp0; clear hp0
     replace hp : Hp _ _ _ (Res.obj 68 ok0 [.int .i64 q106.2.1, vk0_s, vk0_r, v109, v152, vk0_picks, .int .i64 q106.2.2.2.2.2.2.2.1, v111, .int .i64 (0 : Int), .int .i64 q106.2.2.2.2.2.2.2.2.2.2.1, .int .i64 q106.2.2.2.2.2.2.2.2.2.2.2.1, v112, .bool q106.2.2.2.2.2.2.2.2.2.2.2.2.2.1, v113] :: Res.obj 31 v102 [.int .u8 q95.2.1.1, .int .u8 q95.2.1.2.1, .bool q95.2.1.2.2.1, .string q95.2.1.2.2.2] :: _ :: _ :: _ :: _ :: _ :: _ :: _ :: _ :: _ :: _ :: _ :: _ :: _ :: ow) := hp
     refine st_nil hf (th_n ⟨fun hn => absurd hn (by decide), ?_⟩)
     refine dr_end (by kernel_rfl) ?_ _
     exact ⟨v149, v152, hf.sub ⟨rfl, rfl, rfl, rfl, trivial⟩, hp⟩
    rintro a w ⟨v149, v152, hf, hp⟩
    refine ib_n ?_
    refine th_n ?_
    refine wp_reg ?_
    refine st_move hf rfl rfl (by decide) ?_
    clear hf; intro a ha hf; clear ha
    refine st_iadd hf (by decide) rfl rfl rfl ?_
    clear hf; intro a ha hf; clear ha
    refine st_assign hf rfl rfl (by decide) ?_
    clear hf; intro a ha hf; clear ha
    refine st_nil hf ?_
    obtain rfl := Option.some.inj h
    have hp : Hp _ _ _ (_ :: _ :: _ :: _ :: _ :: _ :: _ :: _ :: _ :: _ :: _ :: ow) := Hp.sel (pre := [Res.obj 68 ok0 [.int .i64 q106.2.1, vk0_s, vk0_r, v109, v152, vk0_picks, .int .i64 q106.2.2.2.2.2.2.2.1, v111, .int .i64 (0 : Int), .int .i64 q106.2.2.2.2.2.2.2.2.2.2.1, .int .i64 q106.2.2.2.2.2.2.2.2.2.2.2.1, v112, .bool q106.2.2.2.2.2.2.2.2.2.2.2.2.2.1, v113], Res.obj 31 v102 [.int .u8 q95.2.1.1, .int .u8 q95.2.1.2.1, .bool q95.2.1.2.2.1, .string q95.2.1.2.2.2], Res.sl (Ek.pair (Ek.int .i64) (Ek.pair (Ek.int .i64) (Ek.pair (Ek.int .u8) (Ek.pair (Ek.int .u8) (Ek.pair Ek.bool Ek.str))))) 88 v149 ([((IntKind.i64.wrap ((IntKind.i64.wrap (now1 + (1 : Int))) + (iand .i64 (ishr .i64 q106.1 (1 : Int)) (3 : Int)))), q142, (q95.2.1.1, q95.2.1.2.1, q95.2.1.2.2.1, q95.2.1.2.2.2))]), Res.obj 74 vk0_r [.int .i64 s123.1, .int .i64 s123.2.1, v125], Res.map (fun x : ByteArray => Value.string x) v125 s123.2.2, Res.obj 79 vk0_s [.int .i64 s119.1, .int .i64 s119.2.1, .int .i64 s119.2.2.1, .int .i64 s119.2.2.2.1, v121], Res.sl (Ek.pair Ek.str (Ek.pair Ek.bool (Ek.pair (Ek.int .i64) Ek.bool))) 81 v121 s119.2.2.2.2, Res.sl (Ek.pair (Ek.int .i64) (Ek.pair (Ek.int .i64) (Ek.pair (Ek.int .u8) (Ek.pair (Ek.int .u8) (Ek.pair Ek.bool Ek.str))))) 88 v109 q106.2.2.2.2.1, Res.sl (Ek.pair (Ek.int .i64) (Ek.pair (Ek.int .i64) (Ek.pair (Ek.int .u8) (Ek.pair (Ek.int .u8) (Ek.pair Ek.bool Ek.str))))) 88 v152 (q106.2.2.2.2.2.1 ++ [((IntKind.i64.wrap ((IntKind.i64.wrap (now1 + (1 : Int))) + (iand .i64 (ishr .i64 q106.1 (1 : Int)) (3 : Int)))), q142, (q95.2.1.1, q95.2.1.2.1, q95.2.1.2.2.1, q95.2.1.2.2.2))]), Res.map (fun x : Int => Value.int .i64 x) v111 q106.2.2.2.2.2.2.2.2.1, Res.sl Ek.str 9 v112 q106.2.2.2.2.2.2.2.2.2.2.2.2.1, Res.sl (Ek.int .i64) 3 v113 q106.2.2.2.2.2.2.2.2.2.2.2.2.2.2, Res.obj 88 v56 [.int .i64 ((gt k0c_3 i6).1), .int .i64 ((gt k0c_3 i6).2.1), .int .u8 (((gt k0c_3 i6).2.2).1), .int .u8 (((gt k0c_3 i6).2.2).2.1), .bool (((gt k0c_3 i6).2.2).2.2.1), .string (((gt k0c_3 i6).2.2).2.2.2)], Res.sl Ek.str 9 v98 q95.1, Res.sl (Ek.pair (Ek.int .i64) (Ek.pair (Ek.int .i64) (Ek.pair (Ek.int .u8) (Ek.pair (Ek.int .u8) (Ek.pair Ek.bool Ek.str))))) 88 v34 later5]) (tail := ow) (rs' := [Res.sl (Ek.pair Ek.str (Ek.pair Ek.bool (Ek.pair (Ek.int .i64) Ek.bool))) 81 v121 s119.2.2.2.2, Res.obj 79 vk0_s [.int .i64 s119.1, .int .i64 s119.2.1, .int .i64 s119.2.2.1, .int .i64 s119.2.2.2.1, v121], Res.map (fun x : ByteArray => Value.string x) v125 s123.2.2, Res.obj 74 vk0_r [.int .i64 s123.1, .int .i64 s123.2.1, v125], Res.sl (Ek.pair (Ek.int .i64) (Ek.pair (Ek.int .i64) (Ek.pair (Ek.int .u8) (Ek.pair (Ek.int .u8) (Ek.pair Ek.bool Ek.str))))) 88 v109 q106.2.2.2.2.1, Res.sl (Ek.pair (Ek.int .i64) (Ek.pair (Ek.int .i64) (Ek.pair (Ek.int .u8) (Ek.pair (Ek.int .u8) (Ek.pair Ek.bool Ek.str))))) 88 v152 (q106.2.2.2.2.2.1 ++ [((IntKind.i64.wrap ((IntKind.i64.wrap (now1 + (1 : Int))) + (iand .i64 (ishr .i64 q106.1 (1 : Int)) (3 : Int)))), q142, (q95.2.1.1, q95.2.1.2.1, q95.2.1.2.2.1, q95.2.1.2.2.2))]), Res.map (fun x : Int => Value.int .i64 x) v111 q106.2.2.2.2.2.2.2.2.1, Res.sl Ek.str 9 v112 q106.2.2.2.2.2.2.2.2.2.2.2.2.1, Res.sl (Ek.int .i64) 3 v113 q106.2.2.2.2.2.2.2.2.2.2.2.2.2.2, Res.obj 68 ok0 [.int .i64 q106.2.1, vk0_s, vk0_r, v109, v152, vk0_picks, .int .i64 q106.2.2.2.2.2.2.2.1, v111, .int .i64 (0 : Int), .int .i64 q106.2.2.2.2.2.2.2.2.2.2.1, .int .i64 q106.2.2.2.2.2.2.2.2.2.2.2.1, v112, .bool q106.2.2.2.2.2.2.2.2.2.2.2.2.2.1, v113], Res.sl (Ek.pair (Ek.int .i64) (Ek.pair (Ek.int .i64) (Ek.pair (Ek.int .u8) (Ek.pair (Ek.int .u8) (Ek.pair Ek.bool Ek.str))))) 88 v34 later5]) hp [6, 5, 4, 3, 7, 8, 9, 10, 11, 0, 14] (by decide) (by simp) rfl
    exact rnd_l ⟨_, _, _, _, _, _, _, _, hf.sub ⟨rfl, rfl, rfl, rfl, trivial⟩, hp⟩
   replace h := ifF h hb
   refine wp_exit ?_
   refine th_e ?_
   obtain rfl := Option.some.inj h
   exact rnd_r (by simp) ⟨rfl, _, _, _, _, _, _, _, _, hf.sub ⟨rfl, rfl, rfl, trivial⟩, hp⟩
  clear hl hf hp
  intro e a w hne hO
  rcases q153 with q155 | q156
  ·
   replace h := smL h
   obtain ⟨rfl, v36, v39, v42, v44, v46, v48, v50, v53, hf, hp⟩ := hO
   refine ib_same ?_
   refine th_n ?_
   refine wp_seq ?_
   refine wp_reg ?_
   refine st_move hf rfl rfl (by decide) ?_
   clear hf; intro a ha hf; clear ha
   refine st_move hf rfl rfl (by decide) ?_
   clear hf; intro a ha hf; clear ha
   refine st_nilV hf (by decide) rfl rfl (hp.ob (i := 9) rfl) ?_
   clear hf; intro a ha hf; clear ha
   refine st_fa (o' := 3) hf (by decide) (off := 3) (sz := 1) (by kernel_rfl) (by decide) rfl rfl (hp.ob (i := 9) rfl) rfl ?_
   clear hf; intro a ha hf; clear ha
   refine st_stO (us := [v53]) hf hp (i := 9) rfl rfl rfl rfl (cells_sh (hp.sl (i := 10) rfl).shapeV) (ones_sh (hp.sl (i := 10) rfl).shapeV) (by kernel_rfl) (Nat.le_of_ble_eq_true rfl) ?_
   clear hf; intro a w hf hp0; clear hp; have hp := hp0; clear hp0
   replace hp : Hp _ _ _ (Res.sl (Ek.pair Ek.str (Ek.pair Ek.bool (Ek.pair (Ek.int .i64) Ek.bool))) 81 v36 q155.2.2.2.2.2.1 :: Res.obj 79 vk0_s [.int .i64 q155.2.1, .int .i64 q155.2.2.1, .int .i64 q155.2.2.2.1, .int .i64 q155.2.2.2.2.1, v36] :: Res.map (fun x : ByteArray => Value.string x) v39 q155.2.2.2.2.2.2.2.2.1 :: Res.obj 74 vk0_r [.int .i64 q155.2.2.2.2.2.2.1, .int .i64 q155.2.2.2.2.2.2.2.1, v39] :: Res.sl (Ek.pair (Ek.int .i64) (Ek.pair (Ek.int .i64) (Ek.pair (Ek.int .u8) (Ek.pair (Ek.int .u8) (Ek.pair Ek.bool Ek.str))))) 88 v42 q155.2.2.2.2.2.2.2.2.2.1 :: Res.sl (Ek.pair (Ek.int .i64) (Ek.pair (Ek.int .i64) (Ek.pair (Ek.int .u8) (Ek.pair (Ek.int .u8) (Ek.pair Ek.bool Ek.str))))) 88 v44 q155.2.2.2.2.2.2.2.2.2.2.1 :: Res.map (fun x : Int => Value.int .i64 x) v46 q155.2.2.2.2.2.2.2.2.2.2.2.2.1 :: Res.sl Ek.str 9 v48 q155.2.2.2.2.2.2.2.2.2.2.2.2.2.2.2.2.1 :: Res.sl (Ek.int .i64) 3 v50 q155.2.2.2.2.2.2.2.2.2.2.2.2.2.2.2.2.2.2.1 :: Res.obj 68 ok0 [.int .i64 q155.1, vk0_s, vk0_r, v53, v44, vk0_picks, .int .i64 q155.2.2.2.2.2.2.2.2.2.2.2.1, v46, .int .i64 q155.2.2.2.2.2.2.2.2.2.2.2.2.2.1, .int .i64 q155.2.2.2.2.2.2.2.2.2.2.2.2.2.2.1, .int .i64 q155.2.2.2.2.2.2.2.2.2.2.2.2.2.2.2.1, v48, .bool q155.2.2.2.2.2.2.2.2.2.2.2.2.2.2.2.2.2.1, v50] :: Res.sl (Ek.pair (Ek.int .i64) (Ek.pair (Ek.int .i64) (Ek.pair (Ek.int .u8) (Ek.pair (Ek.int .u8) (Ek.pair Ek.bool Ek.str))))) 88 v53 q155.2.2.2.2.2.2.2.2.2.2.2.2.2.2.2.2.2.2.2 :: ow) := hp
   refine st_nil hf ?_
   refine th_n ?_
   refine wp_seq ?_
   refine wp_reg ?_
   refine st_assign hf rfl rfl (by decide) ?_
   clear hf; intro a ha hf; clear ha
   refine st_nil hf ?_
   refine th_n ?_
   refine wp_seq ?_
   refine wp_seq ?_
   refine wp_reg ?_
   refine st_assign hf rfl rfl (by decide) ?_
   clear hf; intro a ha hf; clear ha
   refine st_nil hf ?_
   refine th_n ?_
   refine wp_block ?_
   obtain ⟨q252, hl, h⟩ := bnd h
   have hp := hp.nil (Ek.pair (Ek.int .i64) (Ek.pair (Ek.int .i64) (Ek.pair (Ek.int .u8) (Ek.pair (Ek.int .u8) (Ek.pair Ek.bool Ek.str))))) 88
   have hp : Hp _ _ _ (_ :: _ :: _ :: _ :: _ :: _ :: _ :: _ :: _ :: _ :: Res.sl (Ek.pair (Ek.int .i64) (Ek.pair (Ek.int .i64) (Ek.pair (Ek.int .u8) (Ek.pair (Ek.int .u8) (Ek.pair Ek.bool Ek.str))))) 88 (.slice none 0 0) ([]) :: ow) := Hp.sel (pre := [Res.sl (Ek.pair (Ek.int .i64) (Ek.pair (Ek.int .i64) (Ek.pair (Ek.int .u8) (Ek.pair (Ek.int .u8) (Ek.pair Ek.bool Ek.str))))) 88 (.slice none 0 0) ([]), Res.sl (Ek.pair Ek.str (Ek.pair Ek.bool (Ek.pair (Ek.int .i64) Ek.bool))) 81 v36 q155.2.2.2.2.2.1, Res.obj 79 vk0_s [.int .i64 q155.2.1, .int .i64 q155.2.2.1, .int .i64 q155.2.2.2.1, .int .i64 q155.2.2.2.2.1, v36], Res.map (fun x : ByteArray => Value.string x) v39 q155.2.2.2.2.2.2.2.2.1, Res.obj 74 vk0_r [.int .i64 q155.2.2.2.2.2.2.1, .int .i64 q155.2.2.2.2.2.2.2.1, v39], Res.sl (Ek.pair (Ek.int .i64) (Ek.pair (Ek.int .i64) (Ek.pair (Ek.int .u8) (Ek.pair (Ek.int .u8) (Ek.pair Ek.bool Ek.str))))) 88 v42 q155.2.2.2.2.2.2.2.2.2.1, Res.sl (Ek.pair (Ek.int .i64) (Ek.pair (Ek.int .i64) (Ek.pair (Ek.int .u8) (Ek.pair (Ek.int .u8) (Ek.pair Ek.bool Ek.str))))) 88 v44 q155.2.2.2.2.2.2.2.2.2.2.1, Res.map (fun x : Int => Value.int .i64 x) v46 q155.2.2.2.2.2.2.2.2.2.2.2.2.1, Res.sl Ek.str 9 v48 q155.2.2.2.2.2.2.2.2.2.2.2.2.2.2.2.2.1, Res.sl (Ek.int .i64) 3 v50 q155.2.2.2.2.2.2.2.2.2.2.2.2.2.2.2.2.2.2.1, Res.obj 68 ok0 [.int .i64 q155.1, vk0_s, vk0_r, v53, v44, vk0_picks, .int .i64 q155.2.2.2.2.2.2.2.2.2.2.2.1, v46, .int .i64 q155.2.2.2.2.2.2.2.2.2.2.2.2.2.1, .int .i64 q155.2.2.2.2.2.2.2.2.2.2.2.2.2.2.1, .int .i64 q155.2.2.2.2.2.2.2.2.2.2.2.2.2.2.2.1, v48, .bool q155.2.2.2.2.2.2.2.2.2.2.2.2.2.2.2.2.2.1, v50], Res.sl (Ek.pair (Ek.int .i64) (Ek.pair (Ek.int .i64) (Ek.pair (Ek.int .u8) (Ek.pair (Ek.int .u8) (Ek.pair Ek.bool Ek.str))))) 88 v53 q155.2.2.2.2.2.2.2.2.2.2.2.2.2.2.2.2.2.2.2]) (tail := ow) (rs' := [Res.sl (Ek.pair Ek.str (Ek.pair Ek.bool (Ek.pair (Ek.int .i64) Ek.bool))) 81 v36 q155.2.2.2.2.2.1, Res.obj 79 vk0_s [.int .i64 q155.2.1, .int .i64 q155.2.2.1, .int .i64 q155.2.2.2.1, .int .i64 q155.2.2.2.2.1, v36], Res.map (fun x : ByteArray => Value.string x) v39 q155.2.2.2.2.2.2.2.2.1, Res.obj 74 vk0_r [.int .i64 q155.2.2.2.2.2.2.1, .int .i64 q155.2.2.2.2.2.2.2.1, v39], Res.sl (Ek.pair (Ek.int .i64) (Ek.pair (Ek.int .i64) (Ek.pair (Ek.int .u8) (Ek.pair (Ek.int .u8) (Ek.pair Ek.bool Ek.str))))) 88 v53 q155.2.2.2.2.2.2.2.2.2.2.2.2.2.2.2.2.2.2.2, Res.sl (Ek.pair (Ek.int .i64) (Ek.pair (Ek.int .i64) (Ek.pair (Ek.int .u8) (Ek.pair (Ek.int .u8) (Ek.pair Ek.bool Ek.str))))) 88 v44 q155.2.2.2.2.2.2.2.2.2.2.1, Res.map (fun x : Int => Value.int .i64 x) v46 q155.2.2.2.2.2.2.2.2.2.2.2.2.1, Res.sl Ek.str 9 v48 q155.2.2.2.2.2.2.2.2.2.2.2.2.2.2.2.2.1, Res.sl (Ek.int .i64) 3 v50 q155.2.2.2.2.2.2.2.2.2.2.2.2.2.2.2.2.2.2.1, Res.obj 68 ok0 [.int .i64 q155.1, vk0_s, vk0_r, v53, v44, vk0_picks, .int .i64 q155.2.2.2.2.2.2.2.2.2.2.2.1, v46, .int .i64 q155.2.2.2.2.2.2.2.2.2.2.2.2.2.1, .int .i64 q155.2.2.2.2.2.2.2.2.2.2.2.2.2.2.1, .int .i64 q155.2.2.2.2.2.2.2.2.2.2.2.2.2.2.2.1, v48, .bool q155.2.2.2.2.2.2.2.2.2.2.2.2.2.2.2.2.2.1, v50], Res.sl (Ek.pair (Ek.int .i64) (Ek.pair (Ek.int .i64) (Ek.pair (Ek.int .u8) (Ek.pair (Ek.int .u8) (Ek.pair Ek.bool Ek.str))))) 88 (.slice none 0 0) ([])]) hp [1, 2, 3, 4, 11, 6, 7, 8, 9, 10, 0] (by decide) (by simp) rfl
   refine wp_loop_pure (f := (f_foghornlaw28_link_come.s2 k0_picks now1)) (s := (q155.1, q155.2.1, q155.2.2.1, q155.2.2.2.1, q155.2.2.2.2.1, q155.2.2.2.2.2.1, q155.2.2.2.2.2.2.1, q155.2.2.2.2.2.2.2.1, q155.2.2.2.2.2.2.2.2.1, q155.2.2.2.2.2.2.2.2.2.2.2.2.2.2.2.2.2.2.2, q155.2.2.2.2.2.2.2.2.2.2.1, q155.2.2.2.2.2.2.2.2.2.2.2.1, q155.2.2.2.2.2.2.2.2.2.2.2.2.1, q155.2.2.2.2.2.2.2.2.2.2.2.2.2.1, q155.2.2.2.2.2.2.2.2.2.2.2.2.2.2.1, q155.2.2.2.2.2.2.2.2.2.2.2.2.2.2.2.1, q155.2.2.2.2.2.2.2.2.2.2.2.2.2.2.2.2.1, q155.2.2.2.2.2.2.2.2.2.2.2.2.2.2.2.2.2.1, q155.2.2.2.2.2.2.2.2.2.2.2.2.2.2.2.2.2.2.1, [], (0 : Int))) (fun s a w => ∃ (v157 : Value) (v160 : Value) (v163 : Value) (v165 : Value) (v167 : Value) (v169 : Value) (v171 : Value) (v174 : Value), Fr 190 a [(0, ok0), (1, .int .i64 now1), (5, v174), (12, .int .i64 s.2.2.2.2.2.2.2.2.2.2.2.2.2.2.2.2.2.2.2.2)] ∧ Hp S w0 w (Res.sl (Ek.pair Ek.str (Ek.pair Ek.bool (Ek.pair (Ek.int .i64) Ek.bool))) 81 v157 s.2.2.2.2.2.1 :: Res.obj 79 vk0_s [.int .i64 s.2.1, .int .i64 s.2.2.1, .int .i64 s.2.2.2.1, .int .i64 s.2.2.2.2.1, v157] :: Res.map (fun x : ByteArray => Value.string x) v160 s.2.2.2.2.2.2.2.2.1 :: Res.obj 74 vk0_r [.int .i64 s.2.2.2.2.2.2.1, .int .i64 s.2.2.2.2.2.2.2.1, v160] :: Res.sl (Ek.pair (Ek.int .i64) (Ek.pair (Ek.int .i64) (Ek.pair (Ek.int .u8) (Ek.pair (Ek.int .u8) (Ek.pair Ek.bool Ek.str))))) 88 v163 s.2.2.2.2.2.2.2.2.2.1 :: Res.sl (Ek.pair (Ek.int .i64) (Ek.pair (Ek.int .i64) (Ek.pair (Ek.int .u8) (Ek.pair (Ek.int .u8) (Ek.pair Ek.bool Ek.str))))) 88 v165 s.2.2.2.2.2.2.2.2.2.2.1 :: Res.map (fun x : Int => Value.int .i64 x) v167 s.2.2.2.2.2.2.2.2.2.2.2.2.1 :: Res.sl Ek.str 9 v169 s.2.2.2.2.2.2.2.2.2.2.2.2.2.2.2.2.1 :: Res.sl (Ek.int .i64) 3 v171 s.2.2.2.2.2.2.2.2.2.2.2.2.2.2.2.2.2.2.1 :: Res.obj 68 ok0 [.int .i64 s.1, vk0_s, vk0_r, v163, v165, vk0_picks, .int .i64 s.2.2.2.2.2.2.2.2.2.2.2.1, v167, .int .i64 s.2.2.2.2.2.2.2.2.2.2.2.2.2.1, .int .i64 s.2.2.2.2.2.2.2.2.2.2.2.2.2.2.1, .int .i64 s.2.2.2.2.2.2.2.2.2.2.2.2.2.2.2.1, v169, .bool s.2.2.2.2.2.2.2.2.2.2.2.2.2.2.2.2.2.1, v171] :: Res.sl (Ek.pair (Ek.int .i64) (Ek.pair (Ek.int .i64) (Ek.pair (Ek.int .u8) (Ek.pair (Ek.int .u8) (Ek.pair Ek.bool Ek.str))))) 88 v174 s.2.2.2.2.2.2.2.2.2.2.2.2.2.2.2.2.2.2.2.1 :: ow)) (fun q e a w => match q with | (Sum.inl q) => e = .exit 2 ∧ ∃ (v176 : Value) (v179 : Value) (v182 : Value) (v184 : Value) (v186 : Value) (v188 : Value) (v190 : Value) (v193 : Value), Fr 190 a [(0, ok0), (5, v193)] ∧ Hp S w0 w (Res.sl (Ek.pair Ek.str (Ek.pair Ek.bool (Ek.pair (Ek.int .i64) Ek.bool))) 81 v176 q.2.2.2.2.2.1 :: Res.obj 79 vk0_s [.int .i64 q.2.1, .int .i64 q.2.2.1, .int .i64 q.2.2.2.1, .int .i64 q.2.2.2.2.1, v176] :: Res.map (fun x : ByteArray => Value.string x) v179 q.2.2.2.2.2.2.2.2.1 :: Res.obj 74 vk0_r [.int .i64 q.2.2.2.2.2.2.1, .int .i64 q.2.2.2.2.2.2.2.1, v179] :: Res.sl (Ek.pair (Ek.int .i64) (Ek.pair (Ek.int .i64) (Ek.pair (Ek.int .u8) (Ek.pair (Ek.int .u8) (Ek.pair Ek.bool Ek.str))))) 88 v182 q.2.2.2.2.2.2.2.2.2.1 :: Res.sl (Ek.pair (Ek.int .i64) (Ek.pair (Ek.int .i64) (Ek.pair (Ek.int .u8) (Ek.pair (Ek.int .u8) (Ek.pair Ek.bool Ek.str))))) 88 v184 q.2.2.2.2.2.2.2.2.2.2.1 :: Res.map (fun x : Int => Value.int .i64 x) v186 q.2.2.2.2.2.2.2.2.2.2.2.2.1 :: Res.sl Ek.str 9 v188 q.2.2.2.2.2.2.2.2.2.2.2.2.2.2.2.2.1 :: Res.sl (Ek.int .i64) 3 v190 q.2.2.2.2.2.2.2.2.2.2.2.2.2.2.2.2.2.2.1 :: Res.obj 68 ok0 [.int .i64 q.1, vk0_s, vk0_r, v182, v184, vk0_picks, .int .i64 q.2.2.2.2.2.2.2.2.2.2.2.1, v186, .int .i64 q.2.2.2.2.2.2.2.2.2.2.2.2.2.1, .int .i64 q.2.2.2.2.2.2.2.2.2.2.2.2.2.2.1, .int .i64 q.2.2.2.2.2.2.2.2.2.2.2.2.2.2.2.1, v188, .bool q.2.2.2.2.2.2.2.2.2.2.2.2.2.2.2.2.2.1, v190] :: Res.sl (Ek.pair (Ek.int .i64) (Ek.pair (Ek.int .i64) (Ek.pair (Ek.int .u8) (Ek.pair (Ek.int .u8) (Ek.pair Ek.bool Ek.str))))) 88 v193 q.2.2.2.2.2.2.2.2.2.2.2.2.2.2.2.2.2.2.2 :: ow) | (Sum.inr q) => e = .ret ∧ ∃ (u0 : Value) (u1 : Value) (u2 : Value) (u3 : Value) (u4 : Value), Fr 190 a [(4, .bool q.1)] ∧ Hp S w0 w (Res.opt pk79 vk0_s q.2.2.1 :: Res.opt pk74 vk0_r q.2.2.2.1 :: Res.sl (Ek.pair (Ek.int .i64) (Ek.pair (Ek.int .i64) (Ek.pair (Ek.int .u8) (Ek.pair (Ek.int .u8) (Ek.pair Ek.bool Ek.str))))) 88 u0 q.2.2.2.2.1 :: Res.sl (Ek.pair (Ek.int .i64) (Ek.pair (Ek.int .i64) (Ek.pair (Ek.int .u8) (Ek.pair (Ek.int .u8) (Ek.pair Ek.bool Ek.str))))) 88 u1 q.2.2.2.2.2.1 :: Res.map (fun x : Int => Value.int .i64 x) u2 q.2.2.2.2.2.2.2.2.1 :: Res.sl Ek.str 9 u3 q.2.2.2.2.2.2.2.2.2.2.2.2.1 :: Res.sl (Ek.int .i64) 3 u4 q.2.2.2.2.2.2.2.2.2.2.2.2.2.2 :: Res.obj 68 ok0 [.int .i64 q.2.1, vk0_s, vk0_r, u0, u1, vk0_picks, .int .i64 q.2.2.2.2.2.2.2.1, u2, .int .i64 q.2.2.2.2.2.2.2.2.2.1, .int .i64 q.2.2.2.2.2.2.2.2.2.2.1, .int .i64 q.2.2.2.2.2.2.2.2.2.2.2.1, u3, .bool q.2.2.2.2.2.2.2.2.2.2.2.2.2.1, u4] :: ow)) ?_ hl ⟨_, _, _, _, _, _, _, _, hf.sub ⟨rfl, rfl, rfl, rfl, trivial⟩, hp⟩ ?_
   ·
    clear hl hf hp
    intro s x a w h hI
    obtain ⟨k0c_0, k0c_1c_0, k0c_1c_1, k0c_1c_2, k0c_1c_3, k0c_1c_4, k0c_2c_0, k0c_2c_1, k0c_2c_2, k0c_3, k0c_4, k0c_6, k0c_7, k0c_8, k0c_9, k0c_10, k0c_11, k0c_12, k0c_13, later5, i12⟩ := s
    obtain ⟨v157, v160, v163, v165, v167, v169, v171, v174, hf, hp⟩ : ∃ (v157 : Value) (v160 : Value) (v163 : Value) (v165 : Value) (v167 : Value) (v169 : Value) (v171 : Value) (v174 : Value), Fr 190 a [(0, ok0), (1, .int .i64 now1), (5, v174), (12, .int .i64 i12)] ∧ Hp S w0 w (Res.sl (Ek.pair Ek.str (Ek.pair Ek.bool (Ek.pair (Ek.int .i64) Ek.bool))) 81 v157 k0c_1c_4 :: Res.obj 79 vk0_s [.int .i64 k0c_1c_0, .int .i64 k0c_1c_1, .int .i64 k0c_1c_2, .int .i64 k0c_1c_3, v157] :: Res.map (fun x : ByteArray => Value.string x) v160 k0c_2c_2 :: Res.obj 74 vk0_r [.int .i64 k0c_2c_0, .int .i64 k0c_2c_1, v160] :: Res.sl (Ek.pair (Ek.int .i64) (Ek.pair (Ek.int .i64) (Ek.pair (Ek.int .u8) (Ek.pair (Ek.int .u8) (Ek.pair Ek.bool Ek.str))))) 88 v163 k0c_3 :: Res.sl (Ek.pair (Ek.int .i64) (Ek.pair (Ek.int .i64) (Ek.pair (Ek.int .u8) (Ek.pair (Ek.int .u8) (Ek.pair Ek.bool Ek.str))))) 88 v165 k0c_4 :: Res.map (fun x : Int => Value.int .i64 x) v167 k0c_7 :: Res.sl Ek.str 9 v169 k0c_11 :: Res.sl (Ek.int .i64) 3 v171 k0c_13 :: Res.obj 68 ok0 [.int .i64 k0c_0, vk0_s, vk0_r, v163, v165, vk0_picks, .int .i64 k0c_6, v167, .int .i64 k0c_8, .int .i64 k0c_9, .int .i64 k0c_10, v169, .bool k0c_12, v171] :: Res.sl (Ek.pair (Ek.int .i64) (Ek.pair (Ek.int .i64) (Ek.pair (Ek.int .u8) (Ek.pair (Ek.int .u8) (Ek.pair Ek.bool Ek.str))))) 88 v174 later5 :: ow) := hI
    replace h : f_foghornlaw28_link_come.s2c k0_picks now1 k0c_0 k0c_1c_0 k0c_1c_1 k0c_1c_2 k0c_1c_3 k0c_1c_4 k0c_2c_0 k0c_2c_1 k0c_2c_2 k0c_3 k0c_4 k0c_6 k0c_7 k0c_8 k0c_9 k0c_10 k0c_11 k0c_12 k0c_13 later5 i12 = some x := h
    unfold f_foghornlaw28_link_come.s2c at h
    refine wp_seq ?_
    refine wp_seq ?_
    refine wp_reg ?_
    refine st_move hf rfl rfl (by decide) ?_
    clear hf; intro a ha hf; clear ha
    refine st_move hf rfl rfl (by decide) ?_
    clear hf; intro a ha hf; clear ha
    refine st_nilV hf (by decide) rfl rfl (hp.ob (i := 9) rfl) ?_
    clear hf; intro a ha hf; clear ha
    refine st_fa (o' := 4) hf (by decide) (off := 4) (sz := 1) (by kernel_rfl) (by decide) rfl rfl (hp.ob (i := 9) rfl) rfl ?_
    clear hf; intro a ha hf; clear ha
    refine st_ldO (u := v165) hf (by decide) pl66 rfl rfl (hp.ob (i := 9) rfl) rfl ?_
    clear hf; intro a ha hf; clear ha
    refine st_len (E := (Ek.pair (Ek.int .i64) (Ek.pair (Ek.int .i64) (Ek.pair (Ek.int .u8) (Ek.pair (Ek.int .u8) (Ek.pair Ek.bool Ek.str)))))) hf (by decide) Try.underlying66 rfl rfl (hp.sl (i := 5) rfl) ?_
    clear hf; intro a ha hf; clear ha
    refine st_ilss hf (by decide) rfl rfl rfl ?_
    clear hf; intro a ha hf; clear ha
    refine st_nil hf ?_
    refine th_n ?_
    refine wp_if hf rfl (fun hb => ?_) (fun hb => ?_)
    ·
     replace h := ifT h hb
     refine wp_skip ?_
     refine th_n ?_
     refine wp_seq ?_
     refine wp_block ?_
     refine wp_seq ?_
     refine wp_reg ?_
     refine st_move hf rfl rfl (by decide) ?_
     clear hf; intro a ha hf; clear ha
     refine st_nilV hf (by decide) rfl rfl (hp.ob (i := 9) rfl) ?_
     clear hf; intro a ha hf; clear ha
     refine st_fa (o' := 4) hf (by decide) (off := 4) (sz := 1) (by kernel_rfl) (by decide) rfl rfl (hp.ob (i := 9) rfl) rfl ?_
     clear hf; intro a ha hf; clear ha
     refine st_ldO (u := v165) hf (by decide) pl66 rfl rfl (hp.ob (i := 9) rfl) rfl ?_
     clear hf; intro a ha hf; clear ha
     refine st_move hf rfl rfl (by decide) ?_
     clear hf; intro a ha hf; clear ha
     obtain ⟨hc195, h⟩ := chk h
     refine st_index (E := (Ek.pair (Ek.int .i64) (Ek.pair (Ek.int .i64) (Ek.pair (Ek.int .u8) (Ek.pair (Ek.int .u8) (Ek.pair Ek.bool Ek.str)))))) hf (by decide) Try.underlying66 elt88 rfl rfl rfl (hp.sl (i := 5) rfl) hc195.1 hc195.2 ?_
     clear hf; intro a ha hf; clear ha
     refine st_ldQX (F := (Ek.pair (Ek.int .i64) (Ek.pair (Ek.int .i64) (Ek.pair (Ek.int .u8) (Ek.pair (Ek.int .u8) (Ek.pair Ek.bool Ek.str)))))) (yv := (gt k0c_4 i12)) (m := 6) (us := [.int .i64 ((gt k0c_4 i12).1), .int .i64 ((gt k0c_4 i12).2.1), .int .u8 (((gt k0c_4 i12).2.2).1), .int .u8 (((gt k0c_4 i12).2.2).2.1), .bool (((gt k0c_4 i12).2.2).2.2.1), .string (((gt k0c_4 i12).2.2).2.2.2)]) hf (by decide) (by kernel_rfl) rfl (fun cs9 h9 => by obtain ⟨_, _, rfl, rfl, ⟨_, _, rfl, rfl, ⟨_, _, rfl, rfl, ⟨_, _, rfl, rfl, ⟨_, _, rfl, rfl, rfl⟩⟩⟩⟩⟩ := h9; rfl) rfl rfl (Part.whole (hp.sl (i := 5) rfl) hc195.1 hc195.2) ?_
     clear hf; intro a ha hf; clear ha
     refine st_alloc (cs := [.int .i64 (0 : Int), .int .i64 (0 : Int), .int .u8 (0 : Int), .int .u8 (0 : Int), .bool false, .string ByteArray.empty]) (zv := .agg #[.int .i64 (0 : Int), .int .i64 (0 : Int), .int .u8 (0 : Int), .int .u8 (0 : Int), .bool false, .string ByteArray.empty]) hf (by decide) (by kernel_rfl) rfl hp rfl ?_
     clear hf; intro a w v196 hf hp0; clear hp; have hp := hp0; clear hp0
     replace hp : Hp _ _ _ (Res.obj 88 v196 [.int .i64 (0 : Int), .int .i64 (0 : Int), .int .u8 (0 : Int), .int .u8 (0 : Int), .bool false, .string ByteArray.empty] :: Res.sl (Ek.pair Ek.str (Ek.pair Ek.bool (Ek.pair (Ek.int .i64) Ek.bool))) 81 v157 k0c_1c_4 :: Res.obj 79 vk0_s [.int .i64 k0c_1c_0, .int .i64 k0c_1c_1, .int .i64 k0c_1c_2, .int .i64 k0c_1c_3, v157] :: Res.map (fun x : ByteArray => Value.string x) v160 k0c_2c_2 :: Res.obj 74 vk0_r [.int .i64 k0c_2c_0, .int .i64 k0c_2c_1, v160] :: Res.sl (Ek.pair (Ek.int .i64) (Ek.pair (Ek.int .i64) (Ek.pair (Ek.int .u8) (Ek.pair (Ek.int .u8) (Ek.pair Ek.bool Ek.str))))) 88 v163 k0c_3 :: Res.sl (Ek.pair (Ek.int .i64) (Ek.pair (Ek.int .i64) (Ek.pair (Ek.int .u8) (Ek.pair (Ek.int .u8) (Ek.pair Ek.bool Ek.str))))) 88 v165 k0c_4 :: Res.map (fun x : Int => Value.int .i64 x) v167 k0c_7 :: Res.sl Ek.str 9 v169 k0c_11 :: Res.sl (Ek.int .i64) 3 v171 k0c_13 :: Res.obj 68 ok0 [.int .i64 k0c_0, vk0_s, vk0_r, v163, v165, vk0_picks, .int .i64 k0c_6, v167, .int .i64 k0c_8, .int .i64 k0c_9, .int .i64 k0c_10, v169, .bool k0c_12, v171] :: Res.sl (Ek.pair (Ek.int .i64) (Ek.pair (Ek.int .i64) (Ek.pair (Ek.int .u8) (Ek.pair (Ek.int .u8) (Ek.pair Ek.bool Ek.str))))) 88 v174 later5 :: ow) := hp
     refine st_stO (us := [.int .i64 ((gt k0c_4 i12).1), .int .i64 ((gt k0c_4 i12).2.1), .int .u8 (((gt k0c_4 i12).2.2).1), .int .u8 (((gt k0c_4 i12).2.2).2.1), .bool (((gt k0c_4 i12).2.2).2.2.1), .string (((gt k0c_4 i12).2.2).2.2.2)]) hf hp (i := 0) rfl rfl rfl rfl rfl (by rfl) (by kernel_rfl) (Nat.le_of_ble_eq_true rfl) ?_
     clear hf; intro a w hf hp0; clear hp; have hp := hp0; clear hp0
     replace hp : Hp _ _ _ (Res.obj 88 v196 [.int .i64 ((gt k0c_4 i12).1), .int .i64 ((gt k0c_4 i12).2.1), .int .u8 (((gt k0c_4 i12).2.2).1), .int .u8 (((gt k0c_4 i12).2.2).2.1), .bool (((gt k0c_4 i12).2.2).2.2.1), .string (((gt k0c_4 i12).2.2).2.2.2)] :: _ :: _ :: _ :: _ :: _ :: _ :: _ :: _ :: _ :: _ :: _ :: ow) := hp
     refine st_nil hf ?_
     refine th_n ?_
     refine wp_seq ?_
     refine wp_seq ?_
     refine wp_reg ?_
     refine st_fa (o' := 0) hf (by decide) (off := 0) (sz := 1) (by kernel_rfl) (by decide) rfl rfl (hp.ob (i := 0) rfl) rfl ?_
     clear hf; intro a ha hf; clear ha
     refine st_ldO (u := .int .i64 ((gt k0c_4 i12).1)) hf (by decide) pl3 rfl rfl (hp.ob (i := 0) rfl) rfl ?_
     clear hf; intro a ha hf; clear ha
     refine st_move hf rfl rfl (by decide) ?_
     clear hf; intro a ha hf; clear ha
     refine st_igtr hf (by decide) rfl rfl rfl ?_
     clear hf; intro a ha hf; clear ha
     refine st_nil hf ?_
     refine th_n ?_
     refine wp_if hf rfl (fun hb => ?_) (fun hb => ?_)
     ·
      replace h := ifT h hb
      refine wp_seq ?_
      refine wp_reg ?_
      refine st_move hf rfl rfl (by decide) ?_
      clear hf; intro a ha hf; clear ha
      refine st_ldOA (m := 6) (us := [.int .i64 ((gt k0c_4 i12).1), .int .i64 ((gt k0c_4 i12).2.1), .int .u8 (((gt k0c_4 i12).2.2).1), .int .u8 (((gt k0c_4 i12).2.2).2.1), .bool (((gt k0c_4 i12).2.2).2.2.1), .string (((gt k0c_4 i12).2.2).2.2.2)]) hf (by decide) (by kernel_rfl) rfl rfl (hp.ob (i := 0) rfl) rfl rfl ?_
      clear hf; intro a ha hf; clear ha
      refine st_build (E := (Ek.pair (Ek.int .i64) (Ek.pair (Ek.int .i64) (Ek.pair (Ek.int .u8) (Ek.pair (Ek.int .u8) (Ek.pair Ek.bool Ek.str)))))) (xs := [((gt k0c_4 i12).1, (gt k0c_4 i12).2.1, (((gt k0c_4 i12).2.2).1, ((gt k0c_4 i12).2.2).2.1, ((gt k0c_4 i12).2.2).2.2.1, ((gt k0c_4 i12).2.2).2.2.2))]) hf (by decide) elt88 Try.underlying66 hp (vals := #[(0, .agg #[.int .i64 ((gt k0c_4 i12).1), .int .i64 ((gt k0c_4 i12).2.1), .int .u8 (((gt k0c_4 i12).2.2).1), .int .u8 (((gt k0c_4 i12).2.2).2.1), .bool (((gt k0c_4 i12).2.2).2.2.1), .string (((gt k0c_4 i12).2.2).2.2.2)])]) (cells := #[.int .i64 ((gt k0c_4 i12).1), .int .i64 ((gt k0c_4 i12).2.1), .int .u8 (((gt k0c_4 i12).2.2).1), .int .u8 (((gt k0c_4 i12).2.2).2.1), .bool (((gt k0c_4 i12).2.2).2.2.1), .string (((gt k0c_4 i12).2.2).2.2.2)]) rfl (by simp [hf.ev (x := (Operand.tmp 146)) rfl]) (by decide) (by decide) (z := .agg #[.int .i64 0, .int .i64 0, .int .u8 0, .int .u8 0, .bool false, .string ByteArray.empty]) (by kernel_rfl) (by kernel_rfl) rfl (reps_cons (cs := [.int .i64 ((gt k0c_4 i12).1), .int .i64 ((gt k0c_4 i12).2.1), .int .u8 (((gt k0c_4 i12).2.2).1), .int .u8 (((gt k0c_4 i12).2.2).2.1), .bool (((gt k0c_4 i12).2.2).2.2.1), .string (((gt k0c_4 i12).2.2).2.2.2)]) ⟨[.int .i64 ((gt k0c_4 i12).1)], [.int .i64 ((gt k0c_4 i12).2.1), .int .u8 (((gt k0c_4 i12).2.2).1), .int .u8 (((gt k0c_4 i12).2.2).2.1), .bool (((gt k0c_4 i12).2.2).2.2.1), .string (((gt k0c_4 i12).2.2).2.2.2)], rfl, rfl, ⟨[.int .i64 ((gt k0c_4 i12).2.1)], [.int .u8 (((gt k0c_4 i12).2.2).1), .int .u8 (((gt k0c_4 i12).2.2).2.1), .bool (((gt k0c_4 i12).2.2).2.2.1), .string (((gt k0c_4 i12).2.2).2.2.2)], rfl, rfl, ⟨[.int .u8 (((gt k0c_4 i12).2.2).1)], [.int .u8 (((gt k0c_4 i12).2.2).2.1), .bool (((gt k0c_4 i12).2.2).2.2.1), .string (((gt k0c_4 i12).2.2).2.2.2)], rfl, rfl, ⟨[.int .u8 (((gt k0c_4 i12).2.2).2.1)], [.bool (((gt k0c_4 i12).2.2).2.2.1), .string (((gt k0c_4 i12).2.2).2.2.2)], rfl, rfl, ⟨[.bool (((gt k0c_4 i12).2.2).2.2.1)], [.string (((gt k0c_4 i12).2.2).2.2.2)], rfl, rfl, rfl⟩⟩⟩⟩⟩ (reps_nil _)) ?_
      clear hf; intro a w v198 hf hp0; clear hp; have hp := hp0; clear hp0
      replace hp : Hp _ _ _ (Res.sl (Ek.pair (Ek.int .i64) (Ek.pair (Ek.int .i64) (Ek.pair (Ek.int .u8) (Ek.pair (Ek.int .u8) (Ek.pair Ek.bool Ek.str))))) 88 v198 ([((gt k0c_4 i12).1, (gt k0c_4 i12).2.1, (((gt k0c_4 i12).2.2).1, ((gt k0c_4 i12).2.2).2.1, ((gt k0c_4 i12).2.2).2.2.1, ((gt k0c_4 i12).2.2).2.2.2))]) :: _ :: _ :: _ :: _ :: _ :: _ :: _ :: _ :: _ :: _ :: _ :: _ :: ow) := hp
      obtain ⟨hc200, h⟩ := chk h
      refine st_append (E := (Ek.pair (Ek.int .i64) (Ek.pair (Ek.int .i64) (Ek.pair (Ek.int .u8) (Ek.pair (Ek.int .u8) (Ek.pair Ek.bool Ek.str)))))) hf (by decide) elt88 Try.underlying66 (by decide) hp (i := 12) rfl rfl rfl rfl (hp.sl (i := 0) rfl) hc200 ?_
      clear hf; intro a w v201 hf hp0; clear hp; have hp := hp0; clear hp0
      replace hp : Hp _ _ _ (_ :: _ :: _ :: _ :: _ :: _ :: _ :: _ :: _ :: _ :: _ :: _ :: Res.sl (Ek.pair (Ek.int .i64) (Ek.pair (Ek.int .i64) (Ek.pair (Ek.int .u8) (Ek.pair (Ek.int .u8) (Ek.pair Ek.bool Ek.str))))) 88 v201 (later5 ++ [((gt k0c_4 i12).1, (gt k0c_4 i12).2.1, (((gt k0c_4 i12).2.2).1, ((gt k0c_4 i12).2.2).2.1, ((gt k0c_4 i12).2.2).2.2.1, ((gt k0c_4 i12).2.2).2.2.2))]) :: ow) := hp
      refine st_assign hf rfl rfl (by decide) ?_
      clear hf; intro a ha hf; clear ha
      refine st_nil hf ?_
      refine th_n ?_
      refine wp_exit ?_
      refine th_e ?_
      refine ib_same ?_
      refine th_n ?_
      refine wp_reg ?_
      refine st_move hf rfl rfl (by decide) ?_
      clear hf; intro a ha hf; clear ha
      refine st_iadd hf (by decide) rfl rfl rfl ?_
      clear hf; intro a ha hf; clear ha
      refine st_assign hf rfl rfl (by decide) ?_
      clear hf; intro a ha hf; clear ha
      refine st_nil hf ?_
      obtain rfl := Option.some.inj h
      have hp : Hp _ _ _ (_ :: _ :: _ :: _ :: _ :: _ :: _ :: _ :: _ :: _ :: _ :: ow) := Hp.sel (pre := [Res.sl (Ek.pair (Ek.int .i64) (Ek.pair (Ek.int .i64) (Ek.pair (Ek.int .u8) (Ek.pair (Ek.int .u8) (Ek.pair Ek.bool Ek.str))))) 88 v198 ([((gt k0c_4 i12).1, (gt k0c_4 i12).2.1, (((gt k0c_4 i12).2.2).1, ((gt k0c_4 i12).2.2).2.1, ((gt k0c_4 i12).2.2).2.2.1, ((gt k0c_4 i12).2.2).2.2.2))]), Res.obj 88 v196 [.int .i64 ((gt k0c_4 i12).1), .int .i64 ((gt k0c_4 i12).2.1), .int .u8 (((gt k0c_4 i12).2.2).1), .int .u8 (((gt k0c_4 i12).2.2).2.1), .bool (((gt k0c_4 i12).2.2).2.2.1), .string (((gt k0c_4 i12).2.2).2.2.2)], Res.sl (Ek.pair Ek.str (Ek.pair Ek.bool (Ek.pair (Ek.int .i64) Ek.bool))) 81 v157 k0c_1c_4, Res.obj 79 vk0_s [.int .i64 k0c_1c_0, .int .i64 k0c_1c_1, .int .i64 k0c_1c_2, .int .i64 k0c_1c_3, v157], Res.map (fun x : ByteArray => Value.string x) v160 k0c_2c_2, Res.obj 74 vk0_r [.int .i64 k0c_2c_0, .int .i64 k0c_2c_1, v160], Res.sl (Ek.pair (Ek.int .i64) (Ek.pair (Ek.int .i64) (Ek.pair (Ek.int .u8) (Ek.pair (Ek.int .u8) (Ek.pair Ek.bool Ek.str))))) 88 v163 k0c_3, Res.sl (Ek.pair (Ek.int .i64) (Ek.pair (Ek.int .i64) (Ek.pair (Ek.int .u8) (Ek.pair (Ek.int .u8) (Ek.pair Ek.bool Ek.str))))) 88 v165 k0c_4, Res.map (fun x : Int => Value.int .i64 x) v167 k0c_7, Res.sl Ek.str 9 v169 k0c_11, Res.sl (Ek.int .i64) 3 v171 k0c_13, Res.obj 68 ok0 [.int .i64 k0c_0, vk0_s, vk0_r, v163, v165, vk0_picks, .int .i64 k0c_6, v167, .int .i64 k0c_8, .int .i64 k0c_9, .int .i64 k0c_10, v169, .bool k0c_12, v171], Res.sl (Ek.pair (Ek.int .i64) (Ek.pair (Ek.int .i64) (Ek.pair (Ek.int .u8) (Ek.pair (Ek.int .u8) (Ek.pair Ek.bool Ek.str))))) 88 v201 (later5 ++ [((gt k0c_4 i12).1, (gt k0c_4 i12).2.1, (((gt k0c_4 i12).2.2).1, ((gt k0c_4 i12).2.2).2.1, ((gt k0c_4 i12).2.2).2.2.1, ((gt k0c_4 i12).2.2).2.2.2))])]) (tail := ow) (rs' := [Res.sl (Ek.pair Ek.str (Ek.pair Ek.bool (Ek.pair (Ek.int .i64) Ek.bool))) 81 v157 k0c_1c_4, Res.obj 79 vk0_s [.int .i64 k0c_1c_0, .int .i64 k0c_1c_1, .int .i64 k0c_1c_2, .int .i64 k0c_1c_3, v157], Res.map (fun x : ByteArray => Value.string x) v160 k0c_2c_2, Res.obj 74 vk0_r [.int .i64 k0c_2c_0, .int .i64 k0c_2c_1, v160], Res.sl (Ek.pair (Ek.int .i64) (Ek.pair (Ek.int .i64) (Ek.pair (Ek.int .u8) (Ek.pair (Ek.int .u8) (Ek.pair Ek.bool Ek.str))))) 88 v163 k0c_3, Res.sl (Ek.pair (Ek.int .i64) (Ek.pair (Ek.int .i64) (Ek.pair (Ek.int .u8) (Ek.pair (Ek.int .u8) (Ek.pair Ek.bool Ek.str))))) 88 v165 k0c_4, Res.map (fun x : Int => Value.int .i64 x) v167 k0c_7, Res.sl Ek.str 9 v169 k0c_11, Res.sl (Ek.int .i64) 3 v171 k0c_13, Res.obj 68 ok0 [.int .i64 k0c_0, vk0_s, vk0_r, v163, v165, vk0_picks, .int .i64 k0c_6, v167, .int .i64 k0c_8, .int .i64 k0c_9, .int .i64 k0c_10, v169, .bool k0c_12, v171], Res.sl (Ek.pair (Ek.int .i64) (Ek.pair (Ek.int .i64) (Ek.pair (Ek.int .u8) (Ek.pair (Ek.int .u8) (Ek.pair Ek.bool Ek.str))))) 88 v201 (later5 ++ [((gt k0c_4 i12).1, (gt k0c_4 i12).2.1, (((gt k0c_4 i12).2.2).1, ((gt k0c_4 i12).2.2).2.1, ((gt k0c_4 i12).2.2).2.2.1, ((gt k0c_4 i12).2.2).2.2.2))])]) hp [2, 3, 4, 5, 6, 7, 8, 9, 10, 11, 12] (by decide) (by simp) rfl
      exact rnd_l ⟨_, _, _, _, _, _, _, _, hf.sub ⟨rfl, rfl, rfl, rfl, trivial⟩, hp⟩
     replace h := ifF h hb
     refine wp_skip ?_
     refine th_n ?_
     refine wp_seq ?_
     refine wp_seq ?_
     obtain ⟨S202, hp203, rd204, up205, bk206⟩ := Hp.lendO hp (i := 10) rfl
     obtain ⟨S207, hp208, rd209, up210, bk211⟩ := Hp.lendO hp203 (i := 0) rfl
     have rl212 := ((rd204.now hp203).mono up210)
     have rl213 := ((((hk0_picks.now hp).mono up205).now hp203).mono up210)
     have rl214 := rd209
     refine wp_cutN (fun a w => Fr 190 a [(0, ok0), (1, .int .i64 now1), (5, v174), (12, .int .i64 i12), (13, optr v196 0), (161, .bool (decide ((IntKind.i64.wrap ((256 : Int) - k0c_0)) ≤ (IntKind.i64.wrap (k0c_9 - (gt k0c_4 i12).2.1)))))] ∧ Hp S w0 w (Res.obj 68 ok0 [.int .i64 k0c_0, vk0_s, vk0_r, v163, v165, vk0_picks, .int .i64 k0c_6, v167, .int .i64 k0c_8, .int .i64 k0c_9, .int .i64 k0c_10, v169, .bool k0c_12, v171] :: Res.obj 88 v196 [.int .i64 ((gt k0c_4 i12).1), .int .i64 ((gt k0c_4 i12).2.1), .int .u8 (((gt k0c_4 i12).2.2).1), .int .u8 (((gt k0c_4 i12).2.2).2.1), .bool (((gt k0c_4 i12).2.2).2.2.1), .string (((gt k0c_4 i12).2.2).2.2.2)] :: Res.sl (Ek.pair Ek.str (Ek.pair Ek.bool (Ek.pair (Ek.int .i64) Ek.bool))) 81 v157 k0c_1c_4 :: Res.obj 79 vk0_s [.int .i64 k0c_1c_0, .int .i64 k0c_1c_1, .int .i64 k0c_1c_2, .int .i64 k0c_1c_3, v157] :: Res.map (fun x : ByteArray => Value.string x) v160 k0c_2c_2 :: Res.obj 74 vk0_r [.int .i64 k0c_2c_0, .int .i64 k0c_2c_1, v160] :: Res.sl (Ek.pair (Ek.int .i64) (Ek.pair (Ek.int .i64) (Ek.pair (Ek.int .u8) (Ek.pair (Ek.int .u8) (Ek.pair Ek.bool Ek.str))))) 88 v163 k0c_3 :: Res.sl (Ek.pair (Ek.int .i64) (Ek.pair (Ek.int .i64) (Ek.pair (Ek.int .u8) (Ek.pair (Ek.int .u8) (Ek.pair Ek.bool Ek.str))))) 88 v165 k0c_4 :: Res.map (fun x : Int => Value.int .i64 x) v167 k0c_7 :: Res.sl Ek.str 9 v169 k0c_11 :: Res.sl (Ek.int .i64) 3 v171 k0c_13 :: Res.sl (Ek.pair (Ek.int .i64) (Ek.pair (Ek.int .i64) (Ek.pair (Ek.int .u8) (Ek.pair (Ek.int .u8) (Ek.pair Ek.bool Ek.str))))) 88 v174 later5 :: ow)) ?_ ?_
     ·
      have hp := hp208.same (Same.drew w)
      refine dr_begin' _ (fun w' => ∃ l, Hp S207 w w' l) [] (by kernel_rfl) ?_
      refine dr_takeK 0 (ok0) rfl hf rfl (fun w ⟨_, hp⟩ => ?_) ⟨_, hp⟩ ?_
      · exact st_move hf rfl rfl (by decide) tk
      clear hf; intro a hf
      refine dr_nilV 1 rfl (by kernel_rfl) (by kernel_rfl) (by kernel_rfl) hf (by decide) rfl rfl (rl212.ob hp) ?_
      clear hf; intro a hf
      refine dr_takeK 2 (optr ok0 9) rfl hf rfl (fun w ⟨_, hp⟩ => ?_) ⟨_, hp⟩ ?_
      · exact st_fa (o' := 9) hf (by decide) (off := 9) (sz := 1) (by kernel_rfl) (by decide) rfl rfl (rl212.ob hp) rfl tk
      clear hf; intro a hf
      refine dr_takeK 3 (.int .i64 k0c_9) rfl hf rfl (fun w ⟨_, hp⟩ => ?_) ⟨_, hp⟩ ?_
      · exact st_ldO (u := .int .i64 k0c_9) hf (by decide) pl3 rfl rfl (rl212.ob hp) rfl tk
      clear hf; intro a hf
      refine dr_takeK 4 (optr v196 1) rfl hf rfl (fun w ⟨_, hp⟩ => ?_) ⟨_, hp⟩ ?_
      · exact st_fa (o' := 1) hf (by decide) (off := 1) (sz := 1) (by kernel_rfl) (by decide) rfl rfl (rl214.ob hp) rfl tk
      clear hf; intro a hf
      refine dr_takeK 5 (.int .i64 ((gt k0c_4 i12).2.1)) rfl hf rfl (fun w ⟨_, hp⟩ => ?_) ⟨_, hp⟩ ?_
      · exact st_ldO (u := .int .i64 ((gt k0c_4 i12).2.1)) hf (by decide) pl3 rfl rfl (rl214.ob hp) rfl tk
      clear hf; intro a hf
      refine dr_takeK 6 (.int .i64 (IntKind.i64.wrap (k0c_9 - (gt k0c_4 i12).2.1))) rfl hf rfl (fun w ⟨_, hp⟩ => ?_) ⟨_, hp⟩ ?_
      · exact st_isub hf (by decide) rfl rfl rfl tk
      clear hf; intro a hf
      refine dr_takeK 7 (ok0) rfl hf rfl (fun w ⟨_, hp⟩ => ?_) ⟨_, hp⟩ ?_
      · exact st_move hf rfl rfl (by decide) tk
      clear hf; intro a hf
      refine dr_nilV 8 rfl (by kernel_rfl) (by kernel_rfl) (by kernel_rfl) hf (by decide) rfl rfl (rl212.ob hp) ?_
      clear hf; intro a hf
      refine dr_takeK 9 (optr ok0 0) rfl hf rfl (fun w ⟨_, hp⟩ => ?_) ⟨_, hp⟩ ?_
      · exact st_fa (o' := 0) hf (by decide) (off := 0) (sz := 1) (by kernel_rfl) (by decide) rfl rfl (rl212.ob hp) rfl tk
      clear hf; intro a hf
      refine dr_takeK 10 (.int .i64 k0c_0) rfl hf rfl (fun w ⟨_, hp⟩ => ?_) ⟨_, hp⟩ ?_
      · exact st_ldO (u := .int .i64 k0c_0) hf (by decide) pl3 rfl rfl (rl212.ob hp) rfl tk
      clear hf; intro a hf
      refine dr_takeK 11 (.int .i64 (IntKind.i64.wrap ((256 : Int) - k0c_0))) rfl hf rfl (fun w ⟨_, hp⟩ => ?_) ⟨_, hp⟩ ?_
      · exact st_isub hf (by decide) rfl rfl rfl tk
      clear hf; intro a hf
      refine dr_takeK 12 (.bool (decide ((IntKind.i64.wrap ((256 : Int) - k0c_0)) ≤ (IntKind.i64.wrap (k0c_9 - (gt k0c_4 i12).2.1))))) rfl hf rfl (fun w ⟨_, hp⟩ => ?_) ⟨_, hp⟩ ?_
      · exact st_igeq hf (by decide) rfl rfl rfl tk
      clear hf; intro a hf
      refine dr_end (by kernel_rfl) ?_ _
      have hp := bk211 _ _ hp
      have hp := bk206 _ _ hp
      exact ⟨hf.sub ⟨rfl, rfl, rfl, rfl, rfl, rfl, trivial⟩, hp⟩
     rintro a w ⟨hf, hp⟩
     refine th_n ?_
     refine wp_if hf rfl (fun hb => ?_) (fun hb => ?_)
     ·
      replace h := ifT h hb
      refine wp_seq ?_
      refine wp_reg ?_
      refine st_move hf rfl rfl (by decide) ?_
      clear hf; intro a ha hf; clear ha
      refine st_nilV hf (by decide) rfl rfl (hp.ob (i := 0) rfl) ?_
      clear hf; intro a ha hf; clear ha
      refine st_fa (o' := 12) hf (by decide) (off := 12) (sz := 1) (by kernel_rfl) (by decide) rfl rfl (hp.ob (i := 0) rfl) rfl ?_
      clear hf; intro a ha hf; clear ha
      refine st_stO (us := [.bool true]) hf hp (i := 0) rfl rfl rfl rfl rfl (by rfl) (by kernel_rfl) (Nat.le_of_ble_eq_true rfl) ?_
      clear hf; intro a w hf hp0; clear hp; have hp := hp0; clear hp0
      replace hp : Hp _ _ _ (Res.obj 68 ok0 [.int .i64 k0c_0, vk0_s, vk0_r, v163, v165, vk0_picks, .int .i64 k0c_6, v167, .int .i64 k0c_8, .int .i64 k0c_9, .int .i64 k0c_10, v169, .bool true, v171] :: Res.obj 88 v196 [.int .i64 ((gt k0c_4 i12).1), .int .i64 ((gt k0c_4 i12).2.1), .int .u8 (((gt k0c_4 i12).2.2).1), .int .u8 (((gt k0c_4 i12).2.2).2.1), .bool (((gt k0c_4 i12).2.2).2.2.1), .string (((gt k0c_4 i12).2.2).2.2.2)] :: _ :: _ :: _ :: _ :: _ :: _ :: _ :: _ :: _ :: Res.sl (Ek.pair (Ek.int .i64) (Ek.pair (Ek.int .i64) (Ek.pair (Ek.int .u8) (Ek.pair (Ek.int .u8) (Ek.pair Ek.bool Ek.str))))) 88 v174 later5 :: ow) := hp
      refine st_nil hf ?_
      refine th_n ?_
      refine wp_seq ?_
      refine wp_reg ?_
      refine st_assign hf rfl rfl (by decide) ?_
      clear hf; intro a ha hf; clear ha
      refine st_nil hf ?_
      refine th_n ?_
      refine wp_ret ?_
      refine th_r ?_
      refine ib_r ?_
      refine th_r ?_
      have hp : Hp _ _ _ (_ :: _ :: _ :: _ :: _ :: _ :: _ :: _ :: _ :: _ :: _ :: _ :: ow) := Hp.sel (pre := [Res.obj 68 ok0 [.int .i64 k0c_0, vk0_s, vk0_r, v163, v165, vk0_picks, .int .i64 k0c_6, v167, .int .i64 k0c_8, .int .i64 k0c_9, .int .i64 k0c_10, v169, .bool true, v171], Res.obj 88 v196 [.int .i64 ((gt k0c_4 i12).1), .int .i64 ((gt k0c_4 i12).2.1), .int .u8 (((gt k0c_4 i12).2.2).1), .int .u8 (((gt k0c_4 i12).2.2).2.1), .bool (((gt k0c_4 i12).2.2).2.2.1), .string (((gt k0c_4 i12).2.2).2.2.2)], Res.sl (Ek.pair Ek.str (Ek.pair Ek.bool (Ek.pair (Ek.int .i64) Ek.bool))) 81 v157 k0c_1c_4, Res.obj 79 vk0_s [.int .i64 k0c_1c_0, .int .i64 k0c_1c_1, .int .i64 k0c_1c_2, .int .i64 k0c_1c_3, v157], Res.map (fun x : ByteArray => Value.string x) v160 k0c_2c_2, Res.obj 74 vk0_r [.int .i64 k0c_2c_0, .int .i64 k0c_2c_1, v160], Res.sl (Ek.pair (Ek.int .i64) (Ek.pair (Ek.int .i64) (Ek.pair (Ek.int .u8) (Ek.pair (Ek.int .u8) (Ek.pair Ek.bool Ek.str))))) 88 v163 k0c_3, Res.sl (Ek.pair (Ek.int .i64) (Ek.pair (Ek.int .i64) (Ek.pair (Ek.int .u8) (Ek.pair (Ek.int .u8) (Ek.pair Ek.bool Ek.str))))) 88 v165 k0c_4, Res.map (fun x : Int => Value.int .i64 x) v167 k0c_7, Res.sl Ek.str 9 v169 k0c_11, Res.sl (Ek.int .i64) 3 v171 k0c_13, Res.sl (Ek.pair (Ek.int .i64) (Ek.pair (Ek.int .i64) (Ek.pair (Ek.int .u8) (Ek.pair (Ek.int .u8) (Ek.pair Ek.bool Ek.str))))) 88 v174 later5]) (tail := ow) (rs' := [Res.obj 74 vk0_r [.int .i64 k0c_2c_0, .int .i64 k0c_2c_1, v160], Res.map (fun x : ByteArray => Value.string x) v160 k0c_2c_2, Res.obj 68 ok0 [.int .i64 k0c_0, vk0_s, vk0_r, v163, v165, vk0_picks, .int .i64 k0c_6, v167, .int .i64 k0c_8, .int .i64 k0c_9, .int .i64 k0c_10, v169, .bool true, v171], Res.obj 88 v196 [.int .i64 ((gt k0c_4 i12).1), .int .i64 ((gt k0c_4 i12).2.1), .int .u8 (((gt k0c_4 i12).2.2).1), .int .u8 (((gt k0c_4 i12).2.2).2.1), .bool (((gt k0c_4 i12).2.2).2.2.1), .string (((gt k0c_4 i12).2.2).2.2.2)], Res.sl (Ek.pair Ek.str (Ek.pair Ek.bool (Ek.pair (Ek.int .i64) Ek.bool))) 81 v157 k0c_1c_4, Res.obj 79 vk0_s [.int .i64 k0c_1c_0, .int .i64 k0c_1c_1, .int .i64 k0c_1c_2, .int .i64 k0c_1c_3, v157], Res.sl (Ek.pair (Ek.int .i64) (Ek.pair (Ek.int .i64) (Ek.pair (Ek.int .u8) (Ek.pair (Ek.int .u8) (Ek.pair Ek.bool Ek.str))))) 88 v163 k0c_3, Res.sl (Ek.pair (Ek.int .i64) (Ek.pair (Ek.int .i64) (Ek.pair (Ek.int .u8) (Ek.pair (Ek.int .u8) (Ek.pair Ek.bool Ek.str))))) 88 v165 k0c_4, Res.map (fun x : Int => Value.int .i64 x) v167 k0c_7, Res.sl Ek.str 9 v169 k0c_11, Res.sl (Ek.int .i64) 3 v171 k0c_13, Res.sl (Ek.pair (Ek.int .i64) (Ek.pair (Ek.int .i64) (Ek.pair (Ek.int .u8) (Ek.pair (Ek.int .u8) (Ek.pair Ek.bool Ek.str))))) 88 v174 later5]) hp [5, 4, 0, 1, 2, 3, 6, 7, 8, 9, 10, 11] (by decide) (by simp) rfl
      replace hp : Hp _ _ _ (Res.opt pk74 vk0_r (some (k0c_2c_0, k0c_2c_1, k0c_2c_2)) :: _ :: _ :: _ :: _ :: _ :: _ :: _ :: _ :: _ :: _ :: ow) := pk74_out (s := (k0c_2c_0, k0c_2c_1, k0c_2c_2)) (u := v160) hp
      have hp : Hp _ _ _ (_ :: _ :: _ :: _ :: _ :: _ :: _ :: _ :: _ :: _ :: _ :: ow) := Hp.sel (pre := [Res.opt pk74 vk0_r (some (k0c_2c_0, k0c_2c_1, k0c_2c_2)), Res.obj 68 ok0 [.int .i64 k0c_0, vk0_s, vk0_r, v163, v165, vk0_picks, .int .i64 k0c_6, v167, .int .i64 k0c_8, .int .i64 k0c_9, .int .i64 k0c_10, v169, .bool true, v171], Res.obj 88 v196 [.int .i64 ((gt k0c_4 i12).1), .int .i64 ((gt k0c_4 i12).2.1), .int .u8 (((gt k0c_4 i12).2.2).1), .int .u8 (((gt k0c_4 i12).2.2).2.1), .bool (((gt k0c_4 i12).2.2).2.2.1), .string (((gt k0c_4 i12).2.2).2.2.2)], Res.sl (Ek.pair Ek.str (Ek.pair Ek.bool (Ek.pair (Ek.int .i64) Ek.bool))) 81 v157 k0c_1c_4, Res.obj 79 vk0_s [.int .i64 k0c_1c_0, .int .i64 k0c_1c_1, .int .i64 k0c_1c_2, .int .i64 k0c_1c_3, v157], Res.sl (Ek.pair (Ek.int .i64) (Ek.pair (Ek.int .i64) (Ek.pair (Ek.int .u8) (Ek.pair (Ek.int .u8) (Ek.pair Ek.bool Ek.str))))) 88 v163 k0c_3, Res.sl (Ek.pair (Ek.int .i64) (Ek.pair (Ek.int .i64) (Ek.pair (Ek.int .u8) (Ek.pair (Ek.int .u8) (Ek.pair Ek.bool Ek.str))))) 88 v165 k0c_4, Res.map (fun x : Int => Value.int .i64 x) v167 k0c_7, Res.sl Ek.str 9 v169 k0c_11, Res.sl (Ek.int .i64) 3 v171 k0c_13, Res.sl (Ek.pair (Ek.int .i64) (Ek.pair (Ek.int .i64) (Ek.pair (Ek.int .u8) (Ek.pair (Ek.int .u8) (Ek.pair Ek.bool Ek.str))))) 88 v174 later5]) (tail := ow) (rs' := [Res.obj 79 vk0_s [.int .i64 k0c_1c_0, .int .i64 k0c_1c_1, .int .i64 k0c_1c_2, .int .i64 k0c_1c_3, v157], Res.sl (Ek.pair Ek.str (Ek.pair Ek.bool (Ek.pair (Ek.int .i64) Ek.bool))) 81 v157 k0c_1c_4, Res.opt pk74 vk0_r (some (k0c_2c_0, k0c_2c_1, k0c_2c_2)), Res.obj 68 ok0 [.int .i64 k0c_0, vk0_s, vk0_r, v163, v165, vk0_picks, .int .i64 k0c_6, v167, .int .i64 k0c_8, .int .i64 k0c_9, .int .i64 k0c_10, v169, .bool true, v171], Res.obj 88 v196 [.int .i64 ((gt k0c_4 i12).1), .int .i64 ((gt k0c_4 i12).2.1), .int .u8 (((gt k0c_4 i12).2.2).1), .int .u8 (((gt k0c_4 i12).2.2).2.1), .bool (((gt k0c_4 i12).2.2).2.2.1), .string (((gt k0c_4 i12).2.2).2.2.2)], Res.sl (Ek.pair (Ek.int .i64) (Ek.pair (Ek.int .i64) (Ek.pair (Ek.int .u8) (Ek.pair (Ek.int .u8) (Ek.pair Ek.bool Ek.str))))) 88 v163 k0c_3, Res.sl (Ek.pair (Ek.int .i64) (Ek.pair (Ek.int .i64) (Ek.pair (Ek.int .u8) (Ek.pair (Ek.int .u8) (Ek.pair Ek.bool Ek.str))))) 88 v165 k0c_4, Res.map (fun x : Int => Value.int .i64 x) v167 k0c_7, Res.sl Ek.str 9 v169 k0c_11, Res.sl (Ek.int .i64) 3 v171 k0c_13, Res.sl (Ek.pair (Ek.int .i64) (Ek.pair (Ek.int .i64) (Ek.pair (Ek.int .u8) (Ek.pair (Ek.int .u8) (Ek.pair Ek.bool Ek.str))))) 88 v174 later5]) hp [4, 3, 0, 1, 2, 5, 6, 7, 8, 9, 10] (by decide) (by simp) rfl
      replace hp : Hp _ _ _ (Res.opt pk79 vk0_s (some (k0c_1c_0, k0c_1c_1, k0c_1c_2, k0c_1c_3, k0c_1c_4)) :: _ :: _ :: _ :: _ :: _ :: _ :: _ :: _ :: _ :: ow) := pk79_out (s := (k0c_1c_0, k0c_1c_1, k0c_1c_2, k0c_1c_3, k0c_1c_4)) (u := v157) hp
      obtain rfl := Option.some.inj h
      have hp : Hp _ _ _ (_ :: _ :: _ :: _ :: _ :: _ :: _ :: _ :: ow) := Hp.sel (pre := [Res.opt pk79 vk0_s (some (k0c_1c_0, k0c_1c_1, k0c_1c_2, k0c_1c_3, k0c_1c_4)), Res.opt pk74 vk0_r (some (k0c_2c_0, k0c_2c_1, k0c_2c_2)), Res.obj 68 ok0 [.int .i64 k0c_0, vk0_s, vk0_r, v163, v165, vk0_picks, .int .i64 k0c_6, v167, .int .i64 k0c_8, .int .i64 k0c_9, .int .i64 k0c_10, v169, .bool true, v171], Res.obj 88 v196 [.int .i64 ((gt k0c_4 i12).1), .int .i64 ((gt k0c_4 i12).2.1), .int .u8 (((gt k0c_4 i12).2.2).1), .int .u8 (((gt k0c_4 i12).2.2).2.1), .bool (((gt k0c_4 i12).2.2).2.2.1), .string (((gt k0c_4 i12).2.2).2.2.2)], Res.sl (Ek.pair (Ek.int .i64) (Ek.pair (Ek.int .i64) (Ek.pair (Ek.int .u8) (Ek.pair (Ek.int .u8) (Ek.pair Ek.bool Ek.str))))) 88 v163 k0c_3, Res.sl (Ek.pair (Ek.int .i64) (Ek.pair (Ek.int .i64) (Ek.pair (Ek.int .u8) (Ek.pair (Ek.int .u8) (Ek.pair Ek.bool Ek.str))))) 88 v165 k0c_4, Res.map (fun x : Int => Value.int .i64 x) v167 k0c_7, Res.sl Ek.str 9 v169 k0c_11, Res.sl (Ek.int .i64) 3 v171 k0c_13, Res.sl (Ek.pair (Ek.int .i64) (Ek.pair (Ek.int .i64) (Ek.pair (Ek.int .u8) (Ek.pair (Ek.int .u8) (Ek.pair Ek.bool Ek.str))))) 88 v174 later5]) (tail := ow) (rs' := [Res.opt pk79 vk0_s (some (k0c_1c_0, k0c_1c_1, k0c_1c_2, k0c_1c_3, k0c_1c_4)), Res.opt pk74 vk0_r (some (k0c_2c_0, k0c_2c_1, k0c_2c_2)), Res.sl (Ek.pair (Ek.int .i64) (Ek.pair (Ek.int .i64) (Ek.pair (Ek.int .u8) (Ek.pair (Ek.int .u8) (Ek.pair Ek.bool Ek.str))))) 88 v163 k0c_3, Res.sl (Ek.pair (Ek.int .i64) (Ek.pair (Ek.int .i64) (Ek.pair (Ek.int .u8) (Ek.pair (Ek.int .u8) (Ek.pair Ek.bool Ek.str))))) 88 v165 k0c_4, Res.map (fun x : Int => Value.int .i64 x) v167 k0c_7, Res.sl Ek.str 9 v169 k0c_11, Res.sl (Ek.int .i64) 3 v171 k0c_13, Res.obj 68 ok0 [.int .i64 k0c_0, vk0_s, vk0_r, v163, v165, vk0_picks, .int .i64 k0c_6, v167, .int .i64 k0c_8, .int .i64 k0c_9, .int .i64 k0c_10, v169, .bool true, v171]]) hp [0, 1, 4, 5, 6, 7, 8, 2] (by decide) (by simp) rfl
      exact rnd_r (by simp) ⟨rfl, ⟨_, _, _, _, _, hf.sub ⟨rfl, trivial⟩, hp⟩⟩
     replace h := ifF h hb
     refine wp_skip ?_
     refine th_n ?_
     refine wp_seq ?_
     refine wp_seq ?_
     obtain ⟨S215, hp216, rd217, up218, bk219⟩ := Hp.lendO hp (i := 0) rfl
     obtain ⟨S220, hp221, rd222, up223, bk224⟩ := Hp.lendO hp216 (i := 0) rfl
     have rl225 := ((rd217.now hp216).mono up223)
     have rl226 := ((((hk0_picks.now hp).mono up218).now hp216).mono up223)
     have rl227 := rd222
     obtain ⟨q228, hcall229, h⟩ := bnd h
     refine wp_cutN (fun a w => ∃ (v231 : Value), Fr 190 a [(0, ok0), (1, .int .i64 now1), (5, v174), (12, .int .i64 i12), (172, .bool (q228.1 != (0 : Int)))] ∧ Hp S w0 w (Res.obj 68 ok0 [.int .i64 k0c_0, vk0_s, vk0_r, v163, v165, vk0_picks, .int .i64 k0c_6, v167, .int .i64 k0c_8, .int .i64 k0c_9, .int .i64 k0c_10, v169, .bool k0c_12, v171] :: Res.obj 88 v196 [.int .i64 ((gt k0c_4 i12).1), .int .i64 ((gt k0c_4 i12).2.1), .int .u8 (((gt k0c_4 i12).2.2).1), .int .u8 (((gt k0c_4 i12).2.2).2.1), .bool (((gt k0c_4 i12).2.2).2.2.1), .string (((gt k0c_4 i12).2.2).2.2.2)] :: Res.sl (Ek.pair Ek.str (Ek.pair Ek.bool (Ek.pair (Ek.int .i64) Ek.bool))) 81 v231 q228.2.2.2.2.2 :: Res.obj 79 vk0_s [.int .i64 q228.2.1, .int .i64 q228.2.2.1, .int .i64 q228.2.2.2.1, .int .i64 q228.2.2.2.2.1, v231] :: Res.map (fun x : ByteArray => Value.string x) v160 k0c_2c_2 :: Res.obj 74 vk0_r [.int .i64 k0c_2c_0, .int .i64 k0c_2c_1, v160] :: Res.sl (Ek.pair (Ek.int .i64) (Ek.pair (Ek.int .i64) (Ek.pair (Ek.int .u8) (Ek.pair (Ek.int .u8) (Ek.pair Ek.bool Ek.str))))) 88 v163 k0c_3 :: Res.sl (Ek.pair (Ek.int .i64) (Ek.pair (Ek.int .i64) (Ek.pair (Ek.int .u8) (Ek.pair (Ek.int .u8) (Ek.pair Ek.bool Ek.str))))) 88 v165 k0c_4 :: Res.map (fun x : Int => Value.int .i64 x) v167 k0c_7 :: Res.sl Ek.str 9 v169 k0c_11 :: Res.sl (Ek.int .i64) 3 v171 k0c_13 :: Res.sl (Ek.pair (Ek.int .i64) (Ek.pair (Ek.int .i64) (Ek.pair (Ek.int .u8) (Ek.pair (Ek.int .u8) (Ek.pair Ek.bool Ek.str))))) 88 v174 later5 :: ow)) ?_ ?_
     ·
      have hp := hp221.same (Same.drew w)
      refine dr_begin' _ (fun w' => ∃ l, Hp S220 w w' l) [] (by kernel_rfl) ?_
      refine dr_takeK 0 (ok0) rfl hf rfl (fun w ⟨_, hp⟩ => ?_) ⟨_, hp⟩ ?_
      · exact st_move hf rfl rfl (by decide) tk
      clear hf; intro a hf
      refine dr_nilV 1 rfl (by kernel_rfl) (by kernel_rfl) (by kernel_rfl) hf (by decide) rfl rfl (rl225.ob hp) ?_
      clear hf; intro a hf
      refine dr_takeK 2 (optr ok0 1) rfl hf rfl (fun w ⟨_, hp⟩ => ?_) ⟨_, hp⟩ ?_
      · exact st_fa (o' := 1) hf (by decide) (off := 1) (sz := 1) (by kernel_rfl) (by decide) rfl rfl (rl225.ob hp) rfl tk
      clear hf; intro a hf
      refine dr_takeK 3 (vk0_s) rfl hf rfl (fun w ⟨_, hp⟩ => ?_) ⟨_, hp⟩ ?_
      · exact st_ldO (u := vk0_s) hf (by decide) pl44 rfl rfl (rl225.ob hp) rfl tk
      clear hf; intro a hf
      refine dr_takeK 4 (optr v196 2) rfl hf rfl (fun w ⟨_, hp⟩ => ?_) ⟨_, hp⟩ ?_
      · exact st_fa (o' := 2) hf (by decide) (off := 2) (sz := 4) (by kernel_rfl) (by decide) rfl rfl (rl227.ob hp) rfl tk
      clear hf; intro a hf
      refine dr_takeK 5 (.agg #[.int .u8 (((gt k0c_4 i12).2.2).1), .int .u8 (((gt k0c_4 i12).2.2).2.1), .bool (((gt k0c_4 i12).2.2).2.2.1), .string (((gt k0c_4 i12).2.2).2.2.2)]) rfl hf rfl (fun w ⟨_, hp⟩ => ?_) ⟨_, hp⟩ ?_
      · exact st_ldOA (m := 4) (us := [.int .u8 (((gt k0c_4 i12).2.2).1), .int .u8 (((gt k0c_4 i12).2.2).2.1), .bool (((gt k0c_4 i12).2.2).2.2.1), .string (((gt k0c_4 i12).2.2).2.2.2)]) hf (by decide) (by kernel_rfl) rfl rfl (rl227.ob hp) rfl rfl tk
      clear hf; intro a hf
      refine dr_one 6 rfl (by kernel_rfl) ?_
      have hp230 : Hp _ _ _ (Res.sl (Ek.pair Ek.str (Ek.pair Ek.bool (Ek.pair (Ek.int .i64) Ek.bool))) 81 v157 k0c_1c_4 :: Res.obj 79 vk0_s [.int .i64 k0c_1c_0, .int .i64 k0c_1c_1, .int .i64 k0c_1c_2, .int .i64 k0c_1c_3, v157] :: Res.map (fun x : ByteArray => Value.string x) v160 k0c_2c_2 :: Res.obj 74 vk0_r [.int .i64 k0c_2c_0, .int .i64 k0c_2c_1, v160] :: Res.sl (Ek.pair (Ek.int .i64) (Ek.pair (Ek.int .i64) (Ek.pair (Ek.int .u8) (Ek.pair (Ek.int .u8) (Ek.pair Ek.bool Ek.str))))) 88 v163 k0c_3 :: Res.sl (Ek.pair (Ek.int .i64) (Ek.pair (Ek.int .i64) (Ek.pair (Ek.int .u8) (Ek.pair (Ek.int .u8) (Ek.pair Ek.bool Ek.str))))) 88 v165 k0c_4 :: Res.map (fun x : Int => Value.int .i64 x) v167 k0c_7 :: Res.sl Ek.str 9 v169 k0c_11 :: Res.sl (Ek.int .i64) 3 v171 k0c_13 :: Res.sl (Ek.pair (Ek.int .i64) (Ek.pair (Ek.int .i64) (Ek.pair (Ek.int .u8) (Ek.pair (Ek.int .u8) (Ek.pair Ek.bool Ek.str))))) 88 v174 later5 :: ow) := Hp.sel (pre := [Res.sl (Ek.pair Ek.str (Ek.pair Ek.bool (Ek.pair (Ek.int .i64) Ek.bool))) 81 v157 k0c_1c_4, Res.obj 79 vk0_s [.int .i64 k0c_1c_0, .int .i64 k0c_1c_1, .int .i64 k0c_1c_2, .int .i64 k0c_1c_3, v157], Res.map (fun x : ByteArray => Value.string x) v160 k0c_2c_2, Res.obj 74 vk0_r [.int .i64 k0c_2c_0, .int .i64 k0c_2c_1, v160], Res.sl (Ek.pair (Ek.int .i64) (Ek.pair (Ek.int .i64) (Ek.pair (Ek.int .u8) (Ek.pair (Ek.int .u8) (Ek.pair Ek.bool Ek.str))))) 88 v163 k0c_3, Res.sl (Ek.pair (Ek.int .i64) (Ek.pair (Ek.int .i64) (Ek.pair (Ek.int .u8) (Ek.pair (Ek.int .u8) (Ek.pair Ek.bool Ek.str))))) 88 v165 k0c_4, Res.map (fun x : Int => Value.int .i64 x) v167 k0c_7, Res.sl Ek.str 9 v169 k0c_11, Res.sl (Ek.int .i64) 3 v171 k0c_13, Res.sl (Ek.pair (Ek.int .i64) (Ek.pair (Ek.int .i64) (Ek.pair (Ek.int .u8) (Ek.pair (Ek.int .u8) (Ek.pair Ek.bool Ek.str))))) 88 v174 later5]) (tail := ow) (rs' := [Res.sl (Ek.pair Ek.str (Ek.pair Ek.bool (Ek.pair (Ek.int .i64) Ek.bool))) 81 v157 k0c_1c_4, Res.obj 79 vk0_s [.int .i64 k0c_1c_0, .int .i64 k0c_1c_1, .int .i64 k0c_1c_2, .int .i64 k0c_1c_3, v157], Res.map (fun x : ByteArray => Value.string x) v160 k0c_2c_2, Res.obj 74 vk0_r [.int .i64 k0c_2c_0, .int .i64 k0c_2c_1, v160], Res.sl (Ek.pair (Ek.int .i64) (Ek.pair (Ek.int .i64) (Ek.pair (Ek.int .u8) (Ek.pair (Ek.int .u8) (Ek.pair Ek.bool Ek.str))))) 88 v163 k0c_3, Res.sl (Ek.pair (Ek.int .i64) (Ek.pair (Ek.int .i64) (Ek.pair (Ek.int .u8) (Ek.pair (Ek.int .u8) (Ek.pair Ek.bool Ek.str))))) 88 v165 k0c_4, Res.map (fun x : Int => Value.int .i64 x) v167 k0c_7, Res.sl Ek.str 9 v169 k0c_11, Res.sl (Ek.int .i64) 3 v171 k0c_13, Res.sl (Ek.pair (Ek.int .i64) (Ek.pair (Ek.int .i64) (Ek.pair (Ek.int .u8) (Ek.pair (Ek.int .u8) (Ek.pair Ek.bool Ek.str))))) 88 v174 later5]) hp [0, 1, 2, 3, 4, 5, 6, 7, 8, 9] (by decide) (by simp) rfl
      refine st_call hf (by decide) Try.func23 rfl rfl rfl rfl rfl (f_again_Sender_Hear_c _ _ _ _ _ _ _ _ _ _ _ hp230 hcall229) ?_
      rintro _ w ⟨v231, rfl, hp0⟩
      clear hp; have hp := hp0; clear hp0
      replace hp : Hp _ _ _ (Res.sl (Ek.pair Ek.str (Ek.pair Ek.bool (Ek.pair (Ek.int .i64) Ek.bool))) 81 v231 q228.2.2.2.2.2 :: Res.obj 79 vk0_s [.int .i64 q228.2.1, .int .i64 q228.2.2.1, .int .i64 q228.2.2.2.1, .int .i64 q228.2.2.2.2.1, v231] :: Res.map (fun x : ByteArray => Value.string x) v160 k0c_2c_2 :: Res.obj 74 vk0_r [.int .i64 k0c_2c_0, .int .i64 k0c_2c_1, v160] :: _ :: _ :: _ :: _ :: _ :: Res.sl (Ek.pair (Ek.int .i64) (Ek.pair (Ek.int .i64) (Ek.pair (Ek.int .u8) (Ek.pair (Ek.int .u8) (Ek.pair Ek.bool Ek.str))))) 88 v174 later5 :: ow) := hp
      refine ⟨_, rfl, ?_⟩
      clear hf; intro a hf
      refine nx hf (fun _ _ => ⟨_, hp⟩) ?_
      refine dr_takeK 7 (.bool (q228.1 != (0 : Int))) rfl hf rfl (fun w ⟨_, hp⟩ => ?_) ⟨_, hp⟩ ?_
      · exact st_ineq hf (by decide) rfl rfl rfl tk
      clear hf; intro a hf
      refine dr_end (by kernel_rfl) ?_ _
      have hp := bk224 _ _ hp
      have hp := bk219 _ _ hp
      exact ⟨v231, hf.sub ⟨rfl, rfl, rfl, rfl, rfl, trivial⟩, hp⟩
     rintro a w ⟨v231, hf, hp⟩
     refine th_n ?_
     refine wp_if hf rfl (fun hb => ?_) (fun hb => ?_)
     ·
      replace h := ifT h hb
      refine wp_seq ?_
      refine wp_reg ?_
      refine st_assign hf rfl rfl (by decide) ?_
      clear hf; intro a ha hf; clear ha
      refine st_nil hf ?_
      refine th_n ?_
      refine wp_ret ?_
      refine th_r ?_
      refine ib_r ?_
      refine th_r ?_
      have hp : Hp _ _ _ (_ :: _ :: Res.obj 68 ok0 [.int .i64 k0c_0, vk0_s, vk0_r, v163, v165, vk0_picks, .int .i64 k0c_6, v167, .int .i64 k0c_8, .int .i64 k0c_9, .int .i64 k0c_10, v169, .bool k0c_12, v171] :: Res.obj 88 v196 [.int .i64 ((gt k0c_4 i12).1), .int .i64 ((gt k0c_4 i12).2.1), .int .u8 (((gt k0c_4 i12).2.2).1), .int .u8 (((gt k0c_4 i12).2.2).2.1), .bool (((gt k0c_4 i12).2.2).2.2.1), .string (((gt k0c_4 i12).2.2).2.2.2)] :: _ :: _ :: _ :: _ :: _ :: _ :: _ :: _ :: ow) := Hp.sel (pre := [Res.obj 68 ok0 [.int .i64 k0c_0, vk0_s, vk0_r, v163, v165, vk0_picks, .int .i64 k0c_6, v167, .int .i64 k0c_8, .int .i64 k0c_9, .int .i64 k0c_10, v169, .bool k0c_12, v171], Res.obj 88 v196 [.int .i64 ((gt k0c_4 i12).1), .int .i64 ((gt k0c_4 i12).2.1), .int .u8 (((gt k0c_4 i12).2.2).1), .int .u8 (((gt k0c_4 i12).2.2).2.1), .bool (((gt k0c_4 i12).2.2).2.2.1), .string (((gt k0c_4 i12).2.2).2.2.2)], Res.sl (Ek.pair Ek.str (Ek.pair Ek.bool (Ek.pair (Ek.int .i64) Ek.bool))) 81 v231 q228.2.2.2.2.2, Res.obj 79 vk0_s [.int .i64 q228.2.1, .int .i64 q228.2.2.1, .int .i64 q228.2.2.2.1, .int .i64 q228.2.2.2.2.1, v231], Res.map (fun x : ByteArray => Value.string x) v160 k0c_2c_2, Res.obj 74 vk0_r [.int .i64 k0c_2c_0, .int .i64 k0c_2c_1, v160], Res.sl (Ek.pair (Ek.int .i64) (Ek.pair (Ek.int .i64) (Ek.pair (Ek.int .u8) (Ek.pair (Ek.int .u8) (Ek.pair Ek.bool Ek.str))))) 88 v163 k0c_3, Res.sl (Ek.pair (Ek.int .i64) (Ek.pair (Ek.int .i64) (Ek.pair (Ek.int .u8) (Ek.pair (Ek.int .u8) (Ek.pair Ek.bool Ek.str))))) 88 v165 k0c_4, Res.map (fun x : Int => Value.int .i64 x) v167 k0c_7, Res.sl Ek.str 9 v169 k0c_11, Res.sl (Ek.int .i64) 3 v171 k0c_13, Res.sl (Ek.pair (Ek.int .i64) (Ek.pair (Ek.int .i64) (Ek.pair (Ek.int .u8) (Ek.pair (Ek.int .u8) (Ek.pair Ek.bool Ek.str))))) 88 v174 later5]) (tail := ow) (rs' := [Res.obj 74 vk0_r [.int .i64 k0c_2c_0, .int .i64 k0c_2c_1, v160], Res.map (fun x : ByteArray => Value.string x) v160 k0c_2c_2, Res.obj 68 ok0 [.int .i64 k0c_0, vk0_s, vk0_r, v163, v165, vk0_picks, .int .i64 k0c_6, v167, .int .i64 k0c_8, .int .i64 k0c_9, .int .i64 k0c_10, v169, .bool k0c_12, v171], Res.obj 88 v196 [.int .i64 ((gt k0c_4 i12).1), .int .i64 ((gt k0c_4 i12).2.1), .int .u8 (((gt k0c_4 i12).2.2).1), .int .u8 (((gt k0c_4 i12).2.2).2.1), .bool (((gt k0c_4 i12).2.2).2.2.1), .string (((gt k0c_4 i12).2.2).2.2.2)], Res.sl (Ek.pair Ek.str (Ek.pair Ek.bool (Ek.pair (Ek.int .i64) Ek.bool))) 81 v231 q228.2.2.2.2.2, Res.obj 79 vk0_s [.int .i64 q228.2.1, .int .i64 q228.2.2.1, .int .i64 q228.2.2.2.1, .int .i64 q228.2.2.2.2.1, v231], Res.sl (Ek.pair (Ek.int .i64) (Ek.pair (Ek.int .i64) (Ek.pair (Ek.int .u8) (Ek.pair (Ek.int .u8) (Ek.pair Ek.bool Ek.str))))) 88 v163 k0c_3, Res.sl (Ek.pair (Ek.int .i64) (Ek.pair (Ek.int .i64) (Ek.pair (Ek.int .u8) (Ek.pair (Ek.int .u8) (Ek.pair Ek.bool Ek.str))))) 88 v165 k0c_4, Res.map (fun x : Int => Value.int .i64 x) v167 k0c_7, Res.sl Ek.str 9 v169 k0c_11, Res.sl (Ek.int .i64) 3 v171 k0c_13, Res.sl (Ek.pair (Ek.int .i64) (Ek.pair (Ek.int .i64) (Ek.pair (Ek.int .u8) (Ek.pair (Ek.int .u8) (Ek.pair Ek.bool Ek.str))))) 88 v174 later5]) hp [5, 4, 0, 1, 2, 3, 6, 7, 8, 9, 10, 11] (by decide) (by simp) rfl
      replace hp : Hp _ _ _ (Res.opt pk74 vk0_r (some (k0c_2c_0, k0c_2c_1, k0c_2c_2)) :: _ :: _ :: _ :: _ :: _ :: _ :: _ :: _ :: _ :: _ :: ow) := pk74_out (s := (k0c_2c_0, k0c_2c_1, k0c_2c_2)) (u := v160) hp
      have hp : Hp _ _ _ (_ :: _ :: _ :: _ :: _ :: _ :: _ :: _ :: _ :: _ :: _ :: ow) := Hp.sel (pre := [Res.opt pk74 vk0_r (some (k0c_2c_0, k0c_2c_1, k0c_2c_2)), Res.obj 68 ok0 [.int .i64 k0c_0, vk0_s, vk0_r, v163, v165, vk0_picks, .int .i64 k0c_6, v167, .int .i64 k0c_8, .int .i64 k0c_9, .int .i64 k0c_10, v169, .bool k0c_12, v171], Res.obj 88 v196 [.int .i64 ((gt k0c_4 i12).1), .int .i64 ((gt k0c_4 i12).2.1), .int .u8 (((gt k0c_4 i12).2.2).1), .int .u8 (((gt k0c_4 i12).2.2).2.1), .bool (((gt k0c_4 i12).2.2).2.2.1), .string (((gt k0c_4 i12).2.2).2.2.2)], Res.sl (Ek.pair Ek.str (Ek.pair Ek.bool (Ek.pair (Ek.int .i64) Ek.bool))) 81 v231 q228.2.2.2.2.2, Res.obj 79 vk0_s [.int .i64 q228.2.1, .int .i64 q228.2.2.1, .int .i64 q228.2.2.2.1, .int .i64 q228.2.2.2.2.1, v231], Res.sl (Ek.pair (Ek.int .i64) (Ek.pair (Ek.int .i64) (Ek.pair (Ek.int .u8) (Ek.pair (Ek.int .u8) (Ek.pair Ek.bool Ek.str))))) 88 v163 k0c_3, Res.sl (Ek.pair (Ek.int .i64) (Ek.pair (Ek.int .i64) (Ek.pair (Ek.int .u8) (Ek.pair (Ek.int .u8) (Ek.pair Ek.bool Ek.str))))) 88 v165 k0c_4, Res.map (fun x : Int => Value.int .i64 x) v167 k0c_7, Res.sl Ek.str 9 v169 k0c_11, Res.sl (Ek.int .i64) 3 v171 k0c_13, Res.sl (Ek.pair (Ek.int .i64) (Ek.pair (Ek.int .i64) (Ek.pair (Ek.int .u8) (Ek.pair (Ek.int .u8) (Ek.pair Ek.bool Ek.str))))) 88 v174 later5]) (tail := ow) (rs' := [Res.obj 79 vk0_s [.int .i64 q228.2.1, .int .i64 q228.2.2.1, .int .i64 q228.2.2.2.1, .int .i64 q228.2.2.2.2.1, v231], Res.sl (Ek.pair Ek.str (Ek.pair Ek.bool (Ek.pair (Ek.int .i64) Ek.bool))) 81 v231 q228.2.2.2.2.2, Res.opt pk74 vk0_r (some (k0c_2c_0, k0c_2c_1, k0c_2c_2)), Res.obj 68 ok0 [.int .i64 k0c_0, vk0_s, vk0_r, v163, v165, vk0_picks, .int .i64 k0c_6, v167, .int .i64 k0c_8, .int .i64 k0c_9, .int .i64 k0c_10, v169, .bool k0c_12, v171], Res.obj 88 v196 [.int .i64 ((gt k0c_4 i12).1), .int .i64 ((gt k0c_4 i12).2.1), .int .u8 (((gt k0c_4 i12).2.2).1), .int .u8 (((gt k0c_4 i12).2.2).2.1), .bool (((gt k0c_4 i12).2.2).2.2.1), .string (((gt k0c_4 i12).2.2).2.2.2)], Res.sl (Ek.pair (Ek.int .i64) (Ek.pair (Ek.int .i64) (Ek.pair (Ek.int .u8) (Ek.pair (Ek.int .u8) (Ek.pair Ek.bool Ek.str))))) 88 v163 k0c_3, Res.sl (Ek.pair (Ek.int .i64) (Ek.pair (Ek.int .i64) (Ek.pair (Ek.int .u8) (Ek.pair (Ek.int .u8) (Ek.pair Ek.bool Ek.str))))) 88 v165 k0c_4, Res.map (fun x : Int => Value.int .i64 x) v167 k0c_7, Res.sl Ek.str 9 v169 k0c_11, Res.sl (Ek.int .i64) 3 v171 k0c_13, Res.sl (Ek.pair (Ek.int .i64) (Ek.pair (Ek.int .i64) (Ek.pair (Ek.int .u8) (Ek.pair (Ek.int .u8) (Ek.pair Ek.bool Ek.str))))) 88 v174 later5]) hp [4, 3, 0, 1, 2, 5, 6, 7, 8, 9, 10] (by decide) (by simp) rfl
      replace hp : Hp _ _ _ (Res.opt pk79 vk0_s (some (q228.2.1, q228.2.2.1, q228.2.2.2.1, q228.2.2.2.2.1, q228.2.2.2.2.2)) :: _ :: _ :: _ :: _ :: _ :: _ :: _ :: _ :: _ :: ow) := pk79_out (s := (q228.2.1, q228.2.2.1, q228.2.2.2.1, q228.2.2.2.2.1, q228.2.2.2.2.2)) (u := v231) hp
      obtain rfl := Option.some.inj h
      have hp : Hp _ _ _ (_ :: _ :: _ :: _ :: _ :: _ :: _ :: _ :: ow) := Hp.sel (pre := [Res.opt pk79 vk0_s (some (q228.2.1, q228.2.2.1, q228.2.2.2.1, q228.2.2.2.2.1, q228.2.2.2.2.2)), Res.opt pk74 vk0_r (some (k0c_2c_0, k0c_2c_1, k0c_2c_2)), Res.obj 68 ok0 [.int .i64 k0c_0, vk0_s, vk0_r, v163, v165, vk0_picks, .int .i64 k0c_6, v167, .int .i64 k0c_8, .int .i64 k0c_9, .int .i64 k0c_10, v169, .bool k0c_12, v171], Res.obj 88 v196 [.int .i64 ((gt k0c_4 i12).1), .int .i64 ((gt k0c_4 i12).2.1), .int .u8 (((gt k0c_4 i12).2.2).1), .int .u8 (((gt k0c_4 i12).2.2).2.1), .bool (((gt k0c_4 i12).2.2).2.2.1), .string (((gt k0c_4 i12).2.2).2.2.2)], Res.sl (Ek.pair (Ek.int .i64) (Ek.pair (Ek.int .i64) (Ek.pair (Ek.int .u8) (Ek.pair (Ek.int .u8) (Ek.pair Ek.bool Ek.str))))) 88 v163 k0c_3, Res.sl (Ek.pair (Ek.int .i64) (Ek.pair (Ek.int .i64) (Ek.pair (Ek.int .u8) (Ek.pair (Ek.int .u8) (Ek.pair Ek.bool Ek.str))))) 88 v165 k0c_4, Res.map (fun x : Int => Value.int .i64 x) v167 k0c_7, Res.sl Ek.str 9 v169 k0c_11, Res.sl (Ek.int .i64) 3 v171 k0c_13, Res.sl (Ek.pair (Ek.int .i64) (Ek.pair (Ek.int .i64) (Ek.pair (Ek.int .u8) (Ek.pair (Ek.int .u8) (Ek.pair Ek.bool Ek.str))))) 88 v174 later5]) (tail := ow) (rs' := [Res.opt pk79 vk0_s (some (q228.2.1, q228.2.2.1, q228.2.2.2.1, q228.2.2.2.2.1, q228.2.2.2.2.2)), Res.opt pk74 vk0_r (some (k0c_2c_0, k0c_2c_1, k0c_2c_2)), Res.sl (Ek.pair (Ek.int .i64) (Ek.pair (Ek.int .i64) (Ek.pair (Ek.int .u8) (Ek.pair (Ek.int .u8) (Ek.pair Ek.bool Ek.str))))) 88 v163 k0c_3, Res.sl (Ek.pair (Ek.int .i64) (Ek.pair (Ek.int .i64) (Ek.pair (Ek.int .u8) (Ek.pair (Ek.int .u8) (Ek.pair Ek.bool Ek.str))))) 88 v165 k0c_4, Res.map (fun x : Int => Value.int .i64 x) v167 k0c_7, Res.sl Ek.str 9 v169 k0c_11, Res.sl (Ek.int .i64) 3 v171 k0c_13, Res.obj 68 ok0 [.int .i64 k0c_0, vk0_s, vk0_r, v163, v165, vk0_picks, .int .i64 k0c_6, v167, .int .i64 k0c_8, .int .i64 k0c_9, .int .i64 k0c_10, v169, .bool k0c_12, v171]]) hp [0, 1, 4, 5, 6, 7, 8, 2] (by decide) (by simp) rfl
      exact rnd_r (by simp) ⟨rfl, ⟨_, _, _, _, _, hf.sub ⟨rfl, trivial⟩, hp⟩⟩
     replace h := ifF h hb
     refine wp_skip ?_
     refine th_n ?_
     obtain ⟨S233, hp234, rd235, up236, bk237⟩ := Hp.lendO hp (i := 0) rfl
     have rl238 := rd235
     have rl239 := ((hk0_picks.now hp).mono up236)
     obtain ⟨q240, hcall241, h⟩ := bnd h
     refine wp_cutN (fun a w => Fr 190 a [(0, ok0), (1, .int .i64 now1), (5, v174), (12, .int .i64 i12)] ∧ Hp S w0 w (Res.obj 68 ok0 [.int .i64 k0c_0, vk0_s, vk0_r, v163, v165, vk0_picks, .int .i64 k0c_6, v167, .int .i64 k0c_8, .int .i64 (IntKind.i64.wrap (k0c_10 - q240)), .int .i64 k0c_10, v169, .bool k0c_12, v171] :: Res.sl (Ek.pair Ek.str (Ek.pair Ek.bool (Ek.pair (Ek.int .i64) Ek.bool))) 81 v231 q228.2.2.2.2.2 :: Res.obj 79 vk0_s [.int .i64 q228.2.1, .int .i64 q228.2.2.1, .int .i64 q228.2.2.2.1, .int .i64 q228.2.2.2.2.1, v231] :: Res.obj 88 v196 [.int .i64 ((gt k0c_4 i12).1), .int .i64 ((gt k0c_4 i12).2.1), .int .u8 (((gt k0c_4 i12).2.2).1), .int .u8 (((gt k0c_4 i12).2.2).2.1), .bool (((gt k0c_4 i12).2.2).2.2.1), .string (((gt k0c_4 i12).2.2).2.2.2)] :: Res.map (fun x : ByteArray => Value.string x) v160 k0c_2c_2 :: Res.obj 74 vk0_r [.int .i64 k0c_2c_0, .int .i64 k0c_2c_1, v160] :: Res.sl (Ek.pair (Ek.int .i64) (Ek.pair (Ek.int .i64) (Ek.pair (Ek.int .u8) (Ek.pair (Ek.int .u8) (Ek.pair Ek.bool Ek.str))))) 88 v163 k0c_3 :: Res.sl (Ek.pair (Ek.int .i64) (Ek.pair (Ek.int .i64) (Ek.pair (Ek.int .u8) (Ek.pair (Ek.int .u8) (Ek.pair Ek.bool Ek.str))))) 88 v165 k0c_4 :: Res.map (fun x : Int => Value.int .i64 x) v167 k0c_7 :: Res.sl Ek.str 9 v169 k0c_11 :: Res.sl (Ek.int .i64) 3 v171 k0c_13 :: Res.sl (Ek.pair (Ek.int .i64) (Ek.pair (Ek.int .i64) (Ek.pair (Ek.int .u8) (Ek.pair (Ek.int .u8) (Ek.pair Ek.bool Ek.str))))) 88 v174 later5 :: ow)) ?_ ?_
     ·
      have hp := hp234.same (Same.drew w)
      refine dr_begin' _ (fun w' => ∃ l, Hp S233 w w' l) [13] (by kernel_rfl) ?_
      refine dr_takeP 0 (ok0) rfl (by kernel_rfl) (by kernel_rfl) (by kernel_rfl) rfl rfl hf (by decide) rfl (fun w => ?_) ?_
      ·
       refine st_move hf rfl rfl (by decide) ?_
       clear hf; intro a ha hf
       exact st_nil hf (th_n ⟨ha, rfl⟩)
      clear hf; intro a hf
      refine dr_takeP 1 (ok0) rfl (by kernel_rfl) (by kernel_rfl) (by kernel_rfl) rfl rfl hf (by decide) rfl (fun w => ?_) ?_
      ·
       refine st_move hf rfl rfl (by decide) ?_
       clear hf; intro a ha hf
       exact st_nil hf (th_n ⟨ha, rfl⟩)
      clear hf; intro a hf
      refine dr_nilV 2 rfl (by kernel_rfl) (by kernel_rfl) (by kernel_rfl) hf (by decide) rfl rfl (rl238.mono fun _ _ => trivial) ?_
      clear hf; intro a hf
      refine dr_takeP 3 (optr ok0 10) rfl (by kernel_rfl) (by kernel_rfl) (by kernel_rfl) rfl rfl hf (by decide) rfl (fun w => ?_) ?_
      ·
       refine st_fa (o' := 10) hf (by decide) (off := 10) (sz := 1) (by kernel_rfl) (by decide) rfl rfl (rl238.mono fun _ _ => trivial) rfl ?_
       clear hf; intro a ha hf
       exact st_nil hf (th_n ⟨ha, rfl⟩)
      clear hf; intro a hf
      refine dr_take2 4 (.int .i64 k0c_10) rfl (by kernel_rfl) (by kernel_rfl) (by kernel_rfl) (by kernel_rfl) (by kernel_rfl) rfl rfl hf (by decide) rfl (fun w hp => ?_) ⟨_, hp⟩ ?_
      ·
       obtain ⟨_, hp⟩ := hp
       refine st_ldO (u := .int .i64 k0c_10) hf (by decide) pl3 rfl rfl (rl238.ob hp) rfl ?_
       clear hf; intro a ha hf
       exact st_nil hf (th_n ⟨ha, rfl⟩)
      clear hf; intro a hf
      refine dr_takeP 5 (ok0) rfl (by kernel_rfl) (by kernel_rfl) (by kernel_rfl) rfl rfl hf (by decide) rfl (fun w => ?_) ?_
      ·
       refine st_move hf rfl rfl (by decide) ?_
       clear hf; intro a ha hf
       exact st_nil hf (th_n ⟨ha, rfl⟩)
      clear hf; intro a hf
      refine dr_nilV 6 rfl (by kernel_rfl) (by kernel_rfl) (by kernel_rfl) hf (by decide) rfl rfl (rl238.mono fun _ _ => trivial) ?_
      clear hf; intro a hf
      refine dr_takeP 7 (optr ok0 1) rfl (by kernel_rfl) (by kernel_rfl) (by kernel_rfl) rfl rfl hf (by decide) rfl (fun w => ?_) ?_
      ·
       refine st_fa (o' := 1) hf (by decide) (off := 1) (sz := 1) (by kernel_rfl) (by decide) rfl rfl (rl238.mono fun _ _ => trivial) rfl ?_
       clear hf; intro a ha hf
       exact st_nil hf (th_n ⟨ha, rfl⟩)
      clear hf; intro a hf
      refine dr_take2 8 (vk0_s) rfl (by kernel_rfl) (by kernel_rfl) (by kernel_rfl) (by kernel_rfl) (by kernel_rfl) rfl rfl hf (by decide) rfl (fun w hp => ?_) ⟨_, hp⟩ ?_
      ·
       obtain ⟨_, hp⟩ := hp
       refine st_ldO (u := vk0_s) hf (by decide) pl44 rfl rfl (rl238.ob hp) rfl ?_
       clear hf; intro a ha hf
       exact st_nil hf (th_n ⟨ha, rfl⟩)
      clear hf; intro a hf
      refine dr_one 9 rfl (by kernel_rfl) ?_
      obtain ⟨S242, hp243, rd244, up245, bk246⟩ := Hp.lendS hp (i := 1) rfl
      obtain ⟨S247, hp248, rd249, up250, bk251⟩ := Hp.lendO hp243 (i := 1) rfl
      refine st_call hf (by decide) Try.func25 rfl rfl rfl rfl rfl (f_again_Sender_Left_c hp248 _ _ _ _ _ _ ((rd244.now hp243).mono up250) _ rd249 hcall241) ?_
      rintro _ w ⟨rfl, hp0⟩
      have hp0 := bk251 _ _ hp0
      have hp0 := bk246 _ _ hp0
      clear hp; have hp := hp0; clear hp0
      replace hp : Hp _ _ _ (Res.sl (Ek.pair Ek.str (Ek.pair Ek.bool (Ek.pair (Ek.int .i64) Ek.bool))) 81 v231 q228.2.2.2.2.2 :: Res.obj 79 vk0_s [.int .i64 q228.2.1, .int .i64 q228.2.2.1, .int .i64 q228.2.2.2.1, .int .i64 q228.2.2.2.2.1, v231] :: Res.obj 88 v196 [.int .i64 ((gt k0c_4 i12).1), .int .i64 ((gt k0c_4 i12).2.1), .int .u8 (((gt k0c_4 i12).2.2).1), .int .u8 (((gt k0c_4 i12).2.2).2.1), .bool (((gt k0c_4 i12).2.2).2.2.1), .string (((gt k0c_4 i12).2.2).2.2.2)] :: Res.map (fun x : ByteArray => Value.string x) v160 k0c_2c_2 :: Res.obj 74 vk0_r [.int .i64 k0c_2c_0, .int .i64 k0c_2c_1, v160] :: _ :: _ :: _ :: _ :: _ :: Res.sl (Ek.pair (Ek.int .i64) (Ek.pair (Ek.int .i64) (Ek.pair (Ek.int .u8) (Ek.pair (Ek.int .u8) (Ek.pair Ek.bool Ek.str))))) 88 v174 later5 :: ow) := hp
      refine ⟨_, rfl, ?_⟩
      clear hf; intro a hf
      refine nx hf (fun _ _ => ⟨_, hp⟩) ?_
      refine dr_takeP 10 (.int .i64 (IntKind.i64.wrap (k0c_10 - q240))) rfl (by kernel_rfl) (by kernel_rfl) (by kernel_rfl) rfl rfl hf (by decide) rfl (fun w => ?_) ?_
      ·
       refine st_isub hf (by decide) rfl rfl rfl ?_
       clear hf; intro a ha hf
       exact st_nil hf (th_n ⟨ha, rfl⟩)
      clear hf; intro a hf
      refine dr_nilV 11 rfl (by kernel_rfl) (by kernel_rfl) (by kernel_rfl) hf (by decide) rfl rfl (rl238.mono fun _ _ => trivial) ?_
      clear hf; intro a hf
      refine dr_takeP 12 (optr ok0 9) rfl (by kernel_rfl) (by kernel_rfl) (by kernel_rfl) rfl rfl hf (by decide) rfl (fun w => ?_) ?_
      ·
       refine st_fa (o' := 9) hf (by decide) (off := 9) (sz := 1) (by kernel_rfl) (by decide) rfl rfl (rl238.mono fun _ _ => trivial) rfl ?_
       clear hf; intro a ha hf
       exact st_nil hf (th_n ⟨ha, rfl⟩)
      clear hf; intro a hf
      have hp := bk237 _ _ hp
      refine dr_one 13 rfl (by kernel_rfl) ?_
      refine st_stO (us := [.int .i64 (IntKind.i64.wrap (k0c_10 - q240))]) hf hp (i := 0) rfl rfl rfl rfl rfl (by rfl) (by kernel_rfl) (Nat.le_of_ble_eq_true rfl) ?_
      clear hf; intro a w hf hp0; clear hp; have hp := hp0; clear hp0
      replace hp : Hp _ _ _ (Res.obj 68 ok0 [.int .i64 k0c_0, vk0_s, vk0_r, v163, v165, vk0_picks, .int .i64 k0c_6, v167, .int .i64 k0c_8, .int .i64 (IntKind.i64.wrap (k0c_10 - q240)), .int .i64 k0c_10, v169, .bool k0c_12, v171] :: _ :: _ :: _ :: _ :: _ :: _ :: _ :: _ :: _ :: _ :: _ :: ow) := hp
      refine st_nil hf (th_n ⟨fun hn => absurd hn (by decide), ?_⟩)
      refine dr_end (by kernel_rfl) ?_ _
      exact ⟨hf.sub ⟨rfl, rfl, rfl, rfl, trivial⟩, hp⟩
     rintro a w ⟨hf, hp⟩
     refine ib_n ?_
     refine th_n ?_
     refine wp_reg ?_
     refine st_move hf rfl rfl (by decide) ?_
     clear hf; intro a ha hf; clear ha
     refine st_iadd hf (by decide) rfl rfl rfl ?_
     clear hf; intro a ha hf; clear ha
     refine st_assign hf rfl rfl (by decide) ?_
     clear hf; intro a ha hf; clear ha
     refine st_nil hf ?_
     obtain rfl := Option.some.inj h
     have hp : Hp _ _ _ (_ :: _ :: _ :: _ :: _ :: _ :: _ :: _ :: _ :: _ :: _ :: ow) := Hp.sel (pre := [Res.obj 68 ok0 [.int .i64 k0c_0, vk0_s, vk0_r, v163, v165, vk0_picks, .int .i64 k0c_6, v167, .int .i64 k0c_8, .int .i64 (IntKind.i64.wrap (k0c_10 - q240)), .int .i64 k0c_10, v169, .bool k0c_12, v171], Res.sl (Ek.pair Ek.str (Ek.pair Ek.bool (Ek.pair (Ek.int .i64) Ek.bool))) 81 v231 q228.2.2.2.2.2, Res.obj 79 vk0_s [.int .i64 q228.2.1, .int .i64 q228.2.2.1, .int .i64 q228.2.2.2.1, .int .i64 q228.2.2.2.2.1, v231], Res.obj 88 v196 [.int .i64 ((gt k0c_4 i12).1), .int .i64 ((gt k0c_4 i12).2.1), .int .u8 (((gt k0c_4 i12).2.2).1), .int .u8 (((gt k0c_4 i12).2.2).2.1), .bool (((gt k0c_4 i12).2.2).2.2.1), .string (((gt k0c_4 i12).2.2).2.2.2)], Res.map (fun x : ByteArray => Value.string x) v160 k0c_2c_2, Res.obj 74 vk0_r [.int .i64 k0c_2c_0, .int .i64 k0c_2c_1, v160], Res.sl (Ek.pair (Ek.int .i64) (Ek.pair (Ek.int .i64) (Ek.pair (Ek.int .u8) (Ek.pair (Ek.int .u8) (Ek.pair Ek.bool Ek.str))))) 88 v163 k0c_3, Res.sl (Ek.pair (Ek.int .i64) (Ek.pair (Ek.int .i64) (Ek.pair (Ek.int .u8) (Ek.pair (Ek.int .u8) (Ek.pair Ek.bool Ek.str))))) 88 v165 k0c_4, Res.map (fun x : Int => Value.int .i64 x) v167 k0c_7, Res.sl Ek.str 9 v169 k0c_11, Res.sl (Ek.int .i64) 3 v171 k0c_13, Res.sl (Ek.pair (Ek.int .i64) (Ek.pair (Ek.int .i64) (Ek.pair (Ek.int .u8) (Ek.pair (Ek.int .u8) (Ek.pair Ek.bool Ek.str))))) 88 v174 later5]) (tail := ow) (rs' := [Res.sl (Ek.pair Ek.str (Ek.pair Ek.bool (Ek.pair (Ek.int .i64) Ek.bool))) 81 v231 q228.2.2.2.2.2, Res.obj 79 vk0_s [.int .i64 q228.2.1, .int .i64 q228.2.2.1, .int .i64 q228.2.2.2.1, .int .i64 q228.2.2.2.2.1, v231], Res.map (fun x : ByteArray => Value.string x) v160 k0c_2c_2, Res.obj 74 vk0_r [.int .i64 k0c_2c_0, .int .i64 k0c_2c_1, v160], Res.sl (Ek.pair (Ek.int .i64) (Ek.pair (Ek.int .i64) (Ek.pair (Ek.int .u8) (Ek.pair (Ek.int .u8) (Ek.pair Ek.bool Ek.str))))) 88 v163 k0c_3, Res.sl (Ek.pair (Ek.int .i64) (Ek.pair (Ek.int .i64) (Ek.pair (Ek.int .u8) (Ek.pair (Ek.int .u8) (Ek.pair Ek.bool Ek.str))))) 88 v165 k0c_4, Res.map (fun x : Int => Value.int .i64 x) v167 k0c_7, Res.sl Ek.str 9 v169 k0c_11, Res.sl (Ek.int .i64) 3 v171 k0c_13, Res.obj 68 ok0 [.int .i64 k0c_0, vk0_s, vk0_r, v163, v165, vk0_picks, .int .i64 k0c_6, v167, .int .i64 k0c_8, .int .i64 (IntKind.i64.wrap (k0c_10 - q240)), .int .i64 k0c_10, v169, .bool k0c_12, v171], Res.sl (Ek.pair (Ek.int .i64) (Ek.pair (Ek.int .i64) (Ek.pair (Ek.int .u8) (Ek.pair (Ek.int .u8) (Ek.pair Ek.bool Ek.str))))) 88 v174 later5]) hp [1, 2, 4, 5, 6, 7, 8, 9, 10, 0, 11] (by decide) (by simp) rfl
     exact rnd_l ⟨_, _, _, _, _, _, _, _, hf.sub ⟨rfl, rfl, rfl, rfl, trivial⟩, hp⟩
    replace h := ifF h hb
    refine wp_exit ?_
    refine th_e ?_
    obtain rfl := Option.some.inj h
    exact rnd_r (by simp) ⟨rfl, _, _, _, _, _, _, _, _, hf.sub ⟨rfl, rfl, trivial⟩, hp⟩
   clear hl hf hp
   intro e a w hne hO
   rcases q252 with q254 | q255
   ·
    replace h := smL h
    obtain ⟨rfl, v176, v179, v182, v184, v186, v188, v190, v193, hf, hp⟩ := hO
    refine ib_same ?_
    refine th_n ?_
    refine wp_seq ?_
    refine wp_reg ?_
    refine st_move hf rfl rfl (by decide) ?_
    clear hf; intro a ha hf; clear ha
    refine st_move hf rfl rfl (by decide) ?_
    clear hf; intro a ha hf; clear ha
    refine st_nilV hf (by decide) rfl rfl (hp.ob (i := 9) rfl) ?_
    clear hf; intro a ha hf; clear ha
    refine st_fa (o' := 4) hf (by decide) (off := 4) (sz := 1) (by kernel_rfl) (by decide) rfl rfl (hp.ob (i := 9) rfl) rfl ?_
    clear hf; intro a ha hf; clear ha
    refine st_stO (us := [v193]) hf hp (i := 9) rfl rfl rfl rfl (cells_sh (hp.sl (i := 10) rfl).shapeV) (ones_sh (hp.sl (i := 10) rfl).shapeV) (by kernel_rfl) (Nat.le_of_ble_eq_true rfl) ?_
    clear hf; intro a w hf hp0; clear hp; have hp := hp0; clear hp0
    replace hp : Hp _ _ _ (Res.sl (Ek.pair Ek.str (Ek.pair Ek.bool (Ek.pair (Ek.int .i64) Ek.bool))) 81 v176 q254.2.2.2.2.2.1 :: Res.obj 79 vk0_s [.int .i64 q254.2.1, .int .i64 q254.2.2.1, .int .i64 q254.2.2.2.1, .int .i64 q254.2.2.2.2.1, v176] :: Res.map (fun x : ByteArray => Value.string x) v179 q254.2.2.2.2.2.2.2.2.1 :: Res.obj 74 vk0_r [.int .i64 q254.2.2.2.2.2.2.1, .int .i64 q254.2.2.2.2.2.2.2.1, v179] :: Res.sl (Ek.pair (Ek.int .i64) (Ek.pair (Ek.int .i64) (Ek.pair (Ek.int .u8) (Ek.pair (Ek.int .u8) (Ek.pair Ek.bool Ek.str))))) 88 v182 q254.2.2.2.2.2.2.2.2.2.1 :: Res.sl (Ek.pair (Ek.int .i64) (Ek.pair (Ek.int .i64) (Ek.pair (Ek.int .u8) (Ek.pair (Ek.int .u8) (Ek.pair Ek.bool Ek.str))))) 88 v184 q254.2.2.2.2.2.2.2.2.2.2.1 :: Res.map (fun x : Int => Value.int .i64 x) v186 q254.2.2.2.2.2.2.2.2.2.2.2.2.1 :: Res.sl Ek.str 9 v188 q254.2.2.2.2.2.2.2.2.2.2.2.2.2.2.2.2.1 :: Res.sl (Ek.int .i64) 3 v190 q254.2.2.2.2.2.2.2.2.2.2.2.2.2.2.2.2.2.2.1 :: Res.obj 68 ok0 [.int .i64 q254.1, vk0_s, vk0_r, v182, v193, vk0_picks, .int .i64 q254.2.2.2.2.2.2.2.2.2.2.2.1, v186, .int .i64 q254.2.2.2.2.2.2.2.2.2.2.2.2.2.1, .int .i64 q254.2.2.2.2.2.2.2.2.2.2.2.2.2.2.1, .int .i64 q254.2.2.2.2.2.2.2.2.2.2.2.2.2.2.2.1, v188, .bool q254.2.2.2.2.2.2.2.2.2.2.2.2.2.2.2.2.2.1, v190] :: Res.sl (Ek.pair (Ek.int .i64) (Ek.pair (Ek.int .i64) (Ek.pair (Ek.int .u8) (Ek.pair (Ek.int .u8) (Ek.pair Ek.bool Ek.str))))) 88 v193 q254.2.2.2.2.2.2.2.2.2.2.2.2.2.2.2.2.2.2.2 :: ow) := hp
    refine st_nil hf ?_
    refine th_n ?_
    refine wp_seq ?_
    refine wp_reg ?_
    refine st_assign hf rfl rfl (by decide) ?_
    clear hf; intro a ha hf; clear ha
    refine st_nil hf ?_
    refine th_n ?_
    refine wp_ret ?_
    have hp : Hp _ _ _ (_ :: _ :: _ :: _ :: _ :: _ :: _ :: _ :: _ :: _ :: _ :: ow) := Hp.sel (pre := [Res.sl (Ek.pair Ek.str (Ek.pair Ek.bool (Ek.pair (Ek.int .i64) Ek.bool))) 81 v176 q254.2.2.2.2.2.1, Res.obj 79 vk0_s [.int .i64 q254.2.1, .int .i64 q254.2.2.1, .int .i64 q254.2.2.2.1, .int .i64 q254.2.2.2.2.1, v176], Res.map (fun x : ByteArray => Value.string x) v179 q254.2.2.2.2.2.2.2.2.1, Res.obj 74 vk0_r [.int .i64 q254.2.2.2.2.2.2.1, .int .i64 q254.2.2.2.2.2.2.2.1, v179], Res.sl (Ek.pair (Ek.int .i64) (Ek.pair (Ek.int .i64) (Ek.pair (Ek.int .u8) (Ek.pair (Ek.int .u8) (Ek.pair Ek.bool Ek.str))))) 88 v182 q254.2.2.2.2.2.2.2.2.2.1, Res.sl (Ek.pair (Ek.int .i64) (Ek.pair (Ek.int .i64) (Ek.pair (Ek.int .u8) (Ek.pair (Ek.int .u8) (Ek.pair Ek.bool Ek.str))))) 88 v184 q254.2.2.2.2.2.2.2.2.2.2.1, Res.map (fun x : Int => Value.int .i64 x) v186 q254.2.2.2.2.2.2.2.2.2.2.2.2.1, Res.sl Ek.str 9 v188 q254.2.2.2.2.2.2.2.2.2.2.2.2.2.2.2.2.1, Res.sl (Ek.int .i64) 3 v190 q254.2.2.2.2.2.2.2.2.2.2.2.2.2.2.2.2.2.2.1, Res.obj 68 ok0 [.int .i64 q254.1, vk0_s, vk0_r, v182, v193, vk0_picks, .int .i64 q254.2.2.2.2.2.2.2.2.2.2.2.1, v186, .int .i64 q254.2.2.2.2.2.2.2.2.2.2.2.2.2.1, .int .i64 q254.2.2.2.2.2.2.2.2.2.2.2.2.2.2.1, .int .i64 q254.2.2.2.2.2.2.2.2.2.2.2.2.2.2.2.1, v188, .bool q254.2.2.2.2.2.2.2.2.2.2.2.2.2.2.2.2.2.1, v190], Res.sl (Ek.pair (Ek.int .i64) (Ek.pair (Ek.int .i64) (Ek.pair (Ek.int .u8) (Ek.pair (Ek.int .u8) (Ek.pair Ek.bool Ek.str))))) 88 v193 q254.2.2.2.2.2.2.2.2.2.2.2.2.2.2.2.2.2.2.2]) (tail := ow) (rs' := [Res.obj 74 vk0_r [.int .i64 q254.2.2.2.2.2.2.1, .int .i64 q254.2.2.2.2.2.2.2.1, v179], Res.map (fun x : ByteArray => Value.string x) v179 q254.2.2.2.2.2.2.2.2.1, Res.sl (Ek.pair Ek.str (Ek.pair Ek.bool (Ek.pair (Ek.int .i64) Ek.bool))) 81 v176 q254.2.2.2.2.2.1, Res.obj 79 vk0_s [.int .i64 q254.2.1, .int .i64 q254.2.2.1, .int .i64 q254.2.2.2.1, .int .i64 q254.2.2.2.2.1, v176], Res.sl (Ek.pair (Ek.int .i64) (Ek.pair (Ek.int .i64) (Ek.pair (Ek.int .u8) (Ek.pair (Ek.int .u8) (Ek.pair Ek.bool Ek.str))))) 88 v182 q254.2.2.2.2.2.2.2.2.2.1, Res.sl (Ek.pair (Ek.int .i64) (Ek.pair (Ek.int .i64) (Ek.pair (Ek.int .u8) (Ek.pair (Ek.int .u8) (Ek.pair Ek.bool Ek.str))))) 88 v184 q254.2.2.2.2.2.2.2.2.2.2.1, Res.map (fun x : Int => Value.int .i64 x) v186 q254.2.2.2.2.2.2.2.2.2.2.2.2.1, Res.sl Ek.str 9 v188 q254.2.2.2.2.2.2.2.2.2.2.2.2.2.2.2.2.1, Res.sl (Ek.int .i64) 3 v190 q254.2.2.2.2.2.2.2.2.2.2.2.2.2.2.2.2.2.2.1, Res.obj 68 ok0 [.int .i64 q254.1, vk0_s, vk0_r, v182, v193, vk0_picks, .int .i64 q254.2.2.2.2.2.2.2.2.2.2.2.1, v186, .int .i64 q254.2.2.2.2.2.2.2.2.2.2.2.2.2.1, .int .i64 q254.2.2.2.2.2.2.2.2.2.2.2.2.2.2.1, .int .i64 q254.2.2.2.2.2.2.2.2.2.2.2.2.2.2.2.1, v188, .bool q254.2.2.2.2.2.2.2.2.2.2.2.2.2.2.2.2.2.1, v190], Res.sl (Ek.pair (Ek.int .i64) (Ek.pair (Ek.int .i64) (Ek.pair (Ek.int .u8) (Ek.pair (Ek.int .u8) (Ek.pair Ek.bool Ek.str))))) 88 v193 q254.2.2.2.2.2.2.2.2.2.2.2.2.2.2.2.2.2.2.2]) hp [3, 2, 0, 1, 4, 5, 6, 7, 8, 9, 10] (by decide) (by simp) rfl
    replace hp : Hp _ _ _ (Res.opt pk74 vk0_r (some (q254.2.2.2.2.2.2.1, q254.2.2.2.2.2.2.2.1, q254.2.2.2.2.2.2.2.2.1)) :: _ :: _ :: _ :: _ :: _ :: _ :: _ :: _ :: _ :: ow) := pk74_out (s := (q254.2.2.2.2.2.2.1, q254.2.2.2.2.2.2.2.1, q254.2.2.2.2.2.2.2.2.1)) (u := v179) hp
    have hp : Hp _ _ _ (_ :: _ :: _ :: _ :: _ :: _ :: _ :: _ :: _ :: _ :: ow) := Hp.sel (pre := [Res.opt pk74 vk0_r (some (q254.2.2.2.2.2.2.1, q254.2.2.2.2.2.2.2.1, q254.2.2.2.2.2.2.2.2.1)), Res.sl (Ek.pair Ek.str (Ek.pair Ek.bool (Ek.pair (Ek.int .i64) Ek.bool))) 81 v176 q254.2.2.2.2.2.1, Res.obj 79 vk0_s [.int .i64 q254.2.1, .int .i64 q254.2.2.1, .int .i64 q254.2.2.2.1, .int .i64 q254.2.2.2.2.1, v176], Res.sl (Ek.pair (Ek.int .i64) (Ek.pair (Ek.int .i64) (Ek.pair (Ek.int .u8) (Ek.pair (Ek.int .u8) (Ek.pair Ek.bool Ek.str))))) 88 v182 q254.2.2.2.2.2.2.2.2.2.1, Res.sl (Ek.pair (Ek.int .i64) (Ek.pair (Ek.int .i64) (Ek.pair (Ek.int .u8) (Ek.pair (Ek.int .u8) (Ek.pair Ek.bool Ek.str))))) 88 v184 q254.2.2.2.2.2.2.2.2.2.2.1, Res.map (fun x : Int => Value.int .i64 x) v186 q254.2.2.2.2.2.2.2.2.2.2.2.2.1, Res.sl Ek.str 9 v188 q254.2.2.2.2.2.2.2.2.2.2.2.2.2.2.2.2.1, Res.sl (Ek.int .i64) 3 v190 q254.2.2.2.2.2.2.2.2.2.2.2.2.2.2.2.2.2.2.1, Res.obj 68 ok0 [.int .i64 q254.1, vk0_s, vk0_r, v182, v193, vk0_picks, .int .i64 q254.2.2.2.2.2.2.2.2.2.2.2.1, v186, .int .i64 q254.2.2.2.2.2.2.2.2.2.2.2.2.2.1, .int .i64 q254.2.2.2.2.2.2.2.2.2.2.2.2.2.2.1, .int .i64 q254.2.2.2.2.2.2.2.2.2.2.2.2.2.2.2.1, v188, .bool q254.2.2.2.2.2.2.2.2.2.2.2.2.2.2.2.2.2.1, v190], Res.sl (Ek.pair (Ek.int .i64) (Ek.pair (Ek.int .i64) (Ek.pair (Ek.int .u8) (Ek.pair (Ek.int .u8) (Ek.pair Ek.bool Ek.str))))) 88 v193 q254.2.2.2.2.2.2.2.2.2.2.2.2.2.2.2.2.2.2.2]) (tail := ow) (rs' := [Res.obj 79 vk0_s [.int .i64 q254.2.1, .int .i64 q254.2.2.1, .int .i64 q254.2.2.2.1, .int .i64 q254.2.2.2.2.1, v176], Res.sl (Ek.pair Ek.str (Ek.pair Ek.bool (Ek.pair (Ek.int .i64) Ek.bool))) 81 v176 q254.2.2.2.2.2.1, Res.opt pk74 vk0_r (some (q254.2.2.2.2.2.2.1, q254.2.2.2.2.2.2.2.1, q254.2.2.2.2.2.2.2.2.1)), Res.sl (Ek.pair (Ek.int .i64) (Ek.pair (Ek.int .i64) (Ek.pair (Ek.int .u8) (Ek.pair (Ek.int .u8) (Ek.pair Ek.bool Ek.str))))) 88 v182 q254.2.2.2.2.2.2.2.2.2.1, Res.sl (Ek.pair (Ek.int .i64) (Ek.pair (Ek.int .i64) (Ek.pair (Ek.int .u8) (Ek.pair (Ek.int .u8) (Ek.pair Ek.bool Ek.str))))) 88 v184 q254.2.2.2.2.2.2.2.2.2.2.1, Res.map (fun x : Int => Value.int .i64 x) v186 q254.2.2.2.2.2.2.2.2.2.2.2.2.1, Res.sl Ek.str 9 v188 q254.2.2.2.2.2.2.2.2.2.2.2.2.2.2.2.2.1, Res.sl (Ek.int .i64) 3 v190 q254.2.2.2.2.2.2.2.2.2.2.2.2.2.2.2.2.2.2.1, Res.obj 68 ok0 [.int .i64 q254.1, vk0_s, vk0_r, v182, v193, vk0_picks, .int .i64 q254.2.2.2.2.2.2.2.2.2.2.2.1, v186, .int .i64 q254.2.2.2.2.2.2.2.2.2.2.2.2.2.1, .int .i64 q254.2.2.2.2.2.2.2.2.2.2.2.2.2.2.1, .int .i64 q254.2.2.2.2.2.2.2.2.2.2.2.2.2.2.2.1, v188, .bool q254.2.2.2.2.2.2.2.2.2.2.2.2.2.2.2.2.2.1, v190], Res.sl (Ek.pair (Ek.int .i64) (Ek.pair (Ek.int .i64) (Ek.pair (Ek.int .u8) (Ek.pair (Ek.int .u8) (Ek.pair Ek.bool Ek.str))))) 88 v193 q254.2.2.2.2.2.2.2.2.2.2.2.2.2.2.2.2.2.2.2]) hp [2, 1, 0, 3, 4, 5, 6, 7, 8, 9] (by decide) (by simp) rfl
    replace hp : Hp _ _ _ (Res.opt pk79 vk0_s (some (q254.2.1, q254.2.2.1, q254.2.2.2.1, q254.2.2.2.2.1, q254.2.2.2.2.2.1)) :: _ :: _ :: _ :: _ :: _ :: _ :: _ :: _ :: ow) := pk79_out (s := (q254.2.1, q254.2.2.1, q254.2.2.2.1, q254.2.2.2.2.1, q254.2.2.2.2.2.1)) (u := v176) hp
    obtain rfl := Option.some.inj h
    have hp : Hp _ _ _ (_ :: _ :: _ :: _ :: _ :: _ :: _ :: _ :: ow) := Hp.sel (pre := [Res.opt pk79 vk0_s (some (q254.2.1, q254.2.2.1, q254.2.2.2.1, q254.2.2.2.2.1, q254.2.2.2.2.2.1)), Res.opt pk74 vk0_r (some (q254.2.2.2.2.2.2.1, q254.2.2.2.2.2.2.2.1, q254.2.2.2.2.2.2.2.2.1)), Res.sl (Ek.pair (Ek.int .i64) (Ek.pair (Ek.int .i64) (Ek.pair (Ek.int .u8) (Ek.pair (Ek.int .u8) (Ek.pair Ek.bool Ek.str))))) 88 v182 q254.2.2.2.2.2.2.2.2.2.1, Res.sl (Ek.pair (Ek.int .i64) (Ek.pair (Ek.int .i64) (Ek.pair (Ek.int .u8) (Ek.pair (Ek.int .u8) (Ek.pair Ek.bool Ek.str))))) 88 v184 q254.2.2.2.2.2.2.2.2.2.2.1, Res.map (fun x : Int => Value.int .i64 x) v186 q254.2.2.2.2.2.2.2.2.2.2.2.2.1, Res.sl Ek.str 9 v188 q254.2.2.2.2.2.2.2.2.2.2.2.2.2.2.2.2.1, Res.sl (Ek.int .i64) 3 v190 q254.2.2.2.2.2.2.2.2.2.2.2.2.2.2.2.2.2.2.1, Res.obj 68 ok0 [.int .i64 q254.1, vk0_s, vk0_r, v182, v193, vk0_picks, .int .i64 q254.2.2.2.2.2.2.2.2.2.2.2.1, v186, .int .i64 q254.2.2.2.2.2.2.2.2.2.2.2.2.2.1, .int .i64 q254.2.2.2.2.2.2.2.2.2.2.2.2.2.2.1, .int .i64 q254.2.2.2.2.2.2.2.2.2.2.2.2.2.2.2.1, v188, .bool q254.2.2.2.2.2.2.2.2.2.2.2.2.2.2.2.2.2.1, v190], Res.sl (Ek.pair (Ek.int .i64) (Ek.pair (Ek.int .i64) (Ek.pair (Ek.int .u8) (Ek.pair (Ek.int .u8) (Ek.pair Ek.bool Ek.str))))) 88 v193 q254.2.2.2.2.2.2.2.2.2.2.2.2.2.2.2.2.2.2.2]) (tail := ow) (rs' := [Res.opt pk79 vk0_s (some (q254.2.1, q254.2.2.1, q254.2.2.2.1, q254.2.2.2.2.1, q254.2.2.2.2.2.1)), Res.opt pk74 vk0_r (some (q254.2.2.2.2.2.2.1, q254.2.2.2.2.2.2.2.1, q254.2.2.2.2.2.2.2.2.1)), Res.sl (Ek.pair (Ek.int .i64) (Ek.pair (Ek.int .i64) (Ek.pair (Ek.int .u8) (Ek.pair (Ek.int .u8) (Ek.pair Ek.bool Ek.str))))) 88 v182 q254.2.2.2.2.2.2.2.2.2.1, Res.sl (Ek.pair (Ek.int .i64) (Ek.pair (Ek.int .i64) (Ek.pair (Ek.int .u8) (Ek.pair (Ek.int .u8) (Ek.pair Ek.bool Ek.str))))) 88 v193 q254.2.2.2.2.2.2.2.2.2.2.2.2.2.2.2.2.2.2.2, Res.map (fun x : Int => Value.int .i64 x) v186 q254.2.2.2.2.2.2.2.2.2.2.2.2.1, Res.sl Ek.str 9 v188 q254.2.2.2.2.2.2.2.2.2.2.2.2.2.2.2.2.1, Res.sl (Ek.int .i64) 3 v190 q254.2.2.2.2.2.2.2.2.2.2.2.2.2.2.2.2.2.2.1, Res.obj 68 ok0 [.int .i64 q254.1, vk0_s, vk0_r, v182, v193, vk0_picks, .int .i64 q254.2.2.2.2.2.2.2.2.2.2.2.1, v186, .int .i64 q254.2.2.2.2.2.2.2.2.2.2.2.2.2.1, .int .i64 q254.2.2.2.2.2.2.2.2.2.2.2.2.2.2.1, .int .i64 q254.2.2.2.2.2.2.2.2.2.2.2.2.2.2.2.1, v188, .bool q254.2.2.2.2.2.2.2.2.2.2.2.2.2.2.2.2.2.1, v190]]) hp [0, 1, 2, 8, 4, 5, 6, 7] (by decide) (by simp) rfl
    exact ⟨rfl, ⟨_, _, _, _, _, hf.sub ⟨rfl, trivial⟩, hp⟩⟩
   replace h := smR h
   obtain ⟨rfl, x0, x1, x2, x3, x4, hf, hp⟩ := hO
   refine ib_r ?_
   refine th_r ?_
   obtain rfl := Option.some.inj h
   exact ⟨rfl, ⟨_, _, _, _, _, hf.sub ⟨rfl, trivial⟩, hp⟩⟩
  replace h := smR h
  obtain ⟨rfl, x0, x1, x2, x3, x4, hf, hp⟩ := hO
  refine ib_r ?_
  refine th_r ?_
  obtain rfl := Option.some.inj h
  exact ⟨rfl, ⟨_, _, _, _, _, hf.sub ⟨rfl, trivial⟩, hp⟩⟩

end Go.Proofs.Ytmdigffgmohcnaa
