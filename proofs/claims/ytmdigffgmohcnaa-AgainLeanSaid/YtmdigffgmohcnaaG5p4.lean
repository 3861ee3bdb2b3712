/- The functions foghorn foghornlaw28.AgainLean: what each answers, as a plain function, and that its call answers it; printed by gen.py. -/
import Derived.Test.YtmdigffgmohcnaaProg
import Derived.Test.YtmdigffgmohcnaaGlUb
import Derived.KernelRfl
import Derived.Test.YtmdigffgmohcnaaG5p3
set_option linter.unusedVariables false
set_option linter.unusedSimpArgs false
set_option maxRecDepth 100000
set_option maxHeartbeats 4000000
namespace Go.Proofs.Ytmdigffgmohcnaa
open GL
noncomputable def f_foghornlaw28_link_tick.s1c (k0_picks : (List Int)) (now1 : Int) (q13 : ((List (Int × Int × Bool × ByteArray)) × Int × (Int × Int × Int × Int × (List (ByteArray × Bool × Int × Bool))))) (k0c_0 : Int) (k0c_1c_0 : Int) (k0c_1c_1 : Int) (k0c_1c_2 : Int) (k0c_1c_3 : Int) (k0c_1c_4 : (List (ByteArray × Bool × Int × Bool))) (k0c_2c_0 : Int) (k0c_2c_1 : Int) (k0c_2c_2 : (List (Int × ByteArray))) (k0c_3 : (List (Int × Int × (Int × Int × Bool × ByteArray)))) (k0c_4 : (List (Int × Int × (Int × Int × Bool × ByteArray)))) (k0c_6 : Int) (k0c_7 : (List (Int × Int))) (k0c_8 : Int) (k0c_9 : Int) (k0c_10 : Int) (k0c_11 : (List ByteArray)) (k0c_12 : Bool) (k0c_13 : (List Int)) (i7 : Int) : Option ((Int × Int × Int × Int × Int × (List (ByteArray × Bool × Int × Bool)) × Int × Int × (List (Int × ByteArray)) × (List (Int × Int × (Int × Int × Bool × ByteArray))) × (List (Int × Int × (Int × Int × Bool × ByteArray))) × Int × (List (Int × Int)) × Int × Int × Int × (List ByteArray) × Bool × (List Int) × Int) ⊕ ((Int × Int × Int × Int × Int × (List (ByteArray × Bool × Int × Bool)) × Int × Int × (List (Int × ByteArray)) × (List (Int × Int × (Int × Int × Bool × ByteArray))) × (List (Int × Int × (Int × Int × Bool × ByteArray))) × Int × (List (Int × Int)) × Int × Int × Int × (List ByteArray) × Bool × (List Int)) ⊕ (Bool × (Int × (Option (Int × Int × Int × Int × (List (ByteArray × Bool × Int × Bool)))) × (Option (Int × Int × (List (Int × ByteArray)))) × (List (Int × Int × (Int × Int × Bool × ByteArray))) × (List (Int × Int × (Int × Int × Bool × ByteArray))) × (List Int) × Int × (List (Int × Int)) × Int × Int × Int × (List ByteArray) × Bool × (List Int))))) := (if (decide (i7 < (q13.1.length : Int))) = true then (if 0 ≤ i7 ∧ i7 < (q13.1.length : Int) then (if (decide (k0c_10 ≤ (IntKind.i64.wrap (k0c_9 + (IntKind.i64.wrap (IntKind.u8.wrap ((gt q13.1 i7).2.1 - (IntKind.u8.wrap k0c_9)))))))) = true then (some (Sum.inr (Sum.inr (false, (k0c_0, (some (k0c_1c_0, k0c_1c_1, k0c_1c_2, k0c_1c_3, k0c_1c_4)), (some (k0c_2c_0, k0c_2c_1, k0c_2c_2)), k0c_3, k0c_4, k0_picks, k0c_6, k0c_7, k0c_8, k0c_9, k0c_10, k0c_11, k0c_12, k0c_13))))) else (if 0 ≤ (IntKind.i64.wrap (k0c_9 + (IntKind.i64.wrap (IntKind.u8.wrap ((gt q13.1 i7).2.1 - (IntKind.u8.wrap k0c_9)))))) ∧ (IntKind.i64.wrap (k0c_9 + (IntKind.i64.wrap (IntKind.u8.wrap ((gt q13.1 i7).2.1 - (IntKind.u8.wrap k0c_9)))))) < (k0c_13.length : Int) then (if 0 ≤ (IntKind.i64.wrap (k0c_9 + (IntKind.i64.wrap (IntKind.u8.wrap ((gt q13.1 i7).2.1 - (IntKind.u8.wrap k0c_9)))))) ∧ (IntKind.i64.wrap (k0c_9 + (IntKind.i64.wrap (IntKind.u8.wrap ((gt q13.1 i7).2.1 - (IntKind.u8.wrap k0c_9)))))) < (k0c_13.length : Int) then ((f_foghornlaw28_link_pick k0c_0 (some (k0c_1c_0, k0c_1c_1, k0c_1c_2, k0c_1c_3, k0c_1c_4)) (some (k0c_2c_0, k0c_2c_1, k0c_2c_2)) k0c_3 k0c_4 k0_picks k0c_6 k0c_7 k0c_8 k0c_9 k0c_10 k0c_11 k0c_12 (k0c_13.set ((IntKind.i64.wrap (k0c_9 + (IntKind.i64.wrap (IntKind.u8.wrap ((gt q13.1 i7).2.1 - (IntKind.u8.wrap k0c_9))))))).toNat (IntKind.i64.wrap ((gt k0c_13 (IntKind.i64.wrap (k0c_9 + (IntKind.i64.wrap (IntKind.u8.wrap ((gt q13.1 i7).2.1 - (IntKind.u8.wrap k0c_9))))))) + (1 : Int))))).bind fun q76 => ((q76.2.2.1).bind fun s89 => ((q76.2.2.2.1).bind fun s93 => (if (((iand .i64 q76.1 (1 : Int)) == (1 : Int)) && (decide (((mget q76.2.2.2.2.2.2.2.2.1 (IntKind.i64.wrap (k0c_9 + (IntKind.i64.wrap (IntKind.u8.wrap ((gt q13.1 i7).2.1 - (IntKind.u8.wrap k0c_9))))))).getD (0 : Int)) < (3 : Int)))) = true then (some (Sum.inl (q76.2.1, s89.1, s89.2.1, s89.2.2.1, s89.2.2.2.1, s89.2.2.2.2, s93.1, s93.2.1, s93.2.2, q76.2.2.2.2.1, q76.2.2.2.2.2.1, q76.2.2.2.2.2.2.2.1, (mput q76.2.2.2.2.2.2.2.2.1 (IntKind.i64.wrap (k0c_9 + (IntKind.i64.wrap (IntKind.u8.wrap ((gt q13.1 i7).2.1 - (IntKind.u8.wrap k0c_9)))))) (IntKind.i64.wrap (((mget q76.2.2.2.2.2.2.2.2.1 (IntKind.i64.wrap (k0c_9 + (IntKind.i64.wrap (IntKind.u8.wrap ((gt q13.1 i7).2.1 - (IntKind.u8.wrap k0c_9))))))).getD (0 : Int)) + (1 : Int)))), q76.2.2.2.2.2.2.2.2.2.1, q76.2.2.2.2.2.2.2.2.2.2.1, q76.2.2.2.2.2.2.2.2.2.2.2.1, q76.2.2.2.2.2.2.2.2.2.2.2.2.1, q76.2.2.2.2.2.2.2.2.2.2.2.2.2.1, q76.2.2.2.2.2.2.2.2.2.2.2.2.2.2, (IntKind.i64.wrap (i7 + (1 : Int)))))) else (if 0 ≤ i7 ∧ i7 < (q13.1.length : Int) then (if (q76.2.2.2.2.1.length + ([((IntKind.i64.wrap ((IntKind.i64.wrap (now1 + (1 : Int))) + (iand .i64 (ishr .i64 q76.1 (1 : Int)) (3 : Int)))), (IntKind.i64.wrap (k0c_9 + (IntKind.i64.wrap (IntKind.u8.wrap ((gt q13.1 i7).2.1 - (IntKind.u8.wrap k0c_9)))))), ((gt q13.1 i7).1, (gt q13.1 i7).2.1, (gt q13.1 i7).2.2.1, (gt q13.1 i7).2.2.2))]).length) * 40 ≤ 140737488355328 then (if ((iand .i64 (ishr .i64 q76.1 (3 : Int)) (7 : Int)) == (7 : Int)) = true then (if 0 ≤ i7 ∧ i7 < (q13.1.length : Int) then (if ((q76.2.2.2.2.1 ++ [((IntKind.i64.wrap ((IntKind.i64.wrap (now1 + (1 : Int))) + (iand .i64 (ishr .i64 q76.1 (1 : Int)) (3 : Int)))), (IntKind.i64.wrap (k0c_9 + (IntKind.i64.wrap (IntKind.u8.wrap ((gt q13.1 i7).2.1 - (IntKind.u8.wrap k0c_9)))))), ((gt q13.1 i7).1, (gt q13.1 i7).2.1, (gt q13.1 i7).2.2.1, (gt q13.1 i7).2.2.2))]).length + ([((IntKind.i64.wrap ((IntKind.i64.wrap (now1 + (2 : Int))) + (ishr .i64 q76.1 (6 : Int)))), (IntKind.i64.wrap (k0c_9 + (IntKind.i64.wrap (IntKind.u8.wrap ((gt q13.1 i7).2.1 - (IntKind.u8.wrap k0c_9)))))), ((gt q13.1 i7).1, (gt q13.1 i7).2.1, (gt q13.1 i7).2.2.1, (gt q13.1 i7).2.2.2))]).length) * 40 ≤ 140737488355328 then (some (Sum.inl (q76.2.1, s89.1, s89.2.1, s89.2.2.1, s89.2.2.2.1, s89.2.2.2.2, s93.1, s93.2.1, s93.2.2, ((q76.2.2.2.2.1 ++ [((IntKind.i64.wrap ((IntKind.i64.wrap (now1 + (1 : Int))) + (iand .i64 (ishr .i64 q76.1 (1 : Int)) (3 : Int)))), (IntKind.i64.wrap (k0c_9 + (IntKind.i64.wrap (IntKind.u8.wrap ((gt q13.1 i7).2.1 - (IntKind.u8.wrap k0c_9)))))), ((gt q13.1 i7).1, (gt q13.1 i7).2.1, (gt q13.1 i7).2.2.1, (gt q13.1 i7).2.2.2))]) ++ [((IntKind.i64.wrap ((IntKind.i64.wrap (now1 + (2 : Int))) + (ishr .i64 q76.1 (6 : Int)))), (IntKind.i64.wrap (k0c_9 + (IntKind.i64.wrap (IntKind.u8.wrap ((gt q13.1 i7).2.1 - (IntKind.u8.wrap k0c_9)))))), ((gt q13.1 i7).1, (gt q13.1 i7).2.1, (gt q13.1 i7).2.2.1, (gt q13.1 i7).2.2.2))]), q76.2.2.2.2.2.1, q76.2.2.2.2.2.2.2.1, q76.2.2.2.2.2.2.2.2.1, q76.2.2.2.2.2.2.2.2.2.1, q76.2.2.2.2.2.2.2.2.2.2.1, q76.2.2.2.2.2.2.2.2.2.2.2.1, q76.2.2.2.2.2.2.2.2.2.2.2.2.1, q76.2.2.2.2.2.2.2.2.2.2.2.2.2.1, q76.2.2.2.2.2.2.2.2.2.2.2.2.2.2, (IntKind.i64.wrap (i7 + (1 : Int)))))) else none) else none) else (some (Sum.inl (q76.2.1, s89.1, s89.2.1, s89.2.2.1, s89.2.2.2.1, s89.2.2.2.2, s93.1, s93.2.1, s93.2.2, (q76.2.2.2.2.1 ++ [((IntKind.i64.wrap ((IntKind.i64.wrap (now1 + (1 : Int))) + (iand .i64 (ishr .i64 q76.1 (1 : Int)) (3 : Int)))), (IntKind.i64.wrap (k0c_9 + (IntKind.i64.wrap (IntKind.u8.wrap ((gt q13.1 i7).2.1 - (IntKind.u8.wrap k0c_9)))))), ((gt q13.1 i7).1, (gt q13.1 i7).2.1, (gt q13.1 i7).2.2.1, (gt q13.1 i7).2.2.2))]), q76.2.2.2.2.2.1, q76.2.2.2.2.2.2.2.1, q76.2.2.2.2.2.2.2.2.1, q76.2.2.2.2.2.2.2.2.2.1, q76.2.2.2.2.2.2.2.2.2.2.1, q76.2.2.2.2.2.2.2.2.2.2.2.1, q76.2.2.2.2.2.2.2.2.2.2.2.2.1, q76.2.2.2.2.2.2.2.2.2.2.2.2.2.1, q76.2.2.2.2.2.2.2.2.2.2.2.2.2.2, (IntKind.i64.wrap (i7 + (1 : Int))))))) else none) else none))))) else none) else none)) else none) else (some (Sum.inr (Sum.inl (k0c_0, k0c_1c_0, k0c_1c_1, k0c_1c_2, k0c_1c_3, k0c_1c_4, k0c_2c_0, k0c_2c_1, k0c_2c_2, k0c_3, k0c_4, k0c_6, k0c_7, k0c_8, k0c_9, k0c_10, k0c_11, k0c_12, k0c_13)))))
noncomputable def f_foghornlaw28_link_tick.s1 (k0_picks : (List Int)) (now1 : Int) (q13 : ((List (Int × Int × Bool × ByteArray)) × Int × (Int × Int × Int × Int × (List (ByteArray × Bool × Int × Bool))))) (s : (Int × Int × Int × Int × Int × (List (ByteArray × Bool × Int × Bool)) × Int × Int × (List (Int × ByteArray)) × (List (Int × Int × (Int × Int × Bool × ByteArray))) × (List (Int × Int × (Int × Int × Bool × ByteArray))) × Int × (List (Int × Int)) × Int × Int × Int × (List ByteArray) × Bool × (List Int) × Int)) : Option ((Int × Int × Int × Int × Int × (List (ByteArray × Bool × Int × Bool)) × Int × Int × (List (Int × ByteArray)) × (List (Int × Int × (Int × Int × Bool × ByteArray))) × (List (Int × Int × (Int × Int × Bool × ByteArray))) × Int × (List (Int × Int)) × Int × Int × Int × (List ByteArray) × Bool × (List Int) × Int) ⊕ ((Int × Int × Int × Int × Int × (List (ByteArray × Bool × Int × Bool)) × Int × Int × (List (Int × ByteArray)) × (List (Int × Int × (Int × Int × Bool × ByteArray))) × (List (Int × Int × (Int × Int × Bool × ByteArray))) × Int × (List (Int × Int)) × Int × Int × Int × (List ByteArray) × Bool × (List Int)) ⊕ (Bool × (Int × (Option (Int × Int × Int × Int × (List (ByteArray × Bool × Int × Bool)))) × (Option (Int × Int × (List (Int × ByteArray)))) × (List (Int × Int × (Int × Int × Bool × ByteArray))) × (List (Int × Int × (Int × Int × Bool × ByteArray))) × (List Int) × Int × (List (Int × Int)) × Int × Int × Int × (List ByteArray) × Bool × (List Int))))) := f_foghornlaw28_link_tick.s1c k0_picks now1 q13 s.1 s.2.1 s.2.2.1 s.2.2.2.1 s.2.2.2.2.1 s.2.2.2.2.2.1 s.2.2.2.2.2.2.1 s.2.2.2.2.2.2.2.1 s.2.2.2.2.2.2.2.2.1 s.2.2.2.2.2.2.2.2.2.1 s.2.2.2.2.2.2.2.2.2.2.1 s.2.2.2.2.2.2.2.2.2.2.2.1 s.2.2.2.2.2.2.2.2.2.2.2.2.1 s.2.2.2.2.2.2.2.2.2.2.2.2.2.1 s.2.2.2.2.2.2.2.2.2.2.2.2.2.2.1 s.2.2.2.2.2.2.2.2.2.2.2.2.2.2.2.1 s.2.2.2.2.2.2.2.2.2.2.2.2.2.2.2.2.1 s.2.2.2.2.2.2.2.2.2.2.2.2.2.2.2.2.2.1 s.2.2.2.2.2.2.2.2.2.2.2.2.2.2.2.2.2.2.1 s.2.2.2.2.2.2.2.2.2.2.2.2.2.2.2.2.2.2.2
noncomputable def f_foghornlaw28_link_tick (k0_window : Int) (k0_s : (Option (Int × Int × Int × Int × (List (ByteArray × Bool × Int × Bool))))) (k0_r : (Option (Int × Int × (List (Int × ByteArray))))) (k0_there : (List (Int × Int × (Int × Int × Bool × ByteArray)))) (k0_back : (List (Int × Int × (Int × Int × Bool × ByteArray)))) (k0_picks : (List Int)) (k0_at : Int) (k0_lost : (List (Int × Int))) (k0_row : Int) (k0_base : Int) (k0_offered : Int) (k0_got : (List ByteArray)) (k0_excluded : Bool) (k0_times : (List Int)) (now1 : Int) : Option (Bool × (Int × (Option (Int × Int × Int × Int × (List (ByteArray × Bool × Int × Bool)))) × (Option (Int × Int × (List (Int × ByteArray)))) × (List (Int × Int × (Int × Int × Bool × ByteArray))) × (List (Int × Int × (Int × Int × Bool × ByteArray))) × (List Int) × Int × (List (Int × Int)) × Int × Int × Int × (List ByteArray) × Bool × (List Int))) := ((k0_s).bind fun s9 => ((f_again_Sender_Tick s9.1 s9.2.1 s9.2.2.1 s9.2.2.2.1 s9.2.2.2.2 now1).bind fun q13 => ((k0_r).bind fun s20 => (if ((q13.2.1 != (0 : Int)) || (decide (k0_window < (q13.1.length : Int)))) = true then (some (false, (k0_window, (some (q13.2.2.1, q13.2.2.2.1, q13.2.2.2.2.1, q13.2.2.2.2.2.1, q13.2.2.2.2.2.2)), (some (s20.1, s20.2.1, s20.2.2)), k0_there, k0_back, k0_picks, k0_at, k0_lost, k0_row, k0_base, k0_offered, k0_got, k0_excluded, k0_times))) else ((loop (f_foghornlaw28_link_tick.s1 k0_picks now1 q13) (k0_window, q13.2.2.1, q13.2.2.2.1, q13.2.2.2.2.1, q13.2.2.2.2.2.1, q13.2.2.2.2.2.2, s20.1, s20.2.1, s20.2.2, k0_there, k0_back, k0_at, k0_lost, k0_row, k0_base, k0_offered, k0_got, k0_excluded, k0_times, (0 : Int))).bind (fun q142 => sm q142 (fun q143 => ((f_foghornlaw28_link_come q143.1 (some (q143.2.1, q143.2.2.1, q143.2.2.2.1, q143.2.2.2.2.1, q143.2.2.2.2.2.1)) (some (q143.2.2.2.2.2.2.1, q143.2.2.2.2.2.2.2.1, q143.2.2.2.2.2.2.2.2.1)) q143.2.2.2.2.2.2.2.2.2.1 q143.2.2.2.2.2.2.2.2.2.2.1 k0_picks q143.2.2.2.2.2.2.2.2.2.2.2.1 q143.2.2.2.2.2.2.2.2.2.2.2.2.1 q143.2.2.2.2.2.2.2.2.2.2.2.2.2.1 q143.2.2.2.2.2.2.2.2.2.2.2.2.2.2.1 q143.2.2.2.2.2.2.2.2.2.2.2.2.2.2.2.1 q143.2.2.2.2.2.2.2.2.2.2.2.2.2.2.2.2.1 q143.2.2.2.2.2.2.2.2.2.2.2.2.2.2.2.2.2.1 q143.2.2.2.2.2.2.2.2.2.2.2.2.2.2.2.2.2.2 now1).bind fun q145 => (some (q145.1, (q145.2.1, q145.2.2.1, q145.2.2.2.1, q145.2.2.2.2.1, q145.2.2.2.2.2.1, k0_picks, q145.2.2.2.2.2.2.2.1, q145.2.2.2.2.2.2.2.2.1, q145.2.2.2.2.2.2.2.2.2.1, q145.2.2.2.2.2.2.2.2.2.2.1, q145.2.2.2.2.2.2.2.2.2.2.2.1, q145.2.2.2.2.2.2.2.2.2.2.2.2.1, q145.2.2.2.2.2.2.2.2.2.2.2.2.2.1, q145.2.2.2.2.2.2.2.2.2.2.2.2.2.2))))) (fun q144 => (some (q144.1, (q144.2.1, q144.2.2.1, q144.2.2.2.1, q144.2.2.2.2.1, q144.2.2.2.2.2.1, k0_picks, q144.2.2.2.2.2.2.2.1, q144.2.2.2.2.2.2.2.2.1, q144.2.2.2.2.2.2.2.2.2.1, q144.2.2.2.2.2.2.2.2.2.2.1, q144.2.2.2.2.2.2.2.2.2.2.2.1, q144.2.2.2.2.2.2.2.2.2.2.2.2.1, q144.2.2.2.2.2.2.2.2.2.2.2.2.2.1, q144.2.2.2.2.2.2.2.2.2.2.2.2.2.2))))))))))
theorem f_foghornlaw28_link_tick_c {S : Nat → Prop} {w0 w : World} {ow : List Res} (k0_window : Int) (vk0_s : Value) (k0_s : (Option (Int × Int × Int × Int × (List (ByteArray × Bool × Int × Bool))))) (vk0_r : Value) (k0_r : (Option (Int × Int × (List (Int × ByteArray))))) (vk0_there : Value) (k0_there : (List (Int × Int × (Int × Int × Bool × ByteArray)))) (vk0_back : Value) (k0_back : (List (Int × Int × (Int × Int × Bool × ByteArray)))) (vk0_picks : Value) (k0_picks : (List Int)) (hk0_picks : RdS (Ek.int .u8) S w0 vk0_picks k0_picks) (k0_at : Int) (vk0_lost : Value) (k0_lost : (List (Int × Int))) (k0_row : Int) (k0_base : Int) (k0_offered : Int) (vk0_got : Value) (k0_got : (List ByteArray)) (k0_excluded : Bool) (vk0_times : Value) (k0_times : (List Int)) (ok0 : Value) (now1 : Int) (hp : Hp S w0 w (Res.opt pk79 vk0_s k0_s :: Res.opt pk74 vk0_r k0_r :: Res.sl (Ek.pair (Ek.int .i64) (Ek.pair (Ek.int .i64) (Ek.pair (Ek.int .u8) (Ek.pair (Ek.int .u8) (Ek.pair Ek.bool Ek.str))))) 88 vk0_there k0_there :: Res.sl (Ek.pair (Ek.int .i64) (Ek.pair (Ek.int .i64) (Ek.pair (Ek.int .u8) (Ek.pair (Ek.int .u8) (Ek.pair Ek.bool Ek.str))))) 88 vk0_back k0_back :: Res.map (fun x : Int => Value.int .i64 x) vk0_lost k0_lost :: Res.sl Ek.str 9 vk0_got k0_got :: Res.sl (Ek.int .i64) 3 vk0_times k0_times :: Res.obj 68 ok0 [.int .i64 k0_window, vk0_s, vk0_r, vk0_there, vk0_back, vk0_picks, .int .i64 k0_at, vk0_lost, .int .i64 k0_row, .int .i64 k0_base, .int .i64 k0_offered, vk0_got, .bool k0_excluded, vk0_times] :: ow)) {r : (Bool × (Int × (Option (Int × Int × Int × Int × (List (ByteArray × Bool × Int × Bool)))) × (Option (Int × Int × (List (Int × ByteArray)))) × (List (Int × Int × (Int × Int × Bool × ByteArray))) × (List (Int × Int × (Int × Int × Bool × ByteArray))) × (List Int) × Int × (List (Int × Int)) × Int × Int × Int × (List ByteArray) × Bool × (List Int)))} (h : f_foghornlaw28_link_tick k0_window k0_s k0_r k0_there k0_back k0_picks k0_at k0_lost k0_row k0_base k0_offered k0_got k0_excluded k0_times now1 = some r) :
   Calls Try.prog 28 #[ok0, .int .i64 now1] w (fun e w' => ∃ (u0 : Value) (u1 : Value) (u2 : Value) (u3 : Value) (u4 : Value), e = .returned (.bool r.1) ∧ Hp S w0 w' (Res.opt pk79 vk0_s r.2.2.1 :: Res.opt pk74 vk0_r r.2.2.2.1 :: Res.sl (Ek.pair (Ek.int .i64) (Ek.pair (Ek.int .i64) (Ek.pair (Ek.int .u8) (Ek.pair (Ek.int .u8) (Ek.pair Ek.bool Ek.str))))) 88 u0 r.2.2.2.2.1 :: Res.sl (Ek.pair (Ek.int .i64) (Ek.pair (Ek.int .i64) (Ek.pair (Ek.int .u8) (Ek.pair (Ek.int .u8) (Ek.pair Ek.bool Ek.str))))) 88 u1 r.2.2.2.2.2.1 :: Res.map (fun x : Int => Value.int .i64 x) u2 r.2.2.2.2.2.2.2.2.1 :: Res.sl Ek.str 9 u3 r.2.2.2.2.2.2.2.2.2.2.2.2.1 :: Res.sl (Ek.int .i64) 3 u4 r.2.2.2.2.2.2.2.2.2.2.2.2.2.2 :: Res.obj 68 ok0 [.int .i64 r.2.1, vk0_s, vk0_r, u0, u1, vk0_picks, .int .i64 r.2.2.2.2.2.2.2.1, u2, .int .i64 r.2.2.2.2.2.2.2.2.2.1, .int .i64 r.2.2.2.2.2.2.2.2.2.2.1, .int .i64 r.2.2.2.2.2.2.2.2.2.2.2.1, u3, .bool r.2.2.2.2.2.2.2.2.2.2.2.2.2.1, u4] :: ow)) := by
  unfold f_foghornlaw28_link_tick at h
  refine enter (n := 142) (args := [ok0, .int .i64 now1]) Try.func28 rfl rfl (Nat.le_of_ble_eq_true rfl) fun a hf => ?_
  replace hf : Fr 142 a [(0, ok0), (1, .int .i64 now1)] := hf
  refine wp_mono (Q := fun e a w => e = .ret ∧ ∃ (u0 : Value) (u1 : Value) (u2 : Value) (u3 : Value) (u4 : Value), Fr 142 a [(4, .bool r.1)] ∧ Hp S w0 w (Res.opt pk79 vk0_s r.2.2.1 :: Res.opt pk74 vk0_r r.2.2.2.1 :: Res.sl (Ek.pair (Ek.int .i64) (Ek.pair (Ek.int .i64) (Ek.pair (Ek.int .u8) (Ek.pair (Ek.int .u8) (Ek.pair Ek.bool Ek.str))))) 88 u0 r.2.2.2.2.1 :: Res.sl (Ek.pair (Ek.int .i64) (Ek.pair (Ek.int .i64) (Ek.pair (Ek.int .u8) (Ek.pair (Ek.int .u8) (Ek.pair Ek.bool Ek.str))))) 88 u1 r.2.2.2.2.2.1 :: Res.map (fun x : Int => Value.int .i64 x) u2 r.2.2.2.2.2.2.2.2.1 :: Res.sl Ek.str 9 u3 r.2.2.2.2.2.2.2.2.2.2.2.2.1 :: Res.sl (Ek.int .i64) 3 u4 r.2.2.2.2.2.2.2.2.2.2.2.2.2.2 :: Res.obj 68 ok0 [.int .i64 r.2.1, vk0_s, vk0_r, u0, u1, vk0_picks, .int .i64 r.2.2.2.2.2.2.2.1, u2, .int .i64 r.2.2.2.2.2.2.2.2.2.1, .int .i64 r.2.2.2.2.2.2.2.2.2.2.1, .int .i64 r.2.2.2.2.2.2.2.2.2.2.2.1, u3, .bool r.2.2.2.2.2.2.2.2.2.2.2.2.2.1, u4] :: ow)) ?_ ?_
  rotate_left
  ·
   rintro e a w ⟨rfl, x0, x1, x2, x3, x4, hf, hp⟩
   exact ret1 hf rfl rfl ⟨x0, x1, x2, x3, x4, rfl, hp⟩
  refine wp_seq ?_
  refine wp_reg ?_
  refine st_assign hf rfl rfl (by decide) ?_
  clear hf; intro a ha hf; clear ha
  refine st_nil hf ?_
  refine th_n ?_
  refine wp_seq ?_
  refine wp_reg ?_
  refine st_move hf rfl rfl (by decide) ?_
  clear hf; intro a ha hf; clear ha
  refine st_nilV hf (by decide) rfl rfl (hp.ob (i := 7) rfl) ?_
  clear hf; intro a ha hf; clear ha
  refine st_fa (o' := 1) hf (by decide) (off := 1) (sz := 1) (by kernel_rfl) (by decide) rfl rfl (hp.ob (i := 7) rfl) rfl ?_
  clear hf; intro a ha hf; clear ha
  refine st_ldO (u := vk0_s) hf (by decide) pl44 rfl rfl (hp.ob (i := 7) rfl) rfl ?_
  clear hf; intro a ha hf; clear ha
  refine st_move hf rfl rfl (by decide) ?_
  clear hf; intro a ha hf; clear ha
  obtain ⟨s9, hs10, h⟩ := bnd h
  replace hp : Hp _ _ _ (pk79.R vk0_s s9 :: Res.opt pk74 vk0_r k0_r :: Res.sl (Ek.pair (Ek.int .i64) (Ek.pair (Ek.int .i64) (Ek.pair (Ek.int .u8) (Ek.pair (Ek.int .u8) (Ek.pair Ek.bool Ek.str))))) 88 vk0_there k0_there :: Res.sl (Ek.pair (Ek.int .i64) (Ek.pair (Ek.int .i64) (Ek.pair (Ek.int .u8) (Ek.pair (Ek.int .u8) (Ek.pair Ek.bool Ek.str))))) 88 vk0_back k0_back :: Res.map (fun x : Int => Value.int .i64 x) vk0_lost k0_lost :: Res.sl Ek.str 9 vk0_got k0_got :: Res.sl (Ek.int .i64) 3 vk0_times k0_times :: Res.obj 68 ok0 [.int .i64 k0_window, vk0_s, vk0_r, vk0_there, vk0_back, vk0_picks, .int .i64 k0_at, vk0_lost, .int .i64 k0_row, .int .i64 k0_base, .int .i64 k0_offered, vk0_got, .bool k0_excluded, vk0_times] :: ow) := hp.optSome hs10
  obtain ⟨v11, hp⟩ := pk79_in hp
  replace hp : Hp _ _ _ (Res.obj 79 vk0_s [.int .i64 s9.1, .int .i64 s9.2.1, .int .i64 s9.2.2.1, .int .i64 s9.2.2.2.1, v11] :: Res.sl (Ek.pair Ek.str (Ek.pair Ek.bool (Ek.pair (Ek.int .i64) Ek.bool))) 81 v11 s9.2.2.2.2 :: _ :: _ :: _ :: _ :: _ :: _ :: _ :: ow) := hp
  obtain ⟨q13, hcall14, h⟩ := bnd h
  have hp15 : Hp _ _ _ (Res.sl (Ek.pair Ek.str (Ek.pair Ek.bool (Ek.pair (Ek.int .i64) Ek.bool))) 81 v11 s9.2.2.2.2 :: Res.obj 79 vk0_s [.int .i64 s9.1, .int .i64 s9.2.1, .int .i64 s9.2.2.1, .int .i64 s9.2.2.2.1, v11] :: Res.opt pk74 vk0_r k0_r :: Res.sl (Ek.pair (Ek.int .i64) (Ek.pair (Ek.int .i64) (Ek.pair (Ek.int .u8) (Ek.pair (Ek.int .u8) (Ek.pair Ek.bool Ek.str))))) 88 vk0_there k0_there :: Res.sl (Ek.pair (Ek.int .i64) (Ek.pair (Ek.int .i64) (Ek.pair (Ek.int .u8) (Ek.pair (Ek.int .u8) (Ek.pair Ek.bool Ek.str))))) 88 vk0_back k0_back :: Res.map (fun x : Int => Value.int .i64 x) vk0_lost k0_lost :: Res.sl Ek.str 9 vk0_got k0_got :: Res.sl (Ek.int .i64) 3 vk0_times k0_times :: Res.obj 68 ok0 [.int .i64 k0_window, vk0_s, vk0_r, vk0_there, vk0_back, vk0_picks, .int .i64 k0_at, vk0_lost, .int .i64 k0_row, .int .i64 k0_base, .int .i64 k0_offered, vk0_got, .bool k0_excluded, vk0_times] :: ow) := Hp.sel (pre := [Res.obj 79 vk0_s [.int .i64 s9.1, .int .i64 s9.2.1, .int .i64 s9.2.2.1, .int .i64 s9.2.2.2.1, v11], Res.sl (Ek.pair Ek.str (Ek.pair Ek.bool (Ek.pair (Ek.int .i64) Ek.bool))) 81 v11 s9.2.2.2.2, Res.opt pk74 vk0_r k0_r, Res.sl (Ek.pair (Ek.int .i64) (Ek.pair (Ek.int .i64) (Ek.pair (Ek.int .u8) (Ek.pair (Ek.int .u8) (Ek.pair Ek.bool Ek.str))))) 88 vk0_there k0_there, Res.sl (Ek.pair (Ek.int .i64) (Ek.pair (Ek.int .i64) (Ek.pair (Ek.int .u8) (Ek.pair (Ek.int .u8) (Ek.pair Ek.bool Ek.str))))) 88 vk0_back k0_back, Res.map (fun x : Int => Value.int .i64 x) vk0_lost k0_lost, Res.sl Ek.str 9 vk0_got k0_got, Res.sl (Ek.int .i64) 3 vk0_times k0_times, Res.obj 68 ok0 [.int .i64 k0_window, vk0_s, vk0_r, vk0_there, vk0_back, vk0_picks, .int .i64 k0_at, vk0_lost, .int .i64 k0_row, .int .i64 k0_base, .int .i64 k0_offered, vk0_got, .bool k0_excluded, vk0_times]]) (tail := ow) (rs' := [Res.sl (Ek.pair Ek.str (Ek.pair Ek.bool (Ek.pair (Ek.int .i64) Ek.bool))) 81 v11 s9.2.2.2.2, Res.obj 79 vk0_s [.int .i64 s9.1, .int .i64 s9.2.1, .int .i64 s9.2.2.1, .int .i64 s9.2.2.2.1, v11], Res.opt pk74 vk0_r k0_r, Res.sl (Ek.pair (Ek.int .i64) (Ek.pair (Ek.int .i64) (Ek.pair (Ek.int .u8) (Ek.pair (Ek.int .u8) (Ek.pair Ek.bool Ek.str))))) 88 vk0_there k0_there, Res.sl (Ek.pair (Ek.int .i64) (Ek.pair (Ek.int .i64) (Ek.pair (Ek.int .u8) (Ek.pair (Ek.int .u8) (Ek.pair Ek.bool Ek.str))))) 88 vk0_back k0_back, Res.map (fun x : Int => Value.int .i64 x) vk0_lost k0_lost, Res.sl Ek.str 9 vk0_got k0_got, Res.sl (Ek.int .i64) 3 vk0_times k0_times, Res.obj 68 ok0 [.int .i64 k0_window, vk0_s, vk0_r, vk0_there, vk0_back, vk0_picks, .int .i64 k0_at, vk0_lost, .int .i64 k0_row, .int .i64 k0_base, .int .i64 k0_offered, vk0_got, .bool k0_excluded, vk0_times]]) hp [1, 0, 2, 3, 4, 5, 6, 7, 8] (by decide) (by simp) rfl
  refine st_call hf (by decide) Try.func19 rfl rfl rfl rfl rfl (f_again_Sender_Tick_c _ _ _ _ _ _ _ _ hp15 hcall14) ?_
  rintro _ w ⟨v16, v17, rfl, hp0⟩
  clear hp; have hp := hp0; clear hp0
  replace hp : Hp _ _ _ (Res.sl (Ek.pair (Ek.int .u8) (Ek.pair (Ek.int .u8) (Ek.pair Ek.bool Ek.str))) 31 v16 q13.1 :: Res.sl (Ek.pair Ek.str (Ek.pair Ek.bool (Ek.pair (Ek.int .i64) Ek.bool))) 81 v17 q13.2.2.2.2.2.2 :: Res.obj 79 vk0_s [.int .i64 q13.2.2.1, .int .i64 q13.2.2.2.1, .int .i64 q13.2.2.2.2.1, .int .i64 q13.2.2.2.2.2.1, v17] :: _ :: _ :: _ :: _ :: _ :: _ :: _ :: ow) := hp
  refine ⟨_, rfl, ?_⟩
  clear hf; intro a hf
  refine st_move hf rfl rfl (by decide) ?_
  clear hf; intro a ha hf; clear ha
  refine st_extract hf (by decide) rfl rfl rfl ?_
  clear hf; intro a ha hf; clear ha
  refine st_extract hf (by decide) rfl rfl rfl ?_
  clear hf; intro a ha hf; clear ha
  refine st_assign hf rfl rfl (by decide) ?_
  clear hf; intro a ha hf; clear ha
  refine st_assign hf rfl rfl (by decide) ?_
  clear hf; intro a ha hf; clear ha
  refine st_nil hf ?_
  refine th_n ?_
  refine wp_seq ?_
  refine wp_seq ?_
  refine wp_reg ?_
  refine st_move hf rfl rfl (by decide) ?_
  clear hf; intro a ha hf; clear ha
  refine st_ineq hf (by decide) rfl rfl rfl ?_
  clear hf; intro a ha hf; clear ha
  refine st_move hf rfl rfl (by decide) ?_
  clear hf; intro a ha hf; clear ha
  obtain ⟨s20, hs21, h⟩ := bnd h
  have hp : Hp _ _ _ (_ :: _ :: _ :: _ :: _ :: _ :: _ :: _ :: _ :: _ :: ow) := Hp.sel (pre := [Res.sl (Ek.pair (Ek.int .u8) (Ek.pair (Ek.int .u8) (Ek.pair Ek.bool Ek.str))) 31 v16 q13.1, Res.sl (Ek.pair Ek.str (Ek.pair Ek.bool (Ek.pair (Ek.int .i64) Ek.bool))) 81 v17 q13.2.2.2.2.2.2, Res.obj 79 vk0_s [.int .i64 q13.2.2.1, .int .i64 q13.2.2.2.1, .int .i64 q13.2.2.2.2.1, .int .i64 q13.2.2.2.2.2.1, v17], Res.opt pk74 vk0_r k0_r, Res.sl (Ek.pair (Ek.int .i64) (Ek.pair (Ek.int .i64) (Ek.pair (Ek.int .u8) (Ek.pair (Ek.int .u8) (Ek.pair Ek.bool Ek.str))))) 88 vk0_there k0_there, Res.sl (Ek.pair (Ek.int .i64) (Ek.pair (Ek.int .i64) (Ek.pair (Ek.int .u8) (Ek.pair (Ek.int .u8) (Ek.pair Ek.bool Ek.str))))) 88 vk0_back k0_back, Res.map (fun x : Int => Value.int .i64 x) vk0_lost k0_lost, Res.sl Ek.str 9 vk0_got k0_got, Res.sl (Ek.int .i64) 3 vk0_times k0_times, Res.obj 68 ok0 [.int .i64 k0_window, vk0_s, vk0_r, vk0_there, vk0_back, vk0_picks, .int .i64 k0_at, vk0_lost, .int .i64 k0_row, .int .i64 k0_base, .int .i64 k0_offered, vk0_got, .bool k0_excluded, vk0_times]]) (tail := ow) (rs' := [Res.opt pk74 vk0_r k0_r, Res.sl (Ek.pair (Ek.int .u8) (Ek.pair (Ek.int .u8) (Ek.pair Ek.bool Ek.str))) 31 v16 q13.1, Res.sl (Ek.pair Ek.str (Ek.pair Ek.bool (Ek.pair (Ek.int .i64) Ek.bool))) 81 v17 q13.2.2.2.2.2.2, Res.obj 79 vk0_s [.int .i64 q13.2.2.1, .int .i64 q13.2.2.2.1, .int .i64 q13.2.2.2.2.1, .int .i64 q13.2.2.2.2.2.1, v17], Res.sl (Ek.pair (Ek.int .i64) (Ek.pair (Ek.int .i64) (Ek.pair (Ek.int .u8) (Ek.pair (Ek.int .u8) (Ek.pair Ek.bool Ek.str))))) 88 vk0_there k0_there, Res.sl (Ek.pair (Ek.int .i64) (Ek.pair (Ek.int .i64) (Ek.pair (Ek.int .u8) (Ek.pair (Ek.int .u8) (Ek.pair Ek.bool Ek.str))))) 88 vk0_back k0_back, Res.map (fun x : Int => Value.int .i64 x) vk0_lost k0_lost, Res.sl Ek.str 9 vk0_got k0_got, Res.sl (Ek.int .i64) 3 vk0_times k0_times, Res.obj 68 ok0 [.int .i64 k0_window, vk0_s, vk0_r, vk0_there, vk0_back, vk0_picks, .int .i64 k0_at, vk0_lost, .int .i64 k0_row, .int .i64 k0_base, .int .i64 k0_offered, vk0_got, .bool k0_excluded, vk0_times]]) hp [3, 0, 1, 2, 4, 5, 6, 7, 8, 9] (by decide) (by simp) rfl
  replace hp : Hp _ _ _ (pk74.R vk0_r s20 :: _ :: _ :: _ :: _ :: _ :: _ :: _ :: _ :: _ :: ow) := hp.optSome hs21
  obtain ⟨v22, hp⟩ := pk74_in hp
  replace hp : Hp _ _ _ (Res.obj 74 vk0_r [.int .i64 s20.1, .int .i64 s20.2.1, v22] :: Res.map (fun x : ByteArray => Value.string x) v22 s20.2.2 :: _ :: _ :: _ :: _ :: _ :: _ :: _ :: _ :: _ :: ow) := hp
  refine wpList_cut 8 (fun a w => Fr 142 a [(0, ok0), (1, .int .i64 now1), (5, v16), (29, .bool ((q13.2.1 != (0 : Int)) || (decide (k0_window < (q13.1.length : Int)))))] ∧ Hp S w0 w (Res.obj 74 vk0_r [.int .i64 s20.1, .int .i64 s20.2.1, v22] :: Res.map (fun x : ByteArray => Value.string x) v22 s20.2.2 :: Res.sl (Ek.pair (Ek.int .u8) (Ek.pair (Ek.int .u8) (Ek.pair Ek.bool Ek.str))) 31 v16 q13.1 :: Res.sl (Ek.pair Ek.str (Ek.pair Ek.bool (Ek.pair (Ek.int .i64) Ek.bool))) 81 v17 q13.2.2.2.2.2.2 :: Res.obj 79 vk0_s [.int .i64 q13.2.2.1, .int .i64 q13.2.2.2.1, .int .i64 q13.2.2.2.2.1, .int .i64 q13.2.2.2.2.2.1, v17] :: Res.sl (Ek.pair (Ek.int .i64) (Ek.pair (Ek.int .i64) (Ek.pair (Ek.int .u8) (Ek.pair (Ek.int .u8) (Ek.pair Ek.bool Ek.str))))) 88 vk0_there k0_there :: Res.sl (Ek.pair (Ek.int .i64) (Ek.pair (Ek.int .i64) (Ek.pair (Ek.int .u8) (Ek.pair (Ek.int .u8) (Ek.pair Ek.bool Ek.str))))) 88 vk0_back k0_back :: Res.map (fun x : Int => Value.int .i64 x) vk0_lost k0_lost :: Res.sl Ek.str 9 vk0_got k0_got :: Res.sl (Ek.int .i64) 3 vk0_times k0_times :: Res.obj 68 ok0 [.int .i64 k0_window, vk0_s, vk0_r, vk0_there, vk0_back, vk0_picks, .int .i64 k0_at, vk0_lost, .int .i64 k0_row, .int .i64 k0_base, .int .i64 k0_offered, vk0_got, .bool k0_excluded, vk0_times] :: ow)) ?_ ?_
  ·
   rcases Bool.eq_false_or_eq_true (q13.2.1 != (0 : Int)) with hb25 | hb25
   ·
    refine st_skip hf (wantN hf rfl rfl hb25) rfl (by decide) ?_ rfl
    clear hf; intro a hf
    refine st_skip hf (wantN hf rfl rfl hb25) rfl (by decide) ?_ rfl
    clear hf; intro a hf
    refine st_skip hf (wantN hf rfl rfl hb25) rfl (by decide) ?_ rfl
    clear hf; intro a hf
    refine st_skip hf (wantN hf rfl rfl hb25) rfl (by decide) ?_ rfl
    clear hf; intro a hf
    refine st_skip hf (wantN hf rfl rfl hb25) rfl (by decide) ?_ rfl
    clear hf; intro a hf
    refine st_skip hf (wantN hf rfl rfl hb25) rfl (by decide) ?_ rfl
    clear hf; intro a hf
    refine st_skip hf (wantN hf rfl rfl hb25) rfl (by decide) ?_ rfl
    clear hf; intro a hf
    refine st_pick (v := .bool true) hf rfl rfl (fun hb' => ?_) (fun hb' => ?_) (by decide) ?_
    · rfl
    · exact absurd (hb25.symm.trans hb') (by decide)
    clear hf; intro a ha hf; clear ha
    refine st_nil hf (th_n ?_)
    exact ⟨hf.sub ⟨rfl, rfl, rfl, (by rw [hb25]; rfl), trivial⟩, hp⟩
   refine st_move hf (wantY hf rfl rfl hb25) rfl (by decide) ?_
   clear hf; intro a ha hf; clear ha
   refine st_len (E := (Ek.pair (Ek.int .u8) (Ek.pair (Ek.int .u8) (Ek.pair Ek.bool Ek.str)))) hf (by decide) Try.underlying54 (wantY hf rfl rfl hb25) rfl (hp.sl (i := 2) rfl) ?_
   clear hf; intro a ha hf; clear ha
   refine st_move hf (wantY hf rfl rfl hb25) rfl (by decide) ?_
   clear hf; intro a ha hf; clear ha
   refine st_nilV hf (by decide) (wantY hf rfl rfl hb25) rfl (hp.ob (i := 10) rfl) ?_
   clear hf; intro a ha hf; clear ha
   refine st_fa (o' := 0) hf (by decide) (off := 0) (sz := 1) (by kernel_rfl) (by decide) (wantY hf rfl rfl hb25) rfl (hp.ob (i := 10) rfl) rfl ?_
   clear hf; intro a ha hf; clear ha
   refine st_ldO (u := .int .i64 k0_window) hf (by decide) pl3 (wantY hf rfl rfl hb25) rfl (hp.ob (i := 10) rfl) rfl ?_
   clear hf; intro a ha hf; clear ha
   refine st_igtr hf (by decide) (wantY hf rfl rfl hb25) rfl rfl ?_
   clear hf; intro a ha hf; clear ha
   refine st_pick (v := .bool (decide (k0_window < (q13.1.length : Int)))) hf rfl rfl (fun hb' => ?_) (fun hb' => ?_) (by decide) ?_
   · exact absurd (hb25.symm.trans hb') (by decide)
   · rfl
   clear hf; intro a ha hf; clear ha
   refine st_nil hf (th_n ?_)
   exact ⟨hf.sub ⟨rfl, rfl, rfl, (by rw [hb25]; rfl), trivial⟩, hp⟩
  rintro a w ⟨hf, hp⟩
  refine st_nil hf ?_
  refine th_n ?_
  refine wp_if hf rfl (fun hb => ?_) (fun hb => ?_)
  ·
   replace h := ifT h hb
   refine wp_seq ?_
   refine wp_reg ?_
   refine st_assign hf rfl rfl (by decide) ?_
   clear hf; intro a ha hf; clear ha
   refine st_nil hf ?_
   refine th_n ?_
   refine wp_ret ?_
   refine th_r ?_
   replace hp : Hp _ _ _ (Res.opt pk74 vk0_r (some (s20.1, s20.2.1, s20.2.2)) :: _ :: _ :: _ :: _ :: _ :: _ :: _ :: _ :: _ :: ow) := pk74_out (s := (s20.1, s20.2.1, s20.2.2)) (u := v22) hp
   have hp : Hp _ _ _ (_ :: _ :: _ :: _ :: _ :: _ :: _ :: _ :: _ :: _ :: ow) := Hp.sel (pre := [Res.opt pk74 vk0_r (some (s20.1, s20.2.1, s20.2.2)), Res.sl (Ek.pair (Ek.int .u8) (Ek.pair (Ek.int .u8) (Ek.pair Ek.bool Ek.str))) 31 v16 q13.1, Res.sl (Ek.pair Ek.str (Ek.pair Ek.bool (Ek.pair (Ek.int .i64) Ek.bool))) 81 v17 q13.2.2.2.2.2.2, Res.obj 79 vk0_s [.int .i64 q13.2.2.1, .int .i64 q13.2.2.2.1, .int .i64 q13.2.2.2.2.1, .int .i64 q13.2.2.2.2.2.1, v17], Res.sl (Ek.pair (Ek.int .i64) (Ek.pair (Ek.int .i64) (Ek.pair (Ek.int .u8) (Ek.pair (Ek.int .u8) (Ek.pair Ek.bool Ek.str))))) 88 vk0_there k0_there, Res.sl (Ek.pair (Ek.int .i64) (Ek.pair (Ek.int .i64) (Ek.pair (Ek.int .u8) (Ek.pair (Ek.int .u8) (Ek.pair Ek.bool Ek.str))))) 88 vk0_back k0_back, Res.map (fun x : Int => Value.int .i64 x) vk0_lost k0_lost, Res.sl Ek.str 9 vk0_got k0_got, Res.sl (Ek.int .i64) 3 vk0_times k0_times, Res.obj 68 ok0 [.int .i64 k0_window, vk0_s, vk0_r, vk0_there, vk0_back, vk0_picks, .int .i64 k0_at, vk0_lost, .int .i64 k0_row, .int .i64 k0_base, .int .i64 k0_offered, vk0_got, .bool k0_excluded, vk0_times]]) (tail := ow) (rs' := [Res.obj 79 vk0_s [.int .i64 q13.2.2.1, .int .i64 q13.2.2.2.1, .int .i64 q13.2.2.2.2.1, .int .i64 q13.2.2.2.2.2.1, v17], Res.sl (Ek.pair Ek.str (Ek.pair Ek.bool (Ek.pair (Ek.int .i64) Ek.bool))) 81 v17 q13.2.2.2.2.2.2, Res.opt pk74 vk0_r (some (s20.1, s20.2.1, s20.2.2)), Res.sl (Ek.pair (Ek.int .u8) (Ek.pair (Ek.int .u8) (Ek.pair Ek.bool Ek.str))) 31 v16 q13.1, Res.sl (Ek.pair (Ek.int .i64) (Ek.pair (Ek.int .i64) (Ek.pair (Ek.int .u8) (Ek.pair (Ek.int .u8) (Ek.pair Ek.bool Ek.str))))) 88 vk0_there k0_there, Res.sl (Ek.pair (Ek.int .i64) (Ek.pair (Ek.int .i64) (Ek.pair (Ek.int .u8) (Ek.pair (Ek.int .u8) (Ek.pair Ek.bool Ek.str))))) 88 vk0_back k0_back, Res.map (fun x : Int => Value.int .i64 x) vk0_lost k0_lost, Res.sl Ek.str 9 vk0_got k0_got, Res.sl (Ek.int .i64) 3 vk0_times k0_times, Res.obj 68 ok0 [.int .i64 k0_window, vk0_s, vk0_r, vk0_there, vk0_back, vk0_picks, .int .i64 k0_at, vk0_lost, .int .i64 k0_row, .int .i64 k0_base, .int .i64 k0_offered, vk0_got, .bool k0_excluded, vk0_times]]) hp [3, 2, 0, 1, 4, 5, 6, 7, 8, 9] (by decide) (by simp) rfl
   replace hp : Hp _ _ _ (Res.opt pk79 vk0_s (some (q13.2.2.1, q13.2.2.2.1, q13.2.2.2.2.1, q13.2.2.2.2.2.1, q13.2.2.2.2.2.2)) :: _ :: _ :: _ :: _ :: _ :: _ :: _ :: _ :: ow) := pk79_out (s := (q13.2.2.1, q13.2.2.2.1, q13.2.2.2.2.1, q13.2.2.2.2.2.1, q13.2.2.2.2.2.2)) (u := v17) hp
   obtain rfl := Option.some.inj h
   have hp : Hp _ _ _ (_ :: _ :: _ :: _ :: _ :: _ :: _ :: _ :: ow) := Hp.sel (pre := [Res.opt pk79 vk0_s (some (q13.2.2.1, q13.2.2.2.1, q13.2.2.2.2.1, q13.2.2.2.2.2.1, q13.2.2.2.2.2.2)), Res.opt pk74 vk0_r (some (s20.1, s20.2.1, s20.2.2)), Res.sl (Ek.pair (Ek.int .u8) (Ek.pair (Ek.int .u8) (Ek.pair Ek.bool Ek.str))) 31 v16 q13.1, Res.sl (Ek.pair (Ek.int .i64) (Ek.pair (Ek.int .i64) (Ek.pair (Ek.int .u8) (Ek.pair (Ek.int .u8) (Ek.pair Ek.bool Ek.str))))) 88 vk0_there k0_there, Res.sl (Ek.pair (Ek.int .i64) (Ek.pair (Ek.int .i64) (Ek.pair (Ek.int .u8) (Ek.pair (Ek.int .u8) (Ek.pair Ek.bool Ek.str))))) 88 vk0_back k0_back, Res.map (fun x : Int => Value.int .i64 x) vk0_lost k0_lost, Res.sl Ek.str 9 vk0_got k0_got, Res.sl (Ek.int .i64) 3 vk0_times k0_times, Res.obj 68 ok0 [.int .i64 k0_window, vk0_s, vk0_r, vk0_there, vk0_back, vk0_picks, .int .i64 k0_at, vk0_lost, .int .i64 k0_row, .int .i64 k0_base, .int .i64 k0_offered, vk0_got, .bool k0_excluded, vk0_times]]) (tail := ow) (rs' := [Res.opt pk79 vk0_s (some (q13.2.2.1, q13.2.2.2.1, q13.2.2.2.2.1, q13.2.2.2.2.2.1, q13.2.2.2.2.2.2)), Res.opt pk74 vk0_r (some (s20.1, s20.2.1, s20.2.2)), Res.sl (Ek.pair (Ek.int .i64) (Ek.pair (Ek.int .i64) (Ek.pair (Ek.int .u8) (Ek.pair (Ek.int .u8) (Ek.pair Ek.bool Ek.str))))) 88 vk0_there k0_there, Res.sl (Ek.pair (Ek.int .i64) (Ek.pair (Ek.int .i64) (Ek.pair (Ek.int .u8) (Ek.pair (Ek.int .u8) (Ek.pair Ek.bool Ek.str))))) 88 vk0_back k0_back, Res.map (fun x : Int => Value.int .i64 x) vk0_lost k0_lost, Res.sl Ek.str 9 vk0_got k0_got, Res.sl (Ek.int .i64) 3 vk0_times k0_times, Res.obj 68 ok0 [.int .i64 k0_window, vk0_s, vk0_r, vk0_there, vk0_back, vk0_picks, .int .i64 k0_at, vk0_lost, .int .i64 k0_row, .int .i64 k0_base, .int .i64 k0_offered, vk0_got, .bool k0_excluded, vk0_times]]) hp [0, 1, 3, 4, 5, 6, 7, 8] (by decide) (by simp) rfl
   exact ⟨rfl, ⟨_, _, _, _, _, hf.sub ⟨rfl, trivial⟩, hp⟩⟩
  replace h := ifF h hb
  refine wp_skip ?_
  refine th_n ?_
  refine wp_seq ?_
  refine wp_seq ?_
  refine wp_reg ?_
  refine st_assign hf rfl rfl (by decide) ?_
  clear hf; intro a ha hf; clear ha
  refine st_nil hf ?_
  refine th_n ?_
  refine wp_block ?_
  obtain ⟨q142, hl, h⟩ := bnd h
  have hp : Hp _ _ _ (Res.sl (Ek.pair Ek.str (Ek.pair Ek.bool (Ek.pair (Ek.int .i64) Ek.bool))) 81 v17 q13.2.2.2.2.2.2 :: Res.obj 79 vk0_s [.int .i64 q13.2.2.1, .int .i64 q13.2.2.2.1, .int .i64 q13.2.2.2.2.1, .int .i64 q13.2.2.2.2.2.1, v17] :: Res.map (fun x : ByteArray => Value.string x) v22 s20.2.2 :: Res.obj 74 vk0_r [.int .i64 s20.1, .int .i64 s20.2.1, v22] :: _ :: _ :: _ :: _ :: _ :: _ :: Res.sl (Ek.pair (Ek.int .u8) (Ek.pair (Ek.int .u8) (Ek.pair Ek.bool Ek.str))) 31 v16 q13.1 :: ow) := Hp.sel (pre := [Res.obj 74 vk0_r [.int .i64 s20.1, .int .i64 s20.2.1, v22], Res.map (fun x : ByteArray => Value.string x) v22 s20.2.2, Res.sl (Ek.pair (Ek.int .u8) (Ek.pair (Ek.int .u8) (Ek.pair Ek.bool Ek.str))) 31 v16 q13.1, Res.sl (Ek.pair Ek.str (Ek.pair Ek.bool (Ek.pair (Ek.int .i64) Ek.bool))) 81 v17 q13.2.2.2.2.2.2, Res.obj 79 vk0_s [.int .i64 q13.2.2.1, .int .i64 q13.2.2.2.1, .int .i64 q13.2.2.2.2.1, .int .i64 q13.2.2.2.2.2.1, v17], Res.sl (Ek.pair (Ek.int .i64) (Ek.pair (Ek.int .i64) (Ek.pair (Ek.int .u8) (Ek.pair (Ek.int .u8) (Ek.pair Ek.bool Ek.str))))) 88 vk0_there k0_there, Res.sl (Ek.pair (Ek.int .i64) (Ek.pair (Ek.int .i64) (Ek.pair (Ek.int .u8) (Ek.pair (Ek.int .u8) (Ek.pair Ek.bool Ek.str))))) 88 vk0_back k0_back, Res.map (fun x : Int => Value.int .i64 x) vk0_lost k0_lost, Res.sl Ek.str 9 vk0_got k0_got, Res.sl (Ek.int .i64) 3 vk0_times k0_times, Res.obj 68 ok0 [.int .i64 k0_window, vk0_s, vk0_r, vk0_there, vk0_back, vk0_picks, .int .i64 k0_at, vk0_lost, .int .i64 k0_row, .int .i64 k0_base, .int .i64 k0_offered, vk0_got, .bool k0_excluded, vk0_times]]) (tail := ow) (rs' := [Res.sl (Ek.pair Ek.str (Ek.pair Ek.bool (Ek.pair (Ek.int .i64) Ek.bool))) 81 v17 q13.2.2.2.2.2.2, Res.obj 79 vk0_s [.int .i64 q13.2.2.1, .int .i64 q13.2.2.2.1, .int .i64 q13.2.2.2.2.1, .int .i64 q13.2.2.2.2.2.1, v17], Res.map (fun x : ByteArray => Value.string x) v22 s20.2.2, Res.obj 74 vk0_r [.int .i64 s20.1, .int .i64 s20.2.1, v22], Res.sl (Ek.pair (Ek.int .i64) (Ek.pair (Ek.int .i64) (Ek.pair (Ek.int .u8) (Ek.pair (Ek.int .u8) (Ek.pair Ek.bool Ek.str))))) 88 vk0_there k0_there, Res.sl (Ek.pair (Ek.int .i64) (Ek.pair (Ek.int .i64) (Ek.pair (Ek.int .u8) (Ek.pair (Ek.int .u8) (Ek.pair Ek.bool Ek.str))))) 88 vk0_back k0_back, Res.map (fun x : Int => Value.int .i64 x) vk0_lost k0_lost, Res.sl Ek.str 9 vk0_got k0_got, Res.sl (Ek.int .i64) 3 vk0_times k0_times, Res.obj 68 ok0 [.int .i64 k0_window, vk0_s, vk0_r, vk0_there, vk0_back, vk0_picks, .int .i64 k0_at, vk0_lost, .int .i64 k0_row, .int .i64 k0_base, .int .i64 k0_offered, vk0_got, .bool k0_excluded, vk0_times], Res.sl (Ek.pair (Ek.int .u8) (Ek.pair (Ek.int .u8) (Ek.pair Ek.bool Ek.str))) 31 v16 q13.1]) hp [3, 4, 1, 0, 5, 6, 7, 8, 9, 10, 2] (by decide) (by simp) rfl
  refine wp_loop_pure (f := (f_foghornlaw28_link_tick.s1 k0_picks now1 q13)) (s := (k0_window, q13.2.2.1, q13.2.2.2.1, q13.2.2.2.2.1, q13.2.2.2.2.2.1, q13.2.2.2.2.2.2, s20.1, s20.2.1, s20.2.2, k0_there, k0_back, k0_at, k0_lost, k0_row, k0_base, k0_offered, k0_got, k0_excluded, k0_times, (0 : Int))) (fun s a w => ∃ (v26 : Value) (v29 : Value) (v32 : Value) (v34 : Value) (v36 : Value) (v38 : Value) (v40 : Value), Fr 142 a [(0, ok0), (1, .int .i64 now1), (5, v16), (7, .int .i64 s.2.2.2.2.2.2.2.2.2.2.2.2.2.2.2.2.2.2.2)] ∧ Hp S w0 w (Res.sl (Ek.pair Ek.str (Ek.pair Ek.bool (Ek.pair (Ek.int .i64) Ek.bool))) 81 v26 s.2.2.2.2.2.1 :: Res.obj 79 vk0_s [.int .i64 s.2.1, .int .i64 s.2.2.1, .int .i64 s.2.2.2.1, .int .i64 s.2.2.2.2.1, v26] :: Res.map (fun x : ByteArray => Value.string x) v29 s.2.2.2.2.2.2.2.2.1 :: Res.obj 74 vk0_r [.int .i64 s.2.2.2.2.2.2.1, .int .i64 s.2.2.2.2.2.2.2.1, v29] :: Res.sl (Ek.pair (Ek.int .i64) (Ek.pair (Ek.int .i64) (Ek.pair (Ek.int .u8) (Ek.pair (Ek.int .u8) (Ek.pair Ek.bool Ek.str))))) 88 v32 s.2.2.2.2.2.2.2.2.2.1 :: Res.sl (Ek.pair (Ek.int .i64) (Ek.pair (Ek.int .i64) (Ek.pair (Ek.int .u8) (Ek.pair (Ek.int .u8) (Ek.pair Ek.bool Ek.str))))) 88 v34 s.2.2.2.2.2.2.2.2.2.2.1 :: Res.map (fun x : Int => Value.int .i64 x) v36 s.2.2.2.2.2.2.2.2.2.2.2.2.1 :: Res.sl Ek.str 9 v38 s.2.2.2.2.2.2.2.2.2.2.2.2.2.2.2.2.1 :: Res.sl (Ek.int .i64) 3 v40 s.2.2.2.2.2.2.2.2.2.2.2.2.2.2.2.2.2.2.1 :: Res.obj 68 ok0 [.int .i64 s.1, vk0_s, vk0_r, v32, v34, vk0_picks, .int .i64 s.2.2.2.2.2.2.2.2.2.2.2.1, v36, .int .i64 s.2.2.2.2.2.2.2.2.2.2.2.2.2.1, .int .i64 s.2.2.2.2.2.2.2.2.2.2.2.2.2.2.1, .int .i64 s.2.2.2.2.2.2.2.2.2.2.2.2.2.2.2.1, v38, .bool s.2.2.2.2.2.2.2.2.2.2.2.2.2.2.2.2.2.1, v40] :: Res.sl (Ek.pair (Ek.int .u8) (Ek.pair (Ek.int .u8) (Ek.pair Ek.bool Ek.str))) 31 v16 q13.1 :: ow)) (fun q e a w => match q with | (Sum.inl q) => e = .exit 0 ∧ ∃ (v43 : Value) (v46 : Value) (v49 : Value) (v51 : Value) (v53 : Value) (v55 : Value) (v57 : Value), Fr 142 a [(0, ok0), (1, .int .i64 now1)] ∧ Hp S w0 w (Res.sl (Ek.pair Ek.str (Ek.pair Ek.bool (Ek.pair (Ek.int .i64) Ek.bool))) 81 v43 q.2.2.2.2.2.1 :: Res.obj 79 vk0_s [.int .i64 q.2.1, .int .i64 q.2.2.1, .int .i64 q.2.2.2.1, .int .i64 q.2.2.2.2.1, v43] :: Res.map (fun x : ByteArray => Value.string x) v46 q.2.2.2.2.2.2.2.2.1 :: Res.obj 74 vk0_r [.int .i64 q.2.2.2.2.2.2.1, .int .i64 q.2.2.2.2.2.2.2.1, v46] :: Res.sl (Ek.pair (Ek.int .i64) (Ek.pair (Ek.int .i64) (Ek.pair (Ek.int .u8) (Ek.pair (Ek.int .u8) (Ek.pair Ek.bool Ek.str))))) 88 v49 q.2.2.2.2.2.2.2.2.2.1 :: Res.sl (Ek.pair (Ek.int .i64) (Ek.pair (Ek.int .i64) (Ek.pair (Ek.int .u8) (Ek.pair (Ek.int .u8) (Ek.pair Ek.bool Ek.str))))) 88 v51 q.2.2.2.2.2.2.2.2.2.2.1 :: Res.map (fun x : Int => Value.int .i64 x) v53 q.2.2.2.2.2.2.2.2.2.2.2.2.1 :: Res.sl Ek.str 9 v55 q.2.2.2.2.2.2.2.2.2.2.2.2.2.2.2.2.1 :: Res.sl (Ek.int .i64) 3 v57 q.2.2.2.2.2.2.2.2.2.2.2.2.2.2.2.2.2.2 :: Res.obj 68 ok0 [.int .i64 q.1, vk0_s, vk0_r, v49, v51, vk0_picks, .int .i64 q.2.2.2.2.2.2.2.2.2.2.2.1, v53, .int .i64 q.2.2.2.2.2.2.2.2.2.2.2.2.2.1, .int .i64 q.2.2.2.2.2.2.2.2.2.2.2.2.2.2.1, .int .i64 q.2.2.2.2.2.2.2.2.2.2.2.2.2.2.2.1, v55, .bool q.2.2.2.2.2.2.2.2.2.2.2.2.2.2.2.2.2.1, v57] :: ow) | (Sum.inr q) => e = .ret ∧ ∃ (u0 : Value) (u1 : Value) (u2 : Value) (u3 : Value) (u4 : Value), Fr 142 a [(4, .bool q.1)] ∧ Hp S w0 w (Res.opt pk79 vk0_s q.2.2.1 :: Res.opt pk74 vk0_r q.2.2.2.1 :: Res.sl (Ek.pair (Ek.int .i64) (Ek.pair (Ek.int .i64) (Ek.pair (Ek.int .u8) (Ek.pair (Ek.int .u8) (Ek.pair Ek.bool Ek.str))))) 88 u0 q.2.2.2.2.1 :: Res.sl (Ek.pair (Ek.int .i64) (Ek.pair (Ek.int .i64) (Ek.pair (Ek.int .u8) (Ek.pair (Ek.int .u8) (Ek.pair Ek.bool Ek.str))))) 88 u1 q.2.2.2.2.2.1 :: Res.map (fun x : Int => Value.int .i64 x) u2 q.2.2.2.2.2.2.2.2.1 :: Res.sl Ek.str 9 u3 q.2.2.2.2.2.2.2.2.2.2.2.2.1 :: Res.sl (Ek.int .i64) 3 u4 q.2.2.2.2.2.2.2.2.2.2.2.2.2.2 :: Res.obj 68 ok0 [.int .i64 q.2.1, vk0_s, vk0_r, u0, u1, vk0_picks, .int .i64 q.2.2.2.2.2.2.2.1, u2, .int .i64 q.2.2.2.2.2.2.2.2.2.1, .int .i64 q.2.2.2.2.2.2.2.2.2.2.1, .int .i64 q.2.2.2.2.2.2.2.2.2.2.2.1, u3, .bool q.2.2.2.2.2.2.2.2.2.2.2.2.2.1, u4] :: ow)) ?_ hl ⟨_, _, _, _, _, _, _, hf.sub ⟨rfl, rfl, rfl, rfl, trivial⟩, hp⟩ ?_
  ·
   clear hl hf hp
   intro s x a w h hI
   obtain ⟨k0c_0, k0c_1c_0, k0c_1c_1, k0c_1c_2, k0c_1c_3, k0c_1c_4, k0c_2c_0, k0c_2c_1, k0c_2c_2, k0c_3, k0c_4, k0c_6, k0c_7, k0c_8, k0c_9, k0c_10, k0c_11, k0c_12, k0c_13, i7⟩ := s
   obtain ⟨v26, v29, v32, v34, v36, v38, v40, hf, hp⟩ : ∃ (v26 : Value) (v29 : Value) (v32 : Value) (v34 : Value) (v36 : Value) (v38 : Value) (v40 : Value), Fr 142 a [(0, ok0), (1, .int .i64 now1), (5, v16), (7, .int .i64 i7)] ∧ Hp S w0 w (Res.sl (Ek.pair Ek.str (Ek.pair Ek.bool (Ek.pair (Ek.int .i64) Ek.bool))) 81 v26 k0c_1c_4 :: Res.obj 79 vk0_s [.int .i64 k0c_1c_0, .int .i64 k0c_1c_1, .int .i64 k0c_1c_2, .int .i64 k0c_1c_3, v26] :: Res.map (fun x : ByteArray => Value.string x) v29 k0c_2c_2 :: Res.obj 74 vk0_r [.int .i64 k0c_2c_0, .int .i64 k0c_2c_1, v29] :: Res.sl (Ek.pair (Ek.int .i64) (Ek.pair (Ek.int .i64) (Ek.pair (Ek.int .u8) (Ek.pair (Ek.int .u8) (Ek.pair Ek.bool Ek.str))))) 88 v32 k0c_3 :: Res.sl (Ek.pair (Ek.int .i64) (Ek.pair (Ek.int .i64) (Ek.pair (Ek.int .u8) (Ek.pair (Ek.int .u8) (Ek.pair Ek.bool Ek.str))))) 88 v34 k0c_4 :: Res.map (fun x : Int => Value.int .i64 x) v36 k0c_7 :: Res.sl Ek.str 9 v38 k0c_11 :: Res.sl (Ek.int .i64) 3 v40 k0c_13 :: Res.obj 68 ok0 [.int .i64 k0c_0, vk0_s, vk0_r, v32, v34, vk0_picks, .int .i64 k0c_6, v36, .int .i64 k0c_8, .int .i64 k0c_9, .int .i64 k0c_10, v38, .bool k0c_12, v40] :: Res.sl (Ek.pair (Ek.int .u8) (Ek.pair (Ek.int .u8) (Ek.pair Ek.bool Ek.str))) 31 v16 q13.1 :: ow) := hI
   replace h : f_foghornlaw28_link_tick.s1c k0_picks now1 q13 k0c_0 k0c_1c_0 k0c_1c_1 k0c_1c_2 k0c_1c_3 k0c_1c_4 k0c_2c_0 k0c_2c_1 k0c_2c_2 k0c_3 k0c_4 k0c_6 k0c_7 k0c_8 k0c_9 k0c_10 k0c_11 k0c_12 k0c_13 i7 = some x := h
   unfold f_foghornlaw28_link_tick.s1c at h
   refine wp_seq ?_
   refine wp_seq ?_
   refine wp_reg ?_
   refine st_move hf rfl rfl (by decide) ?_
   clear hf; intro a ha hf; clear ha
   refine st_move hf rfl rfl (by decide) ?_
   clear hf; intro a ha hf; clear ha
   refine st_len (E := (Ek.pair (Ek.int .u8) (Ek.pair (Ek.int .u8) (Ek.pair Ek.bool Ek.str)))) hf (by decide) Try.underlying54 rfl rfl (hp.sl (i := 10) rfl) ?_
   clear hf; intro a ha hf; clear ha
   refine st_ilss hf (by decide) rfl rfl rfl ?_
   clear hf; intro a ha hf; clear ha
   refine st_nil hf ?_
   refine th_n ?_
   refine wp_if hf rfl (fun hb => ?_) (fun hb => ?_)
   ·
    replace h := ifT h hb
    refine wp_skip ?_
    refine th_n ?_
    refine wp_seq ?_
    refine wp_block ?_
    refine wp_seq ?_
    obtain ⟨S60, hp61, rd62, up63, bk64⟩ := Hp.lendO hp (i := 9) rfl
    obtain ⟨S65, hp66, rd67, up68, bk69⟩ := Hp.lendS hp61 (i := 9) rfl
    have rl70 := ((rd62.now hp61).mono up68)
    have rl71 := ((((hk0_picks.now hp).mono up63).now hp61).mono up68)
    have rl72 := rd67
    obtain ⟨hc73, h⟩ := chk h
    refine wp_cutN (fun a w => Fr 142 a [(0, ok0), (1, .int .i64 now1), (5, v16), (7, .int .i64 i7), (8, .int .i64 (IntKind.i64.wrap (k0c_9 + (IntKind.i64.wrap (IntKind.u8.wrap ((gt q13.1 i7).2.1 - (IntKind.u8.wrap k0c_9)))))))] ∧ Hp S w0 w (Res.obj 68 ok0 [.int .i64 k0c_0, vk0_s, vk0_r, v32, v34, vk0_picks, .int .i64 k0c_6, v36, .int .i64 k0c_8, .int .i64 k0c_9, .int .i64 k0c_10, v38, .bool k0c_12, v40] :: Res.sl (Ek.pair (Ek.int .u8) (Ek.pair (Ek.int .u8) (Ek.pair Ek.bool Ek.str))) 31 v16 q13.1 :: Res.sl (Ek.pair Ek.str (Ek.pair Ek.bool (Ek.pair (Ek.int .i64) Ek.bool))) 81 v26 k0c_1c_4 :: Res.obj 79 vk0_s [.int .i64 k0c_1c_0, .int .i64 k0c_1c_1, .int .i64 k0c_1c_2, .int .i64 k0c_1c_3, v26] :: Res.map (fun x : ByteArray => Value.string x) v29 k0c_2c_2 :: Res.obj 74 vk0_r [.int .i64 k0c_2c_0, .int .i64 k0c_2c_1, v29] :: Res.sl (Ek.pair (Ek.int .i64) (Ek.pair (Ek.int .i64) (Ek.pair (Ek.int .u8) (Ek.pair (Ek.int .u8) (Ek.pair Ek.bool Ek.str))))) 88 v32 k0c_3 :: Res.sl (Ek.pair (Ek.int .i64) (Ek.pair (Ek.int .i64) (Ek.pair (Ek.int .u8) (Ek.pair (Ek.int .u8) (Ek.pair Ek.bool Ek.str))))) 88 v34 k0c_4 :: Res.map (fun x : Int => Value.int .i64 x) v36 k0c_7 :: Res.sl Ek.str 9 v38 k0c_11 :: Res.sl (Ek.int .i64) 3 v40 k0c_13 :: ow)) ?_ ?_
    ·
     have hp := hp66.same (Same.drew w)
     refine dr_begin' _ (fun w' => ∃ l, Hp S65 w w' l) [] (by kernel_rfl) ?_
     refine dr_takeK 0 (ok0) rfl hf rfl (fun w ⟨_, hp⟩ => ?_) ⟨_, hp⟩ ?_
     · exact st_move hf rfl rfl (by decide) tk
     clear hf; intro a hf
     refine dr_nilV 1 rfl (by kernel_rfl) (by kernel_rfl) (by kernel_rfl) hf (by decide) rfl rfl (rl70.ob hp) ?_
     clear hf; intro a hf
     refine dr_takeK 2 (optr ok0 9) rfl hf rfl (fun w ⟨_, hp⟩ => ?_) ⟨_, hp⟩ ?_
     · exact st_fa (o' := 9) hf (by decide) (off := 9) (sz := 1) (by kernel_rfl) (by decide) rfl rfl (rl70.ob hp) rfl tk
     clear hf; intro a hf
     refine dr_takeK 3 (.int .i64 k0c_9) rfl hf rfl (fun w ⟨_, hp⟩ => ?_) ⟨_, hp⟩ ?_
     · exact st_ldO (u := .int .i64 k0c_9) hf (by decide) pl3 rfl rfl (rl70.ob hp) rfl tk
     clear hf; intro a hf
     refine dr_takeK 4 (v16) rfl hf rfl (fun w ⟨_, hp⟩ => ?_) ⟨_, hp⟩ ?_
     · exact st_move hf rfl rfl (by decide) tk
     clear hf; intro a hf
     refine dr_takeK 5 (.int .i64 i7) rfl hf rfl (fun w ⟨_, hp⟩ => ?_) ⟨_, hp⟩ ?_
     · exact st_move hf rfl rfl (by decide) tk
     clear hf; intro a hf
     refine dr_takeK 6 (eptr v16 i7 4) rfl hf rfl (fun w ⟨_, hp⟩ => ?_) ⟨_, hp⟩ ?_
     · exact st_index (E := (Ek.pair (Ek.int .u8) (Ek.pair (Ek.int .u8) (Ek.pair Ek.bool Ek.str)))) hf (by decide) Try.underlying54 elt31 rfl rfl rfl (rl72.sl hp) hc73.1 hc73.2 tk
     clear hf; intro a hf
     refine dr_takeK 7 (optr (eptr v16 i7 4) 1) rfl hf rfl (fun w ⟨_, hp⟩ => ?_) ⟨_, hp⟩ ?_
     · exact st_faP (off := 1) (sz := 1) hf (by decide) (by kernel_rfl) (by decide) rfl rfl (Sl.isP (rl72.sl hp) hc73.1 hc73.2) tk
     clear hf; intro a hf
     refine dr_takeK 8 (.int .u8 ((gt q13.1 i7).2.1)) rfl hf rfl (fun w ⟨_, hp⟩ => ?_) ⟨_, hp⟩ ?_
     · exact st_ldQ (F := (Ek.int .u8)) (yv := (gt q13.1 i7).2.1) hf (by decide) pl5 (fun x => .int .u8 x) (fun _ _ h => h) rfl rfl (Sl.part (E := (Ek.pair (Ek.int .u8) (Ek.pair (Ek.int .u8) (Ek.pair Ek.bool Ek.str)))) (F := (Ek.int .u8)) (o := 1) (Sub.comp (Sub.snd (E := (Ek.int .u8)) (F := (Ek.pair (Ek.int .u8) (Ek.pair Ek.bool Ek.str)))) (Sub.fst (E := (Ek.int .u8)) (F := (Ek.pair Ek.bool Ek.str)))) (rl72.sl hp) hc73.1 hc73.2) tk
     clear hf; intro a hf
     refine dr_takeK 9 (ok0) rfl hf rfl (fun w ⟨_, hp⟩ => ?_) ⟨_, hp⟩ ?_
     · exact st_move hf rfl rfl (by decide) tk
     clear hf; intro a hf
     refine dr_nilV 10 rfl (by kernel_rfl) (by kernel_rfl) (by kernel_rfl) hf (by decide) rfl rfl (rl70.ob hp) ?_
     clear hf; intro a hf
     refine dr_takeK 11 (optr ok0 9) rfl hf rfl (fun w ⟨_, hp⟩ => ?_) ⟨_, hp⟩ ?_
     · exact st_fa (o' := 9) hf (by decide) (off := 9) (sz := 1) (by kernel_rfl) (by decide) rfl rfl (rl70.ob hp) rfl tk
     clear hf; intro a hf
     refine dr_takeK 12 (.int .i64 k0c_9) rfl hf rfl (fun w ⟨_, hp⟩ => ?_) ⟨_, hp⟩ ?_
     · exact st_ldO (u := .int .i64 k0c_9) hf (by decide) pl3 rfl rfl (rl70.ob hp) rfl tk
     clear hf; intro a hf
     refine dr_takeK 13 (.int .u8 (IntKind.u8.wrap k0c_9)) rfl hf rfl (fun w ⟨_, hp⟩ => ?_) ⟨_, hp⟩ ?_
     · exact st_conv_ii hf (by decide) (by rw [Try.underlying3]; rfl) Try.underlying5 rfl rfl tk
     clear hf; intro a hf
     refine dr_takeK 14 (.int .u8 (IntKind.u8.wrap ((gt q13.1 i7).2.1 - (IntKind.u8.wrap k0c_9)))) rfl hf rfl (fun w ⟨_, hp⟩ => ?_) ⟨_, hp⟩ ?_
     · exact st_isub hf (by decide) rfl rfl rfl tk
     clear hf; intro a hf
     refine dr_takeK 15 (.int .i64 (IntKind.i64.wrap (IntKind.u8.wrap ((gt q13.1 i7).2.1 - (IntKind.u8.wrap k0c_9))))) rfl hf rfl (fun w ⟨_, hp⟩ => ?_) ⟨_, hp⟩ ?_
     · exact st_conv_ii hf (by decide) (by rw [Try.underlying5]; rfl) Try.underlying3 rfl rfl tk
     clear hf; intro a hf
     refine dr_takeK 16 (.int .i64 (IntKind.i64.wrap (k0c_9 + (IntKind.i64.wrap (IntKind.u8.wrap ((gt q13.1 i7).2.1 - (IntKind.u8.wrap k0c_9))))))) rfl hf rfl (fun w ⟨_, hp⟩ => ?_) ⟨_, hp⟩ ?_
     · exact st_iadd hf (by decide) rfl rfl rfl tk
     clear hf; intro a hf
     refine dr_takeK 17 (.int .i64 (IntKind.i64.wrap (k0c_9 + (IntKind.i64.wrap (IntKind.u8.wrap ((gt q13.1 i7).2.1 - (IntKind.u8.wrap k0c_9))))))) rfl hf rfl (fun w ⟨_, hp⟩ => ?_) ⟨_, hp⟩ ?_
     · exact st_assign hf rfl rfl (by decide) tk
     clear hf; intro a hf
     refine dr_end (by kernel_rfl) ?_ _
     have hp := bk69 _ _ hp
     have hp := bk64 _ _ hp
     exact ⟨hf.sub ⟨rfl, rfl, rfl, rfl, rfl, trivial⟩, hp⟩
    rintro a w ⟨hf, hp⟩
    refine th_n ?_
    refine wp_seq ?_
    refine wp_seq ?_
    refine wp_reg ?_
    refine st_move hf rfl rfl (by decide) ?_
    clear hf; intro a ha hf; clear ha
    refine st_move hf rfl rfl (by decide) ?_
    clear hf; intro a ha hf; clear ha
    refine st_nilV hf (by decide) rfl rfl (hp.ob (i := 0) rfl) ?_
    clear hf; intro a ha hf; clear ha
    refine st_fa (o' := 10) hf (by decide) (off := 10) (sz := 1) (by kernel_rfl) (by decide) rfl rfl (hp.ob (i := 0) rfl) rfl ?_
    clear hf; intro a ha hf; clear ha
    refine st_ldO (u := .int .i64 k0c_10) hf (by decide) pl3 rfl rfl (hp.ob (i := 0) rfl) rfl ?_
    clear hf; intro a ha hf; clear ha
    refine st_igeq hf (by decide) rfl rfl rfl ?_
    clear hf; intro a ha hf; clear ha
    refine st_nil hf ?_
    refine th_n ?_
    refine wp_if hf rfl (fun hb => ?_) (fun hb => ?_)
    ·
     replace h := ifT h hb
     refine wp_seq ?_
     refine wp_reg ?_
     refine st_assign hf rfl rfl (by decide) ?_
     clear hf; intro a ha hf; clear ha
     refine st_nil hf ?_
     refine th_n ?_
     refine wp_ret ?_
     refine th_r ?_
     refine ib_r ?_
     refine th_r ?_
     have hp : Hp _ _ _ (Res.obj 74 vk0_r [.int .i64 k0c_2c_0, .int .i64 k0c_2c_1, v29] :: Res.map (fun x : ByteArray => Value.string x) v29 k0c_2c_2 :: Res.obj 68 ok0 [.int .i64 k0c_0, vk0_s, vk0_r, v32, v34, vk0_picks, .int .i64 k0c_6, v36, .int .i64 k0c_8, .int .i64 k0c_9, .int .i64 k0c_10, v38, .bool k0c_12, v40] :: _ :: Res.sl (Ek.pair Ek.str (Ek.pair Ek.bool (Ek.pair (Ek.int .i64) Ek.bool))) 81 v26 k0c_1c_4 :: Res.obj 79 vk0_s [.int .i64 k0c_1c_0, .int .i64 k0c_1c_1, .int .i64 k0c_1c_2, .int .i64 k0c_1c_3, v26] :: Res.sl (Ek.pair (Ek.int .i64) (Ek.pair (Ek.int .i64) (Ek.pair (Ek.int .u8) (Ek.pair (Ek.int .u8) (Ek.pair Ek.bool Ek.str))))) 88 v32 k0c_3 :: Res.sl (Ek.pair (Ek.int .i64) (Ek.pair (Ek.int .i64) (Ek.pair (Ek.int .u8) (Ek.pair (Ek.int .u8) (Ek.pair Ek.bool Ek.str))))) 88 v34 k0c_4 :: Res.map (fun x : Int => Value.int .i64 x) v36 k0c_7 :: Res.sl Ek.str 9 v38 k0c_11 :: Res.sl (Ek.int .i64) 3 v40 k0c_13 :: ow) := Hp.sel (pre := [Res.obj 68 ok0 [.int .i64 k0c_0, vk0_s, vk0_r, v32, v34, vk0_picks, .int .i64 k0c_6, v36, .int .i64 k0c_8, .int .i64 k0c_9, .int .i64 k0c_10, v38, .bool k0c_12, v40], Res.sl (Ek.pair (Ek.int .u8) (Ek.pair (Ek.int .u8) (Ek.pair Ek.bool Ek.str))) 31 v16 q13.1, Res.sl (Ek.pair Ek.str (Ek.pair Ek.bool (Ek.pair (Ek.int .i64) Ek.bool))) 81 v26 k0c_1c_4, Res.obj 79 vk0_s [.int .i64 k0c_1c_0, .int .i64 k0c_1c_1, .int .i64 k0c_1c_2, .int .i64 k0c_1c_3, v26], Res.map (fun x : ByteArray => Value.string x) v29 k0c_2c_2, Res.obj 74 vk0_r [.int .i64 k0c_2c_0, .int .i64 k0c_2c_1, v29], Res.sl (Ek.pair (Ek.int .i64) (Ek.pair (Ek.int .i64) (Ek.pair (Ek.int .u8) (Ek.pair (Ek.int .u8) (Ek.pair Ek.bool Ek.str))))) 88 v32 k0c_3, Res.sl (Ek.pair (Ek.int .i64) (Ek.pair (Ek.int .i64) (Ek.pair (Ek.int .u8) (Ek.pair (Ek.int .u8) (Ek.pair Ek.bool Ek.str))))) 88 v34 k0c_4, Res.map (fun x : Int => Value.int .i64 x) v36 k0c_7, Res.sl Ek.str 9 v38 k0c_11, Res.sl (Ek.int .i64) 3 v40 k0c_13]) (tail := ow) (rs' := [Res.obj 74 vk0_r [.int .i64 k0c_2c_0, .int .i64 k0c_2c_1, v29], Res.map (fun x : ByteArray => Value.string x) v29 k0c_2c_2, Res.obj 68 ok0 [.int .i64 k0c_0, vk0_s, vk0_r, v32, v34, vk0_picks, .int .i64 k0c_6, v36, .int .i64 k0c_8, .int .i64 k0c_9, .int .i64 k0c_10, v38, .bool k0c_12, v40], Res.sl (Ek.pair (Ek.int .u8) (Ek.pair (Ek.int .u8) (Ek.pair Ek.bool Ek.str))) 31 v16 q13.1, Res.sl (Ek.pair Ek.str (Ek.pair Ek.bool (Ek.pair (Ek.int .i64) Ek.bool))) 81 v26 k0c_1c_4, Res.obj 79 vk0_s [.int .i64 k0c_1c_0, .int .i64 k0c_1c_1, .int .i64 k0c_1c_2, .int .i64 k0c_1c_3, v26], Res.sl (Ek.pair (Ek.int .i64) (Ek.pair (Ek.int .i64) (Ek.pair (Ek.int .u8) (Ek.pair (Ek.int .u8) (Ek.pair Ek.bool Ek.str))))) 88 v32 k0c_3, Res.sl (Ek.pair (Ek.int .i64) (Ek.pair (Ek.int .i64) (Ek.pair (Ek.int .u8) (Ek.pair (Ek.int .u8) (Ek.pair Ek.bool Ek.str))))) 88 v34 k0c_4, Res.map (fun x : Int => Value.int .i64 x) v36 k0c_7, Res.sl Ek.str 9 v38 k0c_11, Res.sl (Ek.int .i64) 3 v40 k0c_13]) hp [5, 4, 0, 1, 2, 3, 6, 7, 8, 9, 10] (by decide) (by simp) rfl
     replace hp : Hp _ _ _ (Res.opt pk74 vk0_r (some (k0c_2c_0, k0c_2c_1, k0c_2c_2)) :: _ :: _ :: _ :: _ :: _ :: _ :: _ :: _ :: _ :: ow) := pk74_out (s := (k0c_2c_0, k0c_2c_1, k0c_2c_2)) (u := v29) hp
     have hp : Hp _ _ _ (_ :: _ :: _ :: _ :: _ :: _ :: _ :: _ :: _ :: _ :: ow) := Hp.sel (pre := [Res.opt pk74 vk0_r (some (k0c_2c_0, k0c_2c_1, k0c_2c_2)), Res.obj 68 ok0 [.int .i64 k0c_0, vk0_s, vk0_r, v32, v34, vk0_picks, .int .i64 k0c_6, v36, .int .i64 k0c_8, .int .i64 k0c_9, .int .i64 k0c_10, v38, .bool k0c_12, v40], Res.sl (Ek.pair (Ek.int .u8) (Ek.pair (Ek.int .u8) (Ek.pair Ek.bool Ek.str))) 31 v16 q13.1, Res.sl (Ek.pair Ek.str (Ek.pair Ek.bool (Ek.pair (Ek.int .i64) Ek.bool))) 81 v26 k0c_1c_4, Res.obj 79 vk0_s [.int .i64 k0c_1c_0, .int .i64 k0c_1c_1, .int .i64 k0c_1c_2, .int .i64 k0c_1c_3, v26], Res.sl (Ek.pair (Ek.int .i64) (Ek.pair (Ek.int .i64) (Ek.pair (Ek.int .u8) (Ek.pair (Ek.int .u8) (Ek.pair Ek.bool Ek.str))))) 88 v32 k0c_3, Res.sl (Ek.pair (Ek.int .i64) (Ek.pair (Ek.int .i64) (Ek.pair (Ek.int .u8) (Ek.pair (Ek.int .u8) (Ek.pair Ek.bool Ek.str))))) 88 v34 k0c_4, Res.map (fun x : Int => Value.int .i64 x) v36 k0c_7, Res.sl Ek.str 9 v38 k0c_11, Res.sl (Ek.int .i64) 3 v40 k0c_13]) (tail := ow) (rs' := [Res.obj 79 vk0_s [.int .i64 k0c_1c_0, .int .i64 k0c_1c_1, .int .i64 k0c_1c_2, .int .i64 k0c_1c_3, v26], Res.sl (Ek.pair Ek.str (Ek.pair Ek.bool (Ek.pair (Ek.int .i64) Ek.bool))) 81 v26 k0c_1c_4, Res.opt pk74 vk0_r (some (k0c_2c_0, k0c_2c_1, k0c_2c_2)), Res.obj 68 ok0 [.int .i64 k0c_0, vk0_s, vk0_r, v32, v34, vk0_picks, .int .i64 k0c_6, v36, .int .i64 k0c_8, .int .i64 k0c_9, .int .i64 k0c_10, v38, .bool k0c_12, v40], Res.sl (Ek.pair (Ek.int .u8) (Ek.pair (Ek.int .u8) (Ek.pair Ek.bool Ek.str))) 31 v16 q13.1, Res.sl (Ek.pair (Ek.int .i64) (Ek.pair (Ek.int .i64) (Ek.pair (Ek.int .u8) (Ek.pair (Ek.int .u8) (Ek.pair Ek.bool Ek.str))))) 88 v32 k0c_3, Res.sl (Ek.pair (Ek.int .i64) (Ek.pair (Ek.int .i64) (Ek.pair (Ek.int .u8) (Ek.pair (Ek.int .u8) (Ek.pair Ek.bool Ek.str))))) 88 v34 k0c_4, Res.map (fun x : Int => Value.int .i64 x) v36 k0c_7, Res.sl Ek.str 9 v38 k0c_11, Res.sl (Ek.int .i64) 3 v40 k0c_13]) hp [4, 3, 0, 1, 2, 5, 6, 7, 8, 9] (by decide) (by simp) rfl
     replace hp : Hp _ _ _ (Res.opt pk79 vk0_s (some (k0c_1c_0, k0c_1c_1, k0c_1c_2, k0c_1c_3, k0c_1c_4)) :: _ :: _ :: _ :: _ :: _ :: _ :: _ :: _ :: ow) := pk79_out (s := (k0c_1c_0, k0c_1c_1, k0c_1c_2, k0c_1c_3, k0c_1c_4)) (u := v26) hp
     obtain rfl := Option.some.inj h
     have hp : Hp _ _ _ (_ :: _ :: _ :: _ :: _ :: _ :: _ :: _ :: ow) := Hp.sel (pre := [Res.opt pk79 vk0_s (some (k0c_1c_0, k0c_1c_1, k0c_1c_2, k0c_1c_3, k0c_1c_4)), Res.opt pk74 vk0_r (some (k0c_2c_0, k0c_2c_1, k0c_2c_2)), Res.obj 68 ok0 [.int .i64 k0c_0, vk0_s, vk0_r, v32, v34, vk0_picks, .int .i64 k0c_6, v36, .int .i64 k0c_8, .int .i64 k0c_9, .int .i64 k0c_10, v38, .bool k0c_12, v40], Res.sl (Ek.pair (Ek.int .u8) (Ek.pair (Ek.int .u8) (Ek.pair Ek.bool Ek.str))) 31 v16 q13.1, Res.sl (Ek.pair (Ek.int .i64) (Ek.pair (Ek.int .i64) (Ek.pair (Ek.int .u8) (Ek.pair (Ek.int .u8) (Ek.pair Ek.bool Ek.str))))) 88 v32 k0c_3, Res.sl (Ek.pair (Ek.int .i64) (Ek.pair (Ek.int .i64) (Ek.pair (Ek.int .u8) (Ek.pair (Ek.int .u8) (Ek.pair Ek.bool Ek.str))))) 88 v34 k0c_4, Res.map (fun x : Int => Value.int .i64 x) v36 k0c_7, Res.sl Ek.str 9 v38 k0c_11, Res.sl (Ek.int .i64) 3 v40 k0c_13]) (tail := ow) (rs' := [Res.opt pk79 vk0_s (some (k0c_1c_0, k0c_1c_1, k0c_1c_2, k0c_1c_3, k0c_1c_4)), Res.opt pk74 vk0_r (some (k0c_2c_0, k0c_2c_1, k0c_2c_2)), Res.sl (Ek.pair (Ek.int .i64) (Ek.pair (Ek.int .i64) (Ek.pair (Ek.int .u8) (Ek.pair (Ek.int .u8) (Ek.pair Ek.bool Ek.str))))) 88 v32 k0c_3, Res.sl (Ek.pair (Ek.int .i64) (Ek.pair (Ek.int .i64) (Ek.pair (Ek.int .u8) (Ek.pair (Ek.int .u8) (Ek.pair Ek.bool Ek.str))))) 88 v34 k0c_4, Res.map (fun x : Int => Value.int .i64 x) v36 k0c_7, Res.sl Ek.str 9 v38 k0c_11, Res.sl (Ek.int .i64) 3 v40 k0c_13, Res.obj 68 ok0 [.int .i64 k0c_0, vk0_s, vk0_r, v32, v34, vk0_picks, .int .i64 k0c_6, v36, .int .i64 k0c_8, .int .i64 k0c_9, .int .i64 k0c_10, v38, .bool k0c_12, v40]]) hp [0, 1, 4, 5, 6, 7, 8, 2] (by decide) (by simp) rfl
     exact rnd_r (by simp) ⟨rfl, ⟨_, _, _, _, _, hf.sub ⟨rfl, trivial⟩, hp⟩⟩
    replace h := ifF h hb
    refine wp_skip ?_
    refine th_n ?_
    refine wp_seq ?_
    refine wp_reg ?_
    refine st_move hf rfl rfl (by decide) ?_
    clear hf; intro a ha hf; clear ha
    refine st_nilV hf (by decide) rfl rfl (hp.ob (i := 0) rfl) ?_
    clear hf; intro a ha hf; clear ha
    refine st_fa (o' := 13) hf (by decide) (off := 13) (sz := 1) (by kernel_rfl) (by decide) rfl rfl (hp.ob (i := 0) rfl) rfl ?_
    clear hf; intro a ha hf; clear ha
    refine st_ldO (u := v40) hf (by decide) pl65 rfl rfl (hp.ob (i := 0) rfl) rfl ?_
    clear hf; intro a ha hf; clear ha
    refine st_move hf rfl rfl (by decide) ?_
    clear hf; intro a ha hf; clear ha
    obtain ⟨hc74, h⟩ := chk h
    refine st_index (E := (Ek.int .i64)) hf (by decide) Try.underlying65 elt3 rfl rfl rfl (hp.sl (i := 10) rfl) hc74.1 hc74.2 ?_
    clear hf; intro a ha hf; clear ha
    refine st_ldI hf (by decide) pl3 rfl rfl (hp.sl (i := 10) rfl) hc74.1 hc74.2 ?_
    clear hf; intro a ha hf; clear ha
    refine st_iadd hf (by decide) rfl rfl rfl ?_
    clear hf; intro a ha hf; clear ha
    obtain ⟨hc75, h⟩ := chk h
    refine st_index (E := (Ek.int .i64)) hf (by decide) Try.underlying65 elt3 rfl rfl rfl (hp.sl (i := 10) rfl) hc75.1 hc75.2 ?_
    clear hf; intro a ha hf; clear ha
    refine st_store (E := (Ek.int .i64)) hf elt3 hp (i := 10) rfl rfl rfl rfl rfl hc75.1 hc75.2 ?_
    clear hf; intro a w hf hp0; clear hp; have hp := hp0; clear hp0
    replace hp : Hp _ _ _ (_ :: Res.sl (Ek.pair (Ek.int .u8) (Ek.pair (Ek.int .u8) (Ek.pair Ek.bool Ek.str))) 31 v16 q13.1 :: Res.sl (Ek.pair Ek.str (Ek.pair Ek.bool (Ek.pair (Ek.int .i64) Ek.bool))) 81 v26 k0c_1c_4 :: Res.obj 79 vk0_s [.int .i64 k0c_1c_0, .int .i64 k0c_1c_1, .int .i64 k0c_1c_2, .int .i64 k0c_1c_3, v26] :: Res.map (fun x : ByteArray => Value.string x) v29 k0c_2c_2 :: Res.obj 74 vk0_r [.int .i64 k0c_2c_0, .int .i64 k0c_2c_1, v29] :: _ :: _ :: _ :: _ :: Res.sl (Ek.int .i64) 3 v40 (k0c_13.set ((IntKind.i64.wrap (k0c_9 + (IntKind.i64.wrap (IntKind.u8.wrap ((gt q13.1 i7).2.1 - (IntKind.u8.wrap k0c_9))))))).toNat (IntKind.i64.wrap ((gt k0c_13 (IntKind.i64.wrap (k0c_9 + (IntKind.i64.wrap (IntKind.u8.wrap ((gt q13.1 i7).2.1 - (IntKind.u8.wrap k0c_9))))))) + (1 : Int)))) :: ow) := hp
    refine st_nil hf ?_
    refine th_n ?_
    refine wp_seq ?_
    refine wp_reg ?_
    refine st_move hf rfl rfl (by decide) ?_
    clear hf; intro a ha hf; clear ha
    obtain ⟨q76, hcall77, h⟩ := bnd h
    have hp : Hp _ _ _ (_ :: _ :: _ :: _ :: _ :: _ :: _ :: _ :: _ :: _ :: _ :: ow) := Hp.sel (pre := [Res.obj 68 ok0 [.int .i64 k0c_0, vk0_s, vk0_r, v32, v34, vk0_picks, .int .i64 k0c_6, v36, .int .i64 k0c_8, .int .i64 k0c_9, .int .i64 k0c_10, v38, .bool k0c_12, v40], Res.sl (Ek.pair (Ek.int .u8) (Ek.pair (Ek.int .u8) (Ek.pair Ek.bool Ek.str))) 31 v16 q13.1, Res.sl (Ek.pair Ek.str (Ek.pair Ek.bool (Ek.pair (Ek.int .i64) Ek.bool))) 81 v26 k0c_1c_4, Res.obj 79 vk0_s [.int .i64 k0c_1c_0, .int .i64 k0c_1c_1, .int .i64 k0c_1c_2, .int .i64 k0c_1c_3, v26], Res.map (fun x : ByteArray => Value.string x) v29 k0c_2c_2, Res.obj 74 vk0_r [.int .i64 k0c_2c_0, .int .i64 k0c_2c_1, v29], Res.sl (Ek.pair (Ek.int .i64) (Ek.pair (Ek.int .i64) (Ek.pair (Ek.int .u8) (Ek.pair (Ek.int .u8) (Ek.pair Ek.bool Ek.str))))) 88 v32 k0c_3, Res.sl (Ek.pair (Ek.int .i64) (Ek.pair (Ek.int .i64) (Ek.pair (Ek.int .u8) (Ek.pair (Ek.int .u8) (Ek.pair Ek.bool Ek.str))))) 88 v34 k0c_4, Res.map (fun x : Int => Value.int .i64 x) v36 k0c_7, Res.sl Ek.str 9 v38 k0c_11, Res.sl (Ek.int .i64) 3 v40 (k0c_13.set ((IntKind.i64.wrap (k0c_9 + (IntKind.i64.wrap (IntKind.u8.wrap ((gt q13.1 i7).2.1 - (IntKind.u8.wrap k0c_9))))))).toNat (IntKind.i64.wrap ((gt k0c_13 (IntKind.i64.wrap (k0c_9 + (IntKind.i64.wrap (IntKind.u8.wrap ((gt q13.1 i7).2.1 - (IntKind.u8.wrap k0c_9))))))) + (1 : Int))))]) (tail := ow) (rs' := [Res.obj 79 vk0_s [.int .i64 k0c_1c_0, .int .i64 k0c_1c_1, .int .i64 k0c_1c_2, .int .i64 k0c_1c_3, v26], Res.sl (Ek.pair Ek.str (Ek.pair Ek.bool (Ek.pair (Ek.int .i64) Ek.bool))) 81 v26 k0c_1c_4, Res.obj 68 ok0 [.int .i64 k0c_0, vk0_s, vk0_r, v32, v34, vk0_picks, .int .i64 k0c_6, v36, .int .i64 k0c_8, .int .i64 k0c_9, .int .i64 k0c_10, v38, .bool k0c_12, v40], Res.sl (Ek.pair (Ek.int .u8) (Ek.pair (Ek.int .u8) (Ek.pair Ek.bool Ek.str))) 31 v16 q13.1, Res.map (fun x : ByteArray => Value.string x) v29 k0c_2c_2, Res.obj 74 vk0_r [.int .i64 k0c_2c_0, .int .i64 k0c_2c_1, v29], Res.sl (Ek.pair (Ek.int .i64) (Ek.pair (Ek.int .i64) (Ek.pair (Ek.int .u8) (Ek.pair (Ek.int .u8) (Ek.pair Ek.bool Ek.str))))) 88 v32 k0c_3, Res.sl (Ek.pair (Ek.int .i64) (Ek.pair (Ek.int .i64) (Ek.pair (Ek.int .u8) (Ek.pair (Ek.int .u8) (Ek.pair Ek.bool Ek.str))))) 88 v34 k0c_4, Res.map (fun x : Int => Value.int .i64 x) v36 k0c_7, Res.sl Ek.str 9 v38 k0c_11, Res.sl (Ek.int .i64) 3 v40 (k0c_13.set ((IntKind.i64.wrap (k0c_9 + (IntKind.i64.wrap (IntKind.u8.wrap ((gt q13.1 i7).2.1 - (IntKind.u8.wrap k0c_9))))))).toNat (IntKind.i64.wrap ((gt k0c_13 (IntKind.i64.wrap (k0c_9 + (IntKind.i64.wrap (IntKind.u8.wrap ((gt q13.1 i7).2.1 - (IntKind.u8.wrap k0c_9))))))) + (1 : Int))))]) hp [3, 2, 0, 1, 4, 5, 6, 7, 8, 9, 10] (by decide) (by simp) rfl
    replace hp : Hp _ _ _ (Res.opt pk79 vk0_s (some (k0c_1c_0, k0c_1c_1, k0c_1c_2, k0c_1c_3, k0c_1c_4)) :: _ :: _ :: _ :: _ :: _ :: _ :: _ :: _ :: _ :: ow) := pk79_out (s := (k0c_1c_0, k0c_1c_1, k0c_1c_2, k0c_1c_3, k0c_1c_4)) (u := v26) hp
    have hp : Hp _ _ _ (_ :: _ :: _ :: _ :: _ :: _ :: _ :: _ :: _ :: _ :: ow) := Hp.sel (pre := [Res.opt pk79 vk0_s (some (k0c_1c_0, k0c_1c_1, k0c_1c_2, k0c_1c_3, k0c_1c_4)), Res.obj 68 ok0 [.int .i64 k0c_0, vk0_s, vk0_r, v32, v34, vk0_picks, .int .i64 k0c_6, v36, .int .i64 k0c_8, .int .i64 k0c_9, .int .i64 k0c_10, v38, .bool k0c_12, v40], Res.sl (Ek.pair (Ek.int .u8) (Ek.pair (Ek.int .u8) (Ek.pair Ek.bool Ek.str))) 31 v16 q13.1, Res.map (fun x : ByteArray => Value.string x) v29 k0c_2c_2, Res.obj 74 vk0_r [.int .i64 k0c_2c_0, .int .i64 k0c_2c_1, v29], Res.sl (Ek.pair (Ek.int .i64) (Ek.pair (Ek.int .i64) (Ek.pair (Ek.int .u8) (Ek.pair (Ek.int .u8) (Ek.pair Ek.bool Ek.str))))) 88 v32 k0c_3, Res.sl (Ek.pair (Ek.int .i64) (Ek.pair (Ek.int .i64) (Ek.pair (Ek.int .u8) (Ek.pair (Ek.int .u8) (Ek.pair Ek.bool Ek.str))))) 88 v34 k0c_4, Res.map (fun x : Int => Value.int .i64 x) v36 k0c_7, Res.sl Ek.str 9 v38 k0c_11, Res.sl (Ek.int .i64) 3 v40 (k0c_13.set ((IntKind.i64.wrap (k0c_9 + (IntKind.i64.wrap (IntKind.u8.wrap ((gt q13.1 i7).2.1 - (IntKind.u8.wrap k0c_9))))))).toNat (IntKind.i64.wrap ((gt k0c_13 (IntKind.i64.wrap (k0c_9 + (IntKind.i64.wrap (IntKind.u8.wrap ((gt q13.1 i7).2.1 - (IntKind.u8.wrap k0c_9))))))) + (1 : Int))))]) (tail := ow) (rs' := [Res.obj 74 vk0_r [.int .i64 k0c_2c_0, .int .i64 k0c_2c_1, v29], Res.map (fun x : ByteArray => Value.string x) v29 k0c_2c_2, Res.opt pk79 vk0_s (some (k0c_1c_0, k0c_1c_1, k0c_1c_2, k0c_1c_3, k0c_1c_4)), Res.obj 68 ok0 [.int .i64 k0c_0, vk0_s, vk0_r, v32, v34, vk0_picks, .int .i64 k0c_6, v36, .int .i64 k0c_8, .int .i64 k0c_9, .int .i64 k0c_10, v38, .bool k0c_12, v40], Res.sl (Ek.pair (Ek.int .u8) (Ek.pair (Ek.int .u8) (Ek.pair Ek.bool Ek.str))) 31 v16 q13.1, Res.sl (Ek.pair (Ek.int .i64) (Ek.pair (Ek.int .i64) (Ek.pair (Ek.int .u8) (Ek.pair (Ek.int .u8) (Ek.pair Ek.bool Ek.str))))) 88 v32 k0c_3, Res.sl (Ek.pair (Ek.int .i64) (Ek.pair (Ek.int .i64) (Ek.pair (Ek.int .u8) (Ek.pair (Ek.int .u8) (Ek.pair Ek.bool Ek.str))))) 88 v34 k0c_4, Res.map (fun x : Int => Value.int .i64 x) v36 k0c_7, Res.sl Ek.str 9 v38 k0c_11, Res.sl (Ek.int .i64) 3 v40 (k0c_13.set ((IntKind.i64.wrap (k0c_9 + (IntKind.i64.wrap (IntKind.u8.wrap ((gt q13.1 i7).2.1 - (IntKind.u8.wrap k0c_9))))))).toNat (IntKind.i64.wrap ((gt k0c_13 (IntKind.i64.wrap (k0c_9 + (IntKind.i64.wrap (IntKind.u8.wrap ((gt q13.1 i7).2.1 - (IntKind.u8.wrap k0c_9))))))) + (1 : Int))))]) hp [4, 3, 0, 1, 2, 5, 6, 7, 8, 9] (by decide) (by simp) rfl
    replace hp : Hp _ _ _ (Res.opt pk74 vk0_r (some (k0c_2c_0, k0c_2c_1, k0c_2c_2)) :: _ :: _ :: _ :: _ :: _ :: _ :: _ :: _ :: ow) := pk74_out (s := (k0c_2c_0, k0c_2c_1, k0c_2c_2)) (u := v29) hp
    have hp78 : Hp _ _ _ (Res.opt pk79 vk0_s (some (k0c_1c_0, k0c_1c_1, k0c_1c_2, k0c_1c_3, k0c_1c_4)) :: Res.opt pk74 vk0_r (some (k0c_2c_0, k0c_2c_1, k0c_2c_2)) :: Res.sl (Ek.pair (Ek.int .i64) (Ek.pair (Ek.int .i64) (Ek.pair (Ek.int .u8) (Ek.pair (Ek.int .u8) (Ek.pair Ek.bool Ek.str))))) 88 v32 k0c_3 :: Res.sl (Ek.pair (Ek.int .i64) (Ek.pair (Ek.int .i64) (Ek.pair (Ek.int .u8) (Ek.pair (Ek.int .u8) (Ek.pair Ek.bool Ek.str))))) 88 v34 k0c_4 :: Res.map (fun x : Int => Value.int .i64 x) v36 k0c_7 :: Res.sl Ek.str 9 v38 k0c_11 :: Res.sl (Ek.int .i64) 3 v40 (k0c_13.set ((IntKind.i64.wrap (k0c_9 + (IntKind.i64.wrap (IntKind.u8.wrap ((gt q13.1 i7).2.1 - (IntKind.u8.wrap k0c_9))))))).toNat (IntKind.i64.wrap ((gt k0c_13 (IntKind.i64.wrap (k0c_9 + (IntKind.i64.wrap (IntKind.u8.wrap ((gt q13.1 i7).2.1 - (IntKind.u8.wrap k0c_9))))))) + (1 : Int)))) :: Res.obj 68 ok0 [.int .i64 k0c_0, vk0_s, vk0_r, v32, v34, vk0_picks, .int .i64 k0c_6, v36, .int .i64 k0c_8, .int .i64 k0c_9, .int .i64 k0c_10, v38, .bool k0c_12, v40] :: Res.sl (Ek.pair (Ek.int .u8) (Ek.pair (Ek.int .u8) (Ek.pair Ek.bool Ek.str))) 31 v16 q13.1 :: ow) := Hp.sel (pre := [Res.opt pk74 vk0_r (some (k0c_2c_0, k0c_2c_1, k0c_2c_2)), Res.opt pk79 vk0_s (some (k0c_1c_0, k0c_1c_1, k0c_1c_2, k0c_1c_3, k0c_1c_4)), Res.obj 68 ok0 [.int .i64 k0c_0, vk0_s, vk0_r, v32, v34, vk0_picks, .int .i64 k0c_6, v36, .int .i64 k0c_8, .int .i64 k0c_9, .int .i64 k0c_10, v38, .bool k0c_12, v40], Res.sl (Ek.pair (Ek.int .u8) (Ek.pair (Ek.int .u8) (Ek.pair Ek.bool Ek.str))) 31 v16 q13.1, Res.sl (Ek.pair (Ek.int .i64) (Ek.pair (Ek.int .i64) (Ek.pair (Ek.int .u8) (Ek.pair (Ek.int .u8) (Ek.pair Ek.bool Ek.str))))) 88 v32 k0c_3, Res.sl (Ek.pair (Ek.int .i64) (Ek.pair (Ek.int .i64) (Ek.pair (Ek.int .u8) (Ek.pair (Ek.int .u8) (Ek.pair Ek.bool Ek.str))))) 88 v34 k0c_4, Res.map (fun x : Int => Value.int .i64 x) v36 k0c_7, Res.sl Ek.str 9 v38 k0c_11, Res.sl (Ek.int .i64) 3 v40 (k0c_13.set ((IntKind.i64.wrap (k0c_9 + (IntKind.i64.wrap (IntKind.u8.wrap ((gt q13.1 i7).2.1 - (IntKind.u8.wrap k0c_9))))))).toNat (IntKind.i64.wrap ((gt k0c_13 (IntKind.i64.wrap (k0c_9 + (IntKind.i64.wrap (IntKind.u8.wrap ((gt q13.1 i7).2.1 - (IntKind.u8.wrap k0c_9))))))) + (1 : Int))))]) (tail := ow) (rs' := [Res.opt pk79 vk0_s (some (k0c_1c_0, k0c_1c_1, k0c_1c_2, k0c_1c_3, k0c_1c_4)), Res.opt pk74 vk0_r (some (k0c_2c_0, k0c_2c_1, k0c_2c_2)), Res.sl (Ek.pair (Ek.int .i64) (Ek.pair (Ek.int .i64) (Ek.pair (Ek.int .u8) (Ek.pair (Ek.int .u8) (Ek.pair Ek.bool Ek.str))))) 88 v32 k0c_3, Res.sl (Ek.pair (Ek.int .i64) (Ek.pair (Ek.int .i64) (Ek.pair (Ek.int .u8) (Ek.pair (Ek.int .u8) (Ek.pair Ek.bool Ek.str))))) 88 v34 k0c_4, Res.map (fun x : Int => Value.int .i64 x) v36 k0c_7, Res.sl Ek.str 9 v38 k0c_11, Res.sl (Ek.int .i64) 3 v40 (k0c_13.set ((IntKind.i64.wrap (k0c_9 + (IntKind.i64.wrap (IntKind.u8.wrap ((gt q13.1 i7).2.1 - (IntKind.u8.wrap k0c_9))))))).toNat (IntKind.i64.wrap ((gt k0c_13 (IntKind.i64.wrap (k0c_9 + (IntKind.i64.wrap (IntKind.u8.wrap ((gt q13.1 i7).2.1 - (IntKind.u8.wrap k0c_9))))))) + (1 : Int)))), Res.obj 68 ok0 [.int .i64 k0c_0, vk0_s, vk0_r, v32, v34, vk0_picks, .int .i64 k0c_6, v36, .int .i64 k0c_8, .int .i64 k0c_9, .int .i64 k0c_10, v38, .bool k0c_12, v40], Res.sl (Ek.pair (Ek.int .u8) (Ek.pair (Ek.int .u8) (Ek.pair Ek.bool Ek.str))) 31 v16 q13.1]) hp [1, 0, 4, 5, 6, 7, 8, 2, 3] (by decide) (by simp) rfl
    refine st_call hf (by decide) Try.func32 rfl rfl rfl rfl rfl (f_foghornlaw28_link_pick_c _ _ _ _ _ _ _ _ _ _ _ hk0_picks _ _ _ _ _ _ _ _ _ _ _ _ hp78 hcall77) ?_
    rintro _ w ⟨v79, v80, v81, v82, v83, rfl, hp0⟩
    clear hp; have hp := hp0; clear hp0
    replace hp : Hp _ _ _ (Res.opt pk79 vk0_s q76.2.2.1 :: Res.opt pk74 vk0_r q76.2.2.2.1 :: Res.sl (Ek.pair (Ek.int .i64) (Ek.pair (Ek.int .i64) (Ek.pair (Ek.int .u8) (Ek.pair (Ek.int .u8) (Ek.pair Ek.bool Ek.str))))) 88 v79 q76.2.2.2.2.1 :: Res.sl (Ek.pair (Ek.int .i64) (Ek.pair (Ek.int .i64) (Ek.pair (Ek.int .u8) (Ek.pair (Ek.int .u8) (Ek.pair Ek.bool Ek.str))))) 88 v80 q76.2.2.2.2.2.1 :: Res.map (fun x : Int => Value.int .i64 x) v81 q76.2.2.2.2.2.2.2.2.1 :: Res.sl Ek.str 9 v82 q76.2.2.2.2.2.2.2.2.2.2.2.2.1 :: Res.sl (Ek.int .i64) 3 v83 q76.2.2.2.2.2.2.2.2.2.2.2.2.2.2 :: Res.obj 68 ok0 [.int .i64 q76.2.1, vk0_s, vk0_r, v79, v80, vk0_picks, .int .i64 q76.2.2.2.2.2.2.2.1, v81, .int .i64 q76.2.2.2.2.2.2.2.2.2.1, .int .i64 q76.2.2.2.2.2.2.2.2.2.2.1, .int .i64 q76.2.2.2.2.2.2.2.2.2.2.2.1, v82, .bool q76.2.2.2.2.2.2.2.2.2.2.2.2.2.1, v83] :: _ :: ow) := hp
    refine ⟨_, rfl, ?_⟩
    clear hf; intro a hf
    refine st_assign hf rfl rfl (by decide) ?_
    clear hf; intro a ha hf; clear ha
    refine st_nil hf ?_
    refine th_n ?_
    refine wp_seq ?_
    refine wp_seq ?_
    refine wp_reg ?_
    refine st_move hf rfl rfl (by decide) ?_
    clear hf; intro a ha hf; clear ha
    refine st_iand hf (by decide) rfl rfl rfl ?_
    clear hf; intro a ha hf; clear ha
    refine st_ieql hf (by decide) rfl rfl rfl ?_
    clear hf; intro a ha hf; clear ha
    refine st_move hf rfl rfl (by decide) ?_
    clear hf; intro a ha hf; clear ha
    obtain ⟨s89, hs90, h⟩ := bnd h
    replace hp : Hp _ _ _ (pk79.R vk0_s s89 :: _ :: _ :: _ :: _ :: _ :: _ :: _ :: _ :: ow) := hp.optSome hs90
    obtain ⟨v91, hp⟩ := pk79_in hp
    replace hp : Hp _ _ _ (Res.obj 79 vk0_s [.int .i64 s89.1, .int .i64 s89.2.1, .int .i64 s89.2.2.1, .int .i64 s89.2.2.2.1, v91] :: Res.sl (Ek.pair Ek.str (Ek.pair Ek.bool (Ek.pair (Ek.int .i64) Ek.bool))) 81 v91 s89.2.2.2.2 :: _ :: _ :: _ :: _ :: _ :: _ :: _ :: _ :: ow) := hp
    obtain ⟨s93, hs94, h⟩ := bnd h
    have hp : Hp _ _ _ (_ :: _ :: _ :: _ :: _ :: _ :: _ :: _ :: _ :: _ :: ow) := Hp.sel (pre := [Res.obj 79 vk0_s [.int .i64 s89.1, .int .i64 s89.2.1, .int .i64 s89.2.2.1, .int .i64 s89.2.2.2.1, v91], Res.sl (Ek.pair Ek.str (Ek.pair Ek.bool (Ek.pair (Ek.int .i64) Ek.bool))) 81 v91 s89.2.2.2.2, Res.opt pk74 vk0_r q76.2.2.2.1, Res.sl (Ek.pair (Ek.int .i64) (Ek.pair (Ek.int .i64) (Ek.pair (Ek.int .u8) (Ek.pair (Ek.int .u8) (Ek.pair Ek.bool Ek.str))))) 88 v79 q76.2.2.2.2.1, Res.sl (Ek.pair (Ek.int .i64) (Ek.pair (Ek.int .i64) (Ek.pair (Ek.int .u8) (Ek.pair (Ek.int .u8) (Ek.pair Ek.bool Ek.str))))) 88 v80 q76.2.2.2.2.2.1, Res.map (fun x : Int => Value.int .i64 x) v81 q76.2.2.2.2.2.2.2.2.1, Res.sl Ek.str 9 v82 q76.2.2.2.2.2.2.2.2.2.2.2.2.1, Res.sl (Ek.int .i64) 3 v83 q76.2.2.2.2.2.2.2.2.2.2.2.2.2.2, Res.obj 68 ok0 [.int .i64 q76.2.1, vk0_s, vk0_r, v79, v80, vk0_picks, .int .i64 q76.2.2.2.2.2.2.2.1, v81, .int .i64 q76.2.2.2.2.2.2.2.2.2.1, .int .i64 q76.2.2.2.2.2.2.2.2.2.2.1, .int .i64 q76.2.2.2.2.2.2.2.2.2.2.2.1, v82, .bool q76.2.2.2.2.2.2.2.2.2.2.2.2.2.1, v83], Res.sl (Ek.pair (Ek.int .u8) (Ek.pair (Ek.int .u8) (Ek.pair Ek.bool Ek.str))) 31 v16 q13.1]) (tail := ow) (rs' := [Res.opt pk74 vk0_r q76.2.2.2.1, Res.obj 79 vk0_s [.int .i64 s89.1, .int .i64 s89.2.1, .int .i64 s89.2.2.1, .int .i64 s89.2.2.2.1, v91], Res.sl (Ek.pair Ek.str (Ek.pair Ek.bool (Ek.pair (Ek.int .i64) Ek.bool))) 81 v91 s89.2.2.2.2, Res.sl (Ek.pair (Ek.int .i64) (Ek.pair (Ek.int .i64) (Ek.pair (Ek.int .u8) (Ek.pair (Ek.int .u8) (Ek.pair Ek.bool Ek.str))))) 88 v79 q76.2.2.2.2.1, Res.sl (Ek.pair (Ek.int .i64) (Ek.pair (Ek.int .i64) (Ek.pair (Ek.int .u8) (Ek.pair (Ek.int .u8) (Ek.pair Ek.bool Ek.str))))) 88 v80 q76.2.2.2.2.2.1, Res.map (fun x : Int => Value.int .i64 x) v81 q76.2.2.2.2.2.2.2.2.1, Res.sl Ek.str 9 v82 q76.2.2.2.2.2.2.2.2.2.2.2.2.1, Res.sl (Ek.int .i64) 3 v83 q76.2.2.2.2.2.2.2.2.2.2.2.2.2.2, Res.obj 68 ok0 [.int .i64 q76.2.1, vk0_s, vk0_r, v79, v80, vk0_picks, .int .i64 q76.2.2.2.2.2.2.2.1, v81, .int .i64 q76.2.2.2.2.2.2.2.2.2.1, .int .i64 q76.2.2.2.2.2.2.2.2.2.2.1, .int .i64 q76.2.2.2.2.2.2.2.2.2.2.2.1, v82, .bool q76.2.2.2.2.2.2.2.2.2.2.2.2.2.1, v83], Res.sl (Ek.pair (Ek.int .u8) (Ek.pair (Ek.int .u8) (Ek.pair Ek.bool Ek.str))) 31 v16 q13.1]) hp [2, 0, 1, 3, 4, 5, 6, 7, 8, 9] (by decide) (by simp) rfl
    replace hp : Hp _ _ _ (pk74.R vk0_r s93 :: _ :: _ :: _ :: _ :: _ :: _ :: _ :: _ :: _ :: ow) := hp.optSome hs94
    obtain ⟨v95, hp⟩ := pk74_in hp
    replace hp : Hp _ _ _ (Res.obj 74 vk0_r [.int .i64 s93.1, .int .i64 s93.2.1, v95] :: Res.map (fun x : ByteArray => Value.string x) v95 s93.2.2 :: _ :: _ :: _ :: _ :: _ :: _ :: _ :: _ :: _ :: ow) := hp
    refine wpList_cut 8 (fun a w => Fr 142 a [(0, ok0), (1, .int .i64 now1), (5, v16), (7, .int .i64 i7), (8, .int .i64 (IntKind.i64.wrap (k0c_9 + (IntKind.i64.wrap (IntKind.u8.wrap ((gt q13.1 i7).2.1 - (IntKind.u8.wrap k0c_9))))))), (9, .int .i64 q76.1), (81, .bool (((iand .i64 q76.1 (1 : Int)) == (1 : Int)) && (decide (((mget q76.2.2.2.2.2.2.2.2.1 (IntKind.i64.wrap (k0c_9 + (IntKind.i64.wrap (IntKind.u8.wrap ((gt q13.1 i7).2.1 - (IntKind.u8.wrap k0c_9))))))).getD (0 : Int)) < (3 : Int)))))] ∧ Hp S w0 w (Res.obj 74 vk0_r [.int .i64 s93.1, .int .i64 s93.2.1, v95] :: Res.map (fun x : ByteArray => Value.string x) v95 s93.2.2 :: Res.obj 79 vk0_s [.int .i64 s89.1, .int .i64 s89.2.1, .int .i64 s89.2.2.1, .int .i64 s89.2.2.2.1, v91] :: Res.sl (Ek.pair Ek.str (Ek.pair Ek.bool (Ek.pair (Ek.int .i64) Ek.bool))) 81 v91 s89.2.2.2.2 :: Res.sl (Ek.pair (Ek.int .i64) (Ek.pair (Ek.int .i64) (Ek.pair (Ek.int .u8) (Ek.pair (Ek.int .u8) (Ek.pair Ek.bool Ek.str))))) 88 v79 q76.2.2.2.2.1 :: Res.sl (Ek.pair (Ek.int .i64) (Ek.pair (Ek.int .i64) (Ek.pair (Ek.int .u8) (Ek.pair (Ek.int .u8) (Ek.pair Ek.bool Ek.str))))) 88 v80 q76.2.2.2.2.2.1 :: Res.map (fun x : Int => Value.int .i64 x) v81 q76.2.2.2.2.2.2.2.2.1 :: Res.sl Ek.str 9 v82 q76.2.2.2.2.2.2.2.2.2.2.2.2.1 :: Res.sl (Ek.int .i64) 3 v83 q76.2.2.2.2.2.2.2.2.2.2.2.2.2.2 :: Res.obj 68 ok0 [.int .i64 q76.2.1, vk0_s, vk0_r, v79, v80, vk0_picks, .int .i64 q76.2.2.2.2.2.2.2.1, v81, .int .i64 q76.2.2.2.2.2.2.2.2.2.1, .int .i64 q76.2.2.2.2.2.2.2.2.2.2.1, .int .i64 q76.2.2.2.2.2.2.2.2.2.2.2.1, v82, .bool q76.2.2.2.2.2.2.2.2.2.2.2.2.2.1, v83] :: Res.sl (Ek.pair (Ek.int .u8) (Ek.pair (Ek.int .u8) (Ek.pair Ek.bool Ek.str))) 31 v16 q13.1 :: ow)) ?_ ?_
    ·
     rcases Bool.eq_false_or_eq_true ((iand .i64 q76.1 (1 : Int)) == (1 : Int)) with hb98 | hb98
     ·
      refine st_move hf (wantY hf rfl rfl hb98) rfl (by decide) ?_
      clear hf; intro a ha hf; clear ha
      refine st_nilV hf (by decide) (wantY hf rfl rfl hb98) rfl (hp.ob (i := 9) rfl) ?_
      clear hf; intro a ha hf; clear ha
      refine st_fa (o' := 7) hf (by decide) (off := 7) (sz := 1) (by kernel_rfl) (by decide) (wantY hf rfl rfl hb98) rfl (hp.ob (i := 9) rfl) rfl ?_
      clear hf; intro a ha hf; clear ha
      refine st_ldO (u := v81) hf (by decide) pl64 (wantY hf rfl rfl hb98) rfl (hp.ob (i := 9) rfl) rfl ?_
      clear hf; intro a ha hf; clear ha
      refine st_move hf (wantY hf rfl rfl hb98) rfl (by decide) ?_
      clear hf; intro a ha hf; clear ha
      refine st_lookup (enc := (fun x : Int => Value.int .i64 x)) (z0 := (0 : Int)) (ok := false) hf (by decide) Try.underlying64 Try.underlying3 (by kernel_rfl) hp (i := 6) rfl (wantY hf rfl rfl hb98) rfl rfl ?_
      clear hf; intro a ha hf; clear ha
      replace hf : Fr _ _ ((79, .int .i64 ((mget q76.2.2.2.2.2.2.2.2.1 (IntKind.i64.wrap (k0c_9 + (IntKind.i64.wrap (IntKind.u8.wrap ((gt q13.1 i7).2.1 - (IntKind.u8.wrap k0c_9))))))).getD (0 : Int))) :: _) := hf
      refine st_ilss hf (by decide) (wantY hf rfl rfl hb98) rfl rfl ?_
      clear hf; intro a ha hf; clear ha
      refine st_pick (v := .bool (decide (((mget q76.2.2.2.2.2.2.2.2.1 (IntKind.i64.wrap (k0c_9 + (IntKind.i64.wrap (IntKind.u8.wrap ((gt q13.1 i7).2.1 - (IntKind.u8.wrap k0c_9))))))).getD (0 : Int)) < (3 : Int)))) hf rfl rfl (fun hb' => ?_) (fun hb' => ?_) (by decide) ?_
      · rfl
      · exact absurd (hb98.symm.trans hb') (by decide)
      clear hf; intro a ha hf; clear ha
      refine st_nil hf (th_n ?_)
      exact ⟨hf.sub ⟨rfl, rfl, rfl, rfl, rfl, rfl, (by rw [hb98]; rfl), trivial⟩, hp⟩
     refine st_skip hf (wantN hf rfl rfl hb98) rfl (by decide) ?_ rfl
     clear hf; intro a hf
     refine st_skip hf (wantN hf rfl rfl hb98) rfl (by decide) ?_ rfl
     clear hf; intro a hf
     refine st_skip hf (wantN hf rfl rfl hb98) rfl (by decide) ?_ rfl
     clear hf; intro a hf
     refine st_skip hf (wantN hf rfl rfl hb98) rfl (by decide) ?_ rfl
     clear hf; intro a hf
     refine st_skip hf (wantN hf rfl rfl hb98) rfl (by decide) ?_ rfl
     clear hf; intro a hf
     refine st_skip hf (wantN hf rfl rfl hb98) rfl (by decide) ?_ rfl
     clear hf; intro a hf
     refine st_skip hf (wantN hf rfl rfl hb98) rfl (by decide) ?_ rfl
     clear hf; intro a hf
     refine st_pick (v := .bool false) hf rfl rfl (fun hb' => ?_) (fun hb' => ?_) (by decide) ?_
     · exact absurd (hb98.symm.trans hb') (by decide)
     · rfl
     clear hf; intro a ha hf; clear ha
     refine st_nil hf (th_n ?_)
     exact ⟨hf.sub ⟨rfl, rfl, rfl, rfl, rfl, rfl, (by rw [hb98]; rfl), trivial⟩, hp⟩
    rintro a w ⟨hf, hp⟩
    refine st_nil hf ?_
    refine th_n ?_
    refine wp_if hf rfl (fun hb => ?_) (fun hb => ?_)
    ·
     replace h := ifT h hb
     refine wp_seq ?_
     obtain ⟨S99, hp100, rd101, up102, bk103⟩ := Hp.lendO hp (i := 9) rfl
     have rl104 := rd101
     have rl105 := ((hk0_picks.now hp).mono up102)
     refine wp_cutN (fun a w => Fr 142 a [(0, ok0), (1, .int .i64 now1), (5, v16), (7, .int .i64 i7)] ∧ Hp S w0 w (Res.obj 68 ok0 [.int .i64 q76.2.1, vk0_s, vk0_r, v79, v80, vk0_picks, .int .i64 q76.2.2.2.2.2.2.2.1, v81, .int .i64 q76.2.2.2.2.2.2.2.2.2.1, .int .i64 q76.2.2.2.2.2.2.2.2.2.2.1, .int .i64 q76.2.2.2.2.2.2.2.2.2.2.2.1, v82, .bool q76.2.2.2.2.2.2.2.2.2.2.2.2.2.1, v83] :: Res.obj 74 vk0_r [.int .i64 s93.1, .int .i64 s93.2.1, v95] :: Res.map (fun x : ByteArray => Value.string x) v95 s93.2.2 :: Res.obj 79 vk0_s [.int .i64 s89.1, .int .i64 s89.2.1, .int .i64 s89.2.2.1, .int .i64 s89.2.2.2.1, v91] :: Res.sl (Ek.pair Ek.str (Ek.pair Ek.bool (Ek.pair (Ek.int .i64) Ek.bool))) 81 v91 s89.2.2.2.2 :: Res.sl (Ek.pair (Ek.int .i64) (Ek.pair (Ek.int .i64) (Ek.pair (Ek.int .u8) (Ek.pair (Ek.int .u8) (Ek.pair Ek.bool Ek.str))))) 88 v79 q76.2.2.2.2.1 :: Res.sl (Ek.pair (Ek.int .i64) (Ek.pair (Ek.int .i64) (Ek.pair (Ek.int .u8) (Ek.pair (Ek.int .u8) (Ek.pair Ek.bool Ek.str))))) 88 v80 q76.2.2.2.2.2.1 :: Res.map (fun x : Int => Value.int .i64 x) v81 (mput q76.2.2.2.2.2.2.2.2.1 (IntKind.i64.wrap (k0c_9 + (IntKind.i64.wrap (IntKind.u8.wrap ((gt q13.1 i7).2.1 - (IntKind.u8.wrap k0c_9)))))) (IntKind.i64.wrap (((mget q76.2.2.2.2.2.2.2.2.1 (IntKind.i64.wrap (k0c_9 + (IntKind.i64.wrap (IntKind.u8.wrap ((gt q13.1 i7).2.1 - (IntKind.u8.wrap k0c_9))))))).getD (0 : Int)) + (1 : Int)))) :: Res.sl Ek.str 9 v82 q76.2.2.2.2.2.2.2.2.2.2.2.2.1 :: Res.sl (Ek.int .i64) 3 v83 q76.2.2.2.2.2.2.2.2.2.2.2.2.2.2 :: Res.sl (Ek.pair (Ek.int .u8) (Ek.pair (Ek.int .u8) (Ek.pair Ek.bool Ek.str))) 31 v16 q13.1 :: ow)) ?_ ?_
     ·
      have hp := hp100.same (Same.drew w)
      refine dr_begin' _ (fun w' => ∃ l, Hp S99 w w' l) [] (by kernel_rfl) ?_
      refine dr_takeK 0 (ok0) rfl hf rfl (fun w ⟨_, hp⟩ => ?_) ⟨_, hp⟩ ?_
      · exact st_move hf rfl rfl (by decide) tk
      clear hf; intro a hf
      refine dr_nilV 1 rfl (by kernel_rfl) (by kernel_rfl) (by kernel_rfl) hf (by decide) rfl rfl (rl104.ob hp) ?_
      clear hf; intro a hf
      refine dr_takeK 2 (optr ok0 7) rfl hf rfl (fun w ⟨_, hp⟩ => ?_) ⟨_, hp⟩ ?_
      · exact st_fa (o' := 7) hf (by decide) (off := 7) (sz := 1) (by kernel_rfl) (by decide) rfl rfl (rl104.ob hp) rfl tk
      clear hf; intro a hf
      refine dr_takeK 3 (v81) rfl hf rfl (fun w ⟨_, hp⟩ => ?_) ⟨_, hp⟩ ?_
      · exact st_ldO (u := v81) hf (by decide) pl64 rfl rfl (rl104.ob hp) rfl tk
      clear hf; intro a hf
      refine dr_takeK 4 (.int .i64 (IntKind.i64.wrap (k0c_9 + (IntKind.i64.wrap (IntKind.u8.wrap ((gt q13.1 i7).2.1 - (IntKind.u8.wrap k0c_9))))))) rfl hf rfl (fun w ⟨_, hp⟩ => ?_) ⟨_, hp⟩ ?_
      · exact st_move hf rfl rfl (by decide) tk
      clear hf; intro a hf
      refine dr_takeK 5 (ok0) rfl hf rfl (fun w ⟨_, hp⟩ => ?_) ⟨_, hp⟩ ?_
      · exact st_move hf rfl rfl (by decide) tk
      clear hf; intro a hf
      refine dr_nilV 6 rfl (by kernel_rfl) (by kernel_rfl) (by kernel_rfl) hf (by decide) rfl rfl (rl104.ob hp) ?_
      clear hf; intro a hf
      refine dr_takeK 7 (optr ok0 7) rfl hf rfl (fun w ⟨_, hp⟩ => ?_) ⟨_, hp⟩ ?_
      · exact st_fa (o' := 7) hf (by decide) (off := 7) (sz := 1) (by kernel_rfl) (by decide) rfl rfl (rl104.ob hp) rfl tk
      clear hf; intro a hf
      refine dr_takeK 8 (v81) rfl hf rfl (fun w ⟨_, hp⟩ => ?_) ⟨_, hp⟩ ?_
      · exact st_ldO (u := v81) hf (by decide) pl64 rfl rfl (rl104.ob hp) rfl tk
      clear hf; intro a hf
      refine dr_takeK 9 (.int .i64 (IntKind.i64.wrap (k0c_9 + (IntKind.i64.wrap (IntKind.u8.wrap ((gt q13.1 i7).2.1 - (IntKind.u8.wrap k0c_9))))))) rfl hf rfl (fun w ⟨_, hp⟩ => ?_) ⟨_, hp⟩ ?_
      · exact st_move hf rfl rfl (by decide) tk
      clear hf; intro a hf
      refine dr_one 10 rfl (by kernel_rfl) ?_
      refine st_lookup (enc := (fun x : Int => Value.int .i64 x)) (z0 := (0 : Int)) (ok := false) hf (by decide) Try.underlying64 Try.underlying3 (by kernel_rfl) hp (i := 6) rfl rfl rfl rfl ?_
      clear hf; intro a ha hf; clear ha
      replace hf : Fr _ _ ((92, .int .i64 ((mget q76.2.2.2.2.2.2.2.2.1 (IntKind.i64.wrap (k0c_9 + (IntKind.i64.wrap (IntKind.u8.wrap ((gt q13.1 i7).2.1 - (IntKind.u8.wrap k0c_9))))))).getD (0 : Int))) :: _) := hf
      refine nx hf (fun _ _ => ⟨_, hp⟩) ?_
      refine dr_takeK 11 (.int .i64 (IntKind.i64.wrap (((mget q76.2.2.2.2.2.2.2.2.1 (IntKind.i64.wrap (k0c_9 + (IntKind.i64.wrap (IntKind.u8.wrap ((gt q13.1 i7).2.1 - (IntKind.u8.wrap k0c_9))))))).getD (0 : Int)) + (1 : Int)))) rfl hf rfl (fun w ⟨_, hp⟩ => ?_) ⟨_, hp⟩ ?_
      · exact st_iadd hf (by decide) rfl rfl rfl tk
      clear hf; intro a hf
      refine dr_one 12 rfl (by kernel_rfl) ?_
      refine st_mapPut (enc := (fun x : Int => Value.int .i64 x)) (b := (IntKind.i64.wrap (((mget q76.2.2.2.2.2.2.2.2.1 (IntKind.i64.wrap (k0c_9 + (IntKind.i64.wrap (IntKind.u8.wrap ((gt q13.1 i7).2.1 - (IntKind.u8.wrap k0c_9))))))).getD (0 : Int)) + (1 : Int)))) hf Try.underlying64 Try.underlying3 hp (i := 6) rfl rfl rfl rfl rfl ?_
      clear hf; intro a w hf hp0; clear hp; have hp := hp0; clear hp0
      replace hp : Hp _ _ _ (_ :: _ :: _ :: _ :: _ :: _ :: Res.map (fun x : Int => Value.int .i64 x) v81 (mput q76.2.2.2.2.2.2.2.2.1 (IntKind.i64.wrap (k0c_9 + (IntKind.i64.wrap (IntKind.u8.wrap ((gt q13.1 i7).2.1 - (IntKind.u8.wrap k0c_9)))))) (IntKind.i64.wrap (((mget q76.2.2.2.2.2.2.2.2.1 (IntKind.i64.wrap (k0c_9 + (IntKind.i64.wrap (IntKind.u8.wrap ((gt q13.1 i7).2.1 - (IntKind.u8.wrap k0c_9))))))).getD (0 : Int)) + (1 : Int)))) :: _ :: _ :: _ :: ow) := hp
      refine nx hf (fun _ _ => ⟨_, hp⟩) ?_
      refine dr_end (by kernel_rfl) ?_ _
      have hp := bk103 _ _ hp
      exact ⟨hf.sub ⟨rfl, rfl, rfl, rfl, trivial⟩, hp⟩
     rintro a w ⟨hf, hp⟩
     refine th_n ?_
     refine wp_exit ?_
     refine th_e ?_
     refine ib_same ?_
     refine th_n ?_
     refine wp_reg ?_
     refine st_move hf rfl rfl (by decide) ?_
     clear hf; intro a ha hf; clear ha
     refine st_iadd hf (by decide) rfl rfl rfl ?_
     clear hf; intro a ha hf; clear ha
     refine st_assign hf rfl rfl (by decide) ?_
     clear hf; intro a ha hf; clear ha
     refine st_nil hf ?_
     obtain rfl := Option.some.inj h
     have hp : Hp _ _ _ (_ :: _ :: _ :: _ :: _ :: _ :: _ :: _ :: _ :: Res.obj 68 ok0 [.int .i64 q76.2.1, vk0_s, vk0_r, v79, v80, vk0_picks, .int .i64 q76.2.2.2.2.2.2.2.1, v81, .int .i64 q76.2.2.2.2.2.2.2.2.2.1, .int .i64 q76.2.2.2.2.2.2.2.2.2.2.1, .int .i64 q76.2.2.2.2.2.2.2.2.2.2.2.1, v82, .bool q76.2.2.2.2.2.2.2.2.2.2.2.2.2.1, v83] :: _ :: ow) := Hp.sel (pre := [Res.obj 68 ok0 [.int .i64 q76.2.1, vk0_s, vk0_r, v79, v80, vk0_picks, .int .i64 q76.2.2.2.2.2.2.2.1, v81, .int .i64 q76.2.2.2.2.2.2.2.2.2.1, .int .i64 q76.2.2.2.2.2.2.2.2.2.2.1, .int .i64 q76.2.2.2.2.2.2.2.2.2.2.2.1, v82, .bool q76.2.2.2.2.2.2.2.2.2.2.2.2.2.1, v83], Res.obj 74 vk0_r [.int .i64 s93.1, .int .i64 s93.2.1, v95], Res.map (fun x : ByteArray => Value.string x) v95 s93.2.2, Res.obj 79 vk0_s [.int .i64 s89.1, .int .i64 s89.2.1, .int .i64 s89.2.2.1, .int .i64 s89.2.2.2.1, v91], Res.sl (Ek.pair Ek.str (Ek.pair Ek.bool (Ek.pair (Ek.int .i64) Ek.bool))) 81 v91 s89.2.2.2.2, Res.sl (Ek.pair (Ek.int .i64) (Ek.pair (Ek.int .i64) (Ek.pair (Ek.int .u8) (Ek.pair (Ek.int .u8) (Ek.pair Ek.bool Ek.str))))) 88 v79 q76.2.2.2.2.1, Res.sl (Ek.pair (Ek.int .i64) (Ek.pair (Ek.int .i64) (Ek.pair (Ek.int .u8) (Ek.pair (Ek.int .u8) (Ek.pair Ek.bool Ek.str))))) 88 v80 q76.2.2.2.2.2.1, Res.map (fun x : Int => Value.int .i64 x) v81 (mput q76.2.2.2.2.2.2.2.2.1 (IntKind.i64.wrap (k0c_9 + (IntKind.i64.wrap (IntKind.u8.wrap ((gt q13.1 i7).2.1 - (IntKind.u8.wrap k0c_9)))))) (IntKind.i64.wrap (((mget q76.2.2.2.2.2.2.2.2.1 (IntKind.i64.wrap (k0c_9 + (IntKind.i64.wrap (IntKind.u8.wrap ((gt q13.1 i7).2.1 - (IntKind.u8.wrap k0c_9))))))).getD (0 : Int)) + (1 : Int)))), Res.sl Ek.str 9 v82 q76.2.2.2.2.2.2.2.2.2.2.2.2.1, Res.sl (Ek.int .i64) 3 v83 q76.2.2.2.2.2.2.2.2.2.2.2.2.2.2, Res.sl (Ek.pair (Ek.int .u8) (Ek.pair (Ek.int .u8) (Ek.pair Ek.bool Ek.str))) 31 v16 q13.1]) (tail := ow) (rs' := [Res.sl (Ek.pair Ek.str (Ek.pair Ek.bool (Ek.pair (Ek.int .i64) Ek.bool))) 81 v91 s89.2.2.2.2, Res.obj 79 vk0_s [.int .i64 s89.1, .int .i64 s89.2.1, .int .i64 s89.2.2.1, .int .i64 s89.2.2.2.1, v91], Res.map (fun x : ByteArray => Value.string x) v95 s93.2.2, Res.obj 74 vk0_r [.int .i64 s93.1, .int .i64 s93.2.1, v95], Res.sl (Ek.pair (Ek.int .i64) (Ek.pair (Ek.int .i64) (Ek.pair (Ek.int .u8) (Ek.pair (Ek.int .u8) (Ek.pair Ek.bool Ek.str))))) 88 v79 q76.2.2.2.2.1, Res.sl (Ek.pair (Ek.int .i64) (Ek.pair (Ek.int .i64) (Ek.pair (Ek.int .u8) (Ek.pair (Ek.int .u8) (Ek.pair Ek.bool Ek.str))))) 88 v80 q76.2.2.2.2.2.1, Res.map (fun x : Int => Value.int .i64 x) v81 (mput q76.2.2.2.2.2.2.2.2.1 (IntKind.i64.wrap (k0c_9 + (IntKind.i64.wrap (IntKind.u8.wrap ((gt q13.1 i7).2.1 - (IntKind.u8.wrap k0c_9)))))) (IntKind.i64.wrap (((mget q76.2.2.2.2.2.2.2.2.1 (IntKind.i64.wrap (k0c_9 + (IntKind.i64.wrap (IntKind.u8.wrap ((gt q13.1 i7).2.1 - (IntKind.u8.wrap k0c_9))))))).getD (0 : Int)) + (1 : Int)))), Res.sl Ek.str 9 v82 q76.2.2.2.2.2.2.2.2.2.2.2.2.1, Res.sl (Ek.int .i64) 3 v83 q76.2.2.2.2.2.2.2.2.2.2.2.2.2.2, Res.obj 68 ok0 [.int .i64 q76.2.1, vk0_s, vk0_r, v79, v80, vk0_picks, .int .i64 q76.2.2.2.2.2.2.2.1, v81, .int .i64 q76.2.2.2.2.2.2.2.2.2.1, .int .i64 q76.2.2.2.2.2.2.2.2.2.2.1, .int .i64 q76.2.2.2.2.2.2.2.2.2.2.2.1, v82, .bool q76.2.2.2.2.2.2.2.2.2.2.2.2.2.1, v83], Res.sl (Ek.pair (Ek.int .u8) (Ek.pair (Ek.int .u8) (Ek.pair Ek.bool Ek.str))) 31 v16 q13.1]) hp [4, 3, 2, 1, 5, 6, 7, 8, 9, 0, 10] (by decide) (by simp) rfl
     exact rnd_l ⟨_, _, _, _, _, _, _, hf.sub ⟨rfl, rfl, rfl, rfl, trivial⟩, hp⟩
    replace h := ifF h hb
    refine wp_skip ?_
    refine th_n ?_
    refine wp_seq ?_
    obtain ⟨S106, hp107, rd108, up109, bk110⟩ := Hp.lendO hp (i := 9) rfl
    obtain ⟨S111, hp112, rd113, up114, bk115⟩ := Hp.lendS hp107 (i := 9) rfl
    have rl116 := ((rd108.now hp107).mono up114)
    have rl117 := ((((hk0_picks.now hp).mono up109).now hp107).mono up114)
    have rl118 := rd113
    obtain ⟨hc119, h⟩ := chk h
    obtain ⟨hc122, h⟩ := chk h
    refine wp_cutN (fun a w => ∃ (v120 : Value) (v123 : Value), Fr 142 a [(0, ok0), (1, .int .i64 now1), (5, v16), (7, .int .i64 i7), (8, .int .i64 (IntKind.i64.wrap (k0c_9 + (IntKind.i64.wrap (IntKind.u8.wrap ((gt q13.1 i7).2.1 - (IntKind.u8.wrap k0c_9))))))), (9, .int .i64 q76.1)] ∧ Hp S w0 w (Res.obj 68 ok0 [.int .i64 q76.2.1, vk0_s, vk0_r, v123, v80, vk0_picks, .int .i64 q76.2.2.2.2.2.2.2.1, v81, .int .i64 q76.2.2.2.2.2.2.2.2.2.1, .int .i64 q76.2.2.2.2.2.2.2.2.2.2.1, .int .i64 q76.2.2.2.2.2.2.2.2.2.2.2.1, v82, .bool q76.2.2.2.2.2.2.2.2.2.2.2.2.2.1, v83] :: Res.sl (Ek.pair (Ek.int .u8) (Ek.pair (Ek.int .u8) (Ek.pair Ek.bool Ek.str))) 31 v16 q13.1 :: Res.sl (Ek.pair (Ek.int .i64) (Ek.pair (Ek.int .i64) (Ek.pair (Ek.int .u8) (Ek.pair (Ek.int .u8) (Ek.pair Ek.bool Ek.str))))) 88 v120 ([((IntKind.i64.wrap ((IntKind.i64.wrap (now1 + (1 : Int))) + (iand .i64 (ishr .i64 q76.1 (1 : Int)) (3 : Int)))), (IntKind.i64.wrap (k0c_9 + (IntKind.i64.wrap (IntKind.u8.wrap ((gt q13.1 i7).2.1 - (IntKind.u8.wrap k0c_9)))))), ((gt q13.1 i7).1, (gt q13.1 i7).2.1, (gt q13.1 i7).2.2.1, (gt q13.1 i7).2.2.2))]) :: Res.obj 74 vk0_r [.int .i64 s93.1, .int .i64 s93.2.1, v95] :: Res.map (fun x : ByteArray => Value.string x) v95 s93.2.2 :: Res.obj 79 vk0_s [.int .i64 s89.1, .int .i64 s89.2.1, .int .i64 s89.2.2.1, .int .i64 s89.2.2.2.1, v91] :: Res.sl (Ek.pair Ek.str (Ek.pair Ek.bool (Ek.pair (Ek.int .i64) Ek.bool))) 81 v91 s89.2.2.2.2 :: Res.sl (Ek.pair (Ek.int .i64) (Ek.pair (Ek.int .i64) (Ek.pair (Ek.int .u8) (Ek.pair (Ek.int .u8) (Ek.pair Ek.bool Ek.str))))) 88 v123 (q76.2.2.2.2.1 ++ [((IntKind.i64.wrap ((IntKind.i64.wrap (now1 + (1 : Int))) + (iand .i64 (ishr .i64 q76.1 (1 : Int)) (3 : Int)))), (IntKind.i64.wrap (k0c_9 + (IntKind.i64.wrap (IntKind.u8.wrap ((gt q13.1 i7).2.1 - (IntKind.u8.wrap k0c_9)))))), ((gt q13.1 i7).1, (gt q13.1 i7).2.1, (gt q13.1 i7).2.2.1, (gt q13.1 i7).2.2.2))]) :: Res.sl (Ek.pair (Ek.int .i64) (Ek.pair (Ek.int .i64) (Ek.pair (Ek.int .u8) (Ek.pair (Ek.int .u8) (Ek.pair Ek.bool Ek.str))))) 88 v80 q76.2.2.2.2.2.1 :: Res.map (fun x : Int => Value.int .i64 x) v81 q76.2.2.2.2.2.2.2.2.1 :: Res.sl Ek.str 9 v82 q76.2.2.2.2.2.2.2.2.2.2.2.2.1 :: Res.sl (Ek.int .i64) 3 v83 q76.2.2.2.2.2.2.2.2.2.2.2.2.2.2 :: ow)) ?_ ?_
    ·
     have hp := hp112.same (Same.drew w)
     refine dr_begin' _ (fun w' => ∃ l, Hp S111 w w' l) [21] (by kernel_rfl) ?_
     refine dr_takeP 0 (ok0) rfl (by kernel_rfl) (by kernel_rfl) (by kernel_rfl) rfl rfl hf (by decide) rfl (fun w => ?_) ?_
     ·
      refine st_move hf rfl rfl (by decide) ?_
      clear hf; intro a ha hf
      exact st_nil hf (th_n ⟨ha, rfl⟩)
     clear hf; intro a hf
     refine dr_takeP 1 (ok0) rfl (by kernel_rfl) (by kernel_rfl) (by kernel_rfl) rfl rfl hf (by decide) rfl (fun w => ?_) ?_
     ·
      refine st_move hf rfl rfl (by decide) ?_
      clear hf; intro a ha hf
      exact st_nil hf (th_n ⟨ha, rfl⟩)
     clear hf; intro a hf
     refine dr_nilV 2 rfl (by kernel_rfl) (by kernel_rfl) (by kernel_rfl) hf (by decide) rfl rfl (rl116.mono fun _ _ => trivial) ?_
     clear hf; intro a hf
     refine dr_takeP 3 (optr ok0 3) rfl (by kernel_rfl) (by kernel_rfl) (by kernel_rfl) rfl rfl hf (by decide) rfl (fun w => ?_) ?_
     ·
      refine st_fa (o' := 3) hf (by decide) (off := 3) (sz := 1) (by kernel_rfl) (by decide) rfl rfl (rl116.mono fun _ _ => trivial) rfl ?_
      clear hf; intro a ha hf
      exact st_nil hf (th_n ⟨ha, rfl⟩)
     clear hf; intro a hf
     refine dr_take2 4 (v79) rfl (by kernel_rfl) (by kernel_rfl) (by kernel_rfl) (by kernel_rfl) (by kernel_rfl) rfl rfl hf (by decide) rfl (fun w hp => ?_) ⟨_, hp⟩ ?_
     ·
      obtain ⟨_, hp⟩ := hp
      refine st_ldO (u := v79) hf (by decide) pl66 rfl rfl (rl116.ob hp) rfl ?_
      clear hf; intro a ha hf
      exact st_nil hf (th_n ⟨ha, rfl⟩)
     clear hf; intro a hf
     refine dr_takeP 5 (.int .i64 now1) rfl (by kernel_rfl) (by kernel_rfl) (by kernel_rfl) rfl rfl hf (by decide) rfl (fun w => ?_) ?_
     ·
      refine st_move hf rfl rfl (by decide) ?_
      clear hf; intro a ha hf
      exact st_nil hf (th_n ⟨ha, rfl⟩)
     clear hf; intro a hf
     refine dr_takeP 6 (.int .i64 (IntKind.i64.wrap (now1 + (1 : Int)))) rfl (by kernel_rfl) (by kernel_rfl) (by kernel_rfl) rfl rfl hf (by decide) rfl (fun w => ?_) ?_
     ·
      refine st_iadd hf (by decide) rfl rfl rfl ?_
      clear hf; intro a ha hf
      exact st_nil hf (th_n ⟨ha, rfl⟩)
     clear hf; intro a hf
     refine dr_takeP 7 (.int .i64 q76.1) rfl (by kernel_rfl) (by kernel_rfl) (by kernel_rfl) rfl rfl hf (by decide) rfl (fun w => ?_) ?_
     ·
      refine st_move hf rfl rfl (by decide) ?_
      clear hf; intro a ha hf
      exact st_nil hf (th_n ⟨ha, rfl⟩)
     clear hf; intro a hf
     refine dr_takeP 8 (.int .i64 (ishr .i64 q76.1 (1 : Int))) rfl (by kernel_rfl) (by kernel_rfl) (by kernel_rfl) rfl rfl hf (by decide) rfl (fun w => ?_) ?_
     ·
      refine st_ishr hf (by decide) rfl rfl rfl (by decide) ?_
      clear hf; intro a ha hf
      exact st_nil hf (th_n ⟨ha, rfl⟩)
     clear hf; intro a hf
     refine dr_takeP 9 (.int .i64 (iand .i64 (ishr .i64 q76.1 (1 : Int)) (3 : Int))) rfl (by kernel_rfl) (by kernel_rfl) (by kernel_rfl) rfl rfl hf (by decide) rfl (fun w => ?_) ?_
     ·
      refine st_iand hf (by decide) rfl rfl rfl ?_
      clear hf; intro a ha hf
      exact st_nil hf (th_n ⟨ha, rfl⟩)
     clear hf; intro a hf
     refine dr_takeP 10 (.int .i64 (IntKind.i64.wrap ((IntKind.i64.wrap (now1 + (1 : Int))) + (iand .i64 (ishr .i64 q76.1 (1 : Int)) (3 : Int))))) rfl (by kernel_rfl) (by kernel_rfl) (by kernel_rfl) rfl rfl hf (by decide) rfl (fun w => ?_) ?_
     ·
      refine st_iadd hf (by decide) rfl rfl rfl ?_
      clear hf; intro a ha hf
      exact st_nil hf (th_n ⟨ha, rfl⟩)
     clear hf; intro a hf
     refine dr_takeP 11 (.int .i64 (IntKind.i64.wrap (k0c_9 + (IntKind.i64.wrap (IntKind.u8.wrap ((gt q13.1 i7).2.1 - (IntKind.u8.wrap k0c_9))))))) rfl (by kernel_rfl) (by kernel_rfl) (by kernel_rfl) rfl rfl hf (by decide) rfl (fun w => ?_) ?_
     ·
      refine st_move hf rfl rfl (by decide) ?_
      clear hf; intro a ha hf
      exact st_nil hf (th_n ⟨ha, rfl⟩)
     clear hf; intro a hf
     refine dr_takeP 12 (v16) rfl (by kernel_rfl) (by kernel_rfl) (by kernel_rfl) rfl rfl hf (by decide) rfl (fun w => ?_) ?_
     ·
      refine st_move hf rfl rfl (by decide) ?_
      clear hf; intro a ha hf
      exact st_nil hf (th_n ⟨ha, rfl⟩)
     clear hf; intro a hf
     refine dr_takeP 13 (.int .i64 i7) rfl (by kernel_rfl) (by kernel_rfl) (by kernel_rfl) rfl rfl hf (by decide) rfl (fun w => ?_) ?_
     ·
      refine st_move hf rfl rfl (by decide) ?_
      clear hf; intro a ha hf
      exact st_nil hf (th_n ⟨ha, rfl⟩)
     clear hf; intro a hf
     refine dr_takeP 14 (eptr v16 i7 4) rfl (by kernel_rfl) (by kernel_rfl) (by kernel_rfl) rfl rfl hf (by decide) rfl (fun w => ?_) ?_
     ·
      refine st_index (E := (Ek.pair (Ek.int .u8) (Ek.pair (Ek.int .u8) (Ek.pair Ek.bool Ek.str)))) hf (by decide) Try.underlying54 elt31 rfl rfl rfl rl118.any hc119.1 hc119.2 ?_
      clear hf; intro a ha hf
      exact st_nil hf (th_n ⟨ha, rfl⟩)
     clear hf; intro a hf
     refine dr_take2 15 (.agg #[.int .u8 ((gt q13.1 i7).1), .int .u8 ((gt q13.1 i7).2.1), .bool ((gt q13.1 i7).2.2.1), .string ((gt q13.1 i7).2.2.2)]) rfl (by kernel_rfl) (by kernel_rfl) (by kernel_rfl) (by kernel_rfl) (by kernel_rfl) rfl rfl hf (by decide) rfl (fun w hp => ?_) ⟨_, hp⟩ ?_
     ·
      obtain ⟨_, hp⟩ := hp
      refine st_ldQX (F := (Ek.pair (Ek.int .u8) (Ek.pair (Ek.int .u8) (Ek.pair Ek.bool Ek.str)))) (yv := (gt q13.1 i7)) (m := 4) (us := [.int .u8 ((gt q13.1 i7).1), .int .u8 ((gt q13.1 i7).2.1), .bool ((gt q13.1 i7).2.2.1), .string ((gt q13.1 i7).2.2.2)]) hf (by decide) (by kernel_rfl) rfl (fun cs9 h9 => by obtain ⟨_, _, rfl, rfl, ⟨_, _, rfl, rfl, ⟨_, _, rfl, rfl, rfl⟩⟩⟩ := h9; rfl) rfl rfl (Part.whole (rl118.sl hp) hc119.1 hc119.2) ?_
      clear hf; intro a ha hf
      exact st_nil hf (th_n ⟨ha, rfl⟩)
     clear hf; intro a hf
     refine dr_takeP 16 (.agg #[.int .i64 (IntKind.i64.wrap ((IntKind.i64.wrap (now1 + (1 : Int))) + (iand .i64 (ishr .i64 q76.1 (1 : Int)) (3 : Int)))), .int .i64 (IntKind.i64.wrap (k0c_9 + (IntKind.i64.wrap (IntKind.u8.wrap ((gt q13.1 i7).2.1 - (IntKind.u8.wrap k0c_9)))))), .int .u8 ((gt q13.1 i7).1), .int .u8 ((gt q13.1 i7).2.1), .bool ((gt q13.1 i7).2.2.1), .string ((gt q13.1 i7).2.2.2)]) rfl (by kernel_rfl) (by kernel_rfl) (by kernel_rfl) rfl rfl hf (by decide) rfl (fun w => ?_) ?_
     ·
      refine st_buildA (vals := [(0, .int .i64 (IntKind.i64.wrap ((IntKind.i64.wrap (now1 + (1 : Int))) + (iand .i64 (ishr .i64 q76.1 (1 : Int)) (3 : Int))))), (1, .int .i64 (IntKind.i64.wrap (k0c_9 + (IntKind.i64.wrap (IntKind.u8.wrap ((gt q13.1 i7).2.1 - (IntKind.u8.wrap k0c_9))))))), (2, .agg #[.int .u8 ((gt q13.1 i7).1), .int .u8 ((gt q13.1 i7).2.1), .bool ((gt q13.1 i7).2.2.1), .string ((gt q13.1 i7).2.2.2)])]) (cells := [.int .i64 (IntKind.i64.wrap ((IntKind.i64.wrap (now1 + (1 : Int))) + (iand .i64 (ishr .i64 q76.1 (1 : Int)) (3 : Int)))), .int .i64 (IntKind.i64.wrap (k0c_9 + (IntKind.i64.wrap (IntKind.u8.wrap ((gt q13.1 i7).2.1 - (IntKind.u8.wrap k0c_9)))))), .int .u8 ((gt q13.1 i7).1), .int .u8 ((gt q13.1 i7).2.1), .bool ((gt q13.1 i7).2.2.1), .string ((gt q13.1 i7).2.2.2)]) hf (by decide) rfl (by simp [hf.ev (x := (Operand.tmp 104)) rfl, hf.ev (x := (Operand.tmp 105)) rfl, hf.ev (x := (Operand.tmp 109)) rfl]) (fun w => by kernel_rfl) ?_
      clear hf; intro a ha hf
      exact st_nil hf (th_n ⟨ha, rfl⟩)
     clear hf; intro a hf
     refine dr_one 17 rfl (by kernel_rfl) ?_
     refine st_build (E := (Ek.pair (Ek.int .i64) (Ek.pair (Ek.int .i64) (Ek.pair (Ek.int .u8) (Ek.pair (Ek.int .u8) (Ek.pair Ek.bool Ek.str)))))) (xs := [((IntKind.i64.wrap ((IntKind.i64.wrap (now1 + (1 : Int))) + (iand .i64 (ishr .i64 q76.1 (1 : Int)) (3 : Int)))), (IntKind.i64.wrap (k0c_9 + (IntKind.i64.wrap (IntKind.u8.wrap ((gt q13.1 i7).2.1 - (IntKind.u8.wrap k0c_9)))))), ((gt q13.1 i7).1, (gt q13.1 i7).2.1, (gt q13.1 i7).2.2.1, (gt q13.1 i7).2.2.2))]) hf (by decide) elt88 Try.underlying66 hp (vals := #[(0, .agg #[.int .i64 (IntKind.i64.wrap ((IntKind.i64.wrap (now1 + (1 : Int))) + (iand .i64 (ishr .i64 q76.1 (1 : Int)) (3 : Int)))), .int .i64 (IntKind.i64.wrap (k0c_9 + (IntKind.i64.wrap (IntKind.u8.wrap ((gt q13.1 i7).2.1 - (IntKind.u8.wrap k0c_9)))))), .int .u8 ((gt q13.1 i7).1), .int .u8 ((gt q13.1 i7).2.1), .bool ((gt q13.1 i7).2.2.1), .string ((gt q13.1 i7).2.2.2)])]) (cells := #[.int .i64 (IntKind.i64.wrap ((IntKind.i64.wrap (now1 + (1 : Int))) + (iand .i64 (ishr .i64 q76.1 (1 : Int)) (3 : Int)))), .int .i64 (IntKind.i64.wrap (k0c_9 + (IntKind.i64.wrap (IntKind.u8.wrap ((gt q13.1 i7).2.1 - (IntKind.u8.wrap k0c_9)))))), .int .u8 ((gt q13.1 i7).1), .int .u8 ((gt q13.1 i7).2.1), .bool ((gt q13.1 i7).2.2.1), .string ((gt q13.1 i7).2.2.2)]) rfl (by simp [hf.ev (x := (Operand.tmp 110)) rfl]) (by decide) (by decide) (z := .agg #[.int .i64 0, .int .i64 0, .int .u8 0, .int .u8 0, .bool false, .string ByteArray.empty]) (by kernel_rfl) (by kernel_rfl) rfl (reps_cons (cs := [.int .i64 (IntKind.i64.wrap ((IntKind.i64.wrap (now1 + (1 : Int))) + (iand .i64 (ishr .i64 q76.1 (1 : Int)) (3 : Int)))), .int .i64 (IntKind.i64.wrap (k0c_9 + (IntKind.i64.wrap (IntKind.u8.wrap ((gt q13.1 i7).2.1 - (IntKind.u8.wrap k0c_9)))))), .int .u8 ((gt q13.1 i7).1), .int .u8 ((gt q13.1 i7).2.1), .bool ((gt q13.1 i7).2.2.1), .string ((gt q13.1 i7).2.2.2)]) ⟨[.int .i64 (IntKind.i64.wrap ((IntKind.i64.wrap (now1 + (1 : Int))) + (iand .i64 (ishr .i64 q76.1 (1 : Int)) (3 : Int))))], [.int .i64 (IntKind.i64.wrap (k0c_9 + (IntKind.i64.wrap (IntKind.u8.wrap ((gt q13.1 i7).2.1 - (IntKind.u8.wrap k0c_9)))))), .int .u8 ((gt q13.1 i7).1), .int .u8 ((gt q13.1 i7).2.1), .bool ((gt q13.1 i7).2.2.1), .string ((gt q13.1 i7).2.2.2)], rfl, rfl, ⟨[.int .i64 (IntKind.i64.wrap (k0c_9 + (IntKind.i64.wrap (IntKind.u8.wrap ((gt q13.1 i7).2.1 - (IntKind.u8.wrap k0c_9))))))], [.int .u8 ((gt q13.1 i7).1), .int .u8 ((gt q13.1 i7).2.1), .bool ((gt q13.1 i7).2.2.1), .string ((gt q13.1 i7).2.2.2)], rfl, rfl, ⟨[.int .u8 ((gt q13.1 i7).1)], [.int .u8 ((gt q13.1 i7).2.1), .bool ((gt q13.1 i7).2.2.1), .string ((gt q13.1 i7).2.2.2)], rfl, rfl, ⟨[.int .u8 ((gt q13.1 i7).2.1)], [.bool ((gt q13.1 i7).2.2.1), .string ((gt q13.1 i7).2.2.2)], rfl, rfl, ⟨[.bool ((gt q13.1 i7).2.2.1)], [.string ((gt q13.1 i7).2.2.2)], rfl, rfl, rfl⟩⟩⟩⟩⟩ (reps_nil _)) ?_
     clear hf; intro a w v120 hf hp0; clear hp; have hp := hp0; clear hp0
     replace hp : Hp _ _ _ (Res.sl (Ek.pair (Ek.int .i64) (Ek.pair (Ek.int .i64) (Ek.pair (Ek.int .u8) (Ek.pair (Ek.int .u8) (Ek.pair Ek.bool Ek.str))))) 88 v120 ([((IntKind.i64.wrap ((IntKind.i64.wrap (now1 + (1 : Int))) + (iand .i64 (ishr .i64 q76.1 (1 : Int)) (3 : Int)))), (IntKind.i64.wrap (k0c_9 + (IntKind.i64.wrap (IntKind.u8.wrap ((gt q13.1 i7).2.1 - (IntKind.u8.wrap k0c_9)))))), ((gt q13.1 i7).1, (gt q13.1 i7).2.1, (gt q13.1 i7).2.2.1, (gt q13.1 i7).2.2.2))]) :: _ :: _ :: _ :: _ :: _ :: _ :: Res.map (fun x : Int => Value.int .i64 x) v81 q76.2.2.2.2.2.2.2.2.1 :: _ :: _ :: ow) := hp
     refine nx hf (fun _ _ => ⟨_, hp⟩) ?_
     refine dr_one 18 rfl (by kernel_rfl) ?_
     refine st_append (E := (Ek.pair (Ek.int .i64) (Ek.pair (Ek.int .i64) (Ek.pair (Ek.int .u8) (Ek.pair (Ek.int .u8) (Ek.pair Ek.bool Ek.str)))))) hf (by decide) elt88 Try.underlying66 (by decide) hp (i := 5) rfl rfl rfl rfl (hp.sl (i := 0) rfl) hc122 ?_
     clear hf; intro a w v123 hf hp0; clear hp; have hp := hp0; clear hp0
     replace hp : Hp _ _ _ (_ :: _ :: _ :: _ :: _ :: Res.sl (Ek.pair (Ek.int .i64) (Ek.pair (Ek.int .i64) (Ek.pair (Ek.int .u8) (Ek.pair (Ek.int .u8) (Ek.pair Ek.bool Ek.str))))) 88 v123 (q76.2.2.2.2.1 ++ [((IntKind.i64.wrap ((IntKind.i64.wrap (now1 + (1 : Int))) + (iand .i64 (ishr .i64 q76.1 (1 : Int)) (3 : Int)))), (IntKind.i64.wrap (k0c_9 + (IntKind.i64.wrap (IntKind.u8.wrap ((gt q13.1 i7).2.1 - (IntKind.u8.wrap k0c_9)))))), ((gt q13.1 i7).1, (gt q13.1 i7).2.1, (gt q13.1 i7).2.2.1, (gt q13.1 i7).2.2.2))]) :: _ :: _ :: _ :: _ :: ow) := hp
     refine nx hf (fun _ _ => ⟨_, hp⟩) ?_
     refine dr_nilV 19 rfl (by kernel_rfl) (by kernel_rfl) (by kernel_rfl) hf (by decide) rfl rfl (rl116.mono fun _ _ => trivial) ?_
     clear hf; intro a hf
     refine dr_takeP 20 (optr ok0 3) rfl (by kernel_rfl) (by kernel_rfl) (by kernel_rfl) rfl rfl hf (by decide) rfl (fun w => ?_) ?_
     ·
      refine st_fa (o' := 3) hf (by decide) (off := 3) (sz := 1) (by kernel_rfl) (by decide) rfl rfl (rl116.mono fun _ _ => trivial) rfl ?_
      clear hf; intro a ha hf
      exact st_nil hf (th_n ⟨ha, rfl⟩)
     clear hf; intro a hf
     have hp := bk115 _ _ hp
     have hp := bk110 _ _ hp
     refine dr_one 21 rfl (by kernel_rfl) ?_
     refine st_stO (us := [v123]) hf hp (i := 0) rfl rfl rfl rfl (cells_sh (hp.sl (i := 7) rfl).shapeV) (ones_sh (hp.sl (i := 7) rfl).shapeV) (by kernel_rfl) (Nat.le_of_ble_eq_true rfl) ?_
     clear hf; intro a w hf hp0; clear hp; have hp := hp0; clear hp0
     replace hp : Hp _ _ _ (Res.obj 68 ok0 [.int .i64 q76.2.1, vk0_s, vk0_r, v123, v80, vk0_picks, .int .i64 q76.2.2.2.2.2.2.2.1, v81, .int .i64 q76.2.2.2.2.2.2.2.2.2.1, .int .i64 q76.2.2.2.2.2.2.2.2.2.2.1, .int .i64 q76.2.2.2.2.2.2.2.2.2.2.2.1, v82, .bool q76.2.2.2.2.2.2.2.2.2.2.2.2.2.1, v83] :: Res.sl (Ek.pair (Ek.int .u8) (Ek.pair (Ek.int .u8) (Ek.pair Ek.bool Ek.str))) 31 v16 q13.1 :: _ :: _ :: _ :: _ :: _ :: _ :: _ :: _ :: _ :: _ :: ow) := hp
     refine st_nil hf (th_n ⟨fun hn => absurd hn (by decide), ?_⟩)
     refine dr_end (by kernel_rfl) ?_ _
     exact ⟨v120, v123, hf.sub ⟨rfl, rfl, rfl, rfl, rfl, rfl, trivial⟩, hp⟩
    rintro a w ⟨v120, v123, hf, hp⟩
    refine th_n ?_
    refine wp_seq ?_
    refine wp_reg ?_
    refine st_move hf rfl rfl (by decide) ?_
    clear hf; intro a ha hf; clear ha
    refine st_ishr hf (by decide) rfl rfl rfl (by decide) ?_
    clear hf; intro a ha hf; clear ha
    refine st_iand hf (by decide) rfl rfl rfl ?_
    clear hf; intro a ha hf; clear ha
    refine st_ieql hf (by decide) rfl rfl rfl ?_
    clear hf; intro a ha hf; clear ha
    refine st_nil hf ?_
    refine th_n ?_
    refine wp_if hf rfl (fun hb => ?_) (fun hb => ?_)
    ·
     replace h := ifT h hb
     obtain ⟨S124, hp125, rd126, up127, bk128⟩ := Hp.lendO hp (i := 0) rfl
     obtain ⟨S129, hp130, rd131, up132, bk133⟩ := Hp.lendS hp125 (i := 0) rfl
     have rl134 := ((rd126.now hp125).mono up132)
     have rl135 := ((((hk0_picks.now hp).mono up127).now hp125).mono up132)
     have rl136 := rd131
     obtain ⟨hc137, h⟩ := chk h
     obtain ⟨hc140, h⟩ := chk h
     refine wp_cutN (fun a w => ∃ (v138 : Value) (v141 : Value), Fr 142 a [(0, ok0), (1, .int .i64 now1), (5, v16), (7, .int .i64 i7)] ∧ Hp S w0 w (Res.obj 68 ok0 [.int .i64 q76.2.1, vk0_s, vk0_r, v141, v80, vk0_picks, .int .i64 q76.2.2.2.2.2.2.2.1, v81, .int .i64 q76.2.2.2.2.2.2.2.2.2.1, .int .i64 q76.2.2.2.2.2.2.2.2.2.2.1, .int .i64 q76.2.2.2.2.2.2.2.2.2.2.2.1, v82, .bool q76.2.2.2.2.2.2.2.2.2.2.2.2.2.1, v83] :: Res.sl (Ek.pair (Ek.int .u8) (Ek.pair (Ek.int .u8) (Ek.pair Ek.bool Ek.str))) 31 v16 q13.1 :: Res.sl (Ek.pair (Ek.int .i64) (Ek.pair (Ek.int .i64) (Ek.pair (Ek.int .u8) (Ek.pair (Ek.int .u8) (Ek.pair Ek.bool Ek.str))))) 88 v138 ([((IntKind.i64.wrap ((IntKind.i64.wrap (now1 + (2 : Int))) + (ishr .i64 q76.1 (6 : Int)))), (IntKind.i64.wrap (k0c_9 + (IntKind.i64.wrap (IntKind.u8.wrap ((gt q13.1 i7).2.1 - (IntKind.u8.wrap k0c_9)))))), ((gt q13.1 i7).1, (gt q13.1 i7).2.1, (gt q13.1 i7).2.2.1, (gt q13.1 i7).2.2.2))]) :: Res.sl (Ek.pair (Ek.int .i64) (Ek.pair (Ek.int .i64) (Ek.pair (Ek.int .u8) (Ek.pair (Ek.int .u8) (Ek.pair Ek.bool Ek.str))))) 88 v120 ([((IntKind.i64.wrap ((IntKind.i64.wrap (now1 + (1 : Int))) + (iand .i64 (ishr .i64 q76.1 (1 : Int)) (3 : Int)))), (IntKind.i64.wrap (k0c_9 + (IntKind.i64.wrap (IntKind.u8.wrap ((gt q13.1 i7).2.1 - (IntKind.u8.wrap k0c_9)))))), ((gt q13.1 i7).1, (gt q13.1 i7).2.1, (gt q13.1 i7).2.2.1, (gt q13.1 i7).2.2.2))]) :: Res.obj 74 vk0_r [.int .i64 s93.1, .int .i64 s93.2.1, v95] :: Res.map (fun x : ByteArray => Value.string x) v95 s93.2.2 :: Res.obj 79 vk0_s [.int .i64 s89.1, .int .i64 s89.2.1, .int .i64 s89.2.2.1, .int .i64 s89.2.2.2.1, v91] :: Res.sl (Ek.pair Ek.str (Ek.pair Ek.bool (Ek.pair (Ek.int .i64) Ek.bool))) 81 v91 s89.2.2.2.2 :: Res.sl (Ek.pair (Ek.int .i64) (Ek.pair (Ek.int .i64) (Ek.pair (Ek.int .u8) (Ek.pair (Ek.int .u8) (Ek.pair Ek.bool Ek.str))))) 88 v141 ((q76.2.2.2.2.1 ++ [((IntKind.i64.wrap ((IntKind.i64.wrap (now1 + (1 : Int))) + (iand .i64 (ishr .i64 q76.1 (1 : Int)) (3 : Int)))), (IntKind.i64.wrap (k0c_9 + (IntKind.i64.wrap (IntKind.u8.wrap ((gt q13.1 i7).2.1 - (IntKind.u8.wrap k0c_9)))))), ((gt q13.1 i7).1, (gt q13.1 i7).2.1, (gt q13.1 i7).2.2.1, (gt q13.1 i7).2.2.2))]) ++ [((IntKind.i64.wrap ((IntKind.i64.wrap (now1 + (2 : Int))) + (ishr .i64 q76.1 (6 : Int)))), (IntKind.i64.wrap (k0c_9 + (IntKind.i64.wrap (IntKind.u8.wrap ((gt q13.1 i7).2.1 - (IntKind.u8.wrap k0c_9)))))), ((gt q13.1 i7).1, (gt q13.1 i7).2.1, (gt q13.1 i7).2.2.1, (gt q13.1 i7).2.2.2))]) :: Res.sl (Ek.pair (Ek.int .i64) (Ek.pair (Ek.int .i64) (Ek.pair (Ek.int .u8) (Ek.pair (Ek.int .u8) (Ek.pair Ek.bool Ek.str))))) 88 v80 q76.2.2.2.2.2.1 :: Res.map (fun x : Int => Value.int .i64 x) v81 q76.2.2.2.2.2.2.2.2.1 :: Res.sl Ek.str 9 v82 q76.2.2.2.2.2.2.2.2.2.2.2.2.1 :: Res.sl (Ek.int .i64) 3 v83 q76.2.2.2.2.2.2.2.2.2.2.2.2.2.2 :: ow)) ?_ ?_
     ·
      have hp := hp130.same (Same.drew w)
      refine dr_begin' _ (fun w' => ∃ l, Hp S129 w w' l) [20] (by kernel_rfl) ?_
      refine dr_takeP 0 (ok0) rfl (by kernel_rfl) (by kernel_rfl) (by kernel_rfl) rfl rfl hf (by decide) rfl (fun w => ?_) ?_
      ·
       refine st_move hf rfl rfl (by decide) ?_
       clear hf; intro a ha hf
       exact st_nil hf (th_n ⟨ha, rfl⟩)
      clear hf; intro a hf
      refine dr_takeP 1 (ok0) rfl (by kernel_rfl) (by kernel_rfl) (by kernel_rfl) rfl rfl hf (by decide) rfl (fun w => ?_) ?_
      ·
       refine st_move hf rfl rfl (by decide) ?_
       clear hf; intro a ha hf
       exact st_nil hf (th_n ⟨ha, rfl⟩)
      clear hf; intro a hf
      refine dr_nilV 2 rfl (by kernel_rfl) (by kernel_rfl) (by kernel_rfl) hf (by decide) rfl rfl (rl134.mono fun _ _ => trivial) ?_
      clear hf; intro a hf
      refine dr_takeP 3 (optr ok0 3) rfl (by kernel_rfl) (by kernel_rfl) (by kernel_rfl) rfl rfl hf (by decide) rfl (fun w => ?_) ?_
      ·
       refine st_fa (o' := 3) hf (by decide) (off := 3) (sz := 1) (by kernel_rfl) (by decide) rfl rfl (rl134.mono fun _ _ => trivial) rfl ?_
       clear hf; intro a ha hf
       exact st_nil hf (th_n ⟨ha, rfl⟩)
      clear hf; intro a hf
      refine dr_take2 4 (v123) rfl (by kernel_rfl) (by kernel_rfl) (by kernel_rfl) (by kernel_rfl) (by kernel_rfl) rfl rfl hf (by decide) rfl (fun w hp => ?_) ⟨_, hp⟩ ?_
      ·
       obtain ⟨_, hp⟩ := hp
       refine st_ldO (u := v123) hf (by decide) pl66 rfl rfl (rl134.ob hp) rfl ?_
       clear hf; intro a ha hf
       exact st_nil hf (th_n ⟨ha, rfl⟩)
      clear hf; intro a hf
      refine dr_takeP 5 (.int .i64 now1) rfl (by kernel_rfl) (by kernel_rfl) (by kernel_rfl) rfl rfl hf (by decide) rfl (fun w => ?_) ?_
      ·
       refine st_move hf rfl rfl (by decide) ?_
       clear hf; intro a ha hf
       exact st_nil hf (th_n ⟨ha, rfl⟩)
      clear hf; intro a hf
      refine dr_takeP 6 (.int .i64 (IntKind.i64.wrap (now1 + (2 : Int)))) rfl (by kernel_rfl) (by kernel_rfl) (by kernel_rfl) rfl rfl hf (by decide) rfl (fun w => ?_) ?_
      ·
       refine st_iadd hf (by decide) rfl rfl rfl ?_
       clear hf; intro a ha hf
       exact st_nil hf (th_n ⟨ha, rfl⟩)
      clear hf; intro a hf
      refine dr_takeP 7 (.int .i64 q76.1) rfl (by kernel_rfl) (by kernel_rfl) (by kernel_rfl) rfl rfl hf (by decide) rfl (fun w => ?_) ?_
      ·
       refine st_move hf rfl rfl (by decide) ?_
       clear hf; intro a ha hf
       exact st_nil hf (th_n ⟨ha, rfl⟩)
      clear hf; intro a hf
      refine dr_takeP 8 (.int .i64 (ishr .i64 q76.1 (6 : Int))) rfl (by kernel_rfl) (by kernel_rfl) (by kernel_rfl) rfl rfl hf (by decide) rfl (fun w => ?_) ?_
      ·
       refine st_ishr hf (by decide) rfl rfl rfl (by decide) ?_
       clear hf; intro a ha hf
       exact st_nil hf (th_n ⟨ha, rfl⟩)
      clear hf; intro a hf
      refine dr_takeP 9 (.int .i64 (IntKind.i64.wrap ((IntKind.i64.wrap (now1 + (2 : Int))) + (ishr .i64 q76.1 (6 : Int))))) rfl (by kernel_rfl) (by kernel_rfl) (by kernel_rfl) rfl rfl hf (by decide) rfl (fun w => ?_) ?_
      ·
       refine st_iadd hf (by decide) rfl rfl rfl ?_
       clear hf; intro a ha hf
       exact st_nil hf (th_n ⟨ha, rfl⟩)
      clear hf; intro a hf
      refine dr_takeP 10 (.int .i64 (IntKind.i64.wrap (k0c_9 + (IntKind.i64.wrap (IntKind.u8.wrap ((gt q13.1 i7).2.1 - (IntKind.u8.wrap k0c_9))))))) rfl (by kernel_rfl) (by kernel_rfl) (by kernel_rfl) rfl rfl hf (by decide) rfl (fun w => ?_) ?_
      ·
       refine st_move hf rfl rfl (by decide) ?_
       clear hf; intro a ha hf
       exact st_nil hf (th_n ⟨ha, rfl⟩)
      clear hf; intro a hf
      refine dr_takeP 11 (v16) rfl (by kernel_rfl) (by kernel_rfl) (by kernel_rfl) rfl rfl hf (by decide) rfl (fun w => ?_) ?_
      ·
       refine st_move hf rfl rfl (by decide) ?_
       clear hf; intro a ha hf
       exact st_nil hf (th_n ⟨ha, rfl⟩)
      clear hf; intro a hf
      refine dr_takeP 12 (.int .i64 i7) rfl (by kernel_rfl) (by kernel_rfl) (by kernel_rfl) rfl rfl hf (by decide) rfl (fun w => ?_) ?_
      ·
       refine st_move hf rfl rfl (by decide) ?_
       clear hf; intro a ha hf
       exact st_nil hf (th_n ⟨ha, rfl⟩)
      clear hf; intro a hf
      refine dr_takeP 13 (eptr v16 i7 4) rfl (by kernel_rfl) (by kernel_rfl) (by kernel_rfl) rfl rfl hf (by decide) rfl (fun w => ?_) ?_
      ·
       refine st_index (E := (Ek.pair (Ek.int .u8) (Ek.pair (Ek.int .u8) (Ek.pair Ek.bool Ek.str)))) hf (by decide) Try.underlying54 elt31 rfl rfl rfl rl136.any hc137.1 hc137.2 ?_
       clear hf; intro a ha hf
       exact st_nil hf (th_n ⟨ha, rfl⟩)
      clear hf; intro a hf
      refine dr_take2 14 (.agg #[.int .u8 ((gt q13.1 i7).1), .int .u8 ((gt q13.1 i7).2.1), .bool ((gt q13.1 i7).2.2.1), .string ((gt q13.1 i7).2.2.2)]) rfl (by kernel_rfl) (by kernel_rfl) (by kernel_rfl) (by kernel_rfl) (by kernel_rfl) rfl rfl hf (by decide) rfl (fun w hp => ?_) ⟨_, hp⟩ ?_
      ·
       obtain ⟨_, hp⟩ := hp
       refine st_ldQX (F := (Ek.pair (Ek.int .u8) (Ek.pair (Ek.int .u8) (Ek.pair Ek.bool Ek.str)))) (yv := (gt q13.1 i7)) (m := 4) (us := [.int .u8 ((gt q13.1 i7).1), .int .u8 ((gt q13.1 i7).2.1), .bool ((gt q13.1 i7).2.2.1), .string ((gt q13.1 i7).2.2.2)]) hf (by decide) (by kernel_rfl) rfl (fun cs9 h9 => by obtain ⟨_, _, rfl, rfl, ⟨_, _, rfl, rfl, ⟨_, _, rfl, rfl, rfl⟩⟩⟩ := h9; rfl) rfl rfl (Part.whole (rl136.sl hp) hc137.1 hc137.2) ?_
       clear hf; intro a ha hf
       exact st_nil hf (th_n ⟨ha, rfl⟩)
      clear hf; intro a hf
      refine dr_takeP 15 (.agg #[.int .i64 (IntKind.i64.wrap ((IntKind.i64.wrap (now1 + (2 : Int))) + (ishr .i64 q76.1 (6 : Int)))), .int .i64 (IntKind.i64.wrap (k0c_9 + (IntKind.i64.wrap (IntKind.u8.wrap ((gt q13.1 i7).2.1 - (IntKind.u8.wrap k0c_9)))))), .int .u8 ((gt q13.1 i7).1), .int .u8 ((gt q13.1 i7).2.1), .bool ((gt q13.1 i7).2.2.1), .string ((gt q13.1 i7).2.2.2)]) rfl (by kernel_rfl) (by kernel_rfl) (by kernel_rfl) rfl rfl hf (by decide) rfl (fun w => ?_) ?_
      ·
       refine st_buildA (vals := [(0, .int .i64 (IntKind.i64.wrap ((IntKind.i64.wrap (now1 + (2 : Int))) + (ishr .i64 q76.1 (6 : Int))))), (1, .int .i64 (IntKind.i64.wrap (k0c_9 + (IntKind.i64.wrap (IntKind.u8.wrap ((gt q13.1 i7).2.1 - (IntKind.u8.wrap k0c_9))))))), (2, .agg #[.int .u8 ((gt q13.1 i7).1), .int .u8 ((gt q13.1 i7).2.1), .bool ((gt q13.1 i7).2.2.1), .string ((gt q13.1 i7).2.2.2)])]) (cells := [.int .i64 (IntKind.i64.wrap ((IntKind.i64.wrap (now1 + (2 : Int))) + (ishr .i64 q76.1 (6 : Int)))), .int .i64 (IntKind.i64.wrap (k0c_9 + (IntKind.i64.wrap (IntKind.u8.wrap ((gt q13.1 i7).2.1 - (IntKind.u8.wrap k0c_9)))))), .int .u8 ((gt q13.1 i7).1), .int .u8 ((gt q13.1 i7).2.1), .bool ((gt q13.1 i7).2.2.1), .string ((gt q13.1 i7).2.2.2)]) hf (by decide) rfl (by simp [hf.ev (x := (Operand.tmp 128)) rfl, hf.ev (x := (Operand.tmp 129)) rfl, hf.ev (x := (Operand.tmp 133)) rfl]) (fun w => by kernel_rfl) ?_
       clear hf; intro a ha hf
       exact st_nil hf (th_n ⟨ha, rfl⟩)
      clear hf; intro a hf
      refine dr_one 16 rfl (by kernel_rfl) ?_
      refine st_build (E := (Ek.pair (Ek.int .i64) (Ek.pair (Ek.int .i64) (Ek.pair (Ek.int .u8) (Ek.pair (Ek.int .u8) (Ek.pair Ek.bool Ek.str)))))) (xs := [((IntKind.i64.wrap ((IntKind.i64.wrap (now1 + (2 : Int))) + (ishr .i64 q76.1 (6 : Int)))), (IntKind.i64.wrap (k0c_9 + (IntKind.i64.wrap (IntKind.u8.wrap ((gt q13.1 i7).2.1 - (IntKind.u8.wrap k0c_9)))))), ((gt q13.1 i7).1, (gt q13.1 i7).2.1, (gt q13.1 i7).2.2.1, (gt q13.1 i7).2.2.2))]) hf (by decide) elt88 Try.underlying66 hp (vals := #[(0, .agg #[.int .i64 (IntKind.i64.wrap ((IntKind.i64.wrap (now1 + (2 : Int))) + (ishr .i64 q76.1 (6 : Int)))), .int .i64 (IntKind.i64.wrap (k0c_9 + (IntKind.i64.wrap (IntKind.u8.wrap ((gt q13.1 i7).2.1 - (IntKind.u8.wrap k0c_9)))))), .int .u8 ((gt q13.1 i7).1), .int .u8 ((gt q13.1 i7).2.1), .bool ((gt q13.1 i7).2.2.1), .string ((gt q13.1 i7).2.2.2)])]) (cells := #[.int .i64 (IntKind.i64.wrap ((IntKind.i64.wrap (now1 + (2 : Int))) + (ishr .i64 q76.1 (6 : Int)))), .int .i64 (IntKind.i64.wrap (k0c_9 + (IntKind.i64.wrap (IntKind.u8.wrap ((gt q13.1 i7).2.1 - (IntKind.u8.wrap k0c_9)))))), .int .u8 ((gt q13.1 i7).1), .int .u8 ((gt q13.1 i7).2.1), .bool ((gt q13.1 i7).2.2.1), .string ((gt q13.1 i7).2.2.2)]) rfl (by simp [hf.ev (x := (Operand.tmp 134)) rfl]) (by decide) (by decide) (z := .agg #[.int .i64 0, .int .i64 0, .int .u8 0, .int .u8 0, .bool false, .string ByteArray.empty]) (by kernel_rfl) (by kernel_rfl) rfl (reps_cons (cs := [.int .i64 (IntKind.i64.wrap ((IntKind.i64.wrap (now1 + (2 : Int))) + (ishr .i64 q76.1 (6 : Int)))), .int .i64 (IntKind.i64.wrap (k0c_9 + (IntKind.i64.wrap (IntKind.u8.wrap ((gt q13.1 i7).2.1 - (IntKind.u8.wrap k0c_9)))))), .int .u8 ((gt q13.1 i7).1), .int .u8 ((gt q13.1 i7).2.1), .bool ((gt q13.1 i7).2.2.1), .string ((gt q13.1 i7).2.2.2)]) ⟨[.int .i64 (IntKind.i64.wrap ((IntKind.i64.wrap (now1 + (2 : Int))) + (ishr .i64 q76.1 (6 : Int))))], [.int .i64 (IntKind.i64.wrap (k0c_9 + (IntKind.i64.wrap (IntKind.u8.wrap ((gt q13.1 i7).2.1 - (IntKind.u8.wrap k0c_9)))))), .int .u8 ((gt q13.1 i7).1), .int .u8 ((gt q13.1 i7).2.1), .bool ((gt q13.1 i7).2.2.1), .string ((gt q13.1 i7).2.2.2)], rfl, rfl, ⟨[.int .i64 (IntKind.i64.wrap (k0c_9 + (IntKind.i64.wrap (IntKind.u8.wrap ((gt q13.1 i7).2.1 - (IntKind.u8.wrap k0c_9))))))], [.int .u8 ((gt q13.1 i7).1), .int .u8 ((gt q13.1 i7).2.1), .bool ((gt q13.1 i7).2.2.1), .string ((gt q13.1 i7).2.2.2)], rfl, rfl, ⟨[.int .u8 ((gt q13.1 i7).1)], [.int .u8 ((gt q13.1 i7).2.1), .bool ((gt q13.1 i7).2.2.1), .string ((gt q13.1 i7).2.2.2)], rfl, rfl, ⟨[.int .u8 ((gt q13.1 i7).2.1)], [.bool ((gt q13.1 i7).2.2.1), .string ((gt q13.1 i7).2.2.2)], rfl, rfl, ⟨[.bool ((gt q13.1 i7).2.2.1)], [.string ((gt q13.1 i7).2.2.2)], rfl, rfl, rfl⟩⟩⟩⟩⟩ (reps_nil _)) ?_
      clear hf; intro a w v138 hf hp0; clear hp; have hp := hp0; clear hp0
      replace hp : Hp _ _ _ (Res.sl (Ek.pair (Ek.int .i64) (Ek.pair (Ek.int .i64) (Ek.pair (Ek.int .u8) (Ek.pair (Ek.int .u8) (Ek.pair Ek.bool Ek.str))))) 88 v138 ([((IntKind.i64.wrap ((IntKind.i64.wrap (now1 + (2 : Int))) + (ishr .i64 q76.1 (6 : Int)))), (IntKind.i64.wrap (k0c_9 + (IntKind.i64.wrap (IntKind.u8.wrap ((gt q13.1 i7).2.1 - (IntKind.u8.wrap k0c_9)))))), ((gt q13.1 i7).1, (gt q13.1 i7).2.1, (gt q13.1 i7).2.2.1, (gt q13.1 i7).2.2.2))]) :: _ :: _ :: _ :: _ :: _ :: _ :: _ :: _ :: _ :: _ :: ow) := hp
      refine nx hf (fun _ _ => ⟨_, hp⟩) ?_
      refine dr_one 17 rfl (by kernel_rfl) ?_
      refine st_append (E := (Ek.pair (Ek.int .i64) (Ek.pair (Ek.int .i64) (Ek.pair (Ek.int .u8) (Ek.pair (Ek.int .u8) (Ek.pair Ek.bool Ek.str)))))) hf (by decide) elt88 Try.underlying66 (by decide) hp (i := 6) rfl rfl rfl rfl (hp.sl (i := 0) rfl) hc140 ?_
      clear hf; intro a w v141 hf hp0; clear hp; have hp := hp0; clear hp0
      replace hp : Hp _ _ _ (_ :: _ :: _ :: _ :: _ :: _ :: Res.sl (Ek.pair (Ek.int .i64) (Ek.pair (Ek.int .i64) (Ek.pair (Ek.int .u8) (Ek.pair (Ek.int .u8) (Ek.pair Ek.bool Ek.str))))) 88 v141 ((q76.2.2.2.2.1 ++ [((IntKind.i64.wrap ((IntKind.i64.wrap (now1 + (1 : Int))) + (iand .i64 (ishr .i64 q76.1 (1 : Int)) (3 : Int)))), (IntKind.i64.wrap (k0c_9 + (IntKind.i64.wrap (IntKind.u8.wrap ((gt q13.1 i7).2.1 - (IntKind.u8.wrap k0c_9)))))), ((gt q13.1 i7).1, (gt q13.1 i7).2.1, (gt q13.1 i7).2.2.1, (gt q13.1 i7).2.2.2))]) ++ [((IntKind.i64.wrap ((IntKind.i64.wrap (now1 + (2 : Int))) + (ishr .i64 q76.1 (6 : Int)))), (IntKind.i64.wrap (k0c_9 + (IntKind.i64.wrap (IntKind.u8.wrap ((gt q13.1 i7).2.1 - (IntKind.u8.wrap k0c_9)))))), ((gt q13.1 i7).1, (gt q13.1 i7).2.1, (gt q13.1 i7).2.2.1, (gt q13.1 i7).2.2.2))]) :: _ :: _ :: _ :: _ :: ow) := hp
      refine nx hf (fun _ _ => ⟨_, hp⟩) ?_
      refine dr_nilV 18 rfl (by kernel_rfl) (by kernel_rfl) (by kernel_rfl) hf (by decide) rfl rfl (rl134.mono fun _ _ => trivial) ?_
      clear hf; intro a hf
      refine dr_takeP 19 (optr ok0 3) rfl (by kernel_rfl) (by kernel_rfl) (by kernel_rfl) rfl rfl hf (by decide) rfl (fun w => ?_) ?_
      ·
       refine st_fa (o' := 3) hf (by decide) (off := 3) (sz := 1) (by kernel_rfl) (by decide) rfl rfl (rl134.mono fun _ _ => trivial) rfl ?_
       clear hf; intro a ha hf
       exact st_nil hf (th_n ⟨ha, rfl⟩)
      clear hf; intro a hf
      have hp := bk133 _ _ hp
      have hp := bk128 _ _ hp
      refine dr_one 20 rfl (by kernel_rfl) ?_
      refine st_stO (us := [v141]) hf hp (i := 0) rfl rfl rfl rfl (cells_sh (hp.sl (i := 8) rfl).shapeV) (ones_sh (hp.sl (i := 8) rfl).shapeV) (by kernel_rfl) (Nat.le_of_ble_eq_true rfl) ?_
      clear hf; intro a w hf hp0; clear hp; have hp := hp0; clear hp0
      replace hp : Hp _ _ _ (Res.obj 68 ok0 [.int .i64 q76.2.1, vk0_s, vk0_r, v141, v80, vk0_picks, .int .i64 q76.2.2.2.2.2.2.2.1, v81, .int .i64 q76.2.2.2.2.2.2.2.2.2.1, .int .i64 q76.2.2.2.2.2.2.2.2.2.2.1, .int .i64 q76.2.2.2.2.2.2.2.2.2.2.2.1, v82, .bool q76.2.2.2.2.2.2.2.2.2.2.2.2.2.1, v83] :: Res.sl (Ek.pair (Ek.int .u8) (Ek.pair (Ek.int .u8) (Ek.pair Ek.bool Ek.str))) 31 v16 q13.1 :: _ :: _ :: _ :: _ :: _ :: _ :: _ :: _ :: _ :: _ :: _ :: ow) := hp
      refine st_nil hf (th_n ⟨fun hn => absurd hn (by decide), ?_⟩)
      refine dr_end (by kernel_rfl) ?_ _
      exact ⟨v138, v141, hf.sub ⟨rfl, rfl, rfl, rfl, trivial⟩, hp⟩
     rintro a w ⟨v138, v141, hf, hp⟩
     refine ib_n ?_
     refine th_n ?_
     refine wp_reg ?_
     refine st_move hf rfl rfl (by decide) ?_
     clear hf; intro a ha hf; clear ha
     refine st_iadd hf (by decide) rfl rfl rfl ?_
     clear hf; intro a ha hf; clear ha
     refine st_assign hf rfl rfl (by decide) ?_
     clear hf; intro a ha hf; clear ha
     refine st_nil hf ?_
     obtain rfl := Option.some.inj h
     have hp : Hp _ _ _ (_ :: _ :: _ :: _ :: _ :: _ :: _ :: _ :: _ :: _ :: _ :: ow) := Hp.sel (pre := [Res.obj 68 ok0 [.int .i64 q76.2.1, vk0_s, vk0_r, v141, v80, vk0_picks, .int .i64 q76.2.2.2.2.2.2.2.1, v81, .int .i64 q76.2.2.2.2.2.2.2.2.2.1, .int .i64 q76.2.2.2.2.2.2.2.2.2.2.1, .int .i64 q76.2.2.2.2.2.2.2.2.2.2.2.1, v82, .bool q76.2.2.2.2.2.2.2.2.2.2.2.2.2.1, v83], Res.sl (Ek.pair (Ek.int .u8) (Ek.pair (Ek.int .u8) (Ek.pair Ek.bool Ek.str))) 31 v16 q13.1, Res.sl (Ek.pair (Ek.int .i64) (Ek.pair (Ek.int .i64) (Ek.pair (Ek.int .u8) (Ek.pair (Ek.int .u8) (Ek.pair Ek.bool Ek.str))))) 88 v138 ([((IntKind.i64.wrap ((IntKind.i64.wrap (now1 + (2 : Int))) + (ishr .i64 q76.1 (6 : Int)))), (IntKind.i64.wrap (k0c_9 + (IntKind.i64.wrap (IntKind.u8.wrap ((gt q13.1 i7).2.1 - (IntKind.u8.wrap k0c_9)))))), ((gt q13.1 i7).1, (gt q13.1 i7).2.1, (gt q13.1 i7).2.2.1, (gt q13.1 i7).2.2.2))]), Res.sl (Ek.pair (Ek.int .i64) (Ek.pair (Ek.int .i64) (Ek.pair (Ek.int .u8) (Ek.pair (Ek.int .u8) (Ek.pair Ek.bool Ek.str))))) 88 v120 ([((IntKind.i64.wrap ((IntKind.i64.wrap (now1 + (1 : Int))) + (iand .i64 (ishr .i64 q76.1 (1 : Int)) (3 : Int)))), (IntKind.i64.wrap (k0c_9 + (IntKind.i64.wrap (IntKind.u8.wrap ((gt q13.1 i7).2.1 - (IntKind.u8.wrap k0c_9)))))), ((gt q13.1 i7).1, (gt q13.1 i7).2.1, (gt q13.1 i7).2.2.1, (gt q13.1 i7).2.2.2))]), Res.obj 74 vk0_r [.int .i64 s93.1, .int .i64 s93.2.1, v95], Res.map (fun x : ByteArray => Value.string x) v95 s93.2.2, Res.obj 79 vk0_s [.int .i64 s89.1, .int .i64 s89.2.1, .int .i64 s89.2.2.1, .int .i64 s89.2.2.2.1, v91], Res.sl (Ek.pair Ek.str (Ek.pair Ek.bool (Ek.pair (Ek.int .i64) Ek.bool))) 81 v91 s89.2.2.2.2, Res.sl (Ek.pair (Ek.int .i64) (Ek.pair (Ek.int .i64) (Ek.pair (Ek.int .u8) (Ek.pair (Ek.int .u8) (Ek.pair Ek.bool Ek.str))))) 88 v141 ((q76.2.2.2.2.1 ++ [((IntKind.i64.wrap ((IntKind.i64.wrap (now1 + (1 : Int))) + (iand .i64 (ishr .i64 q76.1 (1 : Int)) (3 : Int)))), (IntKind.i64.wrap (k0c_9 + (IntKind.i64.wrap (IntKind.u8.wrap ((gt q13.1 i7).2.1 - (IntKind.u8.wrap k0c_9)))))), ((gt q13.1 i7).1, (gt q13.1 i7).2.1, (gt q13.1 i7).2.2.1, (gt q13.1 i7).2.2.2))]) ++ [((IntKind.i64.wrap ((IntKind.i64.wrap (now1 + (2 : Int))) + (ishr .i64 q76.1 (6 : Int)))), (IntKind.i64.wrap (k0c_9 + (IntKind.i64.wrap (IntKind.u8.wrap ((gt q13.1 i7).2.1 - (IntKind.u8.wrap k0c_9)))))), ((gt q13.1 i7).1, (gt q13.1 i7).2.1, (gt q13.1 i7).2.2.1, (gt q13.1 i7).2.2.2))]), Res.sl (Ek.pair (Ek.int .i64) (Ek.pair (Ek.int .i64) (Ek.pair (Ek.int .u8) (Ek.pair (Ek.int .u8) (Ek.pair Ek.bool Ek.str))))) 88 v80 q76.2.2.2.2.2.1, Res.map (fun x : Int => Value.int .i64 x) v81 q76.2.2.2.2.2.2.2.2.1, Res.sl Ek.str 9 v82 q76.2.2.2.2.2.2.2.2.2.2.2.2.1, Res.sl (Ek.int .i64) 3 v83 q76.2.2.2.2.2.2.2.2.2.2.2.2.2.2]) (tail := ow) (rs' := [Res.sl (Ek.pair Ek.str (Ek.pair Ek.bool (Ek.pair (Ek.int .i64) Ek.bool))) 81 v91 s89.2.2.2.2, Res.obj 79 vk0_s [.int .i64 s89.1, .int .i64 s89.2.1, .int .i64 s89.2.2.1, .int .i64 s89.2.2.2.1, v91], Res.map (fun x : ByteArray => Value.string x) v95 s93.2.2, Res.obj 74 vk0_r [.int .i64 s93.1, .int .i64 s93.2.1, v95], Res.sl (Ek.pair (Ek.int .i64) (Ek.pair (Ek.int .i64) (Ek.pair (Ek.int .u8) (Ek.pair (Ek.int .u8) (Ek.pair Ek.bool Ek.str))))) 88 v141 ((q76.2.2.2.2.1 ++ [((IntKind.i64.wrap ((IntKind.i64.wrap (now1 + (1 : Int))) + (iand .i64 (ishr .i64 q76.1 (1 : Int)) (3 : Int)))), (IntKind.i64.wrap (k0c_9 + (IntKind.i64.wrap (IntKind.u8.wrap ((gt q13.1 i7).2.1 - (IntKind.u8.wrap k0c_9)))))), ((gt q13.1 i7).1, (gt q13.1 i7).2.1, (gt q13.1 i7).2.2.1, (gt q13.1 i7).2.2.2))]) ++ [((IntKind.i64.wrap ((IntKind.i64.wrap (now1 + (2 : Int))) + (ishr .i64 q76.1 (6 : Int)))), (IntKind.i64.wrap (k0c_9 + (IntKind.i64.wrap (IntKind.u8.wrap ((gt q13.1 i7).2.1 - (IntKind.u8.wrap k0c_9)))))), ((gt q13.1 i7).1, (gt q13.1 i7).2.1, (gt q13.1 i7).2.2.1, (gt q13.1 i7).2.2.2))]), Res.sl (Ek.pair (Ek.int .i64) (Ek.pair (Ek.int .i64) (Ek.pair (Ek.int .u8) (Ek.pair (Ek.int .u8) (Ek.pair Ek.bool Ek.str))))) 88 v80 q76.2.2.2.2.2.1, Res.map (fun x : Int => Value.int .i64 x) v81 q76.2.2.2.2.2.2.2.2.1, Res.sl Ek.str 9 v82 q76.2.2.2.2.2.2.2.2.2.2.2.2.1, Res.sl (Ek.int .i64) 3 v83 q76.2.2.2.2.2.2.2.2.2.2.2.2.2.2, Res.obj 68 ok0 [.int .i64 q76.2.1, vk0_s, vk0_r, v141, v80, vk0_picks, .int .i64 q76.2.2.2.2.2.2.2.1, v81, .int .i64 q76.2.2.2.2.2.2.2.2.2.1, .int .i64 q76.2.2.2.2.2.2.2.2.2.2.1, .int .i64 q76.2.2.2.2.2.2.2.2.2.2.2.1, v82, .bool q76.2.2.2.2.2.2.2.2.2.2.2.2.2.1, v83], Res.sl (Ek.pair (Ek.int .u8) (Ek.pair (Ek.int .u8) (Ek.pair Ek.bool Ek.str))) 31 v16 q13.1]) hp [7, 6, 5, 4, 8, 9, 10, 11, 12, 0, 1] (by decide) (by simp) rfl
     exact rnd_l ⟨_, _, _, _, _, _, _, hf.sub ⟨rfl, rfl, rfl, rfl, trivial⟩, hp⟩
    replace h := ifF h hb
    refine wp_skip ?_
    refine ib_n ?_
    refine th_n ?_
    refine wp_reg ?_
    refine st_move hf rfl rfl (by decide) ?_
    clear hf; intro a ha hf; clear ha
    refine st_iadd hf (by decide) rfl rfl rfl ?_
    clear hf; intro a ha hf; clear ha
    refine st_assign hf rfl rfl (by decide) ?_
    clear hf; intro a ha hf; clear ha
    refine st_nil hf ?_
    obtain rfl := Option.some.inj h
    have hp : Hp _ _ _ (_ :: _ :: _ :: _ :: Res.sl (Ek.pair (Ek.int .i64) (Ek.pair (Ek.int .i64) (Ek.pair (Ek.int .u8) (Ek.pair (Ek.int .u8) (Ek.pair Ek.bool Ek.str))))) 88 v123 (q76.2.2.2.2.1 ++ [((IntKind.i64.wrap ((IntKind.i64.wrap (now1 + (1 : Int))) + (iand .i64 (ishr .i64 q76.1 (1 : Int)) (3 : Int)))), (IntKind.i64.wrap (k0c_9 + (IntKind.i64.wrap (IntKind.u8.wrap ((gt q13.1 i7).2.1 - (IntKind.u8.wrap k0c_9)))))), ((gt q13.1 i7).1, (gt q13.1 i7).2.1, (gt q13.1 i7).2.2.1, (gt q13.1 i7).2.2.2))]) :: _ :: _ :: _ :: _ :: Res.obj 68 ok0 [.int .i64 q76.2.1, vk0_s, vk0_r, v123, v80, vk0_picks, .int .i64 q76.2.2.2.2.2.2.2.1, v81, .int .i64 q76.2.2.2.2.2.2.2.2.2.1, .int .i64 q76.2.2.2.2.2.2.2.2.2.2.1, .int .i64 q76.2.2.2.2.2.2.2.2.2.2.2.1, v82, .bool q76.2.2.2.2.2.2.2.2.2.2.2.2.2.1, v83] :: _ :: ow) := Hp.sel (pre := [Res.obj 68 ok0 [.int .i64 q76.2.1, vk0_s, vk0_r, v123, v80, vk0_picks, .int .i64 q76.2.2.2.2.2.2.2.1, v81, .int .i64 q76.2.2.2.2.2.2.2.2.2.1, .int .i64 q76.2.2.2.2.2.2.2.2.2.2.1, .int .i64 q76.2.2.2.2.2.2.2.2.2.2.2.1, v82, .bool q76.2.2.2.2.2.2.2.2.2.2.2.2.2.1, v83], Res.sl (Ek.pair (Ek.int .u8) (Ek.pair (Ek.int .u8) (Ek.pair Ek.bool Ek.str))) 31 v16 q13.1, Res.sl (Ek.pair (Ek.int .i64) (Ek.pair (Ek.int .i64) (Ek.pair (Ek.int .u8) (Ek.pair (Ek.int .u8) (Ek.pair Ek.bool Ek.str))))) 88 v120 ([((IntKind.i64.wrap ((IntKind.i64.wrap (now1 + (1 : Int))) + (iand .i64 (ishr .i64 q76.1 (1 : Int)) (3 : Int)))), (IntKind.i64.wrap (k0c_9 + (IntKind.i64.wrap (IntKind.u8.wrap ((gt q13.1 i7).2.1 - (IntKind.u8.wrap k0c_9)))))), ((gt q13.1 i7).1, (gt q13.1 i7).2.1, (gt q13.1 i7).2.2.1, (gt q13.1 i7).2.2.2))]), Res.obj 74 vk0_r [.int .i64 s93.1, .int .i64 s93.2.1, v95], Res.map (fun x : ByteArray => Value.string x) v95 s93.2.2, Res.obj 79 vk0_s [.int .i64 s89.1, .int .i64 s89.2.1, .int .i64 s89.2.2.1, .int .i64 s89.2.2.2.1, v91], Res.sl (Ek.pair Ek.str (Ek.pair Ek.bool (Ek.pair (Ek.int .i64) Ek.bool))) 81 v91 s89.2.2.2.2, Res.sl (Ek.pair (Ek.int .i64) (Ek.pair (Ek.int .i64) (Ek.pair (Ek.int .u8) (Ek.pair (Ek.int .u8) (Ek.pair Ek.bool Ek.str))))) 88 v123 (q76.2.2.2.2.1 ++ [((IntKind.i64.wrap ((IntKind.i64.wrap (now1 + (1 : Int))) + (iand .i64 (ishr .i64 q76.1 (1 : Int)) (3 : Int)))), (IntKind.i64.wrap (k0c_9 + (IntKind.i64.wrap (IntKind.u8.wrap ((gt q13.1 i7).2.1 - (IntKind.u8.wrap k0c_9)))))), ((gt q13.1 i7).1, (gt q13.1 i7).2.1, (gt q13.1 i7).2.2.1, (gt q13.1 i7).2.2.2))]), Res.sl (Ek.pair (Ek.int .i64) (Ek.pair (Ek.int .i64) (Ek.pair (Ek.int .u8) (Ek.pair (Ek.int .u8) (Ek.pair Ek.bool Ek.str))))) 88 v80 q76.2.2.2.2.2.1, Res.map (fun x : Int => Value.int .i64 x) v81 q76.2.2.2.2.2.2.2.2.1, Res.sl Ek.str 9 v82 q76.2.2.2.2.2.2.2.2.2.2.2.2.1, Res.sl (Ek.int .i64) 3 v83 q76.2.2.2.2.2.2.2.2.2.2.2.2.2.2]) (tail := ow) (rs' := [Res.sl (Ek.pair Ek.str (Ek.pair Ek.bool (Ek.pair (Ek.int .i64) Ek.bool))) 81 v91 s89.2.2.2.2, Res.obj 79 vk0_s [.int .i64 s89.1, .int .i64 s89.2.1, .int .i64 s89.2.2.1, .int .i64 s89.2.2.2.1, v91], Res.map (fun x : ByteArray => Value.string x) v95 s93.2.2, Res.obj 74 vk0_r [.int .i64 s93.1, .int .i64 s93.2.1, v95], Res.sl (Ek.pair (Ek.int .i64) (Ek.pair (Ek.int .i64) (Ek.pair (Ek.int .u8) (Ek.pair (Ek.int .u8) (Ek.pair Ek.bool Ek.str))))) 88 v123 (q76.2.2.2.2.1 ++ [((IntKind.i64.wrap ((IntKind.i64.wrap (now1 + (1 : Int))) + (iand .i64 (ishr .i64 q76.1 (1 : Int)) (3 : Int)))), (IntKind.i64.wrap (k0c_9 + (IntKind.i64.wrap (IntKind.u8.wrap ((gt q13.1 i7).2.1 - (IntKind.u8.wrap k0c_9)))))), ((gt q13.1 i7).1, (gt q13.1 i7).2.1, (gt q13.1 i7).2.2.1, (gt q13.1 i7).2.2.2))]), Res.sl (Ek.pair (Ek.int .i64) (Ek.pair (Ek.int .i64) (Ek.pair (Ek.int .u8) (Ek.pair (Ek.int .u8) (Ek.pair Ek.bool Ek.str))))) 88 v80 q76.2.2.2.2.2.1, Res.map (fun x : Int => Value.int .i64 x) v81 q76.2.2.2.2.2.2.2.2.1, Res.sl Ek.str 9 v82 q76.2.2.2.2.2.2.2.2.2.2.2.2.1, Res.sl (Ek.int .i64) 3 v83 q76.2.2.2.2.2.2.2.2.2.2.2.2.2.2, Res.obj 68 ok0 [.int .i64 q76.2.1, vk0_s, vk0_r, v123, v80, vk0_picks, .int .i64 q76.2.2.2.2.2.2.2.1, v81, .int .i64 q76.2.2.2.2.2.2.2.2.2.1, .int .i64 q76.2.2.2.2.2.2.2.2.2.2.1, .int .i64 q76.2.2.2.2.2.2.2.2.2.2.2.1, v82, .bool q76.2.2.2.2.2.2.2.2.2.2.2.2.2.1, v83], Res.sl (Ek.pair (Ek.int .u8) (Ek.pair (Ek.int .u8) (Ek.pair Ek.bool Ek.str))) 31 v16 q13.1]) hp [6, 5, 4, 3, 7, 8, 9, 10, 11, 0, 1] (by decide) (by simp) rfl
    exact rnd_l ⟨_, _, _, _, _, _, _, hf.sub ⟨rfl, rfl, rfl, rfl, trivial⟩, hp⟩
   replace h := ifF h hb
   refine wp_exit ?_
   refine th_e ?_
   obtain rfl := Option.some.inj h
   have hp : Hp _ _ _ (Res.sl (Ek.pair Ek.str (Ek.pair Ek.bool (Ek.pair (Ek.int .i64) Ek.bool))) 81 v26 k0c_1c_4 :: Res.obj 79 vk0_s [.int .i64 k0c_1c_0, .int .i64 k0c_1c_1, .int .i64 k0c_1c_2, .int .i64 k0c_1c_3, v26] :: Res.map (fun x : ByteArray => Value.string x) v29 k0c_2c_2 :: Res.obj 74 vk0_r [.int .i64 k0c_2c_0, .int .i64 k0c_2c_1, v29] :: Res.sl (Ek.pair (Ek.int .i64) (Ek.pair (Ek.int .i64) (Ek.pair (Ek.int .u8) (Ek.pair (Ek.int .u8) (Ek.pair Ek.bool Ek.str))))) 88 v32 k0c_3 :: Res.sl (Ek.pair (Ek.int .i64) (Ek.pair (Ek.int .i64) (Ek.pair (Ek.int .u8) (Ek.pair (Ek.int .u8) (Ek.pair Ek.bool Ek.str))))) 88 v34 k0c_4 :: Res.map (fun x : Int => Value.int .i64 x) v36 k0c_7 :: Res.sl Ek.str 9 v38 k0c_11 :: Res.sl (Ek.int .i64) 3 v40 k0c_13 :: Res.obj 68 ok0 [.int .i64 k0c_0, vk0_s, vk0_r, v32, v34, vk0_picks, .int .i64 k0c_6, v36, .int .i64 k0c_8, .int .i64 k0c_9, .int .i64 k0c_10, v38, .bool k0c_12, v40] :: ow) := Hp.sel (pre := [Res.sl (Ek.pair Ek.str (Ek.pair Ek.bool (Ek.pair (Ek.int .i64) Ek.bool))) 81 v26 k0c_1c_4, Res.obj 79 vk0_s [.int .i64 k0c_1c_0, .int .i64 k0c_1c_1, .int .i64 k0c_1c_2, .int .i64 k0c_1c_3, v26], Res.map (fun x : ByteArray => Value.string x) v29 k0c_2c_2, Res.obj 74 vk0_r [.int .i64 k0c_2c_0, .int .i64 k0c_2c_1, v29], Res.sl (Ek.pair (Ek.int .i64) (Ek.pair (Ek.int .i64) (Ek.pair (Ek.int .u8) (Ek.pair (Ek.int .u8) (Ek.pair Ek.bool Ek.str))))) 88 v32 k0c_3, Res.sl (Ek.pair (Ek.int .i64) (Ek.pair (Ek.int .i64) (Ek.pair (Ek.int .u8) (Ek.pair (Ek.int .u8) (Ek.pair Ek.bool Ek.str))))) 88 v34 k0c_4, Res.map (fun x : Int => Value.int .i64 x) v36 k0c_7, Res.sl Ek.str 9 v38 k0c_11, Res.sl (Ek.int .i64) 3 v40 k0c_13, Res.obj 68 ok0 [.int .i64 k0c_0, vk0_s, vk0_r, v32, v34, vk0_picks, .int .i64 k0c_6, v36, .int .i64 k0c_8, .int .i64 k0c_9, .int .i64 k0c_10, v38, .bool k0c_12, v40], Res.sl (Ek.pair (Ek.int .u8) (Ek.pair (Ek.int .u8) (Ek.pair Ek.bool Ek.str))) 31 v16 q13.1]) (tail := ow) (rs' := [Res.sl (Ek.pair Ek.str (Ek.pair Ek.bool (Ek.pair (Ek.int .i64) Ek.bool))) 81 v26 k0c_1c_4, Res.obj 79 vk0_s [.int .i64 k0c_1c_0, .int .i64 k0c_1c_1, .int .i64 k0c_1c_2, .int .i64 k0c_1c_3, v26], Res.map (fun x : ByteArray => Value.string x) v29 k0c_2c_2, Res.obj 74 vk0_r [.int .i64 k0c_2c_0, .int .i64 k0c_2c_1, v29], Res.sl (Ek.pair (Ek.int .i64) (Ek.pair (Ek.int .i64) (Ek.pair (Ek.int .u8) (Ek.pair (Ek.int .u8) (Ek.pair Ek.bool Ek.str))))) 88 v32 k0c_3, Res.sl (Ek.pair (Ek.int .i64) (Ek.pair (Ek.int .i64) (Ek.pair (Ek.int .u8) (Ek.pair (Ek.int .u8) (Ek.pair Ek.bool Ek.str))))) 88 v34 k0c_4, Res.map (fun x : Int => Value.int .i64 x) v36 k0c_7, Res.sl Ek.str 9 v38 k0c_11, Res.sl (Ek.int .i64) 3 v40 k0c_13, Res.obj 68 ok0 [.int .i64 k0c_0, vk0_s, vk0_r, v32, v34, vk0_picks, .int .i64 k0c_6, v36, .int .i64 k0c_8, .int .i64 k0c_9, .int .i64 k0c_10, v38, .bool k0c_12, v40]]) hp [0, 1, 2, 3, 4, 5, 6, 7, 8, 9] (by decide) (by simp) rfl
   exact rnd_r (by simp) ⟨rfl, _, _, _, _, _, _, _, hf.sub ⟨rfl, rfl, trivial⟩, hp⟩
  clear hl hf hp
  intro e a w hne hO
  rcases q142 with q143 | q144
  ·
   replace h := smL h
   obtain ⟨rfl, v43, v46, v49, v51, v53, v55, v57, hf, hp⟩ := hO
   refine ib_same ?_
   refine th_n ?_
   refine wp_seq ?_
   refine wp_reg ?_
   refine st_move hf rfl rfl (by decide) ?_
   clear hf; intro a ha hf; clear ha
   refine st_move hf rfl rfl (by decide) ?_
   clear hf; intro a ha hf; clear ha
   obtain ⟨q145, hcall146, h⟩ := bnd h
   have hp : Hp _ _ _ (Res.obj 79 vk0_s [.int .i64 q143.2.1, .int .i64 q143.2.2.1, .int .i64 q143.2.2.2.1, .int .i64 q143.2.2.2.2.1, v43] :: Res.sl (Ek.pair Ek.str (Ek.pair Ek.bool (Ek.pair (Ek.int .i64) Ek.bool))) 81 v43 q143.2.2.2.2.2.1 :: Res.map (fun x : ByteArray => Value.string x) v46 q143.2.2.2.2.2.2.2.2.1 :: Res.obj 74 vk0_r [.int .i64 q143.2.2.2.2.2.2.1, .int .i64 q143.2.2.2.2.2.2.2.1, v46] :: Res.sl (Ek.pair (Ek.int .i64) (Ek.pair (Ek.int .i64) (Ek.pair (Ek.int .u8) (Ek.pair (Ek.int .u8) (Ek.pair Ek.bool Ek.str))))) 88 v49 q143.2.2.2.2.2.2.2.2.2.1 :: Res.sl (Ek.pair (Ek.int .i64) (Ek.pair (Ek.int .i64) (Ek.pair (Ek.int .u8) (Ek.pair (Ek.int .u8) (Ek.pair Ek.bool Ek.str))))) 88 v51 q143.2.2.2.2.2.2.2.2.2.2.1 :: Res.map (fun x : Int => Value.int .i64 x) v53 q143.2.2.2.2.2.2.2.2.2.2.2.2.1 :: Res.sl Ek.str 9 v55 q143.2.2.2.2.2.2.2.2.2.2.2.2.2.2.2.2.1 :: Res.sl (Ek.int .i64) 3 v57 q143.2.2.2.2.2.2.2.2.2.2.2.2.2.2.2.2.2.2 :: Res.obj 68 ok0 [.int .i64 q143.1, vk0_s, vk0_r, v49, v51, vk0_picks, .int .i64 q143.2.2.2.2.2.2.2.2.2.2.2.1, v53, .int .i64 q143.2.2.2.2.2.2.2.2.2.2.2.2.2.1, .int .i64 q143.2.2.2.2.2.2.2.2.2.2.2.2.2.2.1, .int .i64 q143.2.2.2.2.2.2.2.2.2.2.2.2.2.2.2.1, v55, .bool q143.2.2.2.2.2.2.2.2.2.2.2.2.2.2.2.2.2.1, v57] :: ow) := Hp.sel (pre := [Res.sl (Ek.pair Ek.str (Ek.pair Ek.bool (Ek.pair (Ek.int .i64) Ek.bool))) 81 v43 q143.2.2.2.2.2.1, Res.obj 79 vk0_s [.int .i64 q143.2.1, .int .i64 q143.2.2.1, .int .i64 q143.2.2.2.1, .int .i64 q143.2.2.2.2.1, v43], Res.map (fun x : ByteArray => Value.string x) v46 q143.2.2.2.2.2.2.2.2.1, Res.obj 74 vk0_r [.int .i64 q143.2.2.2.2.2.2.1, .int .i64 q143.2.2.2.2.2.2.2.1, v46], Res.sl (Ek.pair (Ek.int .i64) (Ek.pair (Ek.int .i64) (Ek.pair (Ek.int .u8) (Ek.pair (Ek.int .u8) (Ek.pair Ek.bool Ek.str))))) 88 v49 q143.2.2.2.2.2.2.2.2.2.1, Res.sl (Ek.pair (Ek.int .i64) (Ek.pair (Ek.int .i64) (Ek.pair (Ek.int .u8) (Ek.pair (Ek.int .u8) (Ek.pair Ek.bool Ek.str))))) 88 v51 q143.2.2.2.2.2.2.2.2.2.2.1, Res.map (fun x : Int => Value.int .i64 x) v53 q143.2.2.2.2.2.2.2.2.2.2.2.2.1, Res.sl Ek.str 9 v55 q143.2.2.2.2.2.2.2.2.2.2.2.2.2.2.2.2.1, Res.sl (Ek.int .i64) 3 v57 q143.2.2.2.2.2.2.2.2.2.2.2.2.2.2.2.2.2.2, Res.obj 68 ok0 [.int .i64 q143.1, vk0_s, vk0_r, v49, v51, vk0_picks, .int .i64 q143.2.2.2.2.2.2.2.2.2.2.2.1, v53, .int .i64 q143.2.2.2.2.2.2.2.2.2.2.2.2.2.1, .int .i64 q143.2.2.2.2.2.2.2.2.2.2.2.2.2.2.1, .int .i64 q143.2.2.2.2.2.2.2.2.2.2.2.2.2.2.2.1, v55, .bool q143.2.2.2.2.2.2.2.2.2.2.2.2.2.2.2.2.2.1, v57]]) (tail := ow) (rs' := [Res.obj 79 vk0_s [.int .i64 q143.2.1, .int .i64 q143.2.2.1, .int .i64 q143.2.2.2.1, .int .i64 q143.2.2.2.2.1, v43], Res.sl (Ek.pair Ek.str (Ek.pair Ek.bool (Ek.pair (Ek.int .i64) Ek.bool))) 81 v43 q143.2.2.2.2.2.1, Res.map (fun x : ByteArray => Value.string x) v46 q143.2.2.2.2.2.2.2.2.1, Res.obj 74 vk0_r [.int .i64 q143.2.2.2.2.2.2.1, .int .i64 q143.2.2.2.2.2.2.2.1, v46], Res.sl (Ek.pair (Ek.int .i64) (Ek.pair (Ek.int .i64) (Ek.pair (Ek.int .u8) (Ek.pair (Ek.int .u8) (Ek.pair Ek.bool Ek.str))))) 88 v49 q143.2.2.2.2.2.2.2.2.2.1, Res.sl (Ek.pair (Ek.int .i64) (Ek.pair (Ek.int .i64) (Ek.pair (Ek.int .u8) (Ek.pair (Ek.int .u8) (Ek.pair Ek.bool Ek.str))))) 88 v51 q143.2.2.2.2.2.2.2.2.2.2.1, Res.map (fun x : Int => Value.int .i64 x) v53 q143.2.2.2.2.2.2.2.2.2.2.2.2.1, Res.sl Ek.str 9 v55 q143.2.2.2.2.2.2.2.2.2.2.2.2.2.2.2.2.1, Res.sl (Ek.int .i64) 3 v57 q143.2.2.2.2.2.2.2.2.2.2.2.2.2.2.2.2.2.2, Res.obj 68 ok0 [.int .i64 q143.1, vk0_s, vk0_r, v49, v51, vk0_picks, .int .i64 q143.2.2.2.2.2.2.2.2.2.2.2.1, v53, .int .i64 q143.2.2.2.2.2.2.2.2.2.2.2.2.2.1, .int .i64 q143.2.2.2.2.2.2.2.2.2.2.2.2.2.2.1, .int .i64 q143.2.2.2.2.2.2.2.2.2.2.2.2.2.2.2.1, v55, .bool q143.2.2.2.2.2.2.2.2.2.2.2.2.2.2.2.2.2.1, v57]]) hp [1, 0, 2, 3, 4, 5, 6, 7, 8, 9] (by decide) (by simp) rfl
   replace hp : Hp _ _ _ (Res.opt pk79 vk0_s (some (q143.2.1, q143.2.2.1, q143.2.2.2.1, q143.2.2.2.2.1, q143.2.2.2.2.2.1)) :: _ :: _ :: _ :: _ :: _ :: _ :: _ :: _ :: ow) := pk79_out (s := (q143.2.1, q143.2.2.1, q143.2.2.2.1, q143.2.2.2.2.1, q143.2.2.2.2.2.1)) (u := v43) hp
   have hp : Hp _ _ _ (_ :: _ :: _ :: _ :: _ :: _ :: _ :: _ :: _ :: ow) := Hp.sel (pre := [Res.opt pk79 vk0_s (some (q143.2.1, q143.2.2.1, q143.2.2.2.1, q143.2.2.2.2.1, q143.2.2.2.2.2.1)), Res.map (fun x : ByteArray => Value.string x) v46 q143.2.2.2.2.2.2.2.2.1, Res.obj 74 vk0_r [.int .i64 q143.2.2.2.2.2.2.1, .int .i64 q143.2.2.2.2.2.2.2.1, v46], Res.sl (Ek.pair (Ek.int .i64) (Ek.pair (Ek.int .i64) (Ek.pair (Ek.int .u8) (Ek.pair (Ek.int .u8) (Ek.pair Ek.bool Ek.str))))) 88 v49 q143.2.2.2.2.2.2.2.2.2.1, Res.sl (Ek.pair (Ek.int .i64) (Ek.pair (Ek.int .i64) (Ek.pair (Ek.int .u8) (Ek.pair (Ek.int .u8) (Ek.pair Ek.bool Ek.str))))) 88 v51 q143.2.2.2.2.2.2.2.2.2.2.1, Res.map (fun x : Int => Value.int .i64 x) v53 q143.2.2.2.2.2.2.2.2.2.2.2.2.1, Res.sl Ek.str 9 v55 q143.2.2.2.2.2.2.2.2.2.2.2.2.2.2.2.2.1, Res.sl (Ek.int .i64) 3 v57 q143.2.2.2.2.2.2.2.2.2.2.2.2.2.2.2.2.2.2, Res.obj 68 ok0 [.int .i64 q143.1, vk0_s, vk0_r, v49, v51, vk0_picks, .int .i64 q143.2.2.2.2.2.2.2.2.2.2.2.1, v53, .int .i64 q143.2.2.2.2.2.2.2.2.2.2.2.2.2.1, .int .i64 q143.2.2.2.2.2.2.2.2.2.2.2.2.2.2.1, .int .i64 q143.2.2.2.2.2.2.2.2.2.2.2.2.2.2.2.1, v55, .bool q143.2.2.2.2.2.2.2.2.2.2.2.2.2.2.2.2.2.1, v57]]) (tail := ow) (rs' := [Res.obj 74 vk0_r [.int .i64 q143.2.2.2.2.2.2.1, .int .i64 q143.2.2.2.2.2.2.2.1, v46], Res.map (fun x : ByteArray => Value.string x) v46 q143.2.2.2.2.2.2.2.2.1, Res.opt pk79 vk0_s (some (q143.2.1, q143.2.2.1, q143.2.2.2.1, q143.2.2.2.2.1, q143.2.2.2.2.2.1)), Res.sl (Ek.pair (Ek.int .i64) (Ek.pair (Ek.int .i64) (Ek.pair (Ek.int .u8) (Ek.pair (Ek.int .u8) (Ek.pair Ek.bool Ek.str))))) 88 v49 q143.2.2.2.2.2.2.2.2.2.1, Res.sl (Ek.pair (Ek.int .i64) (Ek.pair (Ek.int .i64) (Ek.pair (Ek.int .u8) (Ek.pair (Ek.int .u8) (Ek.pair Ek.bool Ek.str))))) 88 v51 q143.2.2.2.2.2.2.2.2.2.2.1, Res.map (fun x : Int => Value.int .i64 x) v53 q143.2.2.2.2.2.2.2.2.2.2.2.2.1, Res.sl Ek.str 9 v55 q143.2.2.2.2.2.2.2.2.2.2.2.2.2.2.2.2.1, Res.sl (Ek.int .i64) 3 v57 q143.2.2.2.2.2.2.2.2.2.2.2.2.2.2.2.2.2.2, Res.obj 68 ok0 [.int .i64 q143.1, vk0_s, vk0_r, v49, v51, vk0_picks, .int .i64 q143.2.2.2.2.2.2.2.2.2.2.2.1, v53, .int .i64 q143.2.2.2.2.2.2.2.2.2.2.2.2.2.1, .int .i64 q143.2.2.2.2.2.2.2.2.2.2.2.2.2.2.1, .int .i64 q143.2.2.2.2.2.2.2.2.2.2.2.2.2.2.2.1, v55, .bool q143.2.2.2.2.2.2.2.2.2.2.2.2.2.2.2.2.2.1, v57]]) hp [2, 1, 0, 3, 4, 5, 6, 7, 8] (by decide) (by simp) rfl
   replace hp : Hp _ _ _ (Res.opt pk74 vk0_r (some (q143.2.2.2.2.2.2.1, q143.2.2.2.2.2.2.2.1, q143.2.2.2.2.2.2.2.2.1)) :: _ :: _ :: _ :: _ :: _ :: _ :: _ :: ow) := pk74_out (s := (q143.2.2.2.2.2.2.1, q143.2.2.2.2.2.2.2.1, q143.2.2.2.2.2.2.2.2.1)) (u := v46) hp
   have hp147 : Hp _ _ _ (Res.opt pk79 vk0_s (some (q143.2.1, q143.2.2.1, q143.2.2.2.1, q143.2.2.2.2.1, q143.2.2.2.2.2.1)) :: Res.opt pk74 vk0_r (some (q143.2.2.2.2.2.2.1, q143.2.2.2.2.2.2.2.1, q143.2.2.2.2.2.2.2.2.1)) :: Res.sl (Ek.pair (Ek.int .i64) (Ek.pair (Ek.int .i64) (Ek.pair (Ek.int .u8) (Ek.pair (Ek.int .u8) (Ek.pair Ek.bool Ek.str))))) 88 v49 q143.2.2.2.2.2.2.2.2.2.1 :: Res.sl (Ek.pair (Ek.int .i64) (Ek.pair (Ek.int .i64) (Ek.pair (Ek.int .u8) (Ek.pair (Ek.int .u8) (Ek.pair Ek.bool Ek.str))))) 88 v51 q143.2.2.2.2.2.2.2.2.2.2.1 :: Res.map (fun x : Int => Value.int .i64 x) v53 q143.2.2.2.2.2.2.2.2.2.2.2.2.1 :: Res.sl Ek.str 9 v55 q143.2.2.2.2.2.2.2.2.2.2.2.2.2.2.2.2.1 :: Res.sl (Ek.int .i64) 3 v57 q143.2.2.2.2.2.2.2.2.2.2.2.2.2.2.2.2.2.2 :: Res.obj 68 ok0 [.int .i64 q143.1, vk0_s, vk0_r, v49, v51, vk0_picks, .int .i64 q143.2.2.2.2.2.2.2.2.2.2.2.1, v53, .int .i64 q143.2.2.2.2.2.2.2.2.2.2.2.2.2.1, .int .i64 q143.2.2.2.2.2.2.2.2.2.2.2.2.2.2.1, .int .i64 q143.2.2.2.2.2.2.2.2.2.2.2.2.2.2.2.1, v55, .bool q143.2.2.2.2.2.2.2.2.2.2.2.2.2.2.2.2.2.1, v57] :: ow) := Hp.sel (pre := [Res.opt pk74 vk0_r (some (q143.2.2.2.2.2.2.1, q143.2.2.2.2.2.2.2.1, q143.2.2.2.2.2.2.2.2.1)), Res.opt pk79 vk0_s (some (q143.2.1, q143.2.2.1, q143.2.2.2.1, q143.2.2.2.2.1, q143.2.2.2.2.2.1)), Res.sl (Ek.pair (Ek.int .i64) (Ek.pair (Ek.int .i64) (Ek.pair (Ek.int .u8) (Ek.pair (Ek.int .u8) (Ek.pair Ek.bool Ek.str))))) 88 v49 q143.2.2.2.2.2.2.2.2.2.1, Res.sl (Ek.pair (Ek.int .i64) (Ek.pair (Ek.int .i64) (Ek.pair (Ek.int .u8) (Ek.pair (Ek.int .u8) (Ek.pair Ek.bool Ek.str))))) 88 v51 q143.2.2.2.2.2.2.2.2.2.2.1, Res.map (fun x : Int => Value.int .i64 x) v53 q143.2.2.2.2.2.2.2.2.2.2.2.2.1, Res.sl Ek.str 9 v55 q143.2.2.2.2.2.2.2.2.2.2.2.2.2.2.2.2.1, Res.sl (Ek.int .i64) 3 v57 q143.2.2.2.2.2.2.2.2.2.2.2.2.2.2.2.2.2.2, Res.obj 68 ok0 [.int .i64 q143.1, vk0_s, vk0_r, v49, v51, vk0_picks, .int .i64 q143.2.2.2.2.2.2.2.2.2.2.2.1, v53, .int .i64 q143.2.2.2.2.2.2.2.2.2.2.2.2.2.1, .int .i64 q143.2.2.2.2.2.2.2.2.2.2.2.2.2.2.1, .int .i64 q143.2.2.2.2.2.2.2.2.2.2.2.2.2.2.2.1, v55, .bool q143.2.2.2.2.2.2.2.2.2.2.2.2.2.2.2.2.2.1, v57]]) (tail := ow) (rs' := [Res.opt pk79 vk0_s (some (q143.2.1, q143.2.2.1, q143.2.2.2.1, q143.2.2.2.2.1, q143.2.2.2.2.2.1)), Res.opt pk74 vk0_r (some (q143.2.2.2.2.2.2.1, q143.2.2.2.2.2.2.2.1, q143.2.2.2.2.2.2.2.2.1)), Res.sl (Ek.pair (Ek.int .i64) (Ek.pair (Ek.int .i64) (Ek.pair (Ek.int .u8) (Ek.pair (Ek.int .u8) (Ek.pair Ek.bool Ek.str))))) 88 v49 q143.2.2.2.2.2.2.2.2.2.1, Res.sl (Ek.pair (Ek.int .i64) (Ek.pair (Ek.int .i64) (Ek.pair (Ek.int .u8) (Ek.pair (Ek.int .u8) (Ek.pair Ek.bool Ek.str))))) 88 v51 q143.2.2.2.2.2.2.2.2.2.2.1, Res.map (fun x : Int => Value.int .i64 x) v53 q143.2.2.2.2.2.2.2.2.2.2.2.2.1, Res.sl Ek.str 9 v55 q143.2.2.2.2.2.2.2.2.2.2.2.2.2.2.2.2.1, Res.sl (Ek.int .i64) 3 v57 q143.2.2.2.2.2.2.2.2.2.2.2.2.2.2.2.2.2.2, Res.obj 68 ok0 [.int .i64 q143.1, vk0_s, vk0_r, v49, v51, vk0_picks, .int .i64 q143.2.2.2.2.2.2.2.2.2.2.2.1, v53, .int .i64 q143.2.2.2.2.2.2.2.2.2.2.2.2.2.1, .int .i64 q143.2.2.2.2.2.2.2.2.2.2.2.2.2.2.1, .int .i64 q143.2.2.2.2.2.2.2.2.2.2.2.2.2.2.2.1, v55, .bool q143.2.2.2.2.2.2.2.2.2.2.2.2.2.2.2.2.2.1, v57]]) hp [1, 0, 2, 3, 4, 5, 6, 7] (by decide) (by simp) rfl
   refine st_call hf (by decide) Try.func33 rfl rfl rfl rfl rfl (f_foghornlaw28_link_come_c _ _ _ _ _ _ _ _ _ _ _ hk0_picks _ _ _ _ _ _ _ _ _ _ _ _ _ hp147 hcall146) ?_
   rintro _ w ⟨v148, v149, v150, v151, v152, rfl, hp0⟩
   clear hp; have hp := hp0; clear hp0
   replace hp : Hp _ _ _ (Res.opt pk79 vk0_s q145.2.2.1 :: Res.opt pk74 vk0_r q145.2.2.2.1 :: Res.sl (Ek.pair (Ek.int .i64) (Ek.pair (Ek.int .i64) (Ek.pair (Ek.int .u8) (Ek.pair (Ek.int .u8) (Ek.pair Ek.bool Ek.str))))) 88 v148 q145.2.2.2.2.1 :: Res.sl (Ek.pair (Ek.int .i64) (Ek.pair (Ek.int .i64) (Ek.pair (Ek.int .u8) (Ek.pair (Ek.int .u8) (Ek.pair Ek.bool Ek.str))))) 88 v149 q145.2.2.2.2.2.1 :: Res.map (fun x : Int => Value.int .i64 x) v150 q145.2.2.2.2.2.2.2.2.1 :: Res.sl Ek.str 9 v151 q145.2.2.2.2.2.2.2.2.2.2.2.2.1 :: Res.sl (Ek.int .i64) 3 v152 q145.2.2.2.2.2.2.2.2.2.2.2.2.2.2 :: Res.obj 68 ok0 [.int .i64 q145.2.1, vk0_s, vk0_r, v148, v149, vk0_picks, .int .i64 q145.2.2.2.2.2.2.2.1, v150, .int .i64 q145.2.2.2.2.2.2.2.2.2.1, .int .i64 q145.2.2.2.2.2.2.2.2.2.2.1, .int .i64 q145.2.2.2.2.2.2.2.2.2.2.2.1, v151, .bool q145.2.2.2.2.2.2.2.2.2.2.2.2.2.1, v152] :: ow) := hp
   refine ⟨_, rfl, ?_⟩
   clear hf; intro a hf
   refine st_assign hf rfl rfl (by decide) ?_
   clear hf; intro a ha hf; clear ha
   refine st_nil hf ?_
   refine th_n ?_
   refine wp_ret ?_
   obtain rfl := Option.some.inj h
   exact ⟨rfl, ⟨_, _, _, _, _, hf.sub ⟨rfl, trivial⟩, hp⟩⟩
  replace h := smR h
  obtain ⟨rfl, x0, x1, x2, x3, x4, hf, hp⟩ := hO
  refine ib_r ?_
  refine th_r ?_
  obtain rfl := Option.some.inj h
  exact ⟨rfl, ⟨_, _, _, _, _, hf.sub ⟨rfl, trivial⟩, hp⟩⟩

end Go.Proofs.Ytmdigffgmohcnaa
