/- The functions foghorn foghornlaw28.AgainOnce: what each answers, as a plain function, and that its call answers it; printed by gen.py. -/
import Derived.Test.YtmdigffgmohcnaaProg
import Derived.Test.YtmdigffgmohcnaaGlUb
import Derived.KernelRfl
import Derived.Test.YtmdigffgmohcnaaG4p4
set_option linter.unusedVariables false
set_option linter.unusedSimpArgs false
set_option maxRecDepth 100000
set_option maxHeartbeats 4000000
namespace Go.Proofs.Ytmdigffgmohcnaa
open GL
noncomputable def f_foghornlaw28_AgainOnce.s1c (many2 : Int) (sx9c_0 : Int) (sx9c_1 : Int) (sx9c_2 : Int) (sx9c_3 : Int) (sx9c_4 : (List (ByteArray × Bool × Int × Bool))) (r11c_0 : Int) (r11c_1 : Int) (r11c_2 : (List (Int × ByteArray))) (k13c_0 : Int) (k13c_3 : (List (Int × Int × (Int × Int × Bool × ByteArray)))) (k13c_4 : (List (Int × Int × (Int × Int × Bool × ByteArray)))) (k13c_6 : Int) (k13c_7 : (List (Int × Int))) (k13c_8 : Int) (k13c_9 : Int) (k13c_10 : Int) (k13c_11 : (List ByteArray)) (k13c_12 : Bool) (k13c_13 : (List Int)) (i14 : Int) : Option ((Int × Int × Int × Int × (List (ByteArray × Bool × Int × Bool)) × Int × Int × (List (Int × ByteArray)) × Int × (List (Int × Int × (Int × Int × Bool × ByteArray))) × (List (Int × Int × (Int × Int × Bool × ByteArray))) × Int × (List (Int × Int)) × Int × Int × Int × (List ByteArray) × Bool × (List Int) × Int) ⊕ ((Int × Int × Int × Int × (List (ByteArray × Bool × Int × Bool)) × Int × Int × (List (Int × ByteArray)) × Int × (List (Int × Int × (Int × Int × Bool × ByteArray))) × (List (Int × Int × (Int × Int × Bool × ByteArray))) × Int × (List (Int × Int)) × Int × Int × Int × (List ByteArray) × Bool × (List Int)) ⊕ Bool)) := (if (decide (i14 < (IntKind.i64.wrap (((IntKind.u64.wrap many2)).tmod (400 : Int))))) = true then ((f_again_Sender_Offer sx9c_0 sx9c_1 sx9c_2 sx9c_3 sx9c_4 (bstr ([(IntKind.u8.wrap i14), (IntKind.u8.wrap (IntKind.i64.wrap ((i14).tdiv (256 : Int))))]))).bind fun q68 => (if (q68.1 != (0 : Int)) = true then (some (Sum.inr (Sum.inr false))) else (some (Sum.inl (q68.2.1, q68.2.2.1, q68.2.2.2.1, q68.2.2.2.2.1, q68.2.2.2.2.2, r11c_0, r11c_1, r11c_2, k13c_0, k13c_3, k13c_4, k13c_6, k13c_7, k13c_8, k13c_9, k13c_10, k13c_11, k13c_12, k13c_13, (IntKind.i64.wrap (i14 + (1 : Int)))))))) else (some (Sum.inr (Sum.inl (sx9c_0, sx9c_1, sx9c_2, sx9c_3, sx9c_4, r11c_0, r11c_1, r11c_2, k13c_0, k13c_3, k13c_4, k13c_6, k13c_7, k13c_8, k13c_9, k13c_10, k13c_11, k13c_12, k13c_13)))))
noncomputable def f_foghornlaw28_AgainOnce.s1 (many2 : Int) (s : (Int × Int × Int × Int × (List (ByteArray × Bool × Int × Bool)) × Int × Int × (List (Int × ByteArray)) × Int × (List (Int × Int × (Int × Int × Bool × ByteArray))) × (List (Int × Int × (Int × Int × Bool × ByteArray))) × Int × (List (Int × Int)) × Int × Int × Int × (List ByteArray) × Bool × (List Int) × Int)) : Option ((Int × Int × Int × Int × (List (ByteArray × Bool × Int × Bool)) × Int × Int × (List (Int × ByteArray)) × Int × (List (Int × Int × (Int × Int × Bool × ByteArray))) × (List (Int × Int × (Int × Int × Bool × ByteArray))) × Int × (List (Int × Int)) × Int × Int × Int × (List ByteArray) × Bool × (List Int) × Int) ⊕ ((Int × Int × Int × Int × (List (ByteArray × Bool × Int × Bool)) × Int × Int × (List (Int × ByteArray)) × Int × (List (Int × Int × (Int × Int × Bool × ByteArray))) × (List (Int × Int × (Int × Int × Bool × ByteArray))) × Int × (List (Int × Int)) × Int × Int × Int × (List ByteArray) × Bool × (List Int)) ⊕ Bool)) := f_foghornlaw28_AgainOnce.s1c many2 s.1 s.2.1 s.2.2.1 s.2.2.2.1 s.2.2.2.2.1 s.2.2.2.2.2.1 s.2.2.2.2.2.2.1 s.2.2.2.2.2.2.2.1 s.2.2.2.2.2.2.2.2.1 s.2.2.2.2.2.2.2.2.2.1 s.2.2.2.2.2.2.2.2.2.2.1 s.2.2.2.2.2.2.2.2.2.2.2.1 s.2.2.2.2.2.2.2.2.2.2.2.2.1 s.2.2.2.2.2.2.2.2.2.2.2.2.2.1 s.2.2.2.2.2.2.2.2.2.2.2.2.2.2.1 s.2.2.2.2.2.2.2.2.2.2.2.2.2.2.2.1 s.2.2.2.2.2.2.2.2.2.2.2.2.2.2.2.2.1 s.2.2.2.2.2.2.2.2.2.2.2.2.2.2.2.2.2.1 s.2.2.2.2.2.2.2.2.2.2.2.2.2.2.2.2.2.2.1 s.2.2.2.2.2.2.2.2.2.2.2.2.2.2.2.2.2.2.2
noncomputable def f_foghornlaw28_AgainOnce.s3c (many2 : Int) (q128 : (Bool × (Int × (Option (Int × Int × Int × Int × (List (ByteArray × Bool × Int × Bool)))) × (Option (Int × Int × (List (Int × ByteArray)))) × (List (Int × Int × (Int × Int × Bool × ByteArray))) × (List (Int × Int × (Int × Int × Bool × ByteArray))) × (List Int) × Int × (List (Int × Int)) × Int × Int × Int × (List ByteArray) × Bool × (List Int)))) (i17 : Int) : Option (Int ⊕ (Unit ⊕ Bool)) := (if (decide (i17 < (q128.2.2.2.2.2.2.2.2.2.2.2.2.1.length : Int))) = true then ((if (decide ((IntKind.i64.wrap (((IntKind.u64.wrap many2)).tmod (400 : Int))) ≤ i17)) = true then (some true) else (if 0 ≤ i17 ∧ i17 < (q128.2.2.2.2.2.2.2.2.2.2.2.2.1.length : Int) then (some (!seq (gt q128.2.2.2.2.2.2.2.2.2.2.2.2.1 i17) (bstr ([(IntKind.u8.wrap i17), (IntKind.u8.wrap (IntKind.i64.wrap ((i17).tdiv (256 : Int))))])))) else none)).bind fun z167 => (if z167 = true then (some (Sum.inr (Sum.inr false))) else (some (Sum.inl (IntKind.i64.wrap (i17 + (1 : Int))))))) else (some (Sum.inr (Sum.inl ()))))
noncomputable def f_foghornlaw28_AgainOnce.s3 (many2 : Int) (q128 : (Bool × (Int × (Option (Int × Int × Int × Int × (List (ByteArray × Bool × Int × Bool)))) × (Option (Int × Int × (List (Int × ByteArray)))) × (List (Int × Int × (Int × Int × Bool × ByteArray))) × (List (Int × Int × (Int × Int × Bool × ByteArray))) × (List Int) × Int × (List (Int × Int)) × Int × Int × Int × (List ByteArray) × Bool × (List Int)))) (s : Int) : Option (Int ⊕ (Unit ⊕ Bool)) := f_foghornlaw28_AgainOnce.s3c many2 q128 s
noncomputable def f_foghornlaw28_AgainOnce.s2c (wait1 : Int) (many2 : Int) (picks3 : (List Int)) (sx9c_0 : Int) (sx9c_1 : Int) (sx9c_2 : Int) (sx9c_3 : Int) (sx9c_4 : (List (ByteArray × Bool × Int × Bool))) (r11c_0 : Int) (r11c_1 : Int) (r11c_2 : (List (Int × ByteArray))) (k13c_0 : Int) (k13c_3 : (List (Int × Int × (Int × Int × Bool × ByteArray)))) (k13c_4 : (List (Int × Int × (Int × Int × Bool × ByteArray)))) (k13c_6 : Int) (k13c_7 : (List (Int × Int))) (k13c_8 : Int) (k13c_9 : Int) (k13c_10 : Int) (k13c_11 : (List ByteArray)) (k13c_12 : Bool) (k13c_13 : (List Int)) (now16 : Int) : Option ((Int × Int × Int × Int × (List (ByteArray × Bool × Int × Bool)) × Int × Int × (List (Int × ByteArray)) × Int × (List (Int × Int × (Int × Int × Bool × ByteArray))) × (List (Int × Int × (Int × Int × Bool × ByteArray))) × Int × (List (Int × Int)) × Int × Int × Int × (List ByteArray) × Bool × (List Int) × Int) ⊕ ((Int × Int × Int × Int × (List (ByteArray × Bool × Int × Bool)) × Int × Int × (List (Int × ByteArray)) × Int × (List (Int × Int × (Int × Int × Bool × ByteArray))) × (List (Int × Int × (Int × Int × Bool × ByteArray))) × Int × (List (Int × Int)) × Int × Int × Int × (List ByteArray) × Bool × (List Int)) ⊕ Bool)) := ((if (decide (now16 ≤ (IntKind.i64.wrap ((IntKind.i64.wrap ((IntKind.i64.wrap ((IntKind.i64.wrap (((IntKind.u64.wrap many2)).tmod (400 : Int))) + (2 : Int))) * (8 : Int))) * (IntKind.i64.wrap ((IntKind.i64.wrap ((1 : Int) + (IntKind.i64.wrap (((IntKind.u64.wrap wait1)).tmod (30 : Int))))) + (10 : Int))))))) = true then ((f_again_Sender_Left sx9c_0 sx9c_1 sx9c_2 sx9c_3 sx9c_4).bind fun q116 => (some (decide ((0 : Int) < q116)))) else (some false)).bind fun z115 => (if z115 = true then ((f_foghornlaw28_link_tick k13c_0 (some (sx9c_0, sx9c_1, sx9c_2, sx9c_3, sx9c_4)) (some (r11c_0, r11c_1, r11c_2)) k13c_3 k13c_4 picks3 k13c_6 k13c_7 k13c_8 k13c_9 k13c_10 k13c_11 k13c_12 k13c_13 now16).bind fun q128 => (if (!q128.1) = true then (some (Sum.inr (Sum.inr false))) else (if q128.2.2.2.2.2.2.2.2.2.2.2.2.2.1 = true then (some (Sum.inr (Sum.inr true))) else ((q128.2.2.1).bind fun s141 => ((q128.2.2.2.1).bind fun s145 => ((loop (f_foghornlaw28_AgainOnce.s3 many2 q128) (0 : Int)).bind (fun q168 => sm q168 (fun q169 => (some (Sum.inl (s141.1, s141.2.1, s141.2.2.1, s141.2.2.2.1, s141.2.2.2.2, s145.1, s145.2.1, s145.2.2, q128.2.1, q128.2.2.2.2.1, q128.2.2.2.2.2.1, q128.2.2.2.2.2.2.2.1, q128.2.2.2.2.2.2.2.2.1, q128.2.2.2.2.2.2.2.2.2.1, q128.2.2.2.2.2.2.2.2.2.2.1, q128.2.2.2.2.2.2.2.2.2.2.2.1, q128.2.2.2.2.2.2.2.2.2.2.2.2.1, q128.2.2.2.2.2.2.2.2.2.2.2.2.2.1, q128.2.2.2.2.2.2.2.2.2.2.2.2.2.2, (IntKind.i64.wrap (now16 + (1 : Int))))))) (fun q170 => (some (Sum.inr (Sum.inr q170))))))))))) else (some (Sum.inr (Sum.inl (sx9c_0, sx9c_1, sx9c_2, sx9c_3, sx9c_4, r11c_0, r11c_1, r11c_2, k13c_0, k13c_3, k13c_4, k13c_6, k13c_7, k13c_8, k13c_9, k13c_10, k13c_11, k13c_12, k13c_13))))))
noncomputable def f_foghornlaw28_AgainOnce.s2 (wait1 : Int) (many2 : Int) (picks3 : (List Int)) (s : (Int × Int × Int × Int × (List (ByteArray × Bool × Int × Bool)) × Int × Int × (List (Int × ByteArray)) × Int × (List (Int × Int × (Int × Int × Bool × ByteArray))) × (List (Int × Int × (Int × Int × Bool × ByteArray))) × Int × (List (Int × Int)) × Int × Int × Int × (List ByteArray) × Bool × (List Int) × Int)) : Option ((Int × Int × Int × Int × (List (ByteArray × Bool × Int × Bool)) × Int × Int × (List (Int × ByteArray)) × Int × (List (Int × Int × (Int × Int × Bool × ByteArray))) × (List (Int × Int × (Int × Int × Bool × ByteArray))) × Int × (List (Int × Int)) × Int × Int × Int × (List ByteArray) × Bool × (List Int) × Int) ⊕ ((Int × Int × Int × Int × (List (ByteArray × Bool × Int × Bool)) × Int × Int × (List (Int × ByteArray)) × Int × (List (Int × Int × (Int × Int × Bool × ByteArray))) × (List (Int × Int × (Int × Int × Bool × ByteArray))) × Int × (List (Int × Int)) × Int × Int × Int × (List ByteArray) × Bool × (List Int)) ⊕ Bool)) := f_foghornlaw28_AgainOnce.s2c wait1 many2 picks3 s.1 s.2.1 s.2.2.1 s.2.2.2.1 s.2.2.2.2.1 s.2.2.2.2.2.1 s.2.2.2.2.2.2.1 s.2.2.2.2.2.2.2.1 s.2.2.2.2.2.2.2.2.1 s.2.2.2.2.2.2.2.2.2.1 s.2.2.2.2.2.2.2.2.2.2.1 s.2.2.2.2.2.2.2.2.2.2.2.1 s.2.2.2.2.2.2.2.2.2.2.2.2.1 s.2.2.2.2.2.2.2.2.2.2.2.2.2.1 s.2.2.2.2.2.2.2.2.2.2.2.2.2.2.1 s.2.2.2.2.2.2.2.2.2.2.2.2.2.2.2.1 s.2.2.2.2.2.2.2.2.2.2.2.2.2.2.2.2.1 s.2.2.2.2.2.2.2.2.2.2.2.2.2.2.2.2.2.1 s.2.2.2.2.2.2.2.2.2.2.2.2.2.2.2.2.2.2.1 s.2.2.2.2.2.2.2.2.2.2.2.2.2.2.2.2.2.2.2
noncomputable def f_foghornlaw28_AgainOnce (window0 : Int) (wait1 : Int) (many2 : Int) (picks3 : (List Int)) : Option Bool := ((f_foghornlaw28_works).bind fun q1 => (if (!q1) = true then (some false) else ((f_again_NewSender (IntKind.i64.wrap ((1 : Int) + (IntKind.i64.wrap (((IntKind.u64.wrap window0)).tmod (128 : Int))))) (IntKind.i64.wrap ((1 : Int) + (IntKind.i64.wrap (((IntKind.u64.wrap wait1)).tmod (30 : Int)))))).bind fun q3 => ((f_again_NewReceiver (IntKind.i64.wrap ((1 : Int) + (IntKind.i64.wrap (((IntKind.u64.wrap window0)).tmod (128 : Int)))))).bind fun q7 => (if ((((q3.2 != (0 : Int)) || (q7.2 != (0 : Int))) || ((q3.1).isNone)) || ((q7.1).isNone)) = true then (some false) else (if 0 ≤ (IntKind.i64.wrap (((IntKind.u64.wrap many2)).tmod (400 : Int))) ∧ (IntKind.i64.wrap (((IntKind.u64.wrap many2)).tmod (400 : Int))) ≤ (IntKind.i64.wrap (((IntKind.u64.wrap many2)).tmod (400 : Int))) ∧ (IntKind.i64.wrap (((IntKind.u64.wrap many2)).tmod (400 : Int))) * 8 ≤ 281474976710656 then ((q3.1).bind fun s22 => ((q7.1).bind fun s26 => ((loop (f_foghornlaw28_AgainOnce.s1 many2) (s22.1, s22.2.1, s22.2.2.1, s22.2.2.2.1, s22.2.2.2.2, s26.1, s26.2.1, s26.2.2, (IntKind.i64.wrap ((1 : Int) + (IntKind.i64.wrap (((IntKind.u64.wrap window0)).tmod (128 : Int))))), [], [], (0 : Int), ([] : (List (Int × Int))), (0 : Int), (0 : Int), (IntKind.i64.wrap (((IntKind.u64.wrap many2)).tmod (400 : Int))), [], false, (List.replicate ((IntKind.i64.wrap (((IntKind.u64.wrap many2)).tmod (400 : Int)))).toNat (0 : Int)), (0 : Int))).bind (fun q73 => sm q73 (fun q77 => ((loop (f_foghornlaw28_AgainOnce.s2 wait1 many2 picks3) (q77.1, q77.2.1, q77.2.2.1, q77.2.2.2.1, q77.2.2.2.2.1, q77.2.2.2.2.2.1, q77.2.2.2.2.2.2.1, q77.2.2.2.2.2.2.2.1, q77.2.2.2.2.2.2.2.2.1, q77.2.2.2.2.2.2.2.2.2.1, q77.2.2.2.2.2.2.2.2.2.2.1, q77.2.2.2.2.2.2.2.2.2.2.2.1, q77.2.2.2.2.2.2.2.2.2.2.2.2.1, q77.2.2.2.2.2.2.2.2.2.2.2.2.2.1, q77.2.2.2.2.2.2.2.2.2.2.2.2.2.2.1, q77.2.2.2.2.2.2.2.2.2.2.2.2.2.2.2.1, q77.2.2.2.2.2.2.2.2.2.2.2.2.2.2.2.2.1, q77.2.2.2.2.2.2.2.2.2.2.2.2.2.2.2.2.2.1, q77.2.2.2.2.2.2.2.2.2.2.2.2.2.2.2.2.2.2, (0 : Int))).bind (fun q171 => sm q171 (fun q172 => ((f_again_Sender_Left q172.1 q172.2.1 q172.2.2.1 q172.2.2.2.1 q172.2.2.2.2.1).bind fun q174 => ((if ((q174 == (0 : Int)) && ((q172.2.2.2.2.2.2.2.2.2.2.2.2.2.2.2.2.1.length : Int) == (IntKind.i64.wrap (((IntKind.u64.wrap many2)).tmod (400 : Int))))) = true then ((f_again_Receiver_Handed q172.2.2.2.2.2.1 q172.2.2.2.2.2.2.1).bind fun q191 => (some (q191 == (IntKind.i64.wrap (((IntKind.u64.wrap many2)).tmod (400 : Int)))))) else (some false)).bind fun z190 => (some z190)))) (fun q173 => (some q173))))) (fun q78 => (some q78)))))) else none))))))
theorem f_foghornlaw28_AgainOnce_c {S : Nat → Prop} {w0 w : World} {ow : List Res} (hp : Hp S w0 w ow) (window0 : Int) (wait1 : Int) (many2 : Int) (vpicks3 : Value) (picks3 : (List Int)) (hpicks3 : RdS (Ek.int .u8) S w0 vpicks3 picks3) {r : Bool} (h : f_foghornlaw28_AgainOnce window0 wait1 many2 picks3 = some r) :
   Calls Try.prog 6 #[.int .i64 window0, .int .i64 wait1, .int .i64 many2, vpicks3] w (fun e w' => e = .returned (.bool r) ∧ Hp S w0 w' (ow)) := by
  unfold f_foghornlaw28_AgainOnce at h
  refine enter (n := 155) (args := [.int .i64 window0, .int .i64 wait1, .int .i64 many2, vpicks3]) Try.func6 rfl rfl (Nat.le_of_ble_eq_true rfl) fun a hf => ?_
  replace hf : Fr 155 a [(0, .int .i64 window0), (1, .int .i64 wait1), (2, .int .i64 many2), (3, vpicks3)] := hf
  refine wp_mono (Q := fun e a w => e = .ret ∧ Fr 155 a [(8, .bool r)] ∧ Hp S w0 w (ow)) ?_ ?_
  rotate_left
  ·
   rintro e a w ⟨rfl, hf, hp⟩
   exact ret1 hf rfl rfl ⟨rfl, hp⟩
  refine wp_seq ?_
  refine wp_reg ?_
  refine st_assign hf rfl rfl (by decide) ?_
  clear hf; intro a ha hf; clear ha
  refine st_nil hf ?_
  refine th_n ?_
  refine wp_seq ?_
  refine wp_seq ?_
  refine wp_reg ?_
  obtain ⟨q1, hcall2, h⟩ := bnd h
  refine st_call hf (by decide) Try.func27 rfl rfl rfl rfl rfl (f_foghornlaw28_works_c hp  hcall2) ?_
  rintro _ w ⟨rfl, hp0⟩
  clear hp; have hp := hp0; clear hp0
  replace hp : Hp _ _ _ (ow) := hp
  refine ⟨_, rfl, ?_⟩
  clear hf; intro a hf
  refine st_not hf (by decide) rfl rfl ?_
  clear hf; intro a ha hf; clear ha
  refine st_nil hf ?_
  refine th_n ?_
  refine wp_if hf rfl (fun hb => ?_) (fun hb => ?_)
  ·
   replace h := ifT h hb
   refine wp_seq ?_
   refine wp_reg ?_
   refine st_assign hf rfl rfl (by decide) ?_
   clear hf; intro a ha hf; clear ha
   refine st_nil hf ?_
   refine th_n ?_
   refine wp_ret ?_
   refine th_r ?_
   obtain rfl := Option.some.inj h
   exact ⟨rfl, ⟨hf.sub ⟨rfl, trivial⟩, hp⟩⟩
  replace h := ifF h hb
  refine wp_skip ?_
  refine th_n ?_
  refine wp_seq ?_
  refine wp_reg ?_
  refine st_move hf rfl rfl (by decide) ?_
  clear hf; intro a ha hf; clear ha
  refine st_conv_ii hf (by decide) (by rw [Try.underlying3]; rfl) Try.underlying62 rfl rfl ?_
  clear hf; intro a ha hf; clear ha
  refine st_irem hf (by decide) rfl rfl rfl (by decide) ?_
  clear hf; intro a ha hf; clear ha
  refine st_conv_ii hf (by decide) (by rw [Try.underlying62]; rfl) Try.underlying3 rfl rfl ?_
  clear hf; intro a ha hf; clear ha
  refine st_iadd hf (by decide) rfl rfl rfl ?_
  clear hf; intro a ha hf; clear ha
  refine st_assign hf rfl rfl (by decide) ?_
  clear hf; intro a ha hf; clear ha
  refine st_nil hf ?_
  refine th_n ?_
  refine wp_seq ?_
  refine wp_reg ?_
  refine st_move hf rfl rfl (by decide) ?_
  clear hf; intro a ha hf; clear ha
  refine st_conv_ii hf (by decide) (by rw [Try.underlying3]; rfl) Try.underlying62 rfl rfl ?_
  clear hf; intro a ha hf; clear ha
  refine st_irem hf (by decide) rfl rfl rfl (by decide) ?_
  clear hf; intro a ha hf; clear ha
  refine st_conv_ii hf (by decide) (by rw [Try.underlying62]; rfl) Try.underlying3 rfl rfl ?_
  clear hf; intro a ha hf; clear ha
  refine st_iadd hf (by decide) rfl rfl rfl ?_
  clear hf; intro a ha hf; clear ha
  refine st_assign hf rfl rfl (by decide) ?_
  clear hf; intro a ha hf; clear ha
  refine st_nil hf ?_
  refine th_n ?_
  refine wp_seq ?_
  refine wp_reg ?_
  refine st_move hf rfl rfl (by decide) ?_
  clear hf; intro a ha hf; clear ha
  refine st_conv_ii hf (by decide) (by rw [Try.underlying3]; rfl) Try.underlying62 rfl rfl ?_
  clear hf; intro a ha hf; clear ha
  refine st_irem hf (by decide) rfl rfl rfl (by decide) ?_
  clear hf; intro a ha hf; clear ha
  refine st_conv_ii hf (by decide) (by rw [Try.underlying62]; rfl) Try.underlying3 rfl rfl ?_
  clear hf; intro a ha hf; clear ha
  refine st_assign hf rfl rfl (by decide) ?_
  clear hf; intro a ha hf; clear ha
  refine st_nil hf ?_
  refine th_n ?_
  refine wp_seq ?_
  refine wp_reg ?_
  refine st_move hf rfl rfl (by decide) ?_
  clear hf; intro a ha hf; clear ha
  refine st_move hf rfl rfl (by decide) ?_
  clear hf; intro a ha hf; clear ha
  obtain ⟨q3, hcall4, h⟩ := bnd h
  refine st_call hf (by decide) Try.func15 rfl rfl rfl rfl rfl (f_again_NewSender_c hp _ _ hcall4) ?_
  rintro _ w ⟨v5, rfl, hp0⟩
  clear hp; have hp := hp0; clear hp0
  replace hp : Hp _ _ _ (Res.opt pk79 v5 q3.1 :: ow) := hp
  refine ⟨_, rfl, ?_⟩
  clear hf; intro a hf
  refine st_move hf rfl rfl (by decide) ?_
  clear hf; intro a ha hf; clear ha
  refine st_extract hf (by decide) rfl rfl rfl ?_
  clear hf; intro a ha hf; clear ha
  refine st_extract hf (by decide) rfl rfl rfl ?_
  clear hf; intro a ha hf; clear ha
  refine st_assign hf rfl rfl (by decide) ?_
  clear hf; intro a ha hf; clear ha
  refine st_assign hf rfl rfl (by decide) ?_
  clear hf; intro a ha hf; clear ha
  refine st_nil hf ?_
  refine th_n ?_
  refine wp_seq ?_
  refine wp_reg ?_
  refine st_move hf rfl rfl (by decide) ?_
  clear hf; intro a ha hf; clear ha
  obtain ⟨q7, hcall8, h⟩ := bnd h
  refine st_call hf (by decide) Try.func8 rfl rfl rfl rfl rfl (f_again_NewReceiver_c hp _ hcall8) ?_
  rintro _ w ⟨v9, rfl, hp0⟩
  clear hp; have hp := hp0; clear hp0
  replace hp : Hp _ _ _ (Res.opt pk74 v9 q7.1 :: _ :: ow) := hp
  refine ⟨_, rfl, ?_⟩
  clear hf; intro a hf
  refine st_move hf rfl rfl (by decide) ?_
  clear hf; intro a ha hf; clear ha
  refine st_extract hf (by decide) rfl rfl rfl ?_
  clear hf; intro a ha hf; clear ha
  refine st_extract hf (by decide) rfl rfl rfl ?_
  clear hf; intro a ha hf; clear ha
  refine st_assign hf rfl rfl (by decide) ?_
  clear hf; intro a ha hf; clear ha
  refine st_assign hf rfl rfl (by decide) ?_
  clear hf; intro a ha hf; clear ha
  refine st_nil hf ?_
  refine th_n ?_
  refine wp_seq ?_
  refine wp_seq ?_
  refine wp_reg ?_
  refine st_move hf rfl rfl (by decide) ?_
  clear hf; intro a ha hf; clear ha
  refine st_ineq hf (by decide) rfl rfl rfl ?_
  clear hf; intro a ha hf; clear ha
  refine st_move hf rfl rfl (by decide) ?_
  clear hf; intro a ha hf; clear ha
  refine wpList_cut 3 (fun a w => Fr 155 a [(0, .int .i64 (IntKind.i64.wrap ((1 : Int) + (IntKind.i64.wrap (((IntKind.u64.wrap window0)).tmod (128 : Int)))))), (1, .int .i64 (IntKind.i64.wrap ((1 : Int) + (IntKind.i64.wrap (((IntKind.u64.wrap wait1)).tmod (30 : Int)))))), (2, .int .i64 (IntKind.i64.wrap (((IntKind.u64.wrap many2)).tmod (400 : Int)))), (3, vpicks3), (9, v5), (11, v9), (50, .bool ((q3.2 != (0 : Int)) || (q7.2 != (0 : Int))))] ∧ Hp S w0 w (Res.opt pk74 v9 q7.1 :: Res.opt pk79 v5 q3.1 :: ow)) ?_ ?_
  ·
   rcases Bool.eq_false_or_eq_true (q3.2 != (0 : Int)) with hb12 | hb12
   ·
    refine st_skip hf (wantN hf rfl rfl hb12) rfl (by decide) ?_ rfl
    clear hf; intro a hf
    refine st_skip hf (wantN hf rfl rfl hb12) rfl (by decide) ?_ rfl
    clear hf; intro a hf
    refine st_pick (v := .bool true) hf rfl rfl (fun hb' => ?_) (fun hb' => ?_) (by decide) ?_
    · rfl
    · exact absurd (hb12.symm.trans hb') (by decide)
    clear hf; intro a ha hf; clear ha
    refine st_nil hf (th_n ?_)
    exact ⟨hf.sub ⟨rfl, rfl, rfl, rfl, rfl, rfl, (by rw [hb12]; rfl), trivial⟩, hp⟩
   refine st_move hf (wantY hf rfl rfl hb12) rfl (by decide) ?_
   clear hf; intro a ha hf; clear ha
   refine st_ineq hf (by decide) (wantY hf rfl rfl hb12) rfl rfl ?_
   clear hf; intro a ha hf; clear ha
   refine st_pick (v := .bool (q7.2 != (0 : Int))) hf rfl rfl (fun hb' => ?_) (fun hb' => ?_) (by decide) ?_
   · exact absurd (hb12.symm.trans hb') (by decide)
   · rfl
   clear hf; intro a ha hf; clear ha
   refine st_nil hf (th_n ?_)
   exact ⟨hf.sub ⟨rfl, rfl, rfl, rfl, rfl, rfl, (by rw [hb12]; rfl), trivial⟩, hp⟩
  rintro a w ⟨hf, hp⟩
  refine st_move hf rfl rfl (by decide) ?_
  clear hf; intro a ha hf; clear ha
  refine wpList_cut 3 (fun a w => Fr 155 a [(0, .int .i64 (IntKind.i64.wrap ((1 : Int) + (IntKind.i64.wrap (((IntKind.u64.wrap window0)).tmod (128 : Int)))))), (1, .int .i64 (IntKind.i64.wrap ((1 : Int) + (IntKind.i64.wrap (((IntKind.u64.wrap wait1)).tmod (30 : Int)))))), (2, .int .i64 (IntKind.i64.wrap (((IntKind.u64.wrap many2)).tmod (400 : Int)))), (3, vpicks3), (9, v5), (11, v9), (54, .bool (((q3.2 != (0 : Int)) || (q7.2 != (0 : Int))) || ((q3.1).isNone)))] ∧ Hp S w0 w (Res.opt pk74 v9 q7.1 :: Res.opt pk79 v5 q3.1 :: ow)) ?_ ?_
  ·
   rcases Bool.eq_false_or_eq_true ((q3.2 != (0 : Int)) || (q7.2 != (0 : Int))) with hb14 | hb14
   ·
    refine st_skip hf (wantN hf rfl rfl hb14) rfl (by decide) ?_ rfl
    clear hf; intro a hf
    refine st_skip hf (wantN hf rfl rfl hb14) rfl (by decide) ?_ rfl
    clear hf; intro a hf
    refine st_pick (v := .bool true) hf rfl rfl (fun hb' => ?_) (fun hb' => ?_) (by decide) ?_
    · rfl
    · exact absurd (hb14.symm.trans hb') (by decide)
    clear hf; intro a ha hf; clear ha
    refine st_nil hf (th_n ?_)
    exact ⟨hf.sub ⟨rfl, rfl, rfl, rfl, rfl, rfl, (by rw [hb14]; rfl), trivial⟩, hp⟩
   refine st_move hf (wantY hf rfl rfl hb14) rfl (by decide) ?_
   clear hf; intro a ha hf; clear ha
   refine st_peql hf (by decide) Try.underlying44 (wantY hf rfl rfl hb14) rfl rfl (hp.nilB (i := 1) rfl) ?_
   clear hf; intro a ha hf; clear ha
   refine st_pick (v := .bool ((q3.1).isNone)) hf rfl rfl (fun hb' => ?_) (fun hb' => ?_) (by decide) ?_
   · exact absurd (hb14.symm.trans hb') (by decide)
   · rfl
   clear hf; intro a ha hf; clear ha
   refine st_nil hf (th_n ?_)
   exact ⟨hf.sub ⟨rfl, rfl, rfl, rfl, rfl, rfl, (by rw [hb14]; rfl), trivial⟩, hp⟩
  rintro a w ⟨hf, hp⟩
  refine st_move hf rfl rfl (by decide) ?_
  clear hf; intro a ha hf; clear ha
  refine wpList_cut 3 (fun a w => Fr 155 a [(0, .int .i64 (IntKind.i64.wrap ((1 : Int) + (IntKind.i64.wrap (((IntKind.u64.wrap window0)).tmod (128 : Int)))))), (1, .int .i64 (IntKind.i64.wrap ((1 : Int) + (IntKind.i64.wrap (((IntKind.u64.wrap wait1)).tmod (30 : Int)))))), (2, .int .i64 (IntKind.i64.wrap (((IntKind.u64.wrap many2)).tmod (400 : Int)))), (3, vpicks3), (9, v5), (11, v9), (58, .bool ((((q3.2 != (0 : Int)) || (q7.2 != (0 : Int))) || ((q3.1).isNone)) || ((q7.1).isNone)))] ∧ Hp S w0 w (Res.opt pk74 v9 q7.1 :: Res.opt pk79 v5 q3.1 :: ow)) ?_ ?_
  ·
   rcases Bool.eq_false_or_eq_true (((q3.2 != (0 : Int)) || (q7.2 != (0 : Int))) || ((q3.1).isNone)) with hb16 | hb16
   ·
    refine st_skip hf (wantN hf rfl rfl hb16) rfl (by decide) ?_ rfl
    clear hf; intro a hf
    refine st_skip hf (wantN hf rfl rfl hb16) rfl (by decide) ?_ rfl
    clear hf; intro a hf
    refine st_pick (v := .bool true) hf rfl rfl (fun hb' => ?_) (fun hb' => ?_) (by decide) ?_
    · rfl
    · exact absurd (hb16.symm.trans hb') (by decide)
    clear hf; intro a ha hf; clear ha
    refine st_nil hf (th_n ?_)
    exact ⟨hf.sub ⟨rfl, rfl, rfl, rfl, rfl, rfl, (by rw [hb16]; rfl), trivial⟩, hp⟩
   refine st_move hf (wantY hf rfl rfl hb16) rfl (by decide) ?_
   clear hf; intro a ha hf; clear ha
   refine st_peql hf (by decide) Try.underlying23 (wantY hf rfl rfl hb16) rfl rfl (hp.nilB (i := 0) rfl) ?_
   clear hf; intro a ha hf; clear ha
   refine st_pick (v := .bool ((q7.1).isNone)) hf rfl rfl (fun hb' => ?_) (fun hb' => ?_) (by decide) ?_
   · exact absurd (hb16.symm.trans hb') (by decide)
   · rfl
   clear hf; intro a ha hf; clear ha
   refine st_nil hf (th_n ?_)
   exact ⟨hf.sub ⟨rfl, rfl, rfl, rfl, rfl, rfl, (by rw [hb16]; rfl), trivial⟩, hp⟩
  rintro a w ⟨hf, hp⟩
  refine st_nil hf ?_
  refine th_n ?_
  refine wp_if hf rfl (fun hb => ?_) (fun hb => ?_)
  ·
   replace h := ifT h hb
   refine wp_seq ?_
   refine wp_reg ?_
   refine st_assign hf rfl rfl (by decide) ?_
   clear hf; intro a ha hf; clear ha
   refine st_nil hf ?_
   refine th_n ?_
   refine wp_ret ?_
   refine th_r ?_
   obtain rfl := Option.some.inj h
   have hp : Hp _ _ _ (ow) := Hp.sel (pre := [Res.opt pk74 v9 q7.1, Res.opt pk79 v5 q3.1]) (tail := ow) (rs' := []) hp [] (by decide) (by simp) rfl
   exact ⟨rfl, ⟨hf.sub ⟨rfl, trivial⟩, hp⟩⟩
  replace h := ifF h hb
  refine wp_skip ?_
  refine th_n ?_
  refine wp_seq ?_
  refine wp_reg ?_
  refine st_move hf rfl rfl (by decide) ?_
  clear hf; intro a ha hf; clear ha
  refine st_move hf rfl rfl (by decide) ?_
  clear hf; intro a ha hf; clear ha
  refine st_move hf rfl rfl (by decide) ?_
  clear hf; intro a ha hf; clear ha
  refine st_move hf rfl rfl (by decide) ?_
  clear hf; intro a ha hf; clear ha
  refine st_makeMap (enc := (fun x : Int => Value.int .i64 x)) hf (by decide) hp rfl ?_
  clear hf; intro a w g17 hf hp0; clear hp; have hp := hp0; clear hp0
  replace hp : Hp _ _ _ (Res.map (fun x : Int => Value.int .i64 x) (.map (some g17)) ([] : (List (Int × Int))) :: _ :: _ :: ow) := hp
  refine st_move hf rfl rfl (by decide) ?_
  clear hf; intro a ha hf; clear ha
  refine st_move hf rfl rfl (by decide) ?_
  clear hf; intro a ha hf; clear ha
  obtain ⟨hc19, h⟩ := chk h
  refine st_make (E := (Ek.int .i64)) hf (by decide) elt3 Try.underlying65 (by decide) hp rfl rfl rfl hc19.1 hc19.2.1 hc19.2.2 ?_
  clear hf; intro a w v20 hf hp0; clear hp; have hp := hp0; clear hp0
  replace hp : Hp _ _ _ (Res.sl (Ek.int .i64) 3 v20 (List.replicate ((IntKind.i64.wrap (((IntKind.u64.wrap many2)).tmod (400 : Int)))).toNat (0 : Int)) :: _ :: _ :: _ :: ow) := hp
  obtain ⟨s22, hs23, h⟩ := bnd h
  have hp : Hp _ _ _ (_ :: _ :: _ :: _ :: ow) := Hp.sel (pre := [Res.sl (Ek.int .i64) 3 v20 (List.replicate ((IntKind.i64.wrap (((IntKind.u64.wrap many2)).tmod (400 : Int)))).toNat (0 : Int)), Res.map (fun x : Int => Value.int .i64 x) (.map (some g17)) ([] : (List (Int × Int))), Res.opt pk74 v9 q7.1, Res.opt pk79 v5 q3.1]) (tail := ow) (rs' := [Res.opt pk79 v5 q3.1, Res.sl (Ek.int .i64) 3 v20 (List.replicate ((IntKind.i64.wrap (((IntKind.u64.wrap many2)).tmod (400 : Int)))).toNat (0 : Int)), Res.map (fun x : Int => Value.int .i64 x) (.map (some g17)) ([] : (List (Int × Int))), Res.opt pk74 v9 q7.1]) hp [3, 0, 1, 2] (by decide) (by simp) rfl
  replace hp : Hp _ _ _ (pk79.R v5 s22 :: _ :: _ :: _ :: ow) := hp.optSome hs23
  obtain ⟨v24, hp⟩ := pk79_in hp
  replace hp : Hp _ _ _ (Res.obj 79 v5 [.int .i64 s22.1, .int .i64 s22.2.1, .int .i64 s22.2.2.1, .int .i64 s22.2.2.2.1, v24] :: Res.sl (Ek.pair Ek.str (Ek.pair Ek.bool (Ek.pair (Ek.int .i64) Ek.bool))) 81 v24 s22.2.2.2.2 :: _ :: _ :: _ :: ow) := hp
  obtain ⟨s26, hs27, h⟩ := bnd h
  have hp : Hp _ _ _ (_ :: _ :: _ :: _ :: _ :: ow) := Hp.sel (pre := [Res.obj 79 v5 [.int .i64 s22.1, .int .i64 s22.2.1, .int .i64 s22.2.2.1, .int .i64 s22.2.2.2.1, v24], Res.sl (Ek.pair Ek.str (Ek.pair Ek.bool (Ek.pair (Ek.int .i64) Ek.bool))) 81 v24 s22.2.2.2.2, Res.sl (Ek.int .i64) 3 v20 (List.replicate ((IntKind.i64.wrap (((IntKind.u64.wrap many2)).tmod (400 : Int)))).toNat (0 : Int)), Res.map (fun x : Int => Value.int .i64 x) (.map (some g17)) ([] : (List (Int × Int))), Res.opt pk74 v9 q7.1]) (tail := ow) (rs' := [Res.opt pk74 v9 q7.1, Res.obj 79 v5 [.int .i64 s22.1, .int .i64 s22.2.1, .int .i64 s22.2.2.1, .int .i64 s22.2.2.2.1, v24], Res.sl (Ek.pair Ek.str (Ek.pair Ek.bool (Ek.pair (Ek.int .i64) Ek.bool))) 81 v24 s22.2.2.2.2, Res.sl (Ek.int .i64) 3 v20 (List.replicate ((IntKind.i64.wrap (((IntKind.u64.wrap many2)).tmod (400 : Int)))).toNat (0 : Int)), Res.map (fun x : Int => Value.int .i64 x) (.map (some g17)) ([] : (List (Int × Int)))]) hp [4, 0, 1, 2, 3] (by decide) (by simp) rfl
  replace hp : Hp _ _ _ (pk74.R v9 s26 :: _ :: _ :: _ :: _ :: ow) := hp.optSome hs27
  obtain ⟨v28, hp⟩ := pk74_in hp
  replace hp : Hp _ _ _ (Res.obj 74 v9 [.int .i64 s26.1, .int .i64 s26.2.1, v28] :: Res.map (fun x : ByteArray => Value.string x) v28 s26.2.2 :: _ :: _ :: _ :: _ :: ow) := hp
  refine st_buildA (vals := [(0, .int .i64 (IntKind.i64.wrap ((1 : Int) + (IntKind.i64.wrap (((IntKind.u64.wrap window0)).tmod (128 : Int)))))), (1, v5), (2, v9), (5, vpicks3), (7, (.map (some g17))), (10, .int .i64 (IntKind.i64.wrap (((IntKind.u64.wrap many2)).tmod (400 : Int)))), (13, v20)]) (cells := [.int .i64 (IntKind.i64.wrap ((1 : Int) + (IntKind.i64.wrap (((IntKind.u64.wrap window0)).tmod (128 : Int))))), v5, v9, .slice none 0 0, .slice none 0 0, vpicks3, .int .i64 (0 : Int), (.map (some g17)), .int .i64 (0 : Int), .int .i64 (0 : Int), .int .i64 (IntKind.i64.wrap (((IntKind.u64.wrap many2)).tmod (400 : Int))), .slice none 0 0, .bool false, v20]) hf (by decide) rfl (by simp [hf.ev (x := (Operand.tmp 59)) rfl, hf.ev (x := (Operand.tmp 60)) rfl, hf.ev (x := (Operand.tmp 61)) rfl, hf.ev (x := (Operand.tmp 62)) rfl, hf.ev (x := (Operand.tmp 63)) rfl, hf.ev (x := (Operand.tmp 64)) rfl, hf.ev (x := (Operand.tmp 66)) rfl]) (fun w => by obtain ⟨_, rfl, _, _⟩ := (hp.ob (i := 2) rfl); obtain ⟨_, rfl, _, _⟩ := (hp.ob (i := 0) rfl); obtain ⟨_, _, rfl⟩ := (hpicks3.sl hp).shapeV; obtain ⟨_, _, rfl⟩ := (hp.sl (i := 4) rfl).shapeV; kernel_rfl) ?_
  clear hf; intro a ha hf; clear ha
  refine st_boxO (cs := [.int .i64 (IntKind.i64.wrap ((1 : Int) + (IntKind.i64.wrap (((IntKind.u64.wrap window0)).tmod (128 : Int))))), v5, v9, .slice none 0 0, .slice none 0 0, vpicks3, .int .i64 (0 : Int), (.map (some g17)), .int .i64 (0 : Int), .int .i64 (0 : Int), .int .i64 (IntKind.i64.wrap (((IntKind.u64.wrap many2)).tmod (400 : Int))), .slice none 0 0, .bool false, v20]) hf (by decide) hp rfl rfl rfl ?_
  clear hf; intro a w v30 hf hp0; clear hp; have hp := hp0; clear hp0
  replace hp : Hp _ _ _ (Res.obj 68 v30 [.int .i64 (IntKind.i64.wrap ((1 : Int) + (IntKind.i64.wrap (((IntKind.u64.wrap window0)).tmod (128 : Int))))), v5, v9, .slice none 0 0, .slice none 0 0, vpicks3, .int .i64 (0 : Int), (.map (some g17)), .int .i64 (0 : Int), .int .i64 (0 : Int), .int .i64 (IntKind.i64.wrap (((IntKind.u64.wrap many2)).tmod (400 : Int))), .slice none 0 0, .bool false, v20] :: _ :: _ :: _ :: _ :: _ :: _ :: ow) := hp
  rw [hp.eq0] at hf
  refine st_assign hf rfl rfl (by decide) ?_
  clear hf; intro a ha hf; clear ha
  refine st_nil hf ?_
  refine th_n ?_
  refine wp_seq ?_
  refine wp_seq ?_
  refine wp_reg ?_
  refine st_assign hf rfl rfl (by decide) ?_
  clear hf; intro a ha hf; clear ha
  refine st_nil hf ?_
  refine th_n ?_
  refine wp_block ?_
  obtain ⟨q73, hl, h⟩ := bnd h
  have hp := hp.nil (Ek.pair (Ek.int .i64) (Ek.pair (Ek.int .i64) (Ek.pair (Ek.int .u8) (Ek.pair (Ek.int .u8) (Ek.pair Ek.bool Ek.str))))) 88
  have hp := hp.nil (Ek.pair (Ek.int .i64) (Ek.pair (Ek.int .i64) (Ek.pair (Ek.int .u8) (Ek.pair (Ek.int .u8) (Ek.pair Ek.bool Ek.str))))) 88
  have hp := hp.nil Ek.str 9
  have hp : Hp _ _ _ (_ :: _ :: _ :: _ :: Res.sl (Ek.pair (Ek.int .i64) (Ek.pair (Ek.int .i64) (Ek.pair (Ek.int .u8) (Ek.pair (Ek.int .u8) (Ek.pair Ek.bool Ek.str))))) 88 (.slice none 0 0) ([]) :: Res.sl (Ek.pair (Ek.int .i64) (Ek.pair (Ek.int .i64) (Ek.pair (Ek.int .u8) (Ek.pair (Ek.int .u8) (Ek.pair Ek.bool Ek.str))))) 88 (.slice none 0 0) ([]) :: _ :: Res.sl Ek.str 9 (.slice none 0 0) ([]) :: _ :: _ :: ow) := Hp.sel (pre := [Res.sl Ek.str 9 (.slice none 0 0) ([]), Res.sl (Ek.pair (Ek.int .i64) (Ek.pair (Ek.int .i64) (Ek.pair (Ek.int .u8) (Ek.pair (Ek.int .u8) (Ek.pair Ek.bool Ek.str))))) 88 (.slice none 0 0) ([]), Res.sl (Ek.pair (Ek.int .i64) (Ek.pair (Ek.int .i64) (Ek.pair (Ek.int .u8) (Ek.pair (Ek.int .u8) (Ek.pair Ek.bool Ek.str))))) 88 (.slice none 0 0) ([]), Res.obj 68 v30 [.int .i64 (IntKind.i64.wrap ((1 : Int) + (IntKind.i64.wrap (((IntKind.u64.wrap window0)).tmod (128 : Int))))), v5, v9, .slice none 0 0, .slice none 0 0, vpicks3, .int .i64 (0 : Int), (.map (some g17)), .int .i64 (0 : Int), .int .i64 (0 : Int), .int .i64 (IntKind.i64.wrap (((IntKind.u64.wrap many2)).tmod (400 : Int))), .slice none 0 0, .bool false, v20], Res.obj 74 v9 [.int .i64 s26.1, .int .i64 s26.2.1, v28], Res.map (fun x : ByteArray => Value.string x) v28 s26.2.2, Res.obj 79 v5 [.int .i64 s22.1, .int .i64 s22.2.1, .int .i64 s22.2.2.1, .int .i64 s22.2.2.2.1, v24], Res.sl (Ek.pair Ek.str (Ek.pair Ek.bool (Ek.pair (Ek.int .i64) Ek.bool))) 81 v24 s22.2.2.2.2, Res.sl (Ek.int .i64) 3 v20 (List.replicate ((IntKind.i64.wrap (((IntKind.u64.wrap many2)).tmod (400 : Int)))).toNat (0 : Int)), Res.map (fun x : Int => Value.int .i64 x) (.map (some g17)) ([] : (List (Int × Int)))]) (tail := ow) (rs' := [Res.sl (Ek.pair Ek.str (Ek.pair Ek.bool (Ek.pair (Ek.int .i64) Ek.bool))) 81 v24 s22.2.2.2.2, Res.obj 79 v5 [.int .i64 s22.1, .int .i64 s22.2.1, .int .i64 s22.2.2.1, .int .i64 s22.2.2.2.1, v24], Res.map (fun x : ByteArray => Value.string x) v28 s26.2.2, Res.obj 74 v9 [.int .i64 s26.1, .int .i64 s26.2.1, v28], Res.sl (Ek.pair (Ek.int .i64) (Ek.pair (Ek.int .i64) (Ek.pair (Ek.int .u8) (Ek.pair (Ek.int .u8) (Ek.pair Ek.bool Ek.str))))) 88 (.slice none 0 0) ([]), Res.sl (Ek.pair (Ek.int .i64) (Ek.pair (Ek.int .i64) (Ek.pair (Ek.int .u8) (Ek.pair (Ek.int .u8) (Ek.pair Ek.bool Ek.str))))) 88 (.slice none 0 0) ([]), Res.map (fun x : Int => Value.int .i64 x) (.map (some g17)) ([] : (List (Int × Int))), Res.sl Ek.str 9 (.slice none 0 0) ([]), Res.sl (Ek.int .i64) 3 v20 (List.replicate ((IntKind.i64.wrap (((IntKind.u64.wrap many2)).tmod (400 : Int)))).toNat (0 : Int)), Res.obj 68 v30 [.int .i64 (IntKind.i64.wrap ((1 : Int) + (IntKind.i64.wrap (((IntKind.u64.wrap window0)).tmod (128 : Int))))), v5, v9, .slice none 0 0, .slice none 0 0, vpicks3, .int .i64 (0 : Int), (.map (some g17)), .int .i64 (0 : Int), .int .i64 (0 : Int), .int .i64 (IntKind.i64.wrap (((IntKind.u64.wrap many2)).tmod (400 : Int))), .slice none 0 0, .bool false, v20]]) hp [7, 6, 5, 4, 2, 1, 9, 0, 8, 3] (by decide) (by simp) rfl
  refine wp_loop_pure (f := (f_foghornlaw28_AgainOnce.s1 many2)) (s := (s22.1, s22.2.1, s22.2.2.1, s22.2.2.2.1, s22.2.2.2.2, s26.1, s26.2.1, s26.2.2, (IntKind.i64.wrap ((1 : Int) + (IntKind.i64.wrap (((IntKind.u64.wrap window0)).tmod (128 : Int))))), [], [], (0 : Int), ([] : (List (Int × Int))), (0 : Int), (0 : Int), (IntKind.i64.wrap (((IntKind.u64.wrap many2)).tmod (400 : Int))), [], false, (List.replicate ((IntKind.i64.wrap (((IntKind.u64.wrap many2)).tmod (400 : Int)))).toNat (0 : Int)), (0 : Int))) (fun s a w => ∃ (v32 : Value) (v35 : Value) (v38 : Value) (v40 : Value) (v42 : Value) (v44 : Value) (v46 : Value), Fr 155 a [(1, .int .i64 (IntKind.i64.wrap ((1 : Int) + (IntKind.i64.wrap (((IntKind.u64.wrap wait1)).tmod (30 : Int)))))), (2, .int .i64 (IntKind.i64.wrap (((IntKind.u64.wrap many2)).tmod (400 : Int)))), (9, v5), (11, v9), (13, v30), (14, .int .i64 s.2.2.2.2.2.2.2.2.2.2.2.2.2.2.2.2.2.2.2)] ∧ Hp S w0 w (Res.sl (Ek.pair Ek.str (Ek.pair Ek.bool (Ek.pair (Ek.int .i64) Ek.bool))) 81 v32 s.2.2.2.2.1 :: Res.obj 79 v5 [.int .i64 s.1, .int .i64 s.2.1, .int .i64 s.2.2.1, .int .i64 s.2.2.2.1, v32] :: Res.map (fun x : ByteArray => Value.string x) v35 s.2.2.2.2.2.2.2.1 :: Res.obj 74 v9 [.int .i64 s.2.2.2.2.2.1, .int .i64 s.2.2.2.2.2.2.1, v35] :: Res.sl (Ek.pair (Ek.int .i64) (Ek.pair (Ek.int .i64) (Ek.pair (Ek.int .u8) (Ek.pair (Ek.int .u8) (Ek.pair Ek.bool Ek.str))))) 88 v38 s.2.2.2.2.2.2.2.2.2.1 :: Res.sl (Ek.pair (Ek.int .i64) (Ek.pair (Ek.int .i64) (Ek.pair (Ek.int .u8) (Ek.pair (Ek.int .u8) (Ek.pair Ek.bool Ek.str))))) 88 v40 s.2.2.2.2.2.2.2.2.2.2.1 :: Res.map (fun x : Int => Value.int .i64 x) v42 s.2.2.2.2.2.2.2.2.2.2.2.2.1 :: Res.sl Ek.str 9 v44 s.2.2.2.2.2.2.2.2.2.2.2.2.2.2.2.2.1 :: Res.sl (Ek.int .i64) 3 v46 s.2.2.2.2.2.2.2.2.2.2.2.2.2.2.2.2.2.2.1 :: Res.obj 68 v30 [.int .i64 s.2.2.2.2.2.2.2.2.1, v5, v9, v38, v40, vpicks3, .int .i64 s.2.2.2.2.2.2.2.2.2.2.2.1, v42, .int .i64 s.2.2.2.2.2.2.2.2.2.2.2.2.2.1, .int .i64 s.2.2.2.2.2.2.2.2.2.2.2.2.2.2.1, .int .i64 s.2.2.2.2.2.2.2.2.2.2.2.2.2.2.2.1, v44, .bool s.2.2.2.2.2.2.2.2.2.2.2.2.2.2.2.2.2.1, v46] :: ow)) (fun q e a w => match q with | (Sum.inl q) => e = .exit 0 ∧ ∃ (v49 : Value) (v52 : Value) (v55 : Value) (v57 : Value) (v59 : Value) (v61 : Value) (v63 : Value), Fr 155 a [(1, .int .i64 (IntKind.i64.wrap ((1 : Int) + (IntKind.i64.wrap (((IntKind.u64.wrap wait1)).tmod (30 : Int)))))), (2, .int .i64 (IntKind.i64.wrap (((IntKind.u64.wrap many2)).tmod (400 : Int)))), (9, v5), (11, v9), (13, v30)] ∧ Hp S w0 w (Res.sl (Ek.pair Ek.str (Ek.pair Ek.bool (Ek.pair (Ek.int .i64) Ek.bool))) 81 v49 q.2.2.2.2.1 :: Res.obj 79 v5 [.int .i64 q.1, .int .i64 q.2.1, .int .i64 q.2.2.1, .int .i64 q.2.2.2.1, v49] :: Res.map (fun x : ByteArray => Value.string x) v52 q.2.2.2.2.2.2.2.1 :: Res.obj 74 v9 [.int .i64 q.2.2.2.2.2.1, .int .i64 q.2.2.2.2.2.2.1, v52] :: Res.sl (Ek.pair (Ek.int .i64) (Ek.pair (Ek.int .i64) (Ek.pair (Ek.int .u8) (Ek.pair (Ek.int .u8) (Ek.pair Ek.bool Ek.str))))) 88 v55 q.2.2.2.2.2.2.2.2.2.1 :: Res.sl (Ek.pair (Ek.int .i64) (Ek.pair (Ek.int .i64) (Ek.pair (Ek.int .u8) (Ek.pair (Ek.int .u8) (Ek.pair Ek.bool Ek.str))))) 88 v57 q.2.2.2.2.2.2.2.2.2.2.1 :: Res.map (fun x : Int => Value.int .i64 x) v59 q.2.2.2.2.2.2.2.2.2.2.2.2.1 :: Res.sl Ek.str 9 v61 q.2.2.2.2.2.2.2.2.2.2.2.2.2.2.2.2.1 :: Res.sl (Ek.int .i64) 3 v63 q.2.2.2.2.2.2.2.2.2.2.2.2.2.2.2.2.2.2 :: Res.obj 68 v30 [.int .i64 q.2.2.2.2.2.2.2.2.1, v5, v9, v55, v57, vpicks3, .int .i64 q.2.2.2.2.2.2.2.2.2.2.2.1, v59, .int .i64 q.2.2.2.2.2.2.2.2.2.2.2.2.2.1, .int .i64 q.2.2.2.2.2.2.2.2.2.2.2.2.2.2.1, .int .i64 q.2.2.2.2.2.2.2.2.2.2.2.2.2.2.2.1, v61, .bool q.2.2.2.2.2.2.2.2.2.2.2.2.2.2.2.2.2.1, v63] :: ow) | (Sum.inr q) => e = .ret ∧ Fr 155 a [(8, .bool q)] ∧ Hp S w0 w (ow)) ?_ hl ⟨_, _, _, _, _, _, _, hf.sub ⟨rfl, rfl, rfl, rfl, rfl, rfl, trivial⟩, hp⟩ ?_
  ·
   clear hl hf hp
   intro s x a w h hI
   obtain ⟨sx9c_0, sx9c_1, sx9c_2, sx9c_3, sx9c_4, r11c_0, r11c_1, r11c_2, k13c_0, k13c_3, k13c_4, k13c_6, k13c_7, k13c_8, k13c_9, k13c_10, k13c_11, k13c_12, k13c_13, i14⟩ := s
   obtain ⟨v32, v35, v38, v40, v42, v44, v46, hf, hp⟩ : ∃ (v32 : Value) (v35 : Value) (v38 : Value) (v40 : Value) (v42 : Value) (v44 : Value) (v46 : Value), Fr 155 a [(1, .int .i64 (IntKind.i64.wrap ((1 : Int) + (IntKind.i64.wrap (((IntKind.u64.wrap wait1)).tmod (30 : Int)))))), (2, .int .i64 (IntKind.i64.wrap (((IntKind.u64.wrap many2)).tmod (400 : Int)))), (9, v5), (11, v9), (13, v30), (14, .int .i64 i14)] ∧ Hp S w0 w (Res.sl (Ek.pair Ek.str (Ek.pair Ek.bool (Ek.pair (Ek.int .i64) Ek.bool))) 81 v32 sx9c_4 :: Res.obj 79 v5 [.int .i64 sx9c_0, .int .i64 sx9c_1, .int .i64 sx9c_2, .int .i64 sx9c_3, v32] :: Res.map (fun x : ByteArray => Value.string x) v35 r11c_2 :: Res.obj 74 v9 [.int .i64 r11c_0, .int .i64 r11c_1, v35] :: Res.sl (Ek.pair (Ek.int .i64) (Ek.pair (Ek.int .i64) (Ek.pair (Ek.int .u8) (Ek.pair (Ek.int .u8) (Ek.pair Ek.bool Ek.str))))) 88 v38 k13c_3 :: Res.sl (Ek.pair (Ek.int .i64) (Ek.pair (Ek.int .i64) (Ek.pair (Ek.int .u8) (Ek.pair (Ek.int .u8) (Ek.pair Ek.bool Ek.str))))) 88 v40 k13c_4 :: Res.map (fun x : Int => Value.int .i64 x) v42 k13c_7 :: Res.sl Ek.str 9 v44 k13c_11 :: Res.sl (Ek.int .i64) 3 v46 k13c_13 :: Res.obj 68 v30 [.int .i64 k13c_0, v5, v9, v38, v40, vpicks3, .int .i64 k13c_6, v42, .int .i64 k13c_8, .int .i64 k13c_9, .int .i64 k13c_10, v44, .bool k13c_12, v46] :: ow) := hI
   replace h : f_foghornlaw28_AgainOnce.s1c many2 sx9c_0 sx9c_1 sx9c_2 sx9c_3 sx9c_4 r11c_0 r11c_1 r11c_2 k13c_0 k13c_3 k13c_4 k13c_6 k13c_7 k13c_8 k13c_9 k13c_10 k13c_11 k13c_12 k13c_13 i14 = some x := h
   unfold f_foghornlaw28_AgainOnce.s1c at h
   refine wp_seq ?_
   refine wp_seq ?_
   refine wp_reg ?_
   refine st_move hf rfl rfl (by decide) ?_
   clear hf; intro a ha hf; clear ha
   refine st_move hf rfl rfl (by decide) ?_
   clear hf; intro a ha hf; clear ha
   refine st_ilss hf (by decide) rfl rfl rfl ?_
   clear hf; intro a ha hf; clear ha
   refine st_nil hf ?_
   refine th_n ?_
   refine wp_if hf rfl (fun hb => ?_) (fun hb => ?_)
   ·
    replace h := ifT h hb
    refine wp_skip ?_
    refine th_n ?_
    refine wp_seq ?_
    refine wp_block ?_
    refine wp_seq ?_
    refine wp_reg ?_
    refine st_move hf rfl rfl (by decide) ?_
    clear hf; intro a ha hf; clear ha
    refine st_move hf rfl rfl (by decide) ?_
    clear hf; intro a ha hf; clear ha
    refine st_conv_ii hf (by decide) (by rw [Try.underlying3]; rfl) Try.underlying5 rfl rfl ?_
    clear hf; intro a ha hf; clear ha
    refine st_move hf rfl rfl (by decide) ?_
    clear hf; intro a ha hf; clear ha
    refine st_iquo hf (by decide) rfl rfl rfl (by decide) ?_
    clear hf; intro a ha hf; clear ha
    refine st_conv_ii hf (by decide) (by rw [Try.underlying3]; rfl) Try.underlying5 rfl rfl ?_
    clear hf; intro a ha hf; clear ha
    refine st_build (E := (Ek.int .u8)) (xs := [(IntKind.u8.wrap i14), (IntKind.u8.wrap (IntKind.i64.wrap ((i14).tdiv (256 : Int))))]) hf (by decide) elt5 Try.underlying61 hp (vals := #[(0, .int .u8 (IntKind.u8.wrap i14)), (1, .int .u8 (IntKind.u8.wrap (IntKind.i64.wrap ((i14).tdiv (256 : Int)))))]) (cells := #[.int .u8 (IntKind.u8.wrap i14), .int .u8 (IntKind.u8.wrap (IntKind.i64.wrap ((i14).tdiv (256 : Int))))]) rfl (by simp [hf.ev (x := (Operand.tmp 76)) rfl, hf.ev (x := (Operand.tmp 79)) rfl]) (by decide) (by decide) (z := .int .u8 0) (by kernel_rfl) (by kernel_rfl) rfl (reps_cons (cs := [.int .u8 (IntKind.u8.wrap i14)]) rfl (reps_cons (cs := [.int .u8 (IntKind.u8.wrap (IntKind.i64.wrap ((i14).tdiv (256 : Int))))]) rfl (reps_nil _))) ?_
    clear hf; intro a w v66 hf hp0; clear hp; have hp := hp0; clear hp0
    replace hp : Hp _ _ _ (Res.sl (Ek.int .u8) 5 v66 ([(IntKind.u8.wrap i14), (IntKind.u8.wrap (IntKind.i64.wrap ((i14).tdiv (256 : Int))))]) :: Res.sl (Ek.pair Ek.str (Ek.pair Ek.bool (Ek.pair (Ek.int .i64) Ek.bool))) 81 v32 sx9c_4 :: Res.obj 79 v5 [.int .i64 sx9c_0, .int .i64 sx9c_1, .int .i64 sx9c_2, .int .i64 sx9c_3, v32] :: Res.map (fun x : ByteArray => Value.string x) v35 r11c_2 :: Res.obj 74 v9 [.int .i64 r11c_0, .int .i64 r11c_1, v35] :: Res.sl (Ek.pair (Ek.int .i64) (Ek.pair (Ek.int .i64) (Ek.pair (Ek.int .u8) (Ek.pair (Ek.int .u8) (Ek.pair Ek.bool Ek.str))))) 88 v38 k13c_3 :: Res.sl (Ek.pair (Ek.int .i64) (Ek.pair (Ek.int .i64) (Ek.pair (Ek.int .u8) (Ek.pair (Ek.int .u8) (Ek.pair Ek.bool Ek.str))))) 88 v40 k13c_4 :: Res.map (fun x : Int => Value.int .i64 x) v42 k13c_7 :: Res.sl Ek.str 9 v44 k13c_11 :: Res.sl (Ek.int .i64) 3 v46 k13c_13 :: Res.obj 68 v30 [.int .i64 k13c_0, v5, v9, v38, v40, vpicks3, .int .i64 k13c_6, v42, .int .i64 k13c_8, .int .i64 k13c_9, .int .i64 k13c_10, v44, .bool k13c_12, v46] :: ow) := hp
    refine st_convBS hf (by decide) Try.underlying61 Try.underlying5 Try.underlying9 rfl rfl (hp.sl (i := 0) rfl) ?_
    clear hf; intro a ha hf; clear ha
    obtain ⟨q68, hcall69, h⟩ := bnd h
    have hp70 : Hp _ _ _ (Res.sl (Ek.pair Ek.str (Ek.pair Ek.bool (Ek.pair (Ek.int .i64) Ek.bool))) 81 v32 sx9c_4 :: Res.obj 79 v5 [.int .i64 sx9c_0, .int .i64 sx9c_1, .int .i64 sx9c_2, .int .i64 sx9c_3, v32] :: Res.sl (Ek.int .u8) 5 v66 ([(IntKind.u8.wrap i14), (IntKind.u8.wrap (IntKind.i64.wrap ((i14).tdiv (256 : Int))))]) :: Res.map (fun x : ByteArray => Value.string x) v35 r11c_2 :: Res.obj 74 v9 [.int .i64 r11c_0, .int .i64 r11c_1, v35] :: Res.sl (Ek.pair (Ek.int .i64) (Ek.pair (Ek.int .i64) (Ek.pair (Ek.int .u8) (Ek.pair (Ek.int .u8) (Ek.pair Ek.bool Ek.str))))) 88 v38 k13c_3 :: Res.sl (Ek.pair (Ek.int .i64) (Ek.pair (Ek.int .i64) (Ek.pair (Ek.int .u8) (Ek.pair (Ek.int .u8) (Ek.pair Ek.bool Ek.str))))) 88 v40 k13c_4 :: Res.map (fun x : Int => Value.int .i64 x) v42 k13c_7 :: Res.sl Ek.str 9 v44 k13c_11 :: Res.sl (Ek.int .i64) 3 v46 k13c_13 :: Res.obj 68 v30 [.int .i64 k13c_0, v5, v9, v38, v40, vpicks3, .int .i64 k13c_6, v42, .int .i64 k13c_8, .int .i64 k13c_9, .int .i64 k13c_10, v44, .bool k13c_12, v46] :: ow) := Hp.sel (pre := [Res.sl (Ek.int .u8) 5 v66 ([(IntKind.u8.wrap i14), (IntKind.u8.wrap (IntKind.i64.wrap ((i14).tdiv (256 : Int))))]), Res.sl (Ek.pair Ek.str (Ek.pair Ek.bool (Ek.pair (Ek.int .i64) Ek.bool))) 81 v32 sx9c_4, Res.obj 79 v5 [.int .i64 sx9c_0, .int .i64 sx9c_1, .int .i64 sx9c_2, .int .i64 sx9c_3, v32], Res.map (fun x : ByteArray => Value.string x) v35 r11c_2, Res.obj 74 v9 [.int .i64 r11c_0, .int .i64 r11c_1, v35], Res.sl (Ek.pair (Ek.int .i64) (Ek.pair (Ek.int .i64) (Ek.pair (Ek.int .u8) (Ek.pair (Ek.int .u8) (Ek.pair Ek.bool Ek.str))))) 88 v38 k13c_3, Res.sl (Ek.pair (Ek.int .i64) (Ek.pair (Ek.int .i64) (Ek.pair (Ek.int .u8) (Ek.pair (Ek.int .u8) (Ek.pair Ek.bool Ek.str))))) 88 v40 k13c_4, Res.map (fun x : Int => Value.int .i64 x) v42 k13c_7, Res.sl Ek.str 9 v44 k13c_11, Res.sl (Ek.int .i64) 3 v46 k13c_13, Res.obj 68 v30 [.int .i64 k13c_0, v5, v9, v38, v40, vpicks3, .int .i64 k13c_6, v42, .int .i64 k13c_8, .int .i64 k13c_9, .int .i64 k13c_10, v44, .bool k13c_12, v46]]) (tail := ow) (rs' := [Res.sl (Ek.pair Ek.str (Ek.pair Ek.bool (Ek.pair (Ek.int .i64) Ek.bool))) 81 v32 sx9c_4, Res.obj 79 v5 [.int .i64 sx9c_0, .int .i64 sx9c_1, .int .i64 sx9c_2, .int .i64 sx9c_3, v32], Res.sl (Ek.int .u8) 5 v66 ([(IntKind.u8.wrap i14), (IntKind.u8.wrap (IntKind.i64.wrap ((i14).tdiv (256 : Int))))]), Res.map (fun x : ByteArray => Value.string x) v35 r11c_2, Res.obj 74 v9 [.int .i64 r11c_0, .int .i64 r11c_1, v35], Res.sl (Ek.pair (Ek.int .i64) (Ek.pair (Ek.int .i64) (Ek.pair (Ek.int .u8) (Ek.pair (Ek.int .u8) (Ek.pair Ek.bool Ek.str))))) 88 v38 k13c_3, Res.sl (Ek.pair (Ek.int .i64) (Ek.pair (Ek.int .i64) (Ek.pair (Ek.int .u8) (Ek.pair (Ek.int .u8) (Ek.pair Ek.bool Ek.str))))) 88 v40 k13c_4, Res.map (fun x : Int => Value.int .i64 x) v42 k13c_7, Res.sl Ek.str 9 v44 k13c_11, Res.sl (Ek.int .i64) 3 v46 k13c_13, Res.obj 68 v30 [.int .i64 k13c_0, v5, v9, v38, v40, vpicks3, .int .i64 k13c_6, v42, .int .i64 k13c_8, .int .i64 k13c_9, .int .i64 k13c_10, v44, .bool k13c_12, v46]]) hp [1, 2, 0, 3, 4, 5, 6, 7, 8, 9, 10] (by decide) (by simp) rfl
    refine st_call hf (by decide) Try.func17 rfl rfl rfl rfl rfl (f_again_Sender_Offer_c _ _ _ _ _ _ _ _ hp70 hcall69) ?_
    rintro _ w ⟨v71, rfl, hp0⟩
    clear hp; have hp := hp0; clear hp0
    replace hp : Hp _ _ _ (Res.sl (Ek.pair Ek.str (Ek.pair Ek.bool (Ek.pair (Ek.int .i64) Ek.bool))) 81 v71 q68.2.2.2.2.2 :: Res.obj 79 v5 [.int .i64 q68.2.1, .int .i64 q68.2.2.1, .int .i64 q68.2.2.2.1, .int .i64 q68.2.2.2.2.1, v71] :: _ :: _ :: _ :: _ :: _ :: _ :: _ :: _ :: _ :: ow) := hp
    refine ⟨_, rfl, ?_⟩
    clear hf; intro a hf
    refine st_ineq hf (by decide) rfl rfl rfl ?_
    clear hf; intro a ha hf; clear ha
    refine st_nil hf ?_
    refine th_n ?_
    refine wp_if hf rfl (fun hb => ?_) (fun hb => ?_)
    ·
     replace h := ifT h hb
     refine wp_seq ?_
     refine wp_reg ?_
     refine st_assign hf rfl rfl (by decide) ?_
     clear hf; intro a ha hf; clear ha
     refine st_nil hf ?_
     refine th_n ?_
     refine wp_ret ?_
     refine ib_r ?_
     refine th_r ?_
     obtain rfl := Option.some.inj h
     have hp : Hp _ _ _ (ow) := Hp.sel (pre := [Res.sl (Ek.pair Ek.str (Ek.pair Ek.bool (Ek.pair (Ek.int .i64) Ek.bool))) 81 v71 q68.2.2.2.2.2, Res.obj 79 v5 [.int .i64 q68.2.1, .int .i64 q68.2.2.1, .int .i64 q68.2.2.2.1, .int .i64 q68.2.2.2.2.1, v71], Res.sl (Ek.int .u8) 5 v66 ([(IntKind.u8.wrap i14), (IntKind.u8.wrap (IntKind.i64.wrap ((i14).tdiv (256 : Int))))]), Res.map (fun x : ByteArray => Value.string x) v35 r11c_2, Res.obj 74 v9 [.int .i64 r11c_0, .int .i64 r11c_1, v35], Res.sl (Ek.pair (Ek.int .i64) (Ek.pair (Ek.int .i64) (Ek.pair (Ek.int .u8) (Ek.pair (Ek.int .u8) (Ek.pair Ek.bool Ek.str))))) 88 v38 k13c_3, Res.sl (Ek.pair (Ek.int .i64) (Ek.pair (Ek.int .i64) (Ek.pair (Ek.int .u8) (Ek.pair (Ek.int .u8) (Ek.pair Ek.bool Ek.str))))) 88 v40 k13c_4, Res.map (fun x : Int => Value.int .i64 x) v42 k13c_7, Res.sl Ek.str 9 v44 k13c_11, Res.sl (Ek.int .i64) 3 v46 k13c_13, Res.obj 68 v30 [.int .i64 k13c_0, v5, v9, v38, v40, vpicks3, .int .i64 k13c_6, v42, .int .i64 k13c_8, .int .i64 k13c_9, .int .i64 k13c_10, v44, .bool k13c_12, v46]]) (tail := ow) (rs' := []) hp [] (by decide) (by simp) rfl
     exact rnd_r (by simp) ⟨rfl, ⟨hf.sub ⟨rfl, trivial⟩, hp⟩⟩
    replace h := ifF h hb
    refine wp_skip ?_
    refine ib_n ?_
    refine th_n ?_
    refine wp_reg ?_
    refine st_move hf rfl rfl (by decide) ?_
    clear hf; intro a ha hf; clear ha
    refine st_iadd hf (by decide) rfl rfl rfl ?_
    clear hf; intro a ha hf; clear ha
    refine st_assign hf rfl rfl (by decide) ?_
    clear hf; intro a ha hf; clear ha
    refine st_nil hf ?_
    obtain rfl := Option.some.inj h
    have hp : Hp _ _ _ (_ :: _ :: _ :: _ :: _ :: _ :: _ :: _ :: _ :: _ :: ow) := Hp.sel (pre := [Res.sl (Ek.pair Ek.str (Ek.pair Ek.bool (Ek.pair (Ek.int .i64) Ek.bool))) 81 v71 q68.2.2.2.2.2, Res.obj 79 v5 [.int .i64 q68.2.1, .int .i64 q68.2.2.1, .int .i64 q68.2.2.2.1, .int .i64 q68.2.2.2.2.1, v71], Res.sl (Ek.int .u8) 5 v66 ([(IntKind.u8.wrap i14), (IntKind.u8.wrap (IntKind.i64.wrap ((i14).tdiv (256 : Int))))]), Res.map (fun x : ByteArray => Value.string x) v35 r11c_2, Res.obj 74 v9 [.int .i64 r11c_0, .int .i64 r11c_1, v35], Res.sl (Ek.pair (Ek.int .i64) (Ek.pair (Ek.int .i64) (Ek.pair (Ek.int .u8) (Ek.pair (Ek.int .u8) (Ek.pair Ek.bool Ek.str))))) 88 v38 k13c_3, Res.sl (Ek.pair (Ek.int .i64) (Ek.pair (Ek.int .i64) (Ek.pair (Ek.int .u8) (Ek.pair (Ek.int .u8) (Ek.pair Ek.bool Ek.str))))) 88 v40 k13c_4, Res.map (fun x : Int => Value.int .i64 x) v42 k13c_7, Res.sl Ek.str 9 v44 k13c_11, Res.sl (Ek.int .i64) 3 v46 k13c_13, Res.obj 68 v30 [.int .i64 k13c_0, v5, v9, v38, v40, vpicks3, .int .i64 k13c_6, v42, .int .i64 k13c_8, .int .i64 k13c_9, .int .i64 k13c_10, v44, .bool k13c_12, v46]]) (tail := ow) (rs' := [Res.sl (Ek.pair Ek.str (Ek.pair Ek.bool (Ek.pair (Ek.int .i64) Ek.bool))) 81 v71 q68.2.2.2.2.2, Res.obj 79 v5 [.int .i64 q68.2.1, .int .i64 q68.2.2.1, .int .i64 q68.2.2.2.1, .int .i64 q68.2.2.2.2.1, v71], Res.map (fun x : ByteArray => Value.string x) v35 r11c_2, Res.obj 74 v9 [.int .i64 r11c_0, .int .i64 r11c_1, v35], Res.sl (Ek.pair (Ek.int .i64) (Ek.pair (Ek.int .i64) (Ek.pair (Ek.int .u8) (Ek.pair (Ek.int .u8) (Ek.pair Ek.bool Ek.str))))) 88 v38 k13c_3, Res.sl (Ek.pair (Ek.int .i64) (Ek.pair (Ek.int .i64) (Ek.pair (Ek.int .u8) (Ek.pair (Ek.int .u8) (Ek.pair Ek.bool Ek.str))))) 88 v40 k13c_4, Res.map (fun x : Int => Value.int .i64 x) v42 k13c_7, Res.sl Ek.str 9 v44 k13c_11, Res.sl (Ek.int .i64) 3 v46 k13c_13, Res.obj 68 v30 [.int .i64 k13c_0, v5, v9, v38, v40, vpicks3, .int .i64 k13c_6, v42, .int .i64 k13c_8, .int .i64 k13c_9, .int .i64 k13c_10, v44, .bool k13c_12, v46]]) hp [0, 1, 3, 4, 5, 6, 7, 8, 9, 10] (by decide) (by simp) rfl
    exact rnd_l ⟨_, _, _, _, _, _, _, hf.sub ⟨rfl, rfl, rfl, rfl, rfl, rfl, trivial⟩, hp⟩
   replace h := ifF h hb
   refine wp_exit ?_
   refine th_e ?_
   obtain rfl := Option.some.inj h
   exact rnd_r (by simp) ⟨rfl, _, _, _, _, _, _, _, hf.sub ⟨rfl, rfl, rfl, rfl, rfl, trivial⟩, hp⟩
  clear hl hf hp
  intro e a w hne hO
  rcases q73 with q77 | q78
  ·
   replace h := smL h
   obtain ⟨rfl, v49, v52, v55, v57, v59, v61, v63, hf, hp⟩ := hO
   refine ib_same ?_
   refine th_n ?_
   refine wp_seq ?_
   refine wp_reg ?_
   refine st_move hf rfl rfl (by decide) ?_
   clear hf; intro a ha hf; clear ha
   refine st_iadd hf (by decide) rfl rfl rfl ?_
   clear hf; intro a ha hf; clear ha
   refine st_imul hf (by decide) rfl rfl rfl ?_
   clear hf; intro a ha hf; clear ha
   refine st_move hf rfl rfl (by decide) ?_
   clear hf; intro a ha hf; clear ha
   refine st_iadd hf (by decide) rfl rfl rfl ?_
   clear hf; intro a ha hf; clear ha
   refine st_imul hf (by decide) rfl rfl rfl ?_
   clear hf; intro a ha hf; clear ha
   refine st_assign hf rfl rfl (by decide) ?_
   clear hf; intro a ha hf; clear ha
   refine st_nil hf ?_
   refine th_n ?_
   refine wp_seq ?_
   refine wp_seq ?_
   refine wp_reg ?_
   refine st_assign hf rfl rfl (by decide) ?_
   clear hf; intro a ha hf; clear ha
   refine st_nil hf ?_
   refine th_n ?_
   refine wp_block ?_
   obtain ⟨q171, hl, h⟩ := bnd h
   refine wp_loop_pure (f := (f_foghornlaw28_AgainOnce.s2 wait1 many2 picks3)) (s := (q77.1, q77.2.1, q77.2.2.1, q77.2.2.2.1, q77.2.2.2.2.1, q77.2.2.2.2.2.1, q77.2.2.2.2.2.2.1, q77.2.2.2.2.2.2.2.1, q77.2.2.2.2.2.2.2.2.1, q77.2.2.2.2.2.2.2.2.2.1, q77.2.2.2.2.2.2.2.2.2.2.1, q77.2.2.2.2.2.2.2.2.2.2.2.1, q77.2.2.2.2.2.2.2.2.2.2.2.2.1, q77.2.2.2.2.2.2.2.2.2.2.2.2.2.1, q77.2.2.2.2.2.2.2.2.2.2.2.2.2.2.1, q77.2.2.2.2.2.2.2.2.2.2.2.2.2.2.2.1, q77.2.2.2.2.2.2.2.2.2.2.2.2.2.2.2.2.1, q77.2.2.2.2.2.2.2.2.2.2.2.2.2.2.2.2.2.1, q77.2.2.2.2.2.2.2.2.2.2.2.2.2.2.2.2.2.2, (0 : Int))) (fun s a w => ∃ (v79 : Value) (v82 : Value) (v85 : Value) (v87 : Value) (v89 : Value) (v91 : Value) (v93 : Value), Fr 155 a [(2, .int .i64 (IntKind.i64.wrap (((IntKind.u64.wrap many2)).tmod (400 : Int)))), (9, v5), (11, v9), (13, v30), (15, .int .i64 (IntKind.i64.wrap ((IntKind.i64.wrap ((IntKind.i64.wrap ((IntKind.i64.wrap (((IntKind.u64.wrap many2)).tmod (400 : Int))) + (2 : Int))) * (8 : Int))) * (IntKind.i64.wrap ((IntKind.i64.wrap ((1 : Int) + (IntKind.i64.wrap (((IntKind.u64.wrap wait1)).tmod (30 : Int))))) + (10 : Int)))))), (16, .int .i64 s.2.2.2.2.2.2.2.2.2.2.2.2.2.2.2.2.2.2.2)] ∧ Hp S w0 w (Res.sl (Ek.pair Ek.str (Ek.pair Ek.bool (Ek.pair (Ek.int .i64) Ek.bool))) 81 v79 s.2.2.2.2.1 :: Res.obj 79 v5 [.int .i64 s.1, .int .i64 s.2.1, .int .i64 s.2.2.1, .int .i64 s.2.2.2.1, v79] :: Res.map (fun x : ByteArray => Value.string x) v82 s.2.2.2.2.2.2.2.1 :: Res.obj 74 v9 [.int .i64 s.2.2.2.2.2.1, .int .i64 s.2.2.2.2.2.2.1, v82] :: Res.sl (Ek.pair (Ek.int .i64) (Ek.pair (Ek.int .i64) (Ek.pair (Ek.int .u8) (Ek.pair (Ek.int .u8) (Ek.pair Ek.bool Ek.str))))) 88 v85 s.2.2.2.2.2.2.2.2.2.1 :: Res.sl (Ek.pair (Ek.int .i64) (Ek.pair (Ek.int .i64) (Ek.pair (Ek.int .u8) (Ek.pair (Ek.int .u8) (Ek.pair Ek.bool Ek.str))))) 88 v87 s.2.2.2.2.2.2.2.2.2.2.1 :: Res.map (fun x : Int => Value.int .i64 x) v89 s.2.2.2.2.2.2.2.2.2.2.2.2.1 :: Res.sl Ek.str 9 v91 s.2.2.2.2.2.2.2.2.2.2.2.2.2.2.2.2.1 :: Res.sl (Ek.int .i64) 3 v93 s.2.2.2.2.2.2.2.2.2.2.2.2.2.2.2.2.2.2.1 :: Res.obj 68 v30 [.int .i64 s.2.2.2.2.2.2.2.2.1, v5, v9, v85, v87, vpicks3, .int .i64 s.2.2.2.2.2.2.2.2.2.2.2.1, v89, .int .i64 s.2.2.2.2.2.2.2.2.2.2.2.2.2.1, .int .i64 s.2.2.2.2.2.2.2.2.2.2.2.2.2.2.1, .int .i64 s.2.2.2.2.2.2.2.2.2.2.2.2.2.2.2.1, v91, .bool s.2.2.2.2.2.2.2.2.2.2.2.2.2.2.2.2.2.1, v93] :: ow)) (fun q e a w => match q with | (Sum.inl q) => e = .exit 2 ∧ ∃ (v96 : Value) (v99 : Value) (v102 : Value) (v104 : Value) (v106 : Value) (v108 : Value) (v110 : Value), Fr 155 a [(2, .int .i64 (IntKind.i64.wrap (((IntKind.u64.wrap many2)).tmod (400 : Int)))), (9, v5), (11, v9), (13, v30)] ∧ Hp S w0 w (Res.sl (Ek.pair Ek.str (Ek.pair Ek.bool (Ek.pair (Ek.int .i64) Ek.bool))) 81 v96 q.2.2.2.2.1 :: Res.obj 79 v5 [.int .i64 q.1, .int .i64 q.2.1, .int .i64 q.2.2.1, .int .i64 q.2.2.2.1, v96] :: Res.map (fun x : ByteArray => Value.string x) v99 q.2.2.2.2.2.2.2.1 :: Res.obj 74 v9 [.int .i64 q.2.2.2.2.2.1, .int .i64 q.2.2.2.2.2.2.1, v99] :: Res.sl (Ek.pair (Ek.int .i64) (Ek.pair (Ek.int .i64) (Ek.pair (Ek.int .u8) (Ek.pair (Ek.int .u8) (Ek.pair Ek.bool Ek.str))))) 88 v102 q.2.2.2.2.2.2.2.2.2.1 :: Res.sl (Ek.pair (Ek.int .i64) (Ek.pair (Ek.int .i64) (Ek.pair (Ek.int .u8) (Ek.pair (Ek.int .u8) (Ek.pair Ek.bool Ek.str))))) 88 v104 q.2.2.2.2.2.2.2.2.2.2.1 :: Res.map (fun x : Int => Value.int .i64 x) v106 q.2.2.2.2.2.2.2.2.2.2.2.2.1 :: Res.sl Ek.str 9 v108 q.2.2.2.2.2.2.2.2.2.2.2.2.2.2.2.2.1 :: Res.sl (Ek.int .i64) 3 v110 q.2.2.2.2.2.2.2.2.2.2.2.2.2.2.2.2.2.2 :: Res.obj 68 v30 [.int .i64 q.2.2.2.2.2.2.2.2.1, v5, v9, v102, v104, vpicks3, .int .i64 q.2.2.2.2.2.2.2.2.2.2.2.1, v106, .int .i64 q.2.2.2.2.2.2.2.2.2.2.2.2.2.1, .int .i64 q.2.2.2.2.2.2.2.2.2.2.2.2.2.2.1, .int .i64 q.2.2.2.2.2.2.2.2.2.2.2.2.2.2.2.1, v108, .bool q.2.2.2.2.2.2.2.2.2.2.2.2.2.2.2.2.2.1, v110] :: ow) | (Sum.inr q) => e = .ret ∧ Fr 155 a [(8, .bool q)] ∧ Hp S w0 w (ow)) ?_ hl ⟨_, _, _, _, _, _, _, hf.sub ⟨rfl, rfl, rfl, rfl, rfl, rfl, trivial⟩, hp⟩ ?_
   ·
    clear hl hf hp
    intro s x a w h hI
    obtain ⟨sx9c_0, sx9c_1, sx9c_2, sx9c_3, sx9c_4, r11c_0, r11c_1, r11c_2, k13c_0, k13c_3, k13c_4, k13c_6, k13c_7, k13c_8, k13c_9, k13c_10, k13c_11, k13c_12, k13c_13, now16⟩ := s
    obtain ⟨v79, v82, v85, v87, v89, v91, v93, hf, hp⟩ : ∃ (v79 : Value) (v82 : Value) (v85 : Value) (v87 : Value) (v89 : Value) (v91 : Value) (v93 : Value), Fr 155 a [(2, .int .i64 (IntKind.i64.wrap (((IntKind.u64.wrap many2)).tmod (400 : Int)))), (9, v5), (11, v9), (13, v30), (15, .int .i64 (IntKind.i64.wrap ((IntKind.i64.wrap ((IntKind.i64.wrap ((IntKind.i64.wrap (((IntKind.u64.wrap many2)).tmod (400 : Int))) + (2 : Int))) * (8 : Int))) * (IntKind.i64.wrap ((IntKind.i64.wrap ((1 : Int) + (IntKind.i64.wrap (((IntKind.u64.wrap wait1)).tmod (30 : Int))))) + (10 : Int)))))), (16, .int .i64 now16)] ∧ Hp S w0 w (Res.sl (Ek.pair Ek.str (Ek.pair Ek.bool (Ek.pair (Ek.int .i64) Ek.bool))) 81 v79 sx9c_4 :: Res.obj 79 v5 [.int .i64 sx9c_0, .int .i64 sx9c_1, .int .i64 sx9c_2, .int .i64 sx9c_3, v79] :: Res.map (fun x : ByteArray => Value.string x) v82 r11c_2 :: Res.obj 74 v9 [.int .i64 r11c_0, .int .i64 r11c_1, v82] :: Res.sl (Ek.pair (Ek.int .i64) (Ek.pair (Ek.int .i64) (Ek.pair (Ek.int .u8) (Ek.pair (Ek.int .u8) (Ek.pair Ek.bool Ek.str))))) 88 v85 k13c_3 :: Res.sl (Ek.pair (Ek.int .i64) (Ek.pair (Ek.int .i64) (Ek.pair (Ek.int .u8) (Ek.pair (Ek.int .u8) (Ek.pair Ek.bool Ek.str))))) 88 v87 k13c_4 :: Res.map (fun x : Int => Value.int .i64 x) v89 k13c_7 :: Res.sl Ek.str 9 v91 k13c_11 :: Res.sl (Ek.int .i64) 3 v93 k13c_13 :: Res.obj 68 v30 [.int .i64 k13c_0, v5, v9, v85, v87, vpicks3, .int .i64 k13c_6, v89, .int .i64 k13c_8, .int .i64 k13c_9, .int .i64 k13c_10, v91, .bool k13c_12, v93] :: ow) := hI
    replace h : f_foghornlaw28_AgainOnce.s2c wait1 many2 picks3 sx9c_0 sx9c_1 sx9c_2 sx9c_3 sx9c_4 r11c_0 r11c_1 r11c_2 k13c_0 k13c_3 k13c_4 k13c_6 k13c_7 k13c_8 k13c_9 k13c_10 k13c_11 k13c_12 k13c_13 now16 = some x := h
    unfold f_foghornlaw28_AgainOnce.s2c at h
    refine wp_seq ?_
    refine wp_seq ?_
    refine wp_reg ?_
    refine st_move hf rfl rfl (by decide) ?_
    clear hf; intro a ha hf; clear ha
    refine st_move hf rfl rfl (by decide) ?_
    clear hf; intro a ha hf; clear ha
    refine st_ileq hf (by decide) rfl rfl rfl ?_
    clear hf; intro a ha hf; clear ha
    refine st_move hf rfl rfl (by decide) ?_
    clear hf; intro a ha hf; clear ha
    obtain ⟨z115, hz113, h⟩ := bnd h
    refine wpList_cut 4 (fun a w => Fr 155 a [(2, .int .i64 (IntKind.i64.wrap (((IntKind.u64.wrap many2)).tmod (400 : Int)))), (9, v5), (11, v9), (13, v30), (15, .int .i64 (IntKind.i64.wrap ((IntKind.i64.wrap ((IntKind.i64.wrap ((IntKind.i64.wrap (((IntKind.u64.wrap many2)).tmod (400 : Int))) + (2 : Int))) * (8 : Int))) * (IntKind.i64.wrap ((IntKind.i64.wrap ((1 : Int) + (IntKind.i64.wrap (((IntKind.u64.wrap wait1)).tmod (30 : Int))))) + (10 : Int)))))), (16, .int .i64 now16), (97, .bool z115)] ∧ Hp S w0 w (Res.sl (Ek.pair Ek.str (Ek.pair Ek.bool (Ek.pair (Ek.int .i64) Ek.bool))) 81 v79 sx9c_4 :: Res.obj 79 v5 [.int .i64 sx9c_0, .int .i64 sx9c_1, .int .i64 sx9c_2, .int .i64 sx9c_3, v79] :: Res.map (fun x : ByteArray => Value.string x) v82 r11c_2 :: Res.obj 74 v9 [.int .i64 r11c_0, .int .i64 r11c_1, v82] :: Res.sl (Ek.pair (Ek.int .i64) (Ek.pair (Ek.int .i64) (Ek.pair (Ek.int .u8) (Ek.pair (Ek.int .u8) (Ek.pair Ek.bool Ek.str))))) 88 v85 k13c_3 :: Res.sl (Ek.pair (Ek.int .i64) (Ek.pair (Ek.int .i64) (Ek.pair (Ek.int .u8) (Ek.pair (Ek.int .u8) (Ek.pair Ek.bool Ek.str))))) 88 v87 k13c_4 :: Res.map (fun x : Int => Value.int .i64 x) v89 k13c_7 :: Res.sl Ek.str 9 v91 k13c_11 :: Res.sl (Ek.int .i64) 3 v93 k13c_13 :: Res.obj 68 v30 [.int .i64 k13c_0, v5, v9, v85, v87, vpicks3, .int .i64 k13c_6, v89, .int .i64 k13c_8, .int .i64 k13c_9, .int .i64 k13c_10, v91, .bool k13c_12, v93] :: ow)) ?_ ?_
    ·
     rcases Bool.eq_false_or_eq_true (decide (now16 ≤ (IntKind.i64.wrap ((IntKind.i64.wrap ((IntKind.i64.wrap ((IntKind.i64.wrap (((IntKind.u64.wrap many2)).tmod (400 : Int))) + (2 : Int))) * (8 : Int))) * (IntKind.i64.wrap ((IntKind.i64.wrap ((1 : Int) + (IntKind.i64.wrap (((IntKind.u64.wrap wait1)).tmod (30 : Int))))) + (10 : Int))))))) with hb114 | hb114
     ·
      replace hz113 := ifT hz113 hb114
      refine st_move hf (wantY hf rfl rfl hb114) rfl (by decide) ?_
      clear hf; intro a ha hf; clear ha
      obtain ⟨q116, hcall117, hz113⟩ := bnd hz113
      obtain ⟨S118, hp119, rd120, up121, bk122⟩ := Hp.lendS hp (i := 0) rfl
      obtain ⟨S123, hp124, rd125, up126, bk127⟩ := Hp.lendO hp119 (i := 0) rfl
      refine st_call hf (by decide) Try.func25 rfl rfl (wantY hf rfl rfl hb114) rfl rfl (f_again_Sender_Left_c hp124 _ _ _ _ _ _ ((rd120.now hp119).mono up126) _ rd125 hcall117) ?_
      rintro _ w ⟨rfl, hp0⟩
      have hp0 := bk127 _ _ hp0
      have hp0 := bk122 _ _ hp0
      clear hp; have hp := hp0; clear hp0
      replace hp : Hp _ _ _ (Res.sl (Ek.pair Ek.str (Ek.pair Ek.bool (Ek.pair (Ek.int .i64) Ek.bool))) 81 v79 sx9c_4 :: Res.obj 79 v5 [.int .i64 sx9c_0, .int .i64 sx9c_1, .int .i64 sx9c_2, .int .i64 sx9c_3, v79] :: Res.map (fun x : ByteArray => Value.string x) v82 r11c_2 :: Res.obj 74 v9 [.int .i64 r11c_0, .int .i64 r11c_1, v82] :: Res.sl (Ek.pair (Ek.int .i64) (Ek.pair (Ek.int .i64) (Ek.pair (Ek.int .u8) (Ek.pair (Ek.int .u8) (Ek.pair Ek.bool Ek.str))))) 88 v85 k13c_3 :: Res.sl (Ek.pair (Ek.int .i64) (Ek.pair (Ek.int .i64) (Ek.pair (Ek.int .u8) (Ek.pair (Ek.int .u8) (Ek.pair Ek.bool Ek.str))))) 88 v87 k13c_4 :: Res.map (fun x : Int => Value.int .i64 x) v89 k13c_7 :: Res.sl Ek.str 9 v91 k13c_11 :: Res.sl (Ek.int .i64) 3 v93 k13c_13 :: Res.obj 68 v30 [.int .i64 k13c_0, v5, v9, v85, v87, vpicks3, .int .i64 k13c_6, v89, .int .i64 k13c_8, .int .i64 k13c_9, .int .i64 k13c_10, v91, .bool k13c_12, v93] :: ow) := hp
      refine ⟨_, rfl, ?_⟩
      clear hf; intro a hf
      refine st_igtr hf (by decide) (wantY hf rfl rfl hb114) rfl rfl ?_
      clear hf; intro a ha hf; clear ha
      obtain rfl := Option.some.inj hz113
      refine st_pick (v := .bool (decide ((0 : Int) < q116))) hf rfl rfl (fun hb' => ?_) (fun hb' => ?_) (by decide) ?_
      · rfl
      · exact absurd (hb114.symm.trans hb') (by decide)
      clear hf; intro a ha hf; clear ha
      refine st_nil hf (th_n ?_)
      exact ⟨hf.sub ⟨rfl, rfl, rfl, rfl, rfl, rfl, rfl, trivial⟩, hp⟩
     replace hz113 := ifF hz113 hb114
     refine st_skip hf (wantN hf rfl rfl hb114) rfl (by decide) ?_ rfl
     clear hf; intro a hf
     refine st_skip hf (wantN hf rfl rfl hb114) rfl (by decide) ?_ rfl
     clear hf; intro a hf
     refine st_skip hf (wantN hf rfl rfl hb114) rfl (by decide) ?_ rfl
     clear hf; intro a hf
     obtain rfl := Option.some.inj hz113
     refine st_pick (v := .bool false) hf rfl rfl (fun hb' => ?_) (fun hb' => ?_) (by decide) ?_
     · exact absurd (hb114.symm.trans hb') (by decide)
     · rfl
     clear hf; intro a ha hf; clear ha
     refine st_nil hf (th_n ?_)
     exact ⟨hf.sub ⟨rfl, rfl, rfl, rfl, rfl, rfl, rfl, trivial⟩, hp⟩
    rintro a w ⟨hf, hp⟩
    refine st_nil hf ?_
    refine th_n ?_
    refine wp_if hf rfl (fun hb => ?_) (fun hb => ?_)
    ·
     replace h := ifT h hb
     refine wp_skip ?_
     refine th_n ?_
     refine wp_seq ?_
     refine wp_block ?_
     refine wp_seq ?_
     refine wp_seq ?_
     refine wp_reg ?_
     refine st_move hf rfl rfl (by decide) ?_
     clear hf; intro a ha hf; clear ha
     refine st_move hf rfl rfl (by decide) ?_
     clear hf; intro a ha hf; clear ha
     obtain ⟨q128, hcall129, h⟩ := bnd h
     have hp : Hp _ _ _ (_ :: _ :: _ :: _ :: _ :: _ :: _ :: _ :: _ :: _ :: ow) := Hp.sel (pre := [Res.sl (Ek.pair Ek.str (Ek.pair Ek.bool (Ek.pair (Ek.int .i64) Ek.bool))) 81 v79 sx9c_4, Res.obj 79 v5 [.int .i64 sx9c_0, .int .i64 sx9c_1, .int .i64 sx9c_2, .int .i64 sx9c_3, v79], Res.map (fun x : ByteArray => Value.string x) v82 r11c_2, Res.obj 74 v9 [.int .i64 r11c_0, .int .i64 r11c_1, v82], Res.sl (Ek.pair (Ek.int .i64) (Ek.pair (Ek.int .i64) (Ek.pair (Ek.int .u8) (Ek.pair (Ek.int .u8) (Ek.pair Ek.bool Ek.str))))) 88 v85 k13c_3, Res.sl (Ek.pair (Ek.int .i64) (Ek.pair (Ek.int .i64) (Ek.pair (Ek.int .u8) (Ek.pair (Ek.int .u8) (Ek.pair Ek.bool Ek.str))))) 88 v87 k13c_4, Res.map (fun x : Int => Value.int .i64 x) v89 k13c_7, Res.sl Ek.str 9 v91 k13c_11, Res.sl (Ek.int .i64) 3 v93 k13c_13, Res.obj 68 v30 [.int .i64 k13c_0, v5, v9, v85, v87, vpicks3, .int .i64 k13c_6, v89, .int .i64 k13c_8, .int .i64 k13c_9, .int .i64 k13c_10, v91, .bool k13c_12, v93]]) (tail := ow) (rs' := [Res.obj 79 v5 [.int .i64 sx9c_0, .int .i64 sx9c_1, .int .i64 sx9c_2, .int .i64 sx9c_3, v79], Res.sl (Ek.pair Ek.str (Ek.pair Ek.bool (Ek.pair (Ek.int .i64) Ek.bool))) 81 v79 sx9c_4, Res.map (fun x : ByteArray => Value.string x) v82 r11c_2, Res.obj 74 v9 [.int .i64 r11c_0, .int .i64 r11c_1, v82], Res.sl (Ek.pair (Ek.int .i64) (Ek.pair (Ek.int .i64) (Ek.pair (Ek.int .u8) (Ek.pair (Ek.int .u8) (Ek.pair Ek.bool Ek.str))))) 88 v85 k13c_3, Res.sl (Ek.pair (Ek.int .i64) (Ek.pair (Ek.int .i64) (Ek.pair (Ek.int .u8) (Ek.pair (Ek.int .u8) (Ek.pair Ek.bool Ek.str))))) 88 v87 k13c_4, Res.map (fun x : Int => Value.int .i64 x) v89 k13c_7, Res.sl Ek.str 9 v91 k13c_11, Res.sl (Ek.int .i64) 3 v93 k13c_13, Res.obj 68 v30 [.int .i64 k13c_0, v5, v9, v85, v87, vpicks3, .int .i64 k13c_6, v89, .int .i64 k13c_8, .int .i64 k13c_9, .int .i64 k13c_10, v91, .bool k13c_12, v93]]) hp [1, 0, 2, 3, 4, 5, 6, 7, 8, 9] (by decide) (by simp) rfl
     replace hp : Hp _ _ _ (Res.opt pk79 v5 (some (sx9c_0, sx9c_1, sx9c_2, sx9c_3, sx9c_4)) :: _ :: _ :: _ :: _ :: _ :: _ :: _ :: _ :: ow) := pk79_out (s := (sx9c_0, sx9c_1, sx9c_2, sx9c_3, sx9c_4)) (u := v79) hp
     have hp : Hp _ _ _ (_ :: _ :: _ :: _ :: _ :: _ :: _ :: _ :: _ :: ow) := Hp.sel (pre := [Res.opt pk79 v5 (some (sx9c_0, sx9c_1, sx9c_2, sx9c_3, sx9c_4)), Res.map (fun x : ByteArray => Value.string x) v82 r11c_2, Res.obj 74 v9 [.int .i64 r11c_0, .int .i64 r11c_1, v82], Res.sl (Ek.pair (Ek.int .i64) (Ek.pair (Ek.int .i64) (Ek.pair (Ek.int .u8) (Ek.pair (Ek.int .u8) (Ek.pair Ek.bool Ek.str))))) 88 v85 k13c_3, Res.sl (Ek.pair (Ek.int .i64) (Ek.pair (Ek.int .i64) (Ek.pair (Ek.int .u8) (Ek.pair (Ek.int .u8) (Ek.pair Ek.bool Ek.str))))) 88 v87 k13c_4, Res.map (fun x : Int => Value.int .i64 x) v89 k13c_7, Res.sl Ek.str 9 v91 k13c_11, Res.sl (Ek.int .i64) 3 v93 k13c_13, Res.obj 68 v30 [.int .i64 k13c_0, v5, v9, v85, v87, vpicks3, .int .i64 k13c_6, v89, .int .i64 k13c_8, .int .i64 k13c_9, .int .i64 k13c_10, v91, .bool k13c_12, v93]]) (tail := ow) (rs' := [Res.obj 74 v9 [.int .i64 r11c_0, .int .i64 r11c_1, v82], Res.map (fun x : ByteArray => Value.string x) v82 r11c_2, Res.opt pk79 v5 (some (sx9c_0, sx9c_1, sx9c_2, sx9c_3, sx9c_4)), Res.sl (Ek.pair (Ek.int .i64) (Ek.pair (Ek.int .i64) (Ek.pair (Ek.int .u8) (Ek.pair (Ek.int .u8) (Ek.pair Ek.bool Ek.str))))) 88 v85 k13c_3, Res.sl (Ek.pair (Ek.int .i64) (Ek.pair (Ek.int .i64) (Ek.pair (Ek.int .u8) (Ek.pair (Ek.int .u8) (Ek.pair Ek.bool Ek.str))))) 88 v87 k13c_4, Res.map (fun x : Int => Value.int .i64 x) v89 k13c_7, Res.sl Ek.str 9 v91 k13c_11, Res.sl (Ek.int .i64) 3 v93 k13c_13, Res.obj 68 v30 [.int .i64 k13c_0, v5, v9, v85, v87, vpicks3, .int .i64 k13c_6, v89, .int .i64 k13c_8, .int .i64 k13c_9, .int .i64 k13c_10, v91, .bool k13c_12, v93]]) hp [2, 1, 0, 3, 4, 5, 6, 7, 8] (by decide) (by simp) rfl
     replace hp : Hp _ _ _ (Res.opt pk74 v9 (some (r11c_0, r11c_1, r11c_2)) :: _ :: _ :: _ :: _ :: _ :: _ :: _ :: ow) := pk74_out (s := (r11c_0, r11c_1, r11c_2)) (u := v82) hp
     have hp130 : Hp _ _ _ (Res.opt pk79 v5 (some (sx9c_0, sx9c_1, sx9c_2, sx9c_3, sx9c_4)) :: Res.opt pk74 v9 (some (r11c_0, r11c_1, r11c_2)) :: Res.sl (Ek.pair (Ek.int .i64) (Ek.pair (Ek.int .i64) (Ek.pair (Ek.int .u8) (Ek.pair (Ek.int .u8) (Ek.pair Ek.bool Ek.str))))) 88 v85 k13c_3 :: Res.sl (Ek.pair (Ek.int .i64) (Ek.pair (Ek.int .i64) (Ek.pair (Ek.int .u8) (Ek.pair (Ek.int .u8) (Ek.pair Ek.bool Ek.str))))) 88 v87 k13c_4 :: Res.map (fun x : Int => Value.int .i64 x) v89 k13c_7 :: Res.sl Ek.str 9 v91 k13c_11 :: Res.sl (Ek.int .i64) 3 v93 k13c_13 :: Res.obj 68 v30 [.int .i64 k13c_0, v5, v9, v85, v87, vpicks3, .int .i64 k13c_6, v89, .int .i64 k13c_8, .int .i64 k13c_9, .int .i64 k13c_10, v91, .bool k13c_12, v93] :: ow) := Hp.sel (pre := [Res.opt pk74 v9 (some (r11c_0, r11c_1, r11c_2)), Res.opt pk79 v5 (some (sx9c_0, sx9c_1, sx9c_2, sx9c_3, sx9c_4)), Res.sl (Ek.pair (Ek.int .i64) (Ek.pair (Ek.int .i64) (Ek.pair (Ek.int .u8) (Ek.pair (Ek.int .u8) (Ek.pair Ek.bool Ek.str))))) 88 v85 k13c_3, Res.sl (Ek.pair (Ek.int .i64) (Ek.pair (Ek.int .i64) (Ek.pair (Ek.int .u8) (Ek.pair (Ek.int .u8) (Ek.pair Ek.bool Ek.str))))) 88 v87 k13c_4, Res.map (fun x : Int => Value.int .i64 x) v89 k13c_7, Res.sl Ek.str 9 v91 k13c_11, Res.sl (Ek.int .i64) 3 v93 k13c_13, Res.obj 68 v30 [.int .i64 k13c_0, v5, v9, v85, v87, vpicks3, .int .i64 k13c_6, v89, .int .i64 k13c_8, .int .i64 k13c_9, .int .i64 k13c_10, v91, .bool k13c_12, v93]]) (tail := ow) (rs' := [Res.opt pk79 v5 (some (sx9c_0, sx9c_1, sx9c_2, sx9c_3, sx9c_4)), Res.opt pk74 v9 (some (r11c_0, r11c_1, r11c_2)), Res.sl (Ek.pair (Ek.int .i64) (Ek.pair (Ek.int .i64) (Ek.pair (Ek.int .u8) (Ek.pair (Ek.int .u8) (Ek.pair Ek.bool Ek.str))))) 88 v85 k13c_3, Res.sl (Ek.pair (Ek.int .i64) (Ek.pair (Ek.int .i64) (Ek.pair (Ek.int .u8) (Ek.pair (Ek.int .u8) (Ek.pair Ek.bool Ek.str))))) 88 v87 k13c_4, Res.map (fun x : Int => Value.int .i64 x) v89 k13c_7, Res.sl Ek.str 9 v91 k13c_11, Res.sl (Ek.int .i64) 3 v93 k13c_13, Res.obj 68 v30 [.int .i64 k13c_0, v5, v9, v85, v87, vpicks3, .int .i64 k13c_6, v89, .int .i64 k13c_8, .int .i64 k13c_9, .int .i64 k13c_10, v91, .bool k13c_12, v93]]) hp [1, 0, 2, 3, 4, 5, 6, 7] (by decide) (by simp) rfl
     refine st_call hf (by decide) Try.func28 rfl rfl rfl rfl rfl (f_foghornlaw28_link_tick_c _ _ _ _ _ _ _ _ _ _ _ hpicks3 _ _ _ _ _ _ _ _ _ _ _ _ _ hp130 hcall129) ?_
     rintro _ w ⟨v131, v132, v133, v134, v135, rfl, hp0⟩
     clear hp; have hp := hp0; clear hp0
     replace hp : Hp _ _ _ (Res.opt pk79 v5 q128.2.2.1 :: Res.opt pk74 v9 q128.2.2.2.1 :: Res.sl (Ek.pair (Ek.int .i64) (Ek.pair (Ek.int .i64) (Ek.pair (Ek.int .u8) (Ek.pair (Ek.int .u8) (Ek.pair Ek.bool Ek.str))))) 88 v131 q128.2.2.2.2.1 :: Res.sl (Ek.pair (Ek.int .i64) (Ek.pair (Ek.int .i64) (Ek.pair (Ek.int .u8) (Ek.pair (Ek.int .u8) (Ek.pair Ek.bool Ek.str))))) 88 v132 q128.2.2.2.2.2.1 :: Res.map (fun x : Int => Value.int .i64 x) v133 q128.2.2.2.2.2.2.2.2.1 :: Res.sl Ek.str 9 v134 q128.2.2.2.2.2.2.2.2.2.2.2.2.1 :: Res.sl (Ek.int .i64) 3 v135 q128.2.2.2.2.2.2.2.2.2.2.2.2.2.2 :: Res.obj 68 v30 [.int .i64 q128.2.1, v5, v9, v131, v132, vpicks3, .int .i64 q128.2.2.2.2.2.2.2.1, v133, .int .i64 q128.2.2.2.2.2.2.2.2.2.1, .int .i64 q128.2.2.2.2.2.2.2.2.2.2.1, .int .i64 q128.2.2.2.2.2.2.2.2.2.2.2.1, v134, .bool q128.2.2.2.2.2.2.2.2.2.2.2.2.2.1, v135] :: ow) := hp
     refine ⟨_, rfl, ?_⟩
     clear hf; intro a hf
     refine st_not hf (by decide) rfl rfl ?_
     clear hf; intro a ha hf; clear ha
     refine st_nil hf ?_
     refine th_n ?_
     refine wp_if hf rfl (fun hb => ?_) (fun hb => ?_)
     ·
      replace h := ifT h hb
      refine wp_seq ?_
      refine wp_reg ?_
      refine st_assign hf rfl rfl (by decide) ?_
      clear hf; intro a ha hf; clear ha
      refine st_nil hf ?_
      refine th_n ?_
      refine wp_ret ?_
      refine th_r ?_
      refine ib_r ?_
      refine th_r ?_
      obtain rfl := Option.some.inj h
      have hp : Hp _ _ _ (ow) := Hp.sel (pre := [Res.opt pk79 v5 q128.2.2.1, Res.opt pk74 v9 q128.2.2.2.1, Res.sl (Ek.pair (Ek.int .i64) (Ek.pair (Ek.int .i64) (Ek.pair (Ek.int .u8) (Ek.pair (Ek.int .u8) (Ek.pair Ek.bool Ek.str))))) 88 v131 q128.2.2.2.2.1, Res.sl (Ek.pair (Ek.int .i64) (Ek.pair (Ek.int .i64) (Ek.pair (Ek.int .u8) (Ek.pair (Ek.int .u8) (Ek.pair Ek.bool Ek.str))))) 88 v132 q128.2.2.2.2.2.1, Res.map (fun x : Int => Value.int .i64 x) v133 q128.2.2.2.2.2.2.2.2.1, Res.sl Ek.str 9 v134 q128.2.2.2.2.2.2.2.2.2.2.2.2.1, Res.sl (Ek.int .i64) 3 v135 q128.2.2.2.2.2.2.2.2.2.2.2.2.2.2, Res.obj 68 v30 [.int .i64 q128.2.1, v5, v9, v131, v132, vpicks3, .int .i64 q128.2.2.2.2.2.2.2.1, v133, .int .i64 q128.2.2.2.2.2.2.2.2.2.1, .int .i64 q128.2.2.2.2.2.2.2.2.2.2.1, .int .i64 q128.2.2.2.2.2.2.2.2.2.2.2.1, v134, .bool q128.2.2.2.2.2.2.2.2.2.2.2.2.2.1, v135]]) (tail := ow) (rs' := []) hp [] (by decide) (by simp) rfl
      exact rnd_r (by simp) ⟨rfl, ⟨hf.sub ⟨rfl, trivial⟩, hp⟩⟩
     replace h := ifF h hb
     refine wp_skip ?_
     refine th_n ?_
     refine wp_seq ?_
     refine wp_seq ?_
     refine wp_reg ?_
     refine st_move hf rfl rfl (by decide) ?_
     clear hf; intro a ha hf; clear ha
     refine st_nilV hf (by decide) rfl rfl (hp.ob (i := 7) rfl) ?_
     clear hf; intro a ha hf; clear ha
     refine st_fa (o' := 12) hf (by decide) (off := 12) (sz := 1) (by kernel_rfl) (by decide) rfl rfl (hp.ob (i := 7) rfl) rfl ?_
     clear hf; intro a ha hf; clear ha
     refine st_ldO (u := .bool q128.2.2.2.2.2.2.2.2.2.2.2.2.2.1) hf (by decide) pl4 rfl rfl (hp.ob (i := 7) rfl) rfl ?_
     clear hf; intro a ha hf; clear ha
     refine st_nil hf ?_
     refine th_n ?_
     refine wp_if hf rfl (fun hb => ?_) (fun hb => ?_)
     ·
      replace h := ifT h hb
      refine wp_seq ?_
      refine wp_reg ?_
      refine st_assign hf rfl rfl (by decide) ?_
      clear hf; intro a ha hf; clear ha
      refine st_nil hf ?_
      refine th_n ?_
      refine wp_ret ?_
      refine th_r ?_
      refine ib_r ?_
      refine th_r ?_
      obtain rfl := Option.some.inj h
      have hp : Hp _ _ _ (ow) := Hp.sel (pre := [Res.opt pk79 v5 q128.2.2.1, Res.opt pk74 v9 q128.2.2.2.1, Res.sl (Ek.pair (Ek.int .i64) (Ek.pair (Ek.int .i64) (Ek.pair (Ek.int .u8) (Ek.pair (Ek.int .u8) (Ek.pair Ek.bool Ek.str))))) 88 v131 q128.2.2.2.2.1, Res.sl (Ek.pair (Ek.int .i64) (Ek.pair (Ek.int .i64) (Ek.pair (Ek.int .u8) (Ek.pair (Ek.int .u8) (Ek.pair Ek.bool Ek.str))))) 88 v132 q128.2.2.2.2.2.1, Res.map (fun x : Int => Value.int .i64 x) v133 q128.2.2.2.2.2.2.2.2.1, Res.sl Ek.str 9 v134 q128.2.2.2.2.2.2.2.2.2.2.2.2.1, Res.sl (Ek.int .i64) 3 v135 q128.2.2.2.2.2.2.2.2.2.2.2.2.2.2, Res.obj 68 v30 [.int .i64 q128.2.1, v5, v9, v131, v132, vpicks3, .int .i64 q128.2.2.2.2.2.2.2.1, v133, .int .i64 q128.2.2.2.2.2.2.2.2.2.1, .int .i64 q128.2.2.2.2.2.2.2.2.2.2.1, .int .i64 q128.2.2.2.2.2.2.2.2.2.2.2.1, v134, .bool q128.2.2.2.2.2.2.2.2.2.2.2.2.2.1, v135]]) (tail := ow) (rs' := []) hp [] (by decide) (by simp) rfl
      exact rnd_r (by simp) ⟨rfl, ⟨hf.sub ⟨rfl, trivial⟩, hp⟩⟩
     replace h := ifF h hb
     refine wp_skip ?_
     refine th_n ?_
     refine wp_seq ?_
     refine wp_reg ?_
     refine st_assign hf rfl rfl (by decide) ?_
     clear hf; intro a ha hf; clear ha
     refine st_nil hf ?_
     refine th_n ?_
     refine wp_block ?_
     obtain ⟨s141, hs142, h⟩ := bnd h
     replace hp : Hp _ _ _ (pk79.R v5 s141 :: _ :: _ :: _ :: _ :: _ :: _ :: _ :: ow) := hp.optSome hs142
     obtain ⟨v143, hp⟩ := pk79_in hp
     replace hp : Hp _ _ _ (Res.obj 79 v5 [.int .i64 s141.1, .int .i64 s141.2.1, .int .i64 s141.2.2.1, .int .i64 s141.2.2.2.1, v143] :: Res.sl (Ek.pair Ek.str (Ek.pair Ek.bool (Ek.pair (Ek.int .i64) Ek.bool))) 81 v143 s141.2.2.2.2 :: _ :: _ :: _ :: _ :: _ :: _ :: _ :: ow) := hp
     obtain ⟨s145, hs146, h⟩ := bnd h
     have hp : Hp _ _ _ (_ :: _ :: _ :: _ :: _ :: _ :: _ :: _ :: _ :: ow) := Hp.sel (pre := [Res.obj 79 v5 [.int .i64 s141.1, .int .i64 s141.2.1, .int .i64 s141.2.2.1, .int .i64 s141.2.2.2.1, v143], Res.sl (Ek.pair Ek.str (Ek.pair Ek.bool (Ek.pair (Ek.int .i64) Ek.bool))) 81 v143 s141.2.2.2.2, Res.opt pk74 v9 q128.2.2.2.1, Res.sl (Ek.pair (Ek.int .i64) (Ek.pair (Ek.int .i64) (Ek.pair (Ek.int .u8) (Ek.pair (Ek.int .u8) (Ek.pair Ek.bool Ek.str))))) 88 v131 q128.2.2.2.2.1, Res.sl (Ek.pair (Ek.int .i64) (Ek.pair (Ek.int .i64) (Ek.pair (Ek.int .u8) (Ek.pair (Ek.int .u8) (Ek.pair Ek.bool Ek.str))))) 88 v132 q128.2.2.2.2.2.1, Res.map (fun x : Int => Value.int .i64 x) v133 q128.2.2.2.2.2.2.2.2.1, Res.sl Ek.str 9 v134 q128.2.2.2.2.2.2.2.2.2.2.2.2.1, Res.sl (Ek.int .i64) 3 v135 q128.2.2.2.2.2.2.2.2.2.2.2.2.2.2, Res.obj 68 v30 [.int .i64 q128.2.1, v5, v9, v131, v132, vpicks3, .int .i64 q128.2.2.2.2.2.2.2.1, v133, .int .i64 q128.2.2.2.2.2.2.2.2.2.1, .int .i64 q128.2.2.2.2.2.2.2.2.2.2.1, .int .i64 q128.2.2.2.2.2.2.2.2.2.2.2.1, v134, .bool q128.2.2.2.2.2.2.2.2.2.2.2.2.2.1, v135]]) (tail := ow) (rs' := [Res.opt pk74 v9 q128.2.2.2.1, Res.obj 79 v5 [.int .i64 s141.1, .int .i64 s141.2.1, .int .i64 s141.2.2.1, .int .i64 s141.2.2.2.1, v143], Res.sl (Ek.pair Ek.str (Ek.pair Ek.bool (Ek.pair (Ek.int .i64) Ek.bool))) 81 v143 s141.2.2.2.2, Res.sl (Ek.pair (Ek.int .i64) (Ek.pair (Ek.int .i64) (Ek.pair (Ek.int .u8) (Ek.pair (Ek.int .u8) (Ek.pair Ek.bool Ek.str))))) 88 v131 q128.2.2.2.2.1, Res.sl (Ek.pair (Ek.int .i64) (Ek.pair (Ek.int .i64) (Ek.pair (Ek.int .u8) (Ek.pair (Ek.int .u8) (Ek.pair Ek.bool Ek.str))))) 88 v132 q128.2.2.2.2.2.1, Res.map (fun x : Int => Value.int .i64 x) v133 q128.2.2.2.2.2.2.2.2.1, Res.sl Ek.str 9 v134 q128.2.2.2.2.2.2.2.2.2.2.2.2.1, Res.sl (Ek.int .i64) 3 v135 q128.2.2.2.2.2.2.2.2.2.2.2.2.2.2, Res.obj 68 v30 [.int .i64 q128.2.1, v5, v9, v131, v132, vpicks3, .int .i64 q128.2.2.2.2.2.2.2.1, v133, .int .i64 q128.2.2.2.2.2.2.2.2.2.1, .int .i64 q128.2.2.2.2.2.2.2.2.2.2.1, .int .i64 q128.2.2.2.2.2.2.2.2.2.2.2.1, v134, .bool q128.2.2.2.2.2.2.2.2.2.2.2.2.2.1, v135]]) hp [2, 0, 1, 3, 4, 5, 6, 7, 8] (by decide) (by simp) rfl
     replace hp : Hp _ _ _ (pk74.R v9 s145 :: _ :: _ :: _ :: _ :: _ :: _ :: _ :: _ :: ow) := hp.optSome hs146
     obtain ⟨v147, hp⟩ := pk74_in hp
     replace hp : Hp _ _ _ (Res.obj 74 v9 [.int .i64 s145.1, .int .i64 s145.2.1, v147] :: Res.map (fun x : ByteArray => Value.string x) v147 s145.2.2 :: _ :: _ :: _ :: _ :: _ :: _ :: _ :: _ :: ow) := hp
     obtain ⟨q168, hl, h⟩ := bnd h
     have hp : Hp _ _ _ (_ :: _ :: _ :: _ :: _ :: _ :: _ :: _ :: _ :: _ :: ow) := Hp.sel (pre := [Res.obj 74 v9 [.int .i64 s145.1, .int .i64 s145.2.1, v147], Res.map (fun x : ByteArray => Value.string x) v147 s145.2.2, Res.obj 79 v5 [.int .i64 s141.1, .int .i64 s141.2.1, .int .i64 s141.2.2.1, .int .i64 s141.2.2.2.1, v143], Res.sl (Ek.pair Ek.str (Ek.pair Ek.bool (Ek.pair (Ek.int .i64) Ek.bool))) 81 v143 s141.2.2.2.2, Res.sl (Ek.pair (Ek.int .i64) (Ek.pair (Ek.int .i64) (Ek.pair (Ek.int .u8) (Ek.pair (Ek.int .u8) (Ek.pair Ek.bool Ek.str))))) 88 v131 q128.2.2.2.2.1, Res.sl (Ek.pair (Ek.int .i64) (Ek.pair (Ek.int .i64) (Ek.pair (Ek.int .u8) (Ek.pair (Ek.int .u8) (Ek.pair Ek.bool Ek.str))))) 88 v132 q128.2.2.2.2.2.1, Res.map (fun x : Int => Value.int .i64 x) v133 q128.2.2.2.2.2.2.2.2.1, Res.sl Ek.str 9 v134 q128.2.2.2.2.2.2.2.2.2.2.2.2.1, Res.sl (Ek.int .i64) 3 v135 q128.2.2.2.2.2.2.2.2.2.2.2.2.2.2, Res.obj 68 v30 [.int .i64 q128.2.1, v5, v9, v131, v132, vpicks3, .int .i64 q128.2.2.2.2.2.2.2.1, v133, .int .i64 q128.2.2.2.2.2.2.2.2.2.1, .int .i64 q128.2.2.2.2.2.2.2.2.2.2.1, .int .i64 q128.2.2.2.2.2.2.2.2.2.2.2.1, v134, .bool q128.2.2.2.2.2.2.2.2.2.2.2.2.2.1, v135]]) (tail := ow) (rs' := [Res.obj 79 v5 [.int .i64 s141.1, .int .i64 s141.2.1, .int .i64 s141.2.2.1, .int .i64 s141.2.2.2.1, v143], Res.sl (Ek.pair Ek.str (Ek.pair Ek.bool (Ek.pair (Ek.int .i64) Ek.bool))) 81 v143 s141.2.2.2.2, Res.obj 74 v9 [.int .i64 s145.1, .int .i64 s145.2.1, v147], Res.map (fun x : ByteArray => Value.string x) v147 s145.2.2, Res.obj 68 v30 [.int .i64 q128.2.1, v5, v9, v131, v132, vpicks3, .int .i64 q128.2.2.2.2.2.2.2.1, v133, .int .i64 q128.2.2.2.2.2.2.2.2.2.1, .int .i64 q128.2.2.2.2.2.2.2.2.2.2.1, .int .i64 q128.2.2.2.2.2.2.2.2.2.2.2.1, v134, .bool q128.2.2.2.2.2.2.2.2.2.2.2.2.2.1, v135], Res.sl (Ek.pair (Ek.int .i64) (Ek.pair (Ek.int .i64) (Ek.pair (Ek.int .u8) (Ek.pair (Ek.int .u8) (Ek.pair Ek.bool Ek.str))))) 88 v131 q128.2.2.2.2.1, Res.sl (Ek.pair (Ek.int .i64) (Ek.pair (Ek.int .i64) (Ek.pair (Ek.int .u8) (Ek.pair (Ek.int .u8) (Ek.pair Ek.bool Ek.str))))) 88 v132 q128.2.2.2.2.2.1, Res.map (fun x : Int => Value.int .i64 x) v133 q128.2.2.2.2.2.2.2.2.1, Res.sl Ek.str 9 v134 q128.2.2.2.2.2.2.2.2.2.2.2.2.1, Res.sl (Ek.int .i64) 3 v135 q128.2.2.2.2.2.2.2.2.2.2.2.2.2.2]) hp [2, 3, 0, 1, 9, 4, 5, 6, 7, 8] (by decide) (by simp) rfl
     refine wp_loop_pure (f := (f_foghornlaw28_AgainOnce.s3 many2 q128)) (s := (0 : Int)) (fun s a w => Fr 155 a [(2, .int .i64 (IntKind.i64.wrap (((IntKind.u64.wrap many2)).tmod (400 : Int)))), (9, v5), (11, v9), (13, v30), (15, .int .i64 (IntKind.i64.wrap ((IntKind.i64.wrap ((IntKind.i64.wrap ((IntKind.i64.wrap (((IntKind.u64.wrap many2)).tmod (400 : Int))) + (2 : Int))) * (8 : Int))) * (IntKind.i64.wrap ((IntKind.i64.wrap ((1 : Int) + (IntKind.i64.wrap (((IntKind.u64.wrap wait1)).tmod (30 : Int))))) + (10 : Int)))))), (16, .int .i64 now16), (17, .int .i64 s)] ∧ Hp S w0 w (Res.obj 79 v5 [.int .i64 s141.1, .int .i64 s141.2.1, .int .i64 s141.2.2.1, .int .i64 s141.2.2.2.1, v143] :: Res.sl (Ek.pair Ek.str (Ek.pair Ek.bool (Ek.pair (Ek.int .i64) Ek.bool))) 81 v143 s141.2.2.2.2 :: Res.obj 74 v9 [.int .i64 s145.1, .int .i64 s145.2.1, v147] :: Res.map (fun x : ByteArray => Value.string x) v147 s145.2.2 :: Res.obj 68 v30 [.int .i64 q128.2.1, v5, v9, v131, v132, vpicks3, .int .i64 q128.2.2.2.2.2.2.2.1, v133, .int .i64 q128.2.2.2.2.2.2.2.2.2.1, .int .i64 q128.2.2.2.2.2.2.2.2.2.2.1, .int .i64 q128.2.2.2.2.2.2.2.2.2.2.2.1, v134, .bool q128.2.2.2.2.2.2.2.2.2.2.2.2.2.1, v135] :: Res.sl (Ek.pair (Ek.int .i64) (Ek.pair (Ek.int .i64) (Ek.pair (Ek.int .u8) (Ek.pair (Ek.int .u8) (Ek.pair Ek.bool Ek.str))))) 88 v131 q128.2.2.2.2.1 :: Res.sl (Ek.pair (Ek.int .i64) (Ek.pair (Ek.int .i64) (Ek.pair (Ek.int .u8) (Ek.pair (Ek.int .u8) (Ek.pair Ek.bool Ek.str))))) 88 v132 q128.2.2.2.2.2.1 :: Res.map (fun x : Int => Value.int .i64 x) v133 q128.2.2.2.2.2.2.2.2.1 :: Res.sl Ek.str 9 v134 q128.2.2.2.2.2.2.2.2.2.2.2.2.1 :: Res.sl (Ek.int .i64) 3 v135 q128.2.2.2.2.2.2.2.2.2.2.2.2.2.2 :: ow)) (fun q e a w => match q with | (Sum.inl q) => e = .exit 4 ∧ Fr 155 a [(2, .int .i64 (IntKind.i64.wrap (((IntKind.u64.wrap many2)).tmod (400 : Int)))), (9, v5), (11, v9), (13, v30), (15, .int .i64 (IntKind.i64.wrap ((IntKind.i64.wrap ((IntKind.i64.wrap ((IntKind.i64.wrap (((IntKind.u64.wrap many2)).tmod (400 : Int))) + (2 : Int))) * (8 : Int))) * (IntKind.i64.wrap ((IntKind.i64.wrap ((1 : Int) + (IntKind.i64.wrap (((IntKind.u64.wrap wait1)).tmod (30 : Int))))) + (10 : Int)))))), (16, .int .i64 now16)] ∧ Hp S w0 w (Res.obj 79 v5 [.int .i64 s141.1, .int .i64 s141.2.1, .int .i64 s141.2.2.1, .int .i64 s141.2.2.2.1, v143] :: Res.sl (Ek.pair Ek.str (Ek.pair Ek.bool (Ek.pair (Ek.int .i64) Ek.bool))) 81 v143 s141.2.2.2.2 :: Res.obj 74 v9 [.int .i64 s145.1, .int .i64 s145.2.1, v147] :: Res.map (fun x : ByteArray => Value.string x) v147 s145.2.2 :: Res.obj 68 v30 [.int .i64 q128.2.1, v5, v9, v131, v132, vpicks3, .int .i64 q128.2.2.2.2.2.2.2.1, v133, .int .i64 q128.2.2.2.2.2.2.2.2.2.1, .int .i64 q128.2.2.2.2.2.2.2.2.2.2.1, .int .i64 q128.2.2.2.2.2.2.2.2.2.2.2.1, v134, .bool q128.2.2.2.2.2.2.2.2.2.2.2.2.2.1, v135] :: Res.sl (Ek.pair (Ek.int .i64) (Ek.pair (Ek.int .i64) (Ek.pair (Ek.int .u8) (Ek.pair (Ek.int .u8) (Ek.pair Ek.bool Ek.str))))) 88 v131 q128.2.2.2.2.1 :: Res.sl (Ek.pair (Ek.int .i64) (Ek.pair (Ek.int .i64) (Ek.pair (Ek.int .u8) (Ek.pair (Ek.int .u8) (Ek.pair Ek.bool Ek.str))))) 88 v132 q128.2.2.2.2.2.1 :: Res.map (fun x : Int => Value.int .i64 x) v133 q128.2.2.2.2.2.2.2.2.1 :: Res.sl Ek.str 9 v134 q128.2.2.2.2.2.2.2.2.2.2.2.2.1 :: Res.sl (Ek.int .i64) 3 v135 q128.2.2.2.2.2.2.2.2.2.2.2.2.2.2 :: ow) | (Sum.inr q) => e = .ret ∧ Fr 155 a [(8, .bool q)] ∧ Hp S w0 w (ow)) ?_ hl ⟨hf.sub ⟨rfl, rfl, rfl, rfl, rfl, rfl, rfl, trivial⟩, hp⟩ ?_
     ·
      clear hl hf hp
      intro s x a w h hI
      obtain ⟨i17, hs⟩ : ∃ z, z = s := ⟨s, rfl⟩; subst hs
      obtain ⟨hf, hp⟩ : Fr 155 a [(2, .int .i64 (IntKind.i64.wrap (((IntKind.u64.wrap many2)).tmod (400 : Int)))), (9, v5), (11, v9), (13, v30), (15, .int .i64 (IntKind.i64.wrap ((IntKind.i64.wrap ((IntKind.i64.wrap ((IntKind.i64.wrap (((IntKind.u64.wrap many2)).tmod (400 : Int))) + (2 : Int))) * (8 : Int))) * (IntKind.i64.wrap ((IntKind.i64.wrap ((1 : Int) + (IntKind.i64.wrap (((IntKind.u64.wrap wait1)).tmod (30 : Int))))) + (10 : Int)))))), (16, .int .i64 now16), (17, .int .i64 i17)] ∧ Hp S w0 w (Res.obj 79 v5 [.int .i64 s141.1, .int .i64 s141.2.1, .int .i64 s141.2.2.1, .int .i64 s141.2.2.2.1, v143] :: Res.sl (Ek.pair Ek.str (Ek.pair Ek.bool (Ek.pair (Ek.int .i64) Ek.bool))) 81 v143 s141.2.2.2.2 :: Res.obj 74 v9 [.int .i64 s145.1, .int .i64 s145.2.1, v147] :: Res.map (fun x : ByteArray => Value.string x) v147 s145.2.2 :: Res.obj 68 v30 [.int .i64 q128.2.1, v5, v9, v131, v132, vpicks3, .int .i64 q128.2.2.2.2.2.2.2.1, v133, .int .i64 q128.2.2.2.2.2.2.2.2.2.1, .int .i64 q128.2.2.2.2.2.2.2.2.2.2.1, .int .i64 q128.2.2.2.2.2.2.2.2.2.2.2.1, v134, .bool q128.2.2.2.2.2.2.2.2.2.2.2.2.2.1, v135] :: Res.sl (Ek.pair (Ek.int .i64) (Ek.pair (Ek.int .i64) (Ek.pair (Ek.int .u8) (Ek.pair (Ek.int .u8) (Ek.pair Ek.bool Ek.str))))) 88 v131 q128.2.2.2.2.1 :: Res.sl (Ek.pair (Ek.int .i64) (Ek.pair (Ek.int .i64) (Ek.pair (Ek.int .u8) (Ek.pair (Ek.int .u8) (Ek.pair Ek.bool Ek.str))))) 88 v132 q128.2.2.2.2.2.1 :: Res.map (fun x : Int => Value.int .i64 x) v133 q128.2.2.2.2.2.2.2.2.1 :: Res.sl Ek.str 9 v134 q128.2.2.2.2.2.2.2.2.2.2.2.2.1 :: Res.sl (Ek.int .i64) 3 v135 q128.2.2.2.2.2.2.2.2.2.2.2.2.2.2 :: ow) := hI
      replace h : f_foghornlaw28_AgainOnce.s3c many2 q128 i17 = some x := h
      unfold f_foghornlaw28_AgainOnce.s3c at h
      refine wp_seq ?_
      refine wp_seq ?_
      refine wp_reg ?_
      refine st_move hf rfl rfl (by decide) ?_
      clear hf; intro a ha hf; clear ha
      refine st_move hf rfl rfl (by decide) ?_
      clear hf; intro a ha hf; clear ha
      refine st_nilV hf (by decide) rfl rfl (hp.ob (i := 4) rfl) ?_
      clear hf; intro a ha hf; clear ha
      refine st_fa (o' := 11) hf (by decide) (off := 11) (sz := 1) (by kernel_rfl) (by decide) rfl rfl (hp.ob (i := 4) rfl) rfl ?_
      clear hf; intro a ha hf; clear ha
      refine st_ldO (u := v134) hf (by decide) pl35 rfl rfl (hp.ob (i := 4) rfl) rfl ?_
      clear hf; intro a ha hf; clear ha
      refine st_len (E := Ek.str) hf (by decide) Try.underlying35 rfl rfl (hp.sl (i := 8) rfl) ?_
      clear hf; intro a ha hf; clear ha
      refine st_ilss hf (by decide) rfl rfl rfl ?_
      clear hf; intro a ha hf; clear ha
      refine st_nil hf ?_
      refine th_n ?_
      refine wp_if hf rfl (fun hb => ?_) (fun hb => ?_)
      ·
       replace h := ifT h hb
       refine wp_skip ?_
       refine th_n ?_
       refine wp_seq ?_
       refine wp_block ?_
       refine wp_seq ?_
       obtain ⟨S149, hp150, rd151, up152, bk153⟩ := Hp.lendO hp (i := 4) rfl
       obtain ⟨S154, hp155, rd156, up157, bk158⟩ := Hp.lendS hp150 (i := 7) rfl
       have rl159 := ((rd151.now hp150).mono up157)
       have rl160 := ((((hpicks3.now hp).mono up152).now hp150).mono up157)
       have rl161 := rd156
       obtain ⟨z167, hz162, h⟩ := bnd h
       refine wp_cutN (fun a w => Fr 155 a [(2, .int .i64 (IntKind.i64.wrap (((IntKind.u64.wrap many2)).tmod (400 : Int)))), (9, v5), (11, v9), (13, v30), (15, .int .i64 (IntKind.i64.wrap ((IntKind.i64.wrap ((IntKind.i64.wrap ((IntKind.i64.wrap (((IntKind.u64.wrap many2)).tmod (400 : Int))) + (2 : Int))) * (8 : Int))) * (IntKind.i64.wrap ((IntKind.i64.wrap ((1 : Int) + (IntKind.i64.wrap (((IntKind.u64.wrap wait1)).tmod (30 : Int))))) + (10 : Int)))))), (16, .int .i64 now16), (17, .int .i64 i17), (136, .bool z167)] ∧ Hp S w0 w (Res.obj 68 v30 [.int .i64 q128.2.1, v5, v9, v131, v132, vpicks3, .int .i64 q128.2.2.2.2.2.2.2.1, v133, .int .i64 q128.2.2.2.2.2.2.2.2.2.1, .int .i64 q128.2.2.2.2.2.2.2.2.2.2.1, .int .i64 q128.2.2.2.2.2.2.2.2.2.2.2.1, v134, .bool q128.2.2.2.2.2.2.2.2.2.2.2.2.2.1, v135] :: Res.sl Ek.str 9 v134 q128.2.2.2.2.2.2.2.2.2.2.2.2.1 :: Res.obj 79 v5 [.int .i64 s141.1, .int .i64 s141.2.1, .int .i64 s141.2.2.1, .int .i64 s141.2.2.2.1, v143] :: Res.sl (Ek.pair Ek.str (Ek.pair Ek.bool (Ek.pair (Ek.int .i64) Ek.bool))) 81 v143 s141.2.2.2.2 :: Res.obj 74 v9 [.int .i64 s145.1, .int .i64 s145.2.1, v147] :: Res.map (fun x : ByteArray => Value.string x) v147 s145.2.2 :: Res.sl (Ek.pair (Ek.int .i64) (Ek.pair (Ek.int .i64) (Ek.pair (Ek.int .u8) (Ek.pair (Ek.int .u8) (Ek.pair Ek.bool Ek.str))))) 88 v131 q128.2.2.2.2.1 :: Res.sl (Ek.pair (Ek.int .i64) (Ek.pair (Ek.int .i64) (Ek.pair (Ek.int .u8) (Ek.pair (Ek.int .u8) (Ek.pair Ek.bool Ek.str))))) 88 v132 q128.2.2.2.2.2.1 :: Res.map (fun x : Int => Value.int .i64 x) v133 q128.2.2.2.2.2.2.2.2.1 :: Res.sl (Ek.int .i64) 3 v135 q128.2.2.2.2.2.2.2.2.2.2.2.2.2.2 :: ow)) ?_ ?_
       ·
        have hp := hp155.same (Same.drew w)
        rcases Bool.eq_false_or_eq_true (decide ((IntKind.i64.wrap (((IntKind.u64.wrap many2)).tmod (400 : Int))) ≤ i17)) with hb163 | hb163
        ·
         replace hz162 := ifT hz162 hb163
         replace hz162 := Option.some.inj hz162
         refine dr_begin' _ (fun w' => ∃ l, Hp S154 w w' l) [] (by kernel_rfl) ?_
         refine dr_takeK 0 (.int .i64 i17) rfl hf rfl (fun w ⟨_, hp⟩ => ?_) ⟨_, hp⟩ ?_
         · exact st_move hf rfl rfl (by decide) tk
         clear hf; intro a hf
         refine dr_takeK 1 (.int .i64 (IntKind.i64.wrap (((IntKind.u64.wrap many2)).tmod (400 : Int)))) rfl hf rfl (fun w ⟨_, hp⟩ => ?_) ⟨_, hp⟩ ?_
         · exact st_move hf rfl rfl (by decide) tk
         clear hf; intro a hf
         refine dr_takeK 2 (.bool (decide ((IntKind.i64.wrap (((IntKind.u64.wrap many2)).tmod (400 : Int))) ≤ i17))) rfl hf rfl (fun w ⟨_, hp⟩ => ?_) ⟨_, hp⟩ ?_
         · exact st_igeq hf (by decide) rfl rfl rfl tk
         clear hf; intro a hf
         refine dr_takeK 3 (.bool (decide ((IntKind.i64.wrap (((IntKind.u64.wrap many2)).tmod (400 : Int))) ≤ i17))) rfl hf rfl (fun w ⟨_, hp⟩ => ?_) ⟨_, hp⟩ ?_
         · exact st_move hf rfl rfl (by decide) tk
         clear hf; intro a hf
         refine dr_outK 4 rfl hf rfl (wantN hf rfl rfl hb163) ⟨_, hp⟩ ?_
         clear hf; intro a hf
         refine dr_outP 5 rfl (by kernel_rfl) (by kernel_rfl) (by kernel_rfl) rfl hf (by decide) (wantN hf rfl rfl hb163) ?_
         clear hf; intro a hf
         refine dr_outK 6 rfl hf rfl (wantN hf rfl rfl hb163) ⟨_, hp⟩ ?_
         clear hf; intro a hf
         refine dr_outK 7 rfl hf rfl (wantN hf rfl rfl hb163) ⟨_, hp⟩ ?_
         clear hf; intro a hf
         refine dr_outK 8 rfl hf rfl (wantN hf rfl rfl hb163) ⟨_, hp⟩ ?_
         clear hf; intro a hf
         refine dr_outK 9 rfl hf rfl (wantN hf rfl rfl hb163) ⟨_, hp⟩ ?_
         clear hf; intro a hf
         refine dr_outK 10 rfl hf rfl (wantN hf rfl rfl hb163) ⟨_, hp⟩ ?_
         clear hf; intro a hf
         refine dr_outK 11 rfl hf rfl (wantN hf rfl rfl hb163) ⟨_, hp⟩ ?_
         clear hf; intro a hf
         refine dr_outK 12 rfl hf rfl (wantN hf rfl rfl hb163) ⟨_, hp⟩ ?_
         clear hf; intro a hf
         refine dr_outK 13 rfl hf rfl (wantN hf rfl rfl hb163) ⟨_, hp⟩ ?_
         clear hf; intro a hf
         refine dr_outK 14 rfl hf rfl (wantN hf rfl rfl hb163) ⟨_, hp⟩ ?_
         clear hf; intro a hf
         refine dr_outK 15 rfl hf rfl (wantN hf rfl rfl hb163) ⟨_, hp⟩ ?_
         clear hf; intro a hf
         refine dr_outK 16 rfl hf rfl (wantN hf rfl rfl hb163) ⟨_, hp⟩ ?_
         clear hf; intro a hf
         refine dr_outK 17 rfl hf rfl (wantN hf rfl rfl hb163) ⟨_, hp⟩ ?_
         clear hf; intro a hf
         refine dr_outK 18 rfl hf rfl (wantN hf rfl rfl hb163) ⟨_, hp⟩ ?_
         clear hf; intro a hf
         refine dr_takeK 19 (.bool z167) rfl hf rfl (fun w ⟨_, hp⟩ => ?_) ⟨_, hp⟩ ?_
         · exact st_pick (v := .bool z167) hf rfl rfl (fun _ => by rw [← hz162]; rfl) (fun hb' => absurd (hb163.symm.trans hb') (by decide)) (by decide) tk
         clear hf; intro a hf
         refine dr_end (by kernel_rfl) ?_ _
         have hp := bk158 _ _ hp
         have hp := bk153 _ _ hp
         exact ⟨hf.sub ⟨rfl, rfl, rfl, rfl, rfl, rfl, rfl, rfl, trivial⟩, hp⟩
        skip
        replace hz162 := ifF hz162 hb163
        obtain ⟨hc164, hz162⟩ := chk hz162
        replace hz162 := Option.some.inj hz162
        refine dr_begin' _ (fun w' => ∃ l, Hp S154 w w' l) [] (by kernel_rfl) ?_
        refine dr_takeK 0 (.int .i64 i17) rfl hf rfl (fun w ⟨_, hp⟩ => ?_) ⟨_, hp⟩ ?_
        · exact st_move hf rfl rfl (by decide) tk
        clear hf; intro a hf
        refine dr_takeK 1 (.int .i64 (IntKind.i64.wrap (((IntKind.u64.wrap many2)).tmod (400 : Int)))) rfl hf rfl (fun w ⟨_, hp⟩ => ?_) ⟨_, hp⟩ ?_
        · exact st_move hf rfl rfl (by decide) tk
        clear hf; intro a hf
        refine dr_takeK 2 (.bool (decide ((IntKind.i64.wrap (((IntKind.u64.wrap many2)).tmod (400 : Int))) ≤ i17))) rfl hf rfl (fun w ⟨_, hp⟩ => ?_) ⟨_, hp⟩ ?_
        · exact st_igeq hf (by decide) rfl rfl rfl tk
        clear hf; intro a hf
        refine dr_takeK 3 (.bool (decide ((IntKind.i64.wrap (((IntKind.u64.wrap many2)).tmod (400 : Int))) ≤ i17))) rfl hf rfl (fun w ⟨_, hp⟩ => ?_) ⟨_, hp⟩ ?_
        · exact st_move hf rfl rfl (by decide) tk
        clear hf; intro a hf
        refine dr_takeK 4 (v30) rfl hf (wantY hf rfl rfl hb163) (fun w ⟨_, hp⟩ => ?_) ⟨_, hp⟩ ?_
        · exact st_move hf (wantY hf rfl rfl hb163) rfl (by decide) tk
        clear hf; intro a hf
        refine dr_nilV 5 rfl (by kernel_rfl) (by kernel_rfl) (by kernel_rfl) hf (by decide) (wantY hf rfl rfl hb163) rfl (rl159.ob hp) ?_
        clear hf; intro a hf
        refine dr_takeK 6 (optr v30 11) rfl hf (wantY hf rfl rfl hb163) (fun w ⟨_, hp⟩ => ?_) ⟨_, hp⟩ ?_
        · exact st_fa (o' := 11) hf (by decide) (off := 11) (sz := 1) (by kernel_rfl) (by decide) (wantY hf rfl rfl hb163) rfl (rl159.ob hp) rfl tk
        clear hf; intro a hf
        refine dr_takeK 7 (v134) rfl hf (wantY hf rfl rfl hb163) (fun w ⟨_, hp⟩ => ?_) ⟨_, hp⟩ ?_
        · exact st_ldO (u := v134) hf (by decide) pl35 (wantY hf rfl rfl hb163) rfl (rl159.ob hp) rfl tk
        clear hf; intro a hf
        refine dr_takeK 8 (.int .i64 i17) rfl hf (wantY hf rfl rfl hb163) (fun w ⟨_, hp⟩ => ?_) ⟨_, hp⟩ ?_
        · exact st_move hf (wantY hf rfl rfl hb163) rfl (by decide) tk
        clear hf; intro a hf
        refine dr_takeK 9 (eptr v134 i17 1) rfl hf (wantY hf rfl rfl hb163) (fun w ⟨_, hp⟩ => ?_) ⟨_, hp⟩ ?_
        · exact st_index (E := Ek.str) hf (by decide) Try.underlying35 elt9 (wantY hf rfl rfl hb163) rfl rfl (rl161.sl hp) hc164.1 hc164.2 tk
        clear hf; intro a hf
        refine dr_takeK 10 (.string (gt q128.2.2.2.2.2.2.2.2.2.2.2.2.1 i17)) rfl hf (wantY hf rfl rfl hb163) (fun w ⟨_, hp⟩ => ?_) ⟨_, hp⟩ ?_
        · exact st_ldS hf (by decide) pl9 (wantY hf rfl rfl hb163) rfl (rl161.sl hp) hc164.1 hc164.2 tk
        clear hf; intro a hf
        refine dr_takeK 11 (.int .i64 i17) rfl hf (wantY hf rfl rfl hb163) (fun w ⟨_, hp⟩ => ?_) ⟨_, hp⟩ ?_
        · exact st_move hf (wantY hf rfl rfl hb163) rfl (by decide) tk
        clear hf; intro a hf
        refine dr_takeK 12 (.int .u8 (IntKind.u8.wrap i17)) rfl hf (wantY hf rfl rfl hb163) (fun w ⟨_, hp⟩ => ?_) ⟨_, hp⟩ ?_
        · exact st_conv_ii hf (by decide) (by rw [Try.underlying3]; rfl) Try.underlying5 (wantY hf rfl rfl hb163) rfl tk
        clear hf; intro a hf
        refine dr_takeK 13 (.int .i64 i17) rfl hf (wantY hf rfl rfl hb163) (fun w ⟨_, hp⟩ => ?_) ⟨_, hp⟩ ?_
        · exact st_move hf (wantY hf rfl rfl hb163) rfl (by decide) tk
        clear hf; intro a hf
        refine dr_takeK 14 (.int .i64 (IntKind.i64.wrap ((i17).tdiv (256 : Int)))) rfl hf (wantY hf rfl rfl hb163) (fun w ⟨_, hp⟩ => ?_) ⟨_, hp⟩ ?_
        · exact st_iquo hf (by decide) (wantY hf rfl rfl hb163) rfl rfl (by decide) tk
        clear hf; intro a hf
        refine dr_takeK 15 (.int .u8 (IntKind.u8.wrap (IntKind.i64.wrap ((i17).tdiv (256 : Int))))) rfl hf (wantY hf rfl rfl hb163) (fun w ⟨_, hp⟩ => ?_) ⟨_, hp⟩ ?_
        · exact st_conv_ii hf (by decide) (by rw [Try.underlying3]; rfl) Try.underlying5 (wantY hf rfl rfl hb163) rfl tk
        clear hf; intro a hf
        refine dr_one 16 rfl (by kernel_rfl) ?_
        refine st_build (E := (Ek.int .u8)) (xs := [(IntKind.u8.wrap i17), (IntKind.u8.wrap (IntKind.i64.wrap ((i17).tdiv (256 : Int))))]) hf (by decide) elt5 Try.underlying61 hp (vals := #[(0, .int .u8 (IntKind.u8.wrap i17)), (1, .int .u8 (IntKind.u8.wrap (IntKind.i64.wrap ((i17).tdiv (256 : Int)))))]) (cells := #[.int .u8 (IntKind.u8.wrap i17), .int .u8 (IntKind.u8.wrap (IntKind.i64.wrap ((i17).tdiv (256 : Int))))]) (wantY hf rfl rfl hb163) (by simp [hf.ev (x := (Operand.tmp 129)) rfl, hf.ev (x := (Operand.tmp 132)) rfl]) (by decide) (by decide) (z := .int .u8 0) (by kernel_rfl) (by kernel_rfl) rfl (reps_cons (cs := [.int .u8 (IntKind.u8.wrap i17)]) rfl (reps_cons (cs := [.int .u8 (IntKind.u8.wrap (IntKind.i64.wrap ((i17).tdiv (256 : Int))))]) rfl (reps_nil _))) ?_
        clear hf; intro a w v165 hf hp0; clear hp; have hp := hp0; clear hp0
        replace hp : Hp _ _ _ (Res.sl (Ek.int .u8) 5 v165 ([(IntKind.u8.wrap i17), (IntKind.u8.wrap (IntKind.i64.wrap ((i17).tdiv (256 : Int))))]) :: _ :: _ :: _ :: _ :: _ :: _ :: _ :: _ :: ow) := hp
        refine nx hf (fun _ _ => ⟨_, hp⟩) ?_
        refine dr_one 17 rfl (by kernel_rfl) ?_
        refine st_convBS hf (by decide) Try.underlying61 Try.underlying5 Try.underlying9 (wantY hf rfl rfl hb163) rfl (hp.sl (i := 0) rfl) ?_
        clear hf; intro a ha hf; clear ha
        have hp : Hp _ _ _ (_ :: _ :: _ :: _ :: _ :: _ :: _ :: _ :: ow) := Hp.sel (pre := [Res.sl (Ek.int .u8) 5 v165 ([(IntKind.u8.wrap i17), (IntKind.u8.wrap (IntKind.i64.wrap ((i17).tdiv (256 : Int))))]), Res.obj 79 v5 [.int .i64 s141.1, .int .i64 s141.2.1, .int .i64 s141.2.2.1, .int .i64 s141.2.2.2.1, v143], Res.sl (Ek.pair Ek.str (Ek.pair Ek.bool (Ek.pair (Ek.int .i64) Ek.bool))) 81 v143 s141.2.2.2.2, Res.obj 74 v9 [.int .i64 s145.1, .int .i64 s145.2.1, v147], Res.map (fun x : ByteArray => Value.string x) v147 s145.2.2, Res.sl (Ek.pair (Ek.int .i64) (Ek.pair (Ek.int .i64) (Ek.pair (Ek.int .u8) (Ek.pair (Ek.int .u8) (Ek.pair Ek.bool Ek.str))))) 88 v131 q128.2.2.2.2.1, Res.sl (Ek.pair (Ek.int .i64) (Ek.pair (Ek.int .i64) (Ek.pair (Ek.int .u8) (Ek.pair (Ek.int .u8) (Ek.pair Ek.bool Ek.str))))) 88 v132 q128.2.2.2.2.2.1, Res.map (fun x : Int => Value.int .i64 x) v133 q128.2.2.2.2.2.2.2.2.1, Res.sl (Ek.int .i64) 3 v135 q128.2.2.2.2.2.2.2.2.2.2.2.2.2.2]) (tail := ow) (rs' := [Res.obj 79 v5 [.int .i64 s141.1, .int .i64 s141.2.1, .int .i64 s141.2.2.1, .int .i64 s141.2.2.2.1, v143], Res.sl (Ek.pair Ek.str (Ek.pair Ek.bool (Ek.pair (Ek.int .i64) Ek.bool))) 81 v143 s141.2.2.2.2, Res.obj 74 v9 [.int .i64 s145.1, .int .i64 s145.2.1, v147], Res.map (fun x : ByteArray => Value.string x) v147 s145.2.2, Res.sl (Ek.pair (Ek.int .i64) (Ek.pair (Ek.int .i64) (Ek.pair (Ek.int .u8) (Ek.pair (Ek.int .u8) (Ek.pair Ek.bool Ek.str))))) 88 v131 q128.2.2.2.2.1, Res.sl (Ek.pair (Ek.int .i64) (Ek.pair (Ek.int .i64) (Ek.pair (Ek.int .u8) (Ek.pair (Ek.int .u8) (Ek.pair Ek.bool Ek.str))))) 88 v132 q128.2.2.2.2.2.1, Res.map (fun x : Int => Value.int .i64 x) v133 q128.2.2.2.2.2.2.2.2.1, Res.sl (Ek.int .i64) 3 v135 q128.2.2.2.2.2.2.2.2.2.2.2.2.2.2]) hp [1, 2, 3, 4, 5, 6, 7, 8] (by decide) (by simp) rfl
        refine nx hf (fun _ _ => ⟨_, hp⟩) ?_
        refine dr_takeK 18 (.bool (!seq (gt q128.2.2.2.2.2.2.2.2.2.2.2.2.1 i17) (bstr ([(IntKind.u8.wrap i17), (IntKind.u8.wrap (IntKind.i64.wrap ((i17).tdiv (256 : Int))))])))) rfl hf (wantY hf rfl rfl hb163) (fun w ⟨_, hp⟩ => ?_) ⟨_, hp⟩ ?_
        · exact st_sneq hf (by decide) (wantY hf rfl rfl hb163) rfl rfl tk
        clear hf; intro a hf
        refine dr_takeK 19 (.bool z167) rfl hf rfl (fun w ⟨_, hp⟩ => ?_) ⟨_, hp⟩ ?_
        · exact st_pick (v := .bool z167) hf rfl rfl (fun hb' => absurd (hb163.symm.trans hb') (by decide)) (fun _ => by rw [← hz162]; rfl) (by decide) tk
        clear hf; intro a hf
        refine dr_end (by kernel_rfl) ?_ _
        have hp := bk158 _ _ hp
        have hp := bk153 _ _ hp
        exact ⟨hf.sub ⟨rfl, rfl, rfl, rfl, rfl, rfl, rfl, rfl, trivial⟩, hp⟩
       rintro a w ⟨hf, hp⟩
       refine th_n ?_
       refine wp_if hf rfl (fun hb => ?_) (fun hb => ?_)
       ·
        replace h := ifT h hb
        refine wp_seq ?_
        refine wp_reg ?_
        refine st_assign hf rfl rfl (by decide) ?_
        clear hf; intro a ha hf; clear ha
        refine st_nil hf ?_
        refine th_n ?_
        refine wp_ret ?_
        refine ib_r ?_
        refine th_r ?_
        obtain rfl := Option.some.inj h
        have hp : Hp _ _ _ (ow) := Hp.sel (pre := [Res.obj 68 v30 [.int .i64 q128.2.1, v5, v9, v131, v132, vpicks3, .int .i64 q128.2.2.2.2.2.2.2.1, v133, .int .i64 q128.2.2.2.2.2.2.2.2.2.1, .int .i64 q128.2.2.2.2.2.2.2.2.2.2.1, .int .i64 q128.2.2.2.2.2.2.2.2.2.2.2.1, v134, .bool q128.2.2.2.2.2.2.2.2.2.2.2.2.2.1, v135], Res.sl Ek.str 9 v134 q128.2.2.2.2.2.2.2.2.2.2.2.2.1, Res.obj 79 v5 [.int .i64 s141.1, .int .i64 s141.2.1, .int .i64 s141.2.2.1, .int .i64 s141.2.2.2.1, v143], Res.sl (Ek.pair Ek.str (Ek.pair Ek.bool (Ek.pair (Ek.int .i64) Ek.bool))) 81 v143 s141.2.2.2.2, Res.obj 74 v9 [.int .i64 s145.1, .int .i64 s145.2.1, v147], Res.map (fun x : ByteArray => Value.string x) v147 s145.2.2, Res.sl (Ek.pair (Ek.int .i64) (Ek.pair (Ek.int .i64) (Ek.pair (Ek.int .u8) (Ek.pair (Ek.int .u8) (Ek.pair Ek.bool Ek.str))))) 88 v131 q128.2.2.2.2.1, Res.sl (Ek.pair (Ek.int .i64) (Ek.pair (Ek.int .i64) (Ek.pair (Ek.int .u8) (Ek.pair (Ek.int .u8) (Ek.pair Ek.bool Ek.str))))) 88 v132 q128.2.2.2.2.2.1, Res.map (fun x : Int => Value.int .i64 x) v133 q128.2.2.2.2.2.2.2.2.1, Res.sl (Ek.int .i64) 3 v135 q128.2.2.2.2.2.2.2.2.2.2.2.2.2.2]) (tail := ow) (rs' := []) hp [] (by decide) (by simp) rfl
        exact rnd_r (by simp) ⟨rfl, ⟨hf.sub ⟨rfl, trivial⟩, hp⟩⟩
       replace h := ifF h hb
       refine wp_skip ?_
       refine ib_n ?_
       refine th_n ?_
       refine wp_reg ?_
       refine st_move hf rfl rfl (by decide) ?_
       clear hf; intro a ha hf; clear ha
       refine st_iadd hf (by decide) rfl rfl rfl ?_
       clear hf; intro a ha hf; clear ha
       refine st_assign hf rfl rfl (by decide) ?_
       clear hf; intro a ha hf; clear ha
       refine st_nil hf ?_
       obtain rfl := Option.some.inj h
       have hp : Hp _ _ _ (_ :: _ :: _ :: _ :: Res.obj 68 v30 [.int .i64 q128.2.1, v5, v9, v131, v132, vpicks3, .int .i64 q128.2.2.2.2.2.2.2.1, v133, .int .i64 q128.2.2.2.2.2.2.2.2.2.1, .int .i64 q128.2.2.2.2.2.2.2.2.2.2.1, .int .i64 q128.2.2.2.2.2.2.2.2.2.2.2.1, v134, .bool q128.2.2.2.2.2.2.2.2.2.2.2.2.2.1, v135] :: _ :: _ :: _ :: Res.sl Ek.str 9 v134 q128.2.2.2.2.2.2.2.2.2.2.2.2.1 :: _ :: ow) := Hp.sel (pre := [Res.obj 68 v30 [.int .i64 q128.2.1, v5, v9, v131, v132, vpicks3, .int .i64 q128.2.2.2.2.2.2.2.1, v133, .int .i64 q128.2.2.2.2.2.2.2.2.2.1, .int .i64 q128.2.2.2.2.2.2.2.2.2.2.1, .int .i64 q128.2.2.2.2.2.2.2.2.2.2.2.1, v134, .bool q128.2.2.2.2.2.2.2.2.2.2.2.2.2.1, v135], Res.sl Ek.str 9 v134 q128.2.2.2.2.2.2.2.2.2.2.2.2.1, Res.obj 79 v5 [.int .i64 s141.1, .int .i64 s141.2.1, .int .i64 s141.2.2.1, .int .i64 s141.2.2.2.1, v143], Res.sl (Ek.pair Ek.str (Ek.pair Ek.bool (Ek.pair (Ek.int .i64) Ek.bool))) 81 v143 s141.2.2.2.2, Res.obj 74 v9 [.int .i64 s145.1, .int .i64 s145.2.1, v147], Res.map (fun x : ByteArray => Value.string x) v147 s145.2.2, Res.sl (Ek.pair (Ek.int .i64) (Ek.pair (Ek.int .i64) (Ek.pair (Ek.int .u8) (Ek.pair (Ek.int .u8) (Ek.pair Ek.bool Ek.str))))) 88 v131 q128.2.2.2.2.1, Res.sl (Ek.pair (Ek.int .i64) (Ek.pair (Ek.int .i64) (Ek.pair (Ek.int .u8) (Ek.pair (Ek.int .u8) (Ek.pair Ek.bool Ek.str))))) 88 v132 q128.2.2.2.2.2.1, Res.map (fun x : Int => Value.int .i64 x) v133 q128.2.2.2.2.2.2.2.2.1, Res.sl (Ek.int .i64) 3 v135 q128.2.2.2.2.2.2.2.2.2.2.2.2.2.2]) (tail := ow) (rs' := [Res.obj 79 v5 [.int .i64 s141.1, .int .i64 s141.2.1, .int .i64 s141.2.2.1, .int .i64 s141.2.2.2.1, v143], Res.sl (Ek.pair Ek.str (Ek.pair Ek.bool (Ek.pair (Ek.int .i64) Ek.bool))) 81 v143 s141.2.2.2.2, Res.obj 74 v9 [.int .i64 s145.1, .int .i64 s145.2.1, v147], Res.map (fun x : ByteArray => Value.string x) v147 s145.2.2, Res.obj 68 v30 [.int .i64 q128.2.1, v5, v9, v131, v132, vpicks3, .int .i64 q128.2.2.2.2.2.2.2.1, v133, .int .i64 q128.2.2.2.2.2.2.2.2.2.1, .int .i64 q128.2.2.2.2.2.2.2.2.2.2.1, .int .i64 q128.2.2.2.2.2.2.2.2.2.2.2.1, v134, .bool q128.2.2.2.2.2.2.2.2.2.2.2.2.2.1, v135], Res.sl (Ek.pair (Ek.int .i64) (Ek.pair (Ek.int .i64) (Ek.pair (Ek.int .u8) (Ek.pair (Ek.int .u8) (Ek.pair Ek.bool Ek.str))))) 88 v131 q128.2.2.2.2.1, Res.sl (Ek.pair (Ek.int .i64) (Ek.pair (Ek.int .i64) (Ek.pair (Ek.int .u8) (Ek.pair (Ek.int .u8) (Ek.pair Ek.bool Ek.str))))) 88 v132 q128.2.2.2.2.2.1, Res.map (fun x : Int => Value.int .i64 x) v133 q128.2.2.2.2.2.2.2.2.1, Res.sl Ek.str 9 v134 q128.2.2.2.2.2.2.2.2.2.2.2.2.1, Res.sl (Ek.int .i64) 3 v135 q128.2.2.2.2.2.2.2.2.2.2.2.2.2.2]) hp [2, 3, 4, 5, 0, 6, 7, 8, 1, 9] (by decide) (by simp) rfl
       exact rnd_l ⟨hf.sub ⟨rfl, rfl, rfl, rfl, rfl, rfl, rfl, trivial⟩, hp⟩
      replace h := ifF h hb
      refine wp_exit ?_
      refine th_e ?_
      obtain rfl := Option.some.inj h
      exact rnd_r (by simp) ⟨rfl, hf.sub ⟨rfl, rfl, rfl, rfl, rfl, rfl, trivial⟩, hp⟩
     clear hl hf hp
     intro e a w hne hO
     rcases q168 with q169 | q170
     ·
      replace h := smL h
      obtain ⟨rfl, hf, hp⟩ := hO
      refine ib_same ?_
      refine ib_n ?_
      refine th_n ?_
      refine wp_reg ?_
      refine st_move hf rfl rfl (by decide) ?_
      clear hf; intro a ha hf; clear ha
      refine st_iadd hf (by decide) rfl rfl rfl ?_
      clear hf; intro a ha hf; clear ha
      refine st_assign hf rfl rfl (by decide) ?_
      clear hf; intro a ha hf; clear ha
      refine st_nil hf ?_
      obtain rfl := Option.some.inj h
      have hp : Hp _ _ _ (_ :: _ :: _ :: _ :: _ :: _ :: _ :: _ :: _ :: _ :: ow) := Hp.sel (pre := [Res.obj 79 v5 [.int .i64 s141.1, .int .i64 s141.2.1, .int .i64 s141.2.2.1, .int .i64 s141.2.2.2.1, v143], Res.sl (Ek.pair Ek.str (Ek.pair Ek.bool (Ek.pair (Ek.int .i64) Ek.bool))) 81 v143 s141.2.2.2.2, Res.obj 74 v9 [.int .i64 s145.1, .int .i64 s145.2.1, v147], Res.map (fun x : ByteArray => Value.string x) v147 s145.2.2, Res.obj 68 v30 [.int .i64 q128.2.1, v5, v9, v131, v132, vpicks3, .int .i64 q128.2.2.2.2.2.2.2.1, v133, .int .i64 q128.2.2.2.2.2.2.2.2.2.1, .int .i64 q128.2.2.2.2.2.2.2.2.2.2.1, .int .i64 q128.2.2.2.2.2.2.2.2.2.2.2.1, v134, .bool q128.2.2.2.2.2.2.2.2.2.2.2.2.2.1, v135], Res.sl (Ek.pair (Ek.int .i64) (Ek.pair (Ek.int .i64) (Ek.pair (Ek.int .u8) (Ek.pair (Ek.int .u8) (Ek.pair Ek.bool Ek.str))))) 88 v131 q128.2.2.2.2.1, Res.sl (Ek.pair (Ek.int .i64) (Ek.pair (Ek.int .i64) (Ek.pair (Ek.int .u8) (Ek.pair (Ek.int .u8) (Ek.pair Ek.bool Ek.str))))) 88 v132 q128.2.2.2.2.2.1, Res.map (fun x : Int => Value.int .i64 x) v133 q128.2.2.2.2.2.2.2.2.1, Res.sl Ek.str 9 v134 q128.2.2.2.2.2.2.2.2.2.2.2.2.1, Res.sl (Ek.int .i64) 3 v135 q128.2.2.2.2.2.2.2.2.2.2.2.2.2.2]) (tail := ow) (rs' := [Res.sl (Ek.pair Ek.str (Ek.pair Ek.bool (Ek.pair (Ek.int .i64) Ek.bool))) 81 v143 s141.2.2.2.2, Res.obj 79 v5 [.int .i64 s141.1, .int .i64 s141.2.1, .int .i64 s141.2.2.1, .int .i64 s141.2.2.2.1, v143], Res.map (fun x : ByteArray => Value.string x) v147 s145.2.2, Res.obj 74 v9 [.int .i64 s145.1, .int .i64 s145.2.1, v147], Res.sl (Ek.pair (Ek.int .i64) (Ek.pair (Ek.int .i64) (Ek.pair (Ek.int .u8) (Ek.pair (Ek.int .u8) (Ek.pair Ek.bool Ek.str))))) 88 v131 q128.2.2.2.2.1, Res.sl (Ek.pair (Ek.int .i64) (Ek.pair (Ek.int .i64) (Ek.pair (Ek.int .u8) (Ek.pair (Ek.int .u8) (Ek.pair Ek.bool Ek.str))))) 88 v132 q128.2.2.2.2.2.1, Res.map (fun x : Int => Value.int .i64 x) v133 q128.2.2.2.2.2.2.2.2.1, Res.sl Ek.str 9 v134 q128.2.2.2.2.2.2.2.2.2.2.2.2.1, Res.sl (Ek.int .i64) 3 v135 q128.2.2.2.2.2.2.2.2.2.2.2.2.2.2, Res.obj 68 v30 [.int .i64 q128.2.1, v5, v9, v131, v132, vpicks3, .int .i64 q128.2.2.2.2.2.2.2.1, v133, .int .i64 q128.2.2.2.2.2.2.2.2.2.1, .int .i64 q128.2.2.2.2.2.2.2.2.2.2.1, .int .i64 q128.2.2.2.2.2.2.2.2.2.2.2.1, v134, .bool q128.2.2.2.2.2.2.2.2.2.2.2.2.2.1, v135]]) hp [1, 0, 3, 2, 5, 6, 7, 8, 9, 4] (by decide) (by simp) rfl
      exact rnd_l ⟨_, _, _, _, _, _, _, hf.sub ⟨rfl, rfl, rfl, rfl, rfl, rfl, trivial⟩, hp⟩
     replace h := smR h
     obtain ⟨rfl, hf, hp⟩ := hO
     refine ib_r ?_
     refine ib_r ?_
     refine th_r ?_
     obtain rfl := Option.some.inj h
     exact rnd_r (by simp) ⟨rfl, ⟨hf.sub ⟨rfl, trivial⟩, hp⟩⟩
    replace h := ifF h hb
    refine wp_exit ?_
    refine th_e ?_
    obtain rfl := Option.some.inj h
    exact rnd_r (by simp) ⟨rfl, _, _, _, _, _, _, _, hf.sub ⟨rfl, rfl, rfl, rfl, trivial⟩, hp⟩
   clear hl hf hp
   intro e a w hne hO
   rcases q171 with q172 | q173
   ·
    replace h := smL h
    obtain ⟨rfl, v96, v99, v102, v104, v106, v108, v110, hf, hp⟩ := hO
    refine ib_same ?_
    refine th_n ?_
    refine wp_seq ?_
    refine wp_reg ?_
    refine st_move hf rfl rfl (by decide) ?_
    clear hf; intro a ha hf; clear ha
    obtain ⟨q174, hcall175, h⟩ := bnd h
    obtain ⟨S176, hp177, rd178, up179, bk180⟩ := Hp.lendS hp (i := 0) rfl
    obtain ⟨S181, hp182, rd183, up184, bk185⟩ := Hp.lendO hp177 (i := 0) rfl
    refine st_call hf (by decide) Try.func25 rfl rfl rfl rfl rfl (f_again_Sender_Left_c hp182 _ _ _ _ _ _ ((rd178.now hp177).mono up184) _ rd183 hcall175) ?_
    rintro _ w ⟨rfl, hp0⟩
    have hp0 := bk185 _ _ hp0
    have hp0 := bk180 _ _ hp0
    clear hp; have hp := hp0; clear hp0
    replace hp : Hp _ _ _ (Res.sl (Ek.pair Ek.str (Ek.pair Ek.bool (Ek.pair (Ek.int .i64) Ek.bool))) 81 v96 q172.2.2.2.2.1 :: Res.obj 79 v5 [.int .i64 q172.1, .int .i64 q172.2.1, .int .i64 q172.2.2.1, .int .i64 q172.2.2.2.1, v96] :: Res.map (fun x : ByteArray => Value.string x) v99 q172.2.2.2.2.2.2.2.1 :: Res.obj 74 v9 [.int .i64 q172.2.2.2.2.2.1, .int .i64 q172.2.2.2.2.2.2.1, v99] :: Res.sl (Ek.pair (Ek.int .i64) (Ek.pair (Ek.int .i64) (Ek.pair (Ek.int .u8) (Ek.pair (Ek.int .u8) (Ek.pair Ek.bool Ek.str))))) 88 v102 q172.2.2.2.2.2.2.2.2.2.1 :: Res.sl (Ek.pair (Ek.int .i64) (Ek.pair (Ek.int .i64) (Ek.pair (Ek.int .u8) (Ek.pair (Ek.int .u8) (Ek.pair Ek.bool Ek.str))))) 88 v104 q172.2.2.2.2.2.2.2.2.2.2.1 :: Res.map (fun x : Int => Value.int .i64 x) v106 q172.2.2.2.2.2.2.2.2.2.2.2.2.1 :: Res.sl Ek.str 9 v108 q172.2.2.2.2.2.2.2.2.2.2.2.2.2.2.2.2.1 :: Res.sl (Ek.int .i64) 3 v110 q172.2.2.2.2.2.2.2.2.2.2.2.2.2.2.2.2.2.2 :: Res.obj 68 v30 [.int .i64 q172.2.2.2.2.2.2.2.2.1, v5, v9, v102, v104, vpicks3, .int .i64 q172.2.2.2.2.2.2.2.2.2.2.2.1, v106, .int .i64 q172.2.2.2.2.2.2.2.2.2.2.2.2.2.1, .int .i64 q172.2.2.2.2.2.2.2.2.2.2.2.2.2.2.1, .int .i64 q172.2.2.2.2.2.2.2.2.2.2.2.2.2.2.2.1, v108, .bool q172.2.2.2.2.2.2.2.2.2.2.2.2.2.2.2.2.2.1, v110] :: ow) := hp
    refine ⟨_, rfl, ?_⟩
    clear hf; intro a hf
    refine st_ieql hf (by decide) rfl rfl rfl ?_
    clear hf; intro a ha hf; clear ha
    refine st_move hf rfl rfl (by decide) ?_
    clear hf; intro a ha hf; clear ha
    refine wpList_cut 8 (fun a w => Fr 155 a [(2, .int .i64 (IntKind.i64.wrap (((IntKind.u64.wrap many2)).tmod (400 : Int)))), (11, v9), (148, .bool ((q174 == (0 : Int)) && ((q172.2.2.2.2.2.2.2.2.2.2.2.2.2.2.2.2.1.length : Int) == (IntKind.i64.wrap (((IntKind.u64.wrap many2)).tmod (400 : Int))))))] ∧ Hp S w0 w (Res.sl (Ek.pair Ek.str (Ek.pair Ek.bool (Ek.pair (Ek.int .i64) Ek.bool))) 81 v96 q172.2.2.2.2.1 :: Res.obj 79 v5 [.int .i64 q172.1, .int .i64 q172.2.1, .int .i64 q172.2.2.1, .int .i64 q172.2.2.2.1, v96] :: Res.map (fun x : ByteArray => Value.string x) v99 q172.2.2.2.2.2.2.2.1 :: Res.obj 74 v9 [.int .i64 q172.2.2.2.2.2.1, .int .i64 q172.2.2.2.2.2.2.1, v99] :: Res.sl (Ek.pair (Ek.int .i64) (Ek.pair (Ek.int .i64) (Ek.pair (Ek.int .u8) (Ek.pair (Ek.int .u8) (Ek.pair Ek.bool Ek.str))))) 88 v102 q172.2.2.2.2.2.2.2.2.2.1 :: Res.sl (Ek.pair (Ek.int .i64) (Ek.pair (Ek.int .i64) (Ek.pair (Ek.int .u8) (Ek.pair (Ek.int .u8) (Ek.pair Ek.bool Ek.str))))) 88 v104 q172.2.2.2.2.2.2.2.2.2.2.1 :: Res.map (fun x : Int => Value.int .i64 x) v106 q172.2.2.2.2.2.2.2.2.2.2.2.2.1 :: Res.sl Ek.str 9 v108 q172.2.2.2.2.2.2.2.2.2.2.2.2.2.2.2.2.1 :: Res.sl (Ek.int .i64) 3 v110 q172.2.2.2.2.2.2.2.2.2.2.2.2.2.2.2.2.2.2 :: Res.obj 68 v30 [.int .i64 q172.2.2.2.2.2.2.2.2.1, v5, v9, v102, v104, vpicks3, .int .i64 q172.2.2.2.2.2.2.2.2.2.2.2.1, v106, .int .i64 q172.2.2.2.2.2.2.2.2.2.2.2.2.2.1, .int .i64 q172.2.2.2.2.2.2.2.2.2.2.2.2.2.2.1, .int .i64 q172.2.2.2.2.2.2.2.2.2.2.2.2.2.2.2.1, v108, .bool q172.2.2.2.2.2.2.2.2.2.2.2.2.2.2.2.2.2.1, v110] :: ow)) ?_ ?_
    ·
     rcases Bool.eq_false_or_eq_true (q174 == (0 : Int)) with hb187 | hb187
     ·
      refine st_move hf (wantY hf rfl rfl hb187) rfl (by decide) ?_
      clear hf; intro a ha hf; clear ha
      refine st_nilV hf (by decide) (wantY hf rfl rfl hb187) rfl (hp.ob (i := 9) rfl) ?_
      clear hf; intro a ha hf; clear ha
      refine st_fa (o' := 11) hf (by decide) (off := 11) (sz := 1) (by kernel_rfl) (by decide) (wantY hf rfl rfl hb187) rfl (hp.ob (i := 9) rfl) rfl ?_
      clear hf; intro a ha hf; clear ha
      refine st_ldO (u := v108) hf (by decide) pl35 (wantY hf rfl rfl hb187) rfl (hp.ob (i := 9) rfl) rfl ?_
      clear hf; intro a ha hf; clear ha
      refine st_len (E := Ek.str) hf (by decide) Try.underlying35 (wantY hf rfl rfl hb187) rfl (hp.sl (i := 7) rfl) ?_
      clear hf; intro a ha hf; clear ha
      refine st_move hf (wantY hf rfl rfl hb187) rfl (by decide) ?_
      clear hf; intro a ha hf; clear ha
      refine st_ieql hf (by decide) (wantY hf rfl rfl hb187) rfl rfl ?_
      clear hf; intro a ha hf; clear ha
      refine st_pick (v := .bool ((q172.2.2.2.2.2.2.2.2.2.2.2.2.2.2.2.2.1.length : Int) == (IntKind.i64.wrap (((IntKind.u64.wrap many2)).tmod (400 : Int))))) hf rfl rfl (fun hb' => ?_) (fun hb' => ?_) (by decide) ?_
      · rfl
      · exact absurd (hb187.symm.trans hb') (by decide)
      clear hf; intro a ha hf; clear ha
      refine st_nil hf (th_n ?_)
      exact ⟨hf.sub ⟨rfl, rfl, (by rw [hb187]; rfl), trivial⟩, hp⟩
     refine st_skip hf (wantN hf rfl rfl hb187) rfl (by decide) ?_ rfl
     clear hf; intro a hf
     refine st_skip hf (wantN hf rfl rfl hb187) rfl (by decide) ?_ rfl
     clear hf; intro a hf
     refine st_skip hf (wantN hf rfl rfl hb187) rfl (by decide) ?_ rfl
     clear hf; intro a hf
     refine st_skip hf (wantN hf rfl rfl hb187) rfl (by decide) ?_ rfl
     clear hf; intro a hf
     refine st_skip hf (wantN hf rfl rfl hb187) rfl (by decide) ?_ rfl
     clear hf; intro a hf
     refine st_skip hf (wantN hf rfl rfl hb187) rfl (by decide) ?_ rfl
     clear hf; intro a hf
     refine st_skip hf (wantN hf rfl rfl hb187) rfl (by decide) ?_ rfl
     clear hf; intro a hf
     refine st_pick (v := .bool false) hf rfl rfl (fun hb' => ?_) (fun hb' => ?_) (by decide) ?_
     · exact absurd (hb187.symm.trans hb') (by decide)
     · rfl
     clear hf; intro a ha hf; clear ha
     refine st_nil hf (th_n ?_)
     exact ⟨hf.sub ⟨rfl, rfl, (by rw [hb187]; rfl), trivial⟩, hp⟩
    rintro a w ⟨hf, hp⟩
    refine st_move hf rfl rfl (by decide) ?_
    clear hf; intro a ha hf; clear ha
    obtain ⟨z190, hz188, h⟩ := bnd h
    refine wpList_cut 5 (fun a w => Fr 155 a [(154, .bool z190)] ∧ Hp S w0 w (Res.sl (Ek.pair Ek.str (Ek.pair Ek.bool (Ek.pair (Ek.int .i64) Ek.bool))) 81 v96 q172.2.2.2.2.1 :: Res.obj 79 v5 [.int .i64 q172.1, .int .i64 q172.2.1, .int .i64 q172.2.2.1, .int .i64 q172.2.2.2.1, v96] :: Res.map (fun x : ByteArray => Value.string x) v99 q172.2.2.2.2.2.2.2.1 :: Res.obj 74 v9 [.int .i64 q172.2.2.2.2.2.1, .int .i64 q172.2.2.2.2.2.2.1, v99] :: Res.sl (Ek.pair (Ek.int .i64) (Ek.pair (Ek.int .i64) (Ek.pair (Ek.int .u8) (Ek.pair (Ek.int .u8) (Ek.pair Ek.bool Ek.str))))) 88 v102 q172.2.2.2.2.2.2.2.2.2.1 :: Res.sl (Ek.pair (Ek.int .i64) (Ek.pair (Ek.int .i64) (Ek.pair (Ek.int .u8) (Ek.pair (Ek.int .u8) (Ek.pair Ek.bool Ek.str))))) 88 v104 q172.2.2.2.2.2.2.2.2.2.2.1 :: Res.map (fun x : Int => Value.int .i64 x) v106 q172.2.2.2.2.2.2.2.2.2.2.2.2.1 :: Res.sl Ek.str 9 v108 q172.2.2.2.2.2.2.2.2.2.2.2.2.2.2.2.2.1 :: Res.sl (Ek.int .i64) 3 v110 q172.2.2.2.2.2.2.2.2.2.2.2.2.2.2.2.2.2.2 :: Res.obj 68 v30 [.int .i64 q172.2.2.2.2.2.2.2.2.1, v5, v9, v102, v104, vpicks3, .int .i64 q172.2.2.2.2.2.2.2.2.2.2.2.1, v106, .int .i64 q172.2.2.2.2.2.2.2.2.2.2.2.2.2.1, .int .i64 q172.2.2.2.2.2.2.2.2.2.2.2.2.2.2.1, .int .i64 q172.2.2.2.2.2.2.2.2.2.2.2.2.2.2.2.1, v108, .bool q172.2.2.2.2.2.2.2.2.2.2.2.2.2.2.2.2.2.1, v110] :: ow)) ?_ ?_
    ·
     rcases Bool.eq_false_or_eq_true ((q174 == (0 : Int)) && ((q172.2.2.2.2.2.2.2.2.2.2.2.2.2.2.2.2.1.length : Int) == (IntKind.i64.wrap (((IntKind.u64.wrap many2)).tmod (400 : Int))))) with hb189 | hb189
     ·
      replace hz188 := ifT hz188 hb189
      refine st_move hf (wantY hf rfl rfl hb189) rfl (by decide) ?_
      clear hf; intro a ha hf; clear ha
      obtain ⟨q191, hcall192, hz188⟩ := bnd hz188
      obtain ⟨S193, hp194, rd195, up196, bk197⟩ := Hp.lendO hp (i := 3) rfl
      refine st_call hf (by decide) Try.func14 rfl rfl (wantY hf rfl rfl hb189) rfl rfl (f_again_Receiver_Handed_c hp194 _ _ _ _ rd195 hcall192) ?_
      rintro _ w ⟨rfl, hp0⟩
      have hp0 := bk197 _ _ hp0
      clear hp; have hp := hp0; clear hp0
      replace hp : Hp _ _ _ (_ :: _ :: _ :: _ :: _ :: _ :: _ :: _ :: _ :: _ :: ow) := hp
      refine ⟨_, rfl, ?_⟩
      clear hf; intro a hf
      refine st_move hf (wantY hf rfl rfl hb189) rfl (by decide) ?_
      clear hf; intro a ha hf; clear ha
      refine st_ieql hf (by decide) (wantY hf rfl rfl hb189) rfl rfl ?_
      clear hf; intro a ha hf; clear ha
      obtain rfl := Option.some.inj hz188
      refine st_pick (v := .bool (q191 == (IntKind.i64.wrap (((IntKind.u64.wrap many2)).tmod (400 : Int))))) hf rfl rfl (fun hb' => ?_) (fun hb' => ?_) (by decide) ?_
      · rfl
      · exact absurd (hb189.symm.trans hb') (by decide)
      clear hf; intro a ha hf; clear ha
      refine st_nil hf (th_n ?_)
      have hp : Hp _ _ _ (_ :: _ :: _ :: _ :: _ :: _ :: _ :: _ :: _ :: _ :: ow) := Hp.sel (pre := [Res.obj 74 v9 [.int .i64 q172.2.2.2.2.2.1, .int .i64 q172.2.2.2.2.2.2.1, v99], Res.sl (Ek.pair Ek.str (Ek.pair Ek.bool (Ek.pair (Ek.int .i64) Ek.bool))) 81 v96 q172.2.2.2.2.1, Res.obj 79 v5 [.int .i64 q172.1, .int .i64 q172.2.1, .int .i64 q172.2.2.1, .int .i64 q172.2.2.2.1, v96], Res.map (fun x : ByteArray => Value.string x) v99 q172.2.2.2.2.2.2.2.1, Res.sl (Ek.pair (Ek.int .i64) (Ek.pair (Ek.int .i64) (Ek.pair (Ek.int .u8) (Ek.pair (Ek.int .u8) (Ek.pair Ek.bool Ek.str))))) 88 v102 q172.2.2.2.2.2.2.2.2.2.1, Res.sl (Ek.pair (Ek.int .i64) (Ek.pair (Ek.int .i64) (Ek.pair (Ek.int .u8) (Ek.pair (Ek.int .u8) (Ek.pair Ek.bool Ek.str))))) 88 v104 q172.2.2.2.2.2.2.2.2.2.2.1, Res.map (fun x : Int => Value.int .i64 x) v106 q172.2.2.2.2.2.2.2.2.2.2.2.2.1, Res.sl Ek.str 9 v108 q172.2.2.2.2.2.2.2.2.2.2.2.2.2.2.2.2.1, Res.sl (Ek.int .i64) 3 v110 q172.2.2.2.2.2.2.2.2.2.2.2.2.2.2.2.2.2.2, Res.obj 68 v30 [.int .i64 q172.2.2.2.2.2.2.2.2.1, v5, v9, v102, v104, vpicks3, .int .i64 q172.2.2.2.2.2.2.2.2.2.2.2.1, v106, .int .i64 q172.2.2.2.2.2.2.2.2.2.2.2.2.2.1, .int .i64 q172.2.2.2.2.2.2.2.2.2.2.2.2.2.2.1, .int .i64 q172.2.2.2.2.2.2.2.2.2.2.2.2.2.2.2.1, v108, .bool q172.2.2.2.2.2.2.2.2.2.2.2.2.2.2.2.2.2.1, v110]]) (tail := ow) (rs' := [Res.sl (Ek.pair Ek.str (Ek.pair Ek.bool (Ek.pair (Ek.int .i64) Ek.bool))) 81 v96 q172.2.2.2.2.1, Res.obj 79 v5 [.int .i64 q172.1, .int .i64 q172.2.1, .int .i64 q172.2.2.1, .int .i64 q172.2.2.2.1, v96], Res.map (fun x : ByteArray => Value.string x) v99 q172.2.2.2.2.2.2.2.1, Res.obj 74 v9 [.int .i64 q172.2.2.2.2.2.1, .int .i64 q172.2.2.2.2.2.2.1, v99], Res.sl (Ek.pair (Ek.int .i64) (Ek.pair (Ek.int .i64) (Ek.pair (Ek.int .u8) (Ek.pair (Ek.int .u8) (Ek.pair Ek.bool Ek.str))))) 88 v102 q172.2.2.2.2.2.2.2.2.2.1, Res.sl (Ek.pair (Ek.int .i64) (Ek.pair (Ek.int .i64) (Ek.pair (Ek.int .u8) (Ek.pair (Ek.int .u8) (Ek.pair Ek.bool Ek.str))))) 88 v104 q172.2.2.2.2.2.2.2.2.2.2.1, Res.map (fun x : Int => Value.int .i64 x) v106 q172.2.2.2.2.2.2.2.2.2.2.2.2.1, Res.sl Ek.str 9 v108 q172.2.2.2.2.2.2.2.2.2.2.2.2.2.2.2.2.1, Res.sl (Ek.int .i64) 3 v110 q172.2.2.2.2.2.2.2.2.2.2.2.2.2.2.2.2.2.2, Res.obj 68 v30 [.int .i64 q172.2.2.2.2.2.2.2.2.1, v5, v9, v102, v104, vpicks3, .int .i64 q172.2.2.2.2.2.2.2.2.2.2.2.1, v106, .int .i64 q172.2.2.2.2.2.2.2.2.2.2.2.2.2.1, .int .i64 q172.2.2.2.2.2.2.2.2.2.2.2.2.2.2.1, .int .i64 q172.2.2.2.2.2.2.2.2.2.2.2.2.2.2.2.1, v108, .bool q172.2.2.2.2.2.2.2.2.2.2.2.2.2.2.2.2.2.1, v110]]) hp [1, 2, 3, 0, 4, 5, 6, 7, 8, 9] (by decide) (by simp) rfl
      exact ⟨hf.sub ⟨rfl, trivial⟩, hp⟩
     replace hz188 := ifF hz188 hb189
     refine st_skip hf (wantN hf rfl rfl hb189) rfl (by decide) ?_ rfl
     clear hf; intro a hf
     refine st_skip hf (wantN hf rfl rfl hb189) rfl (by decide) ?_ rfl
     clear hf; intro a hf
     refine st_skip hf (wantN hf rfl rfl hb189) rfl (by decide) ?_ rfl
     clear hf; intro a hf
     refine st_skip hf (wantN hf rfl rfl hb189) rfl (by decide) ?_ rfl
     clear hf; intro a hf
     obtain rfl := Option.some.inj hz188
     refine st_pick (v := .bool false) hf rfl rfl (fun hb' => ?_) (fun hb' => ?_) (by decide) ?_
     · exact absurd (hb189.symm.trans hb') (by decide)
     · rfl
     clear hf; intro a ha hf; clear ha
     refine st_nil hf (th_n ?_)
     exact ⟨hf.sub ⟨rfl, trivial⟩, hp⟩
    rintro a w ⟨hf, hp⟩
    refine st_assign hf rfl rfl (by decide) ?_
    clear hf; intro a ha hf; clear ha
    refine st_nil hf ?_
    refine th_n ?_
    refine wp_ret ?_
    obtain rfl := Option.some.inj h
    have hp : Hp _ _ _ (ow) := Hp.sel (pre := [Res.sl (Ek.pair Ek.str (Ek.pair Ek.bool (Ek.pair (Ek.int .i64) Ek.bool))) 81 v96 q172.2.2.2.2.1, Res.obj 79 v5 [.int .i64 q172.1, .int .i64 q172.2.1, .int .i64 q172.2.2.1, .int .i64 q172.2.2.2.1, v96], Res.map (fun x : ByteArray => Value.string x) v99 q172.2.2.2.2.2.2.2.1, Res.obj 74 v9 [.int .i64 q172.2.2.2.2.2.1, .int .i64 q172.2.2.2.2.2.2.1, v99], Res.sl (Ek.pair (Ek.int .i64) (Ek.pair (Ek.int .i64) (Ek.pair (Ek.int .u8) (Ek.pair (Ek.int .u8) (Ek.pair Ek.bool Ek.str))))) 88 v102 q172.2.2.2.2.2.2.2.2.2.1, Res.sl (Ek.pair (Ek.int .i64) (Ek.pair (Ek.int .i64) (Ek.pair (Ek.int .u8) (Ek.pair (Ek.int .u8) (Ek.pair Ek.bool Ek.str))))) 88 v104 q172.2.2.2.2.2.2.2.2.2.2.1, Res.map (fun x : Int => Value.int .i64 x) v106 q172.2.2.2.2.2.2.2.2.2.2.2.2.1, Res.sl Ek.str 9 v108 q172.2.2.2.2.2.2.2.2.2.2.2.2.2.2.2.2.1, Res.sl (Ek.int .i64) 3 v110 q172.2.2.2.2.2.2.2.2.2.2.2.2.2.2.2.2.2.2, Res.obj 68 v30 [.int .i64 q172.2.2.2.2.2.2.2.2.1, v5, v9, v102, v104, vpicks3, .int .i64 q172.2.2.2.2.2.2.2.2.2.2.2.1, v106, .int .i64 q172.2.2.2.2.2.2.2.2.2.2.2.2.2.1, .int .i64 q172.2.2.2.2.2.2.2.2.2.2.2.2.2.2.1, .int .i64 q172.2.2.2.2.2.2.2.2.2.2.2.2.2.2.2.1, v108, .bool q172.2.2.2.2.2.2.2.2.2.2.2.2.2.2.2.2.2.1, v110]]) (tail := ow) (rs' := []) hp [] (by decide) (by simp) rfl
    exact ⟨rfl, ⟨hf.sub ⟨rfl, trivial⟩, hp⟩⟩
   replace h := smR h
   obtain ⟨rfl, hf, hp⟩ := hO
   refine ib_r ?_
   refine th_r ?_
   obtain rfl := Option.some.inj h
   exact ⟨rfl, ⟨hf.sub ⟨rfl, trivial⟩, hp⟩⟩
  replace h := smR h
  obtain ⟨rfl, hf, hp⟩ := hO
  refine ib_r ?_
  refine th_r ?_
  obtain rfl := Option.some.inj h
  exact ⟨rfl, ⟨hf.sub ⟨rfl, trivial⟩, hp⟩⟩

end Go.Proofs.Ytmdigffgmohcnaa
