/- The functions foghorn foghornlaw28.AgainTakes: what each answers, as a plain function, and that its call answers it; printed by gen.py. -/
import Derived.Test.YtmdigffgmohcnaaProg
import Derived.Test.YtmdigffgmohcnaaGlUb
import Derived.KernelRfl
set_option linter.unusedVariables false
set_option linter.unusedSimpArgs false
set_option maxRecDepth 100000
set_option maxHeartbeats 4000000
namespace Go.Proofs.Ytmdigffgmohcnaa
open GL
def pk74 : PtrK (Int × Int × (List (Int × ByteArray))) where
  R := fun v s => Res.ex fun (u : Value) => Res.star [Res.obj 74 v [.int .i64 s.1, .int .i64 s.2.1, u], Res.map (fun x : ByteArray => Value.string x) u s.2.2]
  sh := fun ⟨_, h⟩ => star_sh h
theorem pk74_in {S : Nat → Prop} {w0 w : World} {rs : List Res} {v : Value} {s : (Int × Int × (List (Int × ByteArray)))} (hp : Hp S w0 w (pk74.R v s :: rs)) : ∃ u : Value, Hp S w0 w (Res.obj 74 v [.int .i64 s.1, .int .i64 s.2.1, u] :: Res.map (fun x : ByteArray => Value.string x) u s.2.2 :: rs) := by
  obtain ⟨u, h⟩ := Hp.exOpen hp
  exact ⟨u, h.unstar⟩
theorem pk74_out {S : Nat → Prop} {w0 w : World} {rs : List Res} {v : Value} {s : (Int × Int × (List (Int × ByteArray)))} {u : Value} (hp : Hp S w0 w (Res.obj 74 v [.int .i64 s.1, .int .i64 s.2.1, u] :: Res.map (fun x : ByteArray => Value.string x) u s.2.2 :: rs)) : Hp S w0 w (pk74.R v s :: rs) :=
  Hp.exClose (R := fun u => Res.star [Res.obj 74 v [.int .i64 s.1, .int .i64 s.2.1, u], Res.map (fun x : ByteArray => Value.string x) u s.2.2]) (i := u) (Hp.star (l := [Res.obj 74 v [.int .i64 s.1, .int .i64 s.2.1, u], Res.map (fun x : ByteArray => Value.string x) u s.2.2]) hp)
def pk37 : PtrK (Int × Int × (List Bool) × (List ByteArray)) where
  R := fun v s => Res.ex fun (u : (Value × Value)) => Res.star [Res.obj 37 v [.int .i64 s.1, .int .i64 s.2.1, u.1, u.2], Res.sl Ek.bool 4 u.1 s.2.2.1, Res.sl Ek.str 9 u.2 s.2.2.2]
  sh := fun ⟨_, h⟩ => star_sh h
theorem pk37_in {S : Nat → Prop} {w0 w : World} {rs : List Res} {v : Value} {s : (Int × Int × (List Bool) × (List ByteArray))} (hp : Hp S w0 w (pk37.R v s :: rs)) : ∃ u : (Value × Value), Hp S w0 w (Res.obj 37 v [.int .i64 s.1, .int .i64 s.2.1, u.1, u.2] :: Res.sl Ek.bool 4 u.1 s.2.2.1 :: Res.sl Ek.str 9 u.2 s.2.2.2 :: rs) := by
  obtain ⟨u, h⟩ := Hp.exOpen hp
  exact ⟨u, h.unstar⟩
theorem pk37_out {S : Nat → Prop} {w0 w : World} {rs : List Res} {v : Value} {s : (Int × Int × (List Bool) × (List ByteArray))} {u : (Value × Value)} (hp : Hp S w0 w (Res.obj 37 v [.int .i64 s.1, .int .i64 s.2.1, u.1, u.2] :: Res.sl Ek.bool 4 u.1 s.2.2.1 :: Res.sl Ek.str 9 u.2 s.2.2.2 :: rs)) : Hp S w0 w (pk37.R v s :: rs) :=
  Hp.exClose (R := fun u => Res.star [Res.obj 37 v [.int .i64 s.1, .int .i64 s.2.1, u.1, u.2], Res.sl Ek.bool 4 u.1 s.2.2.1, Res.sl Ek.str 9 u.2 s.2.2.2]) (i := u) (Hp.star (l := [Res.obj 37 v [.int .i64 s.1, .int .i64 s.2.1, u.1, u.2], Res.sl Ek.bool 4 u.1 s.2.2.1, Res.sl Ek.str 9 u.2 s.2.2.2]) hp)
theorem elt4 : ElT Try.prog Ek.bool 4 1 false := ElT.of (z := .bool false) (by kernel_rfl) rfl
theorem elt5 : ElT Try.prog (Ek.int .u8) 5 1 (0 : Int) := ElT.of (z := .int .u8 0) (by kernel_rfl) rfl
theorem elt9 : ElT Try.prog Ek.str 9 16 ByteArray.empty := ElT.of (z := .string ByteArray.empty) (by kernel_rfl) rfl
theorem elt33 : ElT Try.prog (Ek.pair (Ek.int .u8) (Ek.pair (Ek.int .i64) (Ek.pair Ek.bool (Ek.pair (Ek.int .u8) (Ek.pair (Ek.int .u8) (Ek.pair Ek.bool Ek.str)))))) 33 48 ((0 : Int), (0 : Int), false, ((0 : Int), (0 : Int), false, ByteArray.empty)) := ElT.of (z := .agg #[.int .u8 0, .int .i64 0, .bool false, .int .u8 0, .int .u8 0, .bool false, .string ByteArray.empty]) (by kernel_rfl) ⟨[.int .u8 0], [.int .i64 0, .bool false, .int .u8 0, .int .u8 0, .bool false, .string ByteArray.empty], rfl, rfl, ⟨[.int .i64 0], [.bool false, .int .u8 0, .int .u8 0, .bool false, .string ByteArray.empty], rfl, rfl, ⟨[.bool false], [.int .u8 0, .int .u8 0, .bool false, .string ByteArray.empty], rfl, rfl, ⟨[.int .u8 0], [.int .u8 0, .bool false, .string ByteArray.empty], rfl, rfl, ⟨[.int .u8 0], [.bool false, .string ByteArray.empty], rfl, rfl, ⟨[.bool false], [.string ByteArray.empty], rfl, rfl, rfl⟩⟩⟩⟩⟩⟩
theorem pl3 : Plain Try.prog 3 := ⟨⟨_, Try.underlying3, trivial⟩⟩
theorem pl4 : Plain Try.prog 4 := ⟨⟨_, Try.underlying4, trivial⟩⟩
theorem pl5 : Plain Try.prog 5 := ⟨⟨_, Try.underlying5, trivial⟩⟩
theorem pl9 : Plain Try.prog 9 := ⟨⟨_, Try.underlying9, trivial⟩⟩
theorem pl34 : Plain Try.prog 34 := ⟨⟨_, Try.underlying34, trivial⟩⟩
theorem pl35 : Plain Try.prog 35 := ⟨⟨_, Try.underlying35, trivial⟩⟩
theorem pl72 : Plain Try.prog 72 := ⟨⟨_, Try.underlying72, trivial⟩⟩
noncomputable def f_again_NewReceiver (window0 : Int) : Option ((Option (Int × Int × (List (Int × ByteArray)))) × Int) := (if ((decide (window0 < (1 : Int))) || (decide ((128 : Int) < window0))) = true then (some (none, (1 : Int))) else (some ((some (window0, (0 : Int), ([] : (List (Int × ByteArray))))), (0 : Int))))
theorem f_again_NewReceiver_c {S : Nat → Prop} {w0 w : World} {ow : List Res} (hp : Hp S w0 w ow) (window0 : Int) {r : ((Option (Int × Int × (List (Int × ByteArray)))) × Int)} (h : f_again_NewReceiver window0 = some r) :
    Calls Try.prog 8 #[.int .i64 window0] w (fun e w' => ∃ (u0 : Value), e = .returned (.tuple #[u0, .int .i64 r.2]) ∧ Hp S w0 w' (Res.opt pk74 u0 r.1 :: ow)) := by
  unfold f_again_NewReceiver at h
  refine enter (n := 14) (args := [.int .i64 window0]) Try.func8 rfl rfl (Nat.le_of_ble_eq_true rfl) fun a hf => ?_
  replace hf : Fr 14 a [(0, .int .i64 window0)] := hf
  refine wp_mono (Q := fun e a w => e = .ret ∧ ∃ (u0 : Value), Fr 14 a [(2, u0), (3, .int .i64 r.2)] ∧ Hp S w0 w (Res.opt pk74 u0 r.1 :: ow)) ?_ ?_
  rotate_left
  · rintro e a w ⟨rfl, x0, hf, hp⟩
    exact ret2 hf rfl rfl rfl ⟨x0, rfl, hp⟩
  refine wp_seq ?_
  refine wp_reg ?_
  refine st_assign hf rfl rfl (by decide) ?_
  clear hf; intro a ha hf; clear ha
  refine st_assign hf rfl rfl (by decide) ?_
  clear hf; intro a ha hf; clear ha
  refine st_nil hf ?_
  refine th_n ?_
  refine wp_seq ?_
  refine wp_seq ?_
  refine wp_reg ?_
  refine st_move hf rfl rfl (by decide) ?_
  clear hf; intro a ha hf; clear ha
  refine st_ilss hf (by decide) rfl rfl rfl ?_
  clear hf; intro a ha hf; clear ha
  refine st_move hf rfl rfl (by decide) ?_
  clear hf; intro a ha hf; clear ha
  refine wpList_cut 3 (fun a w => Fr 14 a [(0, .int .i64 window0), (9, .bool ((decide (window0 < (1 : Int))) || (decide ((128 : Int) < window0))))] ∧ Hp S w0 w (ow)) ?_ ?_
  · rcases Bool.eq_false_or_eq_true (decide (window0 < (1 : Int))) with hb2 | hb2
    · skip
      refine st_skip hf (wantN hf rfl rfl hb2) rfl (by decide) ?_ rfl
      clear hf; intro a hf
      refine st_skip hf (wantN hf rfl rfl hb2) rfl (by decide) ?_ rfl
      clear hf; intro a hf
      refine st_pick (v := .bool true) hf rfl rfl (fun hb' => ?_) (fun hb' => ?_) (by decide) ?_
      · rfl
      · exact absurd (hb2.symm.trans hb') (by decide)
      clear hf; intro a ha hf; clear ha
      refine st_nil hf (th_n ?_)
      exact ⟨hf.sub ⟨rfl, (by rw [hb2]; rfl), trivial⟩, hp⟩
    refine st_move hf (wantY hf rfl rfl hb2) rfl (by decide) ?_
    clear hf; intro a ha hf; clear ha
    refine st_igtr hf (by decide) (wantY hf rfl rfl hb2) rfl rfl ?_
    clear hf; intro a ha hf; clear ha
    refine st_pick (v := .bool (decide ((128 : Int) < window0))) hf rfl rfl (fun hb' => ?_) (fun hb' => ?_) (by decide) ?_
    · exact absurd (hb2.symm.trans hb') (by decide)
    · rfl
    clear hf; intro a ha hf; clear ha
    refine st_nil hf (th_n ?_)
    exact ⟨hf.sub ⟨rfl, (by rw [hb2]; rfl), trivial⟩, hp⟩
  rintro a w ⟨hf, hp⟩
  refine st_nil hf ?_
  refine th_n ?_
  refine wp_if hf rfl (fun hb => ?_) (fun hb => ?_)
  · replace h := ifT h hb
    refine wp_seq ?_
    refine wp_reg ?_
    refine st_assign hf rfl rfl (by decide) ?_
    clear hf; intro a ha hf; clear ha
    refine st_assign hf rfl rfl (by decide) ?_
    clear hf; intro a ha hf; clear ha
    refine st_nil hf ?_
    refine th_n ?_
    refine wp_ret ?_
    refine th_r ?_
    obtain rfl := Option.some.inj h
    have hp := hp.optNil pk74
    exact ⟨rfl, ⟨_, hf.sub ⟨rfl, rfl, trivial⟩, hp⟩⟩
  replace h := ifF h hb
  refine wp_skip ?_
  refine th_n ?_
  refine wp_seq ?_
  refine wp_reg ?_
  refine st_move hf rfl rfl (by decide) ?_
  clear hf; intro a ha hf; clear ha
  refine st_makeMap (enc := (fun x : ByteArray => Value.string x)) hf (by decide) hp rfl ?_
  clear hf; intro a w g4 hf hp0; clear hp; have hp := hp0; clear hp0
  replace hp : Hp _ _ _ (Res.map (fun x : ByteArray => Value.string x) (.map (some g4)) ([] : (List (Int × ByteArray))) :: ow) := hp
  refine st_buildA (vals := [(0, .int .i64 window0), (2, (.map (some g4)))]) (cells := [.int .i64 window0, .int .i64 (0 : Int), (.map (some g4))]) hf (by decide) rfl (by simp [hf.ev (x := (Operand.tmp 10)) rfl, hf.ev (x := (Operand.tmp 11)) rfl]) (fun w => by kernel_rfl) ?_
  clear hf; intro a ha hf; clear ha
  refine st_boxO (cs := [.int .i64 window0, .int .i64 (0 : Int), (.map (some g4))]) hf (by decide) hp rfl rfl rfl ?_
  clear hf; intro a w v6 hf hp0; clear hp; have hp := hp0; clear hp0
  replace hp : Hp _ _ _ (Res.obj 74 v6 [.int .i64 window0, .int .i64 (0 : Int), (.map (some g4))] :: Res.map (fun x : ByteArray => Value.string x) (.map (some g4)) ([] : (List (Int × ByteArray))) :: ow) := hp
  rw [hp.eq0] at hf
  refine st_assign hf rfl rfl (by decide) ?_
  clear hf; intro a ha hf; clear ha
  refine st_assign hf rfl rfl (by decide) ?_
  clear hf; intro a ha hf; clear ha
  refine st_nil hf ?_
  refine th_n ?_
  refine wp_ret ?_
  replace hp : Hp _ _ _ (Res.opt pk74 v6 (some (window0, (0 : Int), ([] : (List (Int × ByteArray))))) :: ow) := pk74_out (s := (window0, (0 : Int), ([] : (List (Int × ByteArray))))) (u := (.map (some g4))) hp
  obtain rfl := Option.some.inj h
  exact ⟨rfl, ⟨_, hf.sub ⟨rfl, rfl, trivial⟩, hp⟩⟩

noncomputable def f_foghornref28_NewReceiver (window0 : Int) : Option ((Option (Int × Int × (List Bool) × (List ByteArray))) × Int) := (if ((decide (window0 < (1 : Int))) || (decide ((128 : Int) < window0))) = true then (some (none, (1 : Int))) else (some ((some (window0, (0 : Int), [], [])), (0 : Int))))
theorem f_foghornref28_NewReceiver_c {S : Nat → Prop} {w0 w : World} {ow : List Res} (hp : Hp S w0 w ow) (window0 : Int) {r : ((Option (Int × Int × (List Bool) × (List ByteArray))) × Int)} (h : f_foghornref28_NewReceiver window0 = some r) :
    Calls Try.prog 9 #[.int .i64 window0] w (fun e w' => ∃ (u0 : Value), e = .returned (.tuple #[u0, .int .i64 r.2]) ∧ Hp S w0 w' (Res.opt pk37 u0 r.1 :: ow)) := by
  unfold f_foghornref28_NewReceiver at h
  refine enter (n := 13) (args := [.int .i64 window0]) Try.func9 rfl rfl (Nat.le_of_ble_eq_true rfl) fun a hf => ?_
  replace hf : Fr 13 a [(0, .int .i64 window0)] := hf
  refine wp_mono (Q := fun e a w => e = .ret ∧ ∃ (u0 : Value), Fr 13 a [(2, u0), (3, .int .i64 r.2)] ∧ Hp S w0 w (Res.opt pk37 u0 r.1 :: ow)) ?_ ?_
  rotate_left
  · rintro e a w ⟨rfl, x0, hf, hp⟩
    exact ret2 hf rfl rfl rfl ⟨x0, rfl, hp⟩
  refine wp_seq ?_
  refine wp_reg ?_
  refine st_assign hf rfl rfl (by decide) ?_
  clear hf; intro a ha hf; clear ha
  refine st_assign hf rfl rfl (by decide) ?_
  clear hf; intro a ha hf; clear ha
  refine st_nil hf ?_
  refine th_n ?_
  refine wp_seq ?_
  refine wp_seq ?_
  refine wp_reg ?_
  refine st_move hf rfl rfl (by decide) ?_
  clear hf; intro a ha hf; clear ha
  refine st_ilss hf (by decide) rfl rfl rfl ?_
  clear hf; intro a ha hf; clear ha
  refine st_move hf rfl rfl (by decide) ?_
  clear hf; intro a ha hf; clear ha
  refine wpList_cut 3 (fun a w => Fr 13 a [(0, .int .i64 window0), (9, .bool ((decide (window0 < (1 : Int))) || (decide ((128 : Int) < window0))))] ∧ Hp S w0 w (ow)) ?_ ?_
  · rcases Bool.eq_false_or_eq_true (decide (window0 < (1 : Int))) with hb2 | hb2
    · skip
      refine st_skip hf (wantN hf rfl rfl hb2) rfl (by decide) ?_ rfl
      clear hf; intro a hf
      refine st_skip hf (wantN hf rfl rfl hb2) rfl (by decide) ?_ rfl
      clear hf; intro a hf
      refine st_pick (v := .bool true) hf rfl rfl (fun hb' => ?_) (fun hb' => ?_) (by decide) ?_
      · rfl
      · exact absurd (hb2.symm.trans hb') (by decide)
      clear hf; intro a ha hf; clear ha
      refine st_nil hf (th_n ?_)
      exact ⟨hf.sub ⟨rfl, (by rw [hb2]; rfl), trivial⟩, hp⟩
    refine st_move hf (wantY hf rfl rfl hb2) rfl (by decide) ?_
    clear hf; intro a ha hf; clear ha
    refine st_igtr hf (by decide) (wantY hf rfl rfl hb2) rfl rfl ?_
    clear hf; intro a ha hf; clear ha
    refine st_pick (v := .bool (decide ((128 : Int) < window0))) hf rfl rfl (fun hb' => ?_) (fun hb' => ?_) (by decide) ?_
    · exact absurd (hb2.symm.trans hb') (by decide)
    · rfl
    clear hf; intro a ha hf; clear ha
    refine st_nil hf (th_n ?_)
    exact ⟨hf.sub ⟨rfl, (by rw [hb2]; rfl), trivial⟩, hp⟩
  rintro a w ⟨hf, hp⟩
  refine st_nil hf ?_
  refine th_n ?_
  refine wp_if hf rfl (fun hb => ?_) (fun hb => ?_)
  · replace h := ifT h hb
    refine wp_seq ?_
    refine wp_reg ?_
    refine st_assign hf rfl rfl (by decide) ?_
    clear hf; intro a ha hf; clear ha
    refine st_assign hf rfl rfl (by decide) ?_
    clear hf; intro a ha hf; clear ha
    refine st_nil hf ?_
    refine th_n ?_
    refine wp_ret ?_
    refine th_r ?_
    obtain rfl := Option.some.inj h
    have hp := hp.optNil pk37
    exact ⟨rfl, ⟨_, hf.sub ⟨rfl, rfl, trivial⟩, hp⟩⟩
  replace h := ifF h hb
  refine wp_skip ?_
  refine th_n ?_
  refine wp_seq ?_
  refine wp_reg ?_
  refine st_move hf rfl rfl (by decide) ?_
  clear hf; intro a ha hf; clear ha
  refine st_buildA (vals := [(0, .int .i64 window0)]) (cells := [.int .i64 window0, .int .i64 (0 : Int), .slice none 0 0, .slice none 0 0]) hf (by decide) rfl (by simp [hf.ev (x := (Operand.tmp 10)) rfl]) (fun w => by kernel_rfl) ?_
  clear hf; intro a ha hf; clear ha
  refine st_boxO (cs := [.int .i64 window0, .int .i64 (0 : Int), .slice none 0 0, .slice none 0 0]) hf (by decide) hp rfl rfl rfl ?_
  clear hf; intro a w v4 hf hp0; clear hp; have hp := hp0; clear hp0
  replace hp : Hp _ _ _ (Res.obj 37 v4 [.int .i64 window0, .int .i64 (0 : Int), .slice none 0 0, .slice none 0 0] :: ow) := hp
  rw [hp.eq0] at hf
  refine st_assign hf rfl rfl (by decide) ?_
  clear hf; intro a ha hf; clear ha
  refine st_assign hf rfl rfl (by decide) ?_
  clear hf; intro a ha hf; clear ha
  refine st_nil hf ?_
  refine th_n ?_
  refine wp_ret ?_
  have hp := hp.nil Ek.bool 4
  have hp := hp.nil Ek.str 9
  have hp : Hp _ _ _ (Res.obj 37 v4 [.int .i64 window0, .int .i64 (0 : Int), .slice none 0 0, .slice none 0 0] :: Res.sl Ek.bool 4 (.slice none 0 0) ([]) :: Res.sl Ek.str 9 (.slice none 0 0) ([]) :: ow) := Hp.sel (pre := [Res.sl Ek.str 9 (.slice none 0 0) ([]), Res.sl Ek.bool 4 (.slice none 0 0) ([]), Res.obj 37 v4 [.int .i64 window0, .int .i64 (0 : Int), .slice none 0 0, .slice none 0 0]]) (tail := ow) (rs' := [Res.obj 37 v4 [.int .i64 window0, .int .i64 (0 : Int), .slice none 0 0, .slice none 0 0], Res.sl Ek.bool 4 (.slice none 0 0) ([]), Res.sl Ek.str 9 (.slice none 0 0) ([])]) hp [2, 1, 0] (by decide) (by simp) rfl
  replace hp : Hp _ _ _ (Res.opt pk37 v4 (some (window0, (0 : Int), [], [])) :: ow) := pk37_out (s := (window0, (0 : Int), [], [])) (u := ((.slice none 0 0), (.slice none 0 0))) hp
  obtain rfl := Option.some.inj h
  exact ⟨rfl, ⟨_, hf.sub ⟨rfl, rfl, trivial⟩, hp⟩⟩

noncomputable def f_again_Receiver_Take.s1c (r0c_0 : Int) (r0c_1 : Int) (r0c_2 : (List (Int × ByteArray))) (handed4 : (List ByteArray)) : Option ((Int × Int × (List (Int × ByteArray)) × (List ByteArray)) ⊕ (Int × Int × (List (Int × ByteArray)) × (List ByteArray))) := (if (!((mget r0c_2 r0c_1).isSome)) = true then (some (Sum.inr (r0c_0, r0c_1, r0c_2, handed4))) else (if (handed4.length + ([((mget r0c_2 r0c_1).getD ByteArray.empty)]).length) * 16 ≤ 140737488355328 then (some (Sum.inl (r0c_0, (IntKind.i64.wrap (r0c_1 + (1 : Int))), (mdel r0c_2 r0c_1), (handed4 ++ [((mget r0c_2 r0c_1).getD ByteArray.empty)])))) else none))
noncomputable def f_again_Receiver_Take.s1  (s : (Int × Int × (List (Int × ByteArray)) × (List ByteArray))) : Option ((Int × Int × (List (Int × ByteArray)) × (List ByteArray)) ⊕ (Int × Int × (List (Int × ByteArray)) × (List ByteArray))) := f_again_Receiver_Take.s1c s.1 s.2.1 s.2.2.1 s.2.2.2
noncomputable def f_again_Receiver_Take.s2c (q41 : (Int × Int × (List (Int × ByteArray)) × (List ByteArray))) (marks12 : (List Int)) (t109 : Int) : Option (((List Int) × Int) ⊕ (List Int)) := (if (decide (t109 < (128 : Int))) = true then (if ((mget q41.2.2.1 (IntKind.i64.wrap ((IntKind.i64.wrap (q41.2.1 + (1 : Int))) + t109))).isSome) = true then (if 0 ≤ (IntKind.i64.wrap ((t109).tdiv (8 : Int))) ∧ (IntKind.i64.wrap ((t109).tdiv (8 : Int))) < (16 : Int) then (if 0 ≤ ((t109).tmod (8 : Int)) then (if 0 ≤ (IntKind.i64.wrap ((t109).tdiv (8 : Int))) ∧ (IntKind.i64.wrap ((t109).tdiv (8 : Int))) < (16 : Int) then (some (Sum.inl ((marks12.set ((IntKind.i64.wrap ((t109).tdiv (8 : Int)))).toNat (ior .u8 (gt marks12 (IntKind.i64.wrap ((t109).tdiv (8 : Int)))) (ishr .u8 (128 : Int) ((t109).tmod (8 : Int))))), (IntKind.i64.wrap (t109 + (1 : Int)))))) else none) else none) else none) else (some (Sum.inl (marks12, (IntKind.i64.wrap (t109 + (1 : Int))))))) else (some (Sum.inr marks12)))
noncomputable def f_again_Receiver_Take.s2 (q41 : (Int × Int × (List (Int × ByteArray)) × (List ByteArray))) (s : ((List Int) × Int)) : Option (((List Int) × Int) ⊕ (List Int)) := f_again_Receiver_Take.s2c q41 s.1 s.2
noncomputable def f_again_Receiver_Take.j1 (r0c_0 : Int) (r0c_1 : Int) (r0c_2 : (List (Int × ByteArray))) : Option ((List ByteArray) × (Int × Int × Bool × ByteArray) × Int × (Int × Int × (List (Int × ByteArray)))) := ((loop f_again_Receiver_Take.s1 (r0c_0, r0c_1, r0c_2, [])).bind (fun q41 => ((loop (f_again_Receiver_Take.s2 q41) ((List.replicate 16 (0 : Int)), (0 : Int))).bind (fun q64 => (some (q41.2.2.2, ((2 : Int), (IntKind.u8.wrap q41.2.1), false, (bstr q64)), (0 : Int), (q41.1, q41.2.1, q41.2.2.1)))))))
noncomputable def f_again_Receiver_Take (r0_window : Int) (r0_next : Int) (r0_kept : (List (Int × ByteArray))) (f1_Kind : Int) (f1_Number : Int) (f1_More : Bool) (f1_Body : ByteArray) : Option ((List ByteArray) × (Int × Int × Bool × ByteArray) × Int × (Int × Int × (List (Int × ByteArray)))) := (if (((f1_Kind != (1 : Int)) || f1_More) || (decide ((240 : Int) < (f1_Body.size : Int)))) = true then (some ([], ((0 : Int), (0 : Int), false, ByteArray.empty), (4 : Int), (r0_window, r0_next, r0_kept))) else (if (decide ((IntKind.i64.wrap (IntKind.u8.wrap (f1_Number - (IntKind.u8.wrap r0_next)))) < r0_window)) = true then (if (!((mget r0_kept (IntKind.i64.wrap (r0_next + (IntKind.i64.wrap (IntKind.u8.wrap (f1_Number - (IntKind.u8.wrap r0_next))))))).isSome)) = true then (f_again_Receiver_Take.j1 r0_window r0_next (mput r0_kept (IntKind.i64.wrap (r0_next + (IntKind.i64.wrap (IntKind.u8.wrap (f1_Number - (IntKind.u8.wrap r0_next)))))) f1_Body)) else (f_again_Receiver_Take.j1 r0_window r0_next r0_kept)) else (f_again_Receiver_Take.j1 r0_window r0_next r0_kept)))
theorem f_again_Receiver_Take_c {S : Nat → Prop} {w0 w : World} {ow : List Res} (r0_window : Int) (r0_next : Int) (vr0_kept : Value) (r0_kept : (List (Int × ByteArray))) (or0 : Value) (f1_Kind : Int) (f1_Number : Int) (f1_More : Bool) (f1_Body : ByteArray) (hp : Hp S w0 w (Res.map (fun x : ByteArray => Value.string x) vr0_kept r0_kept :: Res.obj 74 or0 [.int .i64 r0_window, .int .i64 r0_next, vr0_kept] :: ow)) {r : ((List ByteArray) × (Int × Int × Bool × ByteArray) × Int × (Int × Int × (List (Int × ByteArray))))} (h : f_again_Receiver_Take r0_window r0_next r0_kept f1_Kind f1_Number f1_More f1_Body = some r) :
    Calls Try.prog 10 #[or0, .agg #[.int .u8 f1_Kind, .int .u8 f1_Number, .bool f1_More, .string f1_Body]] w (fun e w' => ∃ (u0 : Value) (u1 : Value), e = .returned (.tuple #[u0, .agg #[.int .u8 r.2.1.1, .int .u8 r.2.1.2.1, .bool r.2.1.2.2.1, .string r.2.1.2.2.2], .int .i64 r.2.2.1]) ∧ Hp S w0 w' (Res.sl Ek.str 9 u0 r.1 :: Res.map (fun x : ByteArray => Value.string x) u1 r.2.2.2.2.2 :: Res.obj 74 or0 [.int .i64 r.2.2.2.1, .int .i64 r.2.2.2.2.1, u1] :: ow)) := by
  unfold f_again_Receiver_Take at h
  refine enter (n := 147) (args := [or0, .agg #[.int .u8 f1_Kind, .int .u8 f1_Number, .bool f1_More, .string f1_Body]]) Try.func10 rfl rfl (Nat.le_of_ble_eq_true rfl) fun a hf => ?_
  replace hf : Fr 147 a [(0, or0), (1, .agg #[.int .u8 f1_Kind, .int .u8 f1_Number, .bool f1_More, .string f1_Body])] := hf
  refine wp_mono (Q := fun e a w => e = .ret ∧ ∃ (u0 : Value) (u1 : Value) (c1 : Value), Fr 147 a [(4, u0), (5, optr c1 0), (6, .int .i64 r.2.2.1)] ∧ Hp S w0 w (Res.obj 31 c1 [.int .u8 r.2.1.1, .int .u8 r.2.1.2.1, .bool r.2.1.2.2.1, .string r.2.1.2.2.2] :: Res.sl Ek.str 9 u0 r.1 :: Res.map (fun x : ByteArray => Value.string x) u1 r.2.2.2.2.2 :: Res.obj 74 or0 [.int .i64 r.2.2.2.1, .int .i64 r.2.2.2.2.1, u1] :: ow)) ?_ ?_
  rotate_left
  · rintro e a w ⟨rfl, x0, x1, c1, hf, hp⟩
    exact retG3 hf rfl rfl ⟨_, _, rfl, hp.ob (i := 0) rfl, .inr ⟨by kernel_rfl, rfl⟩⟩ rfl ⟨x0, x1, rfl, hp.drop⟩
  refine wp_seq ?_
  refine wp_reg ?_
  refine st_boxO (cs := [.int .u8 f1_Kind, .int .u8 f1_Number, .bool f1_More, .string f1_Body]) hf (by decide) hp rfl rfl rfl ?_
  clear hf; intro a w v3 hf hp0; clear hp; have hp := hp0; clear hp0
  replace hp : Hp _ _ _ (Res.obj 31 v3 [.int .u8 f1_Kind, .int .u8 f1_Number, .bool f1_More, .string f1_Body] :: Res.map (fun x : ByteArray => Value.string x) vr0_kept r0_kept :: Res.obj 74 or0 [.int .i64 r0_window, .int .i64 r0_next, vr0_kept] :: ow) := hp
  refine st_assign hf rfl rfl (by decide) ?_
  clear hf; intro a ha hf; clear ha
  refine st_alloc (cs := [.int .u8 (0 : Int), .int .u8 (0 : Int), .bool false, .string ByteArray.empty]) (zv := .agg #[.int .u8 (0 : Int), .int .u8 (0 : Int), .bool false, .string ByteArray.empty]) hf (by decide) (by kernel_rfl) rfl hp rfl ?_
  clear hf; intro a w v5 hf hp0; clear hp; have hp := hp0; clear hp0
  replace hp : Hp _ _ _ (Res.obj 31 v5 [.int .u8 (0 : Int), .int .u8 (0 : Int), .bool false, .string ByteArray.empty] :: Res.obj 31 v3 [.int .u8 f1_Kind, .int .u8 f1_Number, .bool f1_More, .string f1_Body] :: Res.map (fun x : ByteArray => Value.string x) vr0_kept r0_kept :: Res.obj 74 or0 [.int .i64 r0_window, .int .i64 r0_next, vr0_kept] :: ow) := hp
  refine st_assign hf rfl rfl (by decide) ?_
  clear hf; intro a ha hf; clear ha
  refine st_nil hf ?_
  refine th_n ?_
  refine wp_seq ?_
  refine wp_seq ?_
  refine wp_reg ?_
  refine st_move hf rfl rfl (by decide) ?_
  clear hf; intro a ha hf; clear ha
  refine st_peql hf (by decide) Try.underlying23 rfl rfl rfl (nilF (hp.ob (i := 3) rfl).e) ?_
  clear hf; intro a ha hf; clear ha
  refine st_nil hf ?_
  refine th_n ?_
  refine wp_if hf rfl (fun hb => ?_) (fun hb => ?_)
  · exact absurd hb (by decide)
  refine wp_skip ?_
  refine th_n ?_
  refine wp_seq ?_
  refine wp_seq ?_
  refine wp_reg ?_
  refine st_fa (o' := 0) hf (by decide) (off := 0) (sz := 1) (by kernel_rfl) (by decide) rfl rfl (hp.ob (i := 1) rfl) rfl ?_
  clear hf; intro a ha hf; clear ha
  refine st_ldO (u := .int .u8 f1_Kind) hf (by decide) pl5 rfl rfl (hp.ob (i := 1) rfl) rfl ?_
  clear hf; intro a ha hf; clear ha
  refine st_ineq hf (by decide) rfl rfl rfl ?_
  clear hf; intro a ha hf; clear ha
  refine st_move hf rfl rfl (by decide) ?_
  clear hf; intro a ha hf; clear ha
  refine wpList_cut 3 (fun a w => Fr 147 a [(0, or0), (3, optr v3 0), (4, .slice none 0 0), (5, optr v5 0), (25, .bool ((f1_Kind != (1 : Int)) || f1_More))] ∧ Hp S w0 w (Res.obj 31 v5 [.int .u8 (0 : Int), .int .u8 (0 : Int), .bool false, .string ByteArray.empty] :: Res.obj 31 v3 [.int .u8 f1_Kind, .int .u8 f1_Number, .bool f1_More, .string f1_Body] :: Res.map (fun x : ByteArray => Value.string x) vr0_kept r0_kept :: Res.obj 74 or0 [.int .i64 r0_window, .int .i64 r0_next, vr0_kept] :: ow)) ?_ ?_
  · rcases Bool.eq_false_or_eq_true (f1_Kind != (1 : Int)) with hb8 | hb8
    · skip
      refine st_skip hf (wantN hf rfl rfl hb8) rfl (by decide) ?_ rfl
      clear hf; intro a hf
      refine st_skip hf (wantN hf rfl rfl hb8) rfl (by decide) ?_ rfl
      clear hf; intro a hf
      refine st_pick (v := .bool true) hf rfl rfl (fun hb' => ?_) (fun hb' => ?_) (by decide) ?_
      · rfl
      · exact absurd (hb8.symm.trans hb') (by decide)
      clear hf; intro a ha hf; clear ha
      refine st_nil hf (th_n ?_)
      exact ⟨hf.sub ⟨rfl, rfl, rfl, rfl, (by rw [hb8]; rfl), trivial⟩, hp⟩
    refine st_fa (o' := 2) hf (by decide) (off := 2) (sz := 1) (by kernel_rfl) (by decide) (wantY hf rfl rfl hb8) rfl (hp.ob (i := 1) rfl) rfl ?_
    clear hf; intro a ha hf; clear ha
    refine st_ldO (u := .bool f1_More) hf (by decide) pl4 (wantY hf rfl rfl hb8) rfl (hp.ob (i := 1) rfl) rfl ?_
    clear hf; intro a ha hf; clear ha
    refine st_pick (v := .bool f1_More) hf rfl rfl (fun hb' => ?_) (fun hb' => ?_) (by decide) ?_
    · exact absurd (hb8.symm.trans hb') (by decide)
    · rfl
    clear hf; intro a ha hf; clear ha
    refine st_nil hf (th_n ?_)
    exact ⟨hf.sub ⟨rfl, rfl, rfl, rfl, (by rw [hb8]; rfl), trivial⟩, hp⟩
  rintro a w ⟨hf, hp⟩
  refine st_move hf rfl rfl (by decide) ?_
  clear hf; intro a ha hf; clear ha
  refine wpList_cut 5 (fun a w => Fr 147 a [(0, or0), (3, optr v3 0), (4, .slice none 0 0), (5, optr v5 0), (31, .bool (((f1_Kind != (1 : Int)) || f1_More) || (decide ((240 : Int) < (f1_Body.size : Int)))))] ∧ Hp S w0 w (Res.obj 31 v5 [.int .u8 (0 : Int), .int .u8 (0 : Int), .bool false, .string ByteArray.empty] :: Res.obj 31 v3 [.int .u8 f1_Kind, .int .u8 f1_Number, .bool f1_More, .string f1_Body] :: Res.map (fun x : ByteArray => Value.string x) vr0_kept r0_kept :: Res.obj 74 or0 [.int .i64 r0_window, .int .i64 r0_next, vr0_kept] :: ow)) ?_ ?_
  · rcases Bool.eq_false_or_eq_true ((f1_Kind != (1 : Int)) || f1_More) with hb10 | hb10
    · skip
      refine st_skip hf (wantN hf rfl rfl hb10) rfl (by decide) ?_ rfl
      clear hf; intro a hf
      refine st_skip hf (wantN hf rfl rfl hb10) rfl (by decide) ?_ rfl
      clear hf; intro a hf
      refine st_skip hf (wantN hf rfl rfl hb10) rfl (by decide) ?_ rfl
      clear hf; intro a hf
      refine st_skip hf (wantN hf rfl rfl hb10) rfl (by decide) ?_ rfl
      clear hf; intro a hf
      refine st_pick (v := .bool true) hf rfl rfl (fun hb' => ?_) (fun hb' => ?_) (by decide) ?_
      · rfl
      · exact absurd (hb10.symm.trans hb') (by decide)
      clear hf; intro a ha hf; clear ha
      refine st_nil hf (th_n ?_)
      exact ⟨hf.sub ⟨rfl, rfl, rfl, rfl, (by rw [hb10]; rfl), trivial⟩, hp⟩
    refine st_fa (o' := 3) hf (by decide) (off := 3) (sz := 1) (by kernel_rfl) (by decide) (wantY hf rfl rfl hb10) rfl (hp.ob (i := 1) rfl) rfl ?_
    clear hf; intro a ha hf; clear ha
    refine st_ldO (u := .string f1_Body) hf (by decide) pl9 (wantY hf rfl rfl hb10) rfl (hp.ob (i := 1) rfl) rfl ?_
    clear hf; intro a ha hf; clear ha
    refine st_slen hf (by decide) Try.underlying9 (wantY hf rfl rfl hb10) rfl ?_
    clear hf; intro a ha hf; clear ha
    refine st_igtr hf (by decide) (wantY hf rfl rfl hb10) rfl rfl ?_
    clear hf; intro a ha hf; clear ha
    refine st_pick (v := .bool (decide ((240 : Int) < (f1_Body.size : Int)))) hf rfl rfl (fun hb' => ?_) (fun hb' => ?_) (by decide) ?_
    · exact absurd (hb10.symm.trans hb') (by decide)
    · rfl
    clear hf; intro a ha hf; clear ha
    refine st_nil hf (th_n ?_)
    exact ⟨hf.sub ⟨rfl, rfl, rfl, rfl, (by rw [hb10]; rfl), trivial⟩, hp⟩
  rintro a w ⟨hf, hp⟩
  refine st_nil hf ?_
  refine th_n ?_
  refine wp_if hf rfl (fun hb => ?_) (fun hb => ?_)
  · replace h := ifT h hb
    refine wp_seq ?_
    refine wp_reg ?_
    refine st_buildA (vals := []) (cells := [.int .u8 (0 : Int), .int .u8 (0 : Int), .bool false, .string ByteArray.empty]) hf (by decide) rfl (by simp []) (fun w => by kernel_rfl) ?_
    clear hf; intro a ha hf; clear ha
    refine st_assign hf rfl rfl (by decide) ?_
    clear hf; intro a ha hf; clear ha
    refine st_stO (us := [.int .u8 (0 : Int), .int .u8 (0 : Int), .bool false, .string ByteArray.empty]) hf hp (i := 0) rfl rfl rfl rfl rfl (by rfl) (by kernel_rfl) (Nat.le_of_ble_eq_true rfl) ?_
    clear hf; intro a w hf hp0; clear hp; have hp := hp0; clear hp0
    replace hp : Hp _ _ _ (Res.obj 31 v5 [.int .u8 (0 : Int), .int .u8 (0 : Int), .bool false, .string ByteArray.empty] :: Res.obj 31 v3 [.int .u8 f1_Kind, .int .u8 f1_Number, .bool f1_More, .string f1_Body] :: Res.map (fun x : ByteArray => Value.string x) vr0_kept r0_kept :: Res.obj 74 or0 [.int .i64 r0_window, .int .i64 r0_next, vr0_kept] :: ow) := hp
    refine st_assign hf rfl rfl (by decide) ?_
    clear hf; intro a ha hf; clear ha
    refine st_nil hf ?_
    refine th_n ?_
    refine wp_ret ?_
    refine th_r ?_
    obtain rfl := Option.some.inj h
    have hp := hp.nil Ek.str 9
    have hp : Hp _ _ _ (Res.obj 31 v5 [.int .u8 (0 : Int), .int .u8 (0 : Int), .bool false, .string ByteArray.empty] :: Res.sl Ek.str 9 (.slice none 0 0) ([]) :: Res.map (fun x : ByteArray => Value.string x) vr0_kept r0_kept :: Res.obj 74 or0 [.int .i64 r0_window, .int .i64 r0_next, vr0_kept] :: ow) := Hp.sel (pre := [Res.sl Ek.str 9 (.slice none 0 0) ([]), Res.obj 31 v5 [.int .u8 (0 : Int), .int .u8 (0 : Int), .bool false, .string ByteArray.empty], Res.obj 31 v3 [.int .u8 f1_Kind, .int .u8 f1_Number, .bool f1_More, .string f1_Body], Res.map (fun x : ByteArray => Value.string x) vr0_kept r0_kept, Res.obj 74 or0 [.int .i64 r0_window, .int .i64 r0_next, vr0_kept]]) (tail := ow) (rs' := [Res.obj 31 v5 [.int .u8 (0 : Int), .int .u8 (0 : Int), .bool false, .string ByteArray.empty], Res.sl Ek.str 9 (.slice none 0 0) ([]), Res.map (fun x : ByteArray => Value.string x) vr0_kept r0_kept, Res.obj 74 or0 [.int .i64 r0_window, .int .i64 r0_next, vr0_kept]]) hp [1, 0, 3, 4] (by decide) (by simp) rfl
    exact ⟨rfl, ⟨_, _, _, hf.sub ⟨rfl, rfl, rfl, trivial⟩, hp⟩⟩
  replace h := ifF h hb
  refine wp_skip ?_
  refine th_n ?_
  refine wp_seq_cut (fun a w => ∃ (r0c_0 : Int) (r0c_1 : Int) (r0c_2 : (List (Int × ByteArray))) (v12 : Value), f_again_Receiver_Take.j1 r0c_0 r0c_1 r0c_2 = some r ∧ Fr 147 a [(0, or0), (4, .slice none 0 0), (5, optr v5 0)] ∧ Hp S w0 w (Res.map (fun x : ByteArray => Value.string x) v12 r0c_2 :: Res.obj 74 or0 [.int .i64 r0c_0, .int .i64 r0c_1, v12] :: Res.obj 31 v5 [.int .u8 (0 : Int), .int .u8 (0 : Int), .bool false, .string ByteArray.empty] :: ow)) ?_ ?_
  · skip
    refine wp_seq ?_
    obtain ⟨S77, hp78, rd79, up80, bk81⟩ := Hp.lendO hp (i := 1) rfl
    obtain ⟨S82, hp83, rd84, up85, bk86⟩ := Hp.lendO hp78 (i := 2) rfl
    have rl87 := rd84
    have rl88 := ((rd79.now hp78).mono up85)
    refine wp_cutN (fun a w => Fr 147 a [(0, or0), (3, optr v3 0), (4, .slice none 0 0), (5, optr v5 0), (7, .int .i64 (IntKind.i64.wrap (IntKind.u8.wrap (f1_Number - (IntKind.u8.wrap r0_next)))))] ∧ Hp S w0 w (Res.obj 31 v3 [.int .u8 f1_Kind, .int .u8 f1_Number, .bool f1_More, .string f1_Body] :: Res.obj 74 or0 [.int .i64 r0_window, .int .i64 r0_next, vr0_kept] :: Res.obj 31 v5 [.int .u8 (0 : Int), .int .u8 (0 : Int), .bool false, .string ByteArray.empty] :: Res.map (fun x : ByteArray => Value.string x) vr0_kept r0_kept :: ow)) ?_ ?_
    · have hp := hp83.same (Same.drew w)
      refine dr_begin' (fun a w => Fr 147 a [(0, or0), (3, optr v3 0), (4, .slice none 0 0), (5, optr v5 0), (7, .int .i64 (IntKind.i64.wrap (IntKind.u8.wrap (f1_Number - (IntKind.u8.wrap r0_next)))))] ∧ Hp S w0 w (Res.obj 31 v3 [.int .u8 f1_Kind, .int .u8 f1_Number, .bool f1_More, .string f1_Body] :: Res.obj 74 or0 [.int .i64 r0_window, .int .i64 r0_next, vr0_kept] :: Res.obj 31 v5 [.int .u8 (0 : Int), .int .u8 (0 : Int), .bool false, .string ByteArray.empty] :: Res.map (fun x : ByteArray => Value.string x) vr0_kept r0_kept :: ow)) (fun w' => ∃ l, Hp S82 w w' l) [] (by kernel_rfl) ?_
      refine dr_take 0 (optr v3 1) rfl (by kernel_rfl) (by kernel_rfl) (by kernel_rfl) (by kernel_rfl) rfl rfl hf (by decide) rfl (fun w hp => ?_) ⟨_, hp⟩ ?_
      · obtain ⟨_, hp⟩ := hp
        refine st_fa (o' := 1) hf (by decide) (off := 1) (sz := 1) (by kernel_rfl) (by decide) rfl rfl (rl88.ob hp) rfl ?_
        clear hf; intro a ha hf
        exact st_nil hf (th_n ⟨ha, rfl⟩)
      clear hf; intro a hf
      refine dr_take 1 (.int .u8 f1_Number) rfl (by kernel_rfl) (by kernel_rfl) (by kernel_rfl) (by kernel_rfl) rfl rfl hf (by decide) rfl (fun w hp => ?_) ⟨_, hp⟩ ?_
      · obtain ⟨_, hp⟩ := hp
        refine st_ldO (u := .int .u8 f1_Number) hf (by decide) pl5 rfl rfl (rl88.ob hp) rfl ?_
        clear hf; intro a ha hf
        exact st_nil hf (th_n ⟨ha, rfl⟩)
      clear hf; intro a hf
      refine dr_take 2 (or0) rfl (by kernel_rfl) (by kernel_rfl) (by kernel_rfl) (by kernel_rfl) rfl rfl hf (by decide) rfl (fun w hp => ?_) ⟨_, hp⟩ ?_
      · obtain ⟨_, hp⟩ := hp
        refine st_move hf rfl rfl (by decide) ?_
        clear hf; intro a ha hf
        exact st_nil hf (th_n ⟨ha, rfl⟩)
      clear hf; intro a hf
      refine dr_nilV 3 rfl (by kernel_rfl) (by kernel_rfl) (by kernel_rfl) hf (by decide) rfl rfl (rl87.ob hp) ?_
      clear hf; intro a hf
      refine dr_take 4 (optr or0 1) rfl (by kernel_rfl) (by kernel_rfl) (by kernel_rfl) (by kernel_rfl) rfl rfl hf (by decide) rfl (fun w hp => ?_) ⟨_, hp⟩ ?_
      · obtain ⟨_, hp⟩ := hp
        refine st_fa (o' := 1) hf (by decide) (off := 1) (sz := 1) (by kernel_rfl) (by decide) rfl rfl (rl87.ob hp) rfl ?_
        clear hf; intro a ha hf
        exact st_nil hf (th_n ⟨ha, rfl⟩)
      clear hf; intro a hf
      refine dr_take 5 (.int .i64 r0_next) rfl (by kernel_rfl) (by kernel_rfl) (by kernel_rfl) (by kernel_rfl) rfl rfl hf (by decide) rfl (fun w hp => ?_) ⟨_, hp⟩ ?_
      · obtain ⟨_, hp⟩ := hp
        refine st_ldO (u := .int .i64 r0_next) hf (by decide) pl3 rfl rfl (rl87.ob hp) rfl ?_
        clear hf; intro a ha hf
        exact st_nil hf (th_n ⟨ha, rfl⟩)
      clear hf; intro a hf
      refine dr_take 6 (.int .u8 (IntKind.u8.wrap r0_next)) rfl (by kernel_rfl) (by kernel_rfl) (by kernel_rfl) (by kernel_rfl) rfl rfl hf (by decide) rfl (fun w hp => ?_) ⟨_, hp⟩ ?_
      · obtain ⟨_, hp⟩ := hp
        refine st_conv_ii hf (by decide) (by rw [Try.underlying3]; rfl) Try.underlying5 rfl rfl ?_
        clear hf; intro a ha hf
        exact st_nil hf (th_n ⟨ha, rfl⟩)
      clear hf; intro a hf
      refine dr_take 7 (.int .u8 (IntKind.u8.wrap (f1_Number - (IntKind.u8.wrap r0_next)))) rfl (by kernel_rfl) (by kernel_rfl) (by kernel_rfl) (by kernel_rfl) rfl rfl hf (by decide) rfl (fun w hp => ?_) ⟨_, hp⟩ ?_
      · obtain ⟨_, hp⟩ := hp
        refine st_isub hf (by decide) rfl rfl rfl ?_
        clear hf; intro a ha hf
        exact st_nil hf (th_n ⟨ha, rfl⟩)
      clear hf; intro a hf
      refine dr_take 8 (.int .i64 (IntKind.i64.wrap (IntKind.u8.wrap (f1_Number - (IntKind.u8.wrap r0_next))))) rfl (by kernel_rfl) (by kernel_rfl) (by kernel_rfl) (by kernel_rfl) rfl rfl hf (by decide) rfl (fun w hp => ?_) ⟨_, hp⟩ ?_
      · obtain ⟨_, hp⟩ := hp
        refine st_conv_ii hf (by decide) (by rw [Try.underlying5]; rfl) Try.underlying3 rfl rfl ?_
        clear hf; intro a ha hf
        exact st_nil hf (th_n ⟨ha, rfl⟩)
      clear hf; intro a hf
      refine dr_take 9 (.int .i64 (IntKind.i64.wrap (IntKind.u8.wrap (f1_Number - (IntKind.u8.wrap r0_next))))) rfl (by kernel_rfl) (by kernel_rfl) (by kernel_rfl) (by kernel_rfl) rfl rfl hf (by decide) rfl (fun w hp => ?_) ⟨_, hp⟩ ?_
      · obtain ⟨_, hp⟩ := hp
        refine st_assign hf rfl rfl (by decide) ?_
        clear hf; intro a ha hf
        exact st_nil hf (th_n ⟨ha, rfl⟩)
      clear hf; intro a hf
      refine dr_end (by kernel_rfl) ?_ _
      have hp := bk86 _ _ hp
      have hp := bk81 _ _ hp
      exact ⟨hf.sub ⟨rfl, rfl, rfl, rfl, rfl, trivial⟩, hp⟩
    rintro a w ⟨hf, hp⟩
    refine th_n ?_
    refine wp_seq ?_
    refine wp_reg ?_
    refine st_move hf rfl rfl (by decide) ?_
    clear hf; intro a ha hf; clear ha
    refine st_move hf rfl rfl (by decide) ?_
    clear hf; intro a ha hf; clear ha
    refine st_nilV hf (by decide) rfl rfl (hp.ob (i := 1) rfl) ?_
    clear hf; intro a ha hf; clear ha
    refine st_fa (o' := 0) hf (by decide) (off := 0) (sz := 1) (by kernel_rfl) (by decide) rfl rfl (hp.ob (i := 1) rfl) rfl ?_
    clear hf; intro a ha hf; clear ha
    refine st_ldO (u := .int .i64 r0_window) hf (by decide) pl3 rfl rfl (hp.ob (i := 1) rfl) rfl ?_
    clear hf; intro a ha hf; clear ha
    refine st_ilss hf (by decide) rfl rfl rfl ?_
    clear hf; intro a ha hf; clear ha
    refine st_nil hf ?_
    refine th_n ?_
    refine wp_if hf rfl (fun hb => ?_) (fun hb => ?_)
    · replace h := ifT h hb
      refine wp_seq ?_
      obtain ⟨S89, hp90, rd91, up92, bk93⟩ := Hp.lendO hp (i := 1) rfl
      have rl94 := rd91
      refine wp_cutN (fun a w => Fr 147 a [(0, or0), (3, optr v3 0), (4, .slice none 0 0), (5, optr v5 0), (7, .int .i64 (IntKind.i64.wrap (IntKind.u8.wrap (f1_Number - (IntKind.u8.wrap r0_next))))), (9, .bool ((mget r0_kept (IntKind.i64.wrap (r0_next + (IntKind.i64.wrap (IntKind.u8.wrap (f1_Number - (IntKind.u8.wrap r0_next))))))).isSome))] ∧ Hp S w0 w (Res.obj 74 or0 [.int .i64 r0_window, .int .i64 r0_next, vr0_kept] :: Res.obj 31 v3 [.int .u8 f1_Kind, .int .u8 f1_Number, .bool f1_More, .string f1_Body] :: Res.obj 31 v5 [.int .u8 (0 : Int), .int .u8 (0 : Int), .bool false, .string ByteArray.empty] :: Res.map (fun x : ByteArray => Value.string x) vr0_kept r0_kept :: ow)) ?_ ?_
      · have hp := hp90.same (Same.drew w)
        refine dr_begin' (fun a w => Fr 147 a [(0, or0), (3, optr v3 0), (4, .slice none 0 0), (5, optr v5 0), (7, .int .i64 (IntKind.i64.wrap (IntKind.u8.wrap (f1_Number - (IntKind.u8.wrap r0_next))))), (9, .bool ((mget r0_kept (IntKind.i64.wrap (r0_next + (IntKind.i64.wrap (IntKind.u8.wrap (f1_Number - (IntKind.u8.wrap r0_next))))))).isSome))] ∧ Hp S w0 w (Res.obj 74 or0 [.int .i64 r0_window, .int .i64 r0_next, vr0_kept] :: Res.obj 31 v3 [.int .u8 f1_Kind, .int .u8 f1_Number, .bool f1_More, .string f1_Body] :: Res.obj 31 v5 [.int .u8 (0 : Int), .int .u8 (0 : Int), .bool false, .string ByteArray.empty] :: Res.map (fun x : ByteArray => Value.string x) vr0_kept r0_kept :: ow)) (fun w' => ∃ l, Hp S89 w w' l) [] (by kernel_rfl) ?_
        refine dr_take 0 (or0) rfl (by kernel_rfl) (by kernel_rfl) (by kernel_rfl) (by kernel_rfl) rfl rfl hf (by decide) rfl (fun w hp => ?_) ⟨_, hp⟩ ?_
        · obtain ⟨_, hp⟩ := hp
          refine st_move hf rfl rfl (by decide) ?_
          clear hf; intro a ha hf
          exact st_nil hf (th_n ⟨ha, rfl⟩)
        clear hf; intro a hf
        refine dr_nilV 1 rfl (by kernel_rfl) (by kernel_rfl) (by kernel_rfl) hf (by decide) rfl rfl (rl94.ob hp) ?_
        clear hf; intro a hf
        refine dr_take 2 (optr or0 2) rfl (by kernel_rfl) (by kernel_rfl) (by kernel_rfl) (by kernel_rfl) rfl rfl hf (by decide) rfl (fun w hp => ?_) ⟨_, hp⟩ ?_
        · obtain ⟨_, hp⟩ := hp
          refine st_fa (o' := 2) hf (by decide) (off := 2) (sz := 1) (by kernel_rfl) (by decide) rfl rfl (rl94.ob hp) rfl ?_
          clear hf; intro a ha hf
          exact st_nil hf (th_n ⟨ha, rfl⟩)
        clear hf; intro a hf
        refine dr_take 3 (vr0_kept) rfl (by kernel_rfl) (by kernel_rfl) (by kernel_rfl) (by kernel_rfl) rfl rfl hf (by decide) rfl (fun w hp => ?_) ⟨_, hp⟩ ?_
        · obtain ⟨_, hp⟩ := hp
          refine st_ldO (u := vr0_kept) hf (by decide) pl72 rfl rfl (rl94.ob hp) rfl ?_
          clear hf; intro a ha hf
          exact st_nil hf (th_n ⟨ha, rfl⟩)
        clear hf; intro a hf
        refine dr_take 4 (or0) rfl (by kernel_rfl) (by kernel_rfl) (by kernel_rfl) (by kernel_rfl) rfl rfl hf (by decide) rfl (fun w hp => ?_) ⟨_, hp⟩ ?_
        · obtain ⟨_, hp⟩ := hp
          refine st_move hf rfl rfl (by decide) ?_
          clear hf; intro a ha hf
          exact st_nil hf (th_n ⟨ha, rfl⟩)
        clear hf; intro a hf
        refine dr_nilV 5 rfl (by kernel_rfl) (by kernel_rfl) (by kernel_rfl) hf (by decide) rfl rfl (rl94.ob hp) ?_
        clear hf; intro a hf
        refine dr_take 6 (optr or0 1) rfl (by kernel_rfl) (by kernel_rfl) (by kernel_rfl) (by kernel_rfl) rfl rfl hf (by decide) rfl (fun w hp => ?_) ⟨_, hp⟩ ?_
        · obtain ⟨_, hp⟩ := hp
          refine st_fa (o' := 1) hf (by decide) (off := 1) (sz := 1) (by kernel_rfl) (by decide) rfl rfl (rl94.ob hp) rfl ?_
          clear hf; intro a ha hf
          exact st_nil hf (th_n ⟨ha, rfl⟩)
        clear hf; intro a hf
        refine dr_take 7 (.int .i64 r0_next) rfl (by kernel_rfl) (by kernel_rfl) (by kernel_rfl) (by kernel_rfl) rfl rfl hf (by decide) rfl (fun w hp => ?_) ⟨_, hp⟩ ?_
        · obtain ⟨_, hp⟩ := hp
          refine st_ldO (u := .int .i64 r0_next) hf (by decide) pl3 rfl rfl (rl94.ob hp) rfl ?_
          clear hf; intro a ha hf
          exact st_nil hf (th_n ⟨ha, rfl⟩)
        clear hf; intro a hf
        refine dr_take 8 (.int .i64 (IntKind.i64.wrap (IntKind.u8.wrap (f1_Number - (IntKind.u8.wrap r0_next))))) rfl (by kernel_rfl) (by kernel_rfl) (by kernel_rfl) (by kernel_rfl) rfl rfl hf (by decide) rfl (fun w hp => ?_) ⟨_, hp⟩ ?_
        · obtain ⟨_, hp⟩ := hp
          refine st_move hf rfl rfl (by decide) ?_
          clear hf; intro a ha hf
          exact st_nil hf (th_n ⟨ha, rfl⟩)
        clear hf; intro a hf
        refine dr_take 9 (.int .i64 (IntKind.i64.wrap (r0_next + (IntKind.i64.wrap (IntKind.u8.wrap (f1_Number - (IntKind.u8.wrap r0_next))))))) rfl (by kernel_rfl) (by kernel_rfl) (by kernel_rfl) (by kernel_rfl) rfl rfl hf (by decide) rfl (fun w hp => ?_) ⟨_, hp⟩ ?_
        · obtain ⟨_, hp⟩ := hp
          refine st_iadd hf (by decide) rfl rfl rfl ?_
          clear hf; intro a ha hf
          exact st_nil hf (th_n ⟨ha, rfl⟩)
        clear hf; intro a hf
        refine dr_one 10 rfl (by kernel_rfl) ?_
        refine st_lookup (enc := (fun x : ByteArray => Value.string x)) (z0 := ByteArray.empty) (ok := true) hf (by decide) Try.underlying72 Try.underlying3 (by kernel_rfl) hp (i := 2) rfl rfl rfl rfl ?_
        clear hf; intro a ha hf; clear ha
        replace hf : Fr _ _ ((59, .tuple #[.string ((mget r0_kept (IntKind.i64.wrap (r0_next + (IntKind.i64.wrap (IntKind.u8.wrap (f1_Number - (IntKind.u8.wrap r0_next))))))).getD ByteArray.empty), .bool ((mget r0_kept (IntKind.i64.wrap (r0_next + (IntKind.i64.wrap (IntKind.u8.wrap (f1_Number - (IntKind.u8.wrap r0_next))))))).isSome)]) :: _) := hf
        refine st_nil hf (th_n ⟨fun _ _ => ⟨_, hp⟩, ?_⟩)
        refine dr_take 11 (.tuple #[.string ((mget r0_kept (IntKind.i64.wrap (r0_next + (IntKind.i64.wrap (IntKind.u8.wrap (f1_Number - (IntKind.u8.wrap r0_next))))))).getD ByteArray.empty), .bool ((mget r0_kept (IntKind.i64.wrap (r0_next + (IntKind.i64.wrap (IntKind.u8.wrap (f1_Number - (IntKind.u8.wrap r0_next))))))).isSome)]) rfl (by kernel_rfl) (by kernel_rfl) (by kernel_rfl) (by kernel_rfl) rfl rfl hf (by decide) rfl (fun w hp => ?_) ⟨_, hp⟩ ?_
        · obtain ⟨_, hp⟩ := hp
          refine st_move hf rfl rfl (by decide) ?_
          clear hf; intro a ha hf
          exact st_nil hf (th_n ⟨ha, rfl⟩)
        clear hf; intro a hf
        refine dr_take 12 (.string ((mget r0_kept (IntKind.i64.wrap (r0_next + (IntKind.i64.wrap (IntKind.u8.wrap (f1_Number - (IntKind.u8.wrap r0_next))))))).getD ByteArray.empty)) rfl (by kernel_rfl) (by kernel_rfl) (by kernel_rfl) (by kernel_rfl) rfl rfl hf (by decide) rfl (fun w hp => ?_) ⟨_, hp⟩ ?_
        · obtain ⟨_, hp⟩ := hp
          refine st_extract hf (by decide) rfl rfl rfl ?_
          clear hf; intro a ha hf
          exact st_nil hf (th_n ⟨ha, rfl⟩)
        clear hf; intro a hf
        refine dr_take 13 (.bool ((mget r0_kept (IntKind.i64.wrap (r0_next + (IntKind.i64.wrap (IntKind.u8.wrap (f1_Number - (IntKind.u8.wrap r0_next))))))).isSome)) rfl (by kernel_rfl) (by kernel_rfl) (by kernel_rfl) (by kernel_rfl) rfl rfl hf (by decide) rfl (fun w hp => ?_) ⟨_, hp⟩ ?_
        · obtain ⟨_, hp⟩ := hp
          refine st_extract hf (by decide) rfl rfl rfl ?_
          clear hf; intro a ha hf
          exact st_nil hf (th_n ⟨ha, rfl⟩)
        clear hf; intro a hf
        refine dr_take 14 (.string ((mget r0_kept (IntKind.i64.wrap (r0_next + (IntKind.i64.wrap (IntKind.u8.wrap (f1_Number - (IntKind.u8.wrap r0_next))))))).getD ByteArray.empty)) rfl (by kernel_rfl) (by kernel_rfl) (by kernel_rfl) (by kernel_rfl) rfl rfl hf (by decide) rfl (fun w hp => ?_) ⟨_, hp⟩ ?_
        · obtain ⟨_, hp⟩ := hp
          refine st_assign hf rfl rfl (by decide) ?_
          clear hf; intro a ha hf
          exact st_nil hf (th_n ⟨ha, rfl⟩)
        clear hf; intro a hf
        refine dr_take 15 (.bool ((mget r0_kept (IntKind.i64.wrap (r0_next + (IntKind.i64.wrap (IntKind.u8.wrap (f1_Number - (IntKind.u8.wrap r0_next))))))).isSome)) rfl (by kernel_rfl) (by kernel_rfl) (by kernel_rfl) (by kernel_rfl) rfl rfl hf (by decide) rfl (fun w hp => ?_) ⟨_, hp⟩ ?_
        · obtain ⟨_, hp⟩ := hp
          refine st_assign hf rfl rfl (by decide) ?_
          clear hf; intro a ha hf
          exact st_nil hf (th_n ⟨ha, rfl⟩)
        clear hf; intro a hf
        refine dr_end (by kernel_rfl) ?_ _
        have hp := bk93 _ _ hp
        exact ⟨hf.sub ⟨rfl, rfl, rfl, rfl, rfl, rfl, trivial⟩, hp⟩
      rintro a w ⟨hf, hp⟩
      refine th_n ?_
      refine wp_seq ?_
      refine wp_reg ?_
      refine st_move hf rfl rfl (by decide) ?_
      clear hf; intro a ha hf; clear ha
      refine st_not hf (by decide) rfl rfl ?_
      clear hf; intro a ha hf; clear ha
      refine st_nil hf ?_
      refine th_n ?_
      refine wp_if hf rfl (fun hb => ?_) (fun hb => ?_)
      · replace h := ifT h hb
        obtain ⟨S95, hp96, rd97, up98, bk99⟩ := Hp.lendO hp (i := 0) rfl
        obtain ⟨S100, hp101, rd102, up103, bk104⟩ := Hp.lendO hp96 (i := 0) rfl
        have rl105 := ((rd97.now hp96).mono up103)
        have rl106 := rd102
        refine wp_cutN (fun a w => Fr 147 a [(0, or0), (4, .slice none 0 0), (5, optr v5 0)] ∧ Hp S w0 w (Res.obj 74 or0 [.int .i64 r0_window, .int .i64 r0_next, vr0_kept] :: Res.obj 31 v3 [.int .u8 f1_Kind, .int .u8 f1_Number, .bool f1_More, .string f1_Body] :: Res.obj 31 v5 [.int .u8 (0 : Int), .int .u8 (0 : Int), .bool false, .string ByteArray.empty] :: Res.map (fun x : ByteArray => Value.string x) vr0_kept (mput r0_kept (IntKind.i64.wrap (r0_next + (IntKind.i64.wrap (IntKind.u8.wrap (f1_Number - (IntKind.u8.wrap r0_next)))))) f1_Body) :: ow)) ?_ ?_
        · have hp := hp101.same (Same.drew w)
          refine dr_begin' (fun a w => Fr 147 a [(0, or0), (4, .slice none 0 0), (5, optr v5 0)] ∧ Hp S w0 w (Res.obj 74 or0 [.int .i64 r0_window, .int .i64 r0_next, vr0_kept] :: Res.obj 31 v3 [.int .u8 f1_Kind, .int .u8 f1_Number, .bool f1_More, .string f1_Body] :: Res.obj 31 v5 [.int .u8 (0 : Int), .int .u8 (0 : Int), .bool false, .string ByteArray.empty] :: Res.map (fun x : ByteArray => Value.string x) vr0_kept (mput r0_kept (IntKind.i64.wrap (r0_next + (IntKind.i64.wrap (IntKind.u8.wrap (f1_Number - (IntKind.u8.wrap r0_next)))))) f1_Body) :: ow)) (fun w' => ∃ l, Hp S100 w w' l) [] (by kernel_rfl) ?_
          refine dr_take 0 (or0) rfl (by kernel_rfl) (by kernel_rfl) (by kernel_rfl) (by kernel_rfl) rfl rfl hf (by decide) rfl (fun w hp => ?_) ⟨_, hp⟩ ?_
          · obtain ⟨_, hp⟩ := hp
            refine st_move hf rfl rfl (by decide) ?_
            clear hf; intro a ha hf
            exact st_nil hf (th_n ⟨ha, rfl⟩)
          clear hf; intro a hf
          refine dr_nilV 1 rfl (by kernel_rfl) (by kernel_rfl) (by kernel_rfl) hf (by decide) rfl rfl (rl105.ob hp) ?_
          clear hf; intro a hf
          refine dr_take 2 (optr or0 2) rfl (by kernel_rfl) (by kernel_rfl) (by kernel_rfl) (by kernel_rfl) rfl rfl hf (by decide) rfl (fun w hp => ?_) ⟨_, hp⟩ ?_
          · obtain ⟨_, hp⟩ := hp
            refine st_fa (o' := 2) hf (by decide) (off := 2) (sz := 1) (by kernel_rfl) (by decide) rfl rfl (rl105.ob hp) rfl ?_
            clear hf; intro a ha hf
            exact st_nil hf (th_n ⟨ha, rfl⟩)
          clear hf; intro a hf
          refine dr_take 3 (vr0_kept) rfl (by kernel_rfl) (by kernel_rfl) (by kernel_rfl) (by kernel_rfl) rfl rfl hf (by decide) rfl (fun w hp => ?_) ⟨_, hp⟩ ?_
          · obtain ⟨_, hp⟩ := hp
            refine st_ldO (u := vr0_kept) hf (by decide) pl72 rfl rfl (rl105.ob hp) rfl ?_
            clear hf; intro a ha hf
            exact st_nil hf (th_n ⟨ha, rfl⟩)
          clear hf; intro a hf
          refine dr_take 4 (or0) rfl (by kernel_rfl) (by kernel_rfl) (by kernel_rfl) (by kernel_rfl) rfl rfl hf (by decide) rfl (fun w hp => ?_) ⟨_, hp⟩ ?_
          · obtain ⟨_, hp⟩ := hp
            refine st_move hf rfl rfl (by decide) ?_
            clear hf; intro a ha hf
            exact st_nil hf (th_n ⟨ha, rfl⟩)
          clear hf; intro a hf
          refine dr_nilV 5 rfl (by kernel_rfl) (by kernel_rfl) (by kernel_rfl) hf (by decide) rfl rfl (rl105.ob hp) ?_
          clear hf; intro a hf
          refine dr_take 6 (optr or0 1) rfl (by kernel_rfl) (by kernel_rfl) (by kernel_rfl) (by kernel_rfl) rfl rfl hf (by decide) rfl (fun w hp => ?_) ⟨_, hp⟩ ?_
          · obtain ⟨_, hp⟩ := hp
            refine st_fa (o' := 1) hf (by decide) (off := 1) (sz := 1) (by kernel_rfl) (by decide) rfl rfl (rl105.ob hp) rfl ?_
            clear hf; intro a ha hf
            exact st_nil hf (th_n ⟨ha, rfl⟩)
          clear hf; intro a hf
          refine dr_take 7 (.int .i64 r0_next) rfl (by kernel_rfl) (by kernel_rfl) (by kernel_rfl) (by kernel_rfl) rfl rfl hf (by decide) rfl (fun w hp => ?_) ⟨_, hp⟩ ?_
          · obtain ⟨_, hp⟩ := hp
            refine st_ldO (u := .int .i64 r0_next) hf (by decide) pl3 rfl rfl (rl105.ob hp) rfl ?_
            clear hf; intro a ha hf
            exact st_nil hf (th_n ⟨ha, rfl⟩)
          clear hf; intro a hf
          refine dr_take 8 (.int .i64 (IntKind.i64.wrap (IntKind.u8.wrap (f1_Number - (IntKind.u8.wrap r0_next))))) rfl (by kernel_rfl) (by kernel_rfl) (by kernel_rfl) (by kernel_rfl) rfl rfl hf (by decide) rfl (fun w hp => ?_) ⟨_, hp⟩ ?_
          · obtain ⟨_, hp⟩ := hp
            refine st_move hf rfl rfl (by decide) ?_
            clear hf; intro a ha hf
            exact st_nil hf (th_n ⟨ha, rfl⟩)
          clear hf; intro a hf
          refine dr_take 9 (.int .i64 (IntKind.i64.wrap (r0_next + (IntKind.i64.wrap (IntKind.u8.wrap (f1_Number - (IntKind.u8.wrap r0_next))))))) rfl (by kernel_rfl) (by kernel_rfl) (by kernel_rfl) (by kernel_rfl) rfl rfl hf (by decide) rfl (fun w hp => ?_) ⟨_, hp⟩ ?_
          · obtain ⟨_, hp⟩ := hp
            refine st_iadd hf (by decide) rfl rfl rfl ?_
            clear hf; intro a ha hf
            exact st_nil hf (th_n ⟨ha, rfl⟩)
          clear hf; intro a hf
          refine dr_take 10 (optr v3 3) rfl (by kernel_rfl) (by kernel_rfl) (by kernel_rfl) (by kernel_rfl) rfl rfl hf (by decide) rfl (fun w hp => ?_) ⟨_, hp⟩ ?_
          · obtain ⟨_, hp⟩ := hp
            refine st_fa (o' := 3) hf (by decide) (off := 3) (sz := 1) (by kernel_rfl) (by decide) rfl rfl (rl106.ob hp) rfl ?_
            clear hf; intro a ha hf
            exact st_nil hf (th_n ⟨ha, rfl⟩)
          clear hf; intro a hf
          refine dr_take 11 (.string f1_Body) rfl (by kernel_rfl) (by kernel_rfl) (by kernel_rfl) (by kernel_rfl) rfl rfl hf (by decide) rfl (fun w hp => ?_) ⟨_, hp⟩ ?_
          · obtain ⟨_, hp⟩ := hp
            refine st_ldO (u := .string f1_Body) hf (by decide) pl9 rfl rfl (rl106.ob hp) rfl ?_
            clear hf; intro a ha hf
            exact st_nil hf (th_n ⟨ha, rfl⟩)
          clear hf; intro a hf
          refine dr_one 12 rfl (by kernel_rfl) ?_
          refine st_mapPut (enc := (fun x : ByteArray => Value.string x)) (b := f1_Body) hf Try.underlying72 Try.underlying3 hp (i := 1) rfl rfl rfl rfl rfl ?_
          clear hf; intro a w hf hp0; clear hp; have hp := hp0; clear hp0
          replace hp : Hp _ _ _ (Res.obj 31 v5 [.int .u8 (0 : Int), .int .u8 (0 : Int), .bool false, .string ByteArray.empty] :: Res.map (fun x : ByteArray => Value.string x) vr0_kept (mput r0_kept (IntKind.i64.wrap (r0_next + (IntKind.i64.wrap (IntKind.u8.wrap (f1_Number - (IntKind.u8.wrap r0_next)))))) f1_Body) :: ow) := hp
          refine st_nil hf (th_n ⟨fun _ _ => ⟨_, hp⟩, ?_⟩)
          refine dr_end (by kernel_rfl) ?_ _
          have hp := bk104 _ _ hp
          have hp := bk99 _ _ hp
          exact ⟨hf.sub ⟨rfl, rfl, rfl, trivial⟩, hp⟩
        rintro a w ⟨hf, hp⟩
        have hp : Hp _ _ _ (Res.map (fun x : ByteArray => Value.string x) vr0_kept (mput r0_kept (IntKind.i64.wrap (r0_next + (IntKind.i64.wrap (IntKind.u8.wrap (f1_Number - (IntKind.u8.wrap r0_next)))))) f1_Body) :: Res.obj 74 or0 [.int .i64 r0_window, .int .i64 r0_next, vr0_kept] :: Res.obj 31 v5 [.int .u8 (0 : Int), .int .u8 (0 : Int), .bool false, .string ByteArray.empty] :: ow) := Hp.sel (pre := [Res.obj 74 or0 [.int .i64 r0_window, .int .i64 r0_next, vr0_kept], Res.obj 31 v3 [.int .u8 f1_Kind, .int .u8 f1_Number, .bool f1_More, .string f1_Body], Res.obj 31 v5 [.int .u8 (0 : Int), .int .u8 (0 : Int), .bool false, .string ByteArray.empty], Res.map (fun x : ByteArray => Value.string x) vr0_kept (mput r0_kept (IntKind.i64.wrap (r0_next + (IntKind.i64.wrap (IntKind.u8.wrap (f1_Number - (IntKind.u8.wrap r0_next)))))) f1_Body)]) (tail := ow) (rs' := [Res.map (fun x : ByteArray => Value.string x) vr0_kept (mput r0_kept (IntKind.i64.wrap (r0_next + (IntKind.i64.wrap (IntKind.u8.wrap (f1_Number - (IntKind.u8.wrap r0_next)))))) f1_Body), Res.obj 74 or0 [.int .i64 r0_window, .int .i64 r0_next, vr0_kept], Res.obj 31 v5 [.int .u8 (0 : Int), .int .u8 (0 : Int), .bool false, .string ByteArray.empty]]) hp [3, 0, 2] (by decide) (by simp) rfl
        refine th_n ?_
        exact ⟨_, _, _, _, h, hf.sub ⟨rfl, rfl, rfl, trivial⟩, hp⟩
      replace h := ifF h hb
      refine wp_skip ?_
      have hp : Hp _ _ _ (Res.map (fun x : ByteArray => Value.string x) vr0_kept r0_kept :: Res.obj 74 or0 [.int .i64 r0_window, .int .i64 r0_next, vr0_kept] :: Res.obj 31 v5 [.int .u8 (0 : Int), .int .u8 (0 : Int), .bool false, .string ByteArray.empty] :: ow) := Hp.sel (pre := [Res.obj 74 or0 [.int .i64 r0_window, .int .i64 r0_next, vr0_kept], Res.obj 31 v3 [.int .u8 f1_Kind, .int .u8 f1_Number, .bool f1_More, .string f1_Body], Res.obj 31 v5 [.int .u8 (0 : Int), .int .u8 (0 : Int), .bool false, .string ByteArray.empty], Res.map (fun x : ByteArray => Value.string x) vr0_kept r0_kept]) (tail := ow) (rs' := [Res.map (fun x : ByteArray => Value.string x) vr0_kept r0_kept, Res.obj 74 or0 [.int .i64 r0_window, .int .i64 r0_next, vr0_kept], Res.obj 31 v5 [.int .u8 (0 : Int), .int .u8 (0 : Int), .bool false, .string ByteArray.empty]]) hp [3, 0, 2] (by decide) (by simp) rfl
      refine th_n ?_
      exact ⟨_, _, _, _, h, hf.sub ⟨rfl, rfl, rfl, trivial⟩, hp⟩
    replace h := ifF h hb
    refine wp_skip ?_
    have hp : Hp _ _ _ (Res.map (fun x : ByteArray => Value.string x) vr0_kept r0_kept :: Res.obj 74 or0 [.int .i64 r0_window, .int .i64 r0_next, vr0_kept] :: Res.obj 31 v5 [.int .u8 (0 : Int), .int .u8 (0 : Int), .bool false, .string ByteArray.empty] :: ow) := Hp.sel (pre := [Res.obj 31 v3 [.int .u8 f1_Kind, .int .u8 f1_Number, .bool f1_More, .string f1_Body], Res.obj 74 or0 [.int .i64 r0_window, .int .i64 r0_next, vr0_kept], Res.obj 31 v5 [.int .u8 (0 : Int), .int .u8 (0 : Int), .bool false, .string ByteArray.empty], Res.map (fun x : ByteArray => Value.string x) vr0_kept r0_kept]) (tail := ow) (rs' := [Res.map (fun x : ByteArray => Value.string x) vr0_kept r0_kept, Res.obj 74 or0 [.int .i64 r0_window, .int .i64 r0_next, vr0_kept], Res.obj 31 v5 [.int .u8 (0 : Int), .int .u8 (0 : Int), .bool false, .string ByteArray.empty]]) hp [3, 1, 2] (by decide) (by simp) rfl
    refine th_n ?_
    exact ⟨_, _, _, _, h, hf.sub ⟨rfl, rfl, rfl, trivial⟩, hp⟩
  rintro a w ⟨r0c_0, r0c_1, r0c_2, v12, h, hf, hp⟩
  unfold f_again_Receiver_Take.j1 at h
  refine wp_seq ?_
  refine wp_block ?_
  obtain ⟨q41, hl, h⟩ := bnd h
  have hp := hp.nil Ek.str 9
  have hp : Hp _ _ _ (Res.map (fun x : ByteArray => Value.string x) v12 r0c_2 :: Res.obj 74 or0 [.int .i64 r0c_0, .int .i64 r0c_1, v12] :: Res.sl Ek.str 9 (.slice none 0 0) ([]) :: Res.obj 31 v5 [.int .u8 (0 : Int), .int .u8 (0 : Int), .bool false, .string ByteArray.empty] :: ow) := Hp.sel (pre := [Res.sl Ek.str 9 (.slice none 0 0) ([]), Res.map (fun x : ByteArray => Value.string x) v12 r0c_2, Res.obj 74 or0 [.int .i64 r0c_0, .int .i64 r0c_1, v12], Res.obj 31 v5 [.int .u8 (0 : Int), .int .u8 (0 : Int), .bool false, .string ByteArray.empty]]) (tail := ow) (rs' := [Res.map (fun x : ByteArray => Value.string x) v12 r0c_2, Res.obj 74 or0 [.int .i64 r0c_0, .int .i64 r0c_1, v12], Res.sl Ek.str 9 (.slice none 0 0) ([]), Res.obj 31 v5 [.int .u8 (0 : Int), .int .u8 (0 : Int), .bool false, .string ByteArray.empty]]) hp [1, 2, 0, 3] (by decide) (by simp) rfl
  refine wp_loop_pure (f := f_again_Receiver_Take.s1) (s := (r0c_0, r0c_1, r0c_2, [])) (fun s a w => ∃ (v15 : Value) (v18 : Value), Fr 147 a [(0, or0), (4, v18), (5, optr v5 0)] ∧ Hp S w0 w (Res.map (fun x : ByteArray => Value.string x) v15 s.2.2.1 :: Res.obj 74 or0 [.int .i64 s.1, .int .i64 s.2.1, v15] :: Res.sl Ek.str 9 v18 s.2.2.2 :: Res.obj 31 v5 [.int .u8 (0 : Int), .int .u8 (0 : Int), .bool false, .string ByteArray.empty] :: ow)) (fun q e a w => e = .exit 0 ∧ ∃ (v20 : Value) (v23 : Value), Fr 147 a [(0, or0), (4, v23), (5, optr v5 0)] ∧ Hp S w0 w (Res.map (fun x : ByteArray => Value.string x) v20 q.2.2.1 :: Res.obj 74 or0 [.int .i64 q.1, .int .i64 q.2.1, v20] :: Res.sl Ek.str 9 v23 q.2.2.2 :: Res.obj 31 v5 [.int .u8 (0 : Int), .int .u8 (0 : Int), .bool false, .string ByteArray.empty] :: ow)) ?_ hl ⟨_, _, hf.sub ⟨rfl, rfl, rfl, trivial⟩, hp⟩ ?_
  · clear hl hf hp
    intro s x a w h hI
    obtain ⟨r0c_0, r0c_1, r0c_2, handed4⟩ := s
    obtain ⟨v15, v18, hf, hp⟩ : ∃ (v15 : Value) (v18 : Value), Fr 147 a [(0, or0), (4, v18), (5, optr v5 0)] ∧ Hp S w0 w (Res.map (fun x : ByteArray => Value.string x) v15 r0c_2 :: Res.obj 74 or0 [.int .i64 r0c_0, .int .i64 r0c_1, v15] :: Res.sl Ek.str 9 v18 handed4 :: Res.obj 31 v5 [.int .u8 (0 : Int), .int .u8 (0 : Int), .bool false, .string ByteArray.empty] :: ow) := hI
    replace h : f_again_Receiver_Take.s1c r0c_0 r0c_1 r0c_2 handed4 = some x := h
    unfold f_again_Receiver_Take.s1c at h
    refine wp_block ?_
    refine wp_seq ?_
    obtain ⟨S25, hp26, rd27, up28, bk29⟩ := Hp.lendO hp (i := 1) rfl
    have rl30 := rd27
    refine wp_cutN (fun a w => Fr 147 a [(0, or0), (4, v18), (5, optr v5 0), (10, .string ((mget r0c_2 r0c_1).getD ByteArray.empty)), (11, .bool ((mget r0c_2 r0c_1).isSome))] ∧ Hp S w0 w (Res.obj 74 or0 [.int .i64 r0c_0, .int .i64 r0c_1, v15] :: Res.map (fun x : ByteArray => Value.string x) v15 r0c_2 :: Res.sl Ek.str 9 v18 handed4 :: Res.obj 31 v5 [.int .u8 (0 : Int), .int .u8 (0 : Int), .bool false, .string ByteArray.empty] :: ow)) ?_ ?_
    · have hp := hp26.same (Same.drew w)
      refine dr_begin' (fun a w => Fr 147 a [(0, or0), (4, v18), (5, optr v5 0), (10, .string ((mget r0c_2 r0c_1).getD ByteArray.empty)), (11, .bool ((mget r0c_2 r0c_1).isSome))] ∧ Hp S w0 w (Res.obj 74 or0 [.int .i64 r0c_0, .int .i64 r0c_1, v15] :: Res.map (fun x : ByteArray => Value.string x) v15 r0c_2 :: Res.sl Ek.str 9 v18 handed4 :: Res.obj 31 v5 [.int .u8 (0 : Int), .int .u8 (0 : Int), .bool false, .string ByteArray.empty] :: ow)) (fun w' => ∃ l, Hp S25 w w' l) [] (by kernel_rfl) ?_
      refine dr_take 0 (or0) rfl (by kernel_rfl) (by kernel_rfl) (by kernel_rfl) (by kernel_rfl) rfl rfl hf (by decide) rfl (fun w hp => ?_) ⟨_, hp⟩ ?_
      · obtain ⟨_, hp⟩ := hp
        refine st_move hf rfl rfl (by decide) ?_
        clear hf; intro a ha hf
        exact st_nil hf (th_n ⟨ha, rfl⟩)
      clear hf; intro a hf
      refine dr_nilV 1 rfl (by kernel_rfl) (by kernel_rfl) (by kernel_rfl) hf (by decide) rfl rfl (rl30.ob hp) ?_
      clear hf; intro a hf
      refine dr_take 2 (optr or0 2) rfl (by kernel_rfl) (by kernel_rfl) (by kernel_rfl) (by kernel_rfl) rfl rfl hf (by decide) rfl (fun w hp => ?_) ⟨_, hp⟩ ?_
      · obtain ⟨_, hp⟩ := hp
        refine st_fa (o' := 2) hf (by decide) (off := 2) (sz := 1) (by kernel_rfl) (by decide) rfl rfl (rl30.ob hp) rfl ?_
        clear hf; intro a ha hf
        exact st_nil hf (th_n ⟨ha, rfl⟩)
      clear hf; intro a hf
      refine dr_take 3 (v15) rfl (by kernel_rfl) (by kernel_rfl) (by kernel_rfl) (by kernel_rfl) rfl rfl hf (by decide) rfl (fun w hp => ?_) ⟨_, hp⟩ ?_
      · obtain ⟨_, hp⟩ := hp
        refine st_ldO (u := v15) hf (by decide) pl72 rfl rfl (rl30.ob hp) rfl ?_
        clear hf; intro a ha hf
        exact st_nil hf (th_n ⟨ha, rfl⟩)
      clear hf; intro a hf
      refine dr_take 4 (or0) rfl (by kernel_rfl) (by kernel_rfl) (by kernel_rfl) (by kernel_rfl) rfl rfl hf (by decide) rfl (fun w hp => ?_) ⟨_, hp⟩ ?_
      · obtain ⟨_, hp⟩ := hp
        refine st_move hf rfl rfl (by decide) ?_
        clear hf; intro a ha hf
        exact st_nil hf (th_n ⟨ha, rfl⟩)
      clear hf; intro a hf
      refine dr_nilV 5 rfl (by kernel_rfl) (by kernel_rfl) (by kernel_rfl) hf (by decide) rfl rfl (rl30.ob hp) ?_
      clear hf; intro a hf
      refine dr_take 6 (optr or0 1) rfl (by kernel_rfl) (by kernel_rfl) (by kernel_rfl) (by kernel_rfl) rfl rfl hf (by decide) rfl (fun w hp => ?_) ⟨_, hp⟩ ?_
      · obtain ⟨_, hp⟩ := hp
        refine st_fa (o' := 1) hf (by decide) (off := 1) (sz := 1) (by kernel_rfl) (by decide) rfl rfl (rl30.ob hp) rfl ?_
        clear hf; intro a ha hf
        exact st_nil hf (th_n ⟨ha, rfl⟩)
      clear hf; intro a hf
      refine dr_take 7 (.int .i64 r0c_1) rfl (by kernel_rfl) (by kernel_rfl) (by kernel_rfl) (by kernel_rfl) rfl rfl hf (by decide) rfl (fun w hp => ?_) ⟨_, hp⟩ ?_
      · obtain ⟨_, hp⟩ := hp
        refine st_ldO (u := .int .i64 r0c_1) hf (by decide) pl3 rfl rfl (rl30.ob hp) rfl ?_
        clear hf; intro a ha hf
        exact st_nil hf (th_n ⟨ha, rfl⟩)
      clear hf; intro a hf
      refine dr_one 8 rfl (by kernel_rfl) ?_
      refine st_lookup (enc := (fun x : ByteArray => Value.string x)) (z0 := ByteArray.empty) (ok := true) hf (by decide) Try.underlying72 Try.underlying3 (by kernel_rfl) hp (i := 0) rfl rfl rfl rfl ?_
      clear hf; intro a ha hf; clear ha
      replace hf : Fr _ _ ((85, .tuple #[.string ((mget r0c_2 r0c_1).getD ByteArray.empty), .bool ((mget r0c_2 r0c_1).isSome)]) :: _) := hf
      refine st_nil hf (th_n ⟨fun _ _ => ⟨_, hp⟩, ?_⟩)
      refine dr_take 9 (.tuple #[.string ((mget r0c_2 r0c_1).getD ByteArray.empty), .bool ((mget r0c_2 r0c_1).isSome)]) rfl (by kernel_rfl) (by kernel_rfl) (by kernel_rfl) (by kernel_rfl) rfl rfl hf (by decide) rfl (fun w hp => ?_) ⟨_, hp⟩ ?_
      · obtain ⟨_, hp⟩ := hp
        refine st_move hf rfl rfl (by decide) ?_
        clear hf; intro a ha hf
        exact st_nil hf (th_n ⟨ha, rfl⟩)
      clear hf; intro a hf
      refine dr_take 10 (.string ((mget r0c_2 r0c_1).getD ByteArray.empty)) rfl (by kernel_rfl) (by kernel_rfl) (by kernel_rfl) (by kernel_rfl) rfl rfl hf (by decide) rfl (fun w hp => ?_) ⟨_, hp⟩ ?_
      · obtain ⟨_, hp⟩ := hp
        refine st_extract hf (by decide) rfl rfl rfl ?_
        clear hf; intro a ha hf
        exact st_nil hf (th_n ⟨ha, rfl⟩)
      clear hf; intro a hf
      refine dr_take 11 (.bool ((mget r0c_2 r0c_1).isSome)) rfl (by kernel_rfl) (by kernel_rfl) (by kernel_rfl) (by kernel_rfl) rfl rfl hf (by decide) rfl (fun w hp => ?_) ⟨_, hp⟩ ?_
      · obtain ⟨_, hp⟩ := hp
        refine st_extract hf (by decide) rfl rfl rfl ?_
        clear hf; intro a ha hf
        exact st_nil hf (th_n ⟨ha, rfl⟩)
      clear hf; intro a hf
      refine dr_take 12 (.string ((mget r0c_2 r0c_1).getD ByteArray.empty)) rfl (by kernel_rfl) (by kernel_rfl) (by kernel_rfl) (by kernel_rfl) rfl rfl hf (by decide) rfl (fun w hp => ?_) ⟨_, hp⟩ ?_
      · obtain ⟨_, hp⟩ := hp
        refine st_assign hf rfl rfl (by decide) ?_
        clear hf; intro a ha hf
        exact st_nil hf (th_n ⟨ha, rfl⟩)
      clear hf; intro a hf
      refine dr_take 13 (.bool ((mget r0c_2 r0c_1).isSome)) rfl (by kernel_rfl) (by kernel_rfl) (by kernel_rfl) (by kernel_rfl) rfl rfl hf (by decide) rfl (fun w hp => ?_) ⟨_, hp⟩ ?_
      · obtain ⟨_, hp⟩ := hp
        refine st_assign hf rfl rfl (by decide) ?_
        clear hf; intro a ha hf
        exact st_nil hf (th_n ⟨ha, rfl⟩)
      clear hf; intro a hf
      refine dr_end (by kernel_rfl) ?_ _
      have hp := bk29 _ _ hp
      exact ⟨hf.sub ⟨rfl, rfl, rfl, rfl, rfl, trivial⟩, hp⟩
    rintro a w ⟨hf, hp⟩
    refine th_n ?_
    refine wp_seq ?_
    refine wp_seq ?_
    refine wp_reg ?_
    refine st_move hf rfl rfl (by decide) ?_
    clear hf; intro a ha hf; clear ha
    refine st_not hf (by decide) rfl rfl ?_
    clear hf; intro a ha hf; clear ha
    refine st_nil hf ?_
    refine th_n ?_
    refine wp_if hf rfl (fun hb => ?_) (fun hb => ?_)
    · replace h := ifT h hb
      refine wp_exit ?_
      refine th_e ?_
      refine ib_ne rfl ?_
      obtain rfl := Option.some.inj h
      have hp : Hp _ _ _ (Res.map (fun x : ByteArray => Value.string x) v15 r0c_2 :: Res.obj 74 or0 [.int .i64 r0c_0, .int .i64 r0c_1, v15] :: Res.sl Ek.str 9 v18 handed4 :: Res.obj 31 v5 [.int .u8 (0 : Int), .int .u8 (0 : Int), .bool false, .string ByteArray.empty] :: ow) := Hp.sel (pre := [Res.obj 74 or0 [.int .i64 r0c_0, .int .i64 r0c_1, v15], Res.map (fun x : ByteArray => Value.string x) v15 r0c_2, Res.sl Ek.str 9 v18 handed4, Res.obj 31 v5 [.int .u8 (0 : Int), .int .u8 (0 : Int), .bool false, .string ByteArray.empty]]) (tail := ow) (rs' := [Res.map (fun x : ByteArray => Value.string x) v15 r0c_2, Res.obj 74 or0 [.int .i64 r0c_0, .int .i64 r0c_1, v15], Res.sl Ek.str 9 v18 handed4, Res.obj 31 v5 [.int .u8 (0 : Int), .int .u8 (0 : Int), .bool false, .string ByteArray.empty]]) hp [1, 0, 2, 3] (by decide) (by simp) rfl
      exact rnd_r (by simp) ⟨rfl, _, _, hf.sub ⟨rfl, rfl, rfl, trivial⟩, hp⟩
    replace h := ifF h hb
    refine wp_skip ?_
    refine th_n ?_
    refine wp_seq ?_
    obtain ⟨S31, hp32, rd33, up34, bk35⟩ := Hp.lendO hp (i := 0) rfl
    have rl36 := rd33
    refine wp_cutN (fun a w => Fr 147 a [(0, or0), (4, v18), (5, optr v5 0), (10, .string ((mget r0c_2 r0c_1).getD ByteArray.empty))] ∧ Hp S w0 w (Res.obj 74 or0 [.int .i64 r0c_0, .int .i64 r0c_1, v15] :: Res.map (fun x : ByteArray => Value.string x) v15 (mdel r0c_2 r0c_1) :: Res.sl Ek.str 9 v18 handed4 :: Res.obj 31 v5 [.int .u8 (0 : Int), .int .u8 (0 : Int), .bool false, .string ByteArray.empty] :: ow)) ?_ ?_
    · have hp := hp32.same (Same.drew w)
      refine dr_begin' (fun a w => Fr 147 a [(0, or0), (4, v18), (5, optr v5 0), (10, .string ((mget r0c_2 r0c_1).getD ByteArray.empty))] ∧ Hp S w0 w (Res.obj 74 or0 [.int .i64 r0c_0, .int .i64 r0c_1, v15] :: Res.map (fun x : ByteArray => Value.string x) v15 (mdel r0c_2 r0c_1) :: Res.sl Ek.str 9 v18 handed4 :: Res.obj 31 v5 [.int .u8 (0 : Int), .int .u8 (0 : Int), .bool false, .string ByteArray.empty] :: ow)) (fun w' => ∃ l, Hp S31 w w' l) [] (by kernel_rfl) ?_
      refine dr_take 0 (or0) rfl (by kernel_rfl) (by kernel_rfl) (by kernel_rfl) (by kernel_rfl) rfl rfl hf (by decide) rfl (fun w hp => ?_) ⟨_, hp⟩ ?_
      · obtain ⟨_, hp⟩ := hp
        refine st_move hf rfl rfl (by decide) ?_
        clear hf; intro a ha hf
        exact st_nil hf (th_n ⟨ha, rfl⟩)
      clear hf; intro a hf
      refine dr_nilV 1 rfl (by kernel_rfl) (by kernel_rfl) (by kernel_rfl) hf (by decide) rfl rfl (rl36.ob hp) ?_
      clear hf; intro a hf
      refine dr_take 2 (optr or0 2) rfl (by kernel_rfl) (by kernel_rfl) (by kernel_rfl) (by kernel_rfl) rfl rfl hf (by decide) rfl (fun w hp => ?_) ⟨_, hp⟩ ?_
      · obtain ⟨_, hp⟩ := hp
        refine st_fa (o' := 2) hf (by decide) (off := 2) (sz := 1) (by kernel_rfl) (by decide) rfl rfl (rl36.ob hp) rfl ?_
        clear hf; intro a ha hf
        exact st_nil hf (th_n ⟨ha, rfl⟩)
      clear hf; intro a hf
      refine dr_take 3 (v15) rfl (by kernel_rfl) (by kernel_rfl) (by kernel_rfl) (by kernel_rfl) rfl rfl hf (by decide) rfl (fun w hp => ?_) ⟨_, hp⟩ ?_
      · obtain ⟨_, hp⟩ := hp
        refine st_ldO (u := v15) hf (by decide) pl72 rfl rfl (rl36.ob hp) rfl ?_
        clear hf; intro a ha hf
        exact st_nil hf (th_n ⟨ha, rfl⟩)
      clear hf; intro a hf
      refine dr_take 4 (or0) rfl (by kernel_rfl) (by kernel_rfl) (by kernel_rfl) (by kernel_rfl) rfl rfl hf (by decide) rfl (fun w hp => ?_) ⟨_, hp⟩ ?_
      · obtain ⟨_, hp⟩ := hp
        refine st_move hf rfl rfl (by decide) ?_
        clear hf; intro a ha hf
        exact st_nil hf (th_n ⟨ha, rfl⟩)
      clear hf; intro a hf
      refine dr_nilV 5 rfl (by kernel_rfl) (by kernel_rfl) (by kernel_rfl) hf (by decide) rfl rfl (rl36.ob hp) ?_
      clear hf; intro a hf
      refine dr_take 6 (optr or0 1) rfl (by kernel_rfl) (by kernel_rfl) (by kernel_rfl) (by kernel_rfl) rfl rfl hf (by decide) rfl (fun w hp => ?_) ⟨_, hp⟩ ?_
      · obtain ⟨_, hp⟩ := hp
        refine st_fa (o' := 1) hf (by decide) (off := 1) (sz := 1) (by kernel_rfl) (by decide) rfl rfl (rl36.ob hp) rfl ?_
        clear hf; intro a ha hf
        exact st_nil hf (th_n ⟨ha, rfl⟩)
      clear hf; intro a hf
      refine dr_take 7 (.int .i64 r0c_1) rfl (by kernel_rfl) (by kernel_rfl) (by kernel_rfl) (by kernel_rfl) rfl rfl hf (by decide) rfl (fun w hp => ?_) ⟨_, hp⟩ ?_
      · obtain ⟨_, hp⟩ := hp
        refine st_ldO (u := .int .i64 r0c_1) hf (by decide) pl3 rfl rfl (rl36.ob hp) rfl ?_
        clear hf; intro a ha hf
        exact st_nil hf (th_n ⟨ha, rfl⟩)
      clear hf; intro a hf
      refine dr_one 8 rfl (by kernel_rfl) ?_
      refine st_mapDel (enc := (fun x : ByteArray => Value.string x)) hf Try.underlying72 Try.underlying3 hp (i := 0) rfl rfl rfl rfl ?_
      clear hf; intro a w hf hp0; clear hp; have hp := hp0; clear hp0
      replace hp : Hp _ _ _ (Res.map (fun x : ByteArray => Value.string x) v15 (mdel r0c_2 r0c_1) :: Res.sl Ek.str 9 v18 handed4 :: Res.obj 31 v5 [.int .u8 (0 : Int), .int .u8 (0 : Int), .bool false, .string ByteArray.empty] :: ow) := hp
      refine st_nil hf (th_n ⟨fun _ _ => ⟨_, hp⟩, ?_⟩)
      refine dr_end (by kernel_rfl) ?_ _
      have hp := bk35 _ _ hp
      exact ⟨hf.sub ⟨rfl, rfl, rfl, rfl, trivial⟩, hp⟩
    rintro a w ⟨hf, hp⟩
    refine th_n ?_
    refine wp_seq ?_
    refine wp_reg ?_
    refine st_move hf rfl rfl (by decide) ?_
    clear hf; intro a ha hf; clear ha
    refine st_move hf rfl rfl (by decide) ?_
    clear hf; intro a ha hf; clear ha
    refine st_build (E := Ek.str) (xs := [((mget r0c_2 r0c_1).getD ByteArray.empty)]) hf (by decide) elt9 Try.underlying35 hp (vals := #[(0, .string ((mget r0c_2 r0c_1).getD ByteArray.empty))]) (cells := #[.string ((mget r0c_2 r0c_1).getD ByteArray.empty)]) rfl (by simp [hf.ev (x := (Operand.tmp 99)) rfl]) (by decide) (by decide) (z := .string ByteArray.empty) (by kernel_rfl) (by kernel_rfl) rfl (reps_cons (cs := [.string ((mget r0c_2 r0c_1).getD ByteArray.empty)]) rfl (reps_nil _)) ?_
    clear hf; intro a w v37 hf hp0; clear hp; have hp := hp0; clear hp0
    replace hp : Hp _ _ _ (Res.sl Ek.str 9 v37 ([((mget r0c_2 r0c_1).getD ByteArray.empty)]) :: Res.obj 74 or0 [.int .i64 r0c_0, .int .i64 r0c_1, v15] :: Res.map (fun x : ByteArray => Value.string x) v15 (mdel r0c_2 r0c_1) :: Res.sl Ek.str 9 v18 handed4 :: Res.obj 31 v5 [.int .u8 (0 : Int), .int .u8 (0 : Int), .bool false, .string ByteArray.empty] :: ow) := hp
    obtain ⟨hc39, h⟩ := chk h
    refine st_append (E := Ek.str) hf (by decide) elt9 Try.underlying35 (by decide) hp (i := 3) rfl rfl rfl rfl (hp.sl (i := 0) rfl) hc39 ?_
    clear hf; intro a w v40 hf hp0; clear hp; have hp := hp0; clear hp0
    replace hp : Hp _ _ _ (Res.sl Ek.str 9 v37 ([((mget r0c_2 r0c_1).getD ByteArray.empty)]) :: Res.obj 74 or0 [.int .i64 r0c_0, .int .i64 r0c_1, v15] :: Res.map (fun x : ByteArray => Value.string x) v15 (mdel r0c_2 r0c_1) :: Res.sl Ek.str 9 v40 (handed4 ++ [((mget r0c_2 r0c_1).getD ByteArray.empty)]) :: Res.obj 31 v5 [.int .u8 (0 : Int), .int .u8 (0 : Int), .bool false, .string ByteArray.empty] :: ow) := hp
    refine st_assign hf rfl rfl (by decide) ?_
    clear hf; intro a ha hf; clear ha
    refine st_nil hf ?_
    refine th_n ?_
    refine wp_reg ?_
    refine st_move hf rfl rfl (by decide) ?_
    clear hf; intro a ha hf; clear ha
    refine st_nilV hf (by decide) rfl rfl (hp.ob (i := 1) rfl) ?_
    clear hf; intro a ha hf; clear ha
    refine st_fa (o' := 1) hf (by decide) (off := 1) (sz := 1) (by kernel_rfl) (by decide) rfl rfl (hp.ob (i := 1) rfl) rfl ?_
    clear hf; intro a ha hf; clear ha
    refine st_ldO (u := .int .i64 r0c_1) hf (by decide) pl3 rfl rfl (hp.ob (i := 1) rfl) rfl ?_
    clear hf; intro a ha hf; clear ha
    refine st_iadd hf (by decide) rfl rfl rfl ?_
    clear hf; intro a ha hf; clear ha
    refine st_nilV hf (by decide) rfl rfl (hp.ob (i := 1) rfl) ?_
    clear hf; intro a ha hf; clear ha
    refine st_fa (o' := 1) hf (by decide) (off := 1) (sz := 1) (by kernel_rfl) (by decide) rfl rfl (hp.ob (i := 1) rfl) rfl ?_
    clear hf; intro a ha hf; clear ha
    refine st_stO (us := [.int .i64 (IntKind.i64.wrap (r0c_1 + (1 : Int)))]) hf hp (i := 1) rfl rfl rfl rfl rfl (by rfl) (by kernel_rfl) (Nat.le_of_ble_eq_true rfl) ?_
    clear hf; intro a w hf hp0; clear hp; have hp := hp0; clear hp0
    replace hp : Hp _ _ _ (Res.sl Ek.str 9 v37 ([((mget r0c_2 r0c_1).getD ByteArray.empty)]) :: Res.obj 74 or0 [.int .i64 r0c_0, .int .i64 (IntKind.i64.wrap (r0c_1 + (1 : Int))), v15] :: Res.map (fun x : ByteArray => Value.string x) v15 (mdel r0c_2 r0c_1) :: Res.sl Ek.str 9 v40 (handed4 ++ [((mget r0c_2 r0c_1).getD ByteArray.empty)]) :: Res.obj 31 v5 [.int .u8 (0 : Int), .int .u8 (0 : Int), .bool false, .string ByteArray.empty] :: ow) := hp
    refine st_nil hf ?_
    refine ib_n ?_
    obtain rfl := Option.some.inj h
    have hp : Hp _ _ _ (Res.map (fun x : ByteArray => Value.string x) v15 (mdel r0c_2 r0c_1) :: Res.obj 74 or0 [.int .i64 r0c_0, .int .i64 (IntKind.i64.wrap (r0c_1 + (1 : Int))), v15] :: Res.sl Ek.str 9 v40 (handed4 ++ [((mget r0c_2 r0c_1).getD ByteArray.empty)]) :: Res.obj 31 v5 [.int .u8 (0 : Int), .int .u8 (0 : Int), .bool false, .string ByteArray.empty] :: ow) := Hp.sel (pre := [Res.sl Ek.str 9 v37 ([((mget r0c_2 r0c_1).getD ByteArray.empty)]), Res.obj 74 or0 [.int .i64 r0c_0, .int .i64 (IntKind.i64.wrap (r0c_1 + (1 : Int))), v15], Res.map (fun x : ByteArray => Value.string x) v15 (mdel r0c_2 r0c_1), Res.sl Ek.str 9 v40 (handed4 ++ [((mget r0c_2 r0c_1).getD ByteArray.empty)]), Res.obj 31 v5 [.int .u8 (0 : Int), .int .u8 (0 : Int), .bool false, .string ByteArray.empty]]) (tail := ow) (rs' := [Res.map (fun x : ByteArray => Value.string x) v15 (mdel r0c_2 r0c_1), Res.obj 74 or0 [.int .i64 r0c_0, .int .i64 (IntKind.i64.wrap (r0c_1 + (1 : Int))), v15], Res.sl Ek.str 9 v40 (handed4 ++ [((mget r0c_2 r0c_1).getD ByteArray.empty)]), Res.obj 31 v5 [.int .u8 (0 : Int), .int .u8 (0 : Int), .bool false, .string ByteArray.empty]]) hp [2, 1, 3, 4] (by decide) (by simp) rfl
    exact rnd_l ⟨_, _, hf.sub ⟨rfl, rfl, rfl, trivial⟩, hp⟩
  clear hl hf hp
  intro e a w hne hO
  obtain ⟨rfl, v20, v23, hf, hp⟩ := hO
  refine ib_same ?_
  refine th_n ?_
  refine wp_seq ?_
  refine wp_reg ?_
  refine st_allocA (E := (Ek.int .u8)) (N := 16) (zs := List.replicate 16 (0 : Int)) (zv := .agg ((List.replicate 16 ([.int .u8 0] : List Value)).flatten).toArray) hf (by decide) (by decide) (by decide) (by kernel_rfl) (reps_replicate (E := (Ek.int .u8)) (vs := ([.int .u8 0] : List Value)) (x := (0 : Int)) rfl 16) (by simp) hp rfl ?_
  clear hf; intro a w v43 hf hp0; clear hp; have hp := hp0; clear hp0
  replace hp : Hp _ _ _ (Res.sl (Ek.int .u8) 76 (aslv v43 16) (List.replicate 16 (0 : Int)) :: Res.map (fun x : ByteArray => Value.string x) v20 q41.2.2.1 :: Res.obj 74 or0 [.int .i64 q41.1, .int .i64 q41.2.1, v20] :: Res.sl Ek.str 9 v23 q41.2.2.2 :: Res.obj 31 v5 [.int .u8 (0 : Int), .int .u8 (0 : Int), .bool false, .string ByteArray.empty] :: ow) := hp
  refine st_nil hf ?_
  refine th_n ?_
  refine wp_seq ?_
  refine wp_seq ?_
  refine wp_reg ?_
  refine st_move hf rfl rfl (by decide) ?_
  clear hf; intro a ha hf; clear ha
  refine st_nil hf ?_
  refine th_n ?_
  refine wp_block ?_
  obtain ⟨q64, hl, h⟩ := bnd h
  have hp : Hp _ _ _ (Res.sl (Ek.int .u8) 76 (aslv v43 16) (List.replicate 16 (0 : Int)) :: Res.obj 74 or0 [.int .i64 q41.1, .int .i64 q41.2.1, v20] :: Res.map (fun x : ByteArray => Value.string x) v20 q41.2.2.1 :: Res.sl Ek.str 9 v23 q41.2.2.2 :: Res.obj 31 v5 [.int .u8 (0 : Int), .int .u8 (0 : Int), .bool false, .string ByteArray.empty] :: ow) := Hp.sel (pre := [Res.sl (Ek.int .u8) 76 (aslv v43 16) (List.replicate 16 (0 : Int)), Res.map (fun x : ByteArray => Value.string x) v20 q41.2.2.1, Res.obj 74 or0 [.int .i64 q41.1, .int .i64 q41.2.1, v20], Res.sl Ek.str 9 v23 q41.2.2.2, Res.obj 31 v5 [.int .u8 (0 : Int), .int .u8 (0 : Int), .bool false, .string ByteArray.empty]]) (tail := ow) (rs' := [Res.sl (Ek.int .u8) 76 (aslv v43 16) (List.replicate 16 (0 : Int)), Res.obj 74 or0 [.int .i64 q41.1, .int .i64 q41.2.1, v20], Res.map (fun x : ByteArray => Value.string x) v20 q41.2.2.1, Res.sl Ek.str 9 v23 q41.2.2.2, Res.obj 31 v5 [.int .u8 (0 : Int), .int .u8 (0 : Int), .bool false, .string ByteArray.empty]]) hp [0, 2, 1, 3, 4] (by decide) (by simp) rfl
  refine wp_loop_pure (f := (f_again_Receiver_Take.s2 q41)) (s := ((List.replicate 16 (0 : Int)), (0 : Int))) (fun s a w => Fr 147 a [(0, or0), (4, v23), (5, optr v5 0), (12, v43), (109, .int .i64 s.2)] ∧ Hp S w0 w (Res.sl (Ek.int .u8) 76 (aslv v43 16) s.1 :: Res.obj 74 or0 [.int .i64 q41.1, .int .i64 q41.2.1, v20] :: Res.map (fun x : ByteArray => Value.string x) v20 q41.2.2.1 :: Res.sl Ek.str 9 v23 q41.2.2.2 :: Res.obj 31 v5 [.int .u8 (0 : Int), .int .u8 (0 : Int), .bool false, .string ByteArray.empty] :: ow)) (fun q e a w => e = .exit 2 ∧ Fr 147 a [(0, or0), (4, v23), (5, optr v5 0), (12, v43)] ∧ Hp S w0 w (Res.sl (Ek.int .u8) 76 (aslv v43 16) q :: Res.obj 74 or0 [.int .i64 q41.1, .int .i64 q41.2.1, v20] :: Res.map (fun x : ByteArray => Value.string x) v20 q41.2.2.1 :: Res.sl Ek.str 9 v23 q41.2.2.2 :: Res.obj 31 v5 [.int .u8 (0 : Int), .int .u8 (0 : Int), .bool false, .string ByteArray.empty] :: ow)) ?_ hl ⟨hf.sub ⟨rfl, rfl, rfl, rfl, rfl, trivial⟩, hp⟩ ?_
  · clear hl hf hp
    intro s x a w h hI
    obtain ⟨marks12, t109⟩ := s
    obtain ⟨hf, hp⟩ : Fr 147 a [(0, or0), (4, v23), (5, optr v5 0), (12, v43), (109, .int .i64 t109)] ∧ Hp S w0 w (Res.sl (Ek.int .u8) 76 (aslv v43 16) marks12 :: Res.obj 74 or0 [.int .i64 q41.1, .int .i64 q41.2.1, v20] :: Res.map (fun x : ByteArray => Value.string x) v20 q41.2.2.1 :: Res.sl Ek.str 9 v23 q41.2.2.2 :: Res.obj 31 v5 [.int .u8 (0 : Int), .int .u8 (0 : Int), .bool false, .string ByteArray.empty] :: ow) := hI
    replace h : f_again_Receiver_Take.s2c q41 marks12 t109 = some x := h
    unfold f_again_Receiver_Take.s2c at h
    refine wp_seq ?_
    refine wp_reg ?_
    refine st_ilss hf (by decide) rfl rfl rfl ?_
    clear hf; intro a ha hf; clear ha
    refine st_nil hf ?_
    refine th_n ?_
    refine wp_seq ?_
    refine wp_if hf rfl (fun hb => ?_) (fun hb => ?_)
    · replace h := ifT h hb
      refine wp_skip ?_
      refine th_n ?_
      refine wp_seq ?_
      refine wp_block ?_
      refine wp_seq ?_
      refine wp_reg ?_
      refine st_move hf rfl rfl (by decide) ?_
      clear hf; intro a ha hf; clear ha
      refine st_assign hf rfl rfl (by decide) ?_
      clear hf; intro a ha hf; clear ha
      refine st_nil hf ?_
      refine th_n ?_
      refine wp_seq ?_
      obtain ⟨S47, hp48, rd49, up50, bk51⟩ := Hp.lendO hp (i := 1) rfl
      have rl52 := rd49
      refine wp_cutN (fun a w => Fr 147 a [(0, or0), (4, v23), (5, optr v5 0), (12, v43), (13, .int .i64 t109), (15, .bool ((mget q41.2.2.1 (IntKind.i64.wrap ((IntKind.i64.wrap (q41.2.1 + (1 : Int))) + t109))).isSome)), (109, .int .i64 t109)] ∧ Hp S w0 w (Res.obj 74 or0 [.int .i64 q41.1, .int .i64 q41.2.1, v20] :: Res.sl (Ek.int .u8) 76 (aslv v43 16) marks12 :: Res.map (fun x : ByteArray => Value.string x) v20 q41.2.2.1 :: Res.sl Ek.str 9 v23 q41.2.2.2 :: Res.obj 31 v5 [.int .u8 (0 : Int), .int .u8 (0 : Int), .bool false, .string ByteArray.empty] :: ow)) ?_ ?_
      · have hp := hp48.same (Same.drew w)
        refine dr_begin' (fun a w => Fr 147 a [(0, or0), (4, v23), (5, optr v5 0), (12, v43), (13, .int .i64 t109), (15, .bool ((mget q41.2.2.1 (IntKind.i64.wrap ((IntKind.i64.wrap (q41.2.1 + (1 : Int))) + t109))).isSome)), (109, .int .i64 t109)] ∧ Hp S w0 w (Res.obj 74 or0 [.int .i64 q41.1, .int .i64 q41.2.1, v20] :: Res.sl (Ek.int .u8) 76 (aslv v43 16) marks12 :: Res.map (fun x : ByteArray => Value.string x) v20 q41.2.2.1 :: Res.sl Ek.str 9 v23 q41.2.2.2 :: Res.obj 31 v5 [.int .u8 (0 : Int), .int .u8 (0 : Int), .bool false, .string ByteArray.empty] :: ow)) (fun w' => ∃ l, Hp S47 w w' l) [] (by kernel_rfl) ?_
        refine dr_take 0 (or0) rfl (by kernel_rfl) (by kernel_rfl) (by kernel_rfl) (by kernel_rfl) rfl rfl hf (by decide) rfl (fun w hp => ?_) ⟨_, hp⟩ ?_
        · obtain ⟨_, hp⟩ := hp
          refine st_move hf rfl rfl (by decide) ?_
          clear hf; intro a ha hf
          exact st_nil hf (th_n ⟨ha, rfl⟩)
        clear hf; intro a hf
        refine dr_nilV 1 rfl (by kernel_rfl) (by kernel_rfl) (by kernel_rfl) hf (by decide) rfl rfl (rl52.ob hp) ?_
        clear hf; intro a hf
        refine dr_take 2 (optr or0 2) rfl (by kernel_rfl) (by kernel_rfl) (by kernel_rfl) (by kernel_rfl) rfl rfl hf (by decide) rfl (fun w hp => ?_) ⟨_, hp⟩ ?_
        · obtain ⟨_, hp⟩ := hp
          refine st_fa (o' := 2) hf (by decide) (off := 2) (sz := 1) (by kernel_rfl) (by decide) rfl rfl (rl52.ob hp) rfl ?_
          clear hf; intro a ha hf
          exact st_nil hf (th_n ⟨ha, rfl⟩)
        clear hf; intro a hf
        refine dr_take 3 (v20) rfl (by kernel_rfl) (by kernel_rfl) (by kernel_rfl) (by kernel_rfl) rfl rfl hf (by decide) rfl (fun w hp => ?_) ⟨_, hp⟩ ?_
        · obtain ⟨_, hp⟩ := hp
          refine st_ldO (u := v20) hf (by decide) pl72 rfl rfl (rl52.ob hp) rfl ?_
          clear hf; intro a ha hf
          exact st_nil hf (th_n ⟨ha, rfl⟩)
        clear hf; intro a hf
        refine dr_take 4 (or0) rfl (by kernel_rfl) (by kernel_rfl) (by kernel_rfl) (by kernel_rfl) rfl rfl hf (by decide) rfl (fun w hp => ?_) ⟨_, hp⟩ ?_
        · obtain ⟨_, hp⟩ := hp
          refine st_move hf rfl rfl (by decide) ?_
          clear hf; intro a ha hf
          exact st_nil hf (th_n ⟨ha, rfl⟩)
        clear hf; intro a hf
        refine dr_nilV 5 rfl (by kernel_rfl) (by kernel_rfl) (by kernel_rfl) hf (by decide) rfl rfl (rl52.ob hp) ?_
        clear hf; intro a hf
        refine dr_take 6 (optr or0 1) rfl (by kernel_rfl) (by kernel_rfl) (by kernel_rfl) (by kernel_rfl) rfl rfl hf (by decide) rfl (fun w hp => ?_) ⟨_, hp⟩ ?_
        · obtain ⟨_, hp⟩ := hp
          refine st_fa (o' := 1) hf (by decide) (off := 1) (sz := 1) (by kernel_rfl) (by decide) rfl rfl (rl52.ob hp) rfl ?_
          clear hf; intro a ha hf
          exact st_nil hf (th_n ⟨ha, rfl⟩)
        clear hf; intro a hf
        refine dr_take 7 (.int .i64 q41.2.1) rfl (by kernel_rfl) (by kernel_rfl) (by kernel_rfl) (by kernel_rfl) rfl rfl hf (by decide) rfl (fun w hp => ?_) ⟨_, hp⟩ ?_
        · obtain ⟨_, hp⟩ := hp
          refine st_ldO (u := .int .i64 q41.2.1) hf (by decide) pl3 rfl rfl (rl52.ob hp) rfl ?_
          clear hf; intro a ha hf
          exact st_nil hf (th_n ⟨ha, rfl⟩)
        clear hf; intro a hf
        refine dr_take 8 (.int .i64 (IntKind.i64.wrap (q41.2.1 + (1 : Int)))) rfl (by kernel_rfl) (by kernel_rfl) (by kernel_rfl) (by kernel_rfl) rfl rfl hf (by decide) rfl (fun w hp => ?_) ⟨_, hp⟩ ?_
        · obtain ⟨_, hp⟩ := hp
          refine st_iadd hf (by decide) rfl rfl rfl ?_
          clear hf; intro a ha hf
          exact st_nil hf (th_n ⟨ha, rfl⟩)
        clear hf; intro a hf
        refine dr_take 9 (.int .i64 t109) rfl (by kernel_rfl) (by kernel_rfl) (by kernel_rfl) (by kernel_rfl) rfl rfl hf (by decide) rfl (fun w hp => ?_) ⟨_, hp⟩ ?_
        · obtain ⟨_, hp⟩ := hp
          refine st_move hf rfl rfl (by decide) ?_
          clear hf; intro a ha hf
          exact st_nil hf (th_n ⟨ha, rfl⟩)
        clear hf; intro a hf
        refine dr_take 10 (.int .i64 (IntKind.i64.wrap ((IntKind.i64.wrap (q41.2.1 + (1 : Int))) + t109))) rfl (by kernel_rfl) (by kernel_rfl) (by kernel_rfl) (by kernel_rfl) rfl rfl hf (by decide) rfl (fun w hp => ?_) ⟨_, hp⟩ ?_
        · obtain ⟨_, hp⟩ := hp
          refine st_iadd hf (by decide) rfl rfl rfl ?_
          clear hf; intro a ha hf
          exact st_nil hf (th_n ⟨ha, rfl⟩)
        clear hf; intro a hf
        refine dr_one 11 rfl (by kernel_rfl) ?_
        refine st_lookup (enc := (fun x : ByteArray => Value.string x)) (z0 := ByteArray.empty) (ok := true) hf (by decide) Try.underlying72 Try.underlying3 (by kernel_rfl) hp (i := 1) rfl rfl rfl rfl ?_
        clear hf; intro a ha hf; clear ha
        replace hf : Fr _ _ ((124, .tuple #[.string ((mget q41.2.2.1 (IntKind.i64.wrap ((IntKind.i64.wrap (q41.2.1 + (1 : Int))) + t109))).getD ByteArray.empty), .bool ((mget q41.2.2.1 (IntKind.i64.wrap ((IntKind.i64.wrap (q41.2.1 + (1 : Int))) + t109))).isSome)]) :: _) := hf
        refine st_nil hf (th_n ⟨fun _ _ => ⟨_, hp⟩, ?_⟩)
        refine dr_take 12 (.tuple #[.string ((mget q41.2.2.1 (IntKind.i64.wrap ((IntKind.i64.wrap (q41.2.1 + (1 : Int))) + t109))).getD ByteArray.empty), .bool ((mget q41.2.2.1 (IntKind.i64.wrap ((IntKind.i64.wrap (q41.2.1 + (1 : Int))) + t109))).isSome)]) rfl (by kernel_rfl) (by kernel_rfl) (by kernel_rfl) (by kernel_rfl) rfl rfl hf (by decide) rfl (fun w hp => ?_) ⟨_, hp⟩ ?_
        · obtain ⟨_, hp⟩ := hp
          refine st_move hf rfl rfl (by decide) ?_
          clear hf; intro a ha hf
          exact st_nil hf (th_n ⟨ha, rfl⟩)
        clear hf; intro a hf
        refine dr_take 13 (.string ((mget q41.2.2.1 (IntKind.i64.wrap ((IntKind.i64.wrap (q41.2.1 + (1 : Int))) + t109))).getD ByteArray.empty)) rfl (by kernel_rfl) (by kernel_rfl) (by kernel_rfl) (by kernel_rfl) rfl rfl hf (by decide) rfl (fun w hp => ?_) ⟨_, hp⟩ ?_
        · obtain ⟨_, hp⟩ := hp
          refine st_extract hf (by decide) rfl rfl rfl ?_
          clear hf; intro a ha hf
          exact st_nil hf (th_n ⟨ha, rfl⟩)
        clear hf; intro a hf
        refine dr_take 14 (.bool ((mget q41.2.2.1 (IntKind.i64.wrap ((IntKind.i64.wrap (q41.2.1 + (1 : Int))) + t109))).isSome)) rfl (by kernel_rfl) (by kernel_rfl) (by kernel_rfl) (by kernel_rfl) rfl rfl hf (by decide) rfl (fun w hp => ?_) ⟨_, hp⟩ ?_
        · obtain ⟨_, hp⟩ := hp
          refine st_extract hf (by decide) rfl rfl rfl ?_
          clear hf; intro a ha hf
          exact st_nil hf (th_n ⟨ha, rfl⟩)
        clear hf; intro a hf
        refine dr_take 15 (.string ((mget q41.2.2.1 (IntKind.i64.wrap ((IntKind.i64.wrap (q41.2.1 + (1 : Int))) + t109))).getD ByteArray.empty)) rfl (by kernel_rfl) (by kernel_rfl) (by kernel_rfl) (by kernel_rfl) rfl rfl hf (by decide) rfl (fun w hp => ?_) ⟨_, hp⟩ ?_
        · obtain ⟨_, hp⟩ := hp
          refine st_assign hf rfl rfl (by decide) ?_
          clear hf; intro a ha hf
          exact st_nil hf (th_n ⟨ha, rfl⟩)
        clear hf; intro a hf
        refine dr_take 16 (.bool ((mget q41.2.2.1 (IntKind.i64.wrap ((IntKind.i64.wrap (q41.2.1 + (1 : Int))) + t109))).isSome)) rfl (by kernel_rfl) (by kernel_rfl) (by kernel_rfl) (by kernel_rfl) rfl rfl hf (by decide) rfl (fun w hp => ?_) ⟨_, hp⟩ ?_
        · obtain ⟨_, hp⟩ := hp
          refine st_assign hf rfl rfl (by decide) ?_
          clear hf; intro a ha hf
          exact st_nil hf (th_n ⟨ha, rfl⟩)
        clear hf; intro a hf
        refine dr_end (by kernel_rfl) ?_ _
        have hp := bk51 _ _ hp
        exact ⟨hf.sub ⟨rfl, rfl, rfl, rfl, rfl, rfl, rfl, trivial⟩, hp⟩
      rintro a w ⟨hf, hp⟩
      refine th_n ?_
      refine wp_seq ?_
      refine wp_reg ?_
      refine st_move hf rfl rfl (by decide) ?_
      clear hf; intro a ha hf; clear ha
      refine st_nil hf ?_
      refine th_n ?_
      refine wp_if hf rfl (fun hb => ?_) (fun hb => ?_)
      · replace h := ifT h hb
        obtain ⟨S53, hp54, rd55, up56, bk57⟩ := Hp.lendS hp (i := 1) rfl
        have rl58 := rd55
        obtain ⟨hc59, h⟩ := chk h
        have hc60 := aslv_ix rl58 hc59
        obtain ⟨hc61, h⟩ := chk h
        obtain ⟨hc62, h⟩ := chk h
        have hc63 := aslv_ix rl58 hc62
        refine wp_cutN (fun a w => Fr 147 a [(0, or0), (4, v23), (5, optr v5 0), (12, v43), (109, .int .i64 t109)] ∧ Hp S w0 w (Res.sl (Ek.int .u8) 76 (aslv v43 16) (marks12.set ((IntKind.i64.wrap ((t109).tdiv (8 : Int)))).toNat (ior .u8 (gt marks12 (IntKind.i64.wrap ((t109).tdiv (8 : Int)))) (ishr .u8 (128 : Int) ((t109).tmod (8 : Int))))) :: Res.obj 74 or0 [.int .i64 q41.1, .int .i64 q41.2.1, v20] :: Res.map (fun x : ByteArray => Value.string x) v20 q41.2.2.1 :: Res.sl Ek.str 9 v23 q41.2.2.2 :: Res.obj 31 v5 [.int .u8 (0 : Int), .int .u8 (0 : Int), .bool false, .string ByteArray.empty] :: ow)) ?_ ?_
        · have hp := hp54.same (Same.drew w)
          refine dr_begin' (fun a w => Fr 147 a [(0, or0), (4, v23), (5, optr v5 0), (12, v43), (109, .int .i64 t109)] ∧ Hp S w0 w (Res.sl (Ek.int .u8) 76 (aslv v43 16) (marks12.set ((IntKind.i64.wrap ((t109).tdiv (8 : Int)))).toNat (ior .u8 (gt marks12 (IntKind.i64.wrap ((t109).tdiv (8 : Int)))) (ishr .u8 (128 : Int) ((t109).tmod (8 : Int))))) :: Res.obj 74 or0 [.int .i64 q41.1, .int .i64 q41.2.1, v20] :: Res.map (fun x : ByteArray => Value.string x) v20 q41.2.2.1 :: Res.sl Ek.str 9 v23 q41.2.2.2 :: Res.obj 31 v5 [.int .u8 (0 : Int), .int .u8 (0 : Int), .bool false, .string ByteArray.empty] :: ow)) (fun w' => ∃ l, Hp S53 w w' l) [9] (by kernel_rfl) ?_
          refine dr_takeP 0 (.int .i64 t109) rfl (by kernel_rfl) (by kernel_rfl) (by kernel_rfl) rfl rfl hf (by decide) rfl (fun w => ?_) ?_
          · skip
            refine st_move hf rfl rfl (by decide) ?_
            clear hf; intro a ha hf
            exact st_nil hf (th_n ⟨ha, rfl⟩)
          clear hf; intro a hf
          refine dr_takeP 1 (.int .i64 (IntKind.i64.wrap ((t109).tdiv (8 : Int)))) rfl (by kernel_rfl) (by kernel_rfl) (by kernel_rfl) rfl rfl hf (by decide) rfl (fun w => ?_) ?_
          · skip
            refine st_iquo hf (by decide) rfl rfl rfl (by decide) ?_
            clear hf; intro a ha hf
            exact st_nil hf (th_n ⟨ha, rfl⟩)
          clear hf; intro a hf
          refine dr_takeP 2 (eptr (aslv v43 16) (IntKind.i64.wrap ((t109).tdiv (8 : Int))) 1) rfl (by kernel_rfl) (by kernel_rfl) (by kernel_rfl) rfl rfl hf (by decide) rfl (fun w => ?_) ?_
          · skip
            refine st_iaA (E := (Ek.int .u8)) (N := 16) hf (by decide) Try.underlying76 (by kernel_rfl) rfl rfl rfl rl58.any rfl hc59.1 hc59.2 ?_
            clear hf; intro a ha hf
            exact st_nil hf (th_n ⟨ha, rfl⟩)
          clear hf; intro a hf
          refine dr_take2 3 (.int .u8 (gt marks12 (IntKind.i64.wrap ((t109).tdiv (8 : Int))))) rfl (by kernel_rfl) (by kernel_rfl) (by kernel_rfl) (by kernel_rfl) (by kernel_rfl) rfl rfl hf (by decide) rfl (fun w hp => ?_) ⟨_, hp⟩ ?_
          · obtain ⟨_, hp⟩ := hp
            refine st_ldI hf (by decide) pl5 rfl rfl (rl58.sl hp) hc60.1 hc60.2 ?_
            clear hf; intro a ha hf
            exact st_nil hf (th_n ⟨ha, rfl⟩)
          clear hf; intro a hf
          refine dr_takeP 4 (.int .i64 t109) rfl (by kernel_rfl) (by kernel_rfl) (by kernel_rfl) rfl rfl hf (by decide) rfl (fun w => ?_) ?_
          · skip
            refine st_move hf rfl rfl (by decide) ?_
            clear hf; intro a ha hf
            exact st_nil hf (th_n ⟨ha, rfl⟩)
          clear hf; intro a hf
          refine dr_takeP 5 (.int .i64 ((t109).tmod (8 : Int))) rfl (by kernel_rfl) (by kernel_rfl) (by kernel_rfl) rfl rfl hf (by decide) rfl (fun w => ?_) ?_
          · skip
            refine st_irem hf (by decide) rfl rfl rfl (by decide) ?_
            clear hf; intro a ha hf
            exact st_nil hf (th_n ⟨ha, rfl⟩)
          clear hf; intro a hf
          refine dr_takeP 6 (.int .u8 (ishr .u8 (128 : Int) ((t109).tmod (8 : Int)))) rfl (by kernel_rfl) (by kernel_rfl) (by kernel_rfl) rfl rfl hf (by decide) rfl (fun w => ?_) ?_
          · skip
            refine st_ishr hf (by decide) rfl rfl rfl hc61 ?_
            clear hf; intro a ha hf
            exact st_nil hf (th_n ⟨ha, rfl⟩)
          clear hf; intro a hf
          refine dr_takeP 7 (.int .u8 (ior .u8 (gt marks12 (IntKind.i64.wrap ((t109).tdiv (8 : Int)))) (ishr .u8 (128 : Int) ((t109).tmod (8 : Int))))) rfl (by kernel_rfl) (by kernel_rfl) (by kernel_rfl) rfl rfl hf (by decide) rfl (fun w => ?_) ?_
          · skip
            refine st_ior hf (by decide) rfl rfl rfl ?_
            clear hf; intro a ha hf
            exact st_nil hf (th_n ⟨ha, rfl⟩)
          clear hf; intro a hf
          refine dr_takeP 8 (eptr (aslv v43 16) (IntKind.i64.wrap ((t109).tdiv (8 : Int))) 1) rfl (by kernel_rfl) (by kernel_rfl) (by kernel_rfl) rfl rfl hf (by decide) rfl (fun w => ?_) ?_
          · skip
            refine st_iaA (E := (Ek.int .u8)) (N := 16) hf (by decide) Try.underlying76 (by kernel_rfl) rfl rfl rfl rl58.any rfl hc62.1 hc62.2 ?_
            clear hf; intro a ha hf
            exact st_nil hf (th_n ⟨ha, rfl⟩)
          clear hf; intro a hf
          have hp := bk57 _ _ hp
          refine dr_one 9 rfl (by kernel_rfl) ?_
          refine st_store (E := (Ek.int .u8)) hf elt5 hp (i := 0) rfl rfl rfl rfl rfl hc63.1 hc63.2 ?_
          clear hf; intro a w hf hp0; clear hp; have hp := hp0; clear hp0
          replace hp : Hp _ _ _ (Res.sl (Ek.int .u8) 76 (aslv v43 16) (marks12.set ((IntKind.i64.wrap ((t109).tdiv (8 : Int)))).toNat (ior .u8 (gt marks12 (IntKind.i64.wrap ((t109).tdiv (8 : Int)))) (ishr .u8 (128 : Int) ((t109).tmod (8 : Int))))) :: Res.obj 74 or0 [.int .i64 q41.1, .int .i64 q41.2.1, v20] :: Res.map (fun x : ByteArray => Value.string x) v20 q41.2.2.1 :: Res.sl Ek.str 9 v23 q41.2.2.2 :: Res.obj 31 v5 [.int .u8 (0 : Int), .int .u8 (0 : Int), .bool false, .string ByteArray.empty] :: ow) := hp
          refine st_nil hf (th_n ⟨fun hn => absurd hn (by decide), ?_⟩)
          refine dr_end (by kernel_rfl) ?_ _
          exact ⟨hf.sub ⟨rfl, rfl, rfl, rfl, rfl, trivial⟩, hp⟩
        rintro a w ⟨hf, hp⟩
        refine ib_n ?_
        refine th_n ?_
        refine wp_reg ?_
        refine st_iadd hf (by decide) rfl rfl rfl ?_
        clear hf; intro a ha hf; clear ha
        refine st_move hf rfl rfl (by decide) ?_
        clear hf; intro a ha hf; clear ha
        refine st_nil hf ?_
        obtain rfl := Option.some.inj h
        exact rnd_l ⟨hf.sub ⟨rfl, rfl, rfl, rfl, rfl, trivial⟩, hp⟩
      replace h := ifF h hb
      refine wp_skip ?_
      refine ib_n ?_
      refine th_n ?_
      refine wp_reg ?_
      refine st_iadd hf (by decide) rfl rfl rfl ?_
      clear hf; intro a ha hf; clear ha
      refine st_move hf rfl rfl (by decide) ?_
      clear hf; intro a ha hf; clear ha
      refine st_nil hf ?_
      obtain rfl := Option.some.inj h
      have hp : Hp _ _ _ (Res.sl (Ek.int .u8) 76 (aslv v43 16) marks12 :: Res.obj 74 or0 [.int .i64 q41.1, .int .i64 q41.2.1, v20] :: Res.map (fun x : ByteArray => Value.string x) v20 q41.2.2.1 :: Res.sl Ek.str 9 v23 q41.2.2.2 :: Res.obj 31 v5 [.int .u8 (0 : Int), .int .u8 (0 : Int), .bool false, .string ByteArray.empty] :: ow) := Hp.sel (pre := [Res.obj 74 or0 [.int .i64 q41.1, .int .i64 q41.2.1, v20], Res.sl (Ek.int .u8) 76 (aslv v43 16) marks12, Res.map (fun x : ByteArray => Value.string x) v20 q41.2.2.1, Res.sl Ek.str 9 v23 q41.2.2.2, Res.obj 31 v5 [.int .u8 (0 : Int), .int .u8 (0 : Int), .bool false, .string ByteArray.empty]]) (tail := ow) (rs' := [Res.sl (Ek.int .u8) 76 (aslv v43 16) marks12, Res.obj 74 or0 [.int .i64 q41.1, .int .i64 q41.2.1, v20], Res.map (fun x : ByteArray => Value.string x) v20 q41.2.2.1, Res.sl Ek.str 9 v23 q41.2.2.2, Res.obj 31 v5 [.int .u8 (0 : Int), .int .u8 (0 : Int), .bool false, .string ByteArray.empty]]) hp [1, 0, 2, 3, 4] (by decide) (by simp) rfl
      exact rnd_l ⟨hf.sub ⟨rfl, rfl, rfl, rfl, rfl, trivial⟩, hp⟩
    replace h := ifF h hb
    refine wp_exit ?_
    refine th_e ?_
    obtain rfl := Option.some.inj h
    exact rnd_r (by simp) ⟨rfl, hf.sub ⟨rfl, rfl, rfl, rfl, trivial⟩, hp⟩
  clear hl hf hp
  intro e a w hne hO
  obtain ⟨rfl, hf, hp⟩ := hO
  refine ib_same ?_
  refine th_n ?_
  refine wp_seq ?_
  obtain ⟨S65, hp66, rd67, up68, bk69⟩ := Hp.lendO hp (i := 1) rfl
  obtain ⟨S70, hp71, rd72, up73, bk74⟩ := Hp.lendS hp66 (i := 0) rfl
  have rl75 := ((rd67.now hp66).mono up73)
  have rl76 := rd72
  refine wp_cutN (fun a w => Fr 147 a [(0, or0), (4, v23), (5, optr v5 0), (6, .int .i64 (0 : Int))] ∧ Hp S w0 w (Res.obj 74 or0 [.int .i64 q41.1, .int .i64 q41.2.1, v20] :: Res.sl (Ek.int .u8) 76 (aslv v43 16) q64 :: Res.map (fun x : ByteArray => Value.string x) v20 q41.2.2.1 :: Res.sl Ek.str 9 v23 q41.2.2.2 :: Res.obj 31 v5 [.int .u8 (2 : Int), .int .u8 (IntKind.u8.wrap q41.2.1), .bool false, .string (bstr q64)] :: ow)) ?_ ?_
  · have hp := hp71.same (Same.drew w)
    refine dr_begin' (fun a w => Fr 147 a [(0, or0), (4, v23), (5, optr v5 0), (6, .int .i64 (0 : Int))] ∧ Hp S w0 w (Res.obj 74 or0 [.int .i64 q41.1, .int .i64 q41.2.1, v20] :: Res.sl (Ek.int .u8) 76 (aslv v43 16) q64 :: Res.map (fun x : ByteArray => Value.string x) v20 q41.2.2.1 :: Res.sl Ek.str 9 v23 q41.2.2.2 :: Res.obj 31 v5 [.int .u8 (2 : Int), .int .u8 (IntKind.u8.wrap q41.2.1), .bool false, .string (bstr q64)] :: ow)) (fun w' => ∃ l, Hp S70 w w' l) [] (by kernel_rfl) ?_
    refine dr_take 0 (v23) rfl (by kernel_rfl) (by kernel_rfl) (by kernel_rfl) (by kernel_rfl) rfl rfl hf (by decide) rfl (fun w hp => ?_) ⟨_, hp⟩ ?_
    · obtain ⟨_, hp⟩ := hp
      refine st_move hf rfl rfl (by decide) ?_
      clear hf; intro a ha hf
      exact st_nil hf (th_n ⟨ha, rfl⟩)
    clear hf; intro a hf
    refine dr_take 1 (or0) rfl (by kernel_rfl) (by kernel_rfl) (by kernel_rfl) (by kernel_rfl) rfl rfl hf (by decide) rfl (fun w hp => ?_) ⟨_, hp⟩ ?_
    · obtain ⟨_, hp⟩ := hp
      refine st_move hf rfl rfl (by decide) ?_
      clear hf; intro a ha hf
      exact st_nil hf (th_n ⟨ha, rfl⟩)
    clear hf; intro a hf
    refine dr_nilV 2 rfl (by kernel_rfl) (by kernel_rfl) (by kernel_rfl) hf (by decide) rfl rfl (rl75.ob hp) ?_
    clear hf; intro a hf
    refine dr_take 3 (optr or0 1) rfl (by kernel_rfl) (by kernel_rfl) (by kernel_rfl) (by kernel_rfl) rfl rfl hf (by decide) rfl (fun w hp => ?_) ⟨_, hp⟩ ?_
    · obtain ⟨_, hp⟩ := hp
      refine st_fa (o' := 1) hf (by decide) (off := 1) (sz := 1) (by kernel_rfl) (by decide) rfl rfl (rl75.ob hp) rfl ?_
      clear hf; intro a ha hf
      exact st_nil hf (th_n ⟨ha, rfl⟩)
    clear hf; intro a hf
    refine dr_take 4 (.int .i64 q41.2.1) rfl (by kernel_rfl) (by kernel_rfl) (by kernel_rfl) (by kernel_rfl) rfl rfl hf (by decide) rfl (fun w hp => ?_) ⟨_, hp⟩ ?_
    · obtain ⟨_, hp⟩ := hp
      refine st_ldO (u := .int .i64 q41.2.1) hf (by decide) pl3 rfl rfl (rl75.ob hp) rfl ?_
      clear hf; intro a ha hf
      exact st_nil hf (th_n ⟨ha, rfl⟩)
    clear hf; intro a hf
    refine dr_take 5 (.int .u8 (IntKind.u8.wrap q41.2.1)) rfl (by kernel_rfl) (by kernel_rfl) (by kernel_rfl) (by kernel_rfl) rfl rfl hf (by decide) rfl (fun w hp => ?_) ⟨_, hp⟩ ?_
    · obtain ⟨_, hp⟩ := hp
      refine st_conv_ii hf (by decide) (by rw [Try.underlying3]; rfl) Try.underlying5 rfl rfl ?_
      clear hf; intro a ha hf
      exact st_nil hf (th_n ⟨ha, rfl⟩)
    clear hf; intro a hf
    refine dr_take 6 ((aslv v43 16)) rfl (by kernel_rfl) (by kernel_rfl) (by kernel_rfl) (by kernel_rfl) rfl rfl hf (by decide) rfl (fun w hp => ?_) ⟨_, hp⟩ ?_
    · obtain ⟨_, hp⟩ := hp
      refine st_slA (E := (Ek.int .u8)) (N := 16) hf (by decide) Try.underlying76 (by kernel_rfl) rfl rfl (rl76.sl hp) ?_
      clear hf; intro a ha hf
      exact st_nil hf (th_n ⟨ha, rfl⟩)
    clear hf; intro a hf
    refine dr_take 7 (.string (bstr q64)) rfl (by kernel_rfl) (by kernel_rfl) (by kernel_rfl) (by kernel_rfl) rfl rfl hf (by decide) rfl (fun w hp => ?_) ⟨_, hp⟩ ?_
    · obtain ⟨_, hp⟩ := hp
      refine st_convBS hf (by decide) Try.underlying61 Try.underlying5 Try.underlying9 rfl rfl (rl76.sl hp) ?_
      clear hf; intro a ha hf
      exact st_nil hf (th_n ⟨ha, rfl⟩)
    clear hf; intro a hf
    refine dr_take 8 (.agg #[.int .u8 (2 : Int), .int .u8 (IntKind.u8.wrap q41.2.1), .bool false, .string (bstr q64)]) rfl (by kernel_rfl) (by kernel_rfl) (by kernel_rfl) (by kernel_rfl) rfl rfl hf (by decide) rfl (fun w hp => ?_) ⟨_, hp⟩ ?_
    · obtain ⟨_, hp⟩ := hp
      refine st_buildA (vals := [(0, .int .u8 (2 : Int)), (1, .int .u8 (IntKind.u8.wrap q41.2.1)), (3, .string (bstr q64))]) (cells := [.int .u8 (2 : Int), .int .u8 (IntKind.u8.wrap q41.2.1), .bool false, .string (bstr q64)]) hf (by decide) rfl (by simp [hf.ev (x := (Operand.const (.int .u8 (2 : Int)))) rfl, hf.ev (x := (Operand.tmp 143)) rfl, hf.ev (x := (Operand.tmp 145)) rfl]) (fun w => by kernel_rfl) ?_
      clear hf; intro a ha hf
      exact st_nil hf (th_n ⟨ha, rfl⟩)
    clear hf; intro a hf
    refine dr_take 9 (v23) rfl (by kernel_rfl) (by kernel_rfl) (by kernel_rfl) (by kernel_rfl) rfl rfl hf (by decide) rfl (fun w hp => ?_) ⟨_, hp⟩ ?_
    · obtain ⟨_, hp⟩ := hp
      refine st_assign hf rfl rfl (by decide) ?_
      clear hf; intro a ha hf
      exact st_nil hf (th_n ⟨ha, rfl⟩)
    clear hf; intro a hf
    refine dr_one 10 rfl (by kernel_rfl) ?_
    refine st_stO (us := [.int .u8 (2 : Int), .int .u8 (IntKind.u8.wrap q41.2.1), .bool false, .string (bstr q64)]) hf hp (i := 2) rfl rfl rfl rfl rfl (by rfl) (by kernel_rfl) (Nat.le_of_ble_eq_true rfl) ?_
    clear hf; intro a w hf hp0; clear hp; have hp := hp0; clear hp0
    replace hp : Hp _ _ _ (Res.map (fun x : ByteArray => Value.string x) v20 q41.2.2.1 :: Res.sl Ek.str 9 v23 q41.2.2.2 :: Res.obj 31 v5 [.int .u8 (2 : Int), .int .u8 (IntKind.u8.wrap q41.2.1), .bool false, .string (bstr q64)] :: ow) := hp
    refine st_nil hf (th_n ⟨fun _ _ => ⟨_, hp⟩, ?_⟩)
    refine dr_take 11 (.int .i64 (0 : Int)) rfl (by kernel_rfl) (by kernel_rfl) (by kernel_rfl) (by kernel_rfl) rfl rfl hf (by decide) rfl (fun w hp => ?_) ⟨_, hp⟩ ?_
    · obtain ⟨_, hp⟩ := hp
      refine st_assign hf rfl rfl (by decide) ?_
      clear hf; intro a ha hf
      exact st_nil hf (th_n ⟨ha, rfl⟩)
    clear hf; intro a hf
    refine dr_end (by kernel_rfl) ?_ _
    have hp := bk74 _ _ hp
    have hp := bk69 _ _ hp
    exact ⟨hf.sub ⟨rfl, rfl, rfl, rfl, trivial⟩, hp⟩
  rintro a w ⟨hf, hp⟩
  refine th_n ?_
  refine wp_ret ?_
  obtain rfl := Option.some.inj h
  have hp : Hp _ _ _ (Res.obj 31 v5 [.int .u8 (2 : Int), .int .u8 (IntKind.u8.wrap q41.2.1), .bool false, .string (bstr q64)] :: Res.sl Ek.str 9 v23 q41.2.2.2 :: Res.map (fun x : ByteArray => Value.string x) v20 q41.2.2.1 :: Res.obj 74 or0 [.int .i64 q41.1, .int .i64 q41.2.1, v20] :: ow) := Hp.sel (pre := [Res.obj 74 or0 [.int .i64 q41.1, .int .i64 q41.2.1, v20], Res.sl (Ek.int .u8) 76 (aslv v43 16) q64, Res.map (fun x : ByteArray => Value.string x) v20 q41.2.2.1, Res.sl Ek.str 9 v23 q41.2.2.2, Res.obj 31 v5 [.int .u8 (2 : Int), .int .u8 (IntKind.u8.wrap q41.2.1), .bool false, .string (bstr q64)]]) (tail := ow) (rs' := [Res.obj 31 v5 [.int .u8 (2 : Int), .int .u8 (IntKind.u8.wrap q41.2.1), .bool false, .string (bstr q64)], Res.sl Ek.str 9 v23 q41.2.2.2, Res.map (fun x : ByteArray => Value.string x) v20 q41.2.2.1, Res.obj 74 or0 [.int .i64 q41.1, .int .i64 q41.2.1, v20]]) hp [4, 3, 2, 0] (by decide) (by simp) rfl
  exact ⟨rfl, ⟨_, _, _, hf.sub ⟨rfl, rfl, rfl, trivial⟩, hp⟩⟩

noncomputable def f_foghornref28_Receiver_kept (r0_Window : Int) (r0_Next : Int) (r0_Kept : (List Bool)) (r0_Bodies : (List ByteArray)) (i1 : Int) : Option Bool := ((if (decide (i1 < (r0_Kept.length : Int))) = true then (if 0 ≤ i1 ∧ i1 < (r0_Kept.length : Int) then (some (gt r0_Kept i1)) else none) else (some false)).bind fun z3 => (some z3))
theorem f_foghornref28_Receiver_kept_c {S : Nat → Prop} {w0 w : World} {ow : List Res} (hp : Hp S w0 w ow) (r0_Window : Int) (r0_Next : Int) (vr0_Kept : Value) (r0_Kept : (List Bool)) (hr0_Kept : RdS Ek.bool S w0 vr0_Kept r0_Kept) (vr0_Bodies : Value) (r0_Bodies : (List ByteArray)) (hr0_Bodies : RdS Ek.str S w0 vr0_Bodies r0_Bodies) (or0 : Value) (hor0 : RdO S w0 or0 [.int .i64 r0_Window, .int .i64 r0_Next, vr0_Kept, vr0_Bodies]) (i1 : Int) {r : Bool} (h : f_foghornref28_Receiver_kept r0_Window r0_Next r0_Kept r0_Bodies i1 = some r) :
    Calls Try.prog 29 #[or0, .int .i64 i1] w (fun e w' => e = .returned (.bool r) ∧ Hp S w0 w' (ow)) := by
  unfold f_foghornref28_Receiver_kept at h
  refine enter (n := 21) (args := [or0, .int .i64 i1]) Try.func29 rfl rfl (Nat.le_of_ble_eq_true rfl) fun a hf => ?_
  replace hf : Fr 21 a [(0, or0), (1, .int .i64 i1)] := hf
  refine wp_mono (Q := fun e a w => e = .ret ∧ Fr 21 a [(4, .bool r)] ∧ Hp S w0 w (ow)) ?_ ?_
  rotate_left
  · rintro e a w ⟨rfl, hf, hp⟩
    exact ret1 hf rfl rfl ⟨rfl, hp⟩
  refine wp_seq ?_
  refine wp_reg ?_
  refine st_assign hf rfl rfl (by decide) ?_
  clear hf; intro a ha hf; clear ha
  refine st_nil hf ?_
  refine th_n ?_
  refine wp_seq ?_
  refine wp_reg ?_
  refine st_move hf rfl rfl (by decide) ?_
  clear hf; intro a ha hf; clear ha
  refine st_move hf rfl rfl (by decide) ?_
  clear hf; intro a ha hf; clear ha
  refine st_nilV hf (by decide) rfl rfl (hor0.ob hp) ?_
  clear hf; intro a ha hf; clear ha
  refine st_fa (o' := 2) hf (by decide) (off := 2) (sz := 1) (by kernel_rfl) (by decide) rfl rfl (hor0.ob hp) rfl ?_
  clear hf; intro a ha hf; clear ha
  refine st_ldO (u := vr0_Kept) hf (by decide) pl34 rfl rfl (hor0.ob hp) rfl ?_
  clear hf; intro a ha hf; clear ha
  refine st_len (E := Ek.bool) hf (by decide) Try.underlying34 rfl rfl (hr0_Kept.sl hp) ?_
  clear hf; intro a ha hf; clear ha
  refine st_ilss hf (by decide) rfl rfl rfl ?_
  clear hf; intro a ha hf; clear ha
  refine st_move hf rfl rfl (by decide) ?_
  clear hf; intro a ha hf; clear ha
  obtain ⟨z3, hz1, h⟩ := bnd h
  refine wpList_cut 8 (fun a w => Fr 21 a [(20, .bool z3)] ∧ Hp S w0 w (ow)) ?_ ?_
  · rcases Bool.eq_false_or_eq_true (decide (i1 < (r0_Kept.length : Int))) with hb2 | hb2
    · skip
      replace hz1 := ifT hz1 hb2
      refine st_move hf (wantY hf rfl rfl hb2) rfl (by decide) ?_
      clear hf; intro a ha hf; clear ha
      refine st_nilV hf (by decide) (wantY hf rfl rfl hb2) rfl (hor0.ob hp) ?_
      clear hf; intro a ha hf; clear ha
      refine st_fa (o' := 2) hf (by decide) (off := 2) (sz := 1) (by kernel_rfl) (by decide) (wantY hf rfl rfl hb2) rfl (hor0.ob hp) rfl ?_
      clear hf; intro a ha hf; clear ha
      refine st_ldO (u := vr0_Kept) hf (by decide) pl34 (wantY hf rfl rfl hb2) rfl (hor0.ob hp) rfl ?_
      clear hf; intro a ha hf; clear ha
      refine st_move hf (wantY hf rfl rfl hb2) rfl (by decide) ?_
      clear hf; intro a ha hf; clear ha
      obtain ⟨hc4, hz1⟩ := chk hz1
      refine st_index (E := Ek.bool) hf (by decide) Try.underlying34 elt4 (wantY hf rfl rfl hb2) rfl rfl (hr0_Kept.sl hp) hc4.1 hc4.2 ?_
      clear hf; intro a ha hf; clear ha
      refine st_ldB hf (by decide) pl4 (wantY hf rfl rfl hb2) rfl (hr0_Kept.sl hp) hc4.1 hc4.2 ?_
      clear hf; intro a ha hf; clear ha
      obtain rfl := Option.some.inj hz1
      refine st_pick (v := .bool (gt r0_Kept i1)) hf rfl rfl (fun hb' => ?_) (fun hb' => ?_) (by decide) ?_
      · rfl
      · exact absurd (hb2.symm.trans hb') (by decide)
      clear hf; intro a ha hf; clear ha
      refine st_nil hf (th_n ?_)
      exact ⟨hf.sub ⟨rfl, trivial⟩, hp⟩
    replace hz1 := ifF hz1 hb2
    refine st_skip hf (wantN hf rfl rfl hb2) rfl (by decide) ?_ rfl
    clear hf; intro a hf
    refine st_skip hf (wantN hf rfl rfl hb2) rfl (by decide) ?_ rfl
    clear hf; intro a hf
    refine st_skip hf (wantN hf rfl rfl hb2) rfl (by decide) ?_ rfl
    clear hf; intro a hf
    refine st_skip hf (wantN hf rfl rfl hb2) rfl (by decide) ?_ rfl
    clear hf; intro a hf
    refine st_skip hf (wantN hf rfl rfl hb2) rfl (by decide) ?_ rfl
    clear hf; intro a hf
    refine st_skip hf (wantN hf rfl rfl hb2) rfl (by decide) ?_ rfl
    clear hf; intro a hf
    refine st_skip hf (wantN hf rfl rfl hb2) rfl (by decide) ?_ rfl
    clear hf; intro a hf
    obtain rfl := Option.some.inj hz1
    refine st_pick (v := .bool false) hf rfl rfl (fun hb' => ?_) (fun hb' => ?_) (by decide) ?_
    · exact absurd (hb2.symm.trans hb') (by decide)
    · rfl
    clear hf; intro a ha hf; clear ha
    refine st_nil hf (th_n ?_)
    exact ⟨hf.sub ⟨rfl, trivial⟩, hp⟩
  rintro a w ⟨hf, hp⟩
  refine st_assign hf rfl rfl (by decide) ?_
  clear hf; intro a ha hf; clear ha
  refine st_nil hf ?_
  refine th_n ?_
  refine wp_ret ?_
  obtain rfl := Option.some.inj h
  exact ⟨rfl, ⟨hf.sub ⟨rfl, trivial⟩, hp⟩⟩

noncomputable def f_foghornref28_Receiver_Take.s1c (r0c_0 : Int) (r0c_1 : Int) (r0c_2 : (List Bool)) (r0c_3 : (List ByteArray)) (handed8 : (List ByteArray)) : Option ((Int × Int × (List Bool) × (List ByteArray) × (List ByteArray)) ⊕ (Int × Int × (List Bool) × (List ByteArray) × (List ByteArray))) := ((f_foghornref28_Receiver_kept r0c_0 r0c_1 r0c_2 r0c_3 r0c_1).bind fun q44 => (if q44 = true then (if 0 ≤ r0c_1 ∧ r0c_1 < (r0c_3.length : Int) then (if (handed8.length + ([(gt r0c_3 r0c_1)]).length) * 16 ≤ 140737488355328 then (some (Sum.inl (r0c_0, (IntKind.i64.wrap (r0c_1 + (1 : Int))), r0c_2, r0c_3, (handed8 ++ [(gt r0c_3 r0c_1)])))) else none) else none) else (some (Sum.inr (r0c_0, r0c_1, r0c_2, r0c_3, handed8)))))
noncomputable def f_foghornref28_Receiver_Take.s1  (s : (Int × Int × (List Bool) × (List ByteArray) × (List ByteArray))) : Option ((Int × Int × (List Bool) × (List ByteArray) × (List ByteArray)) ⊕ (Int × Int × (List Bool) × (List ByteArray) × (List ByteArray))) := f_foghornref28_Receiver_Take.s1c s.1 s.2.1 s.2.2.1 s.2.2.2.1 s.2.2.2.2
noncomputable def f_foghornref28_Receiver_Take.s2c (q78 : (Int × Int × (List Bool) × (List ByteArray) × (List ByteArray))) (marks9 : (List Int)) (i10 : Int) : Option (((List Int) × Int) ⊕ (List Int)) := (if (decide (i10 < (128 : Int))) = true then ((f_foghornref28_Receiver_kept q78.1 q78.2.1 q78.2.2.1 q78.2.2.2.1 (IntKind.i64.wrap ((IntKind.i64.wrap (q78.2.1 + (1 : Int))) + i10))).bind fun q87 => (if q87 = true then (if 0 ≤ (IntKind.i64.wrap ((i10).tdiv (8 : Int))) ∧ (IntKind.i64.wrap ((i10).tdiv (8 : Int))) < (marks9.length : Int) then (if 0 ≤ (IntKind.i64.wrap ((7 : Int) - ((i10).tmod (8 : Int)))) then (if 0 ≤ (IntKind.i64.wrap ((i10).tdiv (8 : Int))) ∧ (IntKind.i64.wrap ((i10).tdiv (8 : Int))) < (marks9.length : Int) then (some (Sum.inl ((marks9.set ((IntKind.i64.wrap ((i10).tdiv (8 : Int)))).toNat (IntKind.u8.wrap ((gt marks9 (IntKind.i64.wrap ((i10).tdiv (8 : Int)))) + (ishl .u8 (1 : Int) (IntKind.i64.wrap ((7 : Int) - ((i10).tmod (8 : Int)))))))), (IntKind.i64.wrap (i10 + (1 : Int)))))) else none) else none) else none) else (some (Sum.inl (marks9, (IntKind.i64.wrap (i10 + (1 : Int)))))))) else (some (Sum.inr marks9)))
noncomputable def f_foghornref28_Receiver_Take.s2 (q78 : (Int × Int × (List Bool) × (List ByteArray) × (List ByteArray))) (s : ((List Int) × Int)) : Option (((List Int) × Int) ⊕ (List Int)) := f_foghornref28_Receiver_Take.s2c q78 s.1 s.2
noncomputable def f_foghornref28_Receiver_Take.j1 (r0c_0 : Int) (r0c_1 : Int) (r0c_2 : (List Bool)) (r0c_3 : (List ByteArray)) : Option ((List ByteArray) × (Int × Int × Bool × ByteArray) × Int × (Int × Int × (List Bool) × (List ByteArray))) := ((loop f_foghornref28_Receiver_Take.s1 (r0c_0, r0c_1, r0c_2, r0c_3, [])).bind (fun q78 => (if 0 ≤ (16 : Int) ∧ (16 : Int) ≤ (16 : Int) ∧ (16 : Int) * 1 ≤ 281474976710656 then ((loop (f_foghornref28_Receiver_Take.s2 q78) ((List.replicate ((16 : Int)).toNat (0 : Int)), (0 : Int))).bind (fun q113 => (some (q78.2.2.2.2, ((2 : Int), (IntKind.u8.wrap ((q78.2.1).tmod (256 : Int))), false, (bstr q113)), (0 : Int), (q78.1, q78.2.1, q78.2.2.1, q78.2.2.2.1))))) else none)))
noncomputable def f_foghornref28_Receiver_Take.s3c (r0_Next : Int) (f1_Number : Int) (r0c_0 : Int) (r0c_1 : Int) (r0c_2 : (List Bool)) (r0c_3 : (List ByteArray)) : Option ((Int × Int × (List Bool) × (List ByteArray)) ⊕ (Int × Int × (List Bool) × (List ByteArray))) := (if (decide ((r0c_2.length : Int) ≤ (IntKind.i64.wrap (r0c_1 + (((IntKind.i64.wrap ((IntKind.i64.wrap ((IntKind.i64.wrap f1_Number) - ((r0_Next).tmod (256 : Int)))) + (256 : Int)))).tmod (256 : Int)))))) = true then (if (r0c_2.length + ([false]).length) * 1 ≤ 140737488355328 then (if (r0c_3.length + ([(ByteArray.mk #[])]).length) * 16 ≤ 140737488355328 then (some (Sum.inl (r0c_0, r0c_1, (r0c_2 ++ [false]), (r0c_3 ++ [(ByteArray.mk #[])])))) else none) else none) else (some (Sum.inr (r0c_0, r0c_1, r0c_2, r0c_3))))
noncomputable def f_foghornref28_Receiver_Take.s3 (r0_Next : Int) (f1_Number : Int) (s : (Int × Int × (List Bool) × (List ByteArray))) : Option ((Int × Int × (List Bool) × (List ByteArray)) ⊕ (Int × Int × (List Bool) × (List ByteArray))) := f_foghornref28_Receiver_Take.s3c r0_Next f1_Number s.1 s.2.1 s.2.2.1 s.2.2.2
noncomputable def f_foghornref28_Receiver_Take (r0_Window : Int) (r0_Next : Int) (r0_Kept : (List Bool)) (r0_Bodies : (List ByteArray)) (f1_Kind : Int) (f1_Number : Int) (f1_More : Bool) (f1_Body : ByteArray) : Option ((List ByteArray) × (Int × Int × Bool × ByteArray) × Int × (Int × Int × (List Bool) × (List ByteArray))) := (if (((f1_Kind != (1 : Int)) || f1_More) || (decide ((240 : Int) < (f1_Body.size : Int)))) = true then (some ([], ((0 : Int), (0 : Int), false, ByteArray.empty), (4 : Int), (r0_Window, r0_Next, r0_Kept, r0_Bodies))) else ((if (decide ((((IntKind.i64.wrap ((IntKind.i64.wrap ((IntKind.i64.wrap f1_Number) - ((r0_Next).tmod (256 : Int)))) + (256 : Int)))).tmod (256 : Int)) < r0_Window)) = true then ((f_foghornref28_Receiver_kept r0_Window r0_Next r0_Kept r0_Bodies (IntKind.i64.wrap (r0_Next + (((IntKind.i64.wrap ((IntKind.i64.wrap ((IntKind.i64.wrap f1_Number) - ((r0_Next).tmod (256 : Int)))) + (256 : Int)))).tmod (256 : Int))))).bind fun q129 => (some (!q129))) else (some false)).bind fun z128 => (if z128 = true then ((loop (f_foghornref28_Receiver_Take.s3 r0_Next f1_Number) (r0_Window, r0_Next, r0_Kept, r0_Bodies)).bind (fun q176 => (if 0 ≤ (IntKind.i64.wrap (q176.2.1 + (((IntKind.i64.wrap ((IntKind.i64.wrap ((IntKind.i64.wrap f1_Number) - ((r0_Next).tmod (256 : Int)))) + (256 : Int)))).tmod (256 : Int)))) ∧ (IntKind.i64.wrap (q176.2.1 + (((IntKind.i64.wrap ((IntKind.i64.wrap ((IntKind.i64.wrap f1_Number) - ((r0_Next).tmod (256 : Int)))) + (256 : Int)))).tmod (256 : Int)))) < (q176.2.2.1.length : Int) then (if 0 ≤ (IntKind.i64.wrap (q176.2.1 + (((IntKind.i64.wrap ((IntKind.i64.wrap ((IntKind.i64.wrap f1_Number) - ((r0_Next).tmod (256 : Int)))) + (256 : Int)))).tmod (256 : Int)))) ∧ (IntKind.i64.wrap (q176.2.1 + (((IntKind.i64.wrap ((IntKind.i64.wrap ((IntKind.i64.wrap f1_Number) - ((r0_Next).tmod (256 : Int)))) + (256 : Int)))).tmod (256 : Int)))) < (q176.2.2.2.length : Int) then (f_foghornref28_Receiver_Take.j1 q176.1 q176.2.1 (q176.2.2.1.set ((IntKind.i64.wrap (q176.2.1 + (((IntKind.i64.wrap ((IntKind.i64.wrap ((IntKind.i64.wrap f1_Number) - ((r0_Next).tmod (256 : Int)))) + (256 : Int)))).tmod (256 : Int))))).toNat true) (q176.2.2.2.set ((IntKind.i64.wrap (q176.2.1 + (((IntKind.i64.wrap ((IntKind.i64.wrap ((IntKind.i64.wrap f1_Number) - ((r0_Next).tmod (256 : Int)))) + (256 : Int)))).tmod (256 : Int))))).toNat f1_Body)) else none) else none))) else (f_foghornref28_Receiver_Take.j1 r0_Window r0_Next r0_Kept r0_Bodies))))
theorem f_foghornref28_Receiver_Take_c {S : Nat → Prop} {w0 w : World} {ow : List Res} (r0_Window : Int) (r0_Next : Int) (vr0_Kept : Value) (r0_Kept : (List Bool)) (vr0_Bodies : Value) (r0_Bodies : (List ByteArray)) (or0 : Value) (f1_Kind : Int) (f1_Number : Int) (f1_More : Bool) (f1_Body : ByteArray) (hp : Hp S w0 w (Res.sl Ek.bool 4 vr0_Kept r0_Kept :: Res.sl Ek.str 9 vr0_Bodies r0_Bodies :: Res.obj 37 or0 [.int .i64 r0_Window, .int .i64 r0_Next, vr0_Kept, vr0_Bodies] :: ow)) {r : ((List ByteArray) × (Int × Int × Bool × ByteArray) × Int × (Int × Int × (List Bool) × (List ByteArray)))} (h : f_foghornref28_Receiver_Take r0_Window r0_Next r0_Kept r0_Bodies f1_Kind f1_Number f1_More f1_Body = some r) :
    Calls Try.prog 11 #[or0, .agg #[.int .u8 f1_Kind, .int .u8 f1_Number, .bool f1_More, .string f1_Body]] w (fun e w' => ∃ (u0 : Value) (u1 : Value) (u2 : Value), e = .returned (.tuple #[u0, .agg #[.int .u8 r.2.1.1, .int .u8 r.2.1.2.1, .bool r.2.1.2.2.1, .string r.2.1.2.2.2], .int .i64 r.2.2.1]) ∧ Hp S w0 w' (Res.sl Ek.str 9 u0 r.1 :: Res.sl Ek.bool 4 u1 r.2.2.2.2.2.1 :: Res.sl Ek.str 9 u2 r.2.2.2.2.2.2 :: Res.obj 37 or0 [.int .i64 r.2.2.2.1, .int .i64 r.2.2.2.2.1, u1, u2] :: ow)) := by
  unfold f_foghornref28_Receiver_Take at h
  refine enter (n := 172) (args := [or0, .agg #[.int .u8 f1_Kind, .int .u8 f1_Number, .bool f1_More, .string f1_Body]]) Try.func11 rfl rfl (Nat.le_of_ble_eq_true rfl) fun a hf => ?_
  replace hf : Fr 172 a [(0, or0), (1, .agg #[.int .u8 f1_Kind, .int .u8 f1_Number, .bool f1_More, .string f1_Body])] := hf
  refine wp_mono (Q := fun e a w => e = .ret ∧ ∃ (u0 : Value) (u1 : Value) (u2 : Value) (c1 : Value), Fr 172 a [(4, u0), (5, optr c1 0), (6, .int .i64 r.2.2.1)] ∧ Hp S w0 w (Res.obj 31 c1 [.int .u8 r.2.1.1, .int .u8 r.2.1.2.1, .bool r.2.1.2.2.1, .string r.2.1.2.2.2] :: Res.sl Ek.str 9 u0 r.1 :: Res.sl Ek.bool 4 u1 r.2.2.2.2.2.1 :: Res.sl Ek.str 9 u2 r.2.2.2.2.2.2 :: Res.obj 37 or0 [.int .i64 r.2.2.2.1, .int .i64 r.2.2.2.2.1, u1, u2] :: ow)) ?_ ?_
  rotate_left
  · rintro e a w ⟨rfl, x0, x1, x2, c1, hf, hp⟩
    exact retG3 hf rfl rfl ⟨_, _, rfl, hp.ob (i := 0) rfl, .inr ⟨by kernel_rfl, rfl⟩⟩ rfl ⟨x0, x1, x2, rfl, hp.drop⟩
  refine wp_seq ?_
  refine wp_reg ?_
  refine st_boxO (cs := [.int .u8 f1_Kind, .int .u8 f1_Number, .bool f1_More, .string f1_Body]) hf (by decide) hp rfl rfl rfl ?_
  clear hf; intro a w v4 hf hp0; clear hp; have hp := hp0; clear hp0
  replace hp : Hp _ _ _ (Res.obj 31 v4 [.int .u8 f1_Kind, .int .u8 f1_Number, .bool f1_More, .string f1_Body] :: Res.sl Ek.bool 4 vr0_Kept r0_Kept :: Res.sl Ek.str 9 vr0_Bodies r0_Bodies :: Res.obj 37 or0 [.int .i64 r0_Window, .int .i64 r0_Next, vr0_Kept, vr0_Bodies] :: ow) := hp
  refine st_assign hf rfl rfl (by decide) ?_
  clear hf; intro a ha hf; clear ha
  refine st_alloc (cs := [.int .u8 (0 : Int), .int .u8 (0 : Int), .bool false, .string ByteArray.empty]) (zv := .agg #[.int .u8 (0 : Int), .int .u8 (0 : Int), .bool false, .string ByteArray.empty]) hf (by decide) (by kernel_rfl) rfl hp rfl ?_
  clear hf; intro a w v6 hf hp0; clear hp; have hp := hp0; clear hp0
  replace hp : Hp _ _ _ (Res.obj 31 v6 [.int .u8 (0 : Int), .int .u8 (0 : Int), .bool false, .string ByteArray.empty] :: Res.obj 31 v4 [.int .u8 f1_Kind, .int .u8 f1_Number, .bool f1_More, .string f1_Body] :: Res.sl Ek.bool 4 vr0_Kept r0_Kept :: Res.sl Ek.str 9 vr0_Bodies r0_Bodies :: Res.obj 37 or0 [.int .i64 r0_Window, .int .i64 r0_Next, vr0_Kept, vr0_Bodies] :: ow) := hp
  refine st_assign hf rfl rfl (by decide) ?_
  clear hf; intro a ha hf; clear ha
  refine st_nil hf ?_
  refine th_n ?_
  refine wp_seq ?_
  refine wp_seq ?_
  refine wp_reg ?_
  refine st_fa (o' := 0) hf (by decide) (off := 0) (sz := 1) (by kernel_rfl) (by decide) rfl rfl (hp.ob (i := 1) rfl) rfl ?_
  clear hf; intro a ha hf; clear ha
  refine st_ldO (u := .int .u8 f1_Kind) hf (by decide) pl5 rfl rfl (hp.ob (i := 1) rfl) rfl ?_
  clear hf; intro a ha hf; clear ha
  refine st_ineq hf (by decide) rfl rfl rfl ?_
  clear hf; intro a ha hf; clear ha
  refine st_move hf rfl rfl (by decide) ?_
  clear hf; intro a ha hf; clear ha
  refine wpList_cut 3 (fun a w => Fr 172 a [(0, or0), (3, optr v4 0), (5, optr v6 0), (17, .bool ((f1_Kind != (1 : Int)) || f1_More))] ∧ Hp S w0 w (Res.obj 31 v6 [.int .u8 (0 : Int), .int .u8 (0 : Int), .bool false, .string ByteArray.empty] :: Res.obj 31 v4 [.int .u8 f1_Kind, .int .u8 f1_Number, .bool f1_More, .string f1_Body] :: Res.sl Ek.bool 4 vr0_Kept r0_Kept :: Res.sl Ek.str 9 vr0_Bodies r0_Bodies :: Res.obj 37 or0 [.int .i64 r0_Window, .int .i64 r0_Next, vr0_Kept, vr0_Bodies] :: ow)) ?_ ?_
  · rcases Bool.eq_false_or_eq_true (f1_Kind != (1 : Int)) with hb9 | hb9
    · skip
      refine st_skip hf (wantN hf rfl rfl hb9) rfl (by decide) ?_ rfl
      clear hf; intro a hf
      refine st_skip hf (wantN hf rfl rfl hb9) rfl (by decide) ?_ rfl
      clear hf; intro a hf
      refine st_pick (v := .bool true) hf rfl rfl (fun hb' => ?_) (fun hb' => ?_) (by decide) ?_
      · rfl
      · exact absurd (hb9.symm.trans hb') (by decide)
      clear hf; intro a ha hf; clear ha
      refine st_nil hf (th_n ?_)
      exact ⟨hf.sub ⟨rfl, rfl, rfl, (by rw [hb9]; rfl), trivial⟩, hp⟩
    refine st_fa (o' := 2) hf (by decide) (off := 2) (sz := 1) (by kernel_rfl) (by decide) (wantY hf rfl rfl hb9) rfl (hp.ob (i := 1) rfl) rfl ?_
    clear hf; intro a ha hf; clear ha
    refine st_ldO (u := .bool f1_More) hf (by decide) pl4 (wantY hf rfl rfl hb9) rfl (hp.ob (i := 1) rfl) rfl ?_
    clear hf; intro a ha hf; clear ha
    refine st_pick (v := .bool f1_More) hf rfl rfl (fun hb' => ?_) (fun hb' => ?_) (by decide) ?_
    · exact absurd (hb9.symm.trans hb') (by decide)
    · rfl
    clear hf; intro a ha hf; clear ha
    refine st_nil hf (th_n ?_)
    exact ⟨hf.sub ⟨rfl, rfl, rfl, (by rw [hb9]; rfl), trivial⟩, hp⟩
  rintro a w ⟨hf, hp⟩
  refine st_move hf rfl rfl (by decide) ?_
  clear hf; intro a ha hf; clear ha
  refine wpList_cut 5 (fun a w => Fr 172 a [(0, or0), (3, optr v4 0), (5, optr v6 0), (23, .bool (((f1_Kind != (1 : Int)) || f1_More) || (decide ((240 : Int) < (f1_Body.size : Int)))))] ∧ Hp S w0 w (Res.obj 31 v6 [.int .u8 (0 : Int), .int .u8 (0 : Int), .bool false, .string ByteArray.empty] :: Res.obj 31 v4 [.int .u8 f1_Kind, .int .u8 f1_Number, .bool f1_More, .string f1_Body] :: Res.sl Ek.bool 4 vr0_Kept r0_Kept :: Res.sl Ek.str 9 vr0_Bodies r0_Bodies :: Res.obj 37 or0 [.int .i64 r0_Window, .int .i64 r0_Next, vr0_Kept, vr0_Bodies] :: ow)) ?_ ?_
  · rcases Bool.eq_false_or_eq_true ((f1_Kind != (1 : Int)) || f1_More) with hb11 | hb11
    · skip
      refine st_skip hf (wantN hf rfl rfl hb11) rfl (by decide) ?_ rfl
      clear hf; intro a hf
      refine st_skip hf (wantN hf rfl rfl hb11) rfl (by decide) ?_ rfl
      clear hf; intro a hf
      refine st_skip hf (wantN hf rfl rfl hb11) rfl (by decide) ?_ rfl
      clear hf; intro a hf
      refine st_skip hf (wantN hf rfl rfl hb11) rfl (by decide) ?_ rfl
      clear hf; intro a hf
      refine st_pick (v := .bool true) hf rfl rfl (fun hb' => ?_) (fun hb' => ?_) (by decide) ?_
      · rfl
      · exact absurd (hb11.symm.trans hb') (by decide)
      clear hf; intro a ha hf; clear ha
      refine st_nil hf (th_n ?_)
      exact ⟨hf.sub ⟨rfl, rfl, rfl, (by rw [hb11]; rfl), trivial⟩, hp⟩
    refine st_fa (o' := 3) hf (by decide) (off := 3) (sz := 1) (by kernel_rfl) (by decide) (wantY hf rfl rfl hb11) rfl (hp.ob (i := 1) rfl) rfl ?_
    clear hf; intro a ha hf; clear ha
    refine st_ldO (u := .string f1_Body) hf (by decide) pl9 (wantY hf rfl rfl hb11) rfl (hp.ob (i := 1) rfl) rfl ?_
    clear hf; intro a ha hf; clear ha
    refine st_slen hf (by decide) Try.underlying9 (wantY hf rfl rfl hb11) rfl ?_
    clear hf; intro a ha hf; clear ha
    refine st_igtr hf (by decide) (wantY hf rfl rfl hb11) rfl rfl ?_
    clear hf; intro a ha hf; clear ha
    refine st_pick (v := .bool (decide ((240 : Int) < (f1_Body.size : Int)))) hf rfl rfl (fun hb' => ?_) (fun hb' => ?_) (by decide) ?_
    · exact absurd (hb11.symm.trans hb') (by decide)
    · rfl
    clear hf; intro a ha hf; clear ha
    refine st_nil hf (th_n ?_)
    exact ⟨hf.sub ⟨rfl, rfl, rfl, (by rw [hb11]; rfl), trivial⟩, hp⟩
  rintro a w ⟨hf, hp⟩
  refine st_nil hf ?_
  refine th_n ?_
  refine wp_if hf rfl (fun hb => ?_) (fun hb => ?_)
  · replace h := ifT h hb
    refine wp_seq ?_
    refine wp_reg ?_
    refine st_buildA (vals := []) (cells := [.int .u8 (0 : Int), .int .u8 (0 : Int), .bool false, .string ByteArray.empty]) hf (by decide) rfl (by simp []) (fun w => by kernel_rfl) ?_
    clear hf; intro a ha hf; clear ha
    refine st_assign hf rfl rfl (by decide) ?_
    clear hf; intro a ha hf; clear ha
    refine st_stO (us := [.int .u8 (0 : Int), .int .u8 (0 : Int), .bool false, .string ByteArray.empty]) hf hp (i := 0) rfl rfl rfl rfl rfl (by rfl) (by kernel_rfl) (Nat.le_of_ble_eq_true rfl) ?_
    clear hf; intro a w hf hp0; clear hp; have hp := hp0; clear hp0
    replace hp : Hp _ _ _ (Res.obj 31 v6 [.int .u8 (0 : Int), .int .u8 (0 : Int), .bool false, .string ByteArray.empty] :: Res.obj 31 v4 [.int .u8 f1_Kind, .int .u8 f1_Number, .bool f1_More, .string f1_Body] :: Res.sl Ek.bool 4 vr0_Kept r0_Kept :: Res.sl Ek.str 9 vr0_Bodies r0_Bodies :: Res.obj 37 or0 [.int .i64 r0_Window, .int .i64 r0_Next, vr0_Kept, vr0_Bodies] :: ow) := hp
    refine st_assign hf rfl rfl (by decide) ?_
    clear hf; intro a ha hf; clear ha
    refine st_nil hf ?_
    refine th_n ?_
    refine wp_ret ?_
    refine th_r ?_
    obtain rfl := Option.some.inj h
    have hp := hp.nil Ek.str 9
    have hp : Hp _ _ _ (Res.obj 31 v6 [.int .u8 (0 : Int), .int .u8 (0 : Int), .bool false, .string ByteArray.empty] :: Res.sl Ek.str 9 (.slice none 0 0) ([]) :: Res.sl Ek.bool 4 vr0_Kept r0_Kept :: Res.sl Ek.str 9 vr0_Bodies r0_Bodies :: Res.obj 37 or0 [.int .i64 r0_Window, .int .i64 r0_Next, vr0_Kept, vr0_Bodies] :: ow) := Hp.sel (pre := [Res.sl Ek.str 9 (.slice none 0 0) ([]), Res.obj 31 v6 [.int .u8 (0 : Int), .int .u8 (0 : Int), .bool false, .string ByteArray.empty], Res.obj 31 v4 [.int .u8 f1_Kind, .int .u8 f1_Number, .bool f1_More, .string f1_Body], Res.sl Ek.bool 4 vr0_Kept r0_Kept, Res.sl Ek.str 9 vr0_Bodies r0_Bodies, Res.obj 37 or0 [.int .i64 r0_Window, .int .i64 r0_Next, vr0_Kept, vr0_Bodies]]) (tail := ow) (rs' := [Res.obj 31 v6 [.int .u8 (0 : Int), .int .u8 (0 : Int), .bool false, .string ByteArray.empty], Res.sl Ek.str 9 (.slice none 0 0) ([]), Res.sl Ek.bool 4 vr0_Kept r0_Kept, Res.sl Ek.str 9 vr0_Bodies r0_Bodies, Res.obj 37 or0 [.int .i64 r0_Window, .int .i64 r0_Next, vr0_Kept, vr0_Bodies]]) hp [1, 0, 3, 4, 5] (by decide) (by simp) rfl
    exact ⟨rfl, ⟨_, _, _, _, hf.sub ⟨rfl, rfl, rfl, trivial⟩, hp⟩⟩
  replace h := ifF h hb
  refine wp_skip ?_
  refine th_n ?_
  refine wp_seq ?_
  obtain ⟨S13, hp14, rd15, up16, bk17⟩ := Hp.lendO hp (i := 1) rfl
  obtain ⟨S18, hp19, rd20, up21, bk22⟩ := Hp.lendO hp14 (i := 3) rfl
  have rl23 := rd20
  have rl24 := ((rd15.now hp14).mono up21)
  refine wp_cutN (fun a w => Fr 172 a [(0, or0), (3, optr v4 0), (5, optr v6 0), (7, .int .i64 (((IntKind.i64.wrap ((IntKind.i64.wrap ((IntKind.i64.wrap f1_Number) - ((r0_Next).tmod (256 : Int)))) + (256 : Int)))).tmod (256 : Int)))] ∧ Hp S w0 w (Res.obj 31 v4 [.int .u8 f1_Kind, .int .u8 f1_Number, .bool f1_More, .string f1_Body] :: Res.obj 37 or0 [.int .i64 r0_Window, .int .i64 r0_Next, vr0_Kept, vr0_Bodies] :: Res.obj 31 v6 [.int .u8 (0 : Int), .int .u8 (0 : Int), .bool false, .string ByteArray.empty] :: Res.sl Ek.bool 4 vr0_Kept r0_Kept :: Res.sl Ek.str 9 vr0_Bodies r0_Bodies :: ow)) ?_ ?_
  · have hp := hp19.same (Same.drew w)
    refine dr_begin' (fun a w => Fr 172 a [(0, or0), (3, optr v4 0), (5, optr v6 0), (7, .int .i64 (((IntKind.i64.wrap ((IntKind.i64.wrap ((IntKind.i64.wrap f1_Number) - ((r0_Next).tmod (256 : Int)))) + (256 : Int)))).tmod (256 : Int)))] ∧ Hp S w0 w (Res.obj 31 v4 [.int .u8 f1_Kind, .int .u8 f1_Number, .bool f1_More, .string f1_Body] :: Res.obj 37 or0 [.int .i64 r0_Window, .int .i64 r0_Next, vr0_Kept, vr0_Bodies] :: Res.obj 31 v6 [.int .u8 (0 : Int), .int .u8 (0 : Int), .bool false, .string ByteArray.empty] :: Res.sl Ek.bool 4 vr0_Kept r0_Kept :: Res.sl Ek.str 9 vr0_Bodies r0_Bodies :: ow)) (fun w' => ∃ l, Hp S18 w w' l) [] (by kernel_rfl) ?_
    refine dr_take 0 (optr v4 1) rfl (by kernel_rfl) (by kernel_rfl) (by kernel_rfl) (by kernel_rfl) rfl rfl hf (by decide) rfl (fun w hp => ?_) ⟨_, hp⟩ ?_
    · obtain ⟨_, hp⟩ := hp
      refine st_fa (o' := 1) hf (by decide) (off := 1) (sz := 1) (by kernel_rfl) (by decide) rfl rfl (rl24.ob hp) rfl ?_
      clear hf; intro a ha hf
      exact st_nil hf (th_n ⟨ha, rfl⟩)
    clear hf; intro a hf
    refine dr_take 1 (.int .u8 f1_Number) rfl (by kernel_rfl) (by kernel_rfl) (by kernel_rfl) (by kernel_rfl) rfl rfl hf (by decide) rfl (fun w hp => ?_) ⟨_, hp⟩ ?_
    · obtain ⟨_, hp⟩ := hp
      refine st_ldO (u := .int .u8 f1_Number) hf (by decide) pl5 rfl rfl (rl24.ob hp) rfl ?_
      clear hf; intro a ha hf
      exact st_nil hf (th_n ⟨ha, rfl⟩)
    clear hf; intro a hf
    refine dr_take 2 (.int .i64 (IntKind.i64.wrap f1_Number)) rfl (by kernel_rfl) (by kernel_rfl) (by kernel_rfl) (by kernel_rfl) rfl rfl hf (by decide) rfl (fun w hp => ?_) ⟨_, hp⟩ ?_
    · obtain ⟨_, hp⟩ := hp
      refine st_conv_ii hf (by decide) (by rw [Try.underlying5]; rfl) Try.underlying3 rfl rfl ?_
      clear hf; intro a ha hf
      exact st_nil hf (th_n ⟨ha, rfl⟩)
    clear hf; intro a hf
    refine dr_take 3 (or0) rfl (by kernel_rfl) (by kernel_rfl) (by kernel_rfl) (by kernel_rfl) rfl rfl hf (by decide) rfl (fun w hp => ?_) ⟨_, hp⟩ ?_
    · obtain ⟨_, hp⟩ := hp
      refine st_move hf rfl rfl (by decide) ?_
      clear hf; intro a ha hf
      exact st_nil hf (th_n ⟨ha, rfl⟩)
    clear hf; intro a hf
    refine dr_nilV 4 rfl (by kernel_rfl) (by kernel_rfl) (by kernel_rfl) hf (by decide) rfl rfl (rl23.ob hp) ?_
    clear hf; intro a hf
    refine dr_take 5 (optr or0 1) rfl (by kernel_rfl) (by kernel_rfl) (by kernel_rfl) (by kernel_rfl) rfl rfl hf (by decide) rfl (fun w hp => ?_) ⟨_, hp⟩ ?_
    · obtain ⟨_, hp⟩ := hp
      refine st_fa (o' := 1) hf (by decide) (off := 1) (sz := 1) (by kernel_rfl) (by decide) rfl rfl (rl23.ob hp) rfl ?_
      clear hf; intro a ha hf
      exact st_nil hf (th_n ⟨ha, rfl⟩)
    clear hf; intro a hf
    refine dr_take 6 (.int .i64 r0_Next) rfl (by kernel_rfl) (by kernel_rfl) (by kernel_rfl) (by kernel_rfl) rfl rfl hf (by decide) rfl (fun w hp => ?_) ⟨_, hp⟩ ?_
    · obtain ⟨_, hp⟩ := hp
      refine st_ldO (u := .int .i64 r0_Next) hf (by decide) pl3 rfl rfl (rl23.ob hp) rfl ?_
      clear hf; intro a ha hf
      exact st_nil hf (th_n ⟨ha, rfl⟩)
    clear hf; intro a hf
    refine dr_take 7 (.int .i64 ((r0_Next).tmod (256 : Int))) rfl (by kernel_rfl) (by kernel_rfl) (by kernel_rfl) (by kernel_rfl) rfl rfl hf (by decide) rfl (fun w hp => ?_) ⟨_, hp⟩ ?_
    · obtain ⟨_, hp⟩ := hp
      refine st_irem hf (by decide) rfl rfl rfl (by decide) ?_
      clear hf; intro a ha hf
      exact st_nil hf (th_n ⟨ha, rfl⟩)
    clear hf; intro a hf
    refine dr_take 8 (.int .i64 (IntKind.i64.wrap ((IntKind.i64.wrap f1_Number) - ((r0_Next).tmod (256 : Int))))) rfl (by kernel_rfl) (by kernel_rfl) (by kernel_rfl) (by kernel_rfl) rfl rfl hf (by decide) rfl (fun w hp => ?_) ⟨_, hp⟩ ?_
    · obtain ⟨_, hp⟩ := hp
      refine st_isub hf (by decide) rfl rfl rfl ?_
      clear hf; intro a ha hf
      exact st_nil hf (th_n ⟨ha, rfl⟩)
    clear hf; intro a hf
    refine dr_take 9 (.int .i64 (IntKind.i64.wrap ((IntKind.i64.wrap ((IntKind.i64.wrap f1_Number) - ((r0_Next).tmod (256 : Int)))) + (256 : Int)))) rfl (by kernel_rfl) (by kernel_rfl) (by kernel_rfl) (by kernel_rfl) rfl rfl hf (by decide) rfl (fun w hp => ?_) ⟨_, hp⟩ ?_
    · obtain ⟨_, hp⟩ := hp
      refine st_iadd hf (by decide) rfl rfl rfl ?_
      clear hf; intro a ha hf
      exact st_nil hf (th_n ⟨ha, rfl⟩)
    clear hf; intro a hf
    refine dr_take 10 (.int .i64 (((IntKind.i64.wrap ((IntKind.i64.wrap ((IntKind.i64.wrap f1_Number) - ((r0_Next).tmod (256 : Int)))) + (256 : Int)))).tmod (256 : Int))) rfl (by kernel_rfl) (by kernel_rfl) (by kernel_rfl) (by kernel_rfl) rfl rfl hf (by decide) rfl (fun w hp => ?_) ⟨_, hp⟩ ?_
    · obtain ⟨_, hp⟩ := hp
      refine st_irem hf (by decide) rfl rfl rfl (by decide) ?_
      clear hf; intro a ha hf
      exact st_nil hf (th_n ⟨ha, rfl⟩)
    clear hf; intro a hf
    refine dr_take 11 (.int .i64 (((IntKind.i64.wrap ((IntKind.i64.wrap ((IntKind.i64.wrap f1_Number) - ((r0_Next).tmod (256 : Int)))) + (256 : Int)))).tmod (256 : Int))) rfl (by kernel_rfl) (by kernel_rfl) (by kernel_rfl) (by kernel_rfl) rfl rfl hf (by decide) rfl (fun w hp => ?_) ⟨_, hp⟩ ?_
    · obtain ⟨_, hp⟩ := hp
      refine st_assign hf rfl rfl (by decide) ?_
      clear hf; intro a ha hf
      exact st_nil hf (th_n ⟨ha, rfl⟩)
    clear hf; intro a hf
    refine dr_end (by kernel_rfl) ?_ _
    have hp := bk22 _ _ hp
    have hp := bk17 _ _ hp
    exact ⟨hf.sub ⟨rfl, rfl, rfl, rfl, trivial⟩, hp⟩
  rintro a w ⟨hf, hp⟩
  refine th_n ?_
  refine wp_seq_cut (fun a w => ∃ (r0c_0 : Int) (r0c_1 : Int) (r0c_2 : (List Bool)) (r0c_3 : (List ByteArray)) (v25 : Value) (v27 : Value), f_foghornref28_Receiver_Take.j1 r0c_0 r0c_1 r0c_2 r0c_3 = some r ∧ Fr 172 a [(0, or0), (5, optr v6 0)] ∧ Hp S w0 w (Res.sl Ek.bool 4 v25 r0c_2 :: Res.sl Ek.str 9 v27 r0c_3 :: Res.obj 37 or0 [.int .i64 r0c_0, .int .i64 r0c_1, v25, v27] :: Res.obj 31 v6 [.int .u8 (0 : Int), .int .u8 (0 : Int), .bool false, .string ByteArray.empty] :: ow)) ?_ ?_
  · skip
    refine wp_seq ?_
    refine wp_reg ?_
    refine st_move hf rfl rfl (by decide) ?_
    clear hf; intro a ha hf; clear ha
    refine st_move hf rfl rfl (by decide) ?_
    clear hf; intro a ha hf; clear ha
    refine st_nilV hf (by decide) rfl rfl (hp.ob (i := 1) rfl) ?_
    clear hf; intro a ha hf; clear ha
    refine st_fa (o' := 0) hf (by decide) (off := 0) (sz := 1) (by kernel_rfl) (by decide) rfl rfl (hp.ob (i := 1) rfl) rfl ?_
    clear hf; intro a ha hf; clear ha
    refine st_ldO (u := .int .i64 r0_Window) hf (by decide) pl3 rfl rfl (hp.ob (i := 1) rfl) rfl ?_
    clear hf; intro a ha hf; clear ha
    refine st_ilss hf (by decide) rfl rfl rfl ?_
    clear hf; intro a ha hf; clear ha
    refine st_move hf rfl rfl (by decide) ?_
    clear hf; intro a ha hf; clear ha
    obtain ⟨z128, hz126, h⟩ := bnd h
    refine wpList_cut 10 (fun a w => Fr 172 a [(0, or0), (3, optr v4 0), (5, optr v6 0), (7, .int .i64 (((IntKind.i64.wrap ((IntKind.i64.wrap ((IntKind.i64.wrap f1_Number) - ((r0_Next).tmod (256 : Int)))) + (256 : Int)))).tmod (256 : Int))), (52, .bool z128)] ∧ Hp S w0 w (Res.obj 31 v4 [.int .u8 f1_Kind, .int .u8 f1_Number, .bool f1_More, .string f1_Body] :: Res.obj 37 or0 [.int .i64 r0_Window, .int .i64 r0_Next, vr0_Kept, vr0_Bodies] :: Res.obj 31 v6 [.int .u8 (0 : Int), .int .u8 (0 : Int), .bool false, .string ByteArray.empty] :: Res.sl Ek.bool 4 vr0_Kept r0_Kept :: Res.sl Ek.str 9 vr0_Bodies r0_Bodies :: ow)) ?_ ?_
    · rcases Bool.eq_false_or_eq_true (decide ((((IntKind.i64.wrap ((IntKind.i64.wrap ((IntKind.i64.wrap f1_Number) - ((r0_Next).tmod (256 : Int)))) + (256 : Int)))).tmod (256 : Int)) < r0_Window)) with hb127 | hb127
      · skip
        replace hz126 := ifT hz126 hb127
        refine st_move hf (wantY hf rfl rfl hb127) rfl (by decide) ?_
        clear hf; intro a ha hf; clear ha
        refine st_move hf (wantY hf rfl rfl hb127) rfl (by decide) ?_
        clear hf; intro a ha hf; clear ha
        refine st_nilV hf (by decide) (wantY hf rfl rfl hb127) rfl (hp.ob (i := 1) rfl) ?_
        clear hf; intro a ha hf; clear ha
        refine st_fa (o' := 1) hf (by decide) (off := 1) (sz := 1) (by kernel_rfl) (by decide) (wantY hf rfl rfl hb127) rfl (hp.ob (i := 1) rfl) rfl ?_
        clear hf; intro a ha hf; clear ha
        refine st_ldO (u := .int .i64 r0_Next) hf (by decide) pl3 (wantY hf rfl rfl hb127) rfl (hp.ob (i := 1) rfl) rfl ?_
        clear hf; intro a ha hf; clear ha
        refine st_move hf (wantY hf rfl rfl hb127) rfl (by decide) ?_
        clear hf; intro a ha hf; clear ha
        refine st_iadd hf (by decide) (wantY hf rfl rfl hb127) rfl rfl ?_
        clear hf; intro a ha hf; clear ha
        obtain ⟨q129, hcall130, hz126⟩ := bnd hz126
        obtain ⟨S131, hp132, rd133, up134, bk135⟩ := Hp.lendS hp (i := 3) rfl
        obtain ⟨S136, hp137, rd138, up139, bk140⟩ := Hp.lendS hp132 (i := 3) rfl
        obtain ⟨S141, hp142, rd143, up144, bk145⟩ := Hp.lendO hp137 (i := 1) rfl
        refine st_call hf (by decide) Try.func29 rfl rfl (wantY hf rfl rfl hb127) rfl rfl (f_foghornref28_Receiver_kept_c hp142 _ _ _ _ ((((rd133.now hp132).mono up139).now hp137).mono up144) _ _ ((rd138.now hp137).mono up144) _ rd143 _ hcall130) ?_
        rintro _ w ⟨rfl, hp0⟩
        have hp0 := bk145 _ _ hp0
        have hp0 := bk140 _ _ hp0
        have hp0 := bk135 _ _ hp0
        clear hp; have hp := hp0; clear hp0
        replace hp : Hp _ _ _ (Res.sl Ek.bool 4 vr0_Kept r0_Kept :: Res.sl Ek.str 9 vr0_Bodies r0_Bodies :: Res.obj 37 or0 [.int .i64 r0_Window, .int .i64 r0_Next, vr0_Kept, vr0_Bodies] :: Res.obj 31 v4 [.int .u8 f1_Kind, .int .u8 f1_Number, .bool f1_More, .string f1_Body] :: Res.obj 31 v6 [.int .u8 (0 : Int), .int .u8 (0 : Int), .bool false, .string ByteArray.empty] :: ow) := hp
        refine ⟨_, rfl, ?_⟩
        clear hf; intro a hf
        refine st_not hf (by decide) (wantY hf rfl rfl hb127) rfl ?_
        clear hf; intro a ha hf; clear ha
        obtain rfl := Option.some.inj hz126
        refine st_pick (v := .bool (!q129)) hf rfl rfl (fun hb' => ?_) (fun hb' => ?_) (by decide) ?_
        · rfl
        · exact absurd (hb127.symm.trans hb') (by decide)
        clear hf; intro a ha hf; clear ha
        refine st_nil hf (th_n ?_)
        have hp : Hp _ _ _ (Res.obj 31 v4 [.int .u8 f1_Kind, .int .u8 f1_Number, .bool f1_More, .string f1_Body] :: Res.obj 37 or0 [.int .i64 r0_Window, .int .i64 r0_Next, vr0_Kept, vr0_Bodies] :: Res.obj 31 v6 [.int .u8 (0 : Int), .int .u8 (0 : Int), .bool false, .string ByteArray.empty] :: Res.sl Ek.bool 4 vr0_Kept r0_Kept :: Res.sl Ek.str 9 vr0_Bodies r0_Bodies :: ow) := Hp.sel (pre := [Res.sl Ek.bool 4 vr0_Kept r0_Kept, Res.sl Ek.str 9 vr0_Bodies r0_Bodies, Res.obj 37 or0 [.int .i64 r0_Window, .int .i64 r0_Next, vr0_Kept, vr0_Bodies], Res.obj 31 v4 [.int .u8 f1_Kind, .int .u8 f1_Number, .bool f1_More, .string f1_Body], Res.obj 31 v6 [.int .u8 (0 : Int), .int .u8 (0 : Int), .bool false, .string ByteArray.empty]]) (tail := ow) (rs' := [Res.obj 31 v4 [.int .u8 f1_Kind, .int .u8 f1_Number, .bool f1_More, .string f1_Body], Res.obj 37 or0 [.int .i64 r0_Window, .int .i64 r0_Next, vr0_Kept, vr0_Bodies], Res.obj 31 v6 [.int .u8 (0 : Int), .int .u8 (0 : Int), .bool false, .string ByteArray.empty], Res.sl Ek.bool 4 vr0_Kept r0_Kept, Res.sl Ek.str 9 vr0_Bodies r0_Bodies]) hp [3, 2, 4, 0, 1] (by decide) (by simp) rfl
        exact ⟨hf.sub ⟨rfl, rfl, rfl, rfl, rfl, trivial⟩, hp⟩
      replace hz126 := ifF hz126 hb127
      refine st_skip hf (wantN hf rfl rfl hb127) rfl (by decide) ?_ rfl
      clear hf; intro a hf
      refine st_skip hf (wantN hf rfl rfl hb127) rfl (by decide) ?_ rfl
      clear hf; intro a hf
      refine st_skip hf (wantN hf rfl rfl hb127) rfl (by decide) ?_ rfl
      clear hf; intro a hf
      refine st_skip hf (wantN hf rfl rfl hb127) rfl (by decide) ?_ rfl
      clear hf; intro a hf
      refine st_skip hf (wantN hf rfl rfl hb127) rfl (by decide) ?_ rfl
      clear hf; intro a hf
      refine st_skip hf (wantN hf rfl rfl hb127) rfl (by decide) ?_ rfl
      clear hf; intro a hf
      refine st_skip hf (wantN hf rfl rfl hb127) rfl (by decide) ?_ rfl
      clear hf; intro a hf
      refine st_skip hf (wantN hf rfl rfl hb127) rfl (by decide) ?_ rfl
      clear hf; intro a hf
      refine st_skip hf (wantN hf rfl rfl hb127) rfl (by decide) ?_ rfl
      clear hf; intro a hf
      obtain rfl := Option.some.inj hz126
      refine st_pick (v := .bool false) hf rfl rfl (fun hb' => ?_) (fun hb' => ?_) (by decide) ?_
      · exact absurd (hb127.symm.trans hb') (by decide)
      · rfl
      clear hf; intro a ha hf; clear ha
      refine st_nil hf (th_n ?_)
      exact ⟨hf.sub ⟨rfl, rfl, rfl, rfl, rfl, trivial⟩, hp⟩
    rintro a w ⟨hf, hp⟩
    refine st_nil hf ?_
    refine th_n ?_
    refine wp_if hf rfl (fun hb => ?_) (fun hb => ?_)
    · replace h := ifT h hb
      refine wp_seq ?_
      refine wp_block ?_
      obtain ⟨q176, hl, h⟩ := bnd h
      have hp : Hp _ _ _ (Res.sl Ek.bool 4 vr0_Kept r0_Kept :: Res.sl Ek.str 9 vr0_Bodies r0_Bodies :: Res.obj 37 or0 [.int .i64 r0_Window, .int .i64 r0_Next, vr0_Kept, vr0_Bodies] :: Res.obj 31 v4 [.int .u8 f1_Kind, .int .u8 f1_Number, .bool f1_More, .string f1_Body] :: Res.obj 31 v6 [.int .u8 (0 : Int), .int .u8 (0 : Int), .bool false, .string ByteArray.empty] :: ow) := Hp.sel (pre := [Res.obj 31 v4 [.int .u8 f1_Kind, .int .u8 f1_Number, .bool f1_More, .string f1_Body], Res.obj 37 or0 [.int .i64 r0_Window, .int .i64 r0_Next, vr0_Kept, vr0_Bodies], Res.obj 31 v6 [.int .u8 (0 : Int), .int .u8 (0 : Int), .bool false, .string ByteArray.empty], Res.sl Ek.bool 4 vr0_Kept r0_Kept, Res.sl Ek.str 9 vr0_Bodies r0_Bodies]) (tail := ow) (rs' := [Res.sl Ek.bool 4 vr0_Kept r0_Kept, Res.sl Ek.str 9 vr0_Bodies r0_Bodies, Res.obj 37 or0 [.int .i64 r0_Window, .int .i64 r0_Next, vr0_Kept, vr0_Bodies], Res.obj 31 v4 [.int .u8 f1_Kind, .int .u8 f1_Number, .bool f1_More, .string f1_Body], Res.obj 31 v6 [.int .u8 (0 : Int), .int .u8 (0 : Int), .bool false, .string ByteArray.empty]]) hp [3, 4, 1, 0, 2] (by decide) (by simp) rfl
      refine wp_loop_pure (f := (f_foghornref28_Receiver_Take.s3 r0_Next f1_Number)) (s := (r0_Window, r0_Next, r0_Kept, r0_Bodies)) (fun s a w => ∃ (v146 : Value) (v148 : Value), Fr 172 a [(0, or0), (3, optr v4 0), (5, optr v6 0), (7, .int .i64 (((IntKind.i64.wrap ((IntKind.i64.wrap ((IntKind.i64.wrap f1_Number) - ((r0_Next).tmod (256 : Int)))) + (256 : Int)))).tmod (256 : Int)))] ∧ Hp S w0 w (Res.sl Ek.bool 4 v146 s.2.2.1 :: Res.sl Ek.str 9 v148 s.2.2.2 :: Res.obj 37 or0 [.int .i64 s.1, .int .i64 s.2.1, v146, v148] :: Res.obj 31 v4 [.int .u8 f1_Kind, .int .u8 f1_Number, .bool f1_More, .string f1_Body] :: Res.obj 31 v6 [.int .u8 (0 : Int), .int .u8 (0 : Int), .bool false, .string ByteArray.empty] :: ow)) (fun q e a w => e = .exit 0 ∧ ∃ (v151 : Value) (v153 : Value), Fr 172 a [(0, or0), (3, optr v4 0), (5, optr v6 0), (7, .int .i64 (((IntKind.i64.wrap ((IntKind.i64.wrap ((IntKind.i64.wrap f1_Number) - ((r0_Next).tmod (256 : Int)))) + (256 : Int)))).tmod (256 : Int)))] ∧ Hp S w0 w (Res.sl Ek.bool 4 v151 q.2.2.1 :: Res.sl Ek.str 9 v153 q.2.2.2 :: Res.obj 37 or0 [.int .i64 q.1, .int .i64 q.2.1, v151, v153] :: Res.obj 31 v4 [.int .u8 f1_Kind, .int .u8 f1_Number, .bool f1_More, .string f1_Body] :: Res.obj 31 v6 [.int .u8 (0 : Int), .int .u8 (0 : Int), .bool false, .string ByteArray.empty] :: ow)) ?_ hl ⟨_, _, hf.sub ⟨rfl, rfl, rfl, rfl, trivial⟩, hp⟩ ?_
      · clear hl hf hp
        intro s x a w h hI
        obtain ⟨r0c_0, r0c_1, r0c_2, r0c_3⟩ := s
        obtain ⟨v146, v148, hf, hp⟩ : ∃ (v146 : Value) (v148 : Value), Fr 172 a [(0, or0), (3, optr v4 0), (5, optr v6 0), (7, .int .i64 (((IntKind.i64.wrap ((IntKind.i64.wrap ((IntKind.i64.wrap f1_Number) - ((r0_Next).tmod (256 : Int)))) + (256 : Int)))).tmod (256 : Int)))] ∧ Hp S w0 w (Res.sl Ek.bool 4 v146 r0c_2 :: Res.sl Ek.str 9 v148 r0c_3 :: Res.obj 37 or0 [.int .i64 r0c_0, .int .i64 r0c_1, v146, v148] :: Res.obj 31 v4 [.int .u8 f1_Kind, .int .u8 f1_Number, .bool f1_More, .string f1_Body] :: Res.obj 31 v6 [.int .u8 (0 : Int), .int .u8 (0 : Int), .bool false, .string ByteArray.empty] :: ow) := hI
        replace h : f_foghornref28_Receiver_Take.s3c r0_Next f1_Number r0c_0 r0c_1 r0c_2 r0c_3 = some x := h
        unfold f_foghornref28_Receiver_Take.s3c at h
        refine wp_seq ?_
        refine wp_seq ?_
        obtain ⟨S156, hp157, rd158, up159, bk160⟩ := Hp.lendO hp (i := 2) rfl
        obtain ⟨S161, hp162, rd163, up164, bk165⟩ := Hp.lendS hp157 (i := 0) rfl
        have rl166 := ((rd158.now hp157).mono up164)
        have rl167 := rd163
        refine wp_cutN (fun a w => Fr 172 a [(0, or0), (3, optr v4 0), (5, optr v6 0), (7, .int .i64 (((IntKind.i64.wrap ((IntKind.i64.wrap ((IntKind.i64.wrap f1_Number) - ((r0_Next).tmod (256 : Int)))) + (256 : Int)))).tmod (256 : Int))), (64, .bool (decide ((r0c_2.length : Int) ≤ (IntKind.i64.wrap (r0c_1 + (((IntKind.i64.wrap ((IntKind.i64.wrap ((IntKind.i64.wrap f1_Number) - ((r0_Next).tmod (256 : Int)))) + (256 : Int)))).tmod (256 : Int)))))))] ∧ Hp S w0 w (Res.obj 37 or0 [.int .i64 r0c_0, .int .i64 r0c_1, v146, v148] :: Res.sl Ek.bool 4 v146 r0c_2 :: Res.sl Ek.str 9 v148 r0c_3 :: Res.obj 31 v4 [.int .u8 f1_Kind, .int .u8 f1_Number, .bool f1_More, .string f1_Body] :: Res.obj 31 v6 [.int .u8 (0 : Int), .int .u8 (0 : Int), .bool false, .string ByteArray.empty] :: ow)) ?_ ?_
        · have hp := hp162.same (Same.drew w)
          refine dr_begin' (fun a w => Fr 172 a [(0, or0), (3, optr v4 0), (5, optr v6 0), (7, .int .i64 (((IntKind.i64.wrap ((IntKind.i64.wrap ((IntKind.i64.wrap f1_Number) - ((r0_Next).tmod (256 : Int)))) + (256 : Int)))).tmod (256 : Int))), (64, .bool (decide ((r0c_2.length : Int) ≤ (IntKind.i64.wrap (r0c_1 + (((IntKind.i64.wrap ((IntKind.i64.wrap ((IntKind.i64.wrap f1_Number) - ((r0_Next).tmod (256 : Int)))) + (256 : Int)))).tmod (256 : Int)))))))] ∧ Hp S w0 w (Res.obj 37 or0 [.int .i64 r0c_0, .int .i64 r0c_1, v146, v148] :: Res.sl Ek.bool 4 v146 r0c_2 :: Res.sl Ek.str 9 v148 r0c_3 :: Res.obj 31 v4 [.int .u8 f1_Kind, .int .u8 f1_Number, .bool f1_More, .string f1_Body] :: Res.obj 31 v6 [.int .u8 (0 : Int), .int .u8 (0 : Int), .bool false, .string ByteArray.empty] :: ow)) (fun w' => ∃ l, Hp S161 w w' l) [] (by kernel_rfl) ?_
          refine dr_take 0 (or0) rfl (by kernel_rfl) (by kernel_rfl) (by kernel_rfl) (by kernel_rfl) rfl rfl hf (by decide) rfl (fun w hp => ?_) ⟨_, hp⟩ ?_
          · obtain ⟨_, hp⟩ := hp
            refine st_move hf rfl rfl (by decide) ?_
            clear hf; intro a ha hf
            exact st_nil hf (th_n ⟨ha, rfl⟩)
          clear hf; intro a hf
          refine dr_nilV 1 rfl (by kernel_rfl) (by kernel_rfl) (by kernel_rfl) hf (by decide) rfl rfl (rl166.ob hp) ?_
          clear hf; intro a hf
          refine dr_take 2 (optr or0 2) rfl (by kernel_rfl) (by kernel_rfl) (by kernel_rfl) (by kernel_rfl) rfl rfl hf (by decide) rfl (fun w hp => ?_) ⟨_, hp⟩ ?_
          · obtain ⟨_, hp⟩ := hp
            refine st_fa (o' := 2) hf (by decide) (off := 2) (sz := 1) (by kernel_rfl) (by decide) rfl rfl (rl166.ob hp) rfl ?_
            clear hf; intro a ha hf
            exact st_nil hf (th_n ⟨ha, rfl⟩)
          clear hf; intro a hf
          refine dr_take 3 (v146) rfl (by kernel_rfl) (by kernel_rfl) (by kernel_rfl) (by kernel_rfl) rfl rfl hf (by decide) rfl (fun w hp => ?_) ⟨_, hp⟩ ?_
          · obtain ⟨_, hp⟩ := hp
            refine st_ldO (u := v146) hf (by decide) pl34 rfl rfl (rl166.ob hp) rfl ?_
            clear hf; intro a ha hf
            exact st_nil hf (th_n ⟨ha, rfl⟩)
          clear hf; intro a hf
          refine dr_take 4 (.int .i64 (r0c_2.length : Int)) rfl (by kernel_rfl) (by kernel_rfl) (by kernel_rfl) (by kernel_rfl) rfl rfl hf (by decide) rfl (fun w hp => ?_) ⟨_, hp⟩ ?_
          · obtain ⟨_, hp⟩ := hp
            refine st_len (E := Ek.bool) hf (by decide) Try.underlying34 rfl rfl (rl167.sl hp) ?_
            clear hf; intro a ha hf
            exact st_nil hf (th_n ⟨ha, rfl⟩)
          clear hf; intro a hf
          refine dr_take 5 (or0) rfl (by kernel_rfl) (by kernel_rfl) (by kernel_rfl) (by kernel_rfl) rfl rfl hf (by decide) rfl (fun w hp => ?_) ⟨_, hp⟩ ?_
          · obtain ⟨_, hp⟩ := hp
            refine st_move hf rfl rfl (by decide) ?_
            clear hf; intro a ha hf
            exact st_nil hf (th_n ⟨ha, rfl⟩)
          clear hf; intro a hf
          refine dr_nilV 6 rfl (by kernel_rfl) (by kernel_rfl) (by kernel_rfl) hf (by decide) rfl rfl (rl166.ob hp) ?_
          clear hf; intro a hf
          refine dr_take 7 (optr or0 1) rfl (by kernel_rfl) (by kernel_rfl) (by kernel_rfl) (by kernel_rfl) rfl rfl hf (by decide) rfl (fun w hp => ?_) ⟨_, hp⟩ ?_
          · obtain ⟨_, hp⟩ := hp
            refine st_fa (o' := 1) hf (by decide) (off := 1) (sz := 1) (by kernel_rfl) (by decide) rfl rfl (rl166.ob hp) rfl ?_
            clear hf; intro a ha hf
            exact st_nil hf (th_n ⟨ha, rfl⟩)
          clear hf; intro a hf
          refine dr_take 8 (.int .i64 r0c_1) rfl (by kernel_rfl) (by kernel_rfl) (by kernel_rfl) (by kernel_rfl) rfl rfl hf (by decide) rfl (fun w hp => ?_) ⟨_, hp⟩ ?_
          · obtain ⟨_, hp⟩ := hp
            refine st_ldO (u := .int .i64 r0c_1) hf (by decide) pl3 rfl rfl (rl166.ob hp) rfl ?_
            clear hf; intro a ha hf
            exact st_nil hf (th_n ⟨ha, rfl⟩)
          clear hf; intro a hf
          refine dr_take 9 (.int .i64 (((IntKind.i64.wrap ((IntKind.i64.wrap ((IntKind.i64.wrap f1_Number) - ((r0_Next).tmod (256 : Int)))) + (256 : Int)))).tmod (256 : Int))) rfl (by kernel_rfl) (by kernel_rfl) (by kernel_rfl) (by kernel_rfl) rfl rfl hf (by decide) rfl (fun w hp => ?_) ⟨_, hp⟩ ?_
          · obtain ⟨_, hp⟩ := hp
            refine st_move hf rfl rfl (by decide) ?_
            clear hf; intro a ha hf
            exact st_nil hf (th_n ⟨ha, rfl⟩)
          clear hf; intro a hf
          refine dr_take 10 (.int .i64 (IntKind.i64.wrap (r0c_1 + (((IntKind.i64.wrap ((IntKind.i64.wrap ((IntKind.i64.wrap f1_Number) - ((r0_Next).tmod (256 : Int)))) + (256 : Int)))).tmod (256 : Int))))) rfl (by kernel_rfl) (by kernel_rfl) (by kernel_rfl) (by kernel_rfl) rfl rfl hf (by decide) rfl (fun w hp => ?_) ⟨_, hp⟩ ?_
          · obtain ⟨_, hp⟩ := hp
            refine st_iadd hf (by decide) rfl rfl rfl ?_
            clear hf; intro a ha hf
            exact st_nil hf (th_n ⟨ha, rfl⟩)
          clear hf; intro a hf
          refine dr_take 11 (.bool (decide ((r0c_2.length : Int) ≤ (IntKind.i64.wrap (r0c_1 + (((IntKind.i64.wrap ((IntKind.i64.wrap ((IntKind.i64.wrap f1_Number) - ((r0_Next).tmod (256 : Int)))) + (256 : Int)))).tmod (256 : Int))))))) rfl (by kernel_rfl) (by kernel_rfl) (by kernel_rfl) (by kernel_rfl) rfl rfl hf (by decide) rfl (fun w hp => ?_) ⟨_, hp⟩ ?_
          · obtain ⟨_, hp⟩ := hp
            refine st_ileq hf (by decide) rfl rfl rfl ?_
            clear hf; intro a ha hf
            exact st_nil hf (th_n ⟨ha, rfl⟩)
          clear hf; intro a hf
          refine dr_end (by kernel_rfl) ?_ _
          have hp := bk165 _ _ hp
          have hp := bk160 _ _ hp
          exact ⟨hf.sub ⟨rfl, rfl, rfl, rfl, rfl, trivial⟩, hp⟩
        rintro a w ⟨hf, hp⟩
        refine th_n ?_
        refine wp_if hf rfl (fun hb => ?_) (fun hb => ?_)
        · replace h := ifT h hb
          refine wp_skip ?_
          refine th_n ?_
          refine wp_block ?_
          refine wp_seq ?_
          refine wp_reg ?_
          refine st_move hf rfl rfl (by decide) ?_
          clear hf; intro a ha hf; clear ha
          refine st_move hf rfl rfl (by decide) ?_
          clear hf; intro a ha hf; clear ha
          refine st_nilV hf (by decide) rfl rfl (hp.ob (i := 0) rfl) ?_
          clear hf; intro a ha hf; clear ha
          refine st_fa (o' := 2) hf (by decide) (off := 2) (sz := 1) (by kernel_rfl) (by decide) rfl rfl (hp.ob (i := 0) rfl) rfl ?_
          clear hf; intro a ha hf; clear ha
          refine st_ldO (u := v146) hf (by decide) pl34 rfl rfl (hp.ob (i := 0) rfl) rfl ?_
          clear hf; intro a ha hf; clear ha
          refine st_build (E := Ek.bool) (xs := [false]) hf (by decide) elt4 Try.underlying34 hp (vals := #[(0, .bool false)]) (cells := #[.bool false]) rfl (by simp [hf.ev (x := (Operand.const (.bool false))) rfl]) (by decide) (by decide) (z := .bool false) (by kernel_rfl) (by kernel_rfl) rfl (reps_cons (cs := [.bool false]) rfl (reps_nil _)) ?_
          clear hf; intro a w v168 hf hp0; clear hp; have hp := hp0; clear hp0
          replace hp : Hp _ _ _ (Res.sl Ek.bool 4 v168 ([false]) :: Res.obj 37 or0 [.int .i64 r0c_0, .int .i64 r0c_1, v146, v148] :: Res.sl Ek.bool 4 v146 r0c_2 :: Res.sl Ek.str 9 v148 r0c_3 :: Res.obj 31 v4 [.int .u8 f1_Kind, .int .u8 f1_Number, .bool f1_More, .string f1_Body] :: Res.obj 31 v6 [.int .u8 (0 : Int), .int .u8 (0 : Int), .bool false, .string ByteArray.empty] :: ow) := hp
          obtain ⟨hc170, h⟩ := chk h
          refine st_append (E := Ek.bool) hf (by decide) elt4 Try.underlying34 (by decide) hp (i := 2) rfl rfl rfl rfl (hp.sl (i := 0) rfl) hc170 ?_
          clear hf; intro a w v171 hf hp0; clear hp; have hp := hp0; clear hp0
          replace hp : Hp _ _ _ (Res.sl Ek.bool 4 v168 ([false]) :: Res.obj 37 or0 [.int .i64 r0c_0, .int .i64 r0c_1, v146, v148] :: Res.sl Ek.bool 4 v171 (r0c_2 ++ [false]) :: Res.sl Ek.str 9 v148 r0c_3 :: Res.obj 31 v4 [.int .u8 f1_Kind, .int .u8 f1_Number, .bool f1_More, .string f1_Body] :: Res.obj 31 v6 [.int .u8 (0 : Int), .int .u8 (0 : Int), .bool false, .string ByteArray.empty] :: ow) := hp
          refine st_nilV hf (by decide) rfl rfl (hp.ob (i := 1) rfl) ?_
          clear hf; intro a ha hf; clear ha
          refine st_fa (o' := 2) hf (by decide) (off := 2) (sz := 1) (by kernel_rfl) (by decide) rfl rfl (hp.ob (i := 1) rfl) rfl ?_
          clear hf; intro a ha hf; clear ha
          refine st_stO (us := [v171]) hf hp (i := 1) rfl rfl rfl rfl (cells_sh (hp.sl (i := 2) rfl).shapeV) (ones_sh (hp.sl (i := 2) rfl).shapeV) (by kernel_rfl) (Nat.le_of_ble_eq_true rfl) ?_
          clear hf; intro a w hf hp0; clear hp; have hp := hp0; clear hp0
          replace hp : Hp _ _ _ (Res.sl Ek.bool 4 v168 ([false]) :: Res.obj 37 or0 [.int .i64 r0c_0, .int .i64 r0c_1, v171, v148] :: Res.sl Ek.bool 4 v171 (r0c_2 ++ [false]) :: Res.sl Ek.str 9 v148 r0c_3 :: Res.obj 31 v4 [.int .u8 f1_Kind, .int .u8 f1_Number, .bool f1_More, .string f1_Body] :: Res.obj 31 v6 [.int .u8 (0 : Int), .int .u8 (0 : Int), .bool false, .string ByteArray.empty] :: ow) := hp
          refine st_nil hf ?_
          refine th_n ?_
          refine wp_reg ?_
          refine st_move hf rfl rfl (by decide) ?_
          clear hf; intro a ha hf; clear ha
          refine st_move hf rfl rfl (by decide) ?_
          clear hf; intro a ha hf; clear ha
          refine st_nilV hf (by decide) rfl rfl (hp.ob (i := 1) rfl) ?_
          clear hf; intro a ha hf; clear ha
          refine st_fa (o' := 3) hf (by decide) (off := 3) (sz := 1) (by kernel_rfl) (by decide) rfl rfl (hp.ob (i := 1) rfl) rfl ?_
          clear hf; intro a ha hf; clear ha
          refine st_ldO (u := v148) hf (by decide) pl35 rfl rfl (hp.ob (i := 1) rfl) rfl ?_
          clear hf; intro a ha hf; clear ha
          refine st_build (E := Ek.str) (xs := [(ByteArray.mk #[])]) hf (by decide) elt9 Try.underlying35 hp (vals := #[(0, .string (ByteArray.mk #[]))]) (cells := #[.string (ByteArray.mk #[])]) rfl (by simp [hf.ev (x := (Operand.const (.string (ByteArray.mk #[])))) rfl]) (by decide) (by decide) (z := .string ByteArray.empty) (by kernel_rfl) (by kernel_rfl) rfl (reps_cons (cs := [.string (ByteArray.mk #[])]) rfl (reps_nil _)) ?_
          clear hf; intro a w v172 hf hp0; clear hp; have hp := hp0; clear hp0
          replace hp : Hp _ _ _ (Res.sl Ek.str 9 v172 ([(ByteArray.mk #[])]) :: Res.sl Ek.bool 4 v168 ([false]) :: Res.obj 37 or0 [.int .i64 r0c_0, .int .i64 r0c_1, v171, v148] :: Res.sl Ek.bool 4 v171 (r0c_2 ++ [false]) :: Res.sl Ek.str 9 v148 r0c_3 :: Res.obj 31 v4 [.int .u8 f1_Kind, .int .u8 f1_Number, .bool f1_More, .string f1_Body] :: Res.obj 31 v6 [.int .u8 (0 : Int), .int .u8 (0 : Int), .bool false, .string ByteArray.empty] :: ow) := hp
          obtain ⟨hc174, h⟩ := chk h
          refine st_append (E := Ek.str) hf (by decide) elt9 Try.underlying35 (by decide) hp (i := 4) rfl rfl rfl rfl (hp.sl (i := 0) rfl) hc174 ?_
          clear hf; intro a w v175 hf hp0; clear hp; have hp := hp0; clear hp0
          replace hp : Hp _ _ _ (Res.sl Ek.str 9 v172 ([(ByteArray.mk #[])]) :: Res.sl Ek.bool 4 v168 ([false]) :: Res.obj 37 or0 [.int .i64 r0c_0, .int .i64 r0c_1, v171, v148] :: Res.sl Ek.bool 4 v171 (r0c_2 ++ [false]) :: Res.sl Ek.str 9 v175 (r0c_3 ++ [(ByteArray.mk #[])]) :: Res.obj 31 v4 [.int .u8 f1_Kind, .int .u8 f1_Number, .bool f1_More, .string f1_Body] :: Res.obj 31 v6 [.int .u8 (0 : Int), .int .u8 (0 : Int), .bool false, .string ByteArray.empty] :: ow) := hp
          refine st_nilV hf (by decide) rfl rfl (hp.ob (i := 2) rfl) ?_
          clear hf; intro a ha hf; clear ha
          refine st_fa (o' := 3) hf (by decide) (off := 3) (sz := 1) (by kernel_rfl) (by decide) rfl rfl (hp.ob (i := 2) rfl) rfl ?_
          clear hf; intro a ha hf; clear ha
          refine st_stO (us := [v175]) hf hp (i := 2) rfl rfl rfl rfl (cells_sh (hp.sl (i := 4) rfl).shapeV) (ones_sh (hp.sl (i := 4) rfl).shapeV) (by kernel_rfl) (Nat.le_of_ble_eq_true rfl) ?_
          clear hf; intro a w hf hp0; clear hp; have hp := hp0; clear hp0
          replace hp : Hp _ _ _ (Res.sl Ek.str 9 v172 ([(ByteArray.mk #[])]) :: Res.sl Ek.bool 4 v168 ([false]) :: Res.obj 37 or0 [.int .i64 r0c_0, .int .i64 r0c_1, v171, v175] :: Res.sl Ek.bool 4 v171 (r0c_2 ++ [false]) :: Res.sl Ek.str 9 v175 (r0c_3 ++ [(ByteArray.mk #[])]) :: Res.obj 31 v4 [.int .u8 f1_Kind, .int .u8 f1_Number, .bool f1_More, .string f1_Body] :: Res.obj 31 v6 [.int .u8 (0 : Int), .int .u8 (0 : Int), .bool false, .string ByteArray.empty] :: ow) := hp
          refine st_nil hf ?_
          refine ib_n ?_
          obtain rfl := Option.some.inj h
          have hp : Hp _ _ _ (Res.sl Ek.bool 4 v171 (r0c_2 ++ [false]) :: Res.sl Ek.str 9 v175 (r0c_3 ++ [(ByteArray.mk #[])]) :: Res.obj 37 or0 [.int .i64 r0c_0, .int .i64 r0c_1, v171, v175] :: Res.obj 31 v4 [.int .u8 f1_Kind, .int .u8 f1_Number, .bool f1_More, .string f1_Body] :: Res.obj 31 v6 [.int .u8 (0 : Int), .int .u8 (0 : Int), .bool false, .string ByteArray.empty] :: ow) := Hp.sel (pre := [Res.sl Ek.str 9 v172 ([(ByteArray.mk #[])]), Res.sl Ek.bool 4 v168 ([false]), Res.obj 37 or0 [.int .i64 r0c_0, .int .i64 r0c_1, v171, v175], Res.sl Ek.bool 4 v171 (r0c_2 ++ [false]), Res.sl Ek.str 9 v175 (r0c_3 ++ [(ByteArray.mk #[])]), Res.obj 31 v4 [.int .u8 f1_Kind, .int .u8 f1_Number, .bool f1_More, .string f1_Body], Res.obj 31 v6 [.int .u8 (0 : Int), .int .u8 (0 : Int), .bool false, .string ByteArray.empty]]) (tail := ow) (rs' := [Res.sl Ek.bool 4 v171 (r0c_2 ++ [false]), Res.sl Ek.str 9 v175 (r0c_3 ++ [(ByteArray.mk #[])]), Res.obj 37 or0 [.int .i64 r0c_0, .int .i64 r0c_1, v171, v175], Res.obj 31 v4 [.int .u8 f1_Kind, .int .u8 f1_Number, .bool f1_More, .string f1_Body], Res.obj 31 v6 [.int .u8 (0 : Int), .int .u8 (0 : Int), .bool false, .string ByteArray.empty]]) hp [3, 4, 2, 5, 6] (by decide) (by simp) rfl
          exact rnd_l ⟨_, _, hf.sub ⟨rfl, rfl, rfl, rfl, trivial⟩, hp⟩
        replace h := ifF h hb
        refine wp_exit ?_
        refine th_e ?_
        obtain rfl := Option.some.inj h
        have hp : Hp _ _ _ (Res.sl Ek.bool 4 v146 r0c_2 :: Res.sl Ek.str 9 v148 r0c_3 :: Res.obj 37 or0 [.int .i64 r0c_0, .int .i64 r0c_1, v146, v148] :: Res.obj 31 v4 [.int .u8 f1_Kind, .int .u8 f1_Number, .bool f1_More, .string f1_Body] :: Res.obj 31 v6 [.int .u8 (0 : Int), .int .u8 (0 : Int), .bool false, .string ByteArray.empty] :: ow) := Hp.sel (pre := [Res.obj 37 or0 [.int .i64 r0c_0, .int .i64 r0c_1, v146, v148], Res.sl Ek.bool 4 v146 r0c_2, Res.sl Ek.str 9 v148 r0c_3, Res.obj 31 v4 [.int .u8 f1_Kind, .int .u8 f1_Number, .bool f1_More, .string f1_Body], Res.obj 31 v6 [.int .u8 (0 : Int), .int .u8 (0 : Int), .bool false, .string ByteArray.empty]]) (tail := ow) (rs' := [Res.sl Ek.bool 4 v146 r0c_2, Res.sl Ek.str 9 v148 r0c_3, Res.obj 37 or0 [.int .i64 r0c_0, .int .i64 r0c_1, v146, v148], Res.obj 31 v4 [.int .u8 f1_Kind, .int .u8 f1_Number, .bool f1_More, .string f1_Body], Res.obj 31 v6 [.int .u8 (0 : Int), .int .u8 (0 : Int), .bool false, .string ByteArray.empty]]) hp [1, 2, 0, 3, 4] (by decide) (by simp) rfl
        exact rnd_r (by simp) ⟨rfl, _, _, hf.sub ⟨rfl, rfl, rfl, rfl, trivial⟩, hp⟩
      clear hl hf hp
      intro e a w hne hO
      obtain ⟨rfl, v151, v153, hf, hp⟩ := hO
      refine ib_same ?_
      refine th_n ?_
      refine wp_seq ?_
      obtain ⟨S177, hp178, rd179, up180, bk181⟩ := Hp.lendO hp (i := 2) rfl
      have rl182 := rd179
      have fx184 := hp.sl (i := 0) rfl
      obtain ⟨hc183, h⟩ := chk h
      refine wp_cutN (fun a w => Fr 172 a [(0, or0), (3, optr v4 0), (5, optr v6 0), (7, .int .i64 (((IntKind.i64.wrap ((IntKind.i64.wrap ((IntKind.i64.wrap f1_Number) - ((r0_Next).tmod (256 : Int)))) + (256 : Int)))).tmod (256 : Int)))] ∧ Hp S w0 w (Res.obj 37 or0 [.int .i64 q176.1, .int .i64 q176.2.1, v151, v153] :: Res.sl Ek.bool 4 v151 (q176.2.2.1.set ((IntKind.i64.wrap (q176.2.1 + (((IntKind.i64.wrap ((IntKind.i64.wrap ((IntKind.i64.wrap f1_Number) - ((r0_Next).tmod (256 : Int)))) + (256 : Int)))).tmod (256 : Int))))).toNat true) :: Res.sl Ek.str 9 v153 q176.2.2.2 :: Res.obj 31 v4 [.int .u8 f1_Kind, .int .u8 f1_Number, .bool f1_More, .string f1_Body] :: Res.obj 31 v6 [.int .u8 (0 : Int), .int .u8 (0 : Int), .bool false, .string ByteArray.empty] :: ow)) ?_ ?_
      · have hp := hp178.same (Same.drew w)
        refine dr_begin' (fun a w => Fr 172 a [(0, or0), (3, optr v4 0), (5, optr v6 0), (7, .int .i64 (((IntKind.i64.wrap ((IntKind.i64.wrap ((IntKind.i64.wrap f1_Number) - ((r0_Next).tmod (256 : Int)))) + (256 : Int)))).tmod (256 : Int)))] ∧ Hp S w0 w (Res.obj 37 or0 [.int .i64 q176.1, .int .i64 q176.2.1, v151, v153] :: Res.sl Ek.bool 4 v151 (q176.2.2.1.set ((IntKind.i64.wrap (q176.2.1 + (((IntKind.i64.wrap ((IntKind.i64.wrap ((IntKind.i64.wrap f1_Number) - ((r0_Next).tmod (256 : Int)))) + (256 : Int)))).tmod (256 : Int))))).toNat true) :: Res.sl Ek.str 9 v153 q176.2.2.2 :: Res.obj 31 v4 [.int .u8 f1_Kind, .int .u8 f1_Number, .bool f1_More, .string f1_Body] :: Res.obj 31 v6 [.int .u8 (0 : Int), .int .u8 (0 : Int), .bool false, .string ByteArray.empty] :: ow)) (fun w' => ∃ l, Hp S177 w w' l) [] (by kernel_rfl) ?_
        refine dr_takeP 0 (or0) rfl (by kernel_rfl) (by kernel_rfl) (by kernel_rfl) rfl rfl hf (by decide) rfl (fun w => ?_) ?_
        · skip
          refine st_move hf rfl rfl (by decide) ?_
          clear hf; intro a ha hf
          exact st_nil hf (th_n ⟨ha, rfl⟩)
        clear hf; intro a hf
        refine dr_nilV 1 rfl (by kernel_rfl) (by kernel_rfl) (by kernel_rfl) hf (by decide) rfl rfl (rl182.mono fun _ _ => trivial) ?_
        clear hf; intro a hf
        refine dr_takeP 2 (optr or0 2) rfl (by kernel_rfl) (by kernel_rfl) (by kernel_rfl) rfl rfl hf (by decide) rfl (fun w => ?_) ?_
        · skip
          refine st_fa (o' := 2) hf (by decide) (off := 2) (sz := 1) (by kernel_rfl) (by decide) rfl rfl (rl182.mono fun _ _ => trivial) rfl ?_
          clear hf; intro a ha hf
          exact st_nil hf (th_n ⟨ha, rfl⟩)
        clear hf; intro a hf
        refine dr_take 3 (v151) rfl (by kernel_rfl) (by kernel_rfl) (by kernel_rfl) (by kernel_rfl) rfl rfl hf (by decide) rfl (fun w hp => ?_) ⟨_, hp⟩ ?_
        · obtain ⟨_, hp⟩ := hp
          refine st_ldO (u := v151) hf (by decide) pl34 rfl rfl (rl182.ob hp) rfl ?_
          clear hf; intro a ha hf
          exact st_nil hf (th_n ⟨ha, rfl⟩)
        clear hf; intro a hf
        refine dr_takeP 4 (or0) rfl (by kernel_rfl) (by kernel_rfl) (by kernel_rfl) rfl rfl hf (by decide) rfl (fun w => ?_) ?_
        · skip
          refine st_move hf rfl rfl (by decide) ?_
          clear hf; intro a ha hf
          exact st_nil hf (th_n ⟨ha, rfl⟩)
        clear hf; intro a hf
        refine dr_nilV 5 rfl (by kernel_rfl) (by kernel_rfl) (by kernel_rfl) hf (by decide) rfl rfl (rl182.mono fun _ _ => trivial) ?_
        clear hf; intro a hf
        refine dr_takeP 6 (optr or0 1) rfl (by kernel_rfl) (by kernel_rfl) (by kernel_rfl) rfl rfl hf (by decide) rfl (fun w => ?_) ?_
        · skip
          refine st_fa (o' := 1) hf (by decide) (off := 1) (sz := 1) (by kernel_rfl) (by decide) rfl rfl (rl182.mono fun _ _ => trivial) rfl ?_
          clear hf; intro a ha hf
          exact st_nil hf (th_n ⟨ha, rfl⟩)
        clear hf; intro a hf
        refine dr_take 7 (.int .i64 q176.2.1) rfl (by kernel_rfl) (by kernel_rfl) (by kernel_rfl) (by kernel_rfl) rfl rfl hf (by decide) rfl (fun w hp => ?_) ⟨_, hp⟩ ?_
        · obtain ⟨_, hp⟩ := hp
          refine st_ldO (u := .int .i64 q176.2.1) hf (by decide) pl3 rfl rfl (rl182.ob hp) rfl ?_
          clear hf; intro a ha hf
          exact st_nil hf (th_n ⟨ha, rfl⟩)
        clear hf; intro a hf
        refine dr_takeP 8 (.int .i64 (((IntKind.i64.wrap ((IntKind.i64.wrap ((IntKind.i64.wrap f1_Number) - ((r0_Next).tmod (256 : Int)))) + (256 : Int)))).tmod (256 : Int))) rfl (by kernel_rfl) (by kernel_rfl) (by kernel_rfl) rfl rfl hf (by decide) rfl (fun w => ?_) ?_
        · skip
          refine st_move hf rfl rfl (by decide) ?_
          clear hf; intro a ha hf
          exact st_nil hf (th_n ⟨ha, rfl⟩)
        clear hf; intro a hf
        refine dr_takeP 9 (.int .i64 (IntKind.i64.wrap (q176.2.1 + (((IntKind.i64.wrap ((IntKind.i64.wrap ((IntKind.i64.wrap f1_Number) - ((r0_Next).tmod (256 : Int)))) + (256 : Int)))).tmod (256 : Int))))) rfl (by kernel_rfl) (by kernel_rfl) (by kernel_rfl) rfl rfl hf (by decide) rfl (fun w => ?_) ?_
        · skip
          refine st_iadd hf (by decide) rfl rfl rfl ?_
          clear hf; intro a ha hf
          exact st_nil hf (th_n ⟨ha, rfl⟩)
        clear hf; intro a hf
        refine dr_takeP 10 (eptr v151 (IntKind.i64.wrap (q176.2.1 + (((IntKind.i64.wrap ((IntKind.i64.wrap ((IntKind.i64.wrap f1_Number) - ((r0_Next).tmod (256 : Int)))) + (256 : Int)))).tmod (256 : Int)))) 1) rfl (by kernel_rfl) (by kernel_rfl) (by kernel_rfl) rfl rfl hf (by decide) rfl (fun w => ?_) ?_
        · skip
          refine st_index (E := Ek.bool) hf (by decide) Try.underlying34 elt4 rfl rfl rfl fx184 hc183.1 hc183.2 ?_
          clear hf; intro a ha hf
          exact st_nil hf (th_n ⟨ha, rfl⟩)
        clear hf; intro a hf
        refine dr_one 11 rfl (by kernel_rfl) ?_
        refine st_store (E := Ek.bool) hf elt4 hp (i := 0) rfl rfl rfl rfl rfl hc183.1 hc183.2 ?_
        clear hf; intro a w hf hp0; clear hp; have hp := hp0; clear hp0
        replace hp : Hp _ _ _ (Res.sl Ek.bool 4 v151 (q176.2.2.1.set ((IntKind.i64.wrap (q176.2.1 + (((IntKind.i64.wrap ((IntKind.i64.wrap ((IntKind.i64.wrap f1_Number) - ((r0_Next).tmod (256 : Int)))) + (256 : Int)))).tmod (256 : Int))))).toNat true) :: Res.sl Ek.str 9 v153 q176.2.2.2 :: Res.obj 31 v4 [.int .u8 f1_Kind, .int .u8 f1_Number, .bool f1_More, .string f1_Body] :: Res.obj 31 v6 [.int .u8 (0 : Int), .int .u8 (0 : Int), .bool false, .string ByteArray.empty] :: ow) := hp
        refine st_nil hf (th_n ⟨fun _ _ => ⟨_, hp⟩, ?_⟩)
        refine dr_end (by kernel_rfl) ?_ _
        have hp := bk181 _ _ hp
        exact ⟨hf.sub ⟨rfl, rfl, rfl, rfl, trivial⟩, hp⟩
      rintro a w ⟨hf, hp⟩
      refine th_n ?_
      obtain ⟨S185, hp186, rd187, up188, bk189⟩ := Hp.lendO hp (i := 0) rfl
      obtain ⟨S190, hp191, rd192, up193, bk194⟩ := Hp.lendO hp186 (i := 2) rfl
      have rl195 := ((rd187.now hp186).mono up193)
      have rl196 := rd192
      have fx198 := hp.sl (i := 2) rfl
      obtain ⟨hc197, h⟩ := chk h
      refine wp_cutN (fun a w => Fr 172 a [(0, or0), (5, optr v6 0)] ∧ Hp S w0 w (Res.obj 37 or0 [.int .i64 q176.1, .int .i64 q176.2.1, v151, v153] :: Res.obj 31 v4 [.int .u8 f1_Kind, .int .u8 f1_Number, .bool f1_More, .string f1_Body] :: Res.sl Ek.bool 4 v151 (q176.2.2.1.set ((IntKind.i64.wrap (q176.2.1 + (((IntKind.i64.wrap ((IntKind.i64.wrap ((IntKind.i64.wrap f1_Number) - ((r0_Next).tmod (256 : Int)))) + (256 : Int)))).tmod (256 : Int))))).toNat true) :: Res.sl Ek.str 9 v153 (q176.2.2.2.set ((IntKind.i64.wrap (q176.2.1 + (((IntKind.i64.wrap ((IntKind.i64.wrap ((IntKind.i64.wrap f1_Number) - ((r0_Next).tmod (256 : Int)))) + (256 : Int)))).tmod (256 : Int))))).toNat f1_Body) :: Res.obj 31 v6 [.int .u8 (0 : Int), .int .u8 (0 : Int), .bool false, .string ByteArray.empty] :: ow)) ?_ ?_
      · have hp := hp191.same (Same.drew w)
        refine dr_begin' (fun a w => Fr 172 a [(0, or0), (5, optr v6 0)] ∧ Hp S w0 w (Res.obj 37 or0 [.int .i64 q176.1, .int .i64 q176.2.1, v151, v153] :: Res.obj 31 v4 [.int .u8 f1_Kind, .int .u8 f1_Number, .bool f1_More, .string f1_Body] :: Res.sl Ek.bool 4 v151 (q176.2.2.1.set ((IntKind.i64.wrap (q176.2.1 + (((IntKind.i64.wrap ((IntKind.i64.wrap ((IntKind.i64.wrap f1_Number) - ((r0_Next).tmod (256 : Int)))) + (256 : Int)))).tmod (256 : Int))))).toNat true) :: Res.sl Ek.str 9 v153 (q176.2.2.2.set ((IntKind.i64.wrap (q176.2.1 + (((IntKind.i64.wrap ((IntKind.i64.wrap ((IntKind.i64.wrap f1_Number) - ((r0_Next).tmod (256 : Int)))) + (256 : Int)))).tmod (256 : Int))))).toNat f1_Body) :: Res.obj 31 v6 [.int .u8 (0 : Int), .int .u8 (0 : Int), .bool false, .string ByteArray.empty] :: ow)) (fun w' => ∃ l, Hp S190 w w' l) [] (by kernel_rfl) ?_
        refine dr_takeP 0 (or0) rfl (by kernel_rfl) (by kernel_rfl) (by kernel_rfl) rfl rfl hf (by decide) rfl (fun w => ?_) ?_
        · skip
          refine st_move hf rfl rfl (by decide) ?_
          clear hf; intro a ha hf
          exact st_nil hf (th_n ⟨ha, rfl⟩)
        clear hf; intro a hf
        refine dr_nilV 1 rfl (by kernel_rfl) (by kernel_rfl) (by kernel_rfl) hf (by decide) rfl rfl (rl195.mono fun _ _ => trivial) ?_
        clear hf; intro a hf
        refine dr_takeP 2 (optr or0 3) rfl (by kernel_rfl) (by kernel_rfl) (by kernel_rfl) rfl rfl hf (by decide) rfl (fun w => ?_) ?_
        · skip
          refine st_fa (o' := 3) hf (by decide) (off := 3) (sz := 1) (by kernel_rfl) (by decide) rfl rfl (rl195.mono fun _ _ => trivial) rfl ?_
          clear hf; intro a ha hf
          exact st_nil hf (th_n ⟨ha, rfl⟩)
        clear hf; intro a hf
        refine dr_take 3 (v153) rfl (by kernel_rfl) (by kernel_rfl) (by kernel_rfl) (by kernel_rfl) rfl rfl hf (by decide) rfl (fun w hp => ?_) ⟨_, hp⟩ ?_
        · obtain ⟨_, hp⟩ := hp
          refine st_ldO (u := v153) hf (by decide) pl35 rfl rfl (rl195.ob hp) rfl ?_
          clear hf; intro a ha hf
          exact st_nil hf (th_n ⟨ha, rfl⟩)
        clear hf; intro a hf
        refine dr_takeP 4 (or0) rfl (by kernel_rfl) (by kernel_rfl) (by kernel_rfl) rfl rfl hf (by decide) rfl (fun w => ?_) ?_
        · skip
          refine st_move hf rfl rfl (by decide) ?_
          clear hf; intro a ha hf
          exact st_nil hf (th_n ⟨ha, rfl⟩)
        clear hf; intro a hf
        refine dr_nilV 5 rfl (by kernel_rfl) (by kernel_rfl) (by kernel_rfl) hf (by decide) rfl rfl (rl195.mono fun _ _ => trivial) ?_
        clear hf; intro a hf
        refine dr_takeP 6 (optr or0 1) rfl (by kernel_rfl) (by kernel_rfl) (by kernel_rfl) rfl rfl hf (by decide) rfl (fun w => ?_) ?_
        · skip
          refine st_fa (o' := 1) hf (by decide) (off := 1) (sz := 1) (by kernel_rfl) (by decide) rfl rfl (rl195.mono fun _ _ => trivial) rfl ?_
          clear hf; intro a ha hf
          exact st_nil hf (th_n ⟨ha, rfl⟩)
        clear hf; intro a hf
        refine dr_take 7 (.int .i64 q176.2.1) rfl (by kernel_rfl) (by kernel_rfl) (by kernel_rfl) (by kernel_rfl) rfl rfl hf (by decide) rfl (fun w hp => ?_) ⟨_, hp⟩ ?_
        · obtain ⟨_, hp⟩ := hp
          refine st_ldO (u := .int .i64 q176.2.1) hf (by decide) pl3 rfl rfl (rl195.ob hp) rfl ?_
          clear hf; intro a ha hf
          exact st_nil hf (th_n ⟨ha, rfl⟩)
        clear hf; intro a hf
        refine dr_takeP 8 (.int .i64 (((IntKind.i64.wrap ((IntKind.i64.wrap ((IntKind.i64.wrap f1_Number) - ((r0_Next).tmod (256 : Int)))) + (256 : Int)))).tmod (256 : Int))) rfl (by kernel_rfl) (by kernel_rfl) (by kernel_rfl) rfl rfl hf (by decide) rfl (fun w => ?_) ?_
        · skip
          refine st_move hf rfl rfl (by decide) ?_
          clear hf; intro a ha hf
          exact st_nil hf (th_n ⟨ha, rfl⟩)
        clear hf; intro a hf
        refine dr_takeP 9 (.int .i64 (IntKind.i64.wrap (q176.2.1 + (((IntKind.i64.wrap ((IntKind.i64.wrap ((IntKind.i64.wrap f1_Number) - ((r0_Next).tmod (256 : Int)))) + (256 : Int)))).tmod (256 : Int))))) rfl (by kernel_rfl) (by kernel_rfl) (by kernel_rfl) rfl rfl hf (by decide) rfl (fun w => ?_) ?_
        · skip
          refine st_iadd hf (by decide) rfl rfl rfl ?_
          clear hf; intro a ha hf
          exact st_nil hf (th_n ⟨ha, rfl⟩)
        clear hf; intro a hf
        refine dr_takeP 10 (optr v4 3) rfl (by kernel_rfl) (by kernel_rfl) (by kernel_rfl) rfl rfl hf (by decide) rfl (fun w => ?_) ?_
        · skip
          refine st_fa (o' := 3) hf (by decide) (off := 3) (sz := 1) (by kernel_rfl) (by decide) rfl rfl (rl196.mono fun _ _ => trivial) rfl ?_
          clear hf; intro a ha hf
          exact st_nil hf (th_n ⟨ha, rfl⟩)
        clear hf; intro a hf
        refine dr_take 11 (.string f1_Body) rfl (by kernel_rfl) (by kernel_rfl) (by kernel_rfl) (by kernel_rfl) rfl rfl hf (by decide) rfl (fun w hp => ?_) ⟨_, hp⟩ ?_
        · obtain ⟨_, hp⟩ := hp
          refine st_ldO (u := .string f1_Body) hf (by decide) pl9 rfl rfl (rl196.ob hp) rfl ?_
          clear hf; intro a ha hf
          exact st_nil hf (th_n ⟨ha, rfl⟩)
        clear hf; intro a hf
        refine dr_takeP 12 (eptr v153 (IntKind.i64.wrap (q176.2.1 + (((IntKind.i64.wrap ((IntKind.i64.wrap ((IntKind.i64.wrap f1_Number) - ((r0_Next).tmod (256 : Int)))) + (256 : Int)))).tmod (256 : Int)))) 1) rfl (by kernel_rfl) (by kernel_rfl) (by kernel_rfl) rfl rfl hf (by decide) rfl (fun w => ?_) ?_
        · skip
          refine st_index (E := Ek.str) hf (by decide) Try.underlying35 elt9 rfl rfl rfl fx198 hc197.1 hc197.2 ?_
          clear hf; intro a ha hf
          exact st_nil hf (th_n ⟨ha, rfl⟩)
        clear hf; intro a hf
        refine dr_one 13 rfl (by kernel_rfl) ?_
        refine st_store (E := Ek.str) hf elt9 hp (i := 1) rfl rfl rfl rfl rfl hc197.1 hc197.2 ?_
        clear hf; intro a w hf hp0; clear hp; have hp := hp0; clear hp0
        replace hp : Hp _ _ _ (Res.sl Ek.bool 4 v151 (q176.2.2.1.set ((IntKind.i64.wrap (q176.2.1 + (((IntKind.i64.wrap ((IntKind.i64.wrap ((IntKind.i64.wrap f1_Number) - ((r0_Next).tmod (256 : Int)))) + (256 : Int)))).tmod (256 : Int))))).toNat true) :: Res.sl Ek.str 9 v153 (q176.2.2.2.set ((IntKind.i64.wrap (q176.2.1 + (((IntKind.i64.wrap ((IntKind.i64.wrap ((IntKind.i64.wrap f1_Number) - ((r0_Next).tmod (256 : Int)))) + (256 : Int)))).tmod (256 : Int))))).toNat f1_Body) :: Res.obj 31 v6 [.int .u8 (0 : Int), .int .u8 (0 : Int), .bool false, .string ByteArray.empty] :: ow) := hp
        refine st_nil hf (th_n ⟨fun _ _ => ⟨_, hp⟩, ?_⟩)
        refine dr_end (by kernel_rfl) ?_ _
        have hp := bk194 _ _ hp
        have hp := bk189 _ _ hp
        exact ⟨hf.sub ⟨rfl, rfl, trivial⟩, hp⟩
      rintro a w ⟨hf, hp⟩
      have hp : Hp _ _ _ (Res.sl Ek.bool 4 v151 (q176.2.2.1.set ((IntKind.i64.wrap (q176.2.1 + (((IntKind.i64.wrap ((IntKind.i64.wrap ((IntKind.i64.wrap f1_Number) - ((r0_Next).tmod (256 : Int)))) + (256 : Int)))).tmod (256 : Int))))).toNat true) :: Res.sl Ek.str 9 v153 (q176.2.2.2.set ((IntKind.i64.wrap (q176.2.1 + (((IntKind.i64.wrap ((IntKind.i64.wrap ((IntKind.i64.wrap f1_Number) - ((r0_Next).tmod (256 : Int)))) + (256 : Int)))).tmod (256 : Int))))).toNat f1_Body) :: Res.obj 37 or0 [.int .i64 q176.1, .int .i64 q176.2.1, v151, v153] :: Res.obj 31 v6 [.int .u8 (0 : Int), .int .u8 (0 : Int), .bool false, .string ByteArray.empty] :: ow) := Hp.sel (pre := [Res.obj 37 or0 [.int .i64 q176.1, .int .i64 q176.2.1, v151, v153], Res.obj 31 v4 [.int .u8 f1_Kind, .int .u8 f1_Number, .bool f1_More, .string f1_Body], Res.sl Ek.bool 4 v151 (q176.2.2.1.set ((IntKind.i64.wrap (q176.2.1 + (((IntKind.i64.wrap ((IntKind.i64.wrap ((IntKind.i64.wrap f1_Number) - ((r0_Next).tmod (256 : Int)))) + (256 : Int)))).tmod (256 : Int))))).toNat true), Res.sl Ek.str 9 v153 (q176.2.2.2.set ((IntKind.i64.wrap (q176.2.1 + (((IntKind.i64.wrap ((IntKind.i64.wrap ((IntKind.i64.wrap f1_Number) - ((r0_Next).tmod (256 : Int)))) + (256 : Int)))).tmod (256 : Int))))).toNat f1_Body), Res.obj 31 v6 [.int .u8 (0 : Int), .int .u8 (0 : Int), .bool false, .string ByteArray.empty]]) (tail := ow) (rs' := [Res.sl Ek.bool 4 v151 (q176.2.2.1.set ((IntKind.i64.wrap (q176.2.1 + (((IntKind.i64.wrap ((IntKind.i64.wrap ((IntKind.i64.wrap f1_Number) - ((r0_Next).tmod (256 : Int)))) + (256 : Int)))).tmod (256 : Int))))).toNat true), Res.sl Ek.str 9 v153 (q176.2.2.2.set ((IntKind.i64.wrap (q176.2.1 + (((IntKind.i64.wrap ((IntKind.i64.wrap ((IntKind.i64.wrap f1_Number) - ((r0_Next).tmod (256 : Int)))) + (256 : Int)))).tmod (256 : Int))))).toNat f1_Body), Res.obj 37 or0 [.int .i64 q176.1, .int .i64 q176.2.1, v151, v153], Res.obj 31 v6 [.int .u8 (0 : Int), .int .u8 (0 : Int), .bool false, .string ByteArray.empty]]) hp [2, 3, 0, 4] (by decide) (by simp) rfl
      refine th_n ?_
      exact ⟨_, _, _, _, _, _, h, hf.sub ⟨rfl, rfl, trivial⟩, hp⟩
    replace h := ifF h hb
    refine wp_skip ?_
    have hp : Hp _ _ _ (Res.sl Ek.bool 4 vr0_Kept r0_Kept :: Res.sl Ek.str 9 vr0_Bodies r0_Bodies :: Res.obj 37 or0 [.int .i64 r0_Window, .int .i64 r0_Next, vr0_Kept, vr0_Bodies] :: Res.obj 31 v6 [.int .u8 (0 : Int), .int .u8 (0 : Int), .bool false, .string ByteArray.empty] :: ow) := Hp.sel (pre := [Res.obj 31 v4 [.int .u8 f1_Kind, .int .u8 f1_Number, .bool f1_More, .string f1_Body], Res.obj 37 or0 [.int .i64 r0_Window, .int .i64 r0_Next, vr0_Kept, vr0_Bodies], Res.obj 31 v6 [.int .u8 (0 : Int), .int .u8 (0 : Int), .bool false, .string ByteArray.empty], Res.sl Ek.bool 4 vr0_Kept r0_Kept, Res.sl Ek.str 9 vr0_Bodies r0_Bodies]) (tail := ow) (rs' := [Res.sl Ek.bool 4 vr0_Kept r0_Kept, Res.sl Ek.str 9 vr0_Bodies r0_Bodies, Res.obj 37 or0 [.int .i64 r0_Window, .int .i64 r0_Next, vr0_Kept, vr0_Bodies], Res.obj 31 v6 [.int .u8 (0 : Int), .int .u8 (0 : Int), .bool false, .string ByteArray.empty]]) hp [3, 4, 1, 2] (by decide) (by simp) rfl
    refine th_n ?_
    exact ⟨_, _, _, _, _, _, h, hf.sub ⟨rfl, rfl, trivial⟩, hp⟩
  rintro a w ⟨r0c_0, r0c_1, r0c_2, r0c_3, v25, v27, h, hf, hp⟩
  unfold f_foghornref28_Receiver_Take.j1 at h
  refine wp_seq ?_
  refine wp_reg ?_
  refine st_assign hf rfl rfl (by decide) ?_
  clear hf; intro a ha hf; clear ha
  refine st_nil hf ?_
  refine th_n ?_
  refine wp_seq ?_
  refine wp_block ?_
  obtain ⟨q78, hl, h⟩ := bnd h
  have hp := hp.nil Ek.str 9
  have hp : Hp _ _ _ (Res.sl Ek.bool 4 v25 r0c_2 :: Res.sl Ek.str 9 v27 r0c_3 :: Res.obj 37 or0 [.int .i64 r0c_0, .int .i64 r0c_1, v25, v27] :: Res.sl Ek.str 9 (.slice none 0 0) ([]) :: Res.obj 31 v6 [.int .u8 (0 : Int), .int .u8 (0 : Int), .bool false, .string ByteArray.empty] :: ow) := Hp.sel (pre := [Res.sl Ek.str 9 (.slice none 0 0) ([]), Res.sl Ek.bool 4 v25 r0c_2, Res.sl Ek.str 9 v27 r0c_3, Res.obj 37 or0 [.int .i64 r0c_0, .int .i64 r0c_1, v25, v27], Res.obj 31 v6 [.int .u8 (0 : Int), .int .u8 (0 : Int), .bool false, .string ByteArray.empty]]) (tail := ow) (rs' := [Res.sl Ek.bool 4 v25 r0c_2, Res.sl Ek.str 9 v27 r0c_3, Res.obj 37 or0 [.int .i64 r0c_0, .int .i64 r0c_1, v25, v27], Res.sl Ek.str 9 (.slice none 0 0) ([]), Res.obj 31 v6 [.int .u8 (0 : Int), .int .u8 (0 : Int), .bool false, .string ByteArray.empty]]) hp [1, 2, 3, 0, 4] (by decide) (by simp) rfl
  refine wp_loop_pure (f := f_foghornref28_Receiver_Take.s1) (s := (r0c_0, r0c_1, r0c_2, r0c_3, [])) (fun s a w => ∃ (v30 : Value) (v32 : Value) (v35 : Value), Fr 172 a [(0, or0), (5, optr v6 0), (8, v35)] ∧ Hp S w0 w (Res.sl Ek.bool 4 v30 s.2.2.1 :: Res.sl Ek.str 9 v32 s.2.2.2.1 :: Res.obj 37 or0 [.int .i64 s.1, .int .i64 s.2.1, v30, v32] :: Res.sl Ek.str 9 v35 s.2.2.2.2 :: Res.obj 31 v6 [.int .u8 (0 : Int), .int .u8 (0 : Int), .bool false, .string ByteArray.empty] :: ow)) (fun q e a w => e = .exit 2 ∧ ∃ (v37 : Value) (v39 : Value) (v42 : Value), Fr 172 a [(0, or0), (5, optr v6 0), (8, v42)] ∧ Hp S w0 w (Res.sl Ek.bool 4 v37 q.2.2.1 :: Res.sl Ek.str 9 v39 q.2.2.2.1 :: Res.obj 37 or0 [.int .i64 q.1, .int .i64 q.2.1, v37, v39] :: Res.sl Ek.str 9 v42 q.2.2.2.2 :: Res.obj 31 v6 [.int .u8 (0 : Int), .int .u8 (0 : Int), .bool false, .string ByteArray.empty] :: ow)) ?_ hl ⟨_, _, _, hf.sub ⟨rfl, rfl, rfl, trivial⟩, hp⟩ ?_
  · clear hl hf hp
    intro s x a w h hI
    obtain ⟨r0c_0, r0c_1, r0c_2, r0c_3, handed8⟩ := s
    obtain ⟨v30, v32, v35, hf, hp⟩ : ∃ (v30 : Value) (v32 : Value) (v35 : Value), Fr 172 a [(0, or0), (5, optr v6 0), (8, v35)] ∧ Hp S w0 w (Res.sl Ek.bool 4 v30 r0c_2 :: Res.sl Ek.str 9 v32 r0c_3 :: Res.obj 37 or0 [.int .i64 r0c_0, .int .i64 r0c_1, v30, v32] :: Res.sl Ek.str 9 v35 handed8 :: Res.obj 31 v6 [.int .u8 (0 : Int), .int .u8 (0 : Int), .bool false, .string ByteArray.empty] :: ow) := hI
    replace h : f_foghornref28_Receiver_Take.s1c r0c_0 r0c_1 r0c_2 r0c_3 handed8 = some x := h
    unfold f_foghornref28_Receiver_Take.s1c at h
    refine wp_seq ?_
    refine wp_seq ?_
    refine wp_reg ?_
    refine st_move hf rfl rfl (by decide) ?_
    clear hf; intro a ha hf; clear ha
    refine st_move hf rfl rfl (by decide) ?_
    clear hf; intro a ha hf; clear ha
    refine st_nilV hf (by decide) rfl rfl (hp.ob (i := 2) rfl) ?_
    clear hf; intro a ha hf; clear ha
    refine st_fa (o' := 1) hf (by decide) (off := 1) (sz := 1) (by kernel_rfl) (by decide) rfl rfl (hp.ob (i := 2) rfl) rfl ?_
    clear hf; intro a ha hf; clear ha
    refine st_ldO (u := .int .i64 r0c_1) hf (by decide) pl3 rfl rfl (hp.ob (i := 2) rfl) rfl ?_
    clear hf; intro a ha hf; clear ha
    obtain ⟨q44, hcall45, h⟩ := bnd h
    obtain ⟨S46, hp47, rd48, up49, bk50⟩ := Hp.lendS hp (i := 0) rfl
    obtain ⟨S51, hp52, rd53, up54, bk55⟩ := Hp.lendS hp47 (i := 0) rfl
    obtain ⟨S56, hp57, rd58, up59, bk60⟩ := Hp.lendO hp52 (i := 0) rfl
    refine st_call hf (by decide) Try.func29 rfl rfl rfl rfl rfl (f_foghornref28_Receiver_kept_c hp57 _ _ _ _ ((((rd48.now hp47).mono up54).now hp52).mono up59) _ _ ((rd53.now hp52).mono up59) _ rd58 _ hcall45) ?_
    rintro _ w ⟨rfl, hp0⟩
    have hp0 := bk60 _ _ hp0
    have hp0 := bk55 _ _ hp0
    have hp0 := bk50 _ _ hp0
    clear hp; have hp := hp0; clear hp0
    replace hp : Hp _ _ _ (Res.sl Ek.bool 4 v30 r0c_2 :: Res.sl Ek.str 9 v32 r0c_3 :: Res.obj 37 or0 [.int .i64 r0c_0, .int .i64 r0c_1, v30, v32] :: Res.sl Ek.str 9 v35 handed8 :: Res.obj 31 v6 [.int .u8 (0 : Int), .int .u8 (0 : Int), .bool false, .string ByteArray.empty] :: ow) := hp
    refine ⟨_, rfl, ?_⟩
    clear hf; intro a hf
    refine st_nil hf ?_
    refine th_n ?_
    refine wp_if hf rfl (fun hb => ?_) (fun hb => ?_)
    · replace h := ifT h hb
      refine wp_skip ?_
      refine th_n ?_
      refine wp_block ?_
      refine wp_seq ?_
      obtain ⟨S61, hp62, rd63, up64, bk65⟩ := Hp.lendO hp (i := 2) rfl
      obtain ⟨S66, hp67, rd68, up69, bk70⟩ := Hp.lendS hp62 (i := 1) rfl
      have rl71 := ((rd63.now hp62).mono up69)
      have rl72 := rd68
      obtain ⟨hc73, h⟩ := chk h
      obtain ⟨hc76, h⟩ := chk h
      refine wp_cutN (fun a w => ∃ (v74 : Value) (v77 : Value), Fr 172 a [(0, or0), (5, optr v6 0), (8, v77)] ∧ Hp S w0 w (Res.obj 37 or0 [.int .i64 r0c_0, .int .i64 r0c_1, v30, v32] :: Res.sl Ek.str 9 v32 r0c_3 :: Res.sl Ek.str 9 v74 ([(gt r0c_3 r0c_1)]) :: Res.sl Ek.bool 4 v30 r0c_2 :: Res.sl Ek.str 9 v77 (handed8 ++ [(gt r0c_3 r0c_1)]) :: Res.obj 31 v6 [.int .u8 (0 : Int), .int .u8 (0 : Int), .bool false, .string ByteArray.empty] :: ow)) ?_ ?_
      · have hp := hp67.same (Same.drew w)
        refine dr_begin' (fun a w => ∃ (v74 : Value) (v77 : Value), Fr 172 a [(0, or0), (5, optr v6 0), (8, v77)] ∧ Hp S w0 w (Res.obj 37 or0 [.int .i64 r0c_0, .int .i64 r0c_1, v30, v32] :: Res.sl Ek.str 9 v32 r0c_3 :: Res.sl Ek.str 9 v74 ([(gt r0c_3 r0c_1)]) :: Res.sl Ek.bool 4 v30 r0c_2 :: Res.sl Ek.str 9 v77 (handed8 ++ [(gt r0c_3 r0c_1)]) :: Res.obj 31 v6 [.int .u8 (0 : Int), .int .u8 (0 : Int), .bool false, .string ByteArray.empty] :: ow)) (fun w' => ∃ l, Hp S66 w w' l) [] (by kernel_rfl) ?_
        refine dr_take 0 (v35) rfl (by kernel_rfl) (by kernel_rfl) (by kernel_rfl) (by kernel_rfl) rfl rfl hf (by decide) rfl (fun w hp => ?_) ⟨_, hp⟩ ?_
        · obtain ⟨_, hp⟩ := hp
          refine st_move hf rfl rfl (by decide) ?_
          clear hf; intro a ha hf
          exact st_nil hf (th_n ⟨ha, rfl⟩)
        clear hf; intro a hf
        refine dr_take 1 (or0) rfl (by kernel_rfl) (by kernel_rfl) (by kernel_rfl) (by kernel_rfl) rfl rfl hf (by decide) rfl (fun w hp => ?_) ⟨_, hp⟩ ?_
        · obtain ⟨_, hp⟩ := hp
          refine st_move hf rfl rfl (by decide) ?_
          clear hf; intro a ha hf
          exact st_nil hf (th_n ⟨ha, rfl⟩)
        clear hf; intro a hf
        refine dr_nilV 2 rfl (by kernel_rfl) (by kernel_rfl) (by kernel_rfl) hf (by decide) rfl rfl (rl71.ob hp) ?_
        clear hf; intro a hf
        refine dr_take 3 (optr or0 3) rfl (by kernel_rfl) (by kernel_rfl) (by kernel_rfl) (by kernel_rfl) rfl rfl hf (by decide) rfl (fun w hp => ?_) ⟨_, hp⟩ ?_
        · obtain ⟨_, hp⟩ := hp
          refine st_fa (o' := 3) hf (by decide) (off := 3) (sz := 1) (by kernel_rfl) (by decide) rfl rfl (rl71.ob hp) rfl ?_
          clear hf; intro a ha hf
          exact st_nil hf (th_n ⟨ha, rfl⟩)
        clear hf; intro a hf
        refine dr_take 4 (v32) rfl (by kernel_rfl) (by kernel_rfl) (by kernel_rfl) (by kernel_rfl) rfl rfl hf (by decide) rfl (fun w hp => ?_) ⟨_, hp⟩ ?_
        · obtain ⟨_, hp⟩ := hp
          refine st_ldO (u := v32) hf (by decide) pl35 rfl rfl (rl71.ob hp) rfl ?_
          clear hf; intro a ha hf
          exact st_nil hf (th_n ⟨ha, rfl⟩)
        clear hf; intro a hf
        refine dr_take 5 (or0) rfl (by kernel_rfl) (by kernel_rfl) (by kernel_rfl) (by kernel_rfl) rfl rfl hf (by decide) rfl (fun w hp => ?_) ⟨_, hp⟩ ?_
        · obtain ⟨_, hp⟩ := hp
          refine st_move hf rfl rfl (by decide) ?_
          clear hf; intro a ha hf
          exact st_nil hf (th_n ⟨ha, rfl⟩)
        clear hf; intro a hf
        refine dr_nilV 6 rfl (by kernel_rfl) (by kernel_rfl) (by kernel_rfl) hf (by decide) rfl rfl (rl71.ob hp) ?_
        clear hf; intro a hf
        refine dr_take 7 (optr or0 1) rfl (by kernel_rfl) (by kernel_rfl) (by kernel_rfl) (by kernel_rfl) rfl rfl hf (by decide) rfl (fun w hp => ?_) ⟨_, hp⟩ ?_
        · obtain ⟨_, hp⟩ := hp
          refine st_fa (o' := 1) hf (by decide) (off := 1) (sz := 1) (by kernel_rfl) (by decide) rfl rfl (rl71.ob hp) rfl ?_
          clear hf; intro a ha hf
          exact st_nil hf (th_n ⟨ha, rfl⟩)
        clear hf; intro a hf
        refine dr_take 8 (.int .i64 r0c_1) rfl (by kernel_rfl) (by kernel_rfl) (by kernel_rfl) (by kernel_rfl) rfl rfl hf (by decide) rfl (fun w hp => ?_) ⟨_, hp⟩ ?_
        · obtain ⟨_, hp⟩ := hp
          refine st_ldO (u := .int .i64 r0c_1) hf (by decide) pl3 rfl rfl (rl71.ob hp) rfl ?_
          clear hf; intro a ha hf
          exact st_nil hf (th_n ⟨ha, rfl⟩)
        clear hf; intro a hf
        refine dr_take 9 (eptr v32 r0c_1 1) rfl (by kernel_rfl) (by kernel_rfl) (by kernel_rfl) (by kernel_rfl) rfl rfl hf (by decide) rfl (fun w hp => ?_) ⟨_, hp⟩ ?_
        · obtain ⟨_, hp⟩ := hp
          refine st_index (E := Ek.str) hf (by decide) Try.underlying35 elt9 rfl rfl rfl (rl72.sl hp) hc73.1 hc73.2 ?_
          clear hf; intro a ha hf
          exact st_nil hf (th_n ⟨ha, rfl⟩)
        clear hf; intro a hf
        refine dr_take 10 (.string (gt r0c_3 r0c_1)) rfl (by kernel_rfl) (by kernel_rfl) (by kernel_rfl) (by kernel_rfl) rfl rfl hf (by decide) rfl (fun w hp => ?_) ⟨_, hp⟩ ?_
        · obtain ⟨_, hp⟩ := hp
          refine st_ldS hf (by decide) pl9 rfl rfl (rl72.sl hp) hc73.1 hc73.2 ?_
          clear hf; intro a ha hf
          exact st_nil hf (th_n ⟨ha, rfl⟩)
        clear hf; intro a hf
        refine dr_one 11 rfl (by kernel_rfl) ?_
        refine st_build (E := Ek.str) (xs := [(gt r0c_3 r0c_1)]) hf (by decide) elt9 Try.underlying35 hp (vals := #[(0, .string (gt r0c_3 r0c_1))]) (cells := #[.string (gt r0c_3 r0c_1)]) rfl (by simp [hf.ev (x := (Operand.tmp 123)) rfl]) (by decide) (by decide) (z := .string ByteArray.empty) (by kernel_rfl) (by kernel_rfl) rfl (reps_cons (cs := [.string (gt r0c_3 r0c_1)]) rfl (reps_nil _)) ?_
        clear hf; intro a w v74 hf hp0; clear hp; have hp := hp0; clear hp0
        replace hp : Hp _ _ _ (Res.sl Ek.str 9 v74 ([(gt r0c_3 r0c_1)]) :: Res.sl Ek.bool 4 v30 r0c_2 :: Res.sl Ek.str 9 v35 handed8 :: Res.obj 31 v6 [.int .u8 (0 : Int), .int .u8 (0 : Int), .bool false, .string ByteArray.empty] :: ow) := hp
        refine st_nil hf (th_n ⟨fun _ _ => ⟨_, hp⟩, ?_⟩)
        refine dr_one 12 rfl (by kernel_rfl) ?_
        refine st_append (E := Ek.str) hf (by decide) elt9 Try.underlying35 (by decide) hp (i := 2) rfl rfl rfl rfl (hp.sl (i := 0) rfl) hc76 ?_
        clear hf; intro a w v77 hf hp0; clear hp; have hp := hp0; clear hp0
        replace hp : Hp _ _ _ (Res.sl Ek.str 9 v74 ([(gt r0c_3 r0c_1)]) :: Res.sl Ek.bool 4 v30 r0c_2 :: Res.sl Ek.str 9 v77 (handed8 ++ [(gt r0c_3 r0c_1)]) :: Res.obj 31 v6 [.int .u8 (0 : Int), .int .u8 (0 : Int), .bool false, .string ByteArray.empty] :: ow) := hp
        refine st_nil hf (th_n ⟨fun _ _ => ⟨_, hp⟩, ?_⟩)
        refine dr_take 13 (v77) rfl (by kernel_rfl) (by kernel_rfl) (by kernel_rfl) (by kernel_rfl) rfl rfl hf (by decide) rfl (fun w hp => ?_) ⟨_, hp⟩ ?_
        · obtain ⟨_, hp⟩ := hp
          refine st_assign hf rfl rfl (by decide) ?_
          clear hf; intro a ha hf
          exact st_nil hf (th_n ⟨ha, rfl⟩)
        clear hf; intro a hf
        refine dr_end (by kernel_rfl) ?_ _
        have hp := bk70 _ _ hp
        have hp := bk65 _ _ hp
        exact ⟨v74, v77, hf.sub ⟨rfl, rfl, rfl, trivial⟩, hp⟩
      rintro a w ⟨v74, v77, hf, hp⟩
      refine th_n ?_
      refine wp_reg ?_
      refine st_move hf rfl rfl (by decide) ?_
      clear hf; intro a ha hf; clear ha
      refine st_move hf rfl rfl (by decide) ?_
      clear hf; intro a ha hf; clear ha
      refine st_nilV hf (by decide) rfl rfl (hp.ob (i := 0) rfl) ?_
      clear hf; intro a ha hf; clear ha
      refine st_fa (o' := 1) hf (by decide) (off := 1) (sz := 1) (by kernel_rfl) (by decide) rfl rfl (hp.ob (i := 0) rfl) rfl ?_
      clear hf; intro a ha hf; clear ha
      refine st_ldO (u := .int .i64 r0c_1) hf (by decide) pl3 rfl rfl (hp.ob (i := 0) rfl) rfl ?_
      clear hf; intro a ha hf; clear ha
      refine st_iadd hf (by decide) rfl rfl rfl ?_
      clear hf; intro a ha hf; clear ha
      refine st_nilV hf (by decide) rfl rfl (hp.ob (i := 0) rfl) ?_
      clear hf; intro a ha hf; clear ha
      refine st_fa (o' := 1) hf (by decide) (off := 1) (sz := 1) (by kernel_rfl) (by decide) rfl rfl (hp.ob (i := 0) rfl) rfl ?_
      clear hf; intro a ha hf; clear ha
      refine st_stO (us := [.int .i64 (IntKind.i64.wrap (r0c_1 + (1 : Int)))]) hf hp (i := 0) rfl rfl rfl rfl rfl (by rfl) (by kernel_rfl) (Nat.le_of_ble_eq_true rfl) ?_
      clear hf; intro a w hf hp0; clear hp; have hp := hp0; clear hp0
      replace hp : Hp _ _ _ (Res.obj 37 or0 [.int .i64 r0c_0, .int .i64 (IntKind.i64.wrap (r0c_1 + (1 : Int))), v30, v32] :: Res.sl Ek.str 9 v32 r0c_3 :: Res.sl Ek.str 9 v74 ([(gt r0c_3 r0c_1)]) :: Res.sl Ek.bool 4 v30 r0c_2 :: Res.sl Ek.str 9 v77 (handed8 ++ [(gt r0c_3 r0c_1)]) :: Res.obj 31 v6 [.int .u8 (0 : Int), .int .u8 (0 : Int), .bool false, .string ByteArray.empty] :: ow) := hp
      refine st_nil hf ?_
      refine ib_n ?_
      obtain rfl := Option.some.inj h
      have hp : Hp _ _ _ (Res.sl Ek.bool 4 v30 r0c_2 :: Res.sl Ek.str 9 v32 r0c_3 :: Res.obj 37 or0 [.int .i64 r0c_0, .int .i64 (IntKind.i64.wrap (r0c_1 + (1 : Int))), v30, v32] :: Res.sl Ek.str 9 v77 (handed8 ++ [(gt r0c_3 r0c_1)]) :: Res.obj 31 v6 [.int .u8 (0 : Int), .int .u8 (0 : Int), .bool false, .string ByteArray.empty] :: ow) := Hp.sel (pre := [Res.obj 37 or0 [.int .i64 r0c_0, .int .i64 (IntKind.i64.wrap (r0c_1 + (1 : Int))), v30, v32], Res.sl Ek.str 9 v32 r0c_3, Res.sl Ek.str 9 v74 ([(gt r0c_3 r0c_1)]), Res.sl Ek.bool 4 v30 r0c_2, Res.sl Ek.str 9 v77 (handed8 ++ [(gt r0c_3 r0c_1)]), Res.obj 31 v6 [.int .u8 (0 : Int), .int .u8 (0 : Int), .bool false, .string ByteArray.empty]]) (tail := ow) (rs' := [Res.sl Ek.bool 4 v30 r0c_2, Res.sl Ek.str 9 v32 r0c_3, Res.obj 37 or0 [.int .i64 r0c_0, .int .i64 (IntKind.i64.wrap (r0c_1 + (1 : Int))), v30, v32], Res.sl Ek.str 9 v77 (handed8 ++ [(gt r0c_3 r0c_1)]), Res.obj 31 v6 [.int .u8 (0 : Int), .int .u8 (0 : Int), .bool false, .string ByteArray.empty]]) hp [3, 1, 0, 4, 5] (by decide) (by simp) rfl
      exact rnd_l ⟨_, _, _, hf.sub ⟨rfl, rfl, rfl, trivial⟩, hp⟩
    replace h := ifF h hb
    refine wp_exit ?_
    refine th_e ?_
    obtain rfl := Option.some.inj h
    exact rnd_r (by simp) ⟨rfl, _, _, _, hf.sub ⟨rfl, rfl, rfl, trivial⟩, hp⟩
  clear hl hf hp
  intro e a w hne hO
  obtain ⟨rfl, v37, v39, v42, hf, hp⟩ := hO
  refine ib_same ?_
  refine th_n ?_
  refine wp_seq ?_
  refine wp_reg ?_
  obtain ⟨hc80, h⟩ := chk h
  refine st_make (E := (Ek.int .u8)) hf (by decide) elt5 Try.underlying61 (by decide) hp rfl rfl rfl hc80.1 hc80.2.1 hc80.2.2 ?_
  clear hf; intro a w v81 hf hp0; clear hp; have hp := hp0; clear hp0
  replace hp : Hp _ _ _ (Res.sl (Ek.int .u8) 5 v81 (List.replicate ((16 : Int)).toNat (0 : Int)) :: Res.sl Ek.bool 4 v37 q78.2.2.1 :: Res.sl Ek.str 9 v39 q78.2.2.2.1 :: Res.obj 37 or0 [.int .i64 q78.1, .int .i64 q78.2.1, v37, v39] :: Res.sl Ek.str 9 v42 q78.2.2.2.2 :: Res.obj 31 v6 [.int .u8 (0 : Int), .int .u8 (0 : Int), .bool false, .string ByteArray.empty] :: ow) := hp
  refine st_assign hf rfl rfl (by decide) ?_
  clear hf; intro a ha hf; clear ha
  refine st_nil hf ?_
  refine th_n ?_
  refine wp_seq ?_
  refine wp_seq ?_
  refine wp_reg ?_
  refine st_assign hf rfl rfl (by decide) ?_
  clear hf; intro a ha hf; clear ha
  refine st_nil hf ?_
  refine th_n ?_
  refine wp_block ?_
  obtain ⟨q113, hl, h⟩ := bnd h
  have hp : Hp _ _ _ (Res.sl (Ek.int .u8) 5 v81 (List.replicate ((16 : Int)).toNat (0 : Int)) :: Res.obj 37 or0 [.int .i64 q78.1, .int .i64 q78.2.1, v37, v39] :: Res.sl Ek.bool 4 v37 q78.2.2.1 :: Res.sl Ek.str 9 v39 q78.2.2.2.1 :: Res.obj 31 v6 [.int .u8 (0 : Int), .int .u8 (0 : Int), .bool false, .string ByteArray.empty] :: Res.sl Ek.str 9 v42 q78.2.2.2.2 :: ow) := Hp.sel (pre := [Res.sl (Ek.int .u8) 5 v81 (List.replicate ((16 : Int)).toNat (0 : Int)), Res.sl Ek.bool 4 v37 q78.2.2.1, Res.sl Ek.str 9 v39 q78.2.2.2.1, Res.obj 37 or0 [.int .i64 q78.1, .int .i64 q78.2.1, v37, v39], Res.sl Ek.str 9 v42 q78.2.2.2.2, Res.obj 31 v6 [.int .u8 (0 : Int), .int .u8 (0 : Int), .bool false, .string ByteArray.empty]]) (tail := ow) (rs' := [Res.sl (Ek.int .u8) 5 v81 (List.replicate ((16 : Int)).toNat (0 : Int)), Res.obj 37 or0 [.int .i64 q78.1, .int .i64 q78.2.1, v37, v39], Res.sl Ek.bool 4 v37 q78.2.2.1, Res.sl Ek.str 9 v39 q78.2.2.2.1, Res.obj 31 v6 [.int .u8 (0 : Int), .int .u8 (0 : Int), .bool false, .string ByteArray.empty], Res.sl Ek.str 9 v42 q78.2.2.2.2]) hp [0, 3, 1, 2, 5, 4] (by decide) (by simp) rfl
  refine wp_loop_pure (f := (f_foghornref28_Receiver_Take.s2 q78)) (s := ((List.replicate ((16 : Int)).toNat (0 : Int)), (0 : Int))) (fun s a w => ∃ (v83 : Value), Fr 172 a [(0, or0), (5, optr v6 0), (8, v42), (9, v83), (10, .int .i64 s.2)] ∧ Hp S w0 w (Res.sl (Ek.int .u8) 5 v83 s.1 :: Res.obj 37 or0 [.int .i64 q78.1, .int .i64 q78.2.1, v37, v39] :: Res.sl Ek.bool 4 v37 q78.2.2.1 :: Res.sl Ek.str 9 v39 q78.2.2.2.1 :: Res.obj 31 v6 [.int .u8 (0 : Int), .int .u8 (0 : Int), .bool false, .string ByteArray.empty] :: Res.sl Ek.str 9 v42 q78.2.2.2.2 :: ow)) (fun q e a w => e = .exit 4 ∧ ∃ (v85 : Value), Fr 172 a [(0, or0), (5, optr v6 0), (8, v42), (9, v85)] ∧ Hp S w0 w (Res.sl (Ek.int .u8) 5 v85 q :: Res.obj 37 or0 [.int .i64 q78.1, .int .i64 q78.2.1, v37, v39] :: Res.sl Ek.bool 4 v37 q78.2.2.1 :: Res.sl Ek.str 9 v39 q78.2.2.2.1 :: Res.obj 31 v6 [.int .u8 (0 : Int), .int .u8 (0 : Int), .bool false, .string ByteArray.empty] :: Res.sl Ek.str 9 v42 q78.2.2.2.2 :: ow)) ?_ hl ⟨_, hf.sub ⟨rfl, rfl, rfl, rfl, rfl, trivial⟩, hp⟩ ?_
  · clear hl hf hp
    intro s x a w h hI
    obtain ⟨marks9, i10⟩ := s
    obtain ⟨v83, hf, hp⟩ : ∃ (v83 : Value), Fr 172 a [(0, or0), (5, optr v6 0), (8, v42), (9, v83), (10, .int .i64 i10)] ∧ Hp S w0 w (Res.sl (Ek.int .u8) 5 v83 marks9 :: Res.obj 37 or0 [.int .i64 q78.1, .int .i64 q78.2.1, v37, v39] :: Res.sl Ek.bool 4 v37 q78.2.2.1 :: Res.sl Ek.str 9 v39 q78.2.2.2.1 :: Res.obj 31 v6 [.int .u8 (0 : Int), .int .u8 (0 : Int), .bool false, .string ByteArray.empty] :: Res.sl Ek.str 9 v42 q78.2.2.2.2 :: ow) := hI
    replace h : f_foghornref28_Receiver_Take.s2c q78 marks9 i10 = some x := h
    unfold f_foghornref28_Receiver_Take.s2c at h
    refine wp_seq ?_
    refine wp_seq ?_
    refine wp_reg ?_
    refine st_move hf rfl rfl (by decide) ?_
    clear hf; intro a ha hf; clear ha
    refine st_ilss hf (by decide) rfl rfl rfl ?_
    clear hf; intro a ha hf; clear ha
    refine st_nil hf ?_
    refine th_n ?_
    refine wp_if hf rfl (fun hb => ?_) (fun hb => ?_)
    · replace h := ifT h hb
      refine wp_skip ?_
      refine th_n ?_
      refine wp_seq ?_
      refine wp_block ?_
      refine wp_seq ?_
      refine wp_reg ?_
      refine st_move hf rfl rfl (by decide) ?_
      clear hf; intro a ha hf; clear ha
      refine st_move hf rfl rfl (by decide) ?_
      clear hf; intro a ha hf; clear ha
      refine st_nilV hf (by decide) rfl rfl (hp.ob (i := 1) rfl) ?_
      clear hf; intro a ha hf; clear ha
      refine st_fa (o' := 1) hf (by decide) (off := 1) (sz := 1) (by kernel_rfl) (by decide) rfl rfl (hp.ob (i := 1) rfl) rfl ?_
      clear hf; intro a ha hf; clear ha
      refine st_ldO (u := .int .i64 q78.2.1) hf (by decide) pl3 rfl rfl (hp.ob (i := 1) rfl) rfl ?_
      clear hf; intro a ha hf; clear ha
      refine st_iadd hf (by decide) rfl rfl rfl ?_
      clear hf; intro a ha hf; clear ha
      refine st_move hf rfl rfl (by decide) ?_
      clear hf; intro a ha hf; clear ha
      refine st_iadd hf (by decide) rfl rfl rfl ?_
      clear hf; intro a ha hf; clear ha
      obtain ⟨q87, hcall88, h⟩ := bnd h
      obtain ⟨S89, hp90, rd91, up92, bk93⟩ := Hp.lendS hp (i := 2) rfl
      obtain ⟨S94, hp95, rd96, up97, bk98⟩ := Hp.lendS hp90 (i := 2) rfl
      obtain ⟨S99, hp100, rd101, up102, bk103⟩ := Hp.lendO hp95 (i := 1) rfl
      refine st_call hf (by decide) Try.func29 rfl rfl rfl rfl rfl (f_foghornref28_Receiver_kept_c hp100 _ _ _ _ ((((rd91.now hp90).mono up97).now hp95).mono up102) _ _ ((rd96.now hp95).mono up102) _ rd101 _ hcall88) ?_
      rintro _ w ⟨rfl, hp0⟩
      have hp0 := bk103 _ _ hp0
      have hp0 := bk98 _ _ hp0
      have hp0 := bk93 _ _ hp0
      clear hp; have hp := hp0; clear hp0
      replace hp : Hp _ _ _ (Res.sl Ek.bool 4 v37 q78.2.2.1 :: Res.sl Ek.str 9 v39 q78.2.2.2.1 :: Res.obj 37 or0 [.int .i64 q78.1, .int .i64 q78.2.1, v37, v39] :: Res.sl (Ek.int .u8) 5 v83 marks9 :: Res.obj 31 v6 [.int .u8 (0 : Int), .int .u8 (0 : Int), .bool false, .string ByteArray.empty] :: Res.sl Ek.str 9 v42 q78.2.2.2.2 :: ow) := hp
      refine ⟨_, rfl, ?_⟩
      clear hf; intro a hf
      refine st_nil hf ?_
      refine th_n ?_
      refine wp_if hf rfl (fun hb => ?_) (fun hb => ?_)
      · replace h := ifT h hb
        obtain ⟨S104, hp105, rd106, up107, bk108⟩ := Hp.lendS hp (i := 3) rfl
        have rl109 := rd106
        obtain ⟨hc110, h⟩ := chk h
        obtain ⟨hc111, h⟩ := chk h
        obtain ⟨hc112, h⟩ := chk h
        refine wp_cutN (fun a w => Fr 172 a [(0, or0), (5, optr v6 0), (8, v42), (9, v83), (10, .int .i64 i10)] ∧ Hp S w0 w (Res.sl (Ek.int .u8) 5 v83 (marks9.set ((IntKind.i64.wrap ((i10).tdiv (8 : Int)))).toNat (IntKind.u8.wrap ((gt marks9 (IntKind.i64.wrap ((i10).tdiv (8 : Int)))) + (ishl .u8 (1 : Int) (IntKind.i64.wrap ((7 : Int) - ((i10).tmod (8 : Int)))))))) :: Res.sl Ek.bool 4 v37 q78.2.2.1 :: Res.sl Ek.str 9 v39 q78.2.2.2.1 :: Res.obj 37 or0 [.int .i64 q78.1, .int .i64 q78.2.1, v37, v39] :: Res.obj 31 v6 [.int .u8 (0 : Int), .int .u8 (0 : Int), .bool false, .string ByteArray.empty] :: Res.sl Ek.str 9 v42 q78.2.2.2.2 :: ow)) ?_ ?_
        · have hp := hp105.same (Same.drew w)
          refine dr_begin' (fun a w => Fr 172 a [(0, or0), (5, optr v6 0), (8, v42), (9, v83), (10, .int .i64 i10)] ∧ Hp S w0 w (Res.sl (Ek.int .u8) 5 v83 (marks9.set ((IntKind.i64.wrap ((i10).tdiv (8 : Int)))).toNat (IntKind.u8.wrap ((gt marks9 (IntKind.i64.wrap ((i10).tdiv (8 : Int)))) + (ishl .u8 (1 : Int) (IntKind.i64.wrap ((7 : Int) - ((i10).tmod (8 : Int)))))))) :: Res.sl Ek.bool 4 v37 q78.2.2.1 :: Res.sl Ek.str 9 v39 q78.2.2.2.1 :: Res.obj 37 or0 [.int .i64 q78.1, .int .i64 q78.2.1, v37, v39] :: Res.obj 31 v6 [.int .u8 (0 : Int), .int .u8 (0 : Int), .bool false, .string ByteArray.empty] :: Res.sl Ek.str 9 v42 q78.2.2.2.2 :: ow)) (fun w' => ∃ l, Hp S104 w w' l) [14] (by kernel_rfl) ?_
          refine dr_takeP 0 (v83) rfl (by kernel_rfl) (by kernel_rfl) (by kernel_rfl) rfl rfl hf (by decide) rfl (fun w => ?_) ?_
          · skip
            refine st_move hf rfl rfl (by decide) ?_
            clear hf; intro a ha hf
            exact st_nil hf (th_n ⟨ha, rfl⟩)
          clear hf; intro a hf
          refine dr_takeP 1 (.int .i64 i10) rfl (by kernel_rfl) (by kernel_rfl) (by kernel_rfl) rfl rfl hf (by decide) rfl (fun w => ?_) ?_
          · skip
            refine st_move hf rfl rfl (by decide) ?_
            clear hf; intro a ha hf
            exact st_nil hf (th_n ⟨ha, rfl⟩)
          clear hf; intro a hf
          refine dr_takeP 2 (.int .i64 (IntKind.i64.wrap ((i10).tdiv (8 : Int)))) rfl (by kernel_rfl) (by kernel_rfl) (by kernel_rfl) rfl rfl hf (by decide) rfl (fun w => ?_) ?_
          · skip
            refine st_iquo hf (by decide) rfl rfl rfl (by decide) ?_
            clear hf; intro a ha hf
            exact st_nil hf (th_n ⟨ha, rfl⟩)
          clear hf; intro a hf
          refine dr_takeP 3 (v83) rfl (by kernel_rfl) (by kernel_rfl) (by kernel_rfl) rfl rfl hf (by decide) rfl (fun w => ?_) ?_
          · skip
            refine st_move hf rfl rfl (by decide) ?_
            clear hf; intro a ha hf
            exact st_nil hf (th_n ⟨ha, rfl⟩)
          clear hf; intro a hf
          refine dr_takeP 4 (.int .i64 i10) rfl (by kernel_rfl) (by kernel_rfl) (by kernel_rfl) rfl rfl hf (by decide) rfl (fun w => ?_) ?_
          · skip
            refine st_move hf rfl rfl (by decide) ?_
            clear hf; intro a ha hf
            exact st_nil hf (th_n ⟨ha, rfl⟩)
          clear hf; intro a hf
          refine dr_takeP 5 (.int .i64 (IntKind.i64.wrap ((i10).tdiv (8 : Int)))) rfl (by kernel_rfl) (by kernel_rfl) (by kernel_rfl) rfl rfl hf (by decide) rfl (fun w => ?_) ?_
          · skip
            refine st_iquo hf (by decide) rfl rfl rfl (by decide) ?_
            clear hf; intro a ha hf
            exact st_nil hf (th_n ⟨ha, rfl⟩)
          clear hf; intro a hf
          refine dr_takeP 6 (eptr v83 (IntKind.i64.wrap ((i10).tdiv (8 : Int))) 1) rfl (by kernel_rfl) (by kernel_rfl) (by kernel_rfl) rfl rfl hf (by decide) rfl (fun w => ?_) ?_
          · skip
            refine st_index (E := (Ek.int .u8)) hf (by decide) Try.underlying61 elt5 rfl rfl rfl rl109.any hc110.1 hc110.2 ?_
            clear hf; intro a ha hf
            exact st_nil hf (th_n ⟨ha, rfl⟩)
          clear hf; intro a hf
          refine dr_take2 7 (.int .u8 (gt marks9 (IntKind.i64.wrap ((i10).tdiv (8 : Int))))) rfl (by kernel_rfl) (by kernel_rfl) (by kernel_rfl) (by kernel_rfl) (by kernel_rfl) rfl rfl hf (by decide) rfl (fun w hp => ?_) ⟨_, hp⟩ ?_
          · obtain ⟨_, hp⟩ := hp
            refine st_ldI hf (by decide) pl5 rfl rfl (rl109.sl hp) hc110.1 hc110.2 ?_
            clear hf; intro a ha hf
            exact st_nil hf (th_n ⟨ha, rfl⟩)
          clear hf; intro a hf
          refine dr_takeP 8 (.int .i64 i10) rfl (by kernel_rfl) (by kernel_rfl) (by kernel_rfl) rfl rfl hf (by decide) rfl (fun w => ?_) ?_
          · skip
            refine st_move hf rfl rfl (by decide) ?_
            clear hf; intro a ha hf
            exact st_nil hf (th_n ⟨ha, rfl⟩)
          clear hf; intro a hf
          refine dr_takeP 9 (.int .i64 ((i10).tmod (8 : Int))) rfl (by kernel_rfl) (by kernel_rfl) (by kernel_rfl) rfl rfl hf (by decide) rfl (fun w => ?_) ?_
          · skip
            refine st_irem hf (by decide) rfl rfl rfl (by decide) ?_
            clear hf; intro a ha hf
            exact st_nil hf (th_n ⟨ha, rfl⟩)
          clear hf; intro a hf
          refine dr_takeP 10 (.int .i64 (IntKind.i64.wrap ((7 : Int) - ((i10).tmod (8 : Int))))) rfl (by kernel_rfl) (by kernel_rfl) (by kernel_rfl) rfl rfl hf (by decide) rfl (fun w => ?_) ?_
          · skip
            refine st_isub hf (by decide) rfl rfl rfl ?_
            clear hf; intro a ha hf
            exact st_nil hf (th_n ⟨ha, rfl⟩)
          clear hf; intro a hf
          refine dr_takeP 11 (.int .u8 (ishl .u8 (1 : Int) (IntKind.i64.wrap ((7 : Int) - ((i10).tmod (8 : Int)))))) rfl (by kernel_rfl) (by kernel_rfl) (by kernel_rfl) rfl rfl hf (by decide) rfl (fun w => ?_) ?_
          · skip
            refine st_ishl hf (by decide) rfl rfl rfl hc111 ?_
            clear hf; intro a ha hf
            exact st_nil hf (th_n ⟨ha, rfl⟩)
          clear hf; intro a hf
          refine dr_takeP 12 (.int .u8 (IntKind.u8.wrap ((gt marks9 (IntKind.i64.wrap ((i10).tdiv (8 : Int)))) + (ishl .u8 (1 : Int) (IntKind.i64.wrap ((7 : Int) - ((i10).tmod (8 : Int)))))))) rfl (by kernel_rfl) (by kernel_rfl) (by kernel_rfl) rfl rfl hf (by decide) rfl (fun w => ?_) ?_
          · skip
            refine st_iadd hf (by decide) rfl rfl rfl ?_
            clear hf; intro a ha hf
            exact st_nil hf (th_n ⟨ha, rfl⟩)
          clear hf; intro a hf
          refine dr_takeP 13 (eptr v83 (IntKind.i64.wrap ((i10).tdiv (8 : Int))) 1) rfl (by kernel_rfl) (by kernel_rfl) (by kernel_rfl) rfl rfl hf (by decide) rfl (fun w => ?_) ?_
          · skip
            refine st_index (E := (Ek.int .u8)) hf (by decide) Try.underlying61 elt5 rfl rfl rfl rl109.any hc112.1 hc112.2 ?_
            clear hf; intro a ha hf
            exact st_nil hf (th_n ⟨ha, rfl⟩)
          clear hf; intro a hf
          have hp := bk108 _ _ hp
          refine dr_one 14 rfl (by kernel_rfl) ?_
          refine st_store (E := (Ek.int .u8)) hf elt5 hp (i := 0) rfl rfl rfl rfl rfl hc112.1 hc112.2 ?_
          clear hf; intro a w hf hp0; clear hp; have hp := hp0; clear hp0
          replace hp : Hp _ _ _ (Res.sl (Ek.int .u8) 5 v83 (marks9.set ((IntKind.i64.wrap ((i10).tdiv (8 : Int)))).toNat (IntKind.u8.wrap ((gt marks9 (IntKind.i64.wrap ((i10).tdiv (8 : Int)))) + (ishl .u8 (1 : Int) (IntKind.i64.wrap ((7 : Int) - ((i10).tmod (8 : Int)))))))) :: Res.sl Ek.bool 4 v37 q78.2.2.1 :: Res.sl Ek.str 9 v39 q78.2.2.2.1 :: Res.obj 37 or0 [.int .i64 q78.1, .int .i64 q78.2.1, v37, v39] :: Res.obj 31 v6 [.int .u8 (0 : Int), .int .u8 (0 : Int), .bool false, .string ByteArray.empty] :: Res.sl Ek.str 9 v42 q78.2.2.2.2 :: ow) := hp
          refine st_nil hf (th_n ⟨fun hn => absurd hn (by decide), ?_⟩)
          refine dr_end (by kernel_rfl) ?_ _
          exact ⟨hf.sub ⟨rfl, rfl, rfl, rfl, rfl, trivial⟩, hp⟩
        rintro a w ⟨hf, hp⟩
        refine ib_n ?_
        refine th_n ?_
        refine wp_reg ?_
        refine st_move hf rfl rfl (by decide) ?_
        clear hf; intro a ha hf; clear ha
        refine st_iadd hf (by decide) rfl rfl rfl ?_
        clear hf; intro a ha hf; clear ha
        refine st_assign hf rfl rfl (by decide) ?_
        clear hf; intro a ha hf; clear ha
        refine st_nil hf ?_
        obtain rfl := Option.some.inj h
        have hp : Hp _ _ _ (Res.sl (Ek.int .u8) 5 v83 (marks9.set ((IntKind.i64.wrap ((i10).tdiv (8 : Int)))).toNat (IntKind.u8.wrap ((gt marks9 (IntKind.i64.wrap ((i10).tdiv (8 : Int)))) + (ishl .u8 (1 : Int) (IntKind.i64.wrap ((7 : Int) - ((i10).tmod (8 : Int)))))))) :: Res.obj 37 or0 [.int .i64 q78.1, .int .i64 q78.2.1, v37, v39] :: Res.sl Ek.bool 4 v37 q78.2.2.1 :: Res.sl Ek.str 9 v39 q78.2.2.2.1 :: Res.obj 31 v6 [.int .u8 (0 : Int), .int .u8 (0 : Int), .bool false, .string ByteArray.empty] :: Res.sl Ek.str 9 v42 q78.2.2.2.2 :: ow) := Hp.sel (pre := [Res.sl (Ek.int .u8) 5 v83 (marks9.set ((IntKind.i64.wrap ((i10).tdiv (8 : Int)))).toNat (IntKind.u8.wrap ((gt marks9 (IntKind.i64.wrap ((i10).tdiv (8 : Int)))) + (ishl .u8 (1 : Int) (IntKind.i64.wrap ((7 : Int) - ((i10).tmod (8 : Int)))))))), Res.sl Ek.bool 4 v37 q78.2.2.1, Res.sl Ek.str 9 v39 q78.2.2.2.1, Res.obj 37 or0 [.int .i64 q78.1, .int .i64 q78.2.1, v37, v39], Res.obj 31 v6 [.int .u8 (0 : Int), .int .u8 (0 : Int), .bool false, .string ByteArray.empty], Res.sl Ek.str 9 v42 q78.2.2.2.2]) (tail := ow) (rs' := [Res.sl (Ek.int .u8) 5 v83 (marks9.set ((IntKind.i64.wrap ((i10).tdiv (8 : Int)))).toNat (IntKind.u8.wrap ((gt marks9 (IntKind.i64.wrap ((i10).tdiv (8 : Int)))) + (ishl .u8 (1 : Int) (IntKind.i64.wrap ((7 : Int) - ((i10).tmod (8 : Int)))))))), Res.obj 37 or0 [.int .i64 q78.1, .int .i64 q78.2.1, v37, v39], Res.sl Ek.bool 4 v37 q78.2.2.1, Res.sl Ek.str 9 v39 q78.2.2.2.1, Res.obj 31 v6 [.int .u8 (0 : Int), .int .u8 (0 : Int), .bool false, .string ByteArray.empty], Res.sl Ek.str 9 v42 q78.2.2.2.2]) hp [0, 3, 1, 2, 4, 5] (by decide) (by simp) rfl
        exact rnd_l ⟨_, hf.sub ⟨rfl, rfl, rfl, rfl, rfl, trivial⟩, hp⟩
      replace h := ifF h hb
      refine wp_skip ?_
      refine ib_n ?_
      refine th_n ?_
      refine wp_reg ?_
      refine st_move hf rfl rfl (by decide) ?_
      clear hf; intro a ha hf; clear ha
      refine st_iadd hf (by decide) rfl rfl rfl ?_
      clear hf; intro a ha hf; clear ha
      refine st_assign hf rfl rfl (by decide) ?_
      clear hf; intro a ha hf; clear ha
      refine st_nil hf ?_
      obtain rfl := Option.some.inj h
      have hp : Hp _ _ _ (Res.sl (Ek.int .u8) 5 v83 marks9 :: Res.obj 37 or0 [.int .i64 q78.1, .int .i64 q78.2.1, v37, v39] :: Res.sl Ek.bool 4 v37 q78.2.2.1 :: Res.sl Ek.str 9 v39 q78.2.2.2.1 :: Res.obj 31 v6 [.int .u8 (0 : Int), .int .u8 (0 : Int), .bool false, .string ByteArray.empty] :: Res.sl Ek.str 9 v42 q78.2.2.2.2 :: ow) := Hp.sel (pre := [Res.sl Ek.bool 4 v37 q78.2.2.1, Res.sl Ek.str 9 v39 q78.2.2.2.1, Res.obj 37 or0 [.int .i64 q78.1, .int .i64 q78.2.1, v37, v39], Res.sl (Ek.int .u8) 5 v83 marks9, Res.obj 31 v6 [.int .u8 (0 : Int), .int .u8 (0 : Int), .bool false, .string ByteArray.empty], Res.sl Ek.str 9 v42 q78.2.2.2.2]) (tail := ow) (rs' := [Res.sl (Ek.int .u8) 5 v83 marks9, Res.obj 37 or0 [.int .i64 q78.1, .int .i64 q78.2.1, v37, v39], Res.sl Ek.bool 4 v37 q78.2.2.1, Res.sl Ek.str 9 v39 q78.2.2.2.1, Res.obj 31 v6 [.int .u8 (0 : Int), .int .u8 (0 : Int), .bool false, .string ByteArray.empty], Res.sl Ek.str 9 v42 q78.2.2.2.2]) hp [3, 2, 0, 1, 4, 5] (by decide) (by simp) rfl
      exact rnd_l ⟨_, hf.sub ⟨rfl, rfl, rfl, rfl, rfl, trivial⟩, hp⟩
    replace h := ifF h hb
    refine wp_exit ?_
    refine th_e ?_
    obtain rfl := Option.some.inj h
    exact rnd_r (by simp) ⟨rfl, _, hf.sub ⟨rfl, rfl, rfl, rfl, trivial⟩, hp⟩
  clear hl hf hp
  intro e a w hne hO
  obtain ⟨rfl, v85, hf, hp⟩ := hO
  refine ib_same ?_
  refine th_n ?_
  refine wp_seq ?_
  obtain ⟨S114, hp115, rd116, up117, bk118⟩ := Hp.lendO hp (i := 1) rfl
  obtain ⟨S119, hp120, rd121, up122, bk123⟩ := Hp.lendS hp115 (i := 0) rfl
  have rl124 := ((rd116.now hp115).mono up122)
  have rl125 := rd121
  refine wp_cutN (fun a w => Fr 172 a [(0, or0), (4, v42), (5, optr v6 0), (6, .int .i64 (0 : Int))] ∧ Hp S w0 w (Res.obj 37 or0 [.int .i64 q78.1, .int .i64 q78.2.1, v37, v39] :: Res.sl (Ek.int .u8) 5 v85 q113 :: Res.sl Ek.bool 4 v37 q78.2.2.1 :: Res.sl Ek.str 9 v39 q78.2.2.2.1 :: Res.obj 31 v6 [.int .u8 (2 : Int), .int .u8 (IntKind.u8.wrap ((q78.2.1).tmod (256 : Int))), .bool false, .string (bstr q113)] :: Res.sl Ek.str 9 v42 q78.2.2.2.2 :: ow)) ?_ ?_
  · have hp := hp120.same (Same.drew w)
    refine dr_begin' (fun a w => Fr 172 a [(0, or0), (4, v42), (5, optr v6 0), (6, .int .i64 (0 : Int))] ∧ Hp S w0 w (Res.obj 37 or0 [.int .i64 q78.1, .int .i64 q78.2.1, v37, v39] :: Res.sl (Ek.int .u8) 5 v85 q113 :: Res.sl Ek.bool 4 v37 q78.2.2.1 :: Res.sl Ek.str 9 v39 q78.2.2.2.1 :: Res.obj 31 v6 [.int .u8 (2 : Int), .int .u8 (IntKind.u8.wrap ((q78.2.1).tmod (256 : Int))), .bool false, .string (bstr q113)] :: Res.sl Ek.str 9 v42 q78.2.2.2.2 :: ow)) (fun w' => ∃ l, Hp S119 w w' l) [] (by kernel_rfl) ?_
    refine dr_take 0 (v42) rfl (by kernel_rfl) (by kernel_rfl) (by kernel_rfl) (by kernel_rfl) rfl rfl hf (by decide) rfl (fun w hp => ?_) ⟨_, hp⟩ ?_
    · obtain ⟨_, hp⟩ := hp
      refine st_move hf rfl rfl (by decide) ?_
      clear hf; intro a ha hf
      exact st_nil hf (th_n ⟨ha, rfl⟩)
    clear hf; intro a hf
    refine dr_take 1 (or0) rfl (by kernel_rfl) (by kernel_rfl) (by kernel_rfl) (by kernel_rfl) rfl rfl hf (by decide) rfl (fun w hp => ?_) ⟨_, hp⟩ ?_
    · obtain ⟨_, hp⟩ := hp
      refine st_move hf rfl rfl (by decide) ?_
      clear hf; intro a ha hf
      exact st_nil hf (th_n ⟨ha, rfl⟩)
    clear hf; intro a hf
    refine dr_nilV 2 rfl (by kernel_rfl) (by kernel_rfl) (by kernel_rfl) hf (by decide) rfl rfl (rl124.ob hp) ?_
    clear hf; intro a hf
    refine dr_take 3 (optr or0 1) rfl (by kernel_rfl) (by kernel_rfl) (by kernel_rfl) (by kernel_rfl) rfl rfl hf (by decide) rfl (fun w hp => ?_) ⟨_, hp⟩ ?_
    · obtain ⟨_, hp⟩ := hp
      refine st_fa (o' := 1) hf (by decide) (off := 1) (sz := 1) (by kernel_rfl) (by decide) rfl rfl (rl124.ob hp) rfl ?_
      clear hf; intro a ha hf
      exact st_nil hf (th_n ⟨ha, rfl⟩)
    clear hf; intro a hf
    refine dr_take 4 (.int .i64 q78.2.1) rfl (by kernel_rfl) (by kernel_rfl) (by kernel_rfl) (by kernel_rfl) rfl rfl hf (by decide) rfl (fun w hp => ?_) ⟨_, hp⟩ ?_
    · obtain ⟨_, hp⟩ := hp
      refine st_ldO (u := .int .i64 q78.2.1) hf (by decide) pl3 rfl rfl (rl124.ob hp) rfl ?_
      clear hf; intro a ha hf
      exact st_nil hf (th_n ⟨ha, rfl⟩)
    clear hf; intro a hf
    refine dr_take 5 (.int .i64 ((q78.2.1).tmod (256 : Int))) rfl (by kernel_rfl) (by kernel_rfl) (by kernel_rfl) (by kernel_rfl) rfl rfl hf (by decide) rfl (fun w hp => ?_) ⟨_, hp⟩ ?_
    · obtain ⟨_, hp⟩ := hp
      refine st_irem hf (by decide) rfl rfl rfl (by decide) ?_
      clear hf; intro a ha hf
      exact st_nil hf (th_n ⟨ha, rfl⟩)
    clear hf; intro a hf
    refine dr_take 6 (.int .u8 (IntKind.u8.wrap ((q78.2.1).tmod (256 : Int)))) rfl (by kernel_rfl) (by kernel_rfl) (by kernel_rfl) (by kernel_rfl) rfl rfl hf (by decide) rfl (fun w hp => ?_) ⟨_, hp⟩ ?_
    · obtain ⟨_, hp⟩ := hp
      refine st_conv_ii hf (by decide) (by rw [Try.underlying3]; rfl) Try.underlying5 rfl rfl ?_
      clear hf; intro a ha hf
      exact st_nil hf (th_n ⟨ha, rfl⟩)
    clear hf; intro a hf
    refine dr_take 7 (v85) rfl (by kernel_rfl) (by kernel_rfl) (by kernel_rfl) (by kernel_rfl) rfl rfl hf (by decide) rfl (fun w hp => ?_) ⟨_, hp⟩ ?_
    · obtain ⟨_, hp⟩ := hp
      refine st_move hf rfl rfl (by decide) ?_
      clear hf; intro a ha hf
      exact st_nil hf (th_n ⟨ha, rfl⟩)
    clear hf; intro a hf
    refine dr_take 8 (.string (bstr q113)) rfl (by kernel_rfl) (by kernel_rfl) (by kernel_rfl) (by kernel_rfl) rfl rfl hf (by decide) rfl (fun w hp => ?_) ⟨_, hp⟩ ?_
    · obtain ⟨_, hp⟩ := hp
      refine st_convBS hf (by decide) Try.underlying61 Try.underlying5 Try.underlying9 rfl rfl (rl125.sl hp) ?_
      clear hf; intro a ha hf
      exact st_nil hf (th_n ⟨ha, rfl⟩)
    clear hf; intro a hf
    refine dr_take 9 (.agg #[.int .u8 (2 : Int), .int .u8 (IntKind.u8.wrap ((q78.2.1).tmod (256 : Int))), .bool false, .string (bstr q113)]) rfl (by kernel_rfl) (by kernel_rfl) (by kernel_rfl) (by kernel_rfl) rfl rfl hf (by decide) rfl (fun w hp => ?_) ⟨_, hp⟩ ?_
    · obtain ⟨_, hp⟩ := hp
      refine st_buildA (vals := [(0, .int .u8 (2 : Int)), (1, .int .u8 (IntKind.u8.wrap ((q78.2.1).tmod (256 : Int)))), (3, .string (bstr q113))]) (cells := [.int .u8 (2 : Int), .int .u8 (IntKind.u8.wrap ((q78.2.1).tmod (256 : Int))), .bool false, .string (bstr q113)]) hf (by decide) rfl (by simp [hf.ev (x := (Operand.const (.int .u8 (2 : Int)))) rfl, hf.ev (x := (Operand.tmp 168)) rfl, hf.ev (x := (Operand.tmp 170)) rfl]) (fun w => by kernel_rfl) ?_
      clear hf; intro a ha hf
      exact st_nil hf (th_n ⟨ha, rfl⟩)
    clear hf; intro a hf
    refine dr_take 10 (v42) rfl (by kernel_rfl) (by kernel_rfl) (by kernel_rfl) (by kernel_rfl) rfl rfl hf (by decide) rfl (fun w hp => ?_) ⟨_, hp⟩ ?_
    · obtain ⟨_, hp⟩ := hp
      refine st_assign hf rfl rfl (by decide) ?_
      clear hf; intro a ha hf
      exact st_nil hf (th_n ⟨ha, rfl⟩)
    clear hf; intro a hf
    refine dr_one 11 rfl (by kernel_rfl) ?_
    refine st_stO (us := [.int .u8 (2 : Int), .int .u8 (IntKind.u8.wrap ((q78.2.1).tmod (256 : Int))), .bool false, .string (bstr q113)]) hf hp (i := 2) rfl rfl rfl rfl rfl (by rfl) (by kernel_rfl) (Nat.le_of_ble_eq_true rfl) ?_
    clear hf; intro a w hf hp0; clear hp; have hp := hp0; clear hp0
    replace hp : Hp _ _ _ (Res.sl Ek.bool 4 v37 q78.2.2.1 :: Res.sl Ek.str 9 v39 q78.2.2.2.1 :: Res.obj 31 v6 [.int .u8 (2 : Int), .int .u8 (IntKind.u8.wrap ((q78.2.1).tmod (256 : Int))), .bool false, .string (bstr q113)] :: Res.sl Ek.str 9 v42 q78.2.2.2.2 :: ow) := hp
    refine st_nil hf (th_n ⟨fun _ _ => ⟨_, hp⟩, ?_⟩)
    refine dr_take 12 (.int .i64 (0 : Int)) rfl (by kernel_rfl) (by kernel_rfl) (by kernel_rfl) (by kernel_rfl) rfl rfl hf (by decide) rfl (fun w hp => ?_) ⟨_, hp⟩ ?_
    · obtain ⟨_, hp⟩ := hp
      refine st_assign hf rfl rfl (by decide) ?_
      clear hf; intro a ha hf
      exact st_nil hf (th_n ⟨ha, rfl⟩)
    clear hf; intro a hf
    refine dr_end (by kernel_rfl) ?_ _
    have hp := bk123 _ _ hp
    have hp := bk118 _ _ hp
    exact ⟨hf.sub ⟨rfl, rfl, rfl, rfl, trivial⟩, hp⟩
  rintro a w ⟨hf, hp⟩
  refine th_n ?_
  refine wp_ret ?_
  obtain rfl := Option.some.inj h
  have hp : Hp _ _ _ (Res.obj 31 v6 [.int .u8 (2 : Int), .int .u8 (IntKind.u8.wrap ((q78.2.1).tmod (256 : Int))), .bool false, .string (bstr q113)] :: Res.sl Ek.str 9 v42 q78.2.2.2.2 :: Res.sl Ek.bool 4 v37 q78.2.2.1 :: Res.sl Ek.str 9 v39 q78.2.2.2.1 :: Res.obj 37 or0 [.int .i64 q78.1, .int .i64 q78.2.1, v37, v39] :: ow) := Hp.sel (pre := [Res.obj 37 or0 [.int .i64 q78.1, .int .i64 q78.2.1, v37, v39], Res.sl (Ek.int .u8) 5 v85 q113, Res.sl Ek.bool 4 v37 q78.2.2.1, Res.sl Ek.str 9 v39 q78.2.2.2.1, Res.obj 31 v6 [.int .u8 (2 : Int), .int .u8 (IntKind.u8.wrap ((q78.2.1).tmod (256 : Int))), .bool false, .string (bstr q113)], Res.sl Ek.str 9 v42 q78.2.2.2.2]) (tail := ow) (rs' := [Res.obj 31 v6 [.int .u8 (2 : Int), .int .u8 (IntKind.u8.wrap ((q78.2.1).tmod (256 : Int))), .bool false, .string (bstr q113)], Res.sl Ek.str 9 v42 q78.2.2.2.2, Res.sl Ek.bool 4 v37 q78.2.2.1, Res.sl Ek.str 9 v39 q78.2.2.2.1, Res.obj 37 or0 [.int .i64 q78.1, .int .i64 q78.2.1, v37, v39]]) hp [4, 5, 2, 3, 0] (by decide) (by simp) rfl
  exact ⟨rfl, ⟨_, _, _, _, hf.sub ⟨rfl, rfl, rfl, trivial⟩, hp⟩⟩

noncomputable def f_foghornlaw28_sameTexts.s1c (ax0 : (List ByteArray)) (bx1 : (List ByteArray)) (i5 : Int) : Option (Int ⊕ (Unit ⊕ Bool)) := (if (decide (i5 < (ax0.length : Int))) = true then (if 0 ≤ i5 ∧ i5 < (ax0.length : Int) then (if 0 ≤ i5 ∧ i5 < (bx1.length : Int) then (if (!seq (gt ax0 i5) (gt bx1 i5)) = true then (some (Sum.inr (Sum.inr false))) else (some (Sum.inl (IntKind.i64.wrap (i5 + (1 : Int)))))) else none) else none) else (some (Sum.inr (Sum.inl ()))))
noncomputable def f_foghornlaw28_sameTexts.s1 (ax0 : (List ByteArray)) (bx1 : (List ByteArray)) (s : Int) : Option (Int ⊕ (Unit ⊕ Bool)) := f_foghornlaw28_sameTexts.s1c ax0 bx1 s
noncomputable def f_foghornlaw28_sameTexts (ax0 : (List ByteArray)) (bx1 : (List ByteArray)) : Option Bool := (if ((ax0.length : Int) != (bx1.length : Int)) = true then (some false) else ((loop (f_foghornlaw28_sameTexts.s1 ax0 bx1) (0 : Int)).bind (fun q3 => sm q3 (fun q4 => (some true)) (fun q5 => (some q5)))))
theorem f_foghornlaw28_sameTexts_c {S : Nat → Prop} {w0 w : World} {ow : List Res} (hp : Hp S w0 w ow) (vax0 : Value) (ax0 : (List ByteArray)) (hax0 : RdS Ek.str S w0 vax0 ax0) (vbx1 : Value) (bx1 : (List ByteArray)) (hbx1 : RdS Ek.str S w0 vbx1 bx1) {r : Bool} (h : f_foghornlaw28_sameTexts ax0 bx1 = some r) :
    Calls Try.prog 12 #[vax0, vbx1] w (fun e w' => e = .returned (.bool r) ∧ Hp S w0 w' (ow)) := by
  unfold f_foghornlaw28_sameTexts at h
  refine enter (n := 26) (args := [vax0, vbx1]) Try.func12 rfl rfl (Nat.le_of_ble_eq_true rfl) fun a hf => ?_
  replace hf : Fr 26 a [(0, vax0), (1, vbx1)] := hf
  refine wp_mono (Q := fun e a w => e = .ret ∧ Fr 26 a [(4, .bool r)] ∧ Hp S w0 w (ow)) ?_ ?_
  rotate_left
  · rintro e a w ⟨rfl, hf, hp⟩
    exact ret1 hf rfl rfl ⟨rfl, hp⟩
  refine wp_seq ?_
  refine wp_reg ?_
  refine st_assign hf rfl rfl (by decide) ?_
  clear hf; intro a ha hf; clear ha
  refine st_nil hf ?_
  refine th_n ?_
  refine wp_seq ?_
  refine wp_seq ?_
  refine wp_reg ?_
  refine st_move hf rfl rfl (by decide) ?_
  clear hf; intro a ha hf; clear ha
  refine st_len (E := Ek.str) hf (by decide) Try.underlying35 rfl rfl (hax0.sl hp) ?_
  clear hf; intro a ha hf; clear ha
  refine st_move hf rfl rfl (by decide) ?_
  clear hf; intro a ha hf; clear ha
  refine st_len (E := Ek.str) hf (by decide) Try.underlying35 rfl rfl (hbx1.sl hp) ?_
  clear hf; intro a ha hf; clear ha
  refine st_ineq hf (by decide) rfl rfl rfl ?_
  clear hf; intro a ha hf; clear ha
  refine st_nil hf ?_
  refine th_n ?_
  refine wp_if hf rfl (fun hb => ?_) (fun hb => ?_)
  · replace h := ifT h hb
    refine wp_seq ?_
    refine wp_reg ?_
    refine st_assign hf rfl rfl (by decide) ?_
    clear hf; intro a ha hf; clear ha
    refine st_nil hf ?_
    refine th_n ?_
    refine wp_ret ?_
    refine th_r ?_
    obtain rfl := Option.some.inj h
    exact ⟨rfl, ⟨hf.sub ⟨rfl, trivial⟩, hp⟩⟩
  replace h := ifF h hb
  refine wp_skip ?_
  refine th_n ?_
  refine wp_seq ?_
  refine wp_seq ?_
  refine wp_reg ?_
  refine st_assign hf rfl rfl (by decide) ?_
  clear hf; intro a ha hf; clear ha
  refine st_nil hf ?_
  refine th_n ?_
  refine wp_block ?_
  obtain ⟨q3, hl, h⟩ := bnd h
  refine wp_loop_pure (f := (f_foghornlaw28_sameTexts.s1 ax0 bx1)) (s := (0 : Int)) (fun s a w => Fr 26 a [(0, vax0), (1, vbx1), (5, .int .i64 s)] ∧ Hp S w0 w (ow)) (fun q e a w => match q with | (Sum.inl q) => e = .exit 0 ∧ Fr 26 a [] ∧ Hp S w0 w (ow) | (Sum.inr q) => e = .ret ∧ Fr 26 a [(4, .bool q)] ∧ Hp S w0 w (ow)) ?_ hl ⟨hf.sub ⟨rfl, rfl, rfl, trivial⟩, hp⟩ ?_
  · clear hl hf hp
    intro s x a w h hI
    obtain ⟨i5, hs⟩ : ∃ z, z = s := ⟨s, rfl⟩; subst hs
    obtain ⟨hf, hp⟩ : Fr 26 a [(0, vax0), (1, vbx1), (5, .int .i64 i5)] ∧ Hp S w0 w (ow) := hI
    replace h : f_foghornlaw28_sameTexts.s1c ax0 bx1 i5 = some x := h
    unfold f_foghornlaw28_sameTexts.s1c at h
    refine wp_seq ?_
    refine wp_seq ?_
    refine wp_reg ?_
    refine st_move hf rfl rfl (by decide) ?_
    clear hf; intro a ha hf; clear ha
    refine st_move hf rfl rfl (by decide) ?_
    clear hf; intro a ha hf; clear ha
    refine st_len (E := Ek.str) hf (by decide) Try.underlying35 rfl rfl (hax0.sl hp) ?_
    clear hf; intro a ha hf; clear ha
    refine st_ilss hf (by decide) rfl rfl rfl ?_
    clear hf; intro a ha hf; clear ha
    refine st_nil hf ?_
    refine th_n ?_
    refine wp_if hf rfl (fun hb => ?_) (fun hb => ?_)
    · replace h := ifT h hb
      refine wp_skip ?_
      refine th_n ?_
      refine wp_seq ?_
      refine wp_block ?_
      refine wp_seq ?_
      obtain ⟨hc1, h⟩ := chk h
      obtain ⟨hc2, h⟩ := chk h
      refine wp_cutN (fun a w => Fr 26 a [(0, vax0), (1, vbx1), (5, .int .i64 i5), (25, .bool (!seq (gt ax0 i5) (gt bx1 i5)))] ∧ Hp S w0 w (ow)) ?_ ?_
      · have hp := hp.same (Same.drew w)
        refine dr_begin' (fun a w => Fr 26 a [(0, vax0), (1, vbx1), (5, .int .i64 i5), (25, .bool (!seq (gt ax0 i5) (gt bx1 i5)))] ∧ Hp S w0 w (ow)) (fun w' => ∃ l, Hp S w0 w' l) [] (by kernel_rfl) ?_
        refine dr_take 0 (vax0) rfl (by kernel_rfl) (by kernel_rfl) (by kernel_rfl) (by kernel_rfl) rfl rfl hf (by decide) rfl (fun w hp => ?_) ⟨_, hp⟩ ?_
        · obtain ⟨_, hp⟩ := hp
          refine st_move hf rfl rfl (by decide) ?_
          clear hf; intro a ha hf
          exact st_nil hf (th_n ⟨ha, rfl⟩)
        clear hf; intro a hf
        refine dr_take 1 (.int .i64 i5) rfl (by kernel_rfl) (by kernel_rfl) (by kernel_rfl) (by kernel_rfl) rfl rfl hf (by decide) rfl (fun w hp => ?_) ⟨_, hp⟩ ?_
        · obtain ⟨_, hp⟩ := hp
          refine st_move hf rfl rfl (by decide) ?_
          clear hf; intro a ha hf
          exact st_nil hf (th_n ⟨ha, rfl⟩)
        clear hf; intro a hf
        refine dr_take 2 (eptr vax0 i5 1) rfl (by kernel_rfl) (by kernel_rfl) (by kernel_rfl) (by kernel_rfl) rfl rfl hf (by decide) rfl (fun w hp => ?_) ⟨_, hp⟩ ?_
        · obtain ⟨_, hp⟩ := hp
          refine st_index (E := Ek.str) hf (by decide) Try.underlying35 elt9 rfl rfl rfl (hax0.sl hp) hc1.1 hc1.2 ?_
          clear hf; intro a ha hf
          exact st_nil hf (th_n ⟨ha, rfl⟩)
        clear hf; intro a hf
        refine dr_take 3 (.string (gt ax0 i5)) rfl (by kernel_rfl) (by kernel_rfl) (by kernel_rfl) (by kernel_rfl) rfl rfl hf (by decide) rfl (fun w hp => ?_) ⟨_, hp⟩ ?_
        · obtain ⟨_, hp⟩ := hp
          refine st_ldS hf (by decide) pl9 rfl rfl (hax0.sl hp) hc1.1 hc1.2 ?_
          clear hf; intro a ha hf
          exact st_nil hf (th_n ⟨ha, rfl⟩)
        clear hf; intro a hf
        refine dr_take 4 (vbx1) rfl (by kernel_rfl) (by kernel_rfl) (by kernel_rfl) (by kernel_rfl) rfl rfl hf (by decide) rfl (fun w hp => ?_) ⟨_, hp⟩ ?_
        · obtain ⟨_, hp⟩ := hp
          refine st_move hf rfl rfl (by decide) ?_
          clear hf; intro a ha hf
          exact st_nil hf (th_n ⟨ha, rfl⟩)
        clear hf; intro a hf
        refine dr_take 5 (.int .i64 i5) rfl (by kernel_rfl) (by kernel_rfl) (by kernel_rfl) (by kernel_rfl) rfl rfl hf (by decide) rfl (fun w hp => ?_) ⟨_, hp⟩ ?_
        · obtain ⟨_, hp⟩ := hp
          refine st_move hf rfl rfl (by decide) ?_
          clear hf; intro a ha hf
          exact st_nil hf (th_n ⟨ha, rfl⟩)
        clear hf; intro a hf
        refine dr_take 6 (eptr vbx1 i5 1) rfl (by kernel_rfl) (by kernel_rfl) (by kernel_rfl) (by kernel_rfl) rfl rfl hf (by decide) rfl (fun w hp => ?_) ⟨_, hp⟩ ?_
        · obtain ⟨_, hp⟩ := hp
          refine st_index (E := Ek.str) hf (by decide) Try.underlying35 elt9 rfl rfl rfl (hbx1.sl hp) hc2.1 hc2.2 ?_
          clear hf; intro a ha hf
          exact st_nil hf (th_n ⟨ha, rfl⟩)
        clear hf; intro a hf
        refine dr_take 7 (.string (gt bx1 i5)) rfl (by kernel_rfl) (by kernel_rfl) (by kernel_rfl) (by kernel_rfl) rfl rfl hf (by decide) rfl (fun w hp => ?_) ⟨_, hp⟩ ?_
        · obtain ⟨_, hp⟩ := hp
          refine st_ldS hf (by decide) pl9 rfl rfl (hbx1.sl hp) hc2.1 hc2.2 ?_
          clear hf; intro a ha hf
          exact st_nil hf (th_n ⟨ha, rfl⟩)
        clear hf; intro a hf
        refine dr_take 8 (.bool (!seq (gt ax0 i5) (gt bx1 i5))) rfl (by kernel_rfl) (by kernel_rfl) (by kernel_rfl) (by kernel_rfl) rfl rfl hf (by decide) rfl (fun w hp => ?_) ⟨_, hp⟩ ?_
        · obtain ⟨_, hp⟩ := hp
          refine st_sneq hf (by decide) rfl rfl rfl ?_
          clear hf; intro a ha hf
          exact st_nil hf (th_n ⟨ha, rfl⟩)
        clear hf; intro a hf
        refine dr_end (by kernel_rfl) ?_ _
        exact ⟨hf.sub ⟨rfl, rfl, rfl, rfl, trivial⟩, hp⟩
      rintro a w ⟨hf, hp⟩
      refine th_n ?_
      refine wp_if hf rfl (fun hb => ?_) (fun hb => ?_)
      · replace h := ifT h hb
        refine wp_seq ?_
        refine wp_reg ?_
        refine st_assign hf rfl rfl (by decide) ?_
        clear hf; intro a ha hf; clear ha
        refine st_nil hf ?_
        refine th_n ?_
        refine wp_ret ?_
        refine ib_r ?_
        refine th_r ?_
        obtain rfl := Option.some.inj h
        exact rnd_r (by simp) ⟨rfl, ⟨hf.sub ⟨rfl, trivial⟩, hp⟩⟩
      replace h := ifF h hb
      refine wp_skip ?_
      refine ib_n ?_
      refine th_n ?_
      refine wp_reg ?_
      refine st_move hf rfl rfl (by decide) ?_
      clear hf; intro a ha hf; clear ha
      refine st_iadd hf (by decide) rfl rfl rfl ?_
      clear hf; intro a ha hf; clear ha
      refine st_assign hf rfl rfl (by decide) ?_
      clear hf; intro a ha hf; clear ha
      refine st_nil hf ?_
      obtain rfl := Option.some.inj h
      exact rnd_l ⟨hf.sub ⟨rfl, rfl, rfl, trivial⟩, hp⟩
    replace h := ifF h hb
    refine wp_exit ?_
    refine th_e ?_
    obtain rfl := Option.some.inj h
    exact rnd_r (by simp) ⟨rfl, hf.sub trivial, hp⟩
  clear hl hf hp
  intro e a w hne hO
  rcases q3 with q4 | q5
  · replace h := smL h
    obtain ⟨rfl, hf, hp⟩ := hO
    refine ib_same ?_
    refine th_n ?_
    refine wp_seq ?_
    refine wp_reg ?_
    refine st_assign hf rfl rfl (by decide) ?_
    clear hf; intro a ha hf; clear ha
    refine st_nil hf ?_
    refine th_n ?_
    refine wp_ret ?_
    obtain rfl := Option.some.inj h
    exact ⟨rfl, ⟨hf.sub ⟨rfl, trivial⟩, hp⟩⟩
  replace h := smR h
  obtain ⟨rfl, hf, hp⟩ := hO
  refine ib_r ?_
  refine th_r ?_
  obtain rfl := Option.some.inj h
  exact ⟨rfl, ⟨hf.sub ⟨rfl, trivial⟩, hp⟩⟩

end Go.Proofs.Ytmdigffgmohcnaa
