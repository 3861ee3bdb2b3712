/- The functions foghorn foghornlaw28.AgainLean: what each answers, as a plain function, and that its call answers it; printed by gen.py. -/
import Derived.Test.YtmdigffgmohcnaaProg
import Derived.Test.YtmdigffgmohcnaaGlUb
import Derived.KernelRfl
set_option linter.unusedVariables false
set_option linter.unusedSimpArgs false
set_option maxRecDepth 100000
set_option maxHeartbeats 4000000
namespace Go.Proofs.Ytmdigffgmohcnaa
open GL
def pk79 : PtrK (Int × Int × Int × Int × (List (ByteArray × Bool × Int × Bool))) where
  R := fun v s => Res.ex fun (u : Value) => Res.star [Res.obj 79 v [.int .i64 s.1, .int .i64 s.2.1, .int .i64 s.2.2.1, .int .i64 s.2.2.2.1, u], Res.sl (Ek.pair Ek.str (Ek.pair Ek.bool (Ek.pair (Ek.int .i64) Ek.bool))) 81 u s.2.2.2.2]
  sh := fun ⟨_, h⟩ => star_sh h
theorem pk79_in {S : Nat → Prop} {w0 w : World} {rs : List Res} {v : Value} {s : (Int × Int × Int × Int × (List (ByteArray × Bool × Int × Bool)))} (hp : Hp S w0 w (pk79.R v s :: rs)) : ∃ u : Value, Hp S w0 w (Res.obj 79 v [.int .i64 s.1, .int .i64 s.2.1, .int .i64 s.2.2.1, .int .i64 s.2.2.2.1, u] :: Res.sl (Ek.pair Ek.str (Ek.pair Ek.bool (Ek.pair (Ek.int .i64) Ek.bool))) 81 u s.2.2.2.2 :: rs) := by
  obtain ⟨u, h⟩ := Hp.exOpen hp
  exact ⟨u, h.unstar⟩
theorem pk79_out {S : Nat → Prop} {w0 w : World} {rs : List Res} {v : Value} {s : (Int × Int × Int × Int × (List (ByteArray × Bool × Int × Bool)))} {u : Value} (hp : Hp S w0 w (Res.obj 79 v [.int .i64 s.1, .int .i64 s.2.1, .int .i64 s.2.2.1, .int .i64 s.2.2.2.1, u] :: Res.sl (Ek.pair Ek.str (Ek.pair Ek.bool (Ek.pair (Ek.int .i64) Ek.bool))) 81 u s.2.2.2.2 :: rs)) : Hp S w0 w (pk79.R v s :: rs) :=
  Hp.exClose (R := fun u => Res.star [Res.obj 79 v [.int .i64 s.1, .int .i64 s.2.1, .int .i64 s.2.2.1, .int .i64 s.2.2.2.1, u], Res.sl (Ek.pair Ek.str (Ek.pair Ek.bool (Ek.pair (Ek.int .i64) Ek.bool))) 81 u s.2.2.2.2]) (i := u) (Hp.star (l := [Res.obj 79 v [.int .i64 s.1, .int .i64 s.2.1, .int .i64 s.2.2.1, .int .i64 s.2.2.2.1, u], Res.sl (Ek.pair Ek.str (Ek.pair Ek.bool (Ek.pair (Ek.int .i64) Ek.bool))) 81 u s.2.2.2.2]) hp)
def pk74 : PtrK (Int × Int × (List (Int × ByteArray))) where
  R := fun v s => Res.ex fun (u : Value) => Res.star [Res.obj 74 v [.int .i64 s.1, .int .i64 s.2.1, u], Res.map (fun x : ByteArray => Value.string x) u s.2.2]
  sh := fun ⟨_, h⟩ => star_sh h
theorem pk74_in {S : Nat → Prop} {w0 w : World} {rs : List Res} {v : Value} {s : (Int × Int × (List (Int × ByteArray)))} (hp : Hp S w0 w (pk74.R v s :: rs)) : ∃ u : Value, Hp S w0 w (Res.obj 74 v [.int .i64 s.1, .int .i64 s.2.1, u] :: Res.map (fun x : ByteArray => Value.string x) u s.2.2 :: rs) := by
  obtain ⟨u, h⟩ := Hp.exOpen hp
  exact ⟨u, h.unstar⟩
theorem pk74_out {S : Nat → Prop} {w0 w : World} {rs : List Res} {v : Value} {s : (Int × Int × (List (Int × ByteArray)))} {u : Value} (hp : Hp S w0 w (Res.obj 74 v [.int .i64 s.1, .int .i64 s.2.1, u] :: Res.map (fun x : ByteArray => Value.string x) u s.2.2 :: rs)) : Hp S w0 w (pk74.R v s :: rs) :=
  Hp.exClose (R := fun u => Res.star [Res.obj 74 v [.int .i64 s.1, .int .i64 s.2.1, u], Res.map (fun x : ByteArray => Value.string x) u s.2.2]) (i := u) (Hp.star (l := [Res.obj 74 v [.int .i64 s.1, .int .i64 s.2.1, u], Res.map (fun x : ByteArray => Value.string x) u s.2.2]) hp)
theorem elt3 : ElT Try.prog (Ek.int .i64) 3 8 (0 : Int) := ElT.of (z := .int .i64 0) (by kernel_rfl) rfl
theorem elt5 : ElT Try.prog (Ek.int .u8) 5 1 (0 : Int) := ElT.of (z := .int .u8 0) (by kernel_rfl) rfl
theorem elt9 : ElT Try.prog Ek.str 9 16 ByteArray.empty := ElT.of (z := .string ByteArray.empty) (by kernel_rfl) rfl
theorem elt31 : ElT Try.prog (Ek.pair (Ek.int .u8) (Ek.pair (Ek.int .u8) (Ek.pair Ek.bool Ek.str))) 31 24 ((0 : Int), (0 : Int), false, ByteArray.empty) := ElT.of (z := .agg #[.int .u8 0, .int .u8 0, .bool false, .string ByteArray.empty]) (by kernel_rfl) ⟨[.int .u8 0], [.int .u8 0, .bool false, .string ByteArray.empty], rfl, rfl, ⟨[.int .u8 0], [.bool false, .string ByteArray.empty], rfl, rfl, ⟨[.bool false], [.string ByteArray.empty], rfl, rfl, rfl⟩⟩⟩
theorem elt81 : ElT Try.prog (Ek.pair Ek.str (Ek.pair Ek.bool (Ek.pair (Ek.int .i64) Ek.bool))) 81 40 (ByteArray.empty, false, (0 : Int), false) := ElT.of (z := .agg #[.string ByteArray.empty, .bool false, .int .i64 0, .bool false]) (by kernel_rfl) ⟨[.string ByteArray.empty], [.bool false, .int .i64 0, .bool false], rfl, rfl, ⟨[.bool false], [.int .i64 0, .bool false], rfl, rfl, ⟨[.int .i64 0], [.bool false], rfl, rfl, rfl⟩⟩⟩
theorem elt88 : ElT Try.prog (Ek.pair (Ek.int .i64) (Ek.pair (Ek.int .i64) (Ek.pair (Ek.int .u8) (Ek.pair (Ek.int .u8) (Ek.pair Ek.bool Ek.str))))) 88 40 ((0 : Int), (0 : Int), ((0 : Int), (0 : Int), false, ByteArray.empty)) := ElT.of (z := .agg #[.int .i64 0, .int .i64 0, .int .u8 0, .int .u8 0, .bool false, .string ByteArray.empty]) (by kernel_rfl) ⟨[.int .i64 0], [.int .i64 0, .int .u8 0, .int .u8 0, .bool false, .string ByteArray.empty], rfl, rfl, ⟨[.int .i64 0], [.int .u8 0, .int .u8 0, .bool false, .string ByteArray.empty], rfl, rfl, ⟨[.int .u8 0], [.int .u8 0, .bool false, .string ByteArray.empty], rfl, rfl, ⟨[.int .u8 0], [.bool false, .string ByteArray.empty], rfl, rfl, ⟨[.bool false], [.string ByteArray.empty], rfl, rfl, rfl⟩⟩⟩⟩⟩
theorem pl2 : Plain Try.prog 2 := ⟨⟨_, Try.underlying2, trivial⟩⟩
theorem pl3 : Plain Try.prog 3 := ⟨⟨_, Try.underlying3, trivial⟩⟩
theorem pl4 : Plain Try.prog 4 := ⟨⟨_, Try.underlying4, trivial⟩⟩
theorem pl5 : Plain Try.prog 5 := ⟨⟨_, Try.underlying5, trivial⟩⟩
theorem pl9 : Plain Try.prog 9 := ⟨⟨_, Try.underlying9, trivial⟩⟩
theorem pl23 : Plain Try.prog 23 := ⟨⟨_, Try.underlying23, trivial⟩⟩
theorem pl35 : Plain Try.prog 35 := ⟨⟨_, Try.underlying35, trivial⟩⟩
theorem pl44 : Plain Try.prog 44 := ⟨⟨_, Try.underlying44, trivial⟩⟩
theorem pl61 : Plain Try.prog 61 := ⟨⟨_, Try.underlying61, trivial⟩⟩
theorem pl64 : Plain Try.prog 64 := ⟨⟨_, Try.underlying64, trivial⟩⟩
theorem pl65 : Plain Try.prog 65 := ⟨⟨_, Try.underlying65, trivial⟩⟩
theorem pl66 : Plain Try.prog 66 := ⟨⟨_, Try.underlying66, trivial⟩⟩
theorem pl72 : Plain Try.prog 72 := ⟨⟨_, Try.underlying72, trivial⟩⟩
theorem pl77 : Plain Try.prog 77 := ⟨⟨_, Try.underlying77, trivial⟩⟩
noncomputable def f_again_NewSender (window0 : Int) (wait1 : Int) : Option ((Option (Int × Int × Int × Int × (List (ByteArray × Bool × Int × Bool)))) × Int) := (if (((decide (window0 < (1 : Int))) || (decide ((128 : Int) < window0))) || (decide (wait1 < (1 : Int)))) = true then (some (none, (1 : Int))) else (some ((some (window0, wait1, (0 : Int), (0 : Int), [])), (0 : Int))))
theorem f_again_NewSender_c {S : Nat → Prop} {w0 w : World} {ow : List Res} (hp : Hp S w0 w ow) (window0 : Int) (wait1 : Int) {r : ((Option (Int × Int × Int × Int × (List (ByteArray × Bool × Int × Bool)))) × Int)} (h : f_again_NewSender window0 wait1 = some r) :
    Calls Try.prog 15 #[.int .i64 window0, .int .i64 wait1] w (fun e w' => ∃ (u0 : Value), e = .returned (.tuple #[u0, .int .i64 r.2]) ∧ Hp S w0 w' (Res.opt pk79 u0 r.1 :: ow)) := by
  unfold f_again_NewSender at h
  refine enter (n := 20) (args := [.int .i64 window0, .int .i64 wait1]) Try.func15 rfl rfl (Nat.le_of_ble_eq_true rfl) fun a hf => ?_
  replace hf : Fr 20 a [(0, .int .i64 window0), (1, .int .i64 wait1)] := hf
  refine wp_mono (Q := fun e a w => e = .ret ∧ ∃ (u0 : Value), Fr 20 a [(4, u0), (5, .int .i64 r.2)] ∧ Hp S w0 w (Res.opt pk79 u0 r.1 :: ow)) ?_ ?_
  rotate_left
  · rintro e a w ⟨rfl, x0, hf, hp⟩
    exact ret2 hf rfl rfl rfl ⟨x0, rfl, hp⟩
  refine wp_seq ?_
  refine wp_reg ?_
  refine st_assign hf rfl rfl (by decide) ?_
  clear hf; intro a ha hf; clear ha
  refine st_assign hf rfl rfl (by decide) ?_
  clear hf; intro a ha hf; clear ha
  refine st_nil hf ?_
  refine th_n ?_
  refine wp_seq ?_
  refine wp_seq ?_
  refine wp_reg ?_
  refine st_move hf rfl rfl (by decide) ?_
  clear hf; intro a ha hf; clear ha
  refine st_ilss hf (by decide) rfl rfl rfl ?_
  clear hf; intro a ha hf; clear ha
  refine st_move hf rfl rfl (by decide) ?_
  clear hf; intro a ha hf; clear ha
  refine wpList_cut 3 (fun a w => Fr 20 a [(0, .int .i64 window0), (1, .int .i64 wait1), (11, .bool ((decide (window0 < (1 : Int))) || (decide ((128 : Int) < window0))))] ∧ Hp S w0 w (ow)) ?_ ?_
  · rcases Bool.eq_false_or_eq_true (decide (window0 < (1 : Int))) with hb2 | hb2
    · skip
      refine st_skip hf (wantN hf rfl rfl hb2) rfl (by decide) ?_ rfl
      clear hf; intro a hf
      refine st_skip hf (wantN hf rfl rfl hb2) rfl (by decide) ?_ rfl
      clear hf; intro a hf
      refine st_pick (v := .bool true) hf rfl rfl (fun hb' => ?_) (fun hb' => ?_) (by decide) ?_
      · rfl
      · exact absurd (hb2.symm.trans hb') (by decide)
      clear hf; intro a ha hf; clear ha
      refine st_nil hf (th_n ?_)
      exact ⟨hf.sub ⟨rfl, rfl, (by rw [hb2]; rfl), trivial⟩, hp⟩
    refine st_move hf (wantY hf rfl rfl hb2) rfl (by decide) ?_
    clear hf; intro a ha hf; clear ha
    refine st_igtr hf (by decide) (wantY hf rfl rfl hb2) rfl rfl ?_
    clear hf; intro a ha hf; clear ha
    refine st_pick (v := .bool (decide ((128 : Int) < window0))) hf rfl rfl (fun hb' => ?_) (fun hb' => ?_) (by decide) ?_
    · exact absurd (hb2.symm.trans hb') (by decide)
    · rfl
    clear hf; intro a ha hf; clear ha
    refine st_nil hf (th_n ?_)
    exact ⟨hf.sub ⟨rfl, rfl, (by rw [hb2]; rfl), trivial⟩, hp⟩
  rintro a w ⟨hf, hp⟩
  refine st_move hf rfl rfl (by decide) ?_
  clear hf; intro a ha hf; clear ha
  refine wpList_cut 3 (fun a w => Fr 20 a [(0, .int .i64 window0), (1, .int .i64 wait1), (15, .bool (((decide (window0 < (1 : Int))) || (decide ((128 : Int) < window0))) || (decide (wait1 < (1 : Int)))))] ∧ Hp S w0 w (ow)) ?_ ?_
  · rcases Bool.eq_false_or_eq_true ((decide (window0 < (1 : Int))) || (decide ((128 : Int) < window0))) with hb4 | hb4
    · skip
      refine st_skip hf (wantN hf rfl rfl hb4) rfl (by decide) ?_ rfl
      clear hf; intro a hf
      refine st_skip hf (wantN hf rfl rfl hb4) rfl (by decide) ?_ rfl
      clear hf; intro a hf
      refine st_pick (v := .bool true) hf rfl rfl (fun hb' => ?_) (fun hb' => ?_) (by decide) ?_
      · rfl
      · exact absurd (hb4.symm.trans hb') (by decide)
      clear hf; intro a ha hf; clear ha
      refine st_nil hf (th_n ?_)
      exact ⟨hf.sub ⟨rfl, rfl, (by rw [hb4]; rfl), trivial⟩, hp⟩
    refine st_move hf (wantY hf rfl rfl hb4) rfl (by decide) ?_
    clear hf; intro a ha hf; clear ha
    refine st_ilss hf (by decide) (wantY hf rfl rfl hb4) rfl rfl ?_
    clear hf; intro a ha hf; clear ha
    refine st_pick (v := .bool (decide (wait1 < (1 : Int)))) hf rfl rfl (fun hb' => ?_) (fun hb' => ?_) (by decide) ?_
    · exact absurd (hb4.symm.trans hb') (by decide)
    · rfl
    clear hf; intro a ha hf; clear ha
    refine st_nil hf (th_n ?_)
    exact ⟨hf.sub ⟨rfl, rfl, (by rw [hb4]; rfl), trivial⟩, hp⟩
  rintro a w ⟨hf, hp⟩
  refine st_nil hf ?_
  refine th_n ?_
  refine wp_if hf rfl (fun hb => ?_) (fun hb => ?_)
  · replace h := ifT h hb
    refine wp_seq ?_
    refine wp_reg ?_
    refine st_assign hf rfl rfl (by decide) ?_
    clear hf; intro a ha hf; clear ha
    refine st_assign hf rfl rfl (by decide) ?_
    clear hf; intro a ha hf; clear ha
    refine st_nil hf ?_
    refine th_n ?_
    refine wp_ret ?_
    refine th_r ?_
    obtain rfl := Option.some.inj h
    have hp := hp.optNil pk79
    exact ⟨rfl, ⟨_, hf.sub ⟨rfl, rfl, trivial⟩, hp⟩⟩
  replace h := ifF h hb
  refine wp_skip ?_
  refine th_n ?_
  refine wp_seq ?_
  refine wp_reg ?_
  refine st_move hf rfl rfl (by decide) ?_
  clear hf; intro a ha hf; clear ha
  refine st_move hf rfl rfl (by decide) ?_
  clear hf; intro a ha hf; clear ha
  refine st_buildA (vals := [(0, .int .i64 window0), (1, .int .i64 wait1)]) (cells := [.int .i64 window0, .int .i64 wait1, .int .i64 (0 : Int), .int .i64 (0 : Int), .slice none 0 0]) hf (by decide) rfl (by simp [hf.ev (x := (Operand.tmp 16)) rfl, hf.ev (x := (Operand.tmp 17)) rfl]) (fun w => by kernel_rfl) ?_
  clear hf; intro a ha hf; clear ha
  refine st_boxO (cs := [.int .i64 window0, .int .i64 wait1, .int .i64 (0 : Int), .int .i64 (0 : Int), .slice none 0 0]) hf (by decide) hp rfl rfl rfl ?_
  clear hf; intro a w v6 hf hp0; clear hp; have hp := hp0; clear hp0
  replace hp : Hp _ _ _ (Res.obj 79 v6 [.int .i64 window0, .int .i64 wait1, .int .i64 (0 : Int), .int .i64 (0 : Int), .slice none 0 0] :: ow) := hp
  rw [hp.eq0] at hf
  refine st_assign hf rfl rfl (by decide) ?_
  clear hf; intro a ha hf; clear ha
  refine st_assign hf rfl rfl (by decide) ?_
  clear hf; intro a ha hf; clear ha
  refine st_nil hf ?_
  refine th_n ?_
  refine wp_ret ?_
  have hp := hp.nil (Ek.pair Ek.str (Ek.pair Ek.bool (Ek.pair (Ek.int .i64) Ek.bool))) 81
  have hp : Hp _ _ _ (Res.obj 79 v6 [.int .i64 window0, .int .i64 wait1, .int .i64 (0 : Int), .int .i64 (0 : Int), .slice none 0 0] :: Res.sl (Ek.pair Ek.str (Ek.pair Ek.bool (Ek.pair (Ek.int .i64) Ek.bool))) 81 (.slice none 0 0) ([]) :: ow) := Hp.sel (pre := [Res.sl (Ek.pair Ek.str (Ek.pair Ek.bool (Ek.pair (Ek.int .i64) Ek.bool))) 81 (.slice none 0 0) ([]), Res.obj 79 v6 [.int .i64 window0, .int .i64 wait1, .int .i64 (0 : Int), .int .i64 (0 : Int), .slice none 0 0]]) (tail := ow) (rs' := [Res.obj 79 v6 [.int .i64 window0, .int .i64 wait1, .int .i64 (0 : Int), .int .i64 (0 : Int), .slice none 0 0], Res.sl (Ek.pair Ek.str (Ek.pair Ek.bool (Ek.pair (Ek.int .i64) Ek.bool))) 81 (.slice none 0 0) ([])]) hp [1, 0] (by decide) (by simp) rfl
  replace hp : Hp _ _ _ (Res.opt pk79 v6 (some (window0, wait1, (0 : Int), (0 : Int), [])) :: ow) := pk79_out (s := (window0, wait1, (0 : Int), (0 : Int), [])) (u := .slice none 0 0) hp
  obtain rfl := Option.some.inj h
  exact ⟨rfl, ⟨_, hf.sub ⟨rfl, rfl, trivial⟩, hp⟩⟩

noncomputable def f_again_NewReceiver (window0 : Int) : Option ((Option (Int × Int × (List (Int × ByteArray)))) × Int) := (if ((decide (window0 < (1 : Int))) || (decide ((128 : Int) < window0))) = true then (some (none, (1 : Int))) else (some ((some (window0, (0 : Int), ([] : (List (Int × ByteArray))))), (0 : Int))))
theorem f_again_NewReceiver_c {S : Nat → Prop} {w0 w : World} {ow : List Res} (hp : Hp S w0 w ow) (window0 : Int) {r : ((Option (Int × Int × (List (Int × ByteArray)))) × Int)} (h : f_again_NewReceiver window0 = some r) :
    Calls Try.prog 8 #[.int .i64 window0] w (fun e w' => ∃ (u0 : Value), e = .returned (.tuple #[u0, .int .i64 r.2]) ∧ Hp S w0 w' (Res.opt pk74 u0 r.1 :: ow)) := by
  unfold f_again_NewReceiver at h
  refine enter (n := 14) (args := [.int .i64 window0]) Try.func8 rfl rfl (Nat.le_of_ble_eq_true rfl) fun a hf => ?_
  replace hf : Fr 14 a [(0, .int .i64 window0)] := hf
  refine wp_mono (Q := fun e a w => e = .ret ∧ ∃ (u0 : Value), Fr 14 a [(2, u0), (3, .int .i64 r.2)] ∧ Hp S w0 w (Res.opt pk74 u0 r.1 :: ow)) ?_ ?_
  rotate_left
  · rintro e a w ⟨rfl, x0, hf, hp⟩
    exact ret2 hf rfl rfl rfl ⟨x0, rfl, hp⟩
  refine wp_seq ?_
  refine wp_reg ?_
  refine st_assign hf rfl rfl (by decide) ?_
  clear hf; intro a ha hf; clear ha
  refine st_assign hf rfl rfl (by decide) ?_
  clear hf; intro a ha hf; clear ha
  refine st_nil hf ?_
  refine th_n ?_
  refine wp_seq ?_
  refine wp_seq ?_
  refine wp_reg ?_
  refine st_move hf rfl rfl (by decide) ?_
  clear hf; intro a ha hf; clear ha
  refine st_ilss hf (by decide) rfl rfl rfl ?_
  clear hf; intro a ha hf; clear ha
  refine st_move hf rfl rfl (by decide) ?_
  clear hf; intro a ha hf; clear ha
  refine wpList_cut 3 (fun a w => Fr 14 a [(0, .int .i64 window0), (9, .bool ((decide (window0 < (1 : Int))) || (decide ((128 : Int) < window0))))] ∧ Hp S w0 w (ow)) ?_ ?_
  · rcases Bool.eq_false_or_eq_true (decide (window0 < (1 : Int))) with hb2 | hb2
    · skip
      refine st_skip hf (wantN hf rfl rfl hb2) rfl (by decide) ?_ rfl
      clear hf; intro a hf
      refine st_skip hf (wantN hf rfl rfl hb2) rfl (by decide) ?_ rfl
      clear hf; intro a hf
      refine st_pick (v := .bool true) hf rfl rfl (fun hb' => ?_) (fun hb' => ?_) (by decide) ?_
      · rfl
      · exact absurd (hb2.symm.trans hb') (by decide)
      clear hf; intro a ha hf; clear ha
      refine st_nil hf (th_n ?_)
      exact ⟨hf.sub ⟨rfl, (by rw [hb2]; rfl), trivial⟩, hp⟩
    refine st_move hf (wantY hf rfl rfl hb2) rfl (by decide) ?_
    clear hf; intro a ha hf; clear ha
    refine st_igtr hf (by decide) (wantY hf rfl rfl hb2) rfl rfl ?_
    clear hf; intro a ha hf; clear ha
    refine st_pick (v := .bool (decide ((128 : Int) < window0))) hf rfl rfl (fun hb' => ?_) (fun hb' => ?_) (by decide) ?_
    · exact absurd (hb2.symm.trans hb') (by decide)
    · rfl
    clear hf; intro a ha hf; clear ha
    refine st_nil hf (th_n ?_)
    exact ⟨hf.sub ⟨rfl, (by rw [hb2]; rfl), trivial⟩, hp⟩
  rintro a w ⟨hf, hp⟩
  refine st_nil hf ?_
  refine th_n ?_
  refine wp_if hf rfl (fun hb => ?_) (fun hb => ?_)
  · replace h := ifT h hb
    refine wp_seq ?_
    refine wp_reg ?_
    refine st_assign hf rfl rfl (by decide) ?_
    clear hf; intro a ha hf; clear ha
    refine st_assign hf rfl rfl (by decide) ?_
    clear hf; intro a ha hf; clear ha
    refine st_nil hf ?_
    refine th_n ?_
    refine wp_ret ?_
    refine th_r ?_
    obtain rfl := Option.some.inj h
    have hp := hp.optNil pk74
    exact ⟨rfl, ⟨_, hf.sub ⟨rfl, rfl, trivial⟩, hp⟩⟩
  replace h := ifF h hb
  refine wp_skip ?_
  refine th_n ?_
  refine wp_seq ?_
  refine wp_reg ?_
  refine st_move hf rfl rfl (by decide) ?_
  clear hf; intro a ha hf; clear ha
  refine st_makeMap (enc := (fun x : ByteArray => Value.string x)) hf (by decide) hp rfl ?_
  clear hf; intro a w g4 hf hp0; clear hp; have hp := hp0; clear hp0
  replace hp : Hp _ _ _ (Res.map (fun x : ByteArray => Value.string x) (.map (some g4)) ([] : (List (Int × ByteArray))) :: ow) := hp
  refine st_buildA (vals := [(0, .int .i64 window0), (2, (.map (some g4)))]) (cells := [.int .i64 window0, .int .i64 (0 : Int), (.map (some g4))]) hf (by decide) rfl (by simp [hf.ev (x := (Operand.tmp 10)) rfl, hf.ev (x := (Operand.tmp 11)) rfl]) (fun w => by kernel_rfl) ?_
  clear hf; intro a ha hf; clear ha
  refine st_boxO (cs := [.int .i64 window0, .int .i64 (0 : Int), (.map (some g4))]) hf (by decide) hp rfl rfl rfl ?_
  clear hf; intro a w v6 hf hp0; clear hp; have hp := hp0; clear hp0
  replace hp : Hp _ _ _ (Res.obj 74 v6 [.int .i64 window0, .int .i64 (0 : Int), (.map (some g4))] :: Res.map (fun x : ByteArray => Value.string x) (.map (some g4)) ([] : (List (Int × ByteArray))) :: ow) := hp
  rw [hp.eq0] at hf
  refine st_assign hf rfl rfl (by decide) ?_
  clear hf; intro a ha hf; clear ha
  refine st_assign hf rfl rfl (by decide) ?_
  clear hf; intro a ha hf; clear ha
  refine st_nil hf ?_
  refine th_n ?_
  refine wp_ret ?_
  replace hp : Hp _ _ _ (Res.opt pk74 v6 (some (window0, (0 : Int), ([] : (List (Int × ByteArray))))) :: ow) := pk74_out (s := (window0, (0 : Int), ([] : (List (Int × ByteArray))))) (u := (.map (some g4))) hp
  obtain rfl := Option.some.inj h
  exact ⟨rfl, ⟨_, hf.sub ⟨rfl, rfl, trivial⟩, hp⟩⟩

noncomputable def f_again_Sender_Offer (sx0_window : Int) (sx0_wait : Int) (sx0_now : Int) (sx0_front : Int) (sx0_left : (List (ByteArray × Bool × Int × Bool))) (body1 : ByteArray) : Option (Int × (Int × Int × Int × Int × (List (ByteArray × Bool × Int × Bool)))) := (if (decide ((240 : Int) < (body1.size : Int))) = true then (some ((1 : Int), (sx0_window, sx0_wait, sx0_now, sx0_front, sx0_left))) else (if (decide ((4096 : Int) ≤ (sx0_left.length : Int))) = true then (some ((3 : Int), (sx0_window, sx0_wait, sx0_now, sx0_front, sx0_left))) else (if (sx0_left.length + ([(body1, false, (0 : Int), false)]).length) * 40 ≤ 140737488355328 then (some ((0 : Int), (sx0_window, sx0_wait, sx0_now, sx0_front, (sx0_left ++ [(body1, false, (0 : Int), false)])))) else none)))
theorem f_again_Sender_Offer_c {S : Nat → Prop} {w0 w : World} {ow : List Res} (sx0_window : Int) (sx0_wait : Int) (sx0_now : Int) (sx0_front : Int) (vsx0_left : Value) (sx0_left : (List (ByteArray × Bool × Int × Bool))) (osx0 : Value) (body1 : ByteArray) (hp : Hp S w0 w (Res.sl (Ek.pair Ek.str (Ek.pair Ek.bool (Ek.pair (Ek.int .i64) Ek.bool))) 81 vsx0_left sx0_left :: Res.obj 79 osx0 [.int .i64 sx0_window, .int .i64 sx0_wait, .int .i64 sx0_now, .int .i64 sx0_front, vsx0_left] :: ow)) {r : (Int × (Int × Int × Int × Int × (List (ByteArray × Bool × Int × Bool))))} (h : f_again_Sender_Offer sx0_window sx0_wait sx0_now sx0_front sx0_left body1 = some r) :
    Calls Try.prog 17 #[osx0, .string body1] w (fun e w' => ∃ (u0 : Value), e = .returned (.int .i64 r.1) ∧ Hp S w0 w' (Res.sl (Ek.pair Ek.str (Ek.pair Ek.bool (Ek.pair (Ek.int .i64) Ek.bool))) 81 u0 r.2.2.2.2.2 :: Res.obj 79 osx0 [.int .i64 r.2.1, .int .i64 r.2.2.1, .int .i64 r.2.2.2.1, .int .i64 r.2.2.2.2.1, u0] :: ow)) := by
  unfold f_again_Sender_Offer at h
  refine enter (n := 30) (args := [osx0, .string body1]) Try.func17 rfl rfl (Nat.le_of_ble_eq_true rfl) fun a hf => ?_
  replace hf : Fr 30 a [(0, osx0), (1, .string body1)] := hf
  refine wp_mono (Q := fun e a w => e = .ret ∧ ∃ (u0 : Value), Fr 30 a [(4, .int .i64 r.1)] ∧ Hp S w0 w (Res.sl (Ek.pair Ek.str (Ek.pair Ek.bool (Ek.pair (Ek.int .i64) Ek.bool))) 81 u0 r.2.2.2.2.2 :: Res.obj 79 osx0 [.int .i64 r.2.1, .int .i64 r.2.2.1, .int .i64 r.2.2.2.1, .int .i64 r.2.2.2.2.1, u0] :: ow)) ?_ ?_
  rotate_left
  · rintro e a w ⟨rfl, x0, hf, hp⟩
    exact ret1 hf rfl rfl ⟨x0, rfl, hp⟩
  refine wp_seq ?_
  refine wp_reg ?_
  refine st_assign hf rfl rfl (by decide) ?_
  clear hf; intro a ha hf; clear ha
  refine st_nil hf ?_
  refine th_n ?_
  refine wp_seq ?_
  refine wp_block ?_
  refine wp_seq ?_
  refine wp_reg ?_
  refine st_move hf rfl rfl (by decide) ?_
  clear hf; intro a ha hf; clear ha
  refine st_peql hf (by decide) Try.underlying44 rfl rfl rfl (nilF (hp.ob (i := 1) rfl).e) ?_
  clear hf; intro a ha hf; clear ha
  refine st_assign hf rfl rfl (by decide) ?_
  clear hf; intro a ha hf; clear ha
  refine st_nil hf ?_
  refine th_n ?_
  refine wp_if hf rfl (fun hb => ?_) (fun hb => ?_)
  · exact absurd hb (by decide)
  refine wp_seq ?_
  refine wp_reg ?_
  refine st_move hf rfl rfl (by decide) ?_
  clear hf; intro a ha hf; clear ha
  refine st_slen hf (by decide) Try.underlying9 rfl rfl ?_
  clear hf; intro a ha hf; clear ha
  refine st_igtr hf (by decide) rfl rfl rfl ?_
  clear hf; intro a ha hf; clear ha
  refine st_assign hf rfl rfl (by decide) ?_
  clear hf; intro a ha hf; clear ha
  refine st_nil hf ?_
  refine th_n ?_
  refine wp_if hf rfl (fun hb => ?_) (fun hb => ?_)
  · replace h := ifT h hb
    refine wp_seq ?_
    refine wp_reg ?_
    refine st_assign hf rfl rfl (by decide) ?_
    clear hf; intro a ha hf; clear ha
    refine st_nil hf ?_
    refine th_n ?_
    refine wp_ret ?_
    refine ib_r ?_
    refine th_r ?_
    obtain rfl := Option.some.inj h
    exact ⟨rfl, ⟨_, hf.sub ⟨rfl, trivial⟩, hp⟩⟩
  replace h := ifF h hb
  refine wp_seq ?_
  refine wp_reg ?_
  refine st_move hf rfl rfl (by decide) ?_
  clear hf; intro a ha hf; clear ha
  refine st_nilV hf (by decide) rfl rfl (hp.ob (i := 1) rfl) ?_
  clear hf; intro a ha hf; clear ha
  refine st_fa (o' := 4) hf (by decide) (off := 4) (sz := 1) (by kernel_rfl) (by decide) rfl rfl (hp.ob (i := 1) rfl) rfl ?_
  clear hf; intro a ha hf; clear ha
  refine st_ldO (u := vsx0_left) hf (by decide) pl77 rfl rfl (hp.ob (i := 1) rfl) rfl ?_
  clear hf; intro a ha hf; clear ha
  refine st_len (E := (Ek.pair Ek.str (Ek.pair Ek.bool (Ek.pair (Ek.int .i64) Ek.bool)))) hf (by decide) Try.underlying77 rfl rfl (hp.sl (i := 0) rfl) ?_
  clear hf; intro a ha hf; clear ha
  refine st_igeq hf (by decide) rfl rfl rfl ?_
  clear hf; intro a ha hf; clear ha
  refine st_assign hf rfl rfl (by decide) ?_
  clear hf; intro a ha hf; clear ha
  refine st_nil hf ?_
  refine th_n ?_
  refine wp_if hf rfl (fun hb => ?_) (fun hb => ?_)
  · replace h := ifT h hb
    refine wp_seq ?_
    refine wp_reg ?_
    refine st_assign hf rfl rfl (by decide) ?_
    clear hf; intro a ha hf; clear ha
    refine st_nil hf ?_
    refine th_n ?_
    refine wp_ret ?_
    refine ib_r ?_
    refine th_r ?_
    obtain rfl := Option.some.inj h
    exact ⟨rfl, ⟨_, hf.sub ⟨rfl, trivial⟩, hp⟩⟩
  replace h := ifF h hb
  refine wp_skip ?_
  refine ib_n ?_
  refine th_n ?_
  refine wp_seq ?_
  refine wp_reg ?_
  refine st_move hf rfl rfl (by decide) ?_
  clear hf; intro a ha hf; clear ha
  refine st_move hf rfl rfl (by decide) ?_
  clear hf; intro a ha hf; clear ha
  refine st_nilV hf (by decide) rfl rfl (hp.ob (i := 1) rfl) ?_
  clear hf; intro a ha hf; clear ha
  refine st_fa (o' := 4) hf (by decide) (off := 4) (sz := 1) (by kernel_rfl) (by decide) rfl rfl (hp.ob (i := 1) rfl) rfl ?_
  clear hf; intro a ha hf; clear ha
  refine st_ldO (u := vsx0_left) hf (by decide) pl77 rfl rfl (hp.ob (i := 1) rfl) rfl ?_
  clear hf; intro a ha hf; clear ha
  refine st_move hf rfl rfl (by decide) ?_
  clear hf; intro a ha hf; clear ha
  refine st_buildA (vals := [(0, .string body1)]) (cells := [.string body1, .bool false, .int .i64 (0 : Int), .bool false]) hf (by decide) rfl (by simp [hf.ev (x := (Operand.tmp 24)) rfl]) (fun w => by kernel_rfl) ?_
  clear hf; intro a ha hf; clear ha
  refine st_build (E := (Ek.pair Ek.str (Ek.pair Ek.bool (Ek.pair (Ek.int .i64) Ek.bool)))) (xs := [(body1, false, (0 : Int), false)]) hf (by decide) elt81 Try.underlying77 hp (vals := #[(0, .agg #[.string body1, .bool false, .int .i64 (0 : Int), .bool false])]) (cells := #[.string body1, .bool false, .int .i64 (0 : Int), .bool false]) rfl (by simp [hf.ev (x := (Operand.tmp 25)) rfl]) (by decide) (by decide) (z := .agg #[.string ByteArray.empty, .bool false, .int .i64 0, .bool false]) (by kernel_rfl) (by kernel_rfl) rfl (reps_cons (cs := [.string body1, .bool false, .int .i64 (0 : Int), .bool false]) ⟨[.string body1], [.bool false, .int .i64 (0 : Int), .bool false], rfl, rfl, ⟨[.bool false], [.int .i64 (0 : Int), .bool false], rfl, rfl, ⟨[.int .i64 (0 : Int)], [.bool false], rfl, rfl, rfl⟩⟩⟩ (reps_nil _)) ?_
  clear hf; intro a w v3 hf hp0; clear hp; have hp := hp0; clear hp0
  replace hp : Hp _ _ _ (Res.sl (Ek.pair Ek.str (Ek.pair Ek.bool (Ek.pair (Ek.int .i64) Ek.bool))) 81 v3 ([(body1, false, (0 : Int), false)]) :: Res.sl (Ek.pair Ek.str (Ek.pair Ek.bool (Ek.pair (Ek.int .i64) Ek.bool))) 81 vsx0_left sx0_left :: Res.obj 79 osx0 [.int .i64 sx0_window, .int .i64 sx0_wait, .int .i64 sx0_now, .int .i64 sx0_front, vsx0_left] :: ow) := hp
  obtain ⟨hc5, h⟩ := chk h
  refine st_append (E := (Ek.pair Ek.str (Ek.pair Ek.bool (Ek.pair (Ek.int .i64) Ek.bool)))) hf (by decide) elt81 Try.underlying77 (by decide) hp (i := 1) rfl rfl rfl rfl (hp.sl (i := 0) rfl) hc5 ?_
  clear hf; intro a w v6 hf hp0; clear hp; have hp := hp0; clear hp0
  replace hp : Hp _ _ _ (Res.sl (Ek.pair Ek.str (Ek.pair Ek.bool (Ek.pair (Ek.int .i64) Ek.bool))) 81 v3 ([(body1, false, (0 : Int), false)]) :: Res.sl (Ek.pair Ek.str (Ek.pair Ek.bool (Ek.pair (Ek.int .i64) Ek.bool))) 81 v6 (sx0_left ++ [(body1, false, (0 : Int), false)]) :: Res.obj 79 osx0 [.int .i64 sx0_window, .int .i64 sx0_wait, .int .i64 sx0_now, .int .i64 sx0_front, vsx0_left] :: ow) := hp
  refine st_nilV hf (by decide) rfl rfl (hp.ob (i := 2) rfl) ?_
  clear hf; intro a ha hf; clear ha
  refine st_fa (o' := 4) hf (by decide) (off := 4) (sz := 1) (by kernel_rfl) (by decide) rfl rfl (hp.ob (i := 2) rfl) rfl ?_
  clear hf; intro a ha hf; clear ha
  refine st_stO (us := [v6]) hf hp (i := 2) rfl rfl rfl rfl (cells_sh (hp.sl (i := 1) rfl).shapeV) (ones_sh (hp.sl (i := 1) rfl).shapeV) (by kernel_rfl) (Nat.le_of_ble_eq_true rfl) ?_
  clear hf; intro a w hf hp0; clear hp; have hp := hp0; clear hp0
  replace hp : Hp _ _ _ (Res.sl (Ek.pair Ek.str (Ek.pair Ek.bool (Ek.pair (Ek.int .i64) Ek.bool))) 81 v3 ([(body1, false, (0 : Int), false)]) :: Res.sl (Ek.pair Ek.str (Ek.pair Ek.bool (Ek.pair (Ek.int .i64) Ek.bool))) 81 v6 (sx0_left ++ [(body1, false, (0 : Int), false)]) :: Res.obj 79 osx0 [.int .i64 sx0_window, .int .i64 sx0_wait, .int .i64 sx0_now, .int .i64 sx0_front, v6] :: ow) := hp
  refine st_nil hf ?_
  refine th_n ?_
  refine wp_seq ?_
  refine wp_reg ?_
  refine st_assign hf rfl rfl (by decide) ?_
  clear hf; intro a ha hf; clear ha
  refine st_nil hf ?_
  refine th_n ?_
  refine wp_ret ?_
  obtain rfl := Option.some.inj h
  have hp : Hp _ _ _ (Res.sl (Ek.pair Ek.str (Ek.pair Ek.bool (Ek.pair (Ek.int .i64) Ek.bool))) 81 v6 (sx0_left ++ [(body1, false, (0 : Int), false)]) :: Res.obj 79 osx0 [.int .i64 sx0_window, .int .i64 sx0_wait, .int .i64 sx0_now, .int .i64 sx0_front, v6] :: ow) := Hp.sel (pre := [Res.sl (Ek.pair Ek.str (Ek.pair Ek.bool (Ek.pair (Ek.int .i64) Ek.bool))) 81 v3 ([(body1, false, (0 : Int), false)]), Res.sl (Ek.pair Ek.str (Ek.pair Ek.bool (Ek.pair (Ek.int .i64) Ek.bool))) 81 v6 (sx0_left ++ [(body1, false, (0 : Int), false)]), Res.obj 79 osx0 [.int .i64 sx0_window, .int .i64 sx0_wait, .int .i64 sx0_now, .int .i64 sx0_front, v6]]) (tail := ow) (rs' := [Res.sl (Ek.pair Ek.str (Ek.pair Ek.bool (Ek.pair (Ek.int .i64) Ek.bool))) 81 v6 (sx0_left ++ [(body1, false, (0 : Int), false)]), Res.obj 79 osx0 [.int .i64 sx0_window, .int .i64 sx0_wait, .int .i64 sx0_now, .int .i64 sx0_front, v6]]) hp [1, 2] (by decide) (by simp) rfl
  exact ⟨rfl, ⟨_, hf.sub ⟨rfl, trivial⟩, hp⟩⟩

noncomputable def f_again_Sender_Tick_1 (m0 : (List (ByteArray × Bool × Int × Bool))) (im0 : Int) (t1 : Int) (t3002_window : Int) (t3002_wait : Int) (t3002_now : Int) (t3002_front : Int) (t3002_left : (List (ByteArray × Bool × Int × Bool))) : Option Bool := (some ((!((gt m0 im0).2.2.2)) && ((!((gt m0 im0).2.1)) || (decide (t3002_wait ≤ (IntKind.i64.wrap (t1 - (gt m0 im0).2.2.1)))))))
theorem f_again_Sender_Tick_1_c {S : Nat → Prop} {w0 w : World} {ow : List Res} (hp : Hp S w0 w ow) (vm0 : Value) (m0 : (List (ByteArray × Bool × Int × Bool))) (im0 : Int) (hm0 : RdS (Ek.pair Ek.str (Ek.pair Ek.bool (Ek.pair (Ek.int .i64) Ek.bool))) S w0 vm0 m0) (km0 : 0 ≤ im0 ∧ im0 < (m0.length : Int)) (t1 : Int) (ot1 : Value) (hot1 : RdO S w0 ot1 [.int .i64 t1]) (t3002_window : Int) (t3002_wait : Int) (t3002_now : Int) (t3002_front : Int) (vt3002_left : Value) (t3002_left : (List (ByteArray × Bool × Int × Bool))) (ht3002_left : RdS (Ek.pair Ek.str (Ek.pair Ek.bool (Ek.pair (Ek.int .i64) Ek.bool))) S w0 vt3002_left t3002_left) (ot3002 : Value) (hot3002 : RdO S w0 ot3002 [.int .i64 t3002_window, .int .i64 t3002_wait, .int .i64 t3002_now, .int .i64 t3002_front, vt3002_left]) (ot2 : Value) (hot2 : RdO S w0 ot2 [ot3002]) {r : Bool} (h : f_again_Sender_Tick_1 m0 im0 t1 t3002_window t3002_wait t3002_now t3002_front t3002_left = some r) :
   Calls Try.prog 30 #[eptr vm0 im0 4, optr ot1 0, optr ot2 0] w (fun e w' => e = .returned (.bool r) ∧ Hp S w0 w' (ow)) := by
  unfold f_again_Sender_Tick_1 at h
  refine enter (n := 30) (args := [eptr vm0 im0 4, optr ot1 0, optr ot2 0]) Try.func30 rfl rfl (Nat.le_of_ble_eq_true rfl) fun a hf => ?_
  replace hf : Fr 30 a [(0, eptr vm0 im0 4), (1, optr ot1 0), (2, optr ot2 0)] := hf
  refine wp_mono (Q := fun e a w => e = .ret ∧ Fr 30 a [(4, .bool r)] ∧ Hp S w0 w (ow)) ?_ ?_
  rotate_left
  ·
   rintro e a w ⟨rfl, hf, hp⟩
   exact ret1 hf rfl rfl ⟨rfl, hp⟩
  refine wp_seq ?_
  refine wp_reg ?_
  refine st_assign hf rfl rfl (by decide) ?_
  clear hf; intro a ha hf; clear ha
  refine st_nil hf ?_
  refine th_n ?_
  refine wp_seq ?_
  refine wp_cutN (fun a w => Fr 30 a [(4, .bool ((!((gt m0 im0).2.2.2)) && ((!((gt m0 im0).2.1)) || (decide (t3002_wait ≤ (IntKind.i64.wrap (t1 - (gt m0 im0).2.2.1)))))))] ∧ Hp S w0 w (ow)) ?_ ?_
  ·
   have hp := hp.same (Same.drew w)
   rcases Bool.eq_false_or_eq_true (!((gt m0 im0).2.2.2)) with hb2 | hb2
   ·
    rcases Bool.eq_false_or_eq_true (!((gt m0 im0).2.1)) with hb4 | hb4
    ·
     refine dr_begin' _ (fun w' => ∃ l, Hp S w0 w' l) [] (by kernel_rfl) ?_
     refine dr_takeK 0 (eptr vm0 im0 4) rfl hf rfl (fun w ⟨_, hp⟩ => ?_) ⟨_, hp⟩ ?_
     · exact st_move hf rfl rfl (by decide) tk
     clear hf; intro a hf
     refine dr_nilE 1 rfl (by kernel_rfl) (by kernel_rfl) (by kernel_rfl) hf (by decide) rfl rfl (Sl.ptr (hm0.sl hp) km0.1 km0.2) ?_
     clear hf; intro a hf
     refine dr_takeK 2 (optr (eptr vm0 im0 4) 3) rfl hf rfl (fun w ⟨_, hp⟩ => ?_) ⟨_, hp⟩ ?_
     · exact st_faP (off := 3) (sz := 1) hf (by decide) (by kernel_rfl) (by decide) rfl rfl (Sl.isP (hm0.sl hp) km0.1 km0.2) tk
     clear hf; intro a hf
     refine dr_takeK 3 (.bool ((gt m0 im0).2.2.2)) rfl hf rfl (fun w ⟨_, hp⟩ => ?_) ⟨_, hp⟩ ?_
     · exact st_ldQ (F := Ek.bool) (yv := (gt m0 im0).2.2.2) hf (by decide) pl4 (fun x => .bool x) (fun _ _ h => h) rfl rfl (Sl.part (E := (Ek.pair Ek.str (Ek.pair Ek.bool (Ek.pair (Ek.int .i64) Ek.bool)))) (F := Ek.bool) (o := 3) (Sub.comp (Sub.snd (E := Ek.str) (F := (Ek.pair Ek.bool (Ek.pair (Ek.int .i64) Ek.bool)))) (Sub.comp (Sub.snd (E := Ek.bool) (F := (Ek.pair (Ek.int .i64) Ek.bool))) (Sub.snd (E := (Ek.int .i64)) (F := Ek.bool)))) (hm0.sl hp) km0.1 km0.2) tk
     clear hf; intro a hf
     refine dr_takeK 4 (.bool (!((gt m0 im0).2.2.2))) rfl hf rfl (fun w ⟨_, hp⟩ => ?_) ⟨_, hp⟩ ?_
     · exact st_not hf (by decide) rfl rfl tk
     clear hf; intro a hf
     refine dr_takeK 5 (.bool (!((gt m0 im0).2.2.2))) rfl hf rfl (fun w ⟨_, hp⟩ => ?_) ⟨_, hp⟩ ?_
     · exact st_move hf rfl rfl (by decide) tk
     clear hf; intro a hf
     refine dr_takeK 6 (eptr vm0 im0 4) rfl hf (wantY hf rfl rfl hb2) (fun w ⟨_, hp⟩ => ?_) ⟨_, hp⟩ ?_
     · exact st_move hf (wantY hf rfl rfl hb2) rfl (by decide) tk
     clear hf; intro a hf
     refine dr_nilE 7 rfl (by kernel_rfl) (by kernel_rfl) (by kernel_rfl) hf (by decide) (wantY hf rfl rfl hb2) rfl (Sl.ptr (hm0.sl hp) km0.1 km0.2) ?_
     clear hf; intro a hf
     refine dr_takeK 8 (optr (eptr vm0 im0 4) 1) rfl hf (wantY hf rfl rfl hb2) (fun w ⟨_, hp⟩ => ?_) ⟨_, hp⟩ ?_
     · exact st_faP (off := 1) (sz := 1) hf (by decide) (by kernel_rfl) (by decide) (wantY hf rfl rfl hb2) rfl (Sl.isP (hm0.sl hp) km0.1 km0.2) tk
     clear hf; intro a hf
     refine dr_takeK 9 (.bool ((gt m0 im0).2.1)) rfl hf (wantY hf rfl rfl hb2) (fun w ⟨_, hp⟩ => ?_) ⟨_, hp⟩ ?_
     · exact st_ldQ (F := Ek.bool) (yv := (gt m0 im0).2.1) hf (by decide) pl4 (fun x => .bool x) (fun _ _ h => h) (wantY hf rfl rfl hb2) rfl (Sl.part (E := (Ek.pair Ek.str (Ek.pair Ek.bool (Ek.pair (Ek.int .i64) Ek.bool)))) (F := Ek.bool) (o := 1) (Sub.comp (Sub.snd (E := Ek.str) (F := (Ek.pair Ek.bool (Ek.pair (Ek.int .i64) Ek.bool)))) (Sub.fst (E := Ek.bool) (F := (Ek.pair (Ek.int .i64) Ek.bool)))) (hm0.sl hp) km0.1 km0.2) tk
     clear hf; intro a hf
     refine dr_takeK 10 (.bool (!((gt m0 im0).2.1))) rfl hf (wantY hf rfl rfl hb2) (fun w ⟨_, hp⟩ => ?_) ⟨_, hp⟩ ?_
     · exact st_not hf (by decide) (wantY hf rfl rfl hb2) rfl tk
     clear hf; intro a hf
     refine dr_takeK 11 (.bool (!((gt m0 im0).2.1))) rfl hf (wantY hf rfl rfl hb2) (fun w ⟨_, hp⟩ => ?_) ⟨_, hp⟩ ?_
     · exact st_move hf (wantY hf rfl rfl hb2) rfl (by decide) tk
     clear hf; intro a hf
     refine dr_outK 12 rfl hf rfl (wantN hf rfl rfl hb4) ⟨_, hp⟩ ?_
     clear hf; intro a hf
     refine dr_outK 13 rfl hf rfl (wantN hf rfl rfl hb4) ⟨_, hp⟩ ?_
     clear hf; intro a hf
     refine dr_outP 14 rfl (by kernel_rfl) (by kernel_rfl) (by kernel_rfl) rfl hf (by decide) (wantN hf rfl rfl hb4) ?_
     clear hf; intro a hf
     refine dr_outK 15 rfl hf rfl (wantN hf rfl rfl hb4) ⟨_, hp⟩ ?_
     clear hf; intro a hf
     refine dr_outK 16 rfl hf rfl (wantN hf rfl rfl hb4) ⟨_, hp⟩ ?_
     clear hf; intro a hf
     refine dr_outK 17 rfl hf rfl (wantN hf rfl rfl hb4) ⟨_, hp⟩ ?_
     clear hf; intro a hf
     refine dr_outK 18 rfl hf rfl (wantN hf rfl rfl hb4) ⟨_, hp⟩ ?_
     clear hf; intro a hf
     refine dr_outP 19 rfl (by kernel_rfl) (by kernel_rfl) (by kernel_rfl) rfl hf (by decide) (wantN hf rfl rfl hb4) ?_
     clear hf; intro a hf
     refine dr_outK 20 rfl hf rfl (wantN hf rfl rfl hb4) ⟨_, hp⟩ ?_
     clear hf; intro a hf
     refine dr_outK 21 rfl hf rfl (wantN hf rfl rfl hb4) ⟨_, hp⟩ ?_
     clear hf; intro a hf
     refine dr_outK 22 rfl hf rfl (wantN hf rfl rfl hb4) ⟨_, hp⟩ ?_
     clear hf; intro a hf
     refine dr_takeK 23 (.bool ((!((gt m0 im0).2.1)) || (decide (t3002_wait ≤ (IntKind.i64.wrap (t1 - (gt m0 im0).2.2.1)))))) rfl hf (wantY hf rfl rfl hb2) (fun w ⟨_, hp⟩ => ?_) ⟨_, hp⟩ ?_
     · exact st_pick (v := .bool ((!((gt m0 im0).2.1)) || (decide (t3002_wait ≤ (IntKind.i64.wrap (t1 - (gt m0 im0).2.2.1)))))) hf (wantY hf rfl rfl hb2) rfl (fun _ => by rw [show ((!((gt m0 im0).2.1)) || (decide (t3002_wait ≤ (IntKind.i64.wrap (t1 - (gt m0 im0).2.2.1))))) = true from by rw [hb4]; rfl]; rfl) (fun hb' => absurd (hb4.symm.trans hb') (by decide)) (by decide) tk
     clear hf; intro a hf
     refine dr_takeK 24 (.bool ((!((gt m0 im0).2.2.2)) && ((!((gt m0 im0).2.1)) || (decide (t3002_wait ≤ (IntKind.i64.wrap (t1 - (gt m0 im0).2.2.1))))))) rfl hf rfl (fun w ⟨_, hp⟩ => ?_) ⟨_, hp⟩ ?_
     · exact st_pick (v := .bool ((!((gt m0 im0).2.2.2)) && ((!((gt m0 im0).2.1)) || (decide (t3002_wait ≤ (IntKind.i64.wrap (t1 - (gt m0 im0).2.2.1))))))) hf rfl rfl (fun _ => by rw [show ((!((gt m0 im0).2.2.2)) && ((!((gt m0 im0).2.1)) || (decide (t3002_wait ≤ (IntKind.i64.wrap (t1 - (gt m0 im0).2.2.1)))))) = ((!((gt m0 im0).2.1)) || (decide (t3002_wait ≤ (IntKind.i64.wrap (t1 - (gt m0 im0).2.2.1))))) from by rw [hb2]; rfl]; rfl) (fun hb' => absurd (hb2.symm.trans hb') (by decide)) (by decide) tk
     clear hf; intro a hf
     refine dr_takeK 25 (.bool ((!((gt m0 im0).2.2.2)) && ((!((gt m0 im0).2.1)) || (decide (t3002_wait ≤ (IntKind.i64.wrap (t1 - (gt m0 im0).2.2.1))))))) rfl hf rfl (fun w ⟨_, hp⟩ => ?_) ⟨_, hp⟩ ?_
     · exact st_assign hf rfl rfl (by decide) tk
     clear hf; intro a hf
     refine dr_end (by kernel_rfl) ?_ _
     exact ⟨hf.sub ⟨rfl, trivial⟩, hp⟩
    skip
    refine dr_begin' _ (fun w' => ∃ l, Hp S w0 w' l) [] (by kernel_rfl) ?_
    refine dr_takeK 0 (eptr vm0 im0 4) rfl hf rfl (fun w ⟨_, hp⟩ => ?_) ⟨_, hp⟩ ?_
    · exact st_move hf rfl rfl (by decide) tk
    clear hf; intro a hf
    refine dr_nilE 1 rfl (by kernel_rfl) (by kernel_rfl) (by kernel_rfl) hf (by decide) rfl rfl (Sl.ptr (hm0.sl hp) km0.1 km0.2) ?_
    clear hf; intro a hf
    refine dr_takeK 2 (optr (eptr vm0 im0 4) 3) rfl hf rfl (fun w ⟨_, hp⟩ => ?_) ⟨_, hp⟩ ?_
    · exact st_faP (off := 3) (sz := 1) hf (by decide) (by kernel_rfl) (by decide) rfl rfl (Sl.isP (hm0.sl hp) km0.1 km0.2) tk
    clear hf; intro a hf
    refine dr_takeK 3 (.bool ((gt m0 im0).2.2.2)) rfl hf rfl (fun w ⟨_, hp⟩ => ?_) ⟨_, hp⟩ ?_
    · exact st_ldQ (F := Ek.bool) (yv := (gt m0 im0).2.2.2) hf (by decide) pl4 (fun x => .bool x) (fun _ _ h => h) rfl rfl (Sl.part (E := (Ek.pair Ek.str (Ek.pair Ek.bool (Ek.pair (Ek.int .i64) Ek.bool)))) (F := Ek.bool) (o := 3) (Sub.comp (Sub.snd (E := Ek.str) (F := (Ek.pair Ek.bool (Ek.pair (Ek.int .i64) Ek.bool)))) (Sub.comp (Sub.snd (E := Ek.bool) (F := (Ek.pair (Ek.int .i64) Ek.bool))) (Sub.snd (E := (Ek.int .i64)) (F := Ek.bool)))) (hm0.sl hp) km0.1 km0.2) tk
    clear hf; intro a hf
    refine dr_takeK 4 (.bool (!((gt m0 im0).2.2.2))) rfl hf rfl (fun w ⟨_, hp⟩ => ?_) ⟨_, hp⟩ ?_
    · exact st_not hf (by decide) rfl rfl tk
    clear hf; intro a hf
    refine dr_takeK 5 (.bool (!((gt m0 im0).2.2.2))) rfl hf rfl (fun w ⟨_, hp⟩ => ?_) ⟨_, hp⟩ ?_
    · exact st_move hf rfl rfl (by decide) tk
    clear hf; intro a hf
    refine dr_takeK 6 (eptr vm0 im0 4) rfl hf (wantY hf rfl rfl hb2) (fun w ⟨_, hp⟩ => ?_) ⟨_, hp⟩ ?_
    · exact st_move hf (wantY hf rfl rfl hb2) rfl (by decide) tk
    clear hf; intro a hf
    refine dr_nilE 7 rfl (by kernel_rfl) (by kernel_rfl) (by kernel_rfl) hf (by decide) (wantY hf rfl rfl hb2) rfl (Sl.ptr (hm0.sl hp) km0.1 km0.2) ?_
    clear hf; intro a hf
    refine dr_takeK 8 (optr (eptr vm0 im0 4) 1) rfl hf (wantY hf rfl rfl hb2) (fun w ⟨_, hp⟩ => ?_) ⟨_, hp⟩ ?_
    · exact st_faP (off := 1) (sz := 1) hf (by decide) (by kernel_rfl) (by decide) (wantY hf rfl rfl hb2) rfl (Sl.isP (hm0.sl hp) km0.1 km0.2) tk
    clear hf; intro a hf
    refine dr_takeK 9 (.bool ((gt m0 im0).2.1)) rfl hf (wantY hf rfl rfl hb2) (fun w ⟨_, hp⟩ => ?_) ⟨_, hp⟩ ?_
    · exact st_ldQ (F := Ek.bool) (yv := (gt m0 im0).2.1) hf (by decide) pl4 (fun x => .bool x) (fun _ _ h => h) (wantY hf rfl rfl hb2) rfl (Sl.part (E := (Ek.pair Ek.str (Ek.pair Ek.bool (Ek.pair (Ek.int .i64) Ek.bool)))) (F := Ek.bool) (o := 1) (Sub.comp (Sub.snd (E := Ek.str) (F := (Ek.pair Ek.bool (Ek.pair (Ek.int .i64) Ek.bool)))) (Sub.fst (E := Ek.bool) (F := (Ek.pair (Ek.int .i64) Ek.bool)))) (hm0.sl hp) km0.1 km0.2) tk
    clear hf; intro a hf
    refine dr_takeK 10 (.bool (!((gt m0 im0).2.1))) rfl hf (wantY hf rfl rfl hb2) (fun w ⟨_, hp⟩ => ?_) ⟨_, hp⟩ ?_
    · exact st_not hf (by decide) (wantY hf rfl rfl hb2) rfl tk
    clear hf; intro a hf
    refine dr_takeK 11 (.bool (!((gt m0 im0).2.1))) rfl hf (wantY hf rfl rfl hb2) (fun w ⟨_, hp⟩ => ?_) ⟨_, hp⟩ ?_
    · exact st_move hf (wantY hf rfl rfl hb2) rfl (by decide) tk
    clear hf; intro a hf
    refine dr_takeK 12 (.int .i64 t1) rfl hf (wantY hf rfl rfl hb4) (fun w ⟨_, hp⟩ => ?_) ⟨_, hp⟩ ?_
    · exact st_ldO (u := .int .i64 t1) hf (by decide) pl2 (wantY hf rfl rfl hb4) rfl (hot1.ob hp) rfl tk
    clear hf; intro a hf
    refine dr_takeK 13 (eptr vm0 im0 4) rfl hf (wantY hf rfl rfl hb4) (fun w ⟨_, hp⟩ => ?_) ⟨_, hp⟩ ?_
    · exact st_move hf (wantY hf rfl rfl hb4) rfl (by decide) tk
    clear hf; intro a hf
    refine dr_nilE 14 rfl (by kernel_rfl) (by kernel_rfl) (by kernel_rfl) hf (by decide) (wantY hf rfl rfl hb4) rfl (Sl.ptr (hm0.sl hp) km0.1 km0.2) ?_
    clear hf; intro a hf
    refine dr_takeK 15 (optr (eptr vm0 im0 4) 2) rfl hf (wantY hf rfl rfl hb4) (fun w ⟨_, hp⟩ => ?_) ⟨_, hp⟩ ?_
    · exact st_faP (off := 2) (sz := 1) hf (by decide) (by kernel_rfl) (by decide) (wantY hf rfl rfl hb4) rfl (Sl.isP (hm0.sl hp) km0.1 km0.2) tk
    clear hf; intro a hf
    refine dr_takeK 16 (.int .i64 ((gt m0 im0).2.2.1)) rfl hf (wantY hf rfl rfl hb4) (fun w ⟨_, hp⟩ => ?_) ⟨_, hp⟩ ?_
    · exact st_ldQ (F := (Ek.int .i64)) (yv := (gt m0 im0).2.2.1) hf (by decide) pl2 (fun x => .int .i64 x) (fun _ _ h => h) (wantY hf rfl rfl hb4) rfl (Sl.part (E := (Ek.pair Ek.str (Ek.pair Ek.bool (Ek.pair (Ek.int .i64) Ek.bool)))) (F := (Ek.int .i64)) (o := 2) (Sub.comp (Sub.snd (E := Ek.str) (F := (Ek.pair Ek.bool (Ek.pair (Ek.int .i64) Ek.bool)))) (Sub.comp (Sub.snd (E := Ek.bool) (F := (Ek.pair (Ek.int .i64) Ek.bool))) (Sub.fst (E := (Ek.int .i64)) (F := Ek.bool)))) (hm0.sl hp) km0.1 km0.2) tk
    clear hf; intro a hf
    refine dr_takeK 17 (.int .i64 (IntKind.i64.wrap (t1 - (gt m0 im0).2.2.1))) rfl hf (wantY hf rfl rfl hb4) (fun w ⟨_, hp⟩ => ?_) ⟨_, hp⟩ ?_
    · exact st_isub hf (by decide) (wantY hf rfl rfl hb4) rfl rfl tk
    clear hf; intro a hf
    refine dr_takeK 18 (ot3002) rfl hf (wantY hf rfl rfl hb4) (fun w ⟨_, hp⟩ => ?_) ⟨_, hp⟩ ?_
    · exact st_ldO (u := ot3002) hf (by decide) pl44 (wantY hf rfl rfl hb4) rfl (hot2.ob hp) rfl tk
    clear hf; intro a hf
    refine dr_nilV 19 rfl (by kernel_rfl) (by kernel_rfl) (by kernel_rfl) hf (by decide) (wantY hf rfl rfl hb4) rfl (hot3002.ob hp) ?_
    clear hf; intro a hf
    refine dr_takeK 20 (optr ot3002 1) rfl hf (wantY hf rfl rfl hb4) (fun w ⟨_, hp⟩ => ?_) ⟨_, hp⟩ ?_
    · exact st_fa (o' := 1) hf (by decide) (off := 1) (sz := 1) (by kernel_rfl) (by decide) (wantY hf rfl rfl hb4) rfl (hot3002.ob hp) rfl tk
    clear hf; intro a hf
    refine dr_takeK 21 (.int .i64 t3002_wait) rfl hf (wantY hf rfl rfl hb4) (fun w ⟨_, hp⟩ => ?_) ⟨_, hp⟩ ?_
    · exact st_ldO (u := .int .i64 t3002_wait) hf (by decide) pl2 (wantY hf rfl rfl hb4) rfl (hot3002.ob hp) rfl tk
    clear hf; intro a hf
    refine dr_takeK 22 (.bool (decide (t3002_wait ≤ (IntKind.i64.wrap (t1 - (gt m0 im0).2.2.1))))) rfl hf (wantY hf rfl rfl hb4) (fun w ⟨_, hp⟩ => ?_) ⟨_, hp⟩ ?_
    · exact st_igeq hf (by decide) (wantY hf rfl rfl hb4) rfl rfl tk
    clear hf; intro a hf
    refine dr_takeK 23 (.bool ((!((gt m0 im0).2.1)) || (decide (t3002_wait ≤ (IntKind.i64.wrap (t1 - (gt m0 im0).2.2.1)))))) rfl hf (wantY hf rfl rfl hb2) (fun w ⟨_, hp⟩ => ?_) ⟨_, hp⟩ ?_
    · exact st_pick (v := .bool ((!((gt m0 im0).2.1)) || (decide (t3002_wait ≤ (IntKind.i64.wrap (t1 - (gt m0 im0).2.2.1)))))) hf (wantY hf rfl rfl hb2) rfl (fun hb' => absurd (hb4.symm.trans hb') (by decide)) (fun _ => by rw [show ((!((gt m0 im0).2.1)) || (decide (t3002_wait ≤ (IntKind.i64.wrap (t1 - (gt m0 im0).2.2.1))))) = (decide (t3002_wait ≤ (IntKind.i64.wrap (t1 - (gt m0 im0).2.2.1)))) from by rw [hb4]; rfl]; rfl) (by decide) tk
    clear hf; intro a hf
    refine dr_takeK 24 (.bool ((!((gt m0 im0).2.2.2)) && ((!((gt m0 im0).2.1)) || (decide (t3002_wait ≤ (IntKind.i64.wrap (t1 - (gt m0 im0).2.2.1))))))) rfl hf rfl (fun w ⟨_, hp⟩ => ?_) ⟨_, hp⟩ ?_
    · exact st_pick (v := .bool ((!((gt m0 im0).2.2.2)) && ((!((gt m0 im0).2.1)) || (decide (t3002_wait ≤ (IntKind.i64.wrap (t1 - (gt m0 im0).2.2.1))))))) hf rfl rfl (fun _ => by rw [show ((!((gt m0 im0).2.2.2)) && ((!((gt m0 im0).2.1)) || (decide (t3002_wait ≤ (IntKind.i64.wrap (t1 - (gt m0 im0).2.2.1)))))) = ((!((gt m0 im0).2.1)) || (decide (t3002_wait ≤ (IntKind.i64.wrap (t1 - (gt m0 im0).2.2.1))))) from by rw [hb2]; rfl]; rfl) (fun hb' => absurd (hb2.symm.trans hb') (by decide)) (by decide) tk
    clear hf; intro a hf
    refine dr_takeK 25 (.bool ((!((gt m0 im0).2.2.2)) && ((!((gt m0 im0).2.1)) || (decide (t3002_wait ≤ (IntKind.i64.wrap (t1 - (gt m0 im0).2.2.1))))))) rfl hf rfl (fun w ⟨_, hp⟩ => ?_) ⟨_, hp⟩ ?_
    · exact st_assign hf rfl rfl (by decide) tk
    clear hf; intro a hf
    refine dr_end (by kernel_rfl) ?_ _
    exact ⟨hf.sub ⟨rfl, trivial⟩, hp⟩
   skip
   refine dr_begin' _ (fun w' => ∃ l, Hp S w0 w' l) [] (by kernel_rfl) ?_
   refine dr_takeK 0 (eptr vm0 im0 4) rfl hf rfl (fun w ⟨_, hp⟩ => ?_) ⟨_, hp⟩ ?_
   · exact st_move hf rfl rfl (by decide) tk
   clear hf; intro a hf
   refine dr_nilE 1 rfl (by kernel_rfl) (by kernel_rfl) (by kernel_rfl) hf (by decide) rfl rfl (Sl.ptr (hm0.sl hp) km0.1 km0.2) ?_
   clear hf; intro a hf
   refine dr_takeK 2 (optr (eptr vm0 im0 4) 3) rfl hf rfl (fun w ⟨_, hp⟩ => ?_) ⟨_, hp⟩ ?_
   · exact st_faP (off := 3) (sz := 1) hf (by decide) (by kernel_rfl) (by decide) rfl rfl (Sl.isP (hm0.sl hp) km0.1 km0.2) tk
   clear hf; intro a hf
   refine dr_takeK 3 (.bool ((gt m0 im0).2.2.2)) rfl hf rfl (fun w ⟨_, hp⟩ => ?_) ⟨_, hp⟩ ?_
   · exact st_ldQ (F := Ek.bool) (yv := (gt m0 im0).2.2.2) hf (by decide) pl4 (fun x => .bool x) (fun _ _ h => h) rfl rfl (Sl.part (E := (Ek.pair Ek.str (Ek.pair Ek.bool (Ek.pair (Ek.int .i64) Ek.bool)))) (F := Ek.bool) (o := 3) (Sub.comp (Sub.snd (E := Ek.str) (F := (Ek.pair Ek.bool (Ek.pair (Ek.int .i64) Ek.bool)))) (Sub.comp (Sub.snd (E := Ek.bool) (F := (Ek.pair (Ek.int .i64) Ek.bool))) (Sub.snd (E := (Ek.int .i64)) (F := Ek.bool)))) (hm0.sl hp) km0.1 km0.2) tk
   clear hf; intro a hf
   refine dr_takeK 4 (.bool (!((gt m0 im0).2.2.2))) rfl hf rfl (fun w ⟨_, hp⟩ => ?_) ⟨_, hp⟩ ?_
   · exact st_not hf (by decide) rfl rfl tk
   clear hf; intro a hf
   refine dr_takeK 5 (.bool (!((gt m0 im0).2.2.2))) rfl hf rfl (fun w ⟨_, hp⟩ => ?_) ⟨_, hp⟩ ?_
   · exact st_move hf rfl rfl (by decide) tk
   clear hf; intro a hf
   refine dr_outK 6 rfl hf rfl (wantN hf rfl rfl hb2) ⟨_, hp⟩ ?_
   clear hf; intro a hf
   refine dr_outP 7 rfl (by kernel_rfl) (by kernel_rfl) (by kernel_rfl) rfl hf (by decide) (wantN hf rfl rfl hb2) ?_
   clear hf; intro a hf
   refine dr_outK 8 rfl hf rfl (wantN hf rfl rfl hb2) ⟨_, hp⟩ ?_
   clear hf; intro a hf
   refine dr_outK 9 rfl hf rfl (wantN hf rfl rfl hb2) ⟨_, hp⟩ ?_
   clear hf; intro a hf
   refine dr_outK 10 rfl hf rfl (wantN hf rfl rfl hb2) ⟨_, hp⟩ ?_
   clear hf; intro a hf
   refine dr_outU 11 rfl (by kernel_rfl) (by kernel_rfl) (by kernel_rfl) (by kernel_rfl) rfl hf (by decide) (wantN hf rfl rfl hb2) ⟨_, hp⟩ ?_
   clear hf; intro a hf
   refine dr_outK 12 rfl hf rfl (wantU hf rfl rfl) ⟨_, hp⟩ ?_
   clear hf; intro a hf
   refine dr_outK 13 rfl hf rfl (wantU hf rfl rfl) ⟨_, hp⟩ ?_
   clear hf; intro a hf
   refine dr_outP 14 rfl (by kernel_rfl) (by kernel_rfl) (by kernel_rfl) rfl hf (by decide) (wantU hf rfl rfl) ?_
   clear hf; intro a hf
   refine dr_outK 15 rfl hf rfl (wantU hf rfl rfl) ⟨_, hp⟩ ?_
   clear hf; intro a hf
   refine dr_outK 16 rfl hf rfl (wantU hf rfl rfl) ⟨_, hp⟩ ?_
   clear hf; intro a hf
   refine dr_outK 17 rfl hf rfl (wantU hf rfl rfl) ⟨_, hp⟩ ?_
   clear hf; intro a hf
   refine dr_outK 18 rfl hf rfl (wantU hf rfl rfl) ⟨_, hp⟩ ?_
   clear hf; intro a hf
   refine dr_outP 19 rfl (by kernel_rfl) (by kernel_rfl) (by kernel_rfl) rfl hf (by decide) (wantU hf rfl rfl) ?_
   clear hf; intro a hf
   refine dr_outK 20 rfl hf rfl (wantU hf rfl rfl) ⟨_, hp⟩ ?_
   clear hf; intro a hf
   refine dr_outK 21 rfl hf rfl (wantU hf rfl rfl) ⟨_, hp⟩ ?_
   clear hf; intro a hf
   refine dr_outK 22 rfl hf rfl (wantU hf rfl rfl) ⟨_, hp⟩ ?_
   clear hf; intro a hf
   refine dr_outK 23 rfl hf rfl (wantN hf rfl rfl hb2) ⟨_, hp⟩ ?_
   clear hf; intro a hf
   refine dr_takeK 24 (.bool ((!((gt m0 im0).2.2.2)) && ((!((gt m0 im0).2.1)) || (decide (t3002_wait ≤ (IntKind.i64.wrap (t1 - (gt m0 im0).2.2.1))))))) rfl hf rfl (fun w ⟨_, hp⟩ => ?_) ⟨_, hp⟩ ?_
   · exact st_pick (v := .bool ((!((gt m0 im0).2.2.2)) && ((!((gt m0 im0).2.1)) || (decide (t3002_wait ≤ (IntKind.i64.wrap (t1 - (gt m0 im0).2.2.1))))))) hf rfl rfl (fun hb' => absurd (hb2.symm.trans hb') (by decide)) (fun _ => by rw [show ((!((gt m0 im0).2.2.2)) && ((!((gt m0 im0).2.1)) || (decide (t3002_wait ≤ (IntKind.i64.wrap (t1 - (gt m0 im0).2.2.1)))))) = false from by rw [hb2]; rfl]; rfl) (by decide) tk
   clear hf; intro a hf
   refine dr_takeK 25 (.bool ((!((gt m0 im0).2.2.2)) && ((!((gt m0 im0).2.1)) || (decide (t3002_wait ≤ (IntKind.i64.wrap (t1 - (gt m0 im0).2.2.1))))))) rfl hf rfl (fun w ⟨_, hp⟩ => ?_) ⟨_, hp⟩ ?_
   · exact st_assign hf rfl rfl (by decide) tk
   clear hf; intro a hf
   refine dr_end (by kernel_rfl) ?_ _
   exact ⟨hf.sub ⟨rfl, trivial⟩, hp⟩
  rintro a w ⟨hf, hp⟩
  refine th_n ?_
  refine wp_ret ?_
  obtain rfl := Option.some.inj h
  exact ⟨rfl, ⟨hf.sub ⟨rfl, trivial⟩, hp⟩⟩

noncomputable def f_again_Sender_Tick.s1c (sx0_window : Int) (sx0_left : (List (ByteArray × Bool × Int × Bool))) (sx0c_0 : Int) (sx0c_1 : Int) (sx0c_2 : Int) (sx0c_3 : Int) (sx0c_4 : (List (ByteArray × Bool × Int × Bool))) (now3c : Int) (out7 : (List (Int × Int × Bool × ByteArray))) (t33 : Int) : Option ((Int × Int × Int × Int × (List (ByteArray × Bool × Int × Bool)) × Int × (List (Int × Int × Bool × ByteArray)) × Int) ⊕ (Int × Int × Int × Int × (List (ByteArray × Bool × Int × Bool)) × (List (Int × Int × Bool × ByteArray)))) := (if (decide (t33 < (imin sx0_window (sx0_left.length : Int)))) = true then (if 0 ≤ t33 ∧ t33 < (sx0c_4.length : Int) then ((f_again_Sender_Tick_1 sx0c_4 t33 now3c sx0c_0 sx0c_1 sx0c_2 sx0c_3 sx0c_4).bind fun q57 => (if q57 = true then (if (out7.length + ([((1 : Int), (IntKind.u8.wrap (IntKind.i64.wrap (sx0c_3 + t33))), false, (gt ((sx0c_4.set (t33).toNat ((gt sx0c_4 t33).1, true, (gt sx0c_4 t33).2.2.1, (gt sx0c_4 t33).2.2.2)).set (t33).toNat ((gt (sx0c_4.set (t33).toNat ((gt sx0c_4 t33).1, true, (gt sx0c_4 t33).2.2.1, (gt sx0c_4 t33).2.2.2)) t33).1, (gt (sx0c_4.set (t33).toNat ((gt sx0c_4 t33).1, true, (gt sx0c_4 t33).2.2.1, (gt sx0c_4 t33).2.2.2)) t33).2.1, now3c, (gt (sx0c_4.set (t33).toNat ((gt sx0c_4 t33).1, true, (gt sx0c_4 t33).2.2.1, (gt sx0c_4 t33).2.2.2)) t33).2.2.2)) t33).1)]).length) * 24 ≤ 140737488355328 then (some (Sum.inl (sx0c_0, sx0c_1, sx0c_2, sx0c_3, ((sx0c_4.set (t33).toNat ((gt sx0c_4 t33).1, true, (gt sx0c_4 t33).2.2.1, (gt sx0c_4 t33).2.2.2)).set (t33).toNat ((gt (sx0c_4.set (t33).toNat ((gt sx0c_4 t33).1, true, (gt sx0c_4 t33).2.2.1, (gt sx0c_4 t33).2.2.2)) t33).1, (gt (sx0c_4.set (t33).toNat ((gt sx0c_4 t33).1, true, (gt sx0c_4 t33).2.2.1, (gt sx0c_4 t33).2.2.2)) t33).2.1, now3c, (gt (sx0c_4.set (t33).toNat ((gt sx0c_4 t33).1, true, (gt sx0c_4 t33).2.2.1, (gt sx0c_4 t33).2.2.2)) t33).2.2.2)), now3c, (out7 ++ [((1 : Int), (IntKind.u8.wrap (IntKind.i64.wrap (sx0c_3 + t33))), false, (gt ((sx0c_4.set (t33).toNat ((gt sx0c_4 t33).1, true, (gt sx0c_4 t33).2.2.1, (gt sx0c_4 t33).2.2.2)).set (t33).toNat ((gt (sx0c_4.set (t33).toNat ((gt sx0c_4 t33).1, true, (gt sx0c_4 t33).2.2.1, (gt sx0c_4 t33).2.2.2)) t33).1, (gt (sx0c_4.set (t33).toNat ((gt sx0c_4 t33).1, true, (gt sx0c_4 t33).2.2.1, (gt sx0c_4 t33).2.2.2)) t33).2.1, now3c, (gt (sx0c_4.set (t33).toNat ((gt sx0c_4 t33).1, true, (gt sx0c_4 t33).2.2.1, (gt sx0c_4 t33).2.2.2)) t33).2.2.2)) t33).1)]), (IntKind.i64.wrap (t33 + (1 : Int)))))) else none) else (some (Sum.inl (sx0c_0, sx0c_1, sx0c_2, sx0c_3, sx0c_4, now3c, out7, (IntKind.i64.wrap (t33 + (1 : Int)))))))) else none) else (some (Sum.inr (sx0c_0, sx0c_1, sx0c_2, sx0c_3, sx0c_4, out7))))
noncomputable def f_again_Sender_Tick.s1 (sx0_window : Int) (sx0_left : (List (ByteArray × Bool × Int × Bool))) (s : (Int × Int × Int × Int × (List (ByteArray × Bool × Int × Bool)) × Int × (List (Int × Int × Bool × ByteArray)) × Int)) : Option ((Int × Int × Int × Int × (List (ByteArray × Bool × Int × Bool)) × Int × (List (Int × Int × Bool × ByteArray)) × Int) ⊕ (Int × Int × Int × Int × (List (ByteArray × Bool × Int × Bool)) × (List (Int × Int × Bool × ByteArray)))) := f_again_Sender_Tick.s1c sx0_window sx0_left s.1 s.2.1 s.2.2.1 s.2.2.2.1 s.2.2.2.2.1 s.2.2.2.2.2.1 s.2.2.2.2.2.2.1 s.2.2.2.2.2.2.2
noncomputable def f_again_Sender_Tick (sx0_window : Int) (sx0_wait : Int) (sx0_now : Int) (sx0_front : Int) (sx0_left : (List (ByteArray × Bool × Int × Bool))) (now1 : Int) : Option ((List (Int × Int × Bool × ByteArray)) × Int × (Int × Int × Int × Int × (List (ByteArray × Bool × Int × Bool)))) := (if (decide (now1 < sx0_now)) = true then (some ([], (1 : Int), (sx0_window, sx0_wait, sx0_now, sx0_front, sx0_left))) else ((loop (f_again_Sender_Tick.s1 sx0_window sx0_left) (sx0_window, sx0_wait, now1, sx0_front, sx0_left, now1, [], (0 : Int))).bind (fun q108 => (some (q108.2.2.2.2.2, (0 : Int), (q108.1, q108.2.1, q108.2.2.1, q108.2.2.2.1, q108.2.2.2.2.1))))))
theorem f_again_Sender_Tick_c {S : Nat → Prop} {w0 w : World} {ow : List Res} (sx0_window : Int) (sx0_wait : Int) (sx0_now : Int) (sx0_front : Int) (vsx0_left : Value) (sx0_left : (List (ByteArray × Bool × Int × Bool))) (osx0 : Value) (now1 : Int) (hp : Hp S w0 w (Res.sl (Ek.pair Ek.str (Ek.pair Ek.bool (Ek.pair (Ek.int .i64) Ek.bool))) 81 vsx0_left sx0_left :: Res.obj 79 osx0 [.int .i64 sx0_window, .int .i64 sx0_wait, .int .i64 sx0_now, .int .i64 sx0_front, vsx0_left] :: ow)) {r : ((List (Int × Int × Bool × ByteArray)) × Int × (Int × Int × Int × Int × (List (ByteArray × Bool × Int × Bool))))} (h : f_again_Sender_Tick sx0_window sx0_wait sx0_now sx0_front sx0_left now1 = some r) :
   Calls Try.prog 19 #[osx0, .int .i64 now1] w (fun e w' => ∃ (u0 : Value) (u1 : Value), e = .returned (.tuple #[u0, .int .i64 r.2.1]) ∧ Hp S w0 w' (Res.sl (Ek.pair (Ek.int .u8) (Ek.pair (Ek.int .u8) (Ek.pair Ek.bool Ek.str))) 31 u0 r.1 :: Res.sl (Ek.pair Ek.str (Ek.pair Ek.bool (Ek.pair (Ek.int .i64) Ek.bool))) 81 u1 r.2.2.2.2.2.2 :: Res.obj 79 osx0 [.int .i64 r.2.2.1, .int .i64 r.2.2.2.1, .int .i64 r.2.2.2.2.1, .int .i64 r.2.2.2.2.2.1, u1] :: ow)) := by
  unfold f_again_Sender_Tick at h
  refine enter (n := 69) (args := [osx0, .int .i64 now1]) Try.func19 rfl rfl (Nat.le_of_ble_eq_true rfl) fun a hf => ?_
  replace hf : Fr 69 a [(0, osx0), (1, .int .i64 now1)] := hf
  refine wp_mono (Q := fun e a w => e = .ret ∧ ∃ (u0 : Value) (u1 : Value), Fr 69 a [(4, u0), (5, .int .i64 r.2.1)] ∧ Hp S w0 w (Res.sl (Ek.pair (Ek.int .u8) (Ek.pair (Ek.int .u8) (Ek.pair Ek.bool Ek.str))) 31 u0 r.1 :: Res.sl (Ek.pair Ek.str (Ek.pair Ek.bool (Ek.pair (Ek.int .i64) Ek.bool))) 81 u1 r.2.2.2.2.2.2 :: Res.obj 79 osx0 [.int .i64 r.2.2.1, .int .i64 r.2.2.2.1, .int .i64 r.2.2.2.2.1, .int .i64 r.2.2.2.2.2.1, u1] :: ow)) ?_ ?_
  rotate_left
  ·
   rintro e a w ⟨rfl, x0, x1, hf, hp⟩
   exact ret2 hf rfl rfl rfl ⟨x0, x1, rfl, hp⟩
  refine wp_seq ?_
  refine wp_reg ?_
  refine st_boxO (cs := [osx0]) hf (by decide) hp rfl rfl (cells_po (hp.ob (i := 1) rfl)) ?_
  clear hf; intro a w v3 hf hp0; clear hp; have hp := hp0; clear hp0
  replace hp : Hp _ _ _ (Res.obj 44 v3 [osx0] :: Res.sl (Ek.pair Ek.str (Ek.pair Ek.bool (Ek.pair (Ek.int .i64) Ek.bool))) 81 vsx0_left sx0_left :: Res.obj 79 osx0 [.int .i64 sx0_window, .int .i64 sx0_wait, .int .i64 sx0_now, .int .i64 sx0_front, vsx0_left] :: ow) := hp
  refine st_boxO (cs := [.int .i64 now1]) hf (by decide) hp rfl rfl rfl ?_
  clear hf; intro a w v5 hf hp0; clear hp; have hp := hp0; clear hp0
  replace hp : Hp _ _ _ (Res.obj 2 v5 [.int .i64 now1] :: _ :: _ :: _ :: ow) := hp
  refine st_assign hf rfl rfl (by decide) ?_
  clear hf; intro a ha hf; clear ha
  refine st_assign hf rfl rfl (by decide) ?_
  clear hf; intro a ha hf; clear ha
  refine st_nil hf ?_
  refine th_n ?_
  refine wp_seq ?_
  refine wp_seq ?_
  refine wp_reg ?_
  refine st_ldO (u := osx0) hf (by decide) pl44 rfl rfl (hp.ob (i := 1) rfl) rfl ?_
  clear hf; intro a ha hf; clear ha
  refine st_peql hf (by decide) Try.underlying44 rfl rfl rfl (nilF (hp.ob (i := 3) rfl).e) ?_
  clear hf; intro a ha hf; clear ha
  refine st_nil hf ?_
  refine th_n ?_
  refine wp_if hf rfl (fun hb => ?_) (fun hb => ?_)
  · exact absurd hb (by decide)
  refine wp_skip ?_
  refine th_n ?_
  refine wp_seq ?_
  refine wp_seq ?_
  obtain ⟨S7, hp8, rd9, up10, bk11⟩ := Hp.lendO hp (i := 0) rfl
  obtain ⟨S12, hp13, rd14, up15, bk16⟩ := Hp.lendO hp8 (i := 0) rfl
  obtain ⟨S17, hp18, rd19, up20, bk21⟩ := Hp.lendO hp13 (i := 1) rfl
  have rl22 := rd19
  have rl23 := ((rd14.now hp13).mono up20)
  have rl24 := ((((rd9.now hp8).mono up15).now hp13).mono up20)
  refine wp_cutN (fun a w => Fr 69 a [(0, osx0), (2, optr v3 0), (3, optr v5 0), (17, .bool (decide (now1 < sx0_now)))] ∧ Hp S w0 w (Res.obj 2 v5 [.int .i64 now1] :: Res.obj 44 v3 [osx0] :: Res.obj 79 osx0 [.int .i64 sx0_window, .int .i64 sx0_wait, .int .i64 sx0_now, .int .i64 sx0_front, vsx0_left] :: Res.sl (Ek.pair Ek.str (Ek.pair Ek.bool (Ek.pair (Ek.int .i64) Ek.bool))) 81 vsx0_left sx0_left :: ow)) ?_ ?_
  ·
   have hp := hp18.same (Same.drew w)
   refine dr_begin' _ (fun w' => ∃ l, Hp S17 w w' l) [] (by kernel_rfl) ?_
   refine dr_takeK 0 (.int .i64 now1) rfl hf rfl (fun w ⟨_, hp⟩ => ?_) ⟨_, hp⟩ ?_
   · exact st_ldO (u := .int .i64 now1) hf (by decide) pl2 rfl rfl (rl24.ob hp) rfl tk
   clear hf; intro a hf
   refine dr_takeK 1 (osx0) rfl hf rfl (fun w ⟨_, hp⟩ => ?_) ⟨_, hp⟩ ?_
   · exact st_ldO (u := osx0) hf (by decide) pl44 rfl rfl (rl23.ob hp) rfl tk
   clear hf; intro a hf
   refine dr_nilV 2 rfl (by kernel_rfl) (by kernel_rfl) (by kernel_rfl) hf (by decide) rfl rfl (rl22.ob hp) ?_
   clear hf; intro a hf
   refine dr_takeK 3 (optr osx0 2) rfl hf rfl (fun w ⟨_, hp⟩ => ?_) ⟨_, hp⟩ ?_
   · exact st_fa (o' := 2) hf (by decide) (off := 2) (sz := 1) (by kernel_rfl) (by decide) rfl rfl (rl22.ob hp) rfl tk
   clear hf; intro a hf
   refine dr_takeK 4 (.int .i64 sx0_now) rfl hf rfl (fun w ⟨_, hp⟩ => ?_) ⟨_, hp⟩ ?_
   · exact st_ldO (u := .int .i64 sx0_now) hf (by decide) pl2 rfl rfl (rl22.ob hp) rfl tk
   clear hf; intro a hf
   refine dr_takeK 5 (.bool (decide (now1 < sx0_now))) rfl hf rfl (fun w ⟨_, hp⟩ => ?_) ⟨_, hp⟩ ?_
   · exact st_ilss hf (by decide) rfl rfl rfl tk
   clear hf; intro a hf
   refine dr_end (by kernel_rfl) ?_ _
   have hp := bk21 _ _ hp
   have hp := bk16 _ _ hp
   have hp := bk11 _ _ hp
   exact ⟨hf.sub ⟨rfl, rfl, rfl, rfl, trivial⟩, hp⟩
  rintro a w ⟨hf, hp⟩
  refine th_n ?_
  refine wp_if hf rfl (fun hb => ?_) (fun hb => ?_)
  ·
   replace h := ifT h hb
   refine wp_seq ?_
   refine wp_reg ?_
   refine st_assign hf rfl rfl (by decide) ?_
   clear hf; intro a ha hf; clear ha
   refine st_assign hf rfl rfl (by decide) ?_
   clear hf; intro a ha hf; clear ha
   refine st_nil hf ?_
   refine th_n ?_
   refine wp_ret ?_
   refine th_r ?_
   obtain rfl := Option.some.inj h
   have hp := hp.nil (Ek.pair (Ek.int .u8) (Ek.pair (Ek.int .u8) (Ek.pair Ek.bool Ek.str))) 31
   have hp : Hp _ _ _ (Res.sl (Ek.pair (Ek.int .u8) (Ek.pair (Ek.int .u8) (Ek.pair Ek.bool Ek.str))) 31 (.slice none 0 0) ([]) :: _ :: _ :: ow) := Hp.sel (pre := [Res.sl (Ek.pair (Ek.int .u8) (Ek.pair (Ek.int .u8) (Ek.pair Ek.bool Ek.str))) 31 (.slice none 0 0) ([]), Res.obj 2 v5 [.int .i64 now1], Res.obj 44 v3 [osx0], Res.obj 79 osx0 [.int .i64 sx0_window, .int .i64 sx0_wait, .int .i64 sx0_now, .int .i64 sx0_front, vsx0_left], Res.sl (Ek.pair Ek.str (Ek.pair Ek.bool (Ek.pair (Ek.int .i64) Ek.bool))) 81 vsx0_left sx0_left]) (tail := ow) (rs' := [Res.sl (Ek.pair (Ek.int .u8) (Ek.pair (Ek.int .u8) (Ek.pair Ek.bool Ek.str))) 31 (.slice none 0 0) ([]), Res.sl (Ek.pair Ek.str (Ek.pair Ek.bool (Ek.pair (Ek.int .i64) Ek.bool))) 81 vsx0_left sx0_left, Res.obj 79 osx0 [.int .i64 sx0_window, .int .i64 sx0_wait, .int .i64 sx0_now, .int .i64 sx0_front, vsx0_left]]) hp [0, 4, 3] (by decide) (by simp) rfl
   exact ⟨rfl, ⟨_, _, hf.sub ⟨rfl, rfl, trivial⟩, hp⟩⟩
  replace h := ifF h hb
  refine wp_skip ?_
  refine th_n ?_
  refine wp_seq ?_
  refine wp_reg ?_
  refine st_ldO (u := osx0) hf (by decide) pl44 rfl rfl (hp.ob (i := 1) rfl) rfl ?_
  clear hf; intro a ha hf; clear ha
  refine st_ldO (u := .int .i64 now1) hf (by decide) pl2 rfl rfl (hp.ob (i := 0) rfl) rfl ?_
  clear hf; intro a ha hf; clear ha
  refine st_nilV hf (by decide) rfl rfl (hp.ob (i := 2) rfl) ?_
  clear hf; intro a ha hf; clear ha
  refine st_fa (o' := 2) hf (by decide) (off := 2) (sz := 1) (by kernel_rfl) (by decide) rfl rfl (hp.ob (i := 2) rfl) rfl ?_
  clear hf; intro a ha hf; clear ha
  refine st_stO (us := [.int .i64 now1]) hf hp (i := 2) rfl rfl rfl rfl rfl (by rfl) (by kernel_rfl) (Nat.le_of_ble_eq_true rfl) ?_
  clear hf; intro a w hf hp0; clear hp; have hp := hp0; clear hp0
  replace hp : Hp _ _ _ (Res.obj 2 v5 [.int .i64 now1] :: Res.obj 44 v3 [osx0] :: Res.obj 79 osx0 [.int .i64 sx0_window, .int .i64 sx0_wait, .int .i64 now1, .int .i64 sx0_front, vsx0_left] :: _ :: ow) := hp
  refine st_nil hf ?_
  refine th_n ?_
  refine wp_seq ?_
  refine wp_reg ?_
  refine st_makeFunc2 hf (by decide) rfl rfl rfl ?_
  clear hf; intro a ha hf; clear ha
  refine st_assign hf rfl rfl (by decide) ?_
  clear hf; intro a ha hf; clear ha
  refine st_nil hf ?_
  refine th_n ?_
  refine wp_seq ?_
  refine wp_reg ?_
  refine st_assign hf rfl rfl (by decide) ?_
  clear hf; intro a ha hf; clear ha
  refine st_nil hf ?_
  refine th_n ?_
  refine wp_seq ?_
  refine wp_seq ?_
  obtain ⟨S26, hp27, rd28, up29, bk30⟩ := Hp.lendO hp (i := 1) rfl
  obtain ⟨S31, hp32, rd33, up34, bk35⟩ := Hp.lendO hp27 (i := 1) rfl
  obtain ⟨S36, hp37, rd38, up39, bk40⟩ := Hp.lendS hp32 (i := 1) rfl
  have rl41 := ((rd33.now hp32).mono up39)
  have rl42 := rd38
  have rl43 := ((((rd28.now hp27).mono up34).now hp32).mono up39)
  refine wp_cutN (fun a w => Fr 69 a [(0, osx0), (2, optr v3 0), (3, optr v5 0), (6, .func (.func 30) #[] #[optr v5 0, optr v3 0]), (7, .slice none 0 0), (32, .int .i64 (imin sx0_window (sx0_left.length : Int))), (33, .int .i64 (0 : Int))] ∧ Hp S w0 w (Res.obj 44 v3 [osx0] :: Res.obj 79 osx0 [.int .i64 sx0_window, .int .i64 sx0_wait, .int .i64 now1, .int .i64 sx0_front, vsx0_left] :: Res.sl (Ek.pair Ek.str (Ek.pair Ek.bool (Ek.pair (Ek.int .i64) Ek.bool))) 81 vsx0_left sx0_left :: Res.obj 2 v5 [.int .i64 now1] :: ow)) ?_ ?_
  ·
   have hp := hp37.same (Same.drew w)
   refine dr_begin' _ (fun w' => ∃ l, Hp S36 w w' l) [] (by kernel_rfl) ?_
   refine dr_takeK 0 (osx0) rfl hf rfl (fun w ⟨_, hp⟩ => ?_) ⟨_, hp⟩ ?_
   · exact st_ldO (u := osx0) hf (by decide) pl44 rfl rfl (rl43.ob hp) rfl tk
   clear hf; intro a hf
   refine dr_nilV 1 rfl (by kernel_rfl) (by kernel_rfl) (by kernel_rfl) hf (by decide) rfl rfl (rl41.ob hp) ?_
   clear hf; intro a hf
   refine dr_takeK 2 (optr osx0 0) rfl hf rfl (fun w ⟨_, hp⟩ => ?_) ⟨_, hp⟩ ?_
   · exact st_fa (o' := 0) hf (by decide) (off := 0) (sz := 1) (by kernel_rfl) (by decide) rfl rfl (rl41.ob hp) rfl tk
   clear hf; intro a hf
   refine dr_takeK 3 (.int .i64 sx0_window) rfl hf rfl (fun w ⟨_, hp⟩ => ?_) ⟨_, hp⟩ ?_
   · exact st_ldO (u := .int .i64 sx0_window) hf (by decide) pl3 rfl rfl (rl41.ob hp) rfl tk
   clear hf; intro a hf
   refine dr_takeK 4 (osx0) rfl hf rfl (fun w ⟨_, hp⟩ => ?_) ⟨_, hp⟩ ?_
   · exact st_ldO (u := osx0) hf (by decide) pl44 rfl rfl (rl43.ob hp) rfl tk
   clear hf; intro a hf
   refine dr_nilV 5 rfl (by kernel_rfl) (by kernel_rfl) (by kernel_rfl) hf (by decide) rfl rfl (rl41.ob hp) ?_
   clear hf; intro a hf
   refine dr_takeK 6 (optr osx0 4) rfl hf rfl (fun w ⟨_, hp⟩ => ?_) ⟨_, hp⟩ ?_
   · exact st_fa (o' := 4) hf (by decide) (off := 4) (sz := 1) (by kernel_rfl) (by decide) rfl rfl (rl41.ob hp) rfl tk
   clear hf; intro a hf
   refine dr_takeK 7 (vsx0_left) rfl hf rfl (fun w ⟨_, hp⟩ => ?_) ⟨_, hp⟩ ?_
   · exact st_ldO (u := vsx0_left) hf (by decide) pl77 rfl rfl (rl41.ob hp) rfl tk
   clear hf; intro a hf
   refine dr_takeK 8 (.int .i64 (sx0_left.length : Int)) rfl hf rfl (fun w ⟨_, hp⟩ => ?_) ⟨_, hp⟩ ?_
   · exact st_len (E := (Ek.pair Ek.str (Ek.pair Ek.bool (Ek.pair (Ek.int .i64) Ek.bool)))) hf (by decide) Try.underlying77 rfl rfl (rl42.sl hp) tk
   clear hf; intro a hf
   refine dr_takeK 9 (.int .i64 (imin sx0_window (sx0_left.length : Int))) rfl hf rfl (fun w ⟨_, hp⟩ => ?_) ⟨_, hp⟩ ?_
   · exact st_imin hf (by decide) rfl rfl rfl tk
   clear hf; intro a hf
   refine dr_takeK 10 (.int .i64 (0 : Int)) rfl hf rfl (fun w ⟨_, hp⟩ => ?_) ⟨_, hp⟩ ?_
   · exact st_move hf rfl rfl (by decide) tk
   clear hf; intro a hf
   refine dr_end (by kernel_rfl) ?_ _
   have hp := bk40 _ _ hp
   have hp := bk35 _ _ hp
   have hp := bk30 _ _ hp
   exact ⟨hf.sub ⟨rfl, rfl, rfl, rfl, rfl, rfl, rfl, trivial⟩, hp⟩
  rintro a w ⟨hf, hp⟩
  refine th_n ?_
  refine wp_block ?_
  obtain ⟨q108, hl, h⟩ := bnd h
  have hp := hp.nil (Ek.pair (Ek.int .u8) (Ek.pair (Ek.int .u8) (Ek.pair Ek.bool Ek.str))) 31
  have hp : Hp _ _ _ (_ :: _ :: _ :: _ :: Res.sl (Ek.pair (Ek.int .u8) (Ek.pair (Ek.int .u8) (Ek.pair Ek.bool Ek.str))) 31 (.slice none 0 0) ([]) :: ow) := Hp.sel (pre := [Res.sl (Ek.pair (Ek.int .u8) (Ek.pair (Ek.int .u8) (Ek.pair Ek.bool Ek.str))) 31 (.slice none 0 0) ([]), Res.obj 44 v3 [osx0], Res.obj 79 osx0 [.int .i64 sx0_window, .int .i64 sx0_wait, .int .i64 now1, .int .i64 sx0_front, vsx0_left], Res.sl (Ek.pair Ek.str (Ek.pair Ek.bool (Ek.pair (Ek.int .i64) Ek.bool))) 81 vsx0_left sx0_left, Res.obj 2 v5 [.int .i64 now1]]) (tail := ow) (rs' := [Res.sl (Ek.pair Ek.str (Ek.pair Ek.bool (Ek.pair (Ek.int .i64) Ek.bool))) 81 vsx0_left sx0_left, Res.obj 79 osx0 [.int .i64 sx0_window, .int .i64 sx0_wait, .int .i64 now1, .int .i64 sx0_front, vsx0_left], Res.obj 44 v3 [osx0], Res.obj 2 v5 [.int .i64 now1], Res.sl (Ek.pair (Ek.int .u8) (Ek.pair (Ek.int .u8) (Ek.pair Ek.bool Ek.str))) 31 (.slice none 0 0) ([])]) hp [3, 2, 1, 4, 0] (by decide) (by simp) rfl
  refine wp_loop_pure (f := (f_again_Sender_Tick.s1 sx0_window sx0_left)) (s := (sx0_window, sx0_wait, now1, sx0_front, sx0_left, now1, [], (0 : Int))) (fun s a w => ∃ (v44 : Value) (v49 : Value), Fr 69 a [(0, osx0), (2, optr v3 0), (3, optr v5 0), (6, .func (.func 30) #[] #[optr v5 0, optr v3 0]), (7, v49), (32, .int .i64 (imin sx0_window (sx0_left.length : Int))), (33, .int .i64 s.2.2.2.2.2.2.2)] ∧ Hp S w0 w (Res.sl (Ek.pair Ek.str (Ek.pair Ek.bool (Ek.pair (Ek.int .i64) Ek.bool))) 81 v44 s.2.2.2.2.1 :: Res.obj 79 osx0 [.int .i64 s.1, .int .i64 s.2.1, .int .i64 s.2.2.1, .int .i64 s.2.2.2.1, v44] :: Res.obj 44 v3 [osx0] :: Res.obj 2 v5 [.int .i64 s.2.2.2.2.2.1] :: Res.sl (Ek.pair (Ek.int .u8) (Ek.pair (Ek.int .u8) (Ek.pair Ek.bool Ek.str))) 31 v49 s.2.2.2.2.2.2.1 :: ow)) (fun q e a w => e = .exit 0 ∧ ∃ (v51 : Value) (v54 : Value), Fr 69 a [(0, osx0), (7, v54)] ∧ Hp S w0 w (Res.sl (Ek.pair Ek.str (Ek.pair Ek.bool (Ek.pair (Ek.int .i64) Ek.bool))) 81 v51 q.2.2.2.2.1 :: Res.obj 79 osx0 [.int .i64 q.1, .int .i64 q.2.1, .int .i64 q.2.2.1, .int .i64 q.2.2.2.1, v51] :: Res.sl (Ek.pair (Ek.int .u8) (Ek.pair (Ek.int .u8) (Ek.pair Ek.bool Ek.str))) 31 v54 q.2.2.2.2.2 :: ow)) ?_ hl ⟨_, _, hf.sub ⟨rfl, rfl, rfl, rfl, rfl, rfl, rfl, trivial⟩, hp⟩ ?_
  ·
   clear hl hf hp
   intro s x a w h hI
   obtain ⟨sx0c_0, sx0c_1, sx0c_2, sx0c_3, sx0c_4, now3c, out7, t33⟩ := s
   obtain ⟨v44, v49, hf, hp⟩ : ∃ (v44 : Value) (v49 : Value), Fr 69 a [(0, osx0), (2, optr v3 0), (3, optr v5 0), (6, .func (.func 30) #[] #[optr v5 0, optr v3 0]), (7, v49), (32, .int .i64 (imin sx0_window (sx0_left.length : Int))), (33, .int .i64 t33)] ∧ Hp S w0 w (Res.sl (Ek.pair Ek.str (Ek.pair Ek.bool (Ek.pair (Ek.int .i64) Ek.bool))) 81 v44 sx0c_4 :: Res.obj 79 osx0 [.int .i64 sx0c_0, .int .i64 sx0c_1, .int .i64 sx0c_2, .int .i64 sx0c_3, v44] :: Res.obj 44 v3 [osx0] :: Res.obj 2 v5 [.int .i64 now3c] :: Res.sl (Ek.pair (Ek.int .u8) (Ek.pair (Ek.int .u8) (Ek.pair Ek.bool Ek.str))) 31 v49 out7 :: ow) := hI
   replace h : f_again_Sender_Tick.s1c sx0_window sx0_left sx0c_0 sx0c_1 sx0c_2 sx0c_3 sx0c_4 now3c out7 t33 = some x := h
   unfold f_again_Sender_Tick.s1c at h
   refine wp_seq ?_
   refine wp_reg ?_
   refine st_ilss hf (by decide) rfl rfl rfl ?_
   clear hf; intro a ha hf; clear ha
   refine st_nil hf ?_
   refine th_n ?_
   refine wp_seq ?_
   refine wp_if hf rfl (fun hb => ?_) (fun hb => ?_)
   ·
    replace h := ifT h hb
    refine wp_skip ?_
    refine th_n ?_
    refine wp_seq ?_
    refine wp_block ?_
    refine wp_seq ?_
    refine wp_reg ?_
    refine st_move hf rfl rfl (by decide) ?_
    clear hf; intro a ha hf; clear ha
    refine st_assign hf rfl rfl (by decide) ?_
    clear hf; intro a ha hf; clear ha
    refine st_nil hf ?_
    refine th_n ?_
    refine wp_seq ?_
    refine wp_reg ?_
    refine st_ldO (u := osx0) hf (by decide) pl44 rfl rfl (hp.ob (i := 2) rfl) rfl ?_
    clear hf; intro a ha hf; clear ha
    refine st_nilV hf (by decide) rfl rfl (hp.ob (i := 1) rfl) ?_
    clear hf; intro a ha hf; clear ha
    refine st_fa (o' := 4) hf (by decide) (off := 4) (sz := 1) (by kernel_rfl) (by decide) rfl rfl (hp.ob (i := 1) rfl) rfl ?_
    clear hf; intro a ha hf; clear ha
    refine st_ldO (u := v44) hf (by decide) pl77 rfl rfl (hp.ob (i := 1) rfl) rfl ?_
    clear hf; intro a ha hf; clear ha
    refine st_move hf rfl rfl (by decide) ?_
    clear hf; intro a ha hf; clear ha
    obtain ⟨hc56, h⟩ := chk h
    refine st_index (E := (Ek.pair Ek.str (Ek.pair Ek.bool (Ek.pair (Ek.int .i64) Ek.bool)))) hf (by decide) Try.underlying77 elt81 rfl rfl rfl (hp.sl (i := 0) rfl) hc56.1 hc56.2 ?_
    clear hf; intro a ha hf; clear ha
    refine st_assign hf rfl rfl (by decide) ?_
    clear hf; intro a ha hf; clear ha
    refine st_nil hf ?_
    refine th_n ?_
    refine wp_seq ?_
    refine wp_reg ?_
    refine st_move hf rfl rfl (by decide) ?_
    clear hf; intro a ha hf; clear ha
    refine st_move hf rfl rfl (by decide) ?_
    clear hf; intro a ha hf; clear ha
    obtain ⟨q57, hcall58, h⟩ := bnd h
    obtain ⟨S59, hp60, rd61, up62, bk63⟩ := Hp.lendS hp (i := 0) rfl
    obtain ⟨S64, hp65, rd66, up67, bk68⟩ := Hp.lendO hp60 (i := 2) rfl
    obtain ⟨S69, hp70, rd71, up72, bk73⟩ := Hp.lendO hp65 (i := 0) rfl
    obtain ⟨S74, hp75, rd76, up77, bk78⟩ := Hp.lendO hp70 (i := 0) rfl
    refine st_call hf (by decide) Try.func30 rfl rfl rfl rfl rfl (f_again_Sender_Tick_1_c hp75 _ _ _ ((((((rd61.now hp60).mono up67).now hp65).mono up72).now hp70).mono up77) hc56 _ _ ((((rd66.now hp65).mono up72).now hp70).mono up77) _ _ _ _ _ _ ((((((rd61.now hp60).mono up67).now hp65).mono up72).now hp70).mono up77) _ ((rd71.now hp70).mono up77) _ rd76 hcall58) ?_
    rintro _ w ⟨rfl, hp0⟩
    have hp0 := bk78 _ _ hp0
    have hp0 := bk73 _ _ hp0
    have hp0 := bk68 _ _ hp0
    have hp0 := bk63 _ _ hp0
    clear hp; have hp := hp0; clear hp0
    replace hp : Hp _ _ _ (Res.sl (Ek.pair Ek.str (Ek.pair Ek.bool (Ek.pair (Ek.int .i64) Ek.bool))) 81 v44 sx0c_4 :: Res.obj 2 v5 [.int .i64 now3c] :: Res.obj 79 osx0 [.int .i64 sx0c_0, .int .i64 sx0c_1, .int .i64 sx0c_2, .int .i64 sx0c_3, v44] :: _ :: Res.sl (Ek.pair (Ek.int .u8) (Ek.pair (Ek.int .u8) (Ek.pair Ek.bool Ek.str))) 31 v49 out7 :: ow) := hp
    refine ⟨_, rfl, ?_⟩
    clear hf; intro a hf
    refine st_nil hf ?_
    refine th_n ?_
    refine wp_if hf rfl (fun hb => ?_) (fun hb => ?_)
    ·
     replace h := ifT h hb
     refine wp_seq ?_
     obtain ⟨S79, hp80, rd81, up82, bk83⟩ := Hp.lendO hp (i := 1) rfl
     have rl84 := rd81
     have fx85 := hp.sl (i := 0) rfl
     refine wp_cutN (fun a w => Fr 69 a [(0, osx0), (2, optr v3 0), (3, optr v5 0), (6, .func (.func 30) #[] #[optr v5 0, optr v3 0]), (7, v49), (8, .int .i64 t33), (9, eptr v44 t33 4), (32, .int .i64 (imin sx0_window (sx0_left.length : Int))), (33, .int .i64 t33)] ∧ Hp S w0 w (Res.obj 2 v5 [.int .i64 now3c] :: Res.sl (Ek.pair Ek.str (Ek.pair Ek.bool (Ek.pair (Ek.int .i64) Ek.bool))) 81 v44 ((sx0c_4.set (t33).toNat ((gt sx0c_4 t33).1, true, (gt sx0c_4 t33).2.2.1, (gt sx0c_4 t33).2.2.2)).set (t33).toNat ((gt (sx0c_4.set (t33).toNat ((gt sx0c_4 t33).1, true, (gt sx0c_4 t33).2.2.1, (gt sx0c_4 t33).2.2.2)) t33).1, (gt (sx0c_4.set (t33).toNat ((gt sx0c_4 t33).1, true, (gt sx0c_4 t33).2.2.1, (gt sx0c_4 t33).2.2.2)) t33).2.1, now3c, (gt (sx0c_4.set (t33).toNat ((gt sx0c_4 t33).1, true, (gt sx0c_4 t33).2.2.1, (gt sx0c_4 t33).2.2.2)) t33).2.2.2)) :: Res.obj 79 osx0 [.int .i64 sx0c_0, .int .i64 sx0c_1, .int .i64 sx0c_2, .int .i64 sx0c_3, v44] :: Res.obj 44 v3 [osx0] :: Res.sl (Ek.pair (Ek.int .u8) (Ek.pair (Ek.int .u8) (Ek.pair Ek.bool Ek.str))) 31 v49 out7 :: ow)) ?_ ?_
     ·
      have hp := hp80.same (Same.drew w)
      refine dr_begin' _ (fun w' => ∃ l, Hp S79 w w' l) [] (by kernel_rfl) ?_
      refine dr_takeP 0 (eptr v44 t33 4) rfl (by kernel_rfl) (by kernel_rfl) (by kernel_rfl) rfl rfl hf (by decide) rfl (fun w => ?_) ?_
      ·
       refine st_move hf rfl rfl (by decide) ?_
       clear hf; intro a ha hf
       exact st_nil hf (th_n ⟨ha, rfl⟩)
      clear hf; intro a hf
      refine dr_takeP 1 (eptr v44 t33 4) rfl (by kernel_rfl) (by kernel_rfl) (by kernel_rfl) rfl rfl hf (by decide) rfl (fun w => ?_) ?_
      ·
       refine st_move hf rfl rfl (by decide) ?_
       clear hf; intro a ha hf
       exact st_nil hf (th_n ⟨ha, rfl⟩)
      clear hf; intro a hf
      refine dr_takeK 2 (.int .i64 now3c) rfl hf rfl (fun w ⟨_, hp⟩ => ?_) ⟨_, hp⟩ ?_
      · exact st_ldO (u := .int .i64 now3c) hf (by decide) pl2 rfl rfl (rl84.ob hp) rfl tk
      clear hf; intro a hf
      refine dr_nilE 3 rfl (by kernel_rfl) (by kernel_rfl) (by kernel_rfl) hf (by decide) rfl rfl (Sl.ptr fx85 hc56.1 hc56.2) ?_
      clear hf; intro a hf
      refine dr_takeP 4 (optr (eptr v44 t33 4) 1) rfl (by kernel_rfl) (by kernel_rfl) (by kernel_rfl) rfl rfl hf (by decide) rfl (fun w => ?_) ?_
      ·
       refine st_faP (off := 1) (sz := 1) hf (by decide) (by kernel_rfl) (by decide) rfl rfl (Sl.isP fx85 hc56.1 hc56.2) ?_
       clear hf; intro a ha hf
       exact st_nil hf (th_n ⟨ha, rfl⟩)
      clear hf; intro a hf
      refine dr_one 5 rfl (by kernel_rfl) ?_
      refine st_stQ (E := (Ek.pair Ek.str (Ek.pair Ek.bool (Ek.pair (Ek.int .i64) Ek.bool)))) (F := Ek.bool) (o := 1) (Sub.comp (Sub.snd (E := Ek.str) (F := (Ek.pair Ek.bool (Ek.pair (Ek.int .i64) Ek.bool)))) (Sub.fst (E := Ek.bool) (F := (Ek.pair (Ek.int .i64) Ek.bool)))) hf (by kernel_rfl) hp (i := 0) rfl rfl rfl rfl rfl hc56.1 hc56.2 ?_
      clear hf; intro a w hf hp0; clear hp; have hp := hp0; clear hp0
      replace hp : Hp _ _ _ (Res.sl (Ek.pair Ek.str (Ek.pair Ek.bool (Ek.pair (Ek.int .i64) Ek.bool))) 81 v44 (sx0c_4.set (t33).toNat ((gt sx0c_4 t33).1, true, (gt sx0c_4 t33).2.2.1, (gt sx0c_4 t33).2.2.2)) :: _ :: _ :: _ :: ow) := hp
      refine nx hf (fun _ _ => ⟨_, hp⟩) ?_
      refine dr_nilE 6 rfl (by kernel_rfl) (by kernel_rfl) (by kernel_rfl) hf (by decide) rfl rfl (Sl.ptr fx85 hc56.1 hc56.2) ?_
      clear hf; intro a hf
      refine dr_takeP 7 (optr (eptr v44 t33 4) 2) rfl (by kernel_rfl) (by kernel_rfl) (by kernel_rfl) rfl rfl hf (by decide) rfl (fun w => ?_) ?_
      ·
       refine st_faP (off := 2) (sz := 1) hf (by decide) (by kernel_rfl) (by decide) rfl rfl (Sl.isP fx85 hc56.1 hc56.2) ?_
       clear hf; intro a ha hf
       exact st_nil hf (th_n ⟨ha, rfl⟩)
      clear hf; intro a hf
      refine dr_one 8 rfl (by kernel_rfl) ?_
      refine st_stQ (E := (Ek.pair Ek.str (Ek.pair Ek.bool (Ek.pair (Ek.int .i64) Ek.bool)))) (F := (Ek.int .i64)) (o := 2) (Sub.comp (Sub.snd (E := Ek.str) (F := (Ek.pair Ek.bool (Ek.pair (Ek.int .i64) Ek.bool)))) (Sub.comp (Sub.snd (E := Ek.bool) (F := (Ek.pair (Ek.int .i64) Ek.bool))) (Sub.fst (E := (Ek.int .i64)) (F := Ek.bool)))) hf (by kernel_rfl) hp (i := 0) rfl rfl rfl rfl rfl (show 0 ≤ t33 ∧ t33 < ((sx0c_4.set (t33).toNat ((gt sx0c_4 t33).1, true, (gt sx0c_4 t33).2.2.1, (gt sx0c_4 t33).2.2.2)).length : Int) from hset hc56).1 (show 0 ≤ t33 ∧ t33 < ((sx0c_4.set (t33).toNat ((gt sx0c_4 t33).1, true, (gt sx0c_4 t33).2.2.1, (gt sx0c_4 t33).2.2.2)).length : Int) from hset hc56).2 ?_
      clear hf; intro a w hf hp0; clear hp; have hp := hp0; clear hp0
      replace hp : Hp _ _ _ (Res.sl (Ek.pair Ek.str (Ek.pair Ek.bool (Ek.pair (Ek.int .i64) Ek.bool))) 81 v44 ((sx0c_4.set (t33).toNat ((gt sx0c_4 t33).1, true, (gt sx0c_4 t33).2.2.1, (gt sx0c_4 t33).2.2.2)).set (t33).toNat ((gt (sx0c_4.set (t33).toNat ((gt sx0c_4 t33).1, true, (gt sx0c_4 t33).2.2.1, (gt sx0c_4 t33).2.2.2)) t33).1, (gt (sx0c_4.set (t33).toNat ((gt sx0c_4 t33).1, true, (gt sx0c_4 t33).2.2.1, (gt sx0c_4 t33).2.2.2)) t33).2.1, now3c, (gt (sx0c_4.set (t33).toNat ((gt sx0c_4 t33).1, true, (gt sx0c_4 t33).2.2.1, (gt sx0c_4 t33).2.2.2)) t33).2.2.2)) :: _ :: _ :: _ :: ow) := hp
      refine nx hf (fun _ _ => ⟨_, hp⟩) ?_
      refine dr_end (by kernel_rfl) ?_ _
      have hp := bk83 _ _ hp
      exact ⟨hf.sub ⟨rfl, rfl, rfl, rfl, rfl, rfl, rfl, rfl, rfl, trivial⟩, hp⟩
     rintro a w ⟨hf, hp⟩
     refine th_n ?_
     obtain ⟨S86, hp87, rd88, up89, bk90⟩ := Hp.lendO hp (i := 3) rfl
     obtain ⟨S91, hp92, rd93, up94, bk95⟩ := Hp.lendO hp87 (i := 2) rfl
     obtain ⟨S96, hp97, rd98, up99, bk100⟩ := Hp.lendS hp92 (i := 1) rfl
     have rl101 := ((rd93.now hp92).mono up99)
     have rl102 := rd98
     have rl103 := ((((rd88.now hp87).mono up94).now hp92).mono up99)
     obtain ⟨hc106, h⟩ := chk h
     refine wp_cutN (fun a w => ∃ (v104 : Value) (v107 : Value), Fr 69 a [(0, osx0), (2, optr v3 0), (3, optr v5 0), (6, .func (.func 30) #[] #[optr v5 0, optr v3 0]), (7, v107), (32, .int .i64 (imin sx0_window (sx0_left.length : Int))), (33, .int .i64 t33)] ∧ Hp S w0 w (Res.obj 44 v3 [osx0] :: Res.obj 79 osx0 [.int .i64 sx0c_0, .int .i64 sx0c_1, .int .i64 sx0c_2, .int .i64 sx0c_3, v44] :: Res.sl (Ek.pair Ek.str (Ek.pair Ek.bool (Ek.pair (Ek.int .i64) Ek.bool))) 81 v44 ((sx0c_4.set (t33).toNat ((gt sx0c_4 t33).1, true, (gt sx0c_4 t33).2.2.1, (gt sx0c_4 t33).2.2.2)).set (t33).toNat ((gt (sx0c_4.set (t33).toNat ((gt sx0c_4 t33).1, true, (gt sx0c_4 t33).2.2.1, (gt sx0c_4 t33).2.2.2)) t33).1, (gt (sx0c_4.set (t33).toNat ((gt sx0c_4 t33).1, true, (gt sx0c_4 t33).2.2.1, (gt sx0c_4 t33).2.2.2)) t33).2.1, now3c, (gt (sx0c_4.set (t33).toNat ((gt sx0c_4 t33).1, true, (gt sx0c_4 t33).2.2.1, (gt sx0c_4 t33).2.2.2)) t33).2.2.2)) :: Res.sl (Ek.pair (Ek.int .u8) (Ek.pair (Ek.int .u8) (Ek.pair Ek.bool Ek.str))) 31 v104 ([((1 : Int), (IntKind.u8.wrap (IntKind.i64.wrap (sx0c_3 + t33))), false, (gt ((sx0c_4.set (t33).toNat ((gt sx0c_4 t33).1, true, (gt sx0c_4 t33).2.2.1, (gt sx0c_4 t33).2.2.2)).set (t33).toNat ((gt (sx0c_4.set (t33).toNat ((gt sx0c_4 t33).1, true, (gt sx0c_4 t33).2.2.1, (gt sx0c_4 t33).2.2.2)) t33).1, (gt (sx0c_4.set (t33).toNat ((gt sx0c_4 t33).1, true, (gt sx0c_4 t33).2.2.1, (gt sx0c_4 t33).2.2.2)) t33).2.1, now3c, (gt (sx0c_4.set (t33).toNat ((gt sx0c_4 t33).1, true, (gt sx0c_4 t33).2.2.1, (gt sx0c_4 t33).2.2.2)) t33).2.2.2)) t33).1)]) :: Res.obj 2 v5 [.int .i64 now3c] :: Res.sl (Ek.pair (Ek.int .u8) (Ek.pair (Ek.int .u8) (Ek.pair Ek.bool Ek.str))) 31 v107 (out7 ++ [((1 : Int), (IntKind.u8.wrap (IntKind.i64.wrap (sx0c_3 + t33))), false, (gt ((sx0c_4.set (t33).toNat ((gt sx0c_4 t33).1, true, (gt sx0c_4 t33).2.2.1, (gt sx0c_4 t33).2.2.2)).set (t33).toNat ((gt (sx0c_4.set (t33).toNat ((gt sx0c_4 t33).1, true, (gt sx0c_4 t33).2.2.1, (gt sx0c_4 t33).2.2.2)) t33).1, (gt (sx0c_4.set (t33).toNat ((gt sx0c_4 t33).1, true, (gt sx0c_4 t33).2.2.1, (gt sx0c_4 t33).2.2.2)) t33).2.1, now3c, (gt (sx0c_4.set (t33).toNat ((gt sx0c_4 t33).1, true, (gt sx0c_4 t33).2.2.1, (gt sx0c_4 t33).2.2.2)) t33).2.2.2)) t33).1)]) :: ow)) ?_ ?_
     ·
      have hp := hp97.same (Same.drew w)
      refine dr_begin' _ (fun w' => ∃ l, Hp S96 w w' l) [] (by kernel_rfl) ?_
      refine dr_takeK 0 (v49) rfl hf rfl (fun w ⟨_, hp⟩ => ?_) ⟨_, hp⟩ ?_
      · exact st_move hf rfl rfl (by decide) tk
      clear hf; intro a hf
      refine dr_takeK 1 (osx0) rfl hf rfl (fun w ⟨_, hp⟩ => ?_) ⟨_, hp⟩ ?_
      · exact st_ldO (u := osx0) hf (by decide) pl44 rfl rfl (rl103.ob hp) rfl tk
      clear hf; intro a hf
      refine dr_nilV 2 rfl (by kernel_rfl) (by kernel_rfl) (by kernel_rfl) hf (by decide) rfl rfl (rl101.ob hp) ?_
      clear hf; intro a hf
      refine dr_takeK 3 (optr osx0 3) rfl hf rfl (fun w ⟨_, hp⟩ => ?_) ⟨_, hp⟩ ?_
      · exact st_fa (o' := 3) hf (by decide) (off := 3) (sz := 1) (by kernel_rfl) (by decide) rfl rfl (rl101.ob hp) rfl tk
      clear hf; intro a hf
      refine dr_takeK 4 (.int .i64 sx0c_3) rfl hf rfl (fun w ⟨_, hp⟩ => ?_) ⟨_, hp⟩ ?_
      · exact st_ldO (u := .int .i64 sx0c_3) hf (by decide) pl3 rfl rfl (rl101.ob hp) rfl tk
      clear hf; intro a hf
      refine dr_takeK 5 (.int .i64 t33) rfl hf rfl (fun w ⟨_, hp⟩ => ?_) ⟨_, hp⟩ ?_
      · exact st_move hf rfl rfl (by decide) tk
      clear hf; intro a hf
      refine dr_takeK 6 (.int .i64 (IntKind.i64.wrap (sx0c_3 + t33))) rfl hf rfl (fun w ⟨_, hp⟩ => ?_) ⟨_, hp⟩ ?_
      · exact st_iadd hf (by decide) rfl rfl rfl tk
      clear hf; intro a hf
      refine dr_takeK 7 (.int .u8 (IntKind.u8.wrap (IntKind.i64.wrap (sx0c_3 + t33)))) rfl hf rfl (fun w ⟨_, hp⟩ => ?_) ⟨_, hp⟩ ?_
      · exact st_conv_ii hf (by decide) (by rw [Try.underlying3]; rfl) Try.underlying5 rfl rfl tk
      clear hf; intro a hf
      refine dr_takeK 8 (eptr v44 t33 4) rfl hf rfl (fun w ⟨_, hp⟩ => ?_) ⟨_, hp⟩ ?_
      · exact st_move hf rfl rfl (by decide) tk
      clear hf; intro a hf
      refine dr_nilE 9 rfl (by kernel_rfl) (by kernel_rfl) (by kernel_rfl) hf (by decide) rfl rfl (Sl.ptr (rl102.sl hp) (show 0 ≤ t33 ∧ t33 < (((sx0c_4.set (t33).toNat ((gt sx0c_4 t33).1, true, (gt sx0c_4 t33).2.2.1, (gt sx0c_4 t33).2.2.2)).set (t33).toNat ((gt (sx0c_4.set (t33).toNat ((gt sx0c_4 t33).1, true, (gt sx0c_4 t33).2.2.1, (gt sx0c_4 t33).2.2.2)) t33).1, (gt (sx0c_4.set (t33).toNat ((gt sx0c_4 t33).1, true, (gt sx0c_4 t33).2.2.1, (gt sx0c_4 t33).2.2.2)) t33).2.1, now3c, (gt (sx0c_4.set (t33).toNat ((gt sx0c_4 t33).1, true, (gt sx0c_4 t33).2.2.1, (gt sx0c_4 t33).2.2.2)) t33).2.2.2)).length : Int) from hset (show 0 ≤ t33 ∧ t33 < ((sx0c_4.set (t33).toNat ((gt sx0c_4 t33).1, true, (gt sx0c_4 t33).2.2.1, (gt sx0c_4 t33).2.2.2)).length : Int) from hset hc56)).1 (show 0 ≤ t33 ∧ t33 < (((sx0c_4.set (t33).toNat ((gt sx0c_4 t33).1, true, (gt sx0c_4 t33).2.2.1, (gt sx0c_4 t33).2.2.2)).set (t33).toNat ((gt (sx0c_4.set (t33).toNat ((gt sx0c_4 t33).1, true, (gt sx0c_4 t33).2.2.1, (gt sx0c_4 t33).2.2.2)) t33).1, (gt (sx0c_4.set (t33).toNat ((gt sx0c_4 t33).1, true, (gt sx0c_4 t33).2.2.1, (gt sx0c_4 t33).2.2.2)) t33).2.1, now3c, (gt (sx0c_4.set (t33).toNat ((gt sx0c_4 t33).1, true, (gt sx0c_4 t33).2.2.1, (gt sx0c_4 t33).2.2.2)) t33).2.2.2)).length : Int) from hset (show 0 ≤ t33 ∧ t33 < ((sx0c_4.set (t33).toNat ((gt sx0c_4 t33).1, true, (gt sx0c_4 t33).2.2.1, (gt sx0c_4 t33).2.2.2)).length : Int) from hset hc56)).2) ?_
      clear hf; intro a hf
      refine dr_takeK 10 (optr (eptr v44 t33 4) 0) rfl hf rfl (fun w ⟨_, hp⟩ => ?_) ⟨_, hp⟩ ?_
      · exact st_faP (off := 0) (sz := 1) hf (by decide) (by kernel_rfl) (by decide) rfl rfl (Sl.isP (rl102.sl hp) (show 0 ≤ t33 ∧ t33 < (((sx0c_4.set (t33).toNat ((gt sx0c_4 t33).1, true, (gt sx0c_4 t33).2.2.1, (gt sx0c_4 t33).2.2.2)).set (t33).toNat ((gt (sx0c_4.set (t33).toNat ((gt sx0c_4 t33).1, true, (gt sx0c_4 t33).2.2.1, (gt sx0c_4 t33).2.2.2)) t33).1, (gt (sx0c_4.set (t33).toNat ((gt sx0c_4 t33).1, true, (gt sx0c_4 t33).2.2.1, (gt sx0c_4 t33).2.2.2)) t33).2.1, now3c, (gt (sx0c_4.set (t33).toNat ((gt sx0c_4 t33).1, true, (gt sx0c_4 t33).2.2.1, (gt sx0c_4 t33).2.2.2)) t33).2.2.2)).length : Int) from hset (show 0 ≤ t33 ∧ t33 < ((sx0c_4.set (t33).toNat ((gt sx0c_4 t33).1, true, (gt sx0c_4 t33).2.2.1, (gt sx0c_4 t33).2.2.2)).length : Int) from hset hc56)).1 (show 0 ≤ t33 ∧ t33 < (((sx0c_4.set (t33).toNat ((gt sx0c_4 t33).1, true, (gt sx0c_4 t33).2.2.1, (gt sx0c_4 t33).2.2.2)).set (t33).toNat ((gt (sx0c_4.set (t33).toNat ((gt sx0c_4 t33).1, true, (gt sx0c_4 t33).2.2.1, (gt sx0c_4 t33).2.2.2)) t33).1, (gt (sx0c_4.set (t33).toNat ((gt sx0c_4 t33).1, true, (gt sx0c_4 t33).2.2.1, (gt sx0c_4 t33).2.2.2)) t33).2.1, now3c, (gt (sx0c_4.set (t33).toNat ((gt sx0c_4 t33).1, true, (gt sx0c_4 t33).2.2.1, (gt sx0c_4 t33).2.2.2)) t33).2.2.2)).length : Int) from hset (show 0 ≤ t33 ∧ t33 < ((sx0c_4.set (t33).toNat ((gt sx0c_4 t33).1, true, (gt sx0c_4 t33).2.2.1, (gt sx0c_4 t33).2.2.2)).length : Int) from hset hc56)).2) tk
      clear hf; intro a hf
      refine dr_takeK 11 (.string ((gt ((sx0c_4.set (t33).toNat ((gt sx0c_4 t33).1, true, (gt sx0c_4 t33).2.2.1, (gt sx0c_4 t33).2.2.2)).set (t33).toNat ((gt (sx0c_4.set (t33).toNat ((gt sx0c_4 t33).1, true, (gt sx0c_4 t33).2.2.1, (gt sx0c_4 t33).2.2.2)) t33).1, (gt (sx0c_4.set (t33).toNat ((gt sx0c_4 t33).1, true, (gt sx0c_4 t33).2.2.1, (gt sx0c_4 t33).2.2.2)) t33).2.1, now3c, (gt (sx0c_4.set (t33).toNat ((gt sx0c_4 t33).1, true, (gt sx0c_4 t33).2.2.1, (gt sx0c_4 t33).2.2.2)) t33).2.2.2)) t33).1)) rfl hf rfl (fun w ⟨_, hp⟩ => ?_) ⟨_, hp⟩ ?_
      · exact st_ldQ (F := Ek.str) (yv := (gt ((sx0c_4.set (t33).toNat ((gt sx0c_4 t33).1, true, (gt sx0c_4 t33).2.2.1, (gt sx0c_4 t33).2.2.2)).set (t33).toNat ((gt (sx0c_4.set (t33).toNat ((gt sx0c_4 t33).1, true, (gt sx0c_4 t33).2.2.1, (gt sx0c_4 t33).2.2.2)) t33).1, (gt (sx0c_4.set (t33).toNat ((gt sx0c_4 t33).1, true, (gt sx0c_4 t33).2.2.1, (gt sx0c_4 t33).2.2.2)) t33).2.1, now3c, (gt (sx0c_4.set (t33).toNat ((gt sx0c_4 t33).1, true, (gt sx0c_4 t33).2.2.1, (gt sx0c_4 t33).2.2.2)) t33).2.2.2)) t33).1) hf (by decide) pl9 (fun x => .string x) (fun _ _ h => h) rfl rfl (Sl.part (E := (Ek.pair Ek.str (Ek.pair Ek.bool (Ek.pair (Ek.int .i64) Ek.bool)))) (F := Ek.str) (o := 0) (Sub.fst (E := Ek.str) (F := (Ek.pair Ek.bool (Ek.pair (Ek.int .i64) Ek.bool)))) (rl102.sl hp) (show 0 ≤ t33 ∧ t33 < (((sx0c_4.set (t33).toNat ((gt sx0c_4 t33).1, true, (gt sx0c_4 t33).2.2.1, (gt sx0c_4 t33).2.2.2)).set (t33).toNat ((gt (sx0c_4.set (t33).toNat ((gt sx0c_4 t33).1, true, (gt sx0c_4 t33).2.2.1, (gt sx0c_4 t33).2.2.2)) t33).1, (gt (sx0c_4.set (t33).toNat ((gt sx0c_4 t33).1, true, (gt sx0c_4 t33).2.2.1, (gt sx0c_4 t33).2.2.2)) t33).2.1, now3c, (gt (sx0c_4.set (t33).toNat ((gt sx0c_4 t33).1, true, (gt sx0c_4 t33).2.2.1, (gt sx0c_4 t33).2.2.2)) t33).2.2.2)).length : Int) from hset (show 0 ≤ t33 ∧ t33 < ((sx0c_4.set (t33).toNat ((gt sx0c_4 t33).1, true, (gt sx0c_4 t33).2.2.1, (gt sx0c_4 t33).2.2.2)).length : Int) from hset hc56)).1 (show 0 ≤ t33 ∧ t33 < (((sx0c_4.set (t33).toNat ((gt sx0c_4 t33).1, true, (gt sx0c_4 t33).2.2.1, (gt sx0c_4 t33).2.2.2)).set (t33).toNat ((gt (sx0c_4.set (t33).toNat ((gt sx0c_4 t33).1, true, (gt sx0c_4 t33).2.2.1, (gt sx0c_4 t33).2.2.2)) t33).1, (gt (sx0c_4.set (t33).toNat ((gt sx0c_4 t33).1, true, (gt sx0c_4 t33).2.2.1, (gt sx0c_4 t33).2.2.2)) t33).2.1, now3c, (gt (sx0c_4.set (t33).toNat ((gt sx0c_4 t33).1, true, (gt sx0c_4 t33).2.2.1, (gt sx0c_4 t33).2.2.2)) t33).2.2.2)).length : Int) from hset (show 0 ≤ t33 ∧ t33 < ((sx0c_4.set (t33).toNat ((gt sx0c_4 t33).1, true, (gt sx0c_4 t33).2.2.1, (gt sx0c_4 t33).2.2.2)).length : Int) from hset hc56)).2) tk
      clear hf; intro a hf
      refine dr_takeK 12 (.agg #[.int .u8 (1 : Int), .int .u8 (IntKind.u8.wrap (IntKind.i64.wrap (sx0c_3 + t33))), .bool false, .string ((gt ((sx0c_4.set (t33).toNat ((gt sx0c_4 t33).1, true, (gt sx0c_4 t33).2.2.1, (gt sx0c_4 t33).2.2.2)).set (t33).toNat ((gt (sx0c_4.set (t33).toNat ((gt sx0c_4 t33).1, true, (gt sx0c_4 t33).2.2.1, (gt sx0c_4 t33).2.2.2)) t33).1, (gt (sx0c_4.set (t33).toNat ((gt sx0c_4 t33).1, true, (gt sx0c_4 t33).2.2.1, (gt sx0c_4 t33).2.2.2)) t33).2.1, now3c, (gt (sx0c_4.set (t33).toNat ((gt sx0c_4 t33).1, true, (gt sx0c_4 t33).2.2.1, (gt sx0c_4 t33).2.2.2)) t33).2.2.2)) t33).1)]) rfl hf rfl (fun w ⟨_, hp⟩ => ?_) ⟨_, hp⟩ ?_
      · exact st_buildA (vals := [(0, .int .u8 (1 : Int)), (1, .int .u8 (IntKind.u8.wrap (IntKind.i64.wrap (sx0c_3 + t33)))), (3, .string ((gt ((sx0c_4.set (t33).toNat ((gt sx0c_4 t33).1, true, (gt sx0c_4 t33).2.2.1, (gt sx0c_4 t33).2.2.2)).set (t33).toNat ((gt (sx0c_4.set (t33).toNat ((gt sx0c_4 t33).1, true, (gt sx0c_4 t33).2.2.1, (gt sx0c_4 t33).2.2.2)) t33).1, (gt (sx0c_4.set (t33).toNat ((gt sx0c_4 t33).1, true, (gt sx0c_4 t33).2.2.1, (gt sx0c_4 t33).2.2.2)) t33).2.1, now3c, (gt (sx0c_4.set (t33).toNat ((gt sx0c_4 t33).1, true, (gt sx0c_4 t33).2.2.1, (gt sx0c_4 t33).2.2.2)) t33).2.2.2)) t33).1))]) (cells := [.int .u8 (1 : Int), .int .u8 (IntKind.u8.wrap (IntKind.i64.wrap (sx0c_3 + t33))), .bool false, .string ((gt ((sx0c_4.set (t33).toNat ((gt sx0c_4 t33).1, true, (gt sx0c_4 t33).2.2.1, (gt sx0c_4 t33).2.2.2)).set (t33).toNat ((gt (sx0c_4.set (t33).toNat ((gt sx0c_4 t33).1, true, (gt sx0c_4 t33).2.2.1, (gt sx0c_4 t33).2.2.2)) t33).1, (gt (sx0c_4.set (t33).toNat ((gt sx0c_4 t33).1, true, (gt sx0c_4 t33).2.2.1, (gt sx0c_4 t33).2.2.2)) t33).2.1, now3c, (gt (sx0c_4.set (t33).toNat ((gt sx0c_4 t33).1, true, (gt sx0c_4 t33).2.2.1, (gt sx0c_4 t33).2.2.2)) t33).2.2.2)) t33).1)]) hf (by decide) rfl (by simp [hf.ev (x := (Operand.const (.int .u8 (1 : Int)))) rfl, hf.ev (x := (Operand.tmp 59)) rfl, hf.ev (x := (Operand.tmp 63)) rfl]) (fun w => by kernel_rfl) tk
      clear hf; intro a hf
      refine dr_one 13 rfl (by kernel_rfl) ?_
      refine st_build (E := (Ek.pair (Ek.int .u8) (Ek.pair (Ek.int .u8) (Ek.pair Ek.bool Ek.str)))) (xs := [((1 : Int), (IntKind.u8.wrap (IntKind.i64.wrap (sx0c_3 + t33))), false, (gt ((sx0c_4.set (t33).toNat ((gt sx0c_4 t33).1, true, (gt sx0c_4 t33).2.2.1, (gt sx0c_4 t33).2.2.2)).set (t33).toNat ((gt (sx0c_4.set (t33).toNat ((gt sx0c_4 t33).1, true, (gt sx0c_4 t33).2.2.1, (gt sx0c_4 t33).2.2.2)) t33).1, (gt (sx0c_4.set (t33).toNat ((gt sx0c_4 t33).1, true, (gt sx0c_4 t33).2.2.1, (gt sx0c_4 t33).2.2.2)) t33).2.1, now3c, (gt (sx0c_4.set (t33).toNat ((gt sx0c_4 t33).1, true, (gt sx0c_4 t33).2.2.1, (gt sx0c_4 t33).2.2.2)) t33).2.2.2)) t33).1)]) hf (by decide) elt31 Try.underlying54 hp (vals := #[(0, .agg #[.int .u8 (1 : Int), .int .u8 (IntKind.u8.wrap (IntKind.i64.wrap (sx0c_3 + t33))), .bool false, .string ((gt ((sx0c_4.set (t33).toNat ((gt sx0c_4 t33).1, true, (gt sx0c_4 t33).2.2.1, (gt sx0c_4 t33).2.2.2)).set (t33).toNat ((gt (sx0c_4.set (t33).toNat ((gt sx0c_4 t33).1, true, (gt sx0c_4 t33).2.2.1, (gt sx0c_4 t33).2.2.2)) t33).1, (gt (sx0c_4.set (t33).toNat ((gt sx0c_4 t33).1, true, (gt sx0c_4 t33).2.2.1, (gt sx0c_4 t33).2.2.2)) t33).2.1, now3c, (gt (sx0c_4.set (t33).toNat ((gt sx0c_4 t33).1, true, (gt sx0c_4 t33).2.2.1, (gt sx0c_4 t33).2.2.2)) t33).2.2.2)) t33).1)])]) (cells := #[.int .u8 (1 : Int), .int .u8 (IntKind.u8.wrap (IntKind.i64.wrap (sx0c_3 + t33))), .bool false, .string ((gt ((sx0c_4.set (t33).toNat ((gt sx0c_4 t33).1, true, (gt sx0c_4 t33).2.2.1, (gt sx0c_4 t33).2.2.2)).set (t33).toNat ((gt (sx0c_4.set (t33).toNat ((gt sx0c_4 t33).1, true, (gt sx0c_4 t33).2.2.1, (gt sx0c_4 t33).2.2.2)) t33).1, (gt (sx0c_4.set (t33).toNat ((gt sx0c_4 t33).1, true, (gt sx0c_4 t33).2.2.1, (gt sx0c_4 t33).2.2.2)) t33).2.1, now3c, (gt (sx0c_4.set (t33).toNat ((gt sx0c_4 t33).1, true, (gt sx0c_4 t33).2.2.1, (gt sx0c_4 t33).2.2.2)) t33).2.2.2)) t33).1)]) rfl (by simp [hf.ev (x := (Operand.tmp 64)) rfl]) (by decide) (by decide) (z := .agg #[.int .u8 0, .int .u8 0, .bool false, .string ByteArray.empty]) (by kernel_rfl) (by kernel_rfl) rfl (reps_cons (cs := [.int .u8 (1 : Int), .int .u8 (IntKind.u8.wrap (IntKind.i64.wrap (sx0c_3 + t33))), .bool false, .string ((gt ((sx0c_4.set (t33).toNat ((gt sx0c_4 t33).1, true, (gt sx0c_4 t33).2.2.1, (gt sx0c_4 t33).2.2.2)).set (t33).toNat ((gt (sx0c_4.set (t33).toNat ((gt sx0c_4 t33).1, true, (gt sx0c_4 t33).2.2.1, (gt sx0c_4 t33).2.2.2)) t33).1, (gt (sx0c_4.set (t33).toNat ((gt sx0c_4 t33).1, true, (gt sx0c_4 t33).2.2.1, (gt sx0c_4 t33).2.2.2)) t33).2.1, now3c, (gt (sx0c_4.set (t33).toNat ((gt sx0c_4 t33).1, true, (gt sx0c_4 t33).2.2.1, (gt sx0c_4 t33).2.2.2)) t33).2.2.2)) t33).1)]) ⟨[.int .u8 (1 : Int)], [.int .u8 (IntKind.u8.wrap (IntKind.i64.wrap (sx0c_3 + t33))), .bool false, .string ((gt ((sx0c_4.set (t33).toNat ((gt sx0c_4 t33).1, true, (gt sx0c_4 t33).2.2.1, (gt sx0c_4 t33).2.2.2)).set (t33).toNat ((gt (sx0c_4.set (t33).toNat ((gt sx0c_4 t33).1, true, (gt sx0c_4 t33).2.2.1, (gt sx0c_4 t33).2.2.2)) t33).1, (gt (sx0c_4.set (t33).toNat ((gt sx0c_4 t33).1, true, (gt sx0c_4 t33).2.2.1, (gt sx0c_4 t33).2.2.2)) t33).2.1, now3c, (gt (sx0c_4.set (t33).toNat ((gt sx0c_4 t33).1, true, (gt sx0c_4 t33).2.2.1, (gt sx0c_4 t33).2.2.2)) t33).2.2.2)) t33).1)], rfl, rfl, ⟨[.int .u8 (IntKind.u8.wrap (IntKind.i64.wrap (sx0c_3 + t33)))], [.bool false, .string ((gt ((sx0c_4.set (t33).toNat ((gt sx0c_4 t33).1, true, (gt sx0c_4 t33).2.2.1, (gt sx0c_4 t33).2.2.2)).set (t33).toNat ((gt (sx0c_4.set (t33).toNat ((gt sx0c_4 t33).1, true, (gt sx0c_4 t33).2.2.1, (gt sx0c_4 t33).2.2.2)) t33).1, (gt (sx0c_4.set (t33).toNat ((gt sx0c_4 t33).1, true, (gt sx0c_4 t33).2.2.1, (gt sx0c_4 t33).2.2.2)) t33).2.1, now3c, (gt (sx0c_4.set (t33).toNat ((gt sx0c_4 t33).1, true, (gt sx0c_4 t33).2.2.1, (gt sx0c_4 t33).2.2.2)) t33).2.2.2)) t33).1)], rfl, rfl, ⟨[.bool false], [.string ((gt ((sx0c_4.set (t33).toNat ((gt sx0c_4 t33).1, true, (gt sx0c_4 t33).2.2.1, (gt sx0c_4 t33).2.2.2)).set (t33).toNat ((gt (sx0c_4.set (t33).toNat ((gt sx0c_4 t33).1, true, (gt sx0c_4 t33).2.2.1, (gt sx0c_4 t33).2.2.2)) t33).1, (gt (sx0c_4.set (t33).toNat ((gt sx0c_4 t33).1, true, (gt sx0c_4 t33).2.2.1, (gt sx0c_4 t33).2.2.2)) t33).2.1, now3c, (gt (sx0c_4.set (t33).toNat ((gt sx0c_4 t33).1, true, (gt sx0c_4 t33).2.2.1, (gt sx0c_4 t33).2.2.2)) t33).2.2.2)) t33).1)], rfl, rfl, rfl⟩⟩⟩ (reps_nil _)) ?_
      clear hf; intro a w v104 hf hp0; clear hp; have hp := hp0; clear hp0
      replace hp : Hp _ _ _ (Res.sl (Ek.pair (Ek.int .u8) (Ek.pair (Ek.int .u8) (Ek.pair Ek.bool Ek.str))) 31 v104 ([((1 : Int), (IntKind.u8.wrap (IntKind.i64.wrap (sx0c_3 + t33))), false, (gt ((sx0c_4.set (t33).toNat ((gt sx0c_4 t33).1, true, (gt sx0c_4 t33).2.2.1, (gt sx0c_4 t33).2.2.2)).set (t33).toNat ((gt (sx0c_4.set (t33).toNat ((gt sx0c_4 t33).1, true, (gt sx0c_4 t33).2.2.1, (gt sx0c_4 t33).2.2.2)) t33).1, (gt (sx0c_4.set (t33).toNat ((gt sx0c_4 t33).1, true, (gt sx0c_4 t33).2.2.1, (gt sx0c_4 t33).2.2.2)) t33).2.1, now3c, (gt (sx0c_4.set (t33).toNat ((gt sx0c_4 t33).1, true, (gt sx0c_4 t33).2.2.1, (gt sx0c_4 t33).2.2.2)) t33).2.2.2)) t33).1)]) :: Res.obj 2 v5 [.int .i64 now3c] :: _ :: ow) := hp
      refine nx hf (fun _ _ => ⟨_, hp⟩) ?_
      refine dr_one 14 rfl (by kernel_rfl) ?_
      refine st_append (E := (Ek.pair (Ek.int .u8) (Ek.pair (Ek.int .u8) (Ek.pair Ek.bool Ek.str)))) hf (by decide) elt31 Try.underlying54 (by decide) hp (i := 2) rfl rfl rfl rfl (hp.sl (i := 0) rfl) hc106 ?_
      clear hf; intro a w v107 hf hp0; clear hp; have hp := hp0; clear hp0
      replace hp : Hp _ _ _ (_ :: _ :: Res.sl (Ek.pair (Ek.int .u8) (Ek.pair (Ek.int .u8) (Ek.pair Ek.bool Ek.str))) 31 v107 (out7 ++ [((1 : Int), (IntKind.u8.wrap (IntKind.i64.wrap (sx0c_3 + t33))), false, (gt ((sx0c_4.set (t33).toNat ((gt sx0c_4 t33).1, true, (gt sx0c_4 t33).2.2.1, (gt sx0c_4 t33).2.2.2)).set (t33).toNat ((gt (sx0c_4.set (t33).toNat ((gt sx0c_4 t33).1, true, (gt sx0c_4 t33).2.2.1, (gt sx0c_4 t33).2.2.2)) t33).1, (gt (sx0c_4.set (t33).toNat ((gt sx0c_4 t33).1, true, (gt sx0c_4 t33).2.2.1, (gt sx0c_4 t33).2.2.2)) t33).2.1, now3c, (gt (sx0c_4.set (t33).toNat ((gt sx0c_4 t33).1, true, (gt sx0c_4 t33).2.2.1, (gt sx0c_4 t33).2.2.2)) t33).2.2.2)) t33).1)]) :: ow) := hp
      refine nx hf (fun _ _ => ⟨_, hp⟩) ?_
      refine dr_takeK 15 (v107) rfl hf rfl (fun w ⟨_, hp⟩ => ?_) ⟨_, hp⟩ ?_
      · exact st_assign hf rfl rfl (by decide) tk
      clear hf; intro a hf
      refine dr_end (by kernel_rfl) ?_ _
      have hp := bk100 _ _ hp
      have hp := bk95 _ _ hp
      have hp := bk90 _ _ hp
      exact ⟨v104, v107, hf.sub ⟨rfl, rfl, rfl, rfl, rfl, rfl, rfl, trivial⟩, hp⟩
     rintro a w ⟨v104, v107, hf, hp⟩
     refine ib_n ?_
     refine th_n ?_
     refine wp_reg ?_
     refine st_iadd hf (by decide) rfl rfl rfl ?_
     clear hf; intro a ha hf; clear ha
     refine st_move hf rfl rfl (by decide) ?_
     clear hf; intro a ha hf; clear ha
     refine st_nil hf ?_
     obtain rfl := Option.some.inj h
     have hp : Hp _ _ _ (Res.sl (Ek.pair Ek.str (Ek.pair Ek.bool (Ek.pair (Ek.int .i64) Ek.bool))) 81 v44 ((sx0c_4.set (t33).toNat ((gt sx0c_4 t33).1, true, (gt sx0c_4 t33).2.2.1, (gt sx0c_4 t33).2.2.2)).set (t33).toNat ((gt (sx0c_4.set (t33).toNat ((gt sx0c_4 t33).1, true, (gt sx0c_4 t33).2.2.1, (gt sx0c_4 t33).2.2.2)) t33).1, (gt (sx0c_4.set (t33).toNat ((gt sx0c_4 t33).1, true, (gt sx0c_4 t33).2.2.1, (gt sx0c_4 t33).2.2.2)) t33).2.1, now3c, (gt (sx0c_4.set (t33).toNat ((gt sx0c_4 t33).1, true, (gt sx0c_4 t33).2.2.1, (gt sx0c_4 t33).2.2.2)) t33).2.2.2)) :: Res.obj 79 osx0 [.int .i64 sx0c_0, .int .i64 sx0c_1, .int .i64 sx0c_2, .int .i64 sx0c_3, v44] :: Res.obj 44 v3 [osx0] :: _ :: _ :: ow) := Hp.sel (pre := [Res.obj 44 v3 [osx0], Res.obj 79 osx0 [.int .i64 sx0c_0, .int .i64 sx0c_1, .int .i64 sx0c_2, .int .i64 sx0c_3, v44], Res.sl (Ek.pair Ek.str (Ek.pair Ek.bool (Ek.pair (Ek.int .i64) Ek.bool))) 81 v44 ((sx0c_4.set (t33).toNat ((gt sx0c_4 t33).1, true, (gt sx0c_4 t33).2.2.1, (gt sx0c_4 t33).2.2.2)).set (t33).toNat ((gt (sx0c_4.set (t33).toNat ((gt sx0c_4 t33).1, true, (gt sx0c_4 t33).2.2.1, (gt sx0c_4 t33).2.2.2)) t33).1, (gt (sx0c_4.set (t33).toNat ((gt sx0c_4 t33).1, true, (gt sx0c_4 t33).2.2.1, (gt sx0c_4 t33).2.2.2)) t33).2.1, now3c, (gt (sx0c_4.set (t33).toNat ((gt sx0c_4 t33).1, true, (gt sx0c_4 t33).2.2.1, (gt sx0c_4 t33).2.2.2)) t33).2.2.2)), Res.sl (Ek.pair (Ek.int .u8) (Ek.pair (Ek.int .u8) (Ek.pair Ek.bool Ek.str))) 31 v104 ([((1 : Int), (IntKind.u8.wrap (IntKind.i64.wrap (sx0c_3 + t33))), false, (gt ((sx0c_4.set (t33).toNat ((gt sx0c_4 t33).1, true, (gt sx0c_4 t33).2.2.1, (gt sx0c_4 t33).2.2.2)).set (t33).toNat ((gt (sx0c_4.set (t33).toNat ((gt sx0c_4 t33).1, true, (gt sx0c_4 t33).2.2.1, (gt sx0c_4 t33).2.2.2)) t33).1, (gt (sx0c_4.set (t33).toNat ((gt sx0c_4 t33).1, true, (gt sx0c_4 t33).2.2.1, (gt sx0c_4 t33).2.2.2)) t33).2.1, now3c, (gt (sx0c_4.set (t33).toNat ((gt sx0c_4 t33).1, true, (gt sx0c_4 t33).2.2.1, (gt sx0c_4 t33).2.2.2)) t33).2.2.2)) t33).1)]), Res.obj 2 v5 [.int .i64 now3c], Res.sl (Ek.pair (Ek.int .u8) (Ek.pair (Ek.int .u8) (Ek.pair Ek.bool Ek.str))) 31 v107 (out7 ++ [((1 : Int), (IntKind.u8.wrap (IntKind.i64.wrap (sx0c_3 + t33))), false, (gt ((sx0c_4.set (t33).toNat ((gt sx0c_4 t33).1, true, (gt sx0c_4 t33).2.2.1, (gt sx0c_4 t33).2.2.2)).set (t33).toNat ((gt (sx0c_4.set (t33).toNat ((gt sx0c_4 t33).1, true, (gt sx0c_4 t33).2.2.1, (gt sx0c_4 t33).2.2.2)) t33).1, (gt (sx0c_4.set (t33).toNat ((gt sx0c_4 t33).1, true, (gt sx0c_4 t33).2.2.1, (gt sx0c_4 t33).2.2.2)) t33).2.1, now3c, (gt (sx0c_4.set (t33).toNat ((gt sx0c_4 t33).1, true, (gt sx0c_4 t33).2.2.1, (gt sx0c_4 t33).2.2.2)) t33).2.2.2)) t33).1)])]) (tail := ow) (rs' := [Res.sl (Ek.pair Ek.str (Ek.pair Ek.bool (Ek.pair (Ek.int .i64) Ek.bool))) 81 v44 ((sx0c_4.set (t33).toNat ((gt sx0c_4 t33).1, true, (gt sx0c_4 t33).2.2.1, (gt sx0c_4 t33).2.2.2)).set (t33).toNat ((gt (sx0c_4.set (t33).toNat ((gt sx0c_4 t33).1, true, (gt sx0c_4 t33).2.2.1, (gt sx0c_4 t33).2.2.2)) t33).1, (gt (sx0c_4.set (t33).toNat ((gt sx0c_4 t33).1, true, (gt sx0c_4 t33).2.2.1, (gt sx0c_4 t33).2.2.2)) t33).2.1, now3c, (gt (sx0c_4.set (t33).toNat ((gt sx0c_4 t33).1, true, (gt sx0c_4 t33).2.2.1, (gt sx0c_4 t33).2.2.2)) t33).2.2.2)), Res.obj 79 osx0 [.int .i64 sx0c_0, .int .i64 sx0c_1, .int .i64 sx0c_2, .int .i64 sx0c_3, v44], Res.obj 44 v3 [osx0], Res.obj 2 v5 [.int .i64 now3c], Res.sl (Ek.pair (Ek.int .u8) (Ek.pair (Ek.int .u8) (Ek.pair Ek.bool Ek.str))) 31 v107 (out7 ++ [((1 : Int), (IntKind.u8.wrap (IntKind.i64.wrap (sx0c_3 + t33))), false, (gt ((sx0c_4.set (t33).toNat ((gt sx0c_4 t33).1, true, (gt sx0c_4 t33).2.2.1, (gt sx0c_4 t33).2.2.2)).set (t33).toNat ((gt (sx0c_4.set (t33).toNat ((gt sx0c_4 t33).1, true, (gt sx0c_4 t33).2.2.1, (gt sx0c_4 t33).2.2.2)) t33).1, (gt (sx0c_4.set (t33).toNat ((gt sx0c_4 t33).1, true, (gt sx0c_4 t33).2.2.1, (gt sx0c_4 t33).2.2.2)) t33).2.1, now3c, (gt (sx0c_4.set (t33).toNat ((gt sx0c_4 t33).1, true, (gt sx0c_4 t33).2.2.1, (gt sx0c_4 t33).2.2.2)) t33).2.2.2)) t33).1)])]) hp [2, 1, 0, 4, 5] (by decide) (by simp) rfl
     exact rnd_l ⟨_, _, hf.sub ⟨rfl, rfl, rfl, rfl, rfl, rfl, rfl, trivial⟩, hp⟩
    replace h := ifF h hb
    refine wp_skip ?_
    refine ib_n ?_
    refine th_n ?_
    refine wp_reg ?_
    refine st_iadd hf (by decide) rfl rfl rfl ?_
    clear hf; intro a ha hf; clear ha
    refine st_move hf rfl rfl (by decide) ?_
    clear hf; intro a ha hf; clear ha
    refine st_nil hf ?_
    obtain rfl := Option.some.inj h
    have hp : Hp _ _ _ (Res.sl (Ek.pair Ek.str (Ek.pair Ek.bool (Ek.pair (Ek.int .i64) Ek.bool))) 81 v44 sx0c_4 :: _ :: _ :: _ :: Res.sl (Ek.pair (Ek.int .u8) (Ek.pair (Ek.int .u8) (Ek.pair Ek.bool Ek.str))) 31 v49 out7 :: ow) := Hp.sel (pre := [Res.sl (Ek.pair Ek.str (Ek.pair Ek.bool (Ek.pair (Ek.int .i64) Ek.bool))) 81 v44 sx0c_4, Res.obj 2 v5 [.int .i64 now3c], Res.obj 79 osx0 [.int .i64 sx0c_0, .int .i64 sx0c_1, .int .i64 sx0c_2, .int .i64 sx0c_3, v44], Res.obj 44 v3 [osx0], Res.sl (Ek.pair (Ek.int .u8) (Ek.pair (Ek.int .u8) (Ek.pair Ek.bool Ek.str))) 31 v49 out7]) (tail := ow) (rs' := [Res.sl (Ek.pair Ek.str (Ek.pair Ek.bool (Ek.pair (Ek.int .i64) Ek.bool))) 81 v44 sx0c_4, Res.obj 79 osx0 [.int .i64 sx0c_0, .int .i64 sx0c_1, .int .i64 sx0c_2, .int .i64 sx0c_3, v44], Res.obj 44 v3 [osx0], Res.obj 2 v5 [.int .i64 now3c], Res.sl (Ek.pair (Ek.int .u8) (Ek.pair (Ek.int .u8) (Ek.pair Ek.bool Ek.str))) 31 v49 out7]) hp [0, 2, 3, 1, 4] (by decide) (by simp) rfl
    exact rnd_l ⟨_, _, hf.sub ⟨rfl, rfl, rfl, rfl, rfl, rfl, rfl, trivial⟩, hp⟩
   replace h := ifF h hb
   refine wp_exit ?_
   refine th_e ?_
   obtain rfl := Option.some.inj h
   have hp : Hp _ _ _ (_ :: _ :: _ :: ow) := Hp.sel (pre := [Res.sl (Ek.pair Ek.str (Ek.pair Ek.bool (Ek.pair (Ek.int .i64) Ek.bool))) 81 v44 sx0c_4, Res.obj 79 osx0 [.int .i64 sx0c_0, .int .i64 sx0c_1, .int .i64 sx0c_2, .int .i64 sx0c_3, v44], Res.obj 44 v3 [osx0], Res.obj 2 v5 [.int .i64 now3c], Res.sl (Ek.pair (Ek.int .u8) (Ek.pair (Ek.int .u8) (Ek.pair Ek.bool Ek.str))) 31 v49 out7]) (tail := ow) (rs' := [Res.sl (Ek.pair Ek.str (Ek.pair Ek.bool (Ek.pair (Ek.int .i64) Ek.bool))) 81 v44 sx0c_4, Res.obj 79 osx0 [.int .i64 sx0c_0, .int .i64 sx0c_1, .int .i64 sx0c_2, .int .i64 sx0c_3, v44], Res.sl (Ek.pair (Ek.int .u8) (Ek.pair (Ek.int .u8) (Ek.pair Ek.bool Ek.str))) 31 v49 out7]) hp [0, 1, 4] (by decide) (by simp) rfl
   exact rnd_r (by simp) ⟨rfl, _, _, hf.sub ⟨rfl, rfl, trivial⟩, hp⟩
  clear hl hf hp
  intro e a w hne hO
  obtain ⟨rfl, v51, v54, hf, hp⟩ := hO
  refine ib_same ?_
  refine th_n ?_
  refine wp_seq ?_
  refine wp_reg ?_
  refine st_move hf rfl rfl (by decide) ?_
  clear hf; intro a ha hf; clear ha
  refine st_assign hf rfl rfl (by decide) ?_
  clear hf; intro a ha hf; clear ha
  refine st_assign hf rfl rfl (by decide) ?_
  clear hf; intro a ha hf; clear ha
  refine st_nil hf ?_
  refine th_n ?_
  refine wp_ret ?_
  obtain rfl := Option.some.inj h
  have hp : Hp _ _ _ (Res.sl (Ek.pair (Ek.int .u8) (Ek.pair (Ek.int .u8) (Ek.pair Ek.bool Ek.str))) 31 v54 q108.2.2.2.2.2 :: Res.sl (Ek.pair Ek.str (Ek.pair Ek.bool (Ek.pair (Ek.int .i64) Ek.bool))) 81 v51 q108.2.2.2.2.1 :: Res.obj 79 osx0 [.int .i64 q108.1, .int .i64 q108.2.1, .int .i64 q108.2.2.1, .int .i64 q108.2.2.2.1, v51] :: ow) := Hp.sel (pre := [Res.sl (Ek.pair Ek.str (Ek.pair Ek.bool (Ek.pair (Ek.int .i64) Ek.bool))) 81 v51 q108.2.2.2.2.1, Res.obj 79 osx0 [.int .i64 q108.1, .int .i64 q108.2.1, .int .i64 q108.2.2.1, .int .i64 q108.2.2.2.1, v51], Res.sl (Ek.pair (Ek.int .u8) (Ek.pair (Ek.int .u8) (Ek.pair Ek.bool Ek.str))) 31 v54 q108.2.2.2.2.2]) (tail := ow) (rs' := [Res.sl (Ek.pair (Ek.int .u8) (Ek.pair (Ek.int .u8) (Ek.pair Ek.bool Ek.str))) 31 v54 q108.2.2.2.2.2, Res.sl (Ek.pair Ek.str (Ek.pair Ek.bool (Ek.pair (Ek.int .i64) Ek.bool))) 81 v51 q108.2.2.2.2.1, Res.obj 79 osx0 [.int .i64 q108.1, .int .i64 q108.2.1, .int .i64 q108.2.2.1, .int .i64 q108.2.2.2.1, v51]]) hp [2, 0, 1] (by decide) (by simp) rfl
  exact ⟨rfl, ⟨_, _, hf.sub ⟨rfl, rfl, trivial⟩, hp⟩⟩

noncomputable def f_again_Receiver_Take.s1c (r0c_0 : Int) (r0c_1 : Int) (r0c_2 : (List (Int × ByteArray))) (handed4 : (List ByteArray)) : Option ((Int × Int × (List (Int × ByteArray)) × (List ByteArray)) ⊕ (Int × Int × (List (Int × ByteArray)) × (List ByteArray))) := (if (!((mget r0c_2 r0c_1).isSome)) = true then (some (Sum.inr (r0c_0, r0c_1, r0c_2, handed4))) else (if (handed4.length + ([((mget r0c_2 r0c_1).getD ByteArray.empty)]).length) * 16 ≤ 140737488355328 then (some (Sum.inl (r0c_0, (IntKind.i64.wrap (r0c_1 + (1 : Int))), (mdel r0c_2 r0c_1), (handed4 ++ [((mget r0c_2 r0c_1).getD ByteArray.empty)])))) else none))
noncomputable def f_again_Receiver_Take.s1  (s : (Int × Int × (List (Int × ByteArray)) × (List ByteArray))) : Option ((Int × Int × (List (Int × ByteArray)) × (List ByteArray)) ⊕ (Int × Int × (List (Int × ByteArray)) × (List ByteArray))) := f_again_Receiver_Take.s1c s.1 s.2.1 s.2.2.1 s.2.2.2
noncomputable def f_again_Receiver_Take.s2c (q41 : (Int × Int × (List (Int × ByteArray)) × (List ByteArray))) (marks12 : (List Int)) (t109 : Int) : Option (((List Int) × Int) ⊕ (List Int)) := (if (decide (t109 < (128 : Int))) = true then (if ((mget q41.2.2.1 (IntKind.i64.wrap ((IntKind.i64.wrap (q41.2.1 + (1 : Int))) + t109))).isSome) = true then (if 0 ≤ (IntKind.i64.wrap ((t109).tdiv (8 : Int))) ∧ (IntKind.i64.wrap ((t109).tdiv (8 : Int))) < (16 : Int) then (if 0 ≤ ((t109).tmod (8 : Int)) then (if 0 ≤ (IntKind.i64.wrap ((t109).tdiv (8 : Int))) ∧ (IntKind.i64.wrap ((t109).tdiv (8 : Int))) < (16 : Int) then (some (Sum.inl ((marks12.set ((IntKind.i64.wrap ((t109).tdiv (8 : Int)))).toNat (ior .u8 (gt marks12 (IntKind.i64.wrap ((t109).tdiv (8 : Int)))) (ishr .u8 (128 : Int) ((t109).tmod (8 : Int))))), (IntKind.i64.wrap (t109 + (1 : Int)))))) else none) else none) else none) else (some (Sum.inl (marks12, (IntKind.i64.wrap (t109 + (1 : Int))))))) else (some (Sum.inr marks12)))
noncomputable def f_again_Receiver_Take.s2 (q41 : (Int × Int × (List (Int × ByteArray)) × (List ByteArray))) (s : ((List Int) × Int)) : Option (((List Int) × Int) ⊕ (List Int)) := f_again_Receiver_Take.s2c q41 s.1 s.2
noncomputable def f_again_Receiver_Take.j1 (r0c_0 : Int) (r0c_1 : Int) (r0c_2 : (List (Int × ByteArray))) : Option ((List ByteArray) × (Int × Int × Bool × ByteArray) × Int × (Int × Int × (List (Int × ByteArray)))) := ((loop f_again_Receiver_Take.s1 (r0c_0, r0c_1, r0c_2, [])).bind (fun q41 => ((loop (f_again_Receiver_Take.s2 q41) ((List.replicate 16 (0 : Int)), (0 : Int))).bind (fun q64 => (some (q41.2.2.2, ((2 : Int), (IntKind.u8.wrap q41.2.1), false, (bstr q64)), (0 : Int), (q41.1, q41.2.1, q41.2.2.1)))))))
noncomputable def f_again_Receiver_Take (r0_window : Int) (r0_next : Int) (r0_kept : (List (Int × ByteArray))) (f1_Kind : Int) (f1_Number : Int) (f1_More : Bool) (f1_Body : ByteArray) : Option ((List ByteArray) × (Int × Int × Bool × ByteArray) × Int × (Int × Int × (List (Int × ByteArray)))) := (if (((f1_Kind != (1 : Int)) || f1_More) || (decide ((240 : Int) < (f1_Body.size : Int)))) = true then (some ([], ((0 : Int), (0 : Int), false, ByteArray.empty), (4 : Int), (r0_window, r0_next, r0_kept))) else (if (decide ((IntKind.i64.wrap (IntKind.u8.wrap (f1_Number - (IntKind.u8.wrap r0_next)))) < r0_window)) = true then (if (!((mget r0_kept (IntKind.i64.wrap (r0_next + (IntKind.i64.wrap (IntKind.u8.wrap (f1_Number - (IntKind.u8.wrap r0_next))))))).isSome)) = true then (f_again_Receiver_Take.j1 r0_window r0_next (mput r0_kept (IntKind.i64.wrap (r0_next + (IntKind.i64.wrap (IntKind.u8.wrap (f1_Number - (IntKind.u8.wrap r0_next)))))) f1_Body)) else (f_again_Receiver_Take.j1 r0_window r0_next r0_kept)) else (f_again_Receiver_Take.j1 r0_window r0_next r0_kept)))
theorem f_again_Receiver_Take_c {S : Nat → Prop} {w0 w : World} {ow : List Res} (r0_window : Int) (r0_next : Int) (vr0_kept : Value) (r0_kept : (List (Int × ByteArray))) (or0 : Value) (f1_Kind : Int) (f1_Number : Int) (f1_More : Bool) (f1_Body : ByteArray) (hp : Hp S w0 w (Res.map (fun x : ByteArray => Value.string x) vr0_kept r0_kept :: Res.obj 74 or0 [.int .i64 r0_window, .int .i64 r0_next, vr0_kept] :: ow)) {r : ((List ByteArray) × (Int × Int × Bool × ByteArray) × Int × (Int × Int × (List (Int × ByteArray))))} (h : f_again_Receiver_Take r0_window r0_next r0_kept f1_Kind f1_Number f1_More f1_Body = some r) :
   Calls Try.prog 10 #[or0, .agg #[.int .u8 f1_Kind, .int .u8 f1_Number, .bool f1_More, .string f1_Body]] w (fun e w' => ∃ (u0 : Value) (u1 : Value), e = .returned (.tuple #[u0, .agg #[.int .u8 r.2.1.1, .int .u8 r.2.1.2.1, .bool r.2.1.2.2.1, .string r.2.1.2.2.2], .int .i64 r.2.2.1]) ∧ Hp S w0 w' (Res.sl Ek.str 9 u0 r.1 :: Res.map (fun x : ByteArray => Value.string x) u1 r.2.2.2.2.2 :: Res.obj 74 or0 [.int .i64 r.2.2.2.1, .int .i64 r.2.2.2.2.1, u1] :: ow)) := by
  unfold f_again_Receiver_Take at h
  refine enter (n := 147) (args := [or0, .agg #[.int .u8 f1_Kind, .int .u8 f1_Number, .bool f1_More, .string f1_Body]]) Try.func10 rfl rfl (Nat.le_of_ble_eq_true rfl) fun a hf => ?_
  replace hf : Fr 147 a [(0, or0), (1, .agg #[.int .u8 f1_Kind, .int .u8 f1_Number, .bool f1_More, .string f1_Body])] := hf
  refine wp_mono (Q := fun e a w => e = .ret ∧ ∃ (u0 : Value) (u1 : Value) (c1 : Value), Fr 147 a [(4, u0), (5, optr c1 0), (6, .int .i64 r.2.2.1)] ∧ Hp S w0 w (Res.obj 31 c1 [.int .u8 r.2.1.1, .int .u8 r.2.1.2.1, .bool r.2.1.2.2.1, .string r.2.1.2.2.2] :: Res.sl Ek.str 9 u0 r.1 :: Res.map (fun x : ByteArray => Value.string x) u1 r.2.2.2.2.2 :: Res.obj 74 or0 [.int .i64 r.2.2.2.1, .int .i64 r.2.2.2.2.1, u1] :: ow)) ?_ ?_
  rotate_left
  ·
   rintro e a w ⟨rfl, x0, x1, c1, hf, hp⟩
   exact retG3 hf rfl rfl ⟨_, _, rfl, hp.ob (i := 0) rfl, .inr ⟨by kernel_rfl, rfl⟩⟩ rfl ⟨x0, x1, rfl, hp.drop⟩
  refine wp_seq ?_
  refine wp_reg ?_
  refine st_boxO (cs := [.int .u8 f1_Kind, .int .u8 f1_Number, .bool f1_More, .string f1_Body]) hf (by decide) hp rfl rfl rfl ?_
  clear hf; intro a w v3 hf hp0; clear hp; have hp := hp0; clear hp0
  replace hp : Hp _ _ _ (Res.obj 31 v3 [.int .u8 f1_Kind, .int .u8 f1_Number, .bool f1_More, .string f1_Body] :: Res.map (fun x : ByteArray => Value.string x) vr0_kept r0_kept :: Res.obj 74 or0 [.int .i64 r0_window, .int .i64 r0_next, vr0_kept] :: ow) := hp
  refine st_assign hf rfl rfl (by decide) ?_
  clear hf; intro a ha hf; clear ha
  refine st_alloc (cs := [.int .u8 (0 : Int), .int .u8 (0 : Int), .bool false, .string ByteArray.empty]) (zv := .agg #[.int .u8 (0 : Int), .int .u8 (0 : Int), .bool false, .string ByteArray.empty]) hf (by decide) (by kernel_rfl) rfl hp rfl ?_
  clear hf; intro a w v5 hf hp0; clear hp; have hp := hp0; clear hp0
  replace hp : Hp _ _ _ (Res.obj 31 v5 [.int .u8 (0 : Int), .int .u8 (0 : Int), .bool false, .string ByteArray.empty] :: _ :: _ :: _ :: ow) := hp
  refine st_assign hf rfl rfl (by decide) ?_
  clear hf; intro a ha hf; clear ha
  refine st_nil hf ?_
  refine th_n ?_
  refine wp_seq ?_
  refine wp_seq ?_
  refine wp_reg ?_
  refine st_move hf rfl rfl (by decide) ?_
  clear hf; intro a ha hf; clear ha
  refine st_peql hf (by decide) Try.underlying23 rfl rfl rfl (nilF (hp.ob (i := 3) rfl).e) ?_
  clear hf; intro a ha hf; clear ha
  refine st_nil hf ?_
  refine th_n ?_
  refine wp_if hf rfl (fun hb => ?_) (fun hb => ?_)
  · exact absurd hb (by decide)
  refine wp_skip ?_
  refine th_n ?_
  refine wp_seq ?_
  refine wp_seq ?_
  refine wp_reg ?_
  refine st_fa (o' := 0) hf (by decide) (off := 0) (sz := 1) (by kernel_rfl) (by decide) rfl rfl (hp.ob (i := 1) rfl) rfl ?_
  clear hf; intro a ha hf; clear ha
  refine st_ldO (u := .int .u8 f1_Kind) hf (by decide) pl5 rfl rfl (hp.ob (i := 1) rfl) rfl ?_
  clear hf; intro a ha hf; clear ha
  refine st_ineq hf (by decide) rfl rfl rfl ?_
  clear hf; intro a ha hf; clear ha
  refine st_move hf rfl rfl (by decide) ?_
  clear hf; intro a ha hf; clear ha
  refine wpList_cut 3 (fun a w => Fr 147 a [(0, or0), (3, optr v3 0), (4, .slice none 0 0), (5, optr v5 0), (25, .bool ((f1_Kind != (1 : Int)) || f1_More))] ∧ Hp S w0 w (Res.obj 31 v5 [.int .u8 (0 : Int), .int .u8 (0 : Int), .bool false, .string ByteArray.empty] :: Res.obj 31 v3 [.int .u8 f1_Kind, .int .u8 f1_Number, .bool f1_More, .string f1_Body] :: Res.map (fun x : ByteArray => Value.string x) vr0_kept r0_kept :: Res.obj 74 or0 [.int .i64 r0_window, .int .i64 r0_next, vr0_kept] :: ow)) ?_ ?_
  ·
   rcases Bool.eq_false_or_eq_true (f1_Kind != (1 : Int)) with hb8 | hb8
   ·
    refine st_skip hf (wantN hf rfl rfl hb8) rfl (by decide) ?_ rfl
    clear hf; intro a hf
    refine st_skip hf (wantN hf rfl rfl hb8) rfl (by decide) ?_ rfl
    clear hf; intro a hf
    refine st_pick (v := .bool true) hf rfl rfl (fun hb' => ?_) (fun hb' => ?_) (by decide) ?_
    · rfl
    · exact absurd (hb8.symm.trans hb') (by decide)
    clear hf; intro a ha hf; clear ha
    refine st_nil hf (th_n ?_)
    exact ⟨hf.sub ⟨rfl, rfl, rfl, rfl, (by rw [hb8]; rfl), trivial⟩, hp⟩
   refine st_fa (o' := 2) hf (by decide) (off := 2) (sz := 1) (by kernel_rfl) (by decide) (wantY hf rfl rfl hb8) rfl (hp.ob (i := 1) rfl) rfl ?_
   clear hf; intro a ha hf; clear ha
   refine st_ldO (u := .bool f1_More) hf (by decide) pl4 (wantY hf rfl rfl hb8) rfl (hp.ob (i := 1) rfl) rfl ?_
   clear hf; intro a ha hf; clear ha
   refine st_pick (v := .bool f1_More) hf rfl rfl (fun hb' => ?_) (fun hb' => ?_) (by decide) ?_
   · exact absurd (hb8.symm.trans hb') (by decide)
   · rfl
   clear hf; intro a ha hf; clear ha
   refine st_nil hf (th_n ?_)
   exact ⟨hf.sub ⟨rfl, rfl, rfl, rfl, (by rw [hb8]; rfl), trivial⟩, hp⟩
  rintro a w ⟨hf, hp⟩
  refine st_move hf rfl rfl (by decide) ?_
  clear hf; intro a ha hf; clear ha
  refine wpList_cut 5 (fun a w => Fr 147 a [(0, or0), (3, optr v3 0), (4, .slice none 0 0), (5, optr v5 0), (31, .bool (((f1_Kind != (1 : Int)) || f1_More) || (decide ((240 : Int) < (f1_Body.size : Int)))))] ∧ Hp S w0 w (Res.obj 31 v5 [.int .u8 (0 : Int), .int .u8 (0 : Int), .bool false, .string ByteArray.empty] :: Res.obj 31 v3 [.int .u8 f1_Kind, .int .u8 f1_Number, .bool f1_More, .string f1_Body] :: Res.map (fun x : ByteArray => Value.string x) vr0_kept r0_kept :: Res.obj 74 or0 [.int .i64 r0_window, .int .i64 r0_next, vr0_kept] :: ow)) ?_ ?_
  ·
   rcases Bool.eq_false_or_eq_true ((f1_Kind != (1 : Int)) || f1_More) with hb10 | hb10
   ·
    refine st_skip hf (wantN hf rfl rfl hb10) rfl (by decide) ?_ rfl
    clear hf; intro a hf
    refine st_skip hf (wantN hf rfl rfl hb10) rfl (by decide) ?_ rfl
    clear hf; intro a hf
    refine st_skip hf (wantN hf rfl rfl hb10) rfl (by decide) ?_ rfl
    clear hf; intro a hf
    refine st_skip hf (wantN hf rfl rfl hb10) rfl (by decide) ?_ rfl
    clear hf; intro a hf
    refine st_pick (v := .bool true) hf rfl rfl (fun hb' => ?_) (fun hb' => ?_) (by decide) ?_
    · rfl
    · exact absurd (hb10.symm.trans hb') (by decide)
    clear hf; intro a ha hf; clear ha
    refine st_nil hf (th_n ?_)
    exact ⟨hf.sub ⟨rfl, rfl, rfl, rfl, (by rw [hb10]; rfl), trivial⟩, hp⟩
   refine st_fa (o' := 3) hf (by decide) (off := 3) (sz := 1) (by kernel_rfl) (by decide) (wantY hf rfl rfl hb10) rfl (hp.ob (i := 1) rfl) rfl ?_
   clear hf; intro a ha hf; clear ha
   refine st_ldO (u := .string f1_Body) hf (by decide) pl9 (wantY hf rfl rfl hb10) rfl (hp.ob (i := 1) rfl) rfl ?_
   clear hf; intro a ha hf; clear ha
   refine st_slen hf (by decide) Try.underlying9 (wantY hf rfl rfl hb10) rfl ?_
   clear hf; intro a ha hf; clear ha
   refine st_igtr hf (by decide) (wantY hf rfl rfl hb10) rfl rfl ?_
   clear hf; intro a ha hf; clear ha
   refine st_pick (v := .bool (decide ((240 : Int) < (f1_Body.size : Int)))) hf rfl rfl (fun hb' => ?_) (fun hb' => ?_) (by decide) ?_
   · exact absurd (hb10.symm.trans hb') (by decide)
   · rfl
   clear hf; intro a ha hf; clear ha
   refine st_nil hf (th_n ?_)
   exact ⟨hf.sub ⟨rfl, rfl, rfl, rfl, (by rw [hb10]; rfl), trivial⟩, hp⟩
  rintro a w ⟨hf, hp⟩
  refine st_nil hf ?_
  refine th_n ?_
  refine wp_if hf rfl (fun hb => ?_) (fun hb => ?_)
  ·
   replace h := ifT h hb
   refine wp_seq ?_
   refine wp_reg ?_
   refine st_buildA (vals := []) (cells := [.int .u8 (0 : Int), .int .u8 (0 : Int), .bool false, .string ByteArray.empty]) hf (by decide) rfl (by simp []) (fun w => by kernel_rfl) ?_
   clear hf; intro a ha hf; clear ha
   refine st_assign hf rfl rfl (by decide) ?_
   clear hf; intro a ha hf; clear ha
   refine st_stO (us := [.int .u8 (0 : Int), .int .u8 (0 : Int), .bool false, .string ByteArray.empty]) hf hp (i := 0) rfl rfl rfl rfl rfl (by rfl) (by kernel_rfl) (Nat.le_of_ble_eq_true rfl) ?_
   clear hf; intro a w hf hp0; clear hp; have hp := hp0; clear hp0
   replace hp : Hp _ _ _ (_ :: _ :: _ :: _ :: ow) := hp
   refine st_assign hf rfl rfl (by decide) ?_
   clear hf; intro a ha hf; clear ha
   refine st_nil hf ?_
   refine th_n ?_
   refine wp_ret ?_
   refine th_r ?_
   obtain rfl := Option.some.inj h
   have hp := hp.nil Ek.str 9
   have hp : Hp _ _ _ (_ :: Res.sl Ek.str 9 (.slice none 0 0) ([]) :: _ :: _ :: ow) := Hp.sel (pre := [Res.sl Ek.str 9 (.slice none 0 0) ([]), Res.obj 31 v5 [.int .u8 (0 : Int), .int .u8 (0 : Int), .bool false, .string ByteArray.empty], Res.obj 31 v3 [.int .u8 f1_Kind, .int .u8 f1_Number, .bool f1_More, .string f1_Body], Res.map (fun x : ByteArray => Value.string x) vr0_kept r0_kept, Res.obj 74 or0 [.int .i64 r0_window, .int .i64 r0_next, vr0_kept]]) (tail := ow) (rs' := [Res.obj 31 v5 [.int .u8 (0 : Int), .int .u8 (0 : Int), .bool false, .string ByteArray.empty], Res.sl Ek.str 9 (.slice none 0 0) ([]), Res.map (fun x : ByteArray => Value.string x) vr0_kept r0_kept, Res.obj 74 or0 [.int .i64 r0_window, .int .i64 r0_next, vr0_kept]]) hp [1, 0, 3, 4] (by decide) (by simp) rfl
   exact ⟨rfl, ⟨_, _, _, hf.sub ⟨rfl, rfl, rfl, trivial⟩, hp⟩⟩
  replace h := ifF h hb
  refine wp_skip ?_
  refine th_n ?_
  refine wp_seq_cut (fun a w => ∃ (r0c_0 : Int) (r0c_1 : Int) (r0c_2 : (List (Int × ByteArray))) (v12 : Value), f_again_Receiver_Take.j1 r0c_0 r0c_1 r0c_2 = some r ∧ Fr 147 a [(0, or0), (4, .slice none 0 0), (5, optr v5 0)] ∧ Hp S w0 w (Res.map (fun x : ByteArray => Value.string x) v12 r0c_2 :: Res.obj 74 or0 [.int .i64 r0c_0, .int .i64 r0c_1, v12] :: Res.obj 31 v5 [.int .u8 (0 : Int), .int .u8 (0 : Int), .bool false, .string ByteArray.empty] :: ow)) ?_ ?_
  ·
   refine wp_seq ?_
   obtain ⟨S77, hp78, rd79, up80, bk81⟩ := Hp.lendO hp (i := 1) rfl
   obtain ⟨S82, hp83, rd84, up85, bk86⟩ := Hp.lendO hp78 (i := 2) rfl
   have rl87 := rd84
   have rl88 := ((rd79.now hp78).mono up85)
   refine wp_cutN (fun a w => Fr 147 a [(0, or0), (3, optr v3 0), (4, .slice none 0 0), (5, optr v5 0), (7, .int .i64 (IntKind.i64.wrap (IntKind.u8.wrap (f1_Number - (IntKind.u8.wrap r0_next)))))] ∧ Hp S w0 w (Res.obj 31 v3 [.int .u8 f1_Kind, .int .u8 f1_Number, .bool f1_More, .string f1_Body] :: Res.obj 74 or0 [.int .i64 r0_window, .int .i64 r0_next, vr0_kept] :: Res.obj 31 v5 [.int .u8 (0 : Int), .int .u8 (0 : Int), .bool false, .string ByteArray.empty] :: Res.map (fun x : ByteArray => Value.string x) vr0_kept r0_kept :: ow)) ?_ ?_
   ·
    have hp := hp83.same (Same.drew w)
    refine dr_begin' _ (fun w' => ∃ l, Hp S82 w w' l) [] (by kernel_rfl) ?_
    refine dr_takeK 0 (optr v3 1) rfl hf rfl (fun w ⟨_, hp⟩ => ?_) ⟨_, hp⟩ ?_
    · exact st_fa (o' := 1) hf (by decide) (off := 1) (sz := 1) (by kernel_rfl) (by decide) rfl rfl (rl88.ob hp) rfl tk
    clear hf; intro a hf
    refine dr_takeK 1 (.int .u8 f1_Number) rfl hf rfl (fun w ⟨_, hp⟩ => ?_) ⟨_, hp⟩ ?_
    · exact st_ldO (u := .int .u8 f1_Number) hf (by decide) pl5 rfl rfl (rl88.ob hp) rfl tk
    clear hf; intro a hf
    refine dr_takeK 2 (or0) rfl hf rfl (fun w ⟨_, hp⟩ => ?_) ⟨_, hp⟩ ?_
    · exact st_move hf rfl rfl (by decide) tk
    clear hf; intro a hf
    refine dr_nilV 3 rfl (by kernel_rfl) (by kernel_rfl) (by kernel_rfl) hf (by decide) rfl rfl (rl87.ob hp) ?_
    clear hf; intro a hf
    refine dr_takeK 4 (optr or0 1) rfl hf rfl (fun w ⟨_, hp⟩ => ?_) ⟨_, hp⟩ ?_
    · exact st_fa (o' := 1) hf (by decide) (off := 1) (sz := 1) (by kernel_rfl) (by decide) rfl rfl (rl87.ob hp) rfl tk
    clear hf; intro a hf
    refine dr_takeK 5 (.int .i64 r0_next) rfl hf rfl (fun w ⟨_, hp⟩ => ?_) ⟨_, hp⟩ ?_
    · exact st_ldO (u := .int .i64 r0_next) hf (by decide) pl3 rfl rfl (rl87.ob hp) rfl tk
    clear hf; intro a hf
    refine dr_takeK 6 (.int .u8 (IntKind.u8.wrap r0_next)) rfl hf rfl (fun w ⟨_, hp⟩ => ?_) ⟨_, hp⟩ ?_
    · exact st_conv_ii hf (by decide) (by rw [Try.underlying3]; rfl) Try.underlying5 rfl rfl tk
    clear hf; intro a hf
    refine dr_takeK 7 (.int .u8 (IntKind.u8.wrap (f1_Number - (IntKind.u8.wrap r0_next)))) rfl hf rfl (fun w ⟨_, hp⟩ => ?_) ⟨_, hp⟩ ?_
    · exact st_isub hf (by decide) rfl rfl rfl tk
    clear hf; intro a hf
    refine dr_takeK 8 (.int .i64 (IntKind.i64.wrap (IntKind.u8.wrap (f1_Number - (IntKind.u8.wrap r0_next))))) rfl hf rfl (fun w ⟨_, hp⟩ => ?_) ⟨_, hp⟩ ?_
    · exact st_conv_ii hf (by decide) (by rw [Try.underlying5]; rfl) Try.underlying3 rfl rfl tk
    clear hf; intro a hf
    refine dr_takeK 9 (.int .i64 (IntKind.i64.wrap (IntKind.u8.wrap (f1_Number - (IntKind.u8.wrap r0_next))))) rfl hf rfl (fun w ⟨_, hp⟩ => ?_) ⟨_, hp⟩ ?_
    · exact st_assign hf rfl rfl (by decide) tk
    clear hf; intro a hf
    refine dr_end (by kernel_rfl) ?_ _
    have hp := bk86 _ _ hp
    have hp := bk81 _ _ hp
    exact ⟨hf.sub ⟨rfl, rfl, rfl, rfl, rfl, trivial⟩, hp⟩
   rintro a w ⟨hf, hp⟩
   refine th_n ?_
   refine wp_seq ?_
   refine wp_reg ?_
   refine st_move hf rfl rfl (by decide) ?_
   clear hf; intro a ha hf; clear ha
   refine st_move hf rfl rfl (by decide) ?_
   clear hf; intro a ha hf; clear ha
   refine st_nilV hf (by decide) rfl rfl (hp.ob (i := 1) rfl) ?_
   clear hf; intro a ha hf; clear ha
   refine st_fa (o' := 0) hf (by decide) (off := 0) (sz := 1) (by kernel_rfl) (by decide) rfl rfl (hp.ob (i := 1) rfl) rfl ?_
   clear hf; intro a ha hf; clear ha
   refine st_ldO (u := .int .i64 r0_window) hf (by decide) pl3 rfl rfl (hp.ob (i := 1) rfl) rfl ?_
   clear hf; intro a ha hf; clear ha
   refine st_ilss hf (by decide) rfl rfl rfl ?_
   clear hf; intro a ha hf; clear ha
   refine st_nil hf ?_
   refine th_n ?_
   refine wp_if hf rfl (fun hb => ?_) (fun hb => ?_)
   ·
    replace h := ifT h hb
    refine wp_seq ?_
    obtain ⟨S89, hp90, rd91, up92, bk93⟩ := Hp.lendO hp (i := 1) rfl
    have rl94 := rd91
    refine wp_cutN (fun a w => Fr 147 a [(0, or0), (3, optr v3 0), (4, .slice none 0 0), (5, optr v5 0), (7, .int .i64 (IntKind.i64.wrap (IntKind.u8.wrap (f1_Number - (IntKind.u8.wrap r0_next))))), (9, .bool ((mget r0_kept (IntKind.i64.wrap (r0_next + (IntKind.i64.wrap (IntKind.u8.wrap (f1_Number - (IntKind.u8.wrap r0_next))))))).isSome))] ∧ Hp S w0 w (Res.obj 74 or0 [.int .i64 r0_window, .int .i64 r0_next, vr0_kept] :: Res.obj 31 v3 [.int .u8 f1_Kind, .int .u8 f1_Number, .bool f1_More, .string f1_Body] :: Res.obj 31 v5 [.int .u8 (0 : Int), .int .u8 (0 : Int), .bool false, .string ByteArray.empty] :: Res.map (fun x : ByteArray => Value.string x) vr0_kept r0_kept :: ow)) ?_ ?_
    ·
     have hp := hp90.same (Same.drew w)
     refine dr_begin' _ (fun w' => ∃ l, Hp S89 w w' l) [] (by kernel_rfl) ?_
     refine dr_takeK 0 (or0) rfl hf rfl (fun w ⟨_, hp⟩ => ?_) ⟨_, hp⟩ ?_
     · exact st_move hf rfl rfl (by decide) tk
     clear hf; intro a hf
     refine dr_nilV 1 rfl (by kernel_rfl) (by kernel_rfl) (by kernel_rfl) hf (by decide) rfl rfl (rl94.ob hp) ?_
     clear hf; intro a hf
     refine dr_takeK 2 (optr or0 2) rfl hf rfl (fun w ⟨_, hp⟩ => ?_) ⟨_, hp⟩ ?_
     · exact st_fa (o' := 2) hf (by decide) (off := 2) (sz := 1) (by kernel_rfl) (by decide) rfl rfl (rl94.ob hp) rfl tk
     clear hf; intro a hf
     refine dr_takeK 3 (vr0_kept) rfl hf rfl (fun w ⟨_, hp⟩ => ?_) ⟨_, hp⟩ ?_
     · exact st_ldO (u := vr0_kept) hf (by decide) pl72 rfl rfl (rl94.ob hp) rfl tk
     clear hf; intro a hf
     refine dr_takeK 4 (or0) rfl hf rfl (fun w ⟨_, hp⟩ => ?_) ⟨_, hp⟩ ?_
     · exact st_move hf rfl rfl (by decide) tk
     clear hf; intro a hf
     refine dr_nilV 5 rfl (by kernel_rfl) (by kernel_rfl) (by kernel_rfl) hf (by decide) rfl rfl (rl94.ob hp) ?_
     clear hf; intro a hf
     refine dr_takeK 6 (optr or0 1) rfl hf rfl (fun w ⟨_, hp⟩ => ?_) ⟨_, hp⟩ ?_
     · exact st_fa (o' := 1) hf (by decide) (off := 1) (sz := 1) (by kernel_rfl) (by decide) rfl rfl (rl94.ob hp) rfl tk
     clear hf; intro a hf
     refine dr_takeK 7 (.int .i64 r0_next) rfl hf rfl (fun w ⟨_, hp⟩ => ?_) ⟨_, hp⟩ ?_
     · exact st_ldO (u := .int .i64 r0_next) hf (by decide) pl3 rfl rfl (rl94.ob hp) rfl tk
     clear hf; intro a hf
     refine dr_takeK 8 (.int .i64 (IntKind.i64.wrap (IntKind.u8.wrap (f1_Number - (IntKind.u8.wrap r0_next))))) rfl hf rfl (fun w ⟨_, hp⟩ => ?_) ⟨_, hp⟩ ?_
     · exact st_move hf rfl rfl (by decide) tk
     clear hf; intro a hf
     refine dr_takeK 9 (.int .i64 (IntKind.i64.wrap (r0_next + (IntKind.i64.wrap (IntKind.u8.wrap (f1_Number - (IntKind.u8.wrap r0_next))))))) rfl hf rfl (fun w ⟨_, hp⟩ => ?_) ⟨_, hp⟩ ?_
     · exact st_iadd hf (by decide) rfl rfl rfl tk
     clear hf; intro a hf
     refine dr_one 10 rfl (by kernel_rfl) ?_
     refine st_lookup (enc := (fun x : ByteArray => Value.string x)) (z0 := ByteArray.empty) (ok := true) hf (by decide) Try.underlying72 Try.underlying3 (by kernel_rfl) hp (i := 2) rfl rfl rfl rfl ?_
     clear hf; intro a ha hf; clear ha
     replace hf : Fr _ _ ((59, .tuple #[.string ((mget r0_kept (IntKind.i64.wrap (r0_next + (IntKind.i64.wrap (IntKind.u8.wrap (f1_Number - (IntKind.u8.wrap r0_next))))))).getD ByteArray.empty), .bool ((mget r0_kept (IntKind.i64.wrap (r0_next + (IntKind.i64.wrap (IntKind.u8.wrap (f1_Number - (IntKind.u8.wrap r0_next))))))).isSome)]) :: _) := hf
     refine nx hf (fun _ _ => ⟨_, hp⟩) ?_
     refine dr_takeK 11 (.tuple #[.string ((mget r0_kept (IntKind.i64.wrap (r0_next + (IntKind.i64.wrap (IntKind.u8.wrap (f1_Number - (IntKind.u8.wrap r0_next))))))).getD ByteArray.empty), .bool ((mget r0_kept (IntKind.i64.wrap (r0_next + (IntKind.i64.wrap (IntKind.u8.wrap (f1_Number - (IntKind.u8.wrap r0_next))))))).isSome)]) rfl hf rfl (fun w ⟨_, hp⟩ => ?_) ⟨_, hp⟩ ?_
     · exact st_move hf rfl rfl (by decide) tk
     clear hf; intro a hf
     refine dr_takeK 12 (.string ((mget r0_kept (IntKind.i64.wrap (r0_next + (IntKind.i64.wrap (IntKind.u8.wrap (f1_Number - (IntKind.u8.wrap r0_next))))))).getD ByteArray.empty)) rfl hf rfl (fun w ⟨_, hp⟩ => ?_) ⟨_, hp⟩ ?_
     · exact st_extract hf (by decide) rfl rfl rfl tk
     clear hf; intro a hf
     refine dr_takeK 13 (.bool ((mget r0_kept (IntKind.i64.wrap (r0_next + (IntKind.i64.wrap (IntKind.u8.wrap (f1_Number - (IntKind.u8.wrap r0_next))))))).isSome)) rfl hf rfl (fun w ⟨_, hp⟩ => ?_) ⟨_, hp⟩ ?_
     · exact st_extract hf (by decide) rfl rfl rfl tk
     clear hf; intro a hf
     refine dr_takeK 14 (.string ((mget r0_kept (IntKind.i64.wrap (r0_next + (IntKind.i64.wrap (IntKind.u8.wrap (f1_Number - (IntKind.u8.wrap r0_next))))))).getD ByteArray.empty)) rfl hf rfl (fun w ⟨_, hp⟩ => ?_) ⟨_, hp⟩ ?_
     · exact st_assign hf rfl rfl (by decide) tk
     clear hf; intro a hf
     refine dr_takeK 15 (.bool ((mget r0_kept (IntKind.i64.wrap (r0_next + (IntKind.i64.wrap (IntKind.u8.wrap (f1_Number - (IntKind.u8.wrap r0_next))))))).isSome)) rfl hf rfl (fun w ⟨_, hp⟩ => ?_) ⟨_, hp⟩ ?_
     · exact st_assign hf rfl rfl (by decide) tk
     clear hf; intro a hf
     refine dr_end (by kernel_rfl) ?_ _
     have hp := bk93 _ _ hp
     exact ⟨hf.sub ⟨rfl, rfl, rfl, rfl, rfl, rfl, trivial⟩, hp⟩
    rintro a w ⟨hf, hp⟩
    refine th_n ?_
    refine wp_seq ?_
    refine wp_reg ?_
    refine st_move hf rfl rfl (by decide) ?_
    clear hf; intro a ha hf; clear ha
    refine st_not hf (by decide) rfl rfl ?_
    clear hf; intro a ha hf; clear ha
    refine st_nil hf ?_
    refine th_n ?_
    refine wp_if hf rfl (fun hb => ?_) (fun hb => ?_)
    ·
     replace h := ifT h hb
     obtain ⟨S95, hp96, rd97, up98, bk99⟩ := Hp.lendO hp (i := 0) rfl
     obtain ⟨S100, hp101, rd102, up103, bk104⟩ := Hp.lendO hp96 (i := 0) rfl
     have rl105 := ((rd97.now hp96).mono up103)
     have rl106 := rd102
     refine wp_cutN (fun a w => Fr 147 a [(0, or0), (4, .slice none 0 0), (5, optr v5 0)] ∧ Hp S w0 w (Res.obj 74 or0 [.int .i64 r0_window, .int .i64 r0_next, vr0_kept] :: Res.obj 31 v3 [.int .u8 f1_Kind, .int .u8 f1_Number, .bool f1_More, .string f1_Body] :: Res.obj 31 v5 [.int .u8 (0 : Int), .int .u8 (0 : Int), .bool false, .string ByteArray.empty] :: Res.map (fun x : ByteArray => Value.string x) vr0_kept (mput r0_kept (IntKind.i64.wrap (r0_next + (IntKind.i64.wrap (IntKind.u8.wrap (f1_Number - (IntKind.u8.wrap r0_next)))))) f1_Body) :: ow)) ?_ ?_
     ·
      have hp := hp101.same (Same.drew w)
      refine dr_begin' _ (fun w' => ∃ l, Hp S100 w w' l) [] (by kernel_rfl) ?_
      refine dr_takeK 0 (or0) rfl hf rfl (fun w ⟨_, hp⟩ => ?_) ⟨_, hp⟩ ?_
      · exact st_move hf rfl rfl (by decide) tk
      clear hf; intro a hf
      refine dr_nilV 1 rfl (by kernel_rfl) (by kernel_rfl) (by kernel_rfl) hf (by decide) rfl rfl (rl105.ob hp) ?_
      clear hf; intro a hf
      refine dr_takeK 2 (optr or0 2) rfl hf rfl (fun w ⟨_, hp⟩ => ?_) ⟨_, hp⟩ ?_
      · exact st_fa (o' := 2) hf (by decide) (off := 2) (sz := 1) (by kernel_rfl) (by decide) rfl rfl (rl105.ob hp) rfl tk
      clear hf; intro a hf
      refine dr_takeK 3 (vr0_kept) rfl hf rfl (fun w ⟨_, hp⟩ => ?_) ⟨_, hp⟩ ?_
      · exact st_ldO (u := vr0_kept) hf (by decide) pl72 rfl rfl (rl105.ob hp) rfl tk
      clear hf; intro a hf
      refine dr_takeK 4 (or0) rfl hf rfl (fun w ⟨_, hp⟩ => ?_) ⟨_, hp⟩ ?_
      · exact st_move hf rfl rfl (by decide) tk
      clear hf; intro a hf
      refine dr_nilV 5 rfl (by kernel_rfl) (by kernel_rfl) (by kernel_rfl) hf (by decide) rfl rfl (rl105.ob hp) ?_
      clear hf; intro a hf
      refine dr_takeK 6 (optr or0 1) rfl hf rfl (fun w ⟨_, hp⟩ => ?_) ⟨_, hp⟩ ?_
      · exact st_fa (o' := 1) hf (by decide) (off := 1) (sz := 1) (by kernel_rfl) (by decide) rfl rfl (rl105.ob hp) rfl tk
      clear hf; intro a hf
      refine dr_takeK 7 (.int .i64 r0_next) rfl hf rfl (fun w ⟨_, hp⟩ => ?_) ⟨_, hp⟩ ?_
      · exact st_ldO (u := .int .i64 r0_next) hf (by decide) pl3 rfl rfl (rl105.ob hp) rfl tk
      clear hf; intro a hf
      refine dr_takeK 8 (.int .i64 (IntKind.i64.wrap (IntKind.u8.wrap (f1_Number - (IntKind.u8.wrap r0_next))))) rfl hf rfl (fun w ⟨_, hp⟩ => ?_) ⟨_, hp⟩ ?_
      · exact st_move hf rfl rfl (by decide) tk
      clear hf; intro a hf
      refine dr_takeK 9 (.int .i64 (IntKind.i64.wrap (r0_next + (IntKind.i64.wrap (IntKind.u8.wrap (f1_Number - (IntKind.u8.wrap r0_next))))))) rfl hf rfl (fun w ⟨_, hp⟩ => ?_) ⟨_, hp⟩ ?_
      · exact st_iadd hf (by decide) rfl rfl rfl tk
      clear hf; intro a hf
      refine dr_takeK 10 (optr v3 3) rfl hf rfl (fun w ⟨_, hp⟩ => ?_) ⟨_, hp⟩ ?_
      · exact st_fa (o' := 3) hf (by decide) (off := 3) (sz := 1) (by kernel_rfl) (by decide) rfl rfl (rl106.ob hp) rfl tk
      clear hf; intro a hf
      refine dr_takeK 11 (.string f1_Body) rfl hf rfl (fun w ⟨_, hp⟩ => ?_) ⟨_, hp⟩ ?_
      · exact st_ldO (u := .string f1_Body) hf (by decide) pl9 rfl rfl (rl106.ob hp) rfl tk
      clear hf; intro a hf
      refine dr_one 12 rfl (by kernel_rfl) ?_
      refine st_mapPut (enc := (fun x : ByteArray => Value.string x)) (b := f1_Body) hf Try.underlying72 Try.underlying3 hp (i := 1) rfl rfl rfl rfl rfl ?_
      clear hf; intro a w hf hp0; clear hp; have hp := hp0; clear hp0
      replace hp : Hp _ _ _ (_ :: Res.map (fun x : ByteArray => Value.string x) vr0_kept (mput r0_kept (IntKind.i64.wrap (r0_next + (IntKind.i64.wrap (IntKind.u8.wrap (f1_Number - (IntKind.u8.wrap r0_next)))))) f1_Body) :: ow) := hp
      refine nx hf (fun _ _ => ⟨_, hp⟩) ?_
      refine dr_end (by kernel_rfl) ?_ _
      have hp := bk104 _ _ hp
      have hp := bk99 _ _ hp
      exact ⟨hf.sub ⟨rfl, rfl, rfl, trivial⟩, hp⟩
     rintro a w ⟨hf, hp⟩
     have hp : Hp _ _ _ (_ :: Res.obj 74 or0 [.int .i64 r0_window, .int .i64 r0_next, vr0_kept] :: _ :: ow) := Hp.sel (pre := [Res.obj 74 or0 [.int .i64 r0_window, .int .i64 r0_next, vr0_kept], Res.obj 31 v3 [.int .u8 f1_Kind, .int .u8 f1_Number, .bool f1_More, .string f1_Body], Res.obj 31 v5 [.int .u8 (0 : Int), .int .u8 (0 : Int), .bool false, .string ByteArray.empty], Res.map (fun x : ByteArray => Value.string x) vr0_kept (mput r0_kept (IntKind.i64.wrap (r0_next + (IntKind.i64.wrap (IntKind.u8.wrap (f1_Number - (IntKind.u8.wrap r0_next)))))) f1_Body)]) (tail := ow) (rs' := [Res.map (fun x : ByteArray => Value.string x) vr0_kept (mput r0_kept (IntKind.i64.wrap (r0_next + (IntKind.i64.wrap (IntKind.u8.wrap (f1_Number - (IntKind.u8.wrap r0_next)))))) f1_Body), Res.obj 74 or0 [.int .i64 r0_window, .int .i64 r0_next, vr0_kept], Res.obj 31 v5 [.int .u8 (0 : Int), .int .u8 (0 : Int), .bool false, .string ByteArray.empty]]) hp [3, 0, 2] (by decide) (by simp) rfl
     refine th_n ?_
     exact ⟨_, _, _, _, h, hf.sub ⟨rfl, rfl, rfl, trivial⟩, hp⟩
    replace h := ifF h hb
    refine wp_skip ?_
    have hp : Hp _ _ _ (Res.map (fun x : ByteArray => Value.string x) vr0_kept r0_kept :: _ :: _ :: ow) := Hp.sel (pre := [Res.obj 74 or0 [.int .i64 r0_window, .int .i64 r0_next, vr0_kept], Res.obj 31 v3 [.int .u8 f1_Kind, .int .u8 f1_Number, .bool f1_More, .string f1_Body], Res.obj 31 v5 [.int .u8 (0 : Int), .int .u8 (0 : Int), .bool false, .string ByteArray.empty], Res.map (fun x : ByteArray => Value.string x) vr0_kept r0_kept]) (tail := ow) (rs' := [Res.map (fun x : ByteArray => Value.string x) vr0_kept r0_kept, Res.obj 74 or0 [.int .i64 r0_window, .int .i64 r0_next, vr0_kept], Res.obj 31 v5 [.int .u8 (0 : Int), .int .u8 (0 : Int), .bool false, .string ByteArray.empty]]) hp [3, 0, 2] (by decide) (by simp) rfl
    refine th_n ?_
    exact ⟨_, _, _, _, h, hf.sub ⟨rfl, rfl, rfl, trivial⟩, hp⟩
   replace h := ifF h hb
   refine wp_skip ?_
   have hp : Hp _ _ _ (_ :: _ :: _ :: ow) := Hp.sel (pre := [Res.obj 31 v3 [.int .u8 f1_Kind, .int .u8 f1_Number, .bool f1_More, .string f1_Body], Res.obj 74 or0 [.int .i64 r0_window, .int .i64 r0_next, vr0_kept], Res.obj 31 v5 [.int .u8 (0 : Int), .int .u8 (0 : Int), .bool false, .string ByteArray.empty], Res.map (fun x : ByteArray => Value.string x) vr0_kept r0_kept]) (tail := ow) (rs' := [Res.map (fun x : ByteArray => Value.string x) vr0_kept r0_kept, Res.obj 74 or0 [.int .i64 r0_window, .int .i64 r0_next, vr0_kept], Res.obj 31 v5 [.int .u8 (0 : Int), .int .u8 (0 : Int), .bool false, .string ByteArray.empty]]) hp [3, 1, 2] (by decide) (by simp) rfl
   refine th_n ?_
   exact ⟨_, _, _, _, h, hf.sub ⟨rfl, rfl, rfl, trivial⟩, hp⟩
  rintro a w ⟨r0c_0, r0c_1, r0c_2, v12, h, hf, hp⟩
  unfold f_again_Receiver_Take.j1 at h
  refine wp_seq ?_
  refine wp_block ?_
  obtain ⟨q41, hl, h⟩ := bnd h
  have hp := hp.nil Ek.str 9
  have hp : Hp _ _ _ (Res.map (fun x : ByteArray => Value.string x) v12 r0c_2 :: Res.obj 74 or0 [.int .i64 r0c_0, .int .i64 r0c_1, v12] :: Res.sl Ek.str 9 (.slice none 0 0) ([]) :: _ :: ow) := Hp.sel (pre := [Res.sl Ek.str 9 (.slice none 0 0) ([]), Res.map (fun x : ByteArray => Value.string x) v12 r0c_2, Res.obj 74 or0 [.int .i64 r0c_0, .int .i64 r0c_1, v12], Res.obj 31 v5 [.int .u8 (0 : Int), .int .u8 (0 : Int), .bool false, .string ByteArray.empty]]) (tail := ow) (rs' := [Res.map (fun x : ByteArray => Value.string x) v12 r0c_2, Res.obj 74 or0 [.int .i64 r0c_0, .int .i64 r0c_1, v12], Res.sl Ek.str 9 (.slice none 0 0) ([]), Res.obj 31 v5 [.int .u8 (0 : Int), .int .u8 (0 : Int), .bool false, .string ByteArray.empty]]) hp [1, 2, 0, 3] (by decide) (by simp) rfl
  refine wp_loop_pure (f := f_again_Receiver_Take.s1) (s := (r0c_0, r0c_1, r0c_2, [])) (fun s a w => ∃ (v15 : Value) (v18 : Value), Fr 147 a [(0, or0), (4, v18), (5, optr v5 0)] ∧ Hp S w0 w (Res.map (fun x : ByteArray => Value.string x) v15 s.2.2.1 :: Res.obj 74 or0 [.int .i64 s.1, .int .i64 s.2.1, v15] :: Res.sl Ek.str 9 v18 s.2.2.2 :: Res.obj 31 v5 [.int .u8 (0 : Int), .int .u8 (0 : Int), .bool false, .string ByteArray.empty] :: ow)) (fun q e a w => e = .exit 0 ∧ ∃ (v20 : Value) (v23 : Value), Fr 147 a [(0, or0), (4, v23), (5, optr v5 0)] ∧ Hp S w0 w (Res.map (fun x : ByteArray => Value.string x) v20 q.2.2.1 :: Res.obj 74 or0 [.int .i64 q.1, .int .i64 q.2.1, v20] :: Res.sl Ek.str 9 v23 q.2.2.2 :: Res.obj 31 v5 [.int .u8 (0 : Int), .int .u8 (0 : Int), .bool false, .string ByteArray.empty] :: ow)) ?_ hl ⟨_, _, hf.sub ⟨rfl, rfl, rfl, trivial⟩, hp⟩ ?_
  ·
   clear hl hf hp
   intro s x a w h hI
   obtain ⟨r0c_0, r0c_1, r0c_2, handed4⟩ := s
   obtain ⟨v15, v18, hf, hp⟩ : ∃ (v15 : Value) (v18 : Value), Fr 147 a [(0, or0), (4, v18), (5, optr v5 0)] ∧ Hp S w0 w (Res.map (fun x : ByteArray => Value.string x) v15 r0c_2 :: Res.obj 74 or0 [.int .i64 r0c_0, .int .i64 r0c_1, v15] :: Res.sl Ek.str 9 v18 handed4 :: Res.obj 31 v5 [.int .u8 (0 : Int), .int .u8 (0 : Int), .bool false, .string ByteArray.empty] :: ow) := hI
   replace h : f_again_Receiver_Take.s1c r0c_0 r0c_1 r0c_2 handed4 = some x := h
   unfold f_again_Receiver_Take.s1c at h
   refine wp_block ?_
   refine wp_seq ?_
   obtain ⟨S25, hp26, rd27, up28, bk29⟩ := Hp.lendO hp (i := 1) rfl
   have rl30 := rd27
   refine wp_cutN (fun a w => Fr 147 a [(0, or0), (4, v18), (5, optr v5 0), (10, .string ((mget r0c_2 r0c_1).getD ByteArray.empty)), (11, .bool ((mget r0c_2 r0c_1).isSome))] ∧ Hp S w0 w (Res.obj 74 or0 [.int .i64 r0c_0, .int .i64 r0c_1, v15] :: Res.map (fun x : ByteArray => Value.string x) v15 r0c_2 :: Res.sl Ek.str 9 v18 handed4 :: Res.obj 31 v5 [.int .u8 (0 : Int), .int .u8 (0 : Int), .bool false, .string ByteArray.empty] :: ow)) ?_ ?_
   ·
    have hp := hp26.same (Same.drew w)
    refine dr_begin' _ (fun w' => ∃ l, Hp S25 w w' l) [] (by kernel_rfl) ?_
    refine dr_takeK 0 (or0) rfl hf rfl (fun w ⟨_, hp⟩ => ?_) ⟨_, hp⟩ ?_
    · exact st_move hf rfl rfl (by decide) tk
    clear hf; intro a hf
    refine dr_nilV 1 rfl (by kernel_rfl) (by kernel_rfl) (by kernel_rfl) hf (by decide) rfl rfl (rl30.ob hp) ?_
    clear hf; intro a hf
    refine dr_takeK 2 (optr or0 2) rfl hf rfl (fun w ⟨_, hp⟩ => ?_) ⟨_, hp⟩ ?_
    · exact st_fa (o' := 2) hf (by decide) (off := 2) (sz := 1) (by kernel_rfl) (by decide) rfl rfl (rl30.ob hp) rfl tk
    clear hf; intro a hf
    refine dr_takeK 3 (v15) rfl hf rfl (fun w ⟨_, hp⟩ => ?_) ⟨_, hp⟩ ?_
    · exact st_ldO (u := v15) hf (by decide) pl72 rfl rfl (rl30.ob hp) rfl tk
    clear hf; intro a hf
    refine dr_takeK 4 (or0) rfl hf rfl (fun w ⟨_, hp⟩ => ?_) ⟨_, hp⟩ ?_
    · exact st_move hf rfl rfl (by decide) tk
    clear hf; intro a hf
    refine dr_nilV 5 rfl (by kernel_rfl) (by kernel_rfl) (by kernel_rfl) hf (by decide) rfl rfl (rl30.ob hp) ?_
    clear hf; intro a hf
    refine dr_takeK 6 (optr or0 1) rfl hf rfl (fun w ⟨_, hp⟩ => ?_) ⟨_, hp⟩ ?_
    · exact st_fa (o' := 1) hf (by decide) (off := 1) (sz := 1) (by kernel_rfl) (by decide) rfl rfl (rl30.ob hp) rfl tk
    clear hf; intro a hf
    refine dr_takeK 7 (.int .i64 r0c_1) rfl hf rfl (fun w ⟨_, hp⟩ => ?_) ⟨_, hp⟩ ?_
    · exact st_ldO (u := .int .i64 r0c_1) hf (by decide) pl3 rfl rfl (rl30.ob hp) rfl tk
    clear hf; intro a hf
    refine dr_one 8 rfl (by kernel_rfl) ?_
    refine st_lookup (enc := (fun x : ByteArray => Value.string x)) (z0 := ByteArray.empty) (ok := true) hf (by decide) Try.underlying72 Try.underlying3 (by kernel_rfl) hp (i := 0) rfl rfl rfl rfl ?_
    clear hf; intro a ha hf; clear ha
    replace hf : Fr _ _ ((85, .tuple #[.string ((mget r0c_2 r0c_1).getD ByteArray.empty), .bool ((mget r0c_2 r0c_1).isSome)]) :: _) := hf
    refine nx hf (fun _ _ => ⟨_, hp⟩) ?_
    refine dr_takeK 9 (.tuple #[.string ((mget r0c_2 r0c_1).getD ByteArray.empty), .bool ((mget r0c_2 r0c_1).isSome)]) rfl hf rfl (fun w ⟨_, hp⟩ => ?_) ⟨_, hp⟩ ?_
    · exact st_move hf rfl rfl (by decide) tk
    clear hf; intro a hf
    refine dr_takeK 10 (.string ((mget r0c_2 r0c_1).getD ByteArray.empty)) rfl hf rfl (fun w ⟨_, hp⟩ => ?_) ⟨_, hp⟩ ?_
    · exact st_extract hf (by decide) rfl rfl rfl tk
    clear hf; intro a hf
    refine dr_takeK 11 (.bool ((mget r0c_2 r0c_1).isSome)) rfl hf rfl (fun w ⟨_, hp⟩ => ?_) ⟨_, hp⟩ ?_
    · exact st_extract hf (by decide) rfl rfl rfl tk
    clear hf; intro a hf
    refine dr_takeK 12 (.string ((mget r0c_2 r0c_1).getD ByteArray.empty)) rfl hf rfl (fun w ⟨_, hp⟩ => ?_) ⟨_, hp⟩ ?_
    · exact st_assign hf rfl rfl (by decide) tk
    clear hf; intro a hf
    refine dr_takeK 13 (.bool ((mget r0c_2 r0c_1).isSome)) rfl hf rfl (fun w ⟨_, hp⟩ => ?_) ⟨_, hp⟩ ?_
    · exact st_assign hf rfl rfl (by decide) tk
    clear hf; intro a hf
    refine dr_end (by kernel_rfl) ?_ _
    have hp := bk29 _ _ hp
    exact ⟨hf.sub ⟨rfl, rfl, rfl, rfl, rfl, trivial⟩, hp⟩
   rintro a w ⟨hf, hp⟩
   refine th_n ?_
   refine wp_seq ?_
   refine wp_seq ?_
   refine wp_reg ?_
   refine st_move hf rfl rfl (by decide) ?_
   clear hf; intro a ha hf; clear ha
   refine st_not hf (by decide) rfl rfl ?_
   clear hf; intro a ha hf; clear ha
   refine st_nil hf ?_
   refine th_n ?_
   refine wp_if hf rfl (fun hb => ?_) (fun hb => ?_)
   ·
    replace h := ifT h hb
    refine wp_exit ?_
    refine th_e ?_
    refine ib_ne rfl ?_
    obtain rfl := Option.some.inj h
    have hp : Hp _ _ _ (Res.map (fun x : ByteArray => Value.string x) v15 r0c_2 :: Res.obj 74 or0 [.int .i64 r0c_0, .int .i64 r0c_1, v15] :: Res.sl Ek.str 9 v18 handed4 :: _ :: ow) := Hp.sel (pre := [Res.obj 74 or0 [.int .i64 r0c_0, .int .i64 r0c_1, v15], Res.map (fun x : ByteArray => Value.string x) v15 r0c_2, Res.sl Ek.str 9 v18 handed4, Res.obj 31 v5 [.int .u8 (0 : Int), .int .u8 (0 : Int), .bool false, .string ByteArray.empty]]) (tail := ow) (rs' := [Res.map (fun x : ByteArray => Value.string x) v15 r0c_2, Res.obj 74 or0 [.int .i64 r0c_0, .int .i64 r0c_1, v15], Res.sl Ek.str 9 v18 handed4, Res.obj 31 v5 [.int .u8 (0 : Int), .int .u8 (0 : Int), .bool false, .string ByteArray.empty]]) hp [1, 0, 2, 3] (by decide) (by simp) rfl
    exact rnd_r (by simp) ⟨rfl, _, _, hf.sub ⟨rfl, rfl, rfl, trivial⟩, hp⟩
   replace h := ifF h hb
   refine wp_skip ?_
   refine th_n ?_
   refine wp_seq ?_
   obtain ⟨S31, hp32, rd33, up34, bk35⟩ := Hp.lendO hp (i := 0) rfl
   have rl36 := rd33
   refine wp_cutN (fun a w => Fr 147 a [(0, or0), (4, v18), (5, optr v5 0), (10, .string ((mget r0c_2 r0c_1).getD ByteArray.empty))] ∧ Hp S w0 w (Res.obj 74 or0 [.int .i64 r0c_0, .int .i64 r0c_1, v15] :: Res.map (fun x : ByteArray => Value.string x) v15 (mdel r0c_2 r0c_1) :: Res.sl Ek.str 9 v18 handed4 :: Res.obj 31 v5 [.int .u8 (0 : Int), .int .u8 (0 : Int), .bool false, .string ByteArray.empty] :: ow)) ?_ ?_
   ·
    have hp := hp32.same (Same.drew w)
    refine dr_begin' _ (fun w' => ∃ l, Hp S31 w w' l) [] (by kernel_rfl) ?_
    refine dr_takeK 0 (or0) rfl hf rfl (fun w ⟨_, hp⟩ => ?_) ⟨_, hp⟩ ?_
    · exact st_move hf rfl rfl (by decide) tk
    clear hf; intro a hf
    refine dr_nilV 1 rfl (by kernel_rfl) (by kernel_rfl) (by kernel_rfl) hf (by decide) rfl rfl (rl36.ob hp) ?_
    clear hf; intro a hf
    refine dr_takeK 2 (optr or0 2) rfl hf rfl (fun w ⟨_, hp⟩ => ?_) ⟨_, hp⟩ ?_
    · exact st_fa (o' := 2) hf (by decide) (off := 2) (sz := 1) (by kernel_rfl) (by decide) rfl rfl (rl36.ob hp) rfl tk
    clear hf; intro a hf
    refine dr_takeK 3 (v15) rfl hf rfl (fun w ⟨_, hp⟩ => ?_) ⟨_, hp⟩ ?_
    · exact st_ldO (u := v15) hf (by decide) pl72 rfl rfl (rl36.ob hp) rfl tk
    clear hf; intro a hf
    refine dr_takeK 4 (or0) rfl hf rfl (fun w ⟨_, hp⟩ => ?_) ⟨_, hp⟩ ?_
    · exact st_move hf rfl rfl (by decide) tk
    clear hf; intro a hf
    refine dr_nilV 5 rfl (by kernel_rfl) (by kernel_rfl) (by kernel_rfl) hf (by decide) rfl rfl (rl36.ob hp) ?_
    clear hf; intro a hf
    refine dr_takeK 6 (optr or0 1) rfl hf rfl (fun w ⟨_, hp⟩ => ?_) ⟨_, hp⟩ ?_
    · exact st_fa (o' := 1) hf (by decide) (off := 1) (sz := 1) (by kernel_rfl) (by decide) rfl rfl (rl36.ob hp) rfl tk
    clear hf; intro a hf
    refine dr_takeK 7 (.int .i64 r0c_1) rfl hf rfl (fun w ⟨_, hp⟩ => ?_) ⟨_, hp⟩ ?_
    · exact st_ldO (u := .int .i64 r0c_1) hf (by decide) pl3 rfl rfl (rl36.ob hp) rfl tk
    clear hf; intro a hf
    refine dr_one 8 rfl (by kernel_rfl) ?_
    refine st_mapDel (enc := (fun x : ByteArray => Value.string x)) hf Try.underlying72 Try.underlying3 hp (i := 0) rfl rfl rfl rfl ?_
    clear hf; intro a w hf hp0; clear hp; have hp := hp0; clear hp0
    replace hp : Hp _ _ _ (Res.map (fun x : ByteArray => Value.string x) v15 (mdel r0c_2 r0c_1) :: _ :: _ :: ow) := hp
    refine nx hf (fun _ _ => ⟨_, hp⟩) ?_
    refine dr_end (by kernel_rfl) ?_ _
    have hp := bk35 _ _ hp
    exact ⟨hf.sub ⟨rfl, rfl, rfl, rfl, trivial⟩, hp⟩
   rintro a w ⟨hf, hp⟩
   refine th_n ?_
   refine wp_seq ?_
   refine wp_reg ?_
   refine st_move hf rfl rfl (by decide) ?_
   clear hf; intro a ha hf; clear ha
   refine st_move hf rfl rfl (by decide) ?_
   clear hf; intro a ha hf; clear ha
   refine st_build (E := Ek.str) (xs := [((mget r0c_2 r0c_1).getD ByteArray.empty)]) hf (by decide) elt9 Try.underlying35 hp (vals := #[(0, .string ((mget r0c_2 r0c_1).getD ByteArray.empty))]) (cells := #[.string ((mget r0c_2 r0c_1).getD ByteArray.empty)]) rfl (by simp [hf.ev (x := (Operand.tmp 99)) rfl]) (by decide) (by decide) (z := .string ByteArray.empty) (by kernel_rfl) (by kernel_rfl) rfl (reps_cons (cs := [.string ((mget r0c_2 r0c_1).getD ByteArray.empty)]) rfl (reps_nil _)) ?_
   clear hf; intro a w v37 hf hp0; clear hp; have hp := hp0; clear hp0
   replace hp : Hp _ _ _ (Res.sl Ek.str 9 v37 ([((mget r0c_2 r0c_1).getD ByteArray.empty)]) :: Res.obj 74 or0 [.int .i64 r0c_0, .int .i64 r0c_1, v15] :: _ :: _ :: _ :: ow) := hp
   obtain ⟨hc39, h⟩ := chk h
   refine st_append (E := Ek.str) hf (by decide) elt9 Try.underlying35 (by decide) hp (i := 3) rfl rfl rfl rfl (hp.sl (i := 0) rfl) hc39 ?_
   clear hf; intro a w v40 hf hp0; clear hp; have hp := hp0; clear hp0
   replace hp : Hp _ _ _ (_ :: _ :: _ :: Res.sl Ek.str 9 v40 (handed4 ++ [((mget r0c_2 r0c_1).getD ByteArray.empty)]) :: _ :: ow) := hp
   refine st_assign hf rfl rfl (by decide) ?_
   clear hf; intro a ha hf; clear ha
   refine st_nil hf ?_
   refine th_n ?_
   refine wp_reg ?_
   refine st_move hf rfl rfl (by decide) ?_
   clear hf; intro a ha hf; clear ha
   refine st_nilV hf (by decide) rfl rfl (hp.ob (i := 1) rfl) ?_
   clear hf; intro a ha hf; clear ha
   refine st_fa (o' := 1) hf (by decide) (off := 1) (sz := 1) (by kernel_rfl) (by decide) rfl rfl (hp.ob (i := 1) rfl) rfl ?_
   clear hf; intro a ha hf; clear ha
   refine st_ldO (u := .int .i64 r0c_1) hf (by decide) pl3 rfl rfl (hp.ob (i := 1) rfl) rfl ?_
   clear hf; intro a ha hf; clear ha
   refine st_iadd hf (by decide) rfl rfl rfl ?_
   clear hf; intro a ha hf; clear ha
   refine st_nilV hf (by decide) rfl rfl (hp.ob (i := 1) rfl) ?_
   clear hf; intro a ha hf; clear ha
   refine st_fa (o' := 1) hf (by decide) (off := 1) (sz := 1) (by kernel_rfl) (by decide) rfl rfl (hp.ob (i := 1) rfl) rfl ?_
   clear hf; intro a ha hf; clear ha
   refine st_stO (us := [.int .i64 (IntKind.i64.wrap (r0c_1 + (1 : Int)))]) hf hp (i := 1) rfl rfl rfl rfl rfl (by rfl) (by kernel_rfl) (Nat.le_of_ble_eq_true rfl) ?_
   clear hf; intro a w hf hp0; clear hp; have hp := hp0; clear hp0
   replace hp : Hp _ _ _ (_ :: Res.obj 74 or0 [.int .i64 r0c_0, .int .i64 (IntKind.i64.wrap (r0c_1 + (1 : Int))), v15] :: _ :: _ :: _ :: ow) := hp
   refine st_nil hf ?_
   refine ib_n ?_
   obtain rfl := Option.some.inj h
   have hp : Hp _ _ _ (_ :: _ :: _ :: _ :: ow) := Hp.sel (pre := [Res.sl Ek.str 9 v37 ([((mget r0c_2 r0c_1).getD ByteArray.empty)]), Res.obj 74 or0 [.int .i64 r0c_0, .int .i64 (IntKind.i64.wrap (r0c_1 + (1 : Int))), v15], Res.map (fun x : ByteArray => Value.string x) v15 (mdel r0c_2 r0c_1), Res.sl Ek.str 9 v40 (handed4 ++ [((mget r0c_2 r0c_1).getD ByteArray.empty)]), Res.obj 31 v5 [.int .u8 (0 : Int), .int .u8 (0 : Int), .bool false, .string ByteArray.empty]]) (tail := ow) (rs' := [Res.map (fun x : ByteArray => Value.string x) v15 (mdel r0c_2 r0c_1), Res.obj 74 or0 [.int .i64 r0c_0, .int .i64 (IntKind.i64.wrap (r0c_1 + (1 : Int))), v15], Res.sl Ek.str 9 v40 (handed4 ++ [((mget r0c_2 r0c_1).getD ByteArray.empty)]), Res.obj 31 v5 [.int .u8 (0 : Int), .int .u8 (0 : Int), .bool false, .string ByteArray.empty]]) hp [2, 1, 3, 4] (by decide) (by simp) rfl
   exact rnd_l ⟨_, _, hf.sub ⟨rfl, rfl, rfl, trivial⟩, hp⟩
  clear hl hf hp
  intro e a w hne hO
  obtain ⟨rfl, v20, v23, hf, hp⟩ := hO
  refine ib_same ?_
  refine th_n ?_
  refine wp_seq ?_
  refine wp_reg ?_
  refine st_allocA (E := (Ek.int .u8)) (N := 16) (zs := List.replicate 16 (0 : Int)) (zv := .agg ((List.replicate 16 ([.int .u8 0] : List Value)).flatten).toArray) hf (by decide) (by decide) (by decide) (by kernel_rfl) (reps_replicate (E := (Ek.int .u8)) (vs := ([.int .u8 0] : List Value)) (x := (0 : Int)) rfl 16) (by simp) hp rfl ?_
  clear hf; intro a w v43 hf hp0; clear hp; have hp := hp0; clear hp0
  replace hp : Hp _ _ _ (Res.sl (Ek.int .u8) 76 (aslv v43 16) (List.replicate 16 (0 : Int)) :: Res.map (fun x : ByteArray => Value.string x) v20 q41.2.2.1 :: Res.obj 74 or0 [.int .i64 q41.1, .int .i64 q41.2.1, v20] :: Res.sl Ek.str 9 v23 q41.2.2.2 :: _ :: ow) := hp
  refine st_nil hf ?_
  refine th_n ?_
  refine wp_seq ?_
  refine wp_seq ?_
  refine wp_reg ?_
  refine st_move hf rfl rfl (by decide) ?_
  clear hf; intro a ha hf; clear ha
  refine st_nil hf ?_
  refine th_n ?_
  refine wp_block ?_
  obtain ⟨q64, hl, h⟩ := bnd h
  have hp : Hp _ _ _ (_ :: _ :: _ :: _ :: _ :: ow) := Hp.sel (pre := [Res.sl (Ek.int .u8) 76 (aslv v43 16) (List.replicate 16 (0 : Int)), Res.map (fun x : ByteArray => Value.string x) v20 q41.2.2.1, Res.obj 74 or0 [.int .i64 q41.1, .int .i64 q41.2.1, v20], Res.sl Ek.str 9 v23 q41.2.2.2, Res.obj 31 v5 [.int .u8 (0 : Int), .int .u8 (0 : Int), .bool false, .string ByteArray.empty]]) (tail := ow) (rs' := [Res.sl (Ek.int .u8) 76 (aslv v43 16) (List.replicate 16 (0 : Int)), Res.obj 74 or0 [.int .i64 q41.1, .int .i64 q41.2.1, v20], Res.map (fun x : ByteArray => Value.string x) v20 q41.2.2.1, Res.sl Ek.str 9 v23 q41.2.2.2, Res.obj 31 v5 [.int .u8 (0 : Int), .int .u8 (0 : Int), .bool false, .string ByteArray.empty]]) hp [0, 2, 1, 3, 4] (by decide) (by simp) rfl
  refine wp_loop_pure (f := (f_again_Receiver_Take.s2 q41)) (s := ((List.replicate 16 (0 : Int)), (0 : Int))) (fun s a w => Fr 147 a [(0, or0), (4, v23), (5, optr v5 0), (12, v43), (109, .int .i64 s.2)] ∧ Hp S w0 w (Res.sl (Ek.int .u8) 76 (aslv v43 16) s.1 :: Res.obj 74 or0 [.int .i64 q41.1, .int .i64 q41.2.1, v20] :: Res.map (fun x : ByteArray => Value.string x) v20 q41.2.2.1 :: Res.sl Ek.str 9 v23 q41.2.2.2 :: Res.obj 31 v5 [.int .u8 (0 : Int), .int .u8 (0 : Int), .bool false, .string ByteArray.empty] :: ow)) (fun q e a w => e = .exit 2 ∧ Fr 147 a [(0, or0), (4, v23), (5, optr v5 0), (12, v43)] ∧ Hp S w0 w (Res.sl (Ek.int .u8) 76 (aslv v43 16) q :: Res.obj 74 or0 [.int .i64 q41.1, .int .i64 q41.2.1, v20] :: Res.map (fun x : ByteArray => Value.string x) v20 q41.2.2.1 :: Res.sl Ek.str 9 v23 q41.2.2.2 :: Res.obj 31 v5 [.int .u8 (0 : Int), .int .u8 (0 : Int), .bool false, .string ByteArray.empty] :: ow)) ?_ hl ⟨hf.sub ⟨rfl, rfl, rfl, rfl, rfl, trivial⟩, hp⟩ ?_
  ·
   clear hl hf hp
   intro s x a w h hI
   obtain ⟨marks12, t109⟩ := s
   obtain ⟨hf, hp⟩ : Fr 147 a [(0, or0), (4, v23), (5, optr v5 0), (12, v43), (109, .int .i64 t109)] ∧ Hp S w0 w (Res.sl (Ek.int .u8) 76 (aslv v43 16) marks12 :: Res.obj 74 or0 [.int .i64 q41.1, .int .i64 q41.2.1, v20] :: Res.map (fun x : ByteArray => Value.string x) v20 q41.2.2.1 :: Res.sl Ek.str 9 v23 q41.2.2.2 :: Res.obj 31 v5 [.int .u8 (0 : Int), .int .u8 (0 : Int), .bool false, .string ByteArray.empty] :: ow) := hI
   replace h : f_again_Receiver_Take.s2c q41 marks12 t109 = some x := h
   unfold f_again_Receiver_Take.s2c at h
   refine wp_seq ?_
   refine wp_reg ?_
   refine st_ilss hf (by decide) rfl rfl rfl ?_
   clear hf; intro a ha hf; clear ha
   refine st_nil hf ?_
   refine th_n ?_
   refine wp_seq ?_
   refine wp_if hf rfl (fun hb => ?_) (fun hb => ?_)
   ·
    replace h := ifT h hb
    refine wp_skip ?_
    refine th_n ?_
    refine wp_seq ?_
    refine wp_block ?_
    refine wp_seq ?_
    refine wp_reg ?_
    refine st_move hf rfl rfl (by decide) ?_
    clear hf; intro a ha hf; clear ha
    refine st_assign hf rfl rfl (by decide) ?_
    clear hf; intro a ha hf; clear ha
    refine st_nil hf ?_
    refine th_n ?_
    refine wp_seq ?_
    obtain ⟨S47, hp48, rd49, up50, bk51⟩ := Hp.lendO hp (i := 1) rfl
    have rl52 := rd49
    refine wp_cutN (fun a w => Fr 147 a [(0, or0), (4, v23), (5, optr v5 0), (12, v43), (13, .int .i64 t109), (15, .bool ((mget q41.2.2.1 (IntKind.i64.wrap ((IntKind.i64.wrap (q41.2.1 + (1 : Int))) + t109))).isSome)), (109, .int .i64 t109)] ∧ Hp S w0 w (Res.obj 74 or0 [.int .i64 q41.1, .int .i64 q41.2.1, v20] :: Res.sl (Ek.int .u8) 76 (aslv v43 16) marks12 :: Res.map (fun x : ByteArray => Value.string x) v20 q41.2.2.1 :: Res.sl Ek.str 9 v23 q41.2.2.2 :: Res.obj 31 v5 [.int .u8 (0 : Int), .int .u8 (0 : Int), .bool false, .string ByteArray.empty] :: ow)) ?_ ?_
    ·
     have hp := hp48.same (Same.drew w)
     refine dr_begin' _ (fun w' => ∃ l, Hp S47 w w' l) [] (by kernel_rfl) ?_
     refine dr_takeK 0 (or0) rfl hf rfl (fun w ⟨_, hp⟩ => ?_) ⟨_, hp⟩ ?_
     · exact st_move hf rfl rfl (by decide) tk
     clear hf; intro a hf
     refine dr_nilV 1 rfl (by kernel_rfl) (by kernel_rfl) (by kernel_rfl) hf (by decide) rfl rfl (rl52.ob hp) ?_
     clear hf; intro a hf
     refine dr_takeK 2 (optr or0 2) rfl hf rfl (fun w ⟨_, hp⟩ => ?_) ⟨_, hp⟩ ?_
     · exact st_fa (o' := 2) hf (by decide) (off := 2) (sz := 1) (by kernel_rfl) (by decide) rfl rfl (rl52.ob hp) rfl tk
     clear hf; intro a hf
     refine dr_takeK 3 (v20) rfl hf rfl (fun w ⟨_, hp⟩ => ?_) ⟨_, hp⟩ ?_
     · exact st_ldO (u := v20) hf (by decide) pl72 rfl rfl (rl52.ob hp) rfl tk
     clear hf; intro a hf
     refine dr_takeK 4 (or0) rfl hf rfl (fun w ⟨_, hp⟩ => ?_) ⟨_, hp⟩ ?_
     · exact st_move hf rfl rfl (by decide) tk
     clear hf; intro a hf
     refine dr_nilV 5 rfl (by kernel_rfl) (by kernel_rfl) (by kernel_rfl) hf (by decide) rfl rfl (rl52.ob hp) ?_
     clear hf; intro a hf
     refine dr_takeK 6 (optr or0 1) rfl hf rfl (fun w ⟨_, hp⟩ => ?_) ⟨_, hp⟩ ?_
     · exact st_fa (o' := 1) hf (by decide) (off := 1) (sz := 1) (by kernel_rfl) (by decide) rfl rfl (rl52.ob hp) rfl tk
     clear hf; intro a hf
     refine dr_takeK 7 (.int .i64 q41.2.1) rfl hf rfl (fun w ⟨_, hp⟩ => ?_) ⟨_, hp⟩ ?_
     · exact st_ldO (u := .int .i64 q41.2.1) hf (by decide) pl3 rfl rfl (rl52.ob hp) rfl tk
     clear hf; intro a hf
     refine dr_takeK 8 (.int .i64 (IntKind.i64.wrap (q41.2.1 + (1 : Int)))) rfl hf rfl (fun w ⟨_, hp⟩ => ?_) ⟨_, hp⟩ ?_
     · exact st_iadd hf (by decide) rfl rfl rfl tk
     clear hf; intro a hf
     refine dr_takeK 9 (.int .i64 t109) rfl hf rfl (fun w ⟨_, hp⟩ => ?_) ⟨_, hp⟩ ?_
     · exact st_move hf rfl rfl (by decide) tk
     clear hf; intro a hf
     refine dr_takeK 10 (.int .i64 (IntKind.i64.wrap ((IntKind.i64.wrap (q41.2.1 + (1 : Int))) + t109))) rfl hf rfl (fun w ⟨_, hp⟩ => ?_) ⟨_, hp⟩ ?_
     · exact st_iadd hf (by decide) rfl rfl rfl tk
     clear hf; intro a hf
     refine dr_one 11 rfl (by kernel_rfl) ?_
     refine st_lookup (enc := (fun x : ByteArray => Value.string x)) (z0 := ByteArray.empty) (ok := true) hf (by decide) Try.underlying72 Try.underlying3 (by kernel_rfl) hp (i := 1) rfl rfl rfl rfl ?_
     clear hf; intro a ha hf; clear ha
     replace hf : Fr _ _ ((124, .tuple #[.string ((mget q41.2.2.1 (IntKind.i64.wrap ((IntKind.i64.wrap (q41.2.1 + (1 : Int))) + t109))).getD ByteArray.empty), .bool ((mget q41.2.2.1 (IntKind.i64.wrap ((IntKind.i64.wrap (q41.2.1 + (1 : Int))) + t109))).isSome)]) :: _) := hf
     refine nx hf (fun _ _ => ⟨_, hp⟩) ?_
     refine dr_takeK 12 (.tuple #[.string ((mget q41.2.2.1 (IntKind.i64.wrap ((IntKind.i64.wrap (q41.2.1 + (1 : Int))) + t109))).getD ByteArray.empty), .bool ((mget q41.2.2.1 (IntKind.i64.wrap ((IntKind.i64.wrap (q41.2.1 + (1 : Int))) + t109))).isSome)]) rfl hf rfl (fun w ⟨_, hp⟩ => ?_) ⟨_, hp⟩ ?_
     · exact st_move hf rfl rfl (by decide) tk
     clear hf; intro a hf
     refine dr_takeK 13 (.string ((mget q41.2.2.1 (IntKind.i64.wrap ((IntKind.i64.wrap (q41.2.1 + (1 : Int))) + t109))).getD ByteArray.empty)) rfl hf rfl (fun w ⟨_, hp⟩ => ?_) ⟨_, hp⟩ ?_
     · exact st_extract hf (by decide) rfl rfl rfl tk
     clear hf; intro a hf
     refine dr_takeK 14 (.bool ((mget q41.2.2.1 (IntKind.i64.wrap ((IntKind.i64.wrap (q41.2.1 + (1 : Int))) + t109))).isSome)) rfl hf rfl (fun w ⟨_, hp⟩ => ?_) ⟨_, hp⟩ ?_
     · exact st_extract hf (by decide) rfl rfl rfl tk
     clear hf; intro a hf
     refine dr_takeK 15 (.string ((mget q41.2.2.1 (IntKind.i64.wrap ((IntKind.i64.wrap (q41.2.1 + (1 : Int))) + t109))).getD ByteArray.empty)) rfl hf rfl (fun w ⟨_, hp⟩ => ?_) ⟨_, hp⟩ ?_
     · exact st_assign hf rfl rfl (by decide) tk
     clear hf; intro a hf
     refine dr_takeK 16 (.bool ((mget q41.2.2.1 (IntKind.i64.wrap ((IntKind.i64.wrap (q41.2.1 + (1 : Int))) + t109))).isSome)) rfl hf rfl (fun w ⟨_, hp⟩ => ?_) ⟨_, hp⟩ ?_
     · exact st_assign hf rfl rfl (by decide) tk
     clear hf; intro a hf
     refine dr_end (by kernel_rfl) ?_ _
     have hp := bk51 _ _ hp
     exact ⟨hf.sub ⟨rfl, rfl, rfl, rfl, rfl, rfl, rfl, trivial⟩, hp⟩
    rintro a w ⟨hf, hp⟩
    refine th_n ?_
    refine wp_seq ?_
    refine wp_reg ?_
    refine st_move hf rfl rfl (by decide) ?_
    clear hf; intro a ha hf; clear ha
    refine st_nil hf ?_
    refine th_n ?_
    refine wp_if hf rfl (fun hb => ?_) (fun hb => ?_)
    ·
     replace h := ifT h hb
     obtain ⟨S53, hp54, rd55, up56, bk57⟩ := Hp.lendS hp (i := 1) rfl
     have rl58 := rd55
     obtain ⟨hc59, h⟩ := chk h
     have hc60 := aslv_ix rl58 hc59
     obtain ⟨hc61, h⟩ := chk h
     obtain ⟨hc62, h⟩ := chk h
     have hc63 := aslv_ix rl58 hc62
     refine wp_cutN (fun a w => Fr 147 a [(0, or0), (4, v23), (5, optr v5 0), (12, v43), (109, .int .i64 t109)] ∧ Hp S w0 w (Res.sl (Ek.int .u8) 76 (aslv v43 16) (marks12.set ((IntKind.i64.wrap ((t109).tdiv (8 : Int)))).toNat (ior .u8 (gt marks12 (IntKind.i64.wrap ((t109).tdiv (8 : Int)))) (ishr .u8 (128 : Int) ((t109).tmod (8 : Int))))) :: Res.obj 74 or0 [.int .i64 q41.1, .int .i64 q41.2.1, v20] :: Res.map (fun x : ByteArray => Value.string x) v20 q41.2.2.1 :: Res.sl Ek.str 9 v23 q41.2.2.2 :: Res.obj 31 v5 [.int .u8 (0 : Int), .int .u8 (0 : Int), .bool false, .string ByteArray.empty] :: ow)) ?_ ?_
     ·
      have hp := hp54.same (Same.drew w)
      refine dr_begin' _ (fun w' => ∃ l, Hp S53 w w' l) [9] (by kernel_rfl) ?_
      refine dr_takeP 0 (.int .i64 t109) rfl (by kernel_rfl) (by kernel_rfl) (by kernel_rfl) rfl rfl hf (by decide) rfl (fun w => ?_) ?_
      ·
       refine st_move hf rfl rfl (by decide) ?_
       clear hf; intro a ha hf
       exact st_nil hf (th_n ⟨ha, rfl⟩)
      clear hf; intro a hf
      refine dr_takeP 1 (.int .i64 (IntKind.i64.wrap ((t109).tdiv (8 : Int)))) rfl (by kernel_rfl) (by kernel_rfl) (by kernel_rfl) rfl rfl hf (by decide) rfl (fun w => ?_) ?_
      ·
       refine st_iquo hf (by decide) rfl rfl rfl (by decide) ?_
       clear hf; intro a ha hf
       exact st_nil hf (th_n ⟨ha, rfl⟩)
      clear hf; intro a hf
      refine dr_takeP 2 (eptr (aslv v43 16) (IntKind.i64.wrap ((t109).tdiv (8 : Int))) 1) rfl (by kernel_rfl) (by kernel_rfl) (by kernel_rfl) rfl rfl hf (by decide) rfl (fun w => ?_) ?_
      ·
       refine st_iaA (E := (Ek.int .u8)) (N := 16) hf (by decide) Try.underlying76 (by kernel_rfl) rfl rfl rfl rl58.any rfl hc59.1 hc59.2 ?_
       clear hf; intro a ha hf
       exact st_nil hf (th_n ⟨ha, rfl⟩)
      clear hf; intro a hf
      refine dr_take2 3 (.int .u8 (gt marks12 (IntKind.i64.wrap ((t109).tdiv (8 : Int))))) rfl (by kernel_rfl) (by kernel_rfl) (by kernel_rfl) (by kernel_rfl) (by kernel_rfl) rfl rfl hf (by decide) rfl (fun w hp => ?_) ⟨_, hp⟩ ?_
      ·
       obtain ⟨_, hp⟩ := hp
       refine st_ldI hf (by decide) pl5 rfl rfl (rl58.sl hp) hc60.1 hc60.2 ?_
       clear hf; intro a ha hf
       exact st_nil hf (th_n ⟨ha, rfl⟩)
      clear hf; intro a hf
      refine dr_takeP 4 (.int .i64 t109) rfl (by kernel_rfl) (by kernel_rfl) (by kernel_rfl) rfl rfl hf (by decide) rfl (fun w => ?_) ?_
      ·
       refine st_move hf rfl rfl (by decide) ?_
       clear hf; intro a ha hf
       exact st_nil hf (th_n ⟨ha, rfl⟩)
      clear hf; intro a hf
      refine dr_takeP 5 (.int .i64 ((t109).tmod (8 : Int))) rfl (by kernel_rfl) (by kernel_rfl) (by kernel_rfl) rfl rfl hf (by decide) rfl (fun w => ?_) ?_
      ·
       refine st_irem hf (by decide) rfl rfl rfl (by decide) ?_
       clear hf; intro a ha hf
       exact st_nil hf (th_n ⟨ha, rfl⟩)
      clear hf; intro a hf
      refine dr_takeP 6 (.int .u8 (ishr .u8 (128 : Int) ((t109).tmod (8 : Int)))) rfl (by kernel_rfl) (by kernel_rfl) (by kernel_rfl) rfl rfl hf (by decide) rfl (fun w => ?_) ?_
      ·
       refine st_ishr hf (by decide) rfl rfl rfl hc61 ?_
       clear hf; intro a ha hf
       exact st_nil hf (th_n ⟨ha, rfl⟩)
      clear hf; intro a hf
      refine dr_takeP 7 (.int .u8 (ior .u8 (gt marks12 (IntKind.i64.wrap ((t109).tdiv (8 : Int)))) (ishr .u8 (128 : Int) ((t109).tmod (8 : Int))))) rfl (by kernel_rfl) (by kernel_rfl) (by kernel_rfl) rfl rfl hf (by decide) rfl (fun w => ?_) ?_
      ·
       refine st_ior hf (by decide) rfl rfl rfl ?_
       clear hf; intro a ha hf
       exact st_nil hf (th_n ⟨ha, rfl⟩)
      clear hf; intro a hf
      refine dr_takeP 8 (eptr (aslv v43 16) (IntKind.i64.wrap ((t109).tdiv (8 : Int))) 1) rfl (by kernel_rfl) (by kernel_rfl) (by kernel_rfl) rfl rfl hf (by decide) rfl (fun w => ?_) ?_
      ·
       refine st_iaA (E := (Ek.int .u8)) (N := 16) hf (by decide) Try.underlying76 (by kernel_rfl) rfl rfl rfl rl58.any rfl hc62.1 hc62.2 ?_
       clear hf; intro a ha hf
       exact st_nil hf (th_n ⟨ha, rfl⟩)
      clear hf; intro a hf
      have hp := bk57 _ _ hp
      refine dr_one 9 rfl (by kernel_rfl) ?_
      refine st_store (E := (Ek.int .u8)) hf elt5 hp (i := 0) rfl rfl rfl rfl rfl hc63.1 hc63.2 ?_
      clear hf; intro a w hf hp0; clear hp; have hp := hp0; clear hp0
      replace hp : Hp _ _ _ (Res.sl (Ek.int .u8) 76 (aslv v43 16) (marks12.set ((IntKind.i64.wrap ((t109).tdiv (8 : Int)))).toNat (ior .u8 (gt marks12 (IntKind.i64.wrap ((t109).tdiv (8 : Int)))) (ishr .u8 (128 : Int) ((t109).tmod (8 : Int))))) :: _ :: _ :: _ :: _ :: ow) := hp
      refine st_nil hf (th_n ⟨fun hn => absurd hn (by decide), ?_⟩)
      refine dr_end (by kernel_rfl) ?_ _
      exact ⟨hf.sub ⟨rfl, rfl, rfl, rfl, rfl, trivial⟩, hp⟩
     rintro a w ⟨hf, hp⟩
     refine ib_n ?_
     refine th_n ?_
     refine wp_reg ?_
     refine st_iadd hf (by decide) rfl rfl rfl ?_
     clear hf; intro a ha hf; clear ha
     refine st_move hf rfl rfl (by decide) ?_
     clear hf; intro a ha hf; clear ha
     refine st_nil hf ?_
     obtain rfl := Option.some.inj h
     exact rnd_l ⟨hf.sub ⟨rfl, rfl, rfl, rfl, rfl, trivial⟩, hp⟩
    replace h := ifF h hb
    refine wp_skip ?_
    refine ib_n ?_
    refine th_n ?_
    refine wp_reg ?_
    refine st_iadd hf (by decide) rfl rfl rfl ?_
    clear hf; intro a ha hf; clear ha
    refine st_move hf rfl rfl (by decide) ?_
    clear hf; intro a ha hf; clear ha
    refine st_nil hf ?_
    obtain rfl := Option.some.inj h
    have hp : Hp _ _ _ (Res.sl (Ek.int .u8) 76 (aslv v43 16) marks12 :: _ :: _ :: _ :: _ :: ow) := Hp.sel (pre := [Res.obj 74 or0 [.int .i64 q41.1, .int .i64 q41.2.1, v20], Res.sl (Ek.int .u8) 76 (aslv v43 16) marks12, Res.map (fun x : ByteArray => Value.string x) v20 q41.2.2.1, Res.sl Ek.str 9 v23 q41.2.2.2, Res.obj 31 v5 [.int .u8 (0 : Int), .int .u8 (0 : Int), .bool false, .string ByteArray.empty]]) (tail := ow) (rs' := [Res.sl (Ek.int .u8) 76 (aslv v43 16) marks12, Res.obj 74 or0 [.int .i64 q41.1, .int .i64 q41.2.1, v20], Res.map (fun x : ByteArray => Value.string x) v20 q41.2.2.1, Res.sl Ek.str 9 v23 q41.2.2.2, Res.obj 31 v5 [.int .u8 (0 : Int), .int .u8 (0 : Int), .bool false, .string ByteArray.empty]]) hp [1, 0, 2, 3, 4] (by decide) (by simp) rfl
    exact rnd_l ⟨hf.sub ⟨rfl, rfl, rfl, rfl, rfl, trivial⟩, hp⟩
   replace h := ifF h hb
   refine wp_exit ?_
   refine th_e ?_
   obtain rfl := Option.some.inj h
   exact rnd_r (by simp) ⟨rfl, hf.sub ⟨rfl, rfl, rfl, rfl, trivial⟩, hp⟩
  clear hl hf hp
  intro e a w hne hO
  obtain ⟨rfl, hf, hp⟩ := hO
  refine ib_same ?_
  refine th_n ?_
  refine wp_seq ?_
  obtain ⟨S65, hp66, rd67, up68, bk69⟩ := Hp.lendO hp (i := 1) rfl
  obtain ⟨S70, hp71, rd72, up73, bk74⟩ := Hp.lendS hp66 (i := 0) rfl
  have rl75 := ((rd67.now hp66).mono up73)
  have rl76 := rd72
  refine wp_cutN (fun a w => Fr 147 a [(0, or0), (4, v23), (5, optr v5 0), (6, .int .i64 (0 : Int))] ∧ Hp S w0 w (Res.obj 74 or0 [.int .i64 q41.1, .int .i64 q41.2.1, v20] :: Res.sl (Ek.int .u8) 76 (aslv v43 16) q64 :: Res.map (fun x : ByteArray => Value.string x) v20 q41.2.2.1 :: Res.sl Ek.str 9 v23 q41.2.2.2 :: Res.obj 31 v5 [.int .u8 (2 : Int), .int .u8 (IntKind.u8.wrap q41.2.1), .bool false, .string (bstr q64)] :: ow)) ?_ ?_
  ·
   have hp := hp71.same (Same.drew w)
   refine dr_begin' _ (fun w' => ∃ l, Hp S70 w w' l) [] (by kernel_rfl) ?_
   refine dr_takeK 0 (v23) rfl hf rfl (fun w ⟨_, hp⟩ => ?_) ⟨_, hp⟩ ?_
   · exact st_move hf rfl rfl (by decide) tk
   clear hf; intro a hf
   refine dr_takeK 1 (or0) rfl hf rfl (fun w ⟨_, hp⟩ => ?_) ⟨_, hp⟩ ?_
   · exact st_move hf rfl rfl (by decide) tk
   clear hf; intro a hf
   refine dr_nilV 2 rfl (by kernel_rfl) (by kernel_rfl) (by kernel_rfl) hf (by decide) rfl rfl (rl75.ob hp) ?_
   clear hf; intro a hf
   refine dr_takeK 3 (optr or0 1) rfl hf rfl (fun w ⟨_, hp⟩ => ?_) ⟨_, hp⟩ ?_
   · exact st_fa (o' := 1) hf (by decide) (off := 1) (sz := 1) (by kernel_rfl) (by decide) rfl rfl (rl75.ob hp) rfl tk
   clear hf; intro a hf
   refine dr_takeK 4 (.int .i64 q41.2.1) rfl hf rfl (fun w ⟨_, hp⟩ => ?_) ⟨_, hp⟩ ?_
   · exact st_ldO (u := .int .i64 q41.2.1) hf (by decide) pl3 rfl rfl (rl75.ob hp) rfl tk
   clear hf; intro a hf
   refine dr_takeK 5 (.int .u8 (IntKind.u8.wrap q41.2.1)) rfl hf rfl (fun w ⟨_, hp⟩ => ?_) ⟨_, hp⟩ ?_
   · exact st_conv_ii hf (by decide) (by rw [Try.underlying3]; rfl) Try.underlying5 rfl rfl tk
   clear hf; intro a hf
   refine dr_takeK 6 ((aslv v43 16)) rfl hf rfl (fun w ⟨_, hp⟩ => ?_) ⟨_, hp⟩ ?_
   · exact st_slA (E := (Ek.int .u8)) (N := 16) hf (by decide) Try.underlying76 (by kernel_rfl) rfl rfl (rl76.sl hp) tk
   clear hf; intro a hf
   refine dr_takeK 7 (.string (bstr q64)) rfl hf rfl (fun w ⟨_, hp⟩ => ?_) ⟨_, hp⟩ ?_
   · exact st_convBS hf (by decide) Try.underlying61 Try.underlying5 Try.underlying9 rfl rfl (rl76.sl hp) tk
   clear hf; intro a hf
   refine dr_takeK 8 (.agg #[.int .u8 (2 : Int), .int .u8 (IntKind.u8.wrap q41.2.1), .bool false, .string (bstr q64)]) rfl hf rfl (fun w ⟨_, hp⟩ => ?_) ⟨_, hp⟩ ?_
   · exact st_buildA (vals := [(0, .int .u8 (2 : Int)), (1, .int .u8 (IntKind.u8.wrap q41.2.1)), (3, .string (bstr q64))]) (cells := [.int .u8 (2 : Int), .int .u8 (IntKind.u8.wrap q41.2.1), .bool false, .string (bstr q64)]) hf (by decide) rfl (by simp [hf.ev (x := (Operand.const (.int .u8 (2 : Int)))) rfl, hf.ev (x := (Operand.tmp 143)) rfl, hf.ev (x := (Operand.tmp 145)) rfl]) (fun w => by kernel_rfl) tk
   clear hf; intro a hf
   refine dr_takeK 9 (v23) rfl hf rfl (fun w ⟨_, hp⟩ => ?_) ⟨_, hp⟩ ?_
   · exact st_assign hf rfl rfl (by decide) tk
   clear hf; intro a hf
   refine dr_one 10 rfl (by kernel_rfl) ?_
   refine st_stO (us := [.int .u8 (2 : Int), .int .u8 (IntKind.u8.wrap q41.2.1), .bool false, .string (bstr q64)]) hf hp (i := 2) rfl rfl rfl rfl rfl (by rfl) (by kernel_rfl) (Nat.le_of_ble_eq_true rfl) ?_
   clear hf; intro a w hf hp0; clear hp; have hp := hp0; clear hp0
   replace hp : Hp _ _ _ (_ :: _ :: Res.obj 31 v5 [.int .u8 (2 : Int), .int .u8 (IntKind.u8.wrap q41.2.1), .bool false, .string (bstr q64)] :: ow) := hp
   refine nx hf (fun _ _ => ⟨_, hp⟩) ?_
   refine dr_takeK 11 (.int .i64 (0 : Int)) rfl hf rfl (fun w ⟨_, hp⟩ => ?_) ⟨_, hp⟩ ?_
   · exact st_assign hf rfl rfl (by decide) tk
   clear hf; intro a hf
   refine dr_end (by kernel_rfl) ?_ _
   have hp := bk74 _ _ hp
   have hp := bk69 _ _ hp
   exact ⟨hf.sub ⟨rfl, rfl, rfl, rfl, trivial⟩, hp⟩
  rintro a w ⟨hf, hp⟩
  refine th_n ?_
  refine wp_ret ?_
  obtain rfl := Option.some.inj h
  have hp : Hp _ _ _ (_ :: _ :: _ :: Res.obj 74 or0 [.int .i64 q41.1, .int .i64 q41.2.1, v20] :: ow) := Hp.sel (pre := [Res.obj 74 or0 [.int .i64 q41.1, .int .i64 q41.2.1, v20], Res.sl (Ek.int .u8) 76 (aslv v43 16) q64, Res.map (fun x : ByteArray => Value.string x) v20 q41.2.2.1, Res.sl Ek.str 9 v23 q41.2.2.2, Res.obj 31 v5 [.int .u8 (2 : Int), .int .u8 (IntKind.u8.wrap q41.2.1), .bool false, .string (bstr q64)]]) (tail := ow) (rs' := [Res.obj 31 v5 [.int .u8 (2 : Int), .int .u8 (IntKind.u8.wrap q41.2.1), .bool false, .string (bstr q64)], Res.sl Ek.str 9 v23 q41.2.2.2, Res.map (fun x : ByteArray => Value.string x) v20 q41.2.2.1, Res.obj 74 or0 [.int .i64 q41.1, .int .i64 q41.2.1, v20]]) hp [4, 3, 2, 0] (by decide) (by simp) rfl
  exact ⟨rfl, ⟨_, _, _, hf.sub ⟨rfl, rfl, rfl, trivial⟩, hp⟩⟩

noncomputable def f_again_Sender_Hear.s1c (sx0_window : Int) (sx0_left : (List (ByteArray × Bool × Int × Bool))) (k5 : Int) : Option (Int ⊕ Int) := ((if (decide (k5 < (imin sx0_window (sx0_left.length : Int)))) = true then (if 0 ≤ k5 ∧ k5 < (sx0_left.length : Int) then (some ((gt sx0_left k5).2.1)) else none) else (some false)).bind fun z24 => (if z24 = true then (some (Sum.inl (IntKind.i64.wrap (k5 + (1 : Int))))) else (some (Sum.inr k5))))
noncomputable def f_again_Sender_Hear.s1 (sx0_window : Int) (sx0_left : (List (ByteArray × Bool × Int × Bool))) (s : Int) : Option (Int ⊕ Int) := f_again_Sender_Hear.s1c sx0_window sx0_left s
noncomputable def f_again_Sender_Hear.s2c (sx0_front : Int) (f1_Number : Int) (f1_Body : ByteArray) (q25 : Int) (sx0c_0 : Int) (sx0c_1 : Int) (sx0c_2 : Int) (sx0c_3 : Int) (sx0c_4 : (List (ByteArray × Bool × Int × Bool))) (t61 : Int) : Option ((Int × Int × Int × Int × (List (ByteArray × Bool × Int × Bool)) × Int) ⊕ (Int × Int × Int × Int × (List (ByteArray × Bool × Int × Bool)))) := (if (decide (t61 < q25)) = true then ((if (decide (t61 < (IntKind.i64.wrap (IntKind.u8.wrap (f1_Number - (IntKind.u8.wrap sx0_front)))))) = true then (some true) else ((if (decide ((0 : Int) ≤ (IntKind.i64.wrap ((IntKind.i64.wrap (t61 - (IntKind.i64.wrap (IntKind.u8.wrap (f1_Number - (IntKind.u8.wrap sx0_front)))))) - (1 : Int))))) = true then (if 0 ≤ (IntKind.i64.wrap (((IntKind.i64.wrap ((IntKind.i64.wrap (t61 - (IntKind.i64.wrap (IntKind.u8.wrap (f1_Number - (IntKind.u8.wrap sx0_front)))))) - (1 : Int)))).tdiv (8 : Int))) ∧ (IntKind.i64.wrap (((IntKind.i64.wrap ((IntKind.i64.wrap (t61 - (IntKind.i64.wrap (IntKind.u8.wrap (f1_Number - (IntKind.u8.wrap sx0_front)))))) - (1 : Int)))).tdiv (8 : Int))) < (f1_Body.size : Int) then (if 0 ≤ (IntKind.i64.wrap ((7 : Int) - (((IntKind.i64.wrap ((IntKind.i64.wrap (t61 - (IntKind.i64.wrap (IntKind.u8.wrap (f1_Number - (IntKind.u8.wrap sx0_front)))))) - (1 : Int)))).tmod (8 : Int)))) then (some ((iand .u8 (ishr .u8 (bt f1_Body (IntKind.i64.wrap (((IntKind.i64.wrap ((IntKind.i64.wrap (t61 - (IntKind.i64.wrap (IntKind.u8.wrap (f1_Number - (IntKind.u8.wrap sx0_front)))))) - (1 : Int)))).tdiv (8 : Int)))) (IntKind.i64.wrap ((7 : Int) - (((IntKind.i64.wrap ((IntKind.i64.wrap (t61 - (IntKind.i64.wrap (IntKind.u8.wrap (f1_Number - (IntKind.u8.wrap sx0_front)))))) - (1 : Int)))).tmod (8 : Int))))) (1 : Int)) == (1 : Int))) else none) else none) else (some false)).bind fun z49 => (some z49))).bind fun z46 => (if z46 = true then (if 0 ≤ t61 ∧ t61 < (sx0c_4.length : Int) then (some (Sum.inl (sx0c_0, sx0c_1, sx0c_2, sx0c_3, (sx0c_4.set (t61).toNat ((gt sx0c_4 t61).1, (gt sx0c_4 t61).2.1, (gt sx0c_4 t61).2.2.1, true)), (IntKind.i64.wrap (t61 + (1 : Int)))))) else none) else (some (Sum.inl (sx0c_0, sx0c_1, sx0c_2, sx0c_3, sx0c_4, (IntKind.i64.wrap (t61 + (1 : Int)))))))) else (some (Sum.inr (sx0c_0, sx0c_1, sx0c_2, sx0c_3, sx0c_4))))
noncomputable def f_again_Sender_Hear.s2 (sx0_front : Int) (f1_Number : Int) (f1_Body : ByteArray) (q25 : Int) (s : (Int × Int × Int × Int × (List (ByteArray × Bool × Int × Bool)) × Int)) : Option ((Int × Int × Int × Int × (List (ByteArray × Bool × Int × Bool)) × Int) ⊕ (Int × Int × Int × Int × (List (ByteArray × Bool × Int × Bool)))) := f_again_Sender_Hear.s2c sx0_front f1_Number f1_Body q25 s.1 s.2.1 s.2.2.1 s.2.2.2.1 s.2.2.2.2.1 s.2.2.2.2.2
noncomputable def f_again_Sender_Hear.s3c (sx0c_0 : Int) (sx0c_1 : Int) (sx0c_2 : Int) (sx0c_3 : Int) (sx0c_4 : (List (ByteArray × Bool × Int × Bool))) : Option ((Int × Int × Int × Int × (List (ByteArray × Bool × Int × Bool))) ⊕ (Int × Int × Int × Int × (List (ByteArray × Bool × Int × Bool)))) := ((if (decide ((0 : Int) < (sx0c_4.length : Int))) = true then (if 0 ≤ (0 : Int) ∧ (0 : Int) < (sx0c_4.length : Int) then (some ((gt sx0c_4 (0 : Int)).2.2.2)) else none) else (some false)).bind fun z62 => (if z62 = true then (if 0 ≤ (1 : Int) ∧ (1 : Int) ≤ (sx0c_4.length : Int) then (some (Sum.inl (sx0c_0, sx0c_1, sx0c_2, (IntKind.i64.wrap (sx0c_3 + (1 : Int))), (sx0c_4.drop ((1 : Int)).toNat)))) else none) else (some (Sum.inr (sx0c_0, sx0c_1, sx0c_2, sx0c_3, sx0c_4)))))
noncomputable def f_again_Sender_Hear.s3  (s : (Int × Int × Int × Int × (List (ByteArray × Bool × Int × Bool)))) : Option ((Int × Int × Int × Int × (List (ByteArray × Bool × Int × Bool))) ⊕ (Int × Int × Int × Int × (List (ByteArray × Bool × Int × Bool)))) := f_again_Sender_Hear.s3c s.1 s.2.1 s.2.2.1 s.2.2.2.1 s.2.2.2.2
noncomputable def f_again_Sender_Hear (sx0_window : Int) (sx0_wait : Int) (sx0_now : Int) (sx0_front : Int) (sx0_left : (List (ByteArray × Bool × Int × Bool))) (f1_Kind : Int) (f1_Number : Int) (f1_More : Bool) (f1_Body : ByteArray) : Option (Int × (Int × Int × Int × Int × (List (ByteArray × Bool × Int × Bool)))) := (if (((f1_Kind != (2 : Int)) || f1_More) || ((f1_Body.size : Int) != (16 : Int))) = true then (some ((4 : Int), (sx0_window, sx0_wait, sx0_now, sx0_front, sx0_left))) else ((loop (f_again_Sender_Hear.s1 sx0_window sx0_left) (0 : Int)).bind (fun q25 => (if (decide (q25 < (IntKind.i64.wrap (IntKind.u8.wrap (f1_Number - (IntKind.u8.wrap sx0_front)))))) = true then (some ((0 : Int), (sx0_window, sx0_wait, sx0_now, sx0_front, sx0_left))) else ((loop (f_again_Sender_Hear.s2 sx0_front f1_Number f1_Body q25) (sx0_window, sx0_wait, sx0_now, sx0_front, sx0_left, (0 : Int))).bind (fun q53 => ((loop f_again_Sender_Hear.s3 (q53.1, q53.2.1, q53.2.2.1, q53.2.2.2.1, q53.2.2.2.2)).bind (fun q67 => (some ((0 : Int), (q67.1, q67.2.1, q67.2.2.1, q67.2.2.2.1, q67.2.2.2.2)))))))))))
theorem f_again_Sender_Hear_c {S : Nat → Prop} {w0 w : World} {ow : List Res} (sx0_window : Int) (sx0_wait : Int) (sx0_now : Int) (sx0_front : Int) (vsx0_left : Value) (sx0_left : (List (ByteArray × Bool × Int × Bool))) (osx0 : Value) (f1_Kind : Int) (f1_Number : Int) (f1_More : Bool) (f1_Body : ByteArray) (hp : Hp S w0 w (Res.sl (Ek.pair Ek.str (Ek.pair Ek.bool (Ek.pair (Ek.int .i64) Ek.bool))) 81 vsx0_left sx0_left :: Res.obj 79 osx0 [.int .i64 sx0_window, .int .i64 sx0_wait, .int .i64 sx0_now, .int .i64 sx0_front, vsx0_left] :: ow)) {r : (Int × (Int × Int × Int × Int × (List (ByteArray × Bool × Int × Bool))))} (h : f_again_Sender_Hear sx0_window sx0_wait sx0_now sx0_front sx0_left f1_Kind f1_Number f1_More f1_Body = some r) :
   Calls Try.prog 23 #[osx0, .agg #[.int .u8 f1_Kind, .int .u8 f1_Number, .bool f1_More, .string f1_Body]] w (fun e w' => ∃ (u0 : Value), e = .returned (.int .i64 r.1) ∧ Hp S w0 w' (Res.sl (Ek.pair Ek.str (Ek.pair Ek.bool (Ek.pair (Ek.int .i64) Ek.bool))) 81 u0 r.2.2.2.2.2 :: Res.obj 79 osx0 [.int .i64 r.2.1, .int .i64 r.2.2.1, .int .i64 r.2.2.2.1, .int .i64 r.2.2.2.2.1, u0] :: ow)) := by
  unfold f_again_Sender_Hear at h
  refine enter (n := 126) (args := [osx0, .agg #[.int .u8 f1_Kind, .int .u8 f1_Number, .bool f1_More, .string f1_Body]]) Try.func23 rfl rfl (Nat.le_of_ble_eq_true rfl) fun a hf => ?_
  replace hf : Fr 126 a [(0, osx0), (1, .agg #[.int .u8 f1_Kind, .int .u8 f1_Number, .bool f1_More, .string f1_Body])] := hf
  refine wp_mono (Q := fun e a w => e = .ret ∧ ∃ (u0 : Value), Fr 126 a [(4, .int .i64 r.1)] ∧ Hp S w0 w (Res.sl (Ek.pair Ek.str (Ek.pair Ek.bool (Ek.pair (Ek.int .i64) Ek.bool))) 81 u0 r.2.2.2.2.2 :: Res.obj 79 osx0 [.int .i64 r.2.1, .int .i64 r.2.2.1, .int .i64 r.2.2.2.1, .int .i64 r.2.2.2.2.1, u0] :: ow)) ?_ ?_
  rotate_left
  ·
   rintro e a w ⟨rfl, x0, hf, hp⟩
   exact ret1 hf rfl rfl ⟨x0, rfl, hp⟩
  refine wp_seq ?_
  refine wp_reg ?_
  refine st_boxO (cs := [.int .u8 f1_Kind, .int .u8 f1_Number, .bool f1_More, .string f1_Body]) hf (by decide) hp rfl rfl rfl ?_
  clear hf; intro a w v3 hf hp0; clear hp; have hp := hp0; clear hp0
  replace hp : Hp _ _ _ (Res.obj 31 v3 [.int .u8 f1_Kind, .int .u8 f1_Number, .bool f1_More, .string f1_Body] :: Res.sl (Ek.pair Ek.str (Ek.pair Ek.bool (Ek.pair (Ek.int .i64) Ek.bool))) 81 vsx0_left sx0_left :: Res.obj 79 osx0 [.int .i64 sx0_window, .int .i64 sx0_wait, .int .i64 sx0_now, .int .i64 sx0_front, vsx0_left] :: ow) := hp
  refine st_assign hf rfl rfl (by decide) ?_
  clear hf; intro a ha hf; clear ha
  refine st_nil hf ?_
  refine th_n ?_
  refine wp_seq ?_
  refine wp_seq ?_
  refine wp_reg ?_
  refine st_move hf rfl rfl (by decide) ?_
  clear hf; intro a ha hf; clear ha
  refine st_peql hf (by decide) Try.underlying44 rfl rfl rfl (nilF (hp.ob (i := 2) rfl).e) ?_
  clear hf; intro a ha hf; clear ha
  refine st_nil hf ?_
  refine th_n ?_
  refine wp_if hf rfl (fun hb => ?_) (fun hb => ?_)
  · exact absurd hb (by decide)
  refine wp_skip ?_
  refine th_n ?_
  refine wp_seq ?_
  refine wp_seq ?_
  refine wp_reg ?_
  refine st_fa (o' := 0) hf (by decide) (off := 0) (sz := 1) (by kernel_rfl) (by decide) rfl rfl (hp.ob (i := 0) rfl) rfl ?_
  clear hf; intro a ha hf; clear ha
  refine st_ldO (u := .int .u8 f1_Kind) hf (by decide) pl5 rfl rfl (hp.ob (i := 0) rfl) rfl ?_
  clear hf; intro a ha hf; clear ha
  refine st_ineq hf (by decide) rfl rfl rfl ?_
  clear hf; intro a ha hf; clear ha
  refine st_move hf rfl rfl (by decide) ?_
  clear hf; intro a ha hf; clear ha
  refine wpList_cut 3 (fun a w => Fr 126 a [(0, osx0), (3, optr v3 0), (17, .bool ((f1_Kind != (2 : Int)) || f1_More))] ∧ Hp S w0 w (Res.obj 31 v3 [.int .u8 f1_Kind, .int .u8 f1_Number, .bool f1_More, .string f1_Body] :: Res.sl (Ek.pair Ek.str (Ek.pair Ek.bool (Ek.pair (Ek.int .i64) Ek.bool))) 81 vsx0_left sx0_left :: Res.obj 79 osx0 [.int .i64 sx0_window, .int .i64 sx0_wait, .int .i64 sx0_now, .int .i64 sx0_front, vsx0_left] :: ow)) ?_ ?_
  ·
   rcases Bool.eq_false_or_eq_true (f1_Kind != (2 : Int)) with hb6 | hb6
   ·
    refine st_skip hf (wantN hf rfl rfl hb6) rfl (by decide) ?_ rfl
    clear hf; intro a hf
    refine st_skip hf (wantN hf rfl rfl hb6) rfl (by decide) ?_ rfl
    clear hf; intro a hf
    refine st_pick (v := .bool true) hf rfl rfl (fun hb' => ?_) (fun hb' => ?_) (by decide) ?_
    · rfl
    · exact absurd (hb6.symm.trans hb') (by decide)
    clear hf; intro a ha hf; clear ha
    refine st_nil hf (th_n ?_)
    exact ⟨hf.sub ⟨rfl, rfl, (by rw [hb6]; rfl), trivial⟩, hp⟩
   refine st_fa (o' := 2) hf (by decide) (off := 2) (sz := 1) (by kernel_rfl) (by decide) (wantY hf rfl rfl hb6) rfl (hp.ob (i := 0) rfl) rfl ?_
   clear hf; intro a ha hf; clear ha
   refine st_ldO (u := .bool f1_More) hf (by decide) pl4 (wantY hf rfl rfl hb6) rfl (hp.ob (i := 0) rfl) rfl ?_
   clear hf; intro a ha hf; clear ha
   refine st_pick (v := .bool f1_More) hf rfl rfl (fun hb' => ?_) (fun hb' => ?_) (by decide) ?_
   · exact absurd (hb6.symm.trans hb') (by decide)
   · rfl
   clear hf; intro a ha hf; clear ha
   refine st_nil hf (th_n ?_)
   exact ⟨hf.sub ⟨rfl, rfl, (by rw [hb6]; rfl), trivial⟩, hp⟩
  rintro a w ⟨hf, hp⟩
  refine st_move hf rfl rfl (by decide) ?_
  clear hf; intro a ha hf; clear ha
  refine wpList_cut 5 (fun a w => Fr 126 a [(0, osx0), (3, optr v3 0), (23, .bool (((f1_Kind != (2 : Int)) || f1_More) || ((f1_Body.size : Int) != (16 : Int))))] ∧ Hp S w0 w (Res.obj 31 v3 [.int .u8 f1_Kind, .int .u8 f1_Number, .bool f1_More, .string f1_Body] :: Res.sl (Ek.pair Ek.str (Ek.pair Ek.bool (Ek.pair (Ek.int .i64) Ek.bool))) 81 vsx0_left sx0_left :: Res.obj 79 osx0 [.int .i64 sx0_window, .int .i64 sx0_wait, .int .i64 sx0_now, .int .i64 sx0_front, vsx0_left] :: ow)) ?_ ?_
  ·
   rcases Bool.eq_false_or_eq_true ((f1_Kind != (2 : Int)) || f1_More) with hb8 | hb8
   ·
    refine st_skip hf (wantN hf rfl rfl hb8) rfl (by decide) ?_ rfl
    clear hf; intro a hf
    refine st_skip hf (wantN hf rfl rfl hb8) rfl (by decide) ?_ rfl
    clear hf; intro a hf
    refine st_skip hf (wantN hf rfl rfl hb8) rfl (by decide) ?_ rfl
    clear hf; intro a hf
    refine st_skip hf (wantN hf rfl rfl hb8) rfl (by decide) ?_ rfl
    clear hf; intro a hf
    refine st_pick (v := .bool true) hf rfl rfl (fun hb' => ?_) (fun hb' => ?_) (by decide) ?_
    · rfl
    · exact absurd (hb8.symm.trans hb') (by decide)
    clear hf; intro a ha hf; clear ha
    refine st_nil hf (th_n ?_)
    exact ⟨hf.sub ⟨rfl, rfl, (by rw [hb8]; rfl), trivial⟩, hp⟩
   refine st_fa (o' := 3) hf (by decide) (off := 3) (sz := 1) (by kernel_rfl) (by decide) (wantY hf rfl rfl hb8) rfl (hp.ob (i := 0) rfl) rfl ?_
   clear hf; intro a ha hf; clear ha
   refine st_ldO (u := .string f1_Body) hf (by decide) pl9 (wantY hf rfl rfl hb8) rfl (hp.ob (i := 0) rfl) rfl ?_
   clear hf; intro a ha hf; clear ha
   refine st_slen hf (by decide) Try.underlying9 (wantY hf rfl rfl hb8) rfl ?_
   clear hf; intro a ha hf; clear ha
   refine st_ineq hf (by decide) (wantY hf rfl rfl hb8) rfl rfl ?_
   clear hf; intro a ha hf; clear ha
   refine st_pick (v := .bool ((f1_Body.size : Int) != (16 : Int))) hf rfl rfl (fun hb' => ?_) (fun hb' => ?_) (by decide) ?_
   · exact absurd (hb8.symm.trans hb') (by decide)
   · rfl
   clear hf; intro a ha hf; clear ha
   refine st_nil hf (th_n ?_)
   exact ⟨hf.sub ⟨rfl, rfl, (by rw [hb8]; rfl), trivial⟩, hp⟩
  rintro a w ⟨hf, hp⟩
  refine st_nil hf ?_
  refine th_n ?_
  refine wp_if hf rfl (fun hb => ?_) (fun hb => ?_)
  ·
   replace h := ifT h hb
   refine wp_seq ?_
   refine wp_reg ?_
   refine st_assign hf rfl rfl (by decide) ?_
   clear hf; intro a ha hf; clear ha
   refine st_nil hf ?_
   refine th_n ?_
   refine wp_ret ?_
   refine th_r ?_
   obtain rfl := Option.some.inj h
   have hp : Hp _ _ _ (_ :: _ :: ow) := Hp.sel (pre := [Res.obj 31 v3 [.int .u8 f1_Kind, .int .u8 f1_Number, .bool f1_More, .string f1_Body], Res.sl (Ek.pair Ek.str (Ek.pair Ek.bool (Ek.pair (Ek.int .i64) Ek.bool))) 81 vsx0_left sx0_left, Res.obj 79 osx0 [.int .i64 sx0_window, .int .i64 sx0_wait, .int .i64 sx0_now, .int .i64 sx0_front, vsx0_left]]) (tail := ow) (rs' := [Res.sl (Ek.pair Ek.str (Ek.pair Ek.bool (Ek.pair (Ek.int .i64) Ek.bool))) 81 vsx0_left sx0_left, Res.obj 79 osx0 [.int .i64 sx0_window, .int .i64 sx0_wait, .int .i64 sx0_now, .int .i64 sx0_front, vsx0_left]]) hp [1, 2] (by decide) (by simp) rfl
   exact ⟨rfl, ⟨_, hf.sub ⟨rfl, trivial⟩, hp⟩⟩
  replace h := ifF h hb
  refine wp_skip ?_
  refine th_n ?_
  refine wp_seq ?_
  refine wp_reg ?_
  refine st_assign hf rfl rfl (by decide) ?_
  clear hf; intro a ha hf; clear ha
  refine st_nil hf ?_
  refine th_n ?_
  refine wp_seq ?_
  refine wp_block ?_
  obtain ⟨q25, hl, h⟩ := bnd h
  have hp : Hp _ _ _ (_ :: _ :: Res.obj 31 v3 [.int .u8 f1_Kind, .int .u8 f1_Number, .bool f1_More, .string f1_Body] :: ow) := Hp.sel (pre := [Res.obj 31 v3 [.int .u8 f1_Kind, .int .u8 f1_Number, .bool f1_More, .string f1_Body], Res.sl (Ek.pair Ek.str (Ek.pair Ek.bool (Ek.pair (Ek.int .i64) Ek.bool))) 81 vsx0_left sx0_left, Res.obj 79 osx0 [.int .i64 sx0_window, .int .i64 sx0_wait, .int .i64 sx0_now, .int .i64 sx0_front, vsx0_left]]) (tail := ow) (rs' := [Res.obj 79 osx0 [.int .i64 sx0_window, .int .i64 sx0_wait, .int .i64 sx0_now, .int .i64 sx0_front, vsx0_left], Res.sl (Ek.pair Ek.str (Ek.pair Ek.bool (Ek.pair (Ek.int .i64) Ek.bool))) 81 vsx0_left sx0_left, Res.obj 31 v3 [.int .u8 f1_Kind, .int .u8 f1_Number, .bool f1_More, .string f1_Body]]) hp [2, 1, 0] (by decide) (by simp) rfl
  refine wp_loop_pure (f := (f_again_Sender_Hear.s1 sx0_window sx0_left)) (s := (0 : Int)) (fun s a w => Fr 126 a [(0, osx0), (3, optr v3 0), (5, .int .i64 s)] ∧ Hp S w0 w (Res.obj 79 osx0 [.int .i64 sx0_window, .int .i64 sx0_wait, .int .i64 sx0_now, .int .i64 sx0_front, vsx0_left] :: Res.sl (Ek.pair Ek.str (Ek.pair Ek.bool (Ek.pair (Ek.int .i64) Ek.bool))) 81 vsx0_left sx0_left :: Res.obj 31 v3 [.int .u8 f1_Kind, .int .u8 f1_Number, .bool f1_More, .string f1_Body] :: ow)) (fun q e a w => e = .exit 0 ∧ Fr 126 a [(0, osx0), (3, optr v3 0), (5, .int .i64 q)] ∧ Hp S w0 w (Res.obj 79 osx0 [.int .i64 sx0_window, .int .i64 sx0_wait, .int .i64 sx0_now, .int .i64 sx0_front, vsx0_left] :: Res.sl (Ek.pair Ek.str (Ek.pair Ek.bool (Ek.pair (Ek.int .i64) Ek.bool))) 81 vsx0_left sx0_left :: Res.obj 31 v3 [.int .u8 f1_Kind, .int .u8 f1_Number, .bool f1_More, .string f1_Body] :: ow)) ?_ hl ⟨hf.sub ⟨rfl, rfl, rfl, trivial⟩, hp⟩ ?_
  ·
   clear hl hf hp
   intro s x a w h hI
   obtain ⟨k5, hs⟩ : ∃ z, z = s := ⟨s, rfl⟩; subst hs
   obtain ⟨hf, hp⟩ : Fr 126 a [(0, osx0), (3, optr v3 0), (5, .int .i64 k5)] ∧ Hp S w0 w (Res.obj 79 osx0 [.int .i64 sx0_window, .int .i64 sx0_wait, .int .i64 sx0_now, .int .i64 sx0_front, vsx0_left] :: Res.sl (Ek.pair Ek.str (Ek.pair Ek.bool (Ek.pair (Ek.int .i64) Ek.bool))) 81 vsx0_left sx0_left :: Res.obj 31 v3 [.int .u8 f1_Kind, .int .u8 f1_Number, .bool f1_More, .string f1_Body] :: ow) := hI
   replace h : f_again_Sender_Hear.s1c sx0_window sx0_left k5 = some x := h
   unfold f_again_Sender_Hear.s1c at h
   refine wp_seq ?_
   refine wp_seq ?_
   obtain ⟨S9, hp10, rd11, up12, bk13⟩ := Hp.lendO hp (i := 0) rfl
   obtain ⟨S14, hp15, rd16, up17, bk18⟩ := Hp.lendS hp10 (i := 0) rfl
   have rl19 := ((rd11.now hp10).mono up17)
   have rl20 := rd16
   obtain ⟨z24, hz21, h⟩ := bnd h
   refine wp_cutN (fun a w => Fr 126 a [(0, osx0), (3, optr v3 0), (5, .int .i64 k5), (45, .bool z24)] ∧ Hp S w0 w (Res.obj 79 osx0 [.int .i64 sx0_window, .int .i64 sx0_wait, .int .i64 sx0_now, .int .i64 sx0_front, vsx0_left] :: Res.sl (Ek.pair Ek.str (Ek.pair Ek.bool (Ek.pair (Ek.int .i64) Ek.bool))) 81 vsx0_left sx0_left :: Res.obj 31 v3 [.int .u8 f1_Kind, .int .u8 f1_Number, .bool f1_More, .string f1_Body] :: ow)) ?_ ?_
   ·
    have hp := hp15.same (Same.drew w)
    rcases Bool.eq_false_or_eq_true (decide (k5 < (imin sx0_window (sx0_left.length : Int)))) with hb22 | hb22
    ·
     replace hz21 := ifT hz21 hb22
     obtain ⟨hc23, hz21⟩ := chk hz21
     replace hz21 := Option.some.inj hz21
     refine dr_begin' _ (fun w' => ∃ l, Hp S14 w w' l) [] (by kernel_rfl) ?_
     refine dr_takeK 0 (.int .i64 k5) rfl hf rfl (fun w ⟨_, hp⟩ => ?_) ⟨_, hp⟩ ?_
     · exact st_move hf rfl rfl (by decide) tk
     clear hf; intro a hf
     refine dr_takeK 1 (osx0) rfl hf rfl (fun w ⟨_, hp⟩ => ?_) ⟨_, hp⟩ ?_
     · exact st_move hf rfl rfl (by decide) tk
     clear hf; intro a hf
     refine dr_nilV 2 rfl (by kernel_rfl) (by kernel_rfl) (by kernel_rfl) hf (by decide) rfl rfl (rl19.ob hp) ?_
     clear hf; intro a hf
     refine dr_takeK 3 (optr osx0 0) rfl hf rfl (fun w ⟨_, hp⟩ => ?_) ⟨_, hp⟩ ?_
     · exact st_fa (o' := 0) hf (by decide) (off := 0) (sz := 1) (by kernel_rfl) (by decide) rfl rfl (rl19.ob hp) rfl tk
     clear hf; intro a hf
     refine dr_takeK 4 (.int .i64 sx0_window) rfl hf rfl (fun w ⟨_, hp⟩ => ?_) ⟨_, hp⟩ ?_
     · exact st_ldO (u := .int .i64 sx0_window) hf (by decide) pl3 rfl rfl (rl19.ob hp) rfl tk
     clear hf; intro a hf
     refine dr_takeK 5 (osx0) rfl hf rfl (fun w ⟨_, hp⟩ => ?_) ⟨_, hp⟩ ?_
     · exact st_move hf rfl rfl (by decide) tk
     clear hf; intro a hf
     refine dr_nilV 6 rfl (by kernel_rfl) (by kernel_rfl) (by kernel_rfl) hf (by decide) rfl rfl (rl19.ob hp) ?_
     clear hf; intro a hf
     refine dr_takeK 7 (optr osx0 4) rfl hf rfl (fun w ⟨_, hp⟩ => ?_) ⟨_, hp⟩ ?_
     · exact st_fa (o' := 4) hf (by decide) (off := 4) (sz := 1) (by kernel_rfl) (by decide) rfl rfl (rl19.ob hp) rfl tk
     clear hf; intro a hf
     refine dr_takeK 8 (vsx0_left) rfl hf rfl (fun w ⟨_, hp⟩ => ?_) ⟨_, hp⟩ ?_
     · exact st_ldO (u := vsx0_left) hf (by decide) pl77 rfl rfl (rl19.ob hp) rfl tk
     clear hf; intro a hf
     refine dr_takeK 9 (.int .i64 (sx0_left.length : Int)) rfl hf rfl (fun w ⟨_, hp⟩ => ?_) ⟨_, hp⟩ ?_
     · exact st_len (E := (Ek.pair Ek.str (Ek.pair Ek.bool (Ek.pair (Ek.int .i64) Ek.bool)))) hf (by decide) Try.underlying77 rfl rfl (rl20.sl hp) tk
     clear hf; intro a hf
     refine dr_takeK 10 (.int .i64 (imin sx0_window (sx0_left.length : Int))) rfl hf rfl (fun w ⟨_, hp⟩ => ?_) ⟨_, hp⟩ ?_
     · exact st_imin hf (by decide) rfl rfl rfl tk
     clear hf; intro a hf
     refine dr_takeK 11 (.bool (decide (k5 < (imin sx0_window (sx0_left.length : Int))))) rfl hf rfl (fun w ⟨_, hp⟩ => ?_) ⟨_, hp⟩ ?_
     · exact st_ilss hf (by decide) rfl rfl rfl tk
     clear hf; intro a hf
     refine dr_takeK 12 (.bool (decide (k5 < (imin sx0_window (sx0_left.length : Int))))) rfl hf rfl (fun w ⟨_, hp⟩ => ?_) ⟨_, hp⟩ ?_
     · exact st_move hf rfl rfl (by decide) tk
     clear hf; intro a hf
     refine dr_takeK 13 (osx0) rfl hf (wantY hf rfl rfl hb22) (fun w ⟨_, hp⟩ => ?_) ⟨_, hp⟩ ?_
     · exact st_move hf (wantY hf rfl rfl hb22) rfl (by decide) tk
     clear hf; intro a hf
     refine dr_nilV 14 rfl (by kernel_rfl) (by kernel_rfl) (by kernel_rfl) hf (by decide) (wantY hf rfl rfl hb22) rfl (rl19.ob hp) ?_
     clear hf; intro a hf
     refine dr_takeK 15 (optr osx0 4) rfl hf (wantY hf rfl rfl hb22) (fun w ⟨_, hp⟩ => ?_) ⟨_, hp⟩ ?_
     · exact st_fa (o' := 4) hf (by decide) (off := 4) (sz := 1) (by kernel_rfl) (by decide) (wantY hf rfl rfl hb22) rfl (rl19.ob hp) rfl tk
     clear hf; intro a hf
     refine dr_takeK 16 (vsx0_left) rfl hf (wantY hf rfl rfl hb22) (fun w ⟨_, hp⟩ => ?_) ⟨_, hp⟩ ?_
     · exact st_ldO (u := vsx0_left) hf (by decide) pl77 (wantY hf rfl rfl hb22) rfl (rl19.ob hp) rfl tk
     clear hf; intro a hf
     refine dr_takeK 17 (.int .i64 k5) rfl hf (wantY hf rfl rfl hb22) (fun w ⟨_, hp⟩ => ?_) ⟨_, hp⟩ ?_
     · exact st_move hf (wantY hf rfl rfl hb22) rfl (by decide) tk
     clear hf; intro a hf
     refine dr_takeK 18 (eptr vsx0_left k5 4) rfl hf (wantY hf rfl rfl hb22) (fun w ⟨_, hp⟩ => ?_) ⟨_, hp⟩ ?_
     · exact st_index (E := (Ek.pair Ek.str (Ek.pair Ek.bool (Ek.pair (Ek.int .i64) Ek.bool)))) hf (by decide) Try.underlying77 elt81 (wantY hf rfl rfl hb22) rfl rfl (rl20.sl hp) hc23.1 hc23.2 tk
     clear hf; intro a hf
     refine dr_takeK 19 (optr (eptr vsx0_left k5 4) 1) rfl hf (wantY hf rfl rfl hb22) (fun w ⟨_, hp⟩ => ?_) ⟨_, hp⟩ ?_
     · exact st_faP (off := 1) (sz := 1) hf (by decide) (by kernel_rfl) (by decide) (wantY hf rfl rfl hb22) rfl (Sl.isP (rl20.sl hp) hc23.1 hc23.2) tk
     clear hf; intro a hf
     refine dr_takeK 20 (.bool ((gt sx0_left k5).2.1)) rfl hf (wantY hf rfl rfl hb22) (fun w ⟨_, hp⟩ => ?_) ⟨_, hp⟩ ?_
     · exact st_ldQ (F := Ek.bool) (yv := (gt sx0_left k5).2.1) hf (by decide) pl4 (fun x => .bool x) (fun _ _ h => h) (wantY hf rfl rfl hb22) rfl (Sl.part (E := (Ek.pair Ek.str (Ek.pair Ek.bool (Ek.pair (Ek.int .i64) Ek.bool)))) (F := Ek.bool) (o := 1) (Sub.comp (Sub.snd (E := Ek.str) (F := (Ek.pair Ek.bool (Ek.pair (Ek.int .i64) Ek.bool)))) (Sub.fst (E := Ek.bool) (F := (Ek.pair (Ek.int .i64) Ek.bool)))) (rl20.sl hp) hc23.1 hc23.2) tk
     clear hf; intro a hf
     refine dr_takeK 21 (.bool z24) rfl hf rfl (fun w ⟨_, hp⟩ => ?_) ⟨_, hp⟩ ?_
     · exact st_pick (v := .bool z24) hf rfl rfl (fun _ => by rw [← hz21]; rfl) (fun hb' => absurd (hb22.symm.trans hb') (by decide)) (by decide) tk
     clear hf; intro a hf
     refine dr_end (by kernel_rfl) ?_ _
     have hp := bk18 _ _ hp
     have hp := bk13 _ _ hp
     exact ⟨hf.sub ⟨rfl, rfl, rfl, rfl, trivial⟩, hp⟩
    skip
    replace hz21 := ifF hz21 hb22
    replace hz21 := Option.some.inj hz21
    refine dr_begin' _ (fun w' => ∃ l, Hp S14 w w' l) [] (by kernel_rfl) ?_
    refine dr_takeK 0 (.int .i64 k5) rfl hf rfl (fun w ⟨_, hp⟩ => ?_) ⟨_, hp⟩ ?_
    · exact st_move hf rfl rfl (by decide) tk
    clear hf; intro a hf
    refine dr_takeK 1 (osx0) rfl hf rfl (fun w ⟨_, hp⟩ => ?_) ⟨_, hp⟩ ?_
    · exact st_move hf rfl rfl (by decide) tk
    clear hf; intro a hf
    refine dr_nilV 2 rfl (by kernel_rfl) (by kernel_rfl) (by kernel_rfl) hf (by decide) rfl rfl (rl19.ob hp) ?_
    clear hf; intro a hf
    refine dr_takeK 3 (optr osx0 0) rfl hf rfl (fun w ⟨_, hp⟩ => ?_) ⟨_, hp⟩ ?_
    · exact st_fa (o' := 0) hf (by decide) (off := 0) (sz := 1) (by kernel_rfl) (by decide) rfl rfl (rl19.ob hp) rfl tk
    clear hf; intro a hf
    refine dr_takeK 4 (.int .i64 sx0_window) rfl hf rfl (fun w ⟨_, hp⟩ => ?_) ⟨_, hp⟩ ?_
    · exact st_ldO (u := .int .i64 sx0_window) hf (by decide) pl3 rfl rfl (rl19.ob hp) rfl tk
    clear hf; intro a hf
    refine dr_takeK 5 (osx0) rfl hf rfl (fun w ⟨_, hp⟩ => ?_) ⟨_, hp⟩ ?_
    · exact st_move hf rfl rfl (by decide) tk
    clear hf; intro a hf
    refine dr_nilV 6 rfl (by kernel_rfl) (by kernel_rfl) (by kernel_rfl) hf (by decide) rfl rfl (rl19.ob hp) ?_
    clear hf; intro a hf
    refine dr_takeK 7 (optr osx0 4) rfl hf rfl (fun w ⟨_, hp⟩ => ?_) ⟨_, hp⟩ ?_
    · exact st_fa (o' := 4) hf (by decide) (off := 4) (sz := 1) (by kernel_rfl) (by decide) rfl rfl (rl19.ob hp) rfl tk
    clear hf; intro a hf
    refine dr_takeK 8 (vsx0_left) rfl hf rfl (fun w ⟨_, hp⟩ => ?_) ⟨_, hp⟩ ?_
    · exact st_ldO (u := vsx0_left) hf (by decide) pl77 rfl rfl (rl19.ob hp) rfl tk
    clear hf; intro a hf
    refine dr_takeK 9 (.int .i64 (sx0_left.length : Int)) rfl hf rfl (fun w ⟨_, hp⟩ => ?_) ⟨_, hp⟩ ?_
    · exact st_len (E := (Ek.pair Ek.str (Ek.pair Ek.bool (Ek.pair (Ek.int .i64) Ek.bool)))) hf (by decide) Try.underlying77 rfl rfl (rl20.sl hp) tk
    clear hf; intro a hf
    refine dr_takeK 10 (.int .i64 (imin sx0_window (sx0_left.length : Int))) rfl hf rfl (fun w ⟨_, hp⟩ => ?_) ⟨_, hp⟩ ?_
    · exact st_imin hf (by decide) rfl rfl rfl tk
    clear hf; intro a hf
    refine dr_takeK 11 (.bool (decide (k5 < (imin sx0_window (sx0_left.length : Int))))) rfl hf rfl (fun w ⟨_, hp⟩ => ?_) ⟨_, hp⟩ ?_
    · exact st_ilss hf (by decide) rfl rfl rfl tk
    clear hf; intro a hf
    refine dr_takeK 12 (.bool (decide (k5 < (imin sx0_window (sx0_left.length : Int))))) rfl hf rfl (fun w ⟨_, hp⟩ => ?_) ⟨_, hp⟩ ?_
    · exact st_move hf rfl rfl (by decide) tk
    clear hf; intro a hf
    refine dr_outK 13 rfl hf rfl (wantN hf rfl rfl hb22) ⟨_, hp⟩ ?_
    clear hf; intro a hf
    refine dr_outP 14 rfl (by kernel_rfl) (by kernel_rfl) (by kernel_rfl) rfl hf (by decide) (wantN hf rfl rfl hb22) ?_
    clear hf; intro a hf
    refine dr_outK 15 rfl hf rfl (wantN hf rfl rfl hb22) ⟨_, hp⟩ ?_
    clear hf; intro a hf
    refine dr_outK 16 rfl hf rfl (wantN hf rfl rfl hb22) ⟨_, hp⟩ ?_
    clear hf; intro a hf
    refine dr_outK 17 rfl hf rfl (wantN hf rfl rfl hb22) ⟨_, hp⟩ ?_
    clear hf; intro a hf
    refine dr_outK 18 rfl hf rfl (wantN hf rfl rfl hb22) ⟨_, hp⟩ ?_
    clear hf; intro a hf
    refine dr_outK 19 rfl hf rfl (wantN hf rfl rfl hb22) ⟨_, hp⟩ ?_
    clear hf; intro a hf
    refine dr_outK 20 rfl hf rfl (wantN hf rfl rfl hb22) ⟨_, hp⟩ ?_
    clear hf; intro a hf
    refine dr_takeK 21 (.bool z24) rfl hf rfl (fun w ⟨_, hp⟩ => ?_) ⟨_, hp⟩ ?_
    · exact st_pick (v := .bool z24) hf rfl rfl (fun hb' => absurd (hb22.symm.trans hb') (by decide)) (fun _ => by rw [← hz21]; rfl) (by decide) tk
    clear hf; intro a hf
    refine dr_end (by kernel_rfl) ?_ _
    have hp := bk18 _ _ hp
    have hp := bk13 _ _ hp
    exact ⟨hf.sub ⟨rfl, rfl, rfl, rfl, trivial⟩, hp⟩
   rintro a w ⟨hf, hp⟩
   refine th_n ?_
   refine wp_if hf rfl (fun hb => ?_) (fun hb => ?_)
   ·
    replace h := ifT h hb
    refine wp_skip ?_
    refine th_n ?_
    refine wp_block ?_
    refine wp_reg ?_
    refine st_move hf rfl rfl (by decide) ?_
    clear hf; intro a ha hf; clear ha
    refine st_iadd hf (by decide) rfl rfl rfl ?_
    clear hf; intro a ha hf; clear ha
    refine st_assign hf rfl rfl (by decide) ?_
    clear hf; intro a ha hf; clear ha
    refine st_nil hf ?_
    refine ib_n ?_
    obtain rfl := Option.some.inj h
    exact rnd_l ⟨hf.sub ⟨rfl, rfl, rfl, trivial⟩, hp⟩
   replace h := ifF h hb
   refine wp_exit ?_
   refine th_e ?_
   obtain rfl := Option.some.inj h
   exact rnd_r (by simp) ⟨rfl, hf.sub ⟨rfl, rfl, rfl, trivial⟩, hp⟩
  clear hl hf hp
  intro e a w hne hO
  obtain ⟨rfl, hf, hp⟩ := hO
  refine ib_same ?_
  refine th_n ?_
  refine wp_seq ?_
  obtain ⟨S26, hp27, rd28, up29, bk30⟩ := Hp.lendO hp (i := 2) rfl
  obtain ⟨S31, hp32, rd33, up34, bk35⟩ := Hp.lendO hp27 (i := 0) rfl
  have rl36 := rd33
  have rl37 := ((rd28.now hp27).mono up34)
  refine wp_cutN (fun a w => Fr 126 a [(0, osx0), (3, optr v3 0), (5, .int .i64 q25), (6, .int .i64 (IntKind.i64.wrap (IntKind.u8.wrap (f1_Number - (IntKind.u8.wrap sx0_front)))))] ∧ Hp S w0 w (Res.obj 31 v3 [.int .u8 f1_Kind, .int .u8 f1_Number, .bool f1_More, .string f1_Body] :: Res.obj 79 osx0 [.int .i64 sx0_window, .int .i64 sx0_wait, .int .i64 sx0_now, .int .i64 sx0_front, vsx0_left] :: Res.sl (Ek.pair Ek.str (Ek.pair Ek.bool (Ek.pair (Ek.int .i64) Ek.bool))) 81 vsx0_left sx0_left :: ow)) ?_ ?_
  ·
   have hp := hp32.same (Same.drew w)
   refine dr_begin' _ (fun w' => ∃ l, Hp S31 w w' l) [] (by kernel_rfl) ?_
   refine dr_takeK 0 (optr v3 1) rfl hf rfl (fun w ⟨_, hp⟩ => ?_) ⟨_, hp⟩ ?_
   · exact st_fa (o' := 1) hf (by decide) (off := 1) (sz := 1) (by kernel_rfl) (by decide) rfl rfl (rl37.ob hp) rfl tk
   clear hf; intro a hf
   refine dr_takeK 1 (.int .u8 f1_Number) rfl hf rfl (fun w ⟨_, hp⟩ => ?_) ⟨_, hp⟩ ?_
   · exact st_ldO (u := .int .u8 f1_Number) hf (by decide) pl5 rfl rfl (rl37.ob hp) rfl tk
   clear hf; intro a hf
   refine dr_takeK 2 (osx0) rfl hf rfl (fun w ⟨_, hp⟩ => ?_) ⟨_, hp⟩ ?_
   · exact st_move hf rfl rfl (by decide) tk
   clear hf; intro a hf
   refine dr_nilV 3 rfl (by kernel_rfl) (by kernel_rfl) (by kernel_rfl) hf (by decide) rfl rfl (rl36.ob hp) ?_
   clear hf; intro a hf
   refine dr_takeK 4 (optr osx0 3) rfl hf rfl (fun w ⟨_, hp⟩ => ?_) ⟨_, hp⟩ ?_
   · exact st_fa (o' := 3) hf (by decide) (off := 3) (sz := 1) (by kernel_rfl) (by decide) rfl rfl (rl36.ob hp) rfl tk
   clear hf; intro a hf
   refine dr_takeK 5 (.int .i64 sx0_front) rfl hf rfl (fun w ⟨_, hp⟩ => ?_) ⟨_, hp⟩ ?_
   · exact st_ldO (u := .int .i64 sx0_front) hf (by decide) pl3 rfl rfl (rl36.ob hp) rfl tk
   clear hf; intro a hf
   refine dr_takeK 6 (.int .u8 (IntKind.u8.wrap sx0_front)) rfl hf rfl (fun w ⟨_, hp⟩ => ?_) ⟨_, hp⟩ ?_
   · exact st_conv_ii hf (by decide) (by rw [Try.underlying3]; rfl) Try.underlying5 rfl rfl tk
   clear hf; intro a hf
   refine dr_takeK 7 (.int .u8 (IntKind.u8.wrap (f1_Number - (IntKind.u8.wrap sx0_front)))) rfl hf rfl (fun w ⟨_, hp⟩ => ?_) ⟨_, hp⟩ ?_
   · exact st_isub hf (by decide) rfl rfl rfl tk
   clear hf; intro a hf
   refine dr_takeK 8 (.int .i64 (IntKind.i64.wrap (IntKind.u8.wrap (f1_Number - (IntKind.u8.wrap sx0_front))))) rfl hf rfl (fun w ⟨_, hp⟩ => ?_) ⟨_, hp⟩ ?_
   · exact st_conv_ii hf (by decide) (by rw [Try.underlying5]; rfl) Try.underlying3 rfl rfl tk
   clear hf; intro a hf
   refine dr_takeK 9 (.int .i64 (IntKind.i64.wrap (IntKind.u8.wrap (f1_Number - (IntKind.u8.wrap sx0_front))))) rfl hf rfl (fun w ⟨_, hp⟩ => ?_) ⟨_, hp⟩ ?_
   · exact st_assign hf rfl rfl (by decide) tk
   clear hf; intro a hf
   refine dr_end (by kernel_rfl) ?_ _
   have hp := bk35 _ _ hp
   have hp := bk30 _ _ hp
   exact ⟨hf.sub ⟨rfl, rfl, rfl, rfl, trivial⟩, hp⟩
  rintro a w ⟨hf, hp⟩
  refine th_n ?_
  refine wp_seq ?_
  refine wp_seq ?_
  refine wp_reg ?_
  refine st_move hf rfl rfl (by decide) ?_
  clear hf; intro a ha hf; clear ha
  refine st_move hf rfl rfl (by decide) ?_
  clear hf; intro a ha hf; clear ha
  refine st_igtr hf (by decide) rfl rfl rfl ?_
  clear hf; intro a ha hf; clear ha
  refine st_nil hf ?_
  refine th_n ?_
  refine wp_if hf rfl (fun hb => ?_) (fun hb => ?_)
  ·
   replace h := ifT h hb
   refine wp_seq ?_
   refine wp_reg ?_
   refine st_assign hf rfl rfl (by decide) ?_
   clear hf; intro a ha hf; clear ha
   refine st_nil hf ?_
   refine th_n ?_
   refine wp_ret ?_
   refine th_r ?_
   obtain rfl := Option.some.inj h
   have hp : Hp _ _ _ (_ :: _ :: ow) := Hp.sel (pre := [Res.obj 31 v3 [.int .u8 f1_Kind, .int .u8 f1_Number, .bool f1_More, .string f1_Body], Res.obj 79 osx0 [.int .i64 sx0_window, .int .i64 sx0_wait, .int .i64 sx0_now, .int .i64 sx0_front, vsx0_left], Res.sl (Ek.pair Ek.str (Ek.pair Ek.bool (Ek.pair (Ek.int .i64) Ek.bool))) 81 vsx0_left sx0_left]) (tail := ow) (rs' := [Res.sl (Ek.pair Ek.str (Ek.pair Ek.bool (Ek.pair (Ek.int .i64) Ek.bool))) 81 vsx0_left sx0_left, Res.obj 79 osx0 [.int .i64 sx0_window, .int .i64 sx0_wait, .int .i64 sx0_now, .int .i64 sx0_front, vsx0_left]]) hp [2, 1] (by decide) (by simp) rfl
   exact ⟨rfl, ⟨_, hf.sub ⟨rfl, trivial⟩, hp⟩⟩
  replace h := ifF h hb
  refine wp_skip ?_
  refine th_n ?_
  refine wp_seq ?_
  refine wp_seq ?_
  refine wp_reg ?_
  refine st_move hf rfl rfl (by decide) ?_
  clear hf; intro a ha hf; clear ha
  refine st_move hf rfl rfl (by decide) ?_
  clear hf; intro a ha hf; clear ha
  refine st_nil hf ?_
  refine th_n ?_
  refine wp_block ?_
  obtain ⟨q53, hl, h⟩ := bnd h
  have hp : Hp _ _ _ (_ :: _ :: Res.obj 31 v3 [.int .u8 f1_Kind, .int .u8 f1_Number, .bool f1_More, .string f1_Body] :: ow) := Hp.sel (pre := [Res.obj 31 v3 [.int .u8 f1_Kind, .int .u8 f1_Number, .bool f1_More, .string f1_Body], Res.obj 79 osx0 [.int .i64 sx0_window, .int .i64 sx0_wait, .int .i64 sx0_now, .int .i64 sx0_front, vsx0_left], Res.sl (Ek.pair Ek.str (Ek.pair Ek.bool (Ek.pair (Ek.int .i64) Ek.bool))) 81 vsx0_left sx0_left]) (tail := ow) (rs' := [Res.sl (Ek.pair Ek.str (Ek.pair Ek.bool (Ek.pair (Ek.int .i64) Ek.bool))) 81 vsx0_left sx0_left, Res.obj 79 osx0 [.int .i64 sx0_window, .int .i64 sx0_wait, .int .i64 sx0_now, .int .i64 sx0_front, vsx0_left], Res.obj 31 v3 [.int .u8 f1_Kind, .int .u8 f1_Number, .bool f1_More, .string f1_Body]]) hp [2, 1, 0] (by decide) (by simp) rfl
  refine wp_loop_pure (f := (f_again_Sender_Hear.s2 sx0_front f1_Number f1_Body q25)) (s := (sx0_window, sx0_wait, sx0_now, sx0_front, sx0_left, (0 : Int))) (fun s a w => ∃ (v38 : Value), Fr 126 a [(0, osx0), (3, optr v3 0), (6, .int .i64 (IntKind.i64.wrap (IntKind.u8.wrap (f1_Number - (IntKind.u8.wrap sx0_front))))), (60, .int .i64 q25), (61, .int .i64 s.2.2.2.2.2)] ∧ Hp S w0 w (Res.sl (Ek.pair Ek.str (Ek.pair Ek.bool (Ek.pair (Ek.int .i64) Ek.bool))) 81 v38 s.2.2.2.2.1 :: Res.obj 79 osx0 [.int .i64 s.1, .int .i64 s.2.1, .int .i64 s.2.2.1, .int .i64 s.2.2.2.1, v38] :: Res.obj 31 v3 [.int .u8 f1_Kind, .int .u8 f1_Number, .bool f1_More, .string f1_Body] :: ow)) (fun q e a w => e = .exit 2 ∧ ∃ (v41 : Value), Fr 126 a [(0, osx0)] ∧ Hp S w0 w (Res.sl (Ek.pair Ek.str (Ek.pair Ek.bool (Ek.pair (Ek.int .i64) Ek.bool))) 81 v41 q.2.2.2.2 :: Res.obj 79 osx0 [.int .i64 q.1, .int .i64 q.2.1, .int .i64 q.2.2.1, .int .i64 q.2.2.2.1, v41] :: ow)) ?_ hl ⟨_, hf.sub ⟨rfl, rfl, rfl, rfl, rfl, trivial⟩, hp⟩ ?_
  ·
   clear hl hf hp
   intro s x a w h hI
   obtain ⟨sx0c_0, sx0c_1, sx0c_2, sx0c_3, sx0c_4, t61⟩ := s
   obtain ⟨v38, hf, hp⟩ : ∃ (v38 : Value), Fr 126 a [(0, osx0), (3, optr v3 0), (6, .int .i64 (IntKind.i64.wrap (IntKind.u8.wrap (f1_Number - (IntKind.u8.wrap sx0_front))))), (60, .int .i64 q25), (61, .int .i64 t61)] ∧ Hp S w0 w (Res.sl (Ek.pair Ek.str (Ek.pair Ek.bool (Ek.pair (Ek.int .i64) Ek.bool))) 81 v38 sx0c_4 :: Res.obj 79 osx0 [.int .i64 sx0c_0, .int .i64 sx0c_1, .int .i64 sx0c_2, .int .i64 sx0c_3, v38] :: Res.obj 31 v3 [.int .u8 f1_Kind, .int .u8 f1_Number, .bool f1_More, .string f1_Body] :: ow) := hI
   replace h : f_again_Sender_Hear.s2c sx0_front f1_Number f1_Body q25 sx0c_0 sx0c_1 sx0c_2 sx0c_3 sx0c_4 t61 = some x := h
   unfold f_again_Sender_Hear.s2c at h
   refine wp_seq ?_
   refine wp_reg ?_
   refine st_ilss hf (by decide) rfl rfl rfl ?_
   clear hf; intro a ha hf; clear ha
   refine st_nil hf ?_
   refine th_n ?_
   refine wp_seq ?_
   refine wp_if hf rfl (fun hb => ?_) (fun hb => ?_)
   ·
    replace h := ifT h hb
    refine wp_skip ?_
    refine th_n ?_
    refine wp_seq ?_
    refine wp_block ?_
    refine wp_seq ?_
    refine wp_reg ?_
    refine st_move hf rfl rfl (by decide) ?_
    clear hf; intro a ha hf; clear ha
    refine st_assign hf rfl rfl (by decide) ?_
    clear hf; intro a ha hf; clear ha
    refine st_nil hf ?_
    refine th_n ?_
    refine wp_seq ?_
    refine wp_reg ?_
    refine st_move hf rfl rfl (by decide) ?_
    clear hf; intro a ha hf; clear ha
    refine st_move hf rfl rfl (by decide) ?_
    clear hf; intro a ha hf; clear ha
    refine st_isub hf (by decide) rfl rfl rfl ?_
    clear hf; intro a ha hf; clear ha
    refine st_isub hf (by decide) rfl rfl rfl ?_
    clear hf; intro a ha hf; clear ha
    refine st_assign hf rfl rfl (by decide) ?_
    clear hf; intro a ha hf; clear ha
    refine st_nil hf ?_
    refine th_n ?_
    refine wp_seq ?_
    refine wp_reg ?_
    refine st_move hf rfl rfl (by decide) ?_
    clear hf; intro a ha hf; clear ha
    refine st_move hf rfl rfl (by decide) ?_
    clear hf; intro a ha hf; clear ha
    refine st_ilss hf (by decide) rfl rfl rfl ?_
    clear hf; intro a ha hf; clear ha
    refine st_move hf rfl rfl (by decide) ?_
    clear hf; intro a ha hf; clear ha
    obtain ⟨z46, hz44, h⟩ := bnd h
    refine wpList_cut 16 (fun a w => Fr 126 a [(0, osx0), (3, optr v3 0), (6, .int .i64 (IntKind.i64.wrap (IntKind.u8.wrap (f1_Number - (IntKind.u8.wrap sx0_front))))), (7, .int .i64 t61), (60, .int .i64 q25), (61, .int .i64 t61), (87, .bool z46)] ∧ Hp S w0 w (Res.sl (Ek.pair Ek.str (Ek.pair Ek.bool (Ek.pair (Ek.int .i64) Ek.bool))) 81 v38 sx0c_4 :: Res.obj 79 osx0 [.int .i64 sx0c_0, .int .i64 sx0c_1, .int .i64 sx0c_2, .int .i64 sx0c_3, v38] :: Res.obj 31 v3 [.int .u8 f1_Kind, .int .u8 f1_Number, .bool f1_More, .string f1_Body] :: ow)) ?_ ?_
    ·
     rcases Bool.eq_false_or_eq_true (decide (t61 < (IntKind.i64.wrap (IntKind.u8.wrap (f1_Number - (IntKind.u8.wrap sx0_front)))))) with hb45 | hb45
     ·
      replace hz44 := ifT hz44 hb45
      refine st_skip hf (wantN hf rfl rfl hb45) rfl (by decide) ?_ rfl
      clear hf; intro a hf
      refine st_skip hf (wantN hf rfl rfl hb45) rfl (by decide) ?_ rfl
      clear hf; intro a hf
      refine st_skipU hf (wantN hf rfl rfl hb45) rfl (by decide) ?_
      clear hf; intro a hf
      refine st_skip hf (wantU hf rfl rfl) rfl (by decide) ?_ rfl
      clear hf; intro a hf
      refine st_skip hf (wantU hf rfl rfl) rfl (by decide) ?_ rfl
      clear hf; intro a hf
      refine st_skip hf (wantU hf rfl rfl) rfl (by decide) ?_ rfl
      clear hf; intro a hf
      refine st_skip hf (wantU hf rfl rfl) rfl (by decide) ?_ rfl
      clear hf; intro a hf
      refine st_skip hf (wantU hf rfl rfl) rfl (by decide) ?_ rfl
      clear hf; intro a hf
      refine st_skip hf (wantU hf rfl rfl) rfl (by decide) ?_ rfl
      clear hf; intro a hf
      refine st_skip hf (wantU hf rfl rfl) rfl (by decide) ?_ rfl
      clear hf; intro a hf
      refine st_skip hf (wantU hf rfl rfl) rfl (by decide) ?_ rfl
      clear hf; intro a hf
      refine st_skip hf (wantU hf rfl rfl) rfl (by decide) ?_ rfl
      clear hf; intro a hf
      refine st_skip hf (wantU hf rfl rfl) rfl (by decide) ?_ rfl
      clear hf; intro a hf
      refine st_skip hf (wantU hf rfl rfl) rfl (by decide) ?_ rfl
      clear hf; intro a hf
      refine st_skip hf (wantN hf rfl rfl hb45) rfl (by decide) ?_ rfl
      clear hf; intro a hf
      obtain rfl := Option.some.inj hz44
      refine st_pick (v := .bool true) hf rfl rfl (fun hb' => ?_) (fun hb' => ?_) (by decide) ?_
      · rfl
      · exact absurd (hb45.symm.trans hb') (by decide)
      clear hf; intro a ha hf; clear ha
      refine st_nil hf (th_n ?_)
      exact ⟨hf.sub ⟨rfl, rfl, rfl, rfl, rfl, rfl, rfl, trivial⟩, hp⟩
     replace hz44 := ifF hz44 hb45
     refine st_move hf (wantY hf rfl rfl hb45) rfl (by decide) ?_
     clear hf; intro a ha hf; clear ha
     refine st_igeq hf (by decide) (wantY hf rfl rfl hb45) rfl rfl ?_
     clear hf; intro a ha hf; clear ha
     refine st_move hf (wantY hf rfl rfl hb45) rfl (by decide) ?_
     clear hf; intro a ha hf; clear ha
     obtain ⟨z49, hz47, hz44⟩ := bnd hz44
     refine wpList_cut 12 (fun a w => Fr 126 a [(0, osx0), (3, optr v3 0), (6, .int .i64 (IntKind.i64.wrap (IntKind.u8.wrap (f1_Number - (IntKind.u8.wrap sx0_front))))), (7, .int .i64 t61), (60, .int .i64 q25), (61, .int .i64 t61), (71, .bool (decide (t61 < (IntKind.i64.wrap (IntKind.u8.wrap (f1_Number - (IntKind.u8.wrap sx0_front))))))), (86, .bool z49)] ∧ Hp S w0 w (Res.sl (Ek.pair Ek.str (Ek.pair Ek.bool (Ek.pair (Ek.int .i64) Ek.bool))) 81 v38 sx0c_4 :: Res.obj 79 osx0 [.int .i64 sx0c_0, .int .i64 sx0c_1, .int .i64 sx0c_2, .int .i64 sx0c_3, v38] :: Res.obj 31 v3 [.int .u8 f1_Kind, .int .u8 f1_Number, .bool f1_More, .string f1_Body] :: ow)) ?_ ?_
     ·
      rcases Bool.eq_false_or_eq_true (decide ((0 : Int) ≤ (IntKind.i64.wrap ((IntKind.i64.wrap (t61 - (IntKind.i64.wrap (IntKind.u8.wrap (f1_Number - (IntKind.u8.wrap sx0_front)))))) - (1 : Int))))) with hb48 | hb48
      ·
       replace hz47 := ifT hz47 hb48
       refine st_fa (o' := 3) hf (by decide) (off := 3) (sz := 1) (by kernel_rfl) (by decide) (wantY hf rfl rfl hb48) rfl (hp.ob (i := 2) rfl) rfl ?_
       clear hf; intro a ha hf; clear ha
       refine st_ldO (u := .string f1_Body) hf (by decide) pl9 (wantY hf rfl rfl hb48) rfl (hp.ob (i := 2) rfl) rfl ?_
       clear hf; intro a ha hf; clear ha
       refine st_move hf (wantY hf rfl rfl hb48) rfl (by decide) ?_
       clear hf; intro a ha hf; clear ha
       refine st_iquo hf (by decide) (wantY hf rfl rfl hb48) rfl rfl (by decide) ?_
       clear hf; intro a ha hf; clear ha
       obtain ⟨hc50, hz47⟩ := chk hz47
       refine st_sidx hf (by decide) Try.underlying9 (wantY hf rfl rfl hb48) rfl rfl hc50.1 hc50.2 ?_
       clear hf; intro a ha hf; clear ha
       refine st_move hf (wantY hf rfl rfl hb48) rfl (by decide) ?_
       clear hf; intro a ha hf; clear ha
       refine st_irem hf (by decide) (wantY hf rfl rfl hb48) rfl rfl (by decide) ?_
       clear hf; intro a ha hf; clear ha
       refine st_isub hf (by decide) (wantY hf rfl rfl hb48) rfl rfl ?_
       clear hf; intro a ha hf; clear ha
       obtain ⟨hc51, hz47⟩ := chk hz47
       refine st_ishr hf (by decide) (wantY hf rfl rfl hb48) rfl rfl hc51 ?_
       clear hf; intro a ha hf; clear ha
       refine st_iand hf (by decide) (wantY hf rfl rfl hb48) rfl rfl ?_
       clear hf; intro a ha hf; clear ha
       refine st_ieql hf (by decide) (wantY hf rfl rfl hb48) rfl rfl ?_
       clear hf; intro a ha hf; clear ha
       obtain rfl := Option.some.inj hz47
       refine st_pick (v := .bool ((iand .u8 (ishr .u8 (bt f1_Body (IntKind.i64.wrap (((IntKind.i64.wrap ((IntKind.i64.wrap (t61 - (IntKind.i64.wrap (IntKind.u8.wrap (f1_Number - (IntKind.u8.wrap sx0_front)))))) - (1 : Int)))).tdiv (8 : Int)))) (IntKind.i64.wrap ((7 : Int) - (((IntKind.i64.wrap ((IntKind.i64.wrap (t61 - (IntKind.i64.wrap (IntKind.u8.wrap (f1_Number - (IntKind.u8.wrap sx0_front)))))) - (1 : Int)))).tmod (8 : Int))))) (1 : Int)) == (1 : Int))) hf (wantY hf rfl rfl hb45) rfl (fun hb' => ?_) (fun hb' => ?_) (by decide) ?_
       · rfl
       · exact absurd (hb48.symm.trans hb') (by decide)
       clear hf; intro a ha hf; clear ha
       refine st_nil hf (th_n ?_)
       exact ⟨hf.sub ⟨rfl, rfl, rfl, rfl, rfl, rfl, rfl, rfl, trivial⟩, hp⟩
      replace hz47 := ifF hz47 hb48
      refine st_skip hf (wantN hf rfl rfl hb48) rfl (by decide) ?_ rfl
      clear hf; intro a hf
      refine st_skip hf (wantN hf rfl rfl hb48) rfl (by decide) ?_ rfl
      clear hf; intro a hf
      refine st_skip hf (wantN hf rfl rfl hb48) rfl (by decide) ?_ rfl
      clear hf; intro a hf
      refine st_skip hf (wantN hf rfl rfl hb48) rfl (by decide) ?_ rfl
      clear hf; intro a hf
      refine st_skip hf (wantN hf rfl rfl hb48) rfl (by decide) ?_ rfl
      clear hf; intro a hf
      refine st_skip hf (wantN hf rfl rfl hb48) rfl (by decide) ?_ rfl
      clear hf; intro a hf
      refine st_skip hf (wantN hf rfl rfl hb48) rfl (by decide) ?_ rfl
      clear hf; intro a hf
      refine st_skip hf (wantN hf rfl rfl hb48) rfl (by decide) ?_ rfl
      clear hf; intro a hf
      refine st_skip hf (wantN hf rfl rfl hb48) rfl (by decide) ?_ rfl
      clear hf; intro a hf
      refine st_skip hf (wantN hf rfl rfl hb48) rfl (by decide) ?_ rfl
      clear hf; intro a hf
      refine st_skip hf (wantN hf rfl rfl hb48) rfl (by decide) ?_ rfl
      clear hf; intro a hf
      obtain rfl := Option.some.inj hz47
      refine st_pick (v := .bool false) hf (wantY hf rfl rfl hb45) rfl (fun hb' => ?_) (fun hb' => ?_) (by decide) ?_
      · exact absurd (hb48.symm.trans hb') (by decide)
      · rfl
      clear hf; intro a ha hf; clear ha
      refine st_nil hf (th_n ?_)
      exact ⟨hf.sub ⟨rfl, rfl, rfl, rfl, rfl, rfl, rfl, rfl, trivial⟩, hp⟩
     rintro a w ⟨hf, hp⟩
     obtain rfl := Option.some.inj hz44
     refine st_pick (v := .bool z49) hf rfl rfl (fun hb' => ?_) (fun hb' => ?_) (by decide) ?_
     · exact absurd (hb45.symm.trans hb') (by decide)
     · rfl
     clear hf; intro a ha hf; clear ha
     refine st_nil hf (th_n ?_)
     exact ⟨hf.sub ⟨rfl, rfl, rfl, rfl, rfl, rfl, rfl, trivial⟩, hp⟩
    rintro a w ⟨hf, hp⟩
    refine st_nil hf ?_
    refine th_n ?_
    refine wp_if hf rfl (fun hb => ?_) (fun hb => ?_)
    ·
     replace h := ifT h hb
     refine wp_reg ?_
     refine st_move hf rfl rfl (by decide) ?_
     clear hf; intro a ha hf; clear ha
     refine st_nilV hf (by decide) rfl rfl (hp.ob (i := 1) rfl) ?_
     clear hf; intro a ha hf; clear ha
     refine st_fa (o' := 4) hf (by decide) (off := 4) (sz := 1) (by kernel_rfl) (by decide) rfl rfl (hp.ob (i := 1) rfl) rfl ?_
     clear hf; intro a ha hf; clear ha
     refine st_ldO (u := v38) hf (by decide) pl77 rfl rfl (hp.ob (i := 1) rfl) rfl ?_
     clear hf; intro a ha hf; clear ha
     refine st_move hf rfl rfl (by decide) ?_
     clear hf; intro a ha hf; clear ha
     obtain ⟨hc52, h⟩ := chk h
     refine st_index (E := (Ek.pair Ek.str (Ek.pair Ek.bool (Ek.pair (Ek.int .i64) Ek.bool)))) hf (by decide) Try.underlying77 elt81 rfl rfl rfl (hp.sl (i := 0) rfl) hc52.1 hc52.2 ?_
     clear hf; intro a ha hf; clear ha
     refine st_faP (off := 3) (sz := 1) hf (by decide) (by kernel_rfl) (by decide) rfl rfl (Sl.isP (hp.sl (i := 0) rfl) hc52.1 hc52.2) ?_
     clear hf; intro a ha hf; clear ha
     refine st_stQ (E := (Ek.pair Ek.str (Ek.pair Ek.bool (Ek.pair (Ek.int .i64) Ek.bool)))) (F := Ek.bool) (o := 3) (Sub.comp (Sub.snd (E := Ek.str) (F := (Ek.pair Ek.bool (Ek.pair (Ek.int .i64) Ek.bool)))) (Sub.comp (Sub.snd (E := Ek.bool) (F := (Ek.pair (Ek.int .i64) Ek.bool))) (Sub.snd (E := (Ek.int .i64)) (F := Ek.bool)))) hf (by kernel_rfl) hp (i := 0) rfl rfl rfl rfl rfl hc52.1 hc52.2 ?_
     clear hf; intro a w hf hp0; clear hp; have hp := hp0; clear hp0
     replace hp : Hp _ _ _ (Res.sl (Ek.pair Ek.str (Ek.pair Ek.bool (Ek.pair (Ek.int .i64) Ek.bool))) 81 v38 (sx0c_4.set (t61).toNat ((gt sx0c_4 t61).1, (gt sx0c_4 t61).2.1, (gt sx0c_4 t61).2.2.1, true)) :: Res.obj 79 osx0 [.int .i64 sx0c_0, .int .i64 sx0c_1, .int .i64 sx0c_2, .int .i64 sx0c_3, v38] :: _ :: ow) := hp
     refine st_nil hf ?_
     refine ib_n ?_
     refine th_n ?_
     refine wp_reg ?_
     refine st_iadd hf (by decide) rfl rfl rfl ?_
     clear hf; intro a ha hf; clear ha
     refine st_move hf rfl rfl (by decide) ?_
     clear hf; intro a ha hf; clear ha
     refine st_nil hf ?_
     obtain rfl := Option.some.inj h
     exact rnd_l ⟨_, hf.sub ⟨rfl, rfl, rfl, rfl, rfl, trivial⟩, hp⟩
    replace h := ifF h hb
    refine wp_skip ?_
    refine ib_n ?_
    refine th_n ?_
    refine wp_reg ?_
    refine st_iadd hf (by decide) rfl rfl rfl ?_
    clear hf; intro a ha hf; clear ha
    refine st_move hf rfl rfl (by decide) ?_
    clear hf; intro a ha hf; clear ha
    refine st_nil hf ?_
    obtain rfl := Option.some.inj h
    exact rnd_l ⟨_, hf.sub ⟨rfl, rfl, rfl, rfl, rfl, trivial⟩, hp⟩
   replace h := ifF h hb
   refine wp_exit ?_
   refine th_e ?_
   obtain rfl := Option.some.inj h
   have hp : Hp _ _ _ (Res.sl (Ek.pair Ek.str (Ek.pair Ek.bool (Ek.pair (Ek.int .i64) Ek.bool))) 81 v38 sx0c_4 :: _ :: ow) := Hp.sel (pre := [Res.sl (Ek.pair Ek.str (Ek.pair Ek.bool (Ek.pair (Ek.int .i64) Ek.bool))) 81 v38 sx0c_4, Res.obj 79 osx0 [.int .i64 sx0c_0, .int .i64 sx0c_1, .int .i64 sx0c_2, .int .i64 sx0c_3, v38], Res.obj 31 v3 [.int .u8 f1_Kind, .int .u8 f1_Number, .bool f1_More, .string f1_Body]]) (tail := ow) (rs' := [Res.sl (Ek.pair Ek.str (Ek.pair Ek.bool (Ek.pair (Ek.int .i64) Ek.bool))) 81 v38 sx0c_4, Res.obj 79 osx0 [.int .i64 sx0c_0, .int .i64 sx0c_1, .int .i64 sx0c_2, .int .i64 sx0c_3, v38]]) hp [0, 1] (by decide) (by simp) rfl
   exact rnd_r (by simp) ⟨rfl, _, hf.sub ⟨rfl, trivial⟩, hp⟩
  clear hl hf hp
  intro e a w hne hO
  obtain ⟨rfl, v41, hf, hp⟩ := hO
  refine ib_same ?_
  refine th_n ?_
  refine wp_seq ?_
  refine wp_block ?_
  obtain ⟨q67, hl, h⟩ := bnd h
  refine wp_loop_pure (f := f_again_Sender_Hear.s3) (s := (q53.1, q53.2.1, q53.2.2.1, q53.2.2.2.1, q53.2.2.2.2)) (fun s a w => ∃ (v54 : Value), Fr 126 a [(0, osx0)] ∧ Hp S w0 w (Res.sl (Ek.pair Ek.str (Ek.pair Ek.bool (Ek.pair (Ek.int .i64) Ek.bool))) 81 v54 s.2.2.2.2 :: Res.obj 79 osx0 [.int .i64 s.1, .int .i64 s.2.1, .int .i64 s.2.2.1, .int .i64 s.2.2.2.1, v54] :: ow)) (fun q e a w => e = .exit 4 ∧ ∃ (v57 : Value), Fr 126 a [(0, osx0)] ∧ Hp S w0 w (Res.sl (Ek.pair Ek.str (Ek.pair Ek.bool (Ek.pair (Ek.int .i64) Ek.bool))) 81 v57 q.2.2.2.2 :: Res.obj 79 osx0 [.int .i64 q.1, .int .i64 q.2.1, .int .i64 q.2.2.1, .int .i64 q.2.2.2.1, v57] :: ow)) ?_ hl ⟨_, hf.sub ⟨rfl, trivial⟩, hp⟩ ?_
  ·
   clear hl hf hp
   intro s x a w h hI
   obtain ⟨sx0c_0, sx0c_1, sx0c_2, sx0c_3, sx0c_4⟩ := s
   obtain ⟨v54, hf, hp⟩ : ∃ (v54 : Value), Fr 126 a [(0, osx0)] ∧ Hp S w0 w (Res.sl (Ek.pair Ek.str (Ek.pair Ek.bool (Ek.pair (Ek.int .i64) Ek.bool))) 81 v54 sx0c_4 :: Res.obj 79 osx0 [.int .i64 sx0c_0, .int .i64 sx0c_1, .int .i64 sx0c_2, .int .i64 sx0c_3, v54] :: ow) := hI
   replace h : f_again_Sender_Hear.s3c sx0c_0 sx0c_1 sx0c_2 sx0c_3 sx0c_4 = some x := h
   unfold f_again_Sender_Hear.s3c at h
   refine wp_seq ?_
   refine wp_seq ?_
   refine wp_reg ?_
   refine st_move hf rfl rfl (by decide) ?_
   clear hf; intro a ha hf; clear ha
   refine st_nilV hf (by decide) rfl rfl (hp.ob (i := 1) rfl) ?_
   clear hf; intro a ha hf; clear ha
   refine st_fa (o' := 4) hf (by decide) (off := 4) (sz := 1) (by kernel_rfl) (by decide) rfl rfl (hp.ob (i := 1) rfl) rfl ?_
   clear hf; intro a ha hf; clear ha
   refine st_ldO (u := v54) hf (by decide) pl77 rfl rfl (hp.ob (i := 1) rfl) rfl ?_
   clear hf; intro a ha hf; clear ha
   refine st_len (E := (Ek.pair Ek.str (Ek.pair Ek.bool (Ek.pair (Ek.int .i64) Ek.bool)))) hf (by decide) Try.underlying77 rfl rfl (hp.sl (i := 0) rfl) ?_
   clear hf; intro a ha hf; clear ha
   refine st_igtr hf (by decide) rfl rfl rfl ?_
   clear hf; intro a ha hf; clear ha
   refine st_move hf rfl rfl (by decide) ?_
   clear hf; intro a ha hf; clear ha
   obtain ⟨z62, hz60, h⟩ := bnd h
   refine wpList_cut 8 (fun a w => Fr 126 a [(0, osx0), (110, .bool z62)] ∧ Hp S w0 w (Res.sl (Ek.pair Ek.str (Ek.pair Ek.bool (Ek.pair (Ek.int .i64) Ek.bool))) 81 v54 sx0c_4 :: Res.obj 79 osx0 [.int .i64 sx0c_0, .int .i64 sx0c_1, .int .i64 sx0c_2, .int .i64 sx0c_3, v54] :: ow)) ?_ ?_
   ·
    rcases Bool.eq_false_or_eq_true (decide ((0 : Int) < (sx0c_4.length : Int))) with hb61 | hb61
    ·
     replace hz60 := ifT hz60 hb61
     refine st_move hf (wantY hf rfl rfl hb61) rfl (by decide) ?_
     clear hf; intro a ha hf; clear ha
     refine st_nilV hf (by decide) (wantY hf rfl rfl hb61) rfl (hp.ob (i := 1) rfl) ?_
     clear hf; intro a ha hf; clear ha
     refine st_fa (o' := 4) hf (by decide) (off := 4) (sz := 1) (by kernel_rfl) (by decide) (wantY hf rfl rfl hb61) rfl (hp.ob (i := 1) rfl) rfl ?_
     clear hf; intro a ha hf; clear ha
     refine st_ldO (u := v54) hf (by decide) pl77 (wantY hf rfl rfl hb61) rfl (hp.ob (i := 1) rfl) rfl ?_
     clear hf; intro a ha hf; clear ha
     obtain ⟨hc63, hz60⟩ := chk hz60
     refine st_index (E := (Ek.pair Ek.str (Ek.pair Ek.bool (Ek.pair (Ek.int .i64) Ek.bool)))) hf (by decide) Try.underlying77 elt81 (wantY hf rfl rfl hb61) rfl rfl (hp.sl (i := 0) rfl) hc63.1 hc63.2 ?_
     clear hf; intro a ha hf; clear ha
     refine st_faP (off := 3) (sz := 1) hf (by decide) (by kernel_rfl) (by decide) (wantY hf rfl rfl hb61) rfl (Sl.isP (hp.sl (i := 0) rfl) hc63.1 hc63.2) ?_
     clear hf; intro a ha hf; clear ha
     refine st_ldQ (F := Ek.bool) (yv := (gt sx0c_4 (0 : Int)).2.2.2) hf (by decide) pl4 (fun x => .bool x) (fun _ _ h => h) (wantY hf rfl rfl hb61) rfl (Sl.part (E := (Ek.pair Ek.str (Ek.pair Ek.bool (Ek.pair (Ek.int .i64) Ek.bool)))) (F := Ek.bool) (o := 3) (Sub.comp (Sub.snd (E := Ek.str) (F := (Ek.pair Ek.bool (Ek.pair (Ek.int .i64) Ek.bool)))) (Sub.comp (Sub.snd (E := Ek.bool) (F := (Ek.pair (Ek.int .i64) Ek.bool))) (Sub.snd (E := (Ek.int .i64)) (F := Ek.bool)))) (hp.sl (i := 0) rfl) hc63.1 hc63.2) ?_
     clear hf; intro a ha hf; clear ha
     obtain rfl := Option.some.inj hz60
     refine st_pick (v := .bool ((gt sx0c_4 (0 : Int)).2.2.2)) hf rfl rfl (fun hb' => ?_) (fun hb' => ?_) (by decide) ?_
     · rfl
     · exact absurd (hb61.symm.trans hb') (by decide)
     clear hf; intro a ha hf; clear ha
     refine st_nil hf (th_n ?_)
     exact ⟨hf.sub ⟨rfl, rfl, trivial⟩, hp⟩
    replace hz60 := ifF hz60 hb61
    refine st_skip hf (wantN hf rfl rfl hb61) rfl (by decide) ?_ rfl
    clear hf; intro a hf
    refine st_skip hf (wantN hf rfl rfl hb61) rfl (by decide) ?_ rfl
    clear hf; intro a hf
    refine st_skip hf (wantN hf rfl rfl hb61) rfl (by decide) ?_ rfl
    clear hf; intro a hf
    refine st_skip hf (wantN hf rfl rfl hb61) rfl (by decide) ?_ rfl
    clear hf; intro a hf
    refine st_skip hf (wantN hf rfl rfl hb61) rfl (by decide) ?_ rfl
    clear hf; intro a hf
    refine st_skip hf (wantN hf rfl rfl hb61) rfl (by decide) ?_ rfl
    clear hf; intro a hf
    refine st_skip hf (wantN hf rfl rfl hb61) rfl (by decide) ?_ rfl
    clear hf; intro a hf
    obtain rfl := Option.some.inj hz60
    refine st_pick (v := .bool false) hf rfl rfl (fun hb' => ?_) (fun hb' => ?_) (by decide) ?_
    · exact absurd (hb61.symm.trans hb') (by decide)
    · rfl
    clear hf; intro a ha hf; clear ha
    refine st_nil hf (th_n ?_)
    exact ⟨hf.sub ⟨rfl, rfl, trivial⟩, hp⟩
   rintro a w ⟨hf, hp⟩
   refine st_nil hf ?_
   refine th_n ?_
   refine wp_if hf rfl (fun hb => ?_) (fun hb => ?_)
   ·
    replace h := ifT h hb
    refine wp_skip ?_
    refine th_n ?_
    refine wp_block ?_
    refine wp_seq ?_
    refine wp_reg ?_
    refine st_move hf rfl rfl (by decide) ?_
    clear hf; intro a ha hf; clear ha
    refine st_move hf rfl rfl (by decide) ?_
    clear hf; intro a ha hf; clear ha
    refine st_nilV hf (by decide) rfl rfl (hp.ob (i := 1) rfl) ?_
    clear hf; intro a ha hf; clear ha
    refine st_fa (o' := 4) hf (by decide) (off := 4) (sz := 1) (by kernel_rfl) (by decide) rfl rfl (hp.ob (i := 1) rfl) rfl ?_
    clear hf; intro a ha hf; clear ha
    refine st_ldO (u := v54) hf (by decide) pl77 rfl rfl (hp.ob (i := 1) rfl) rfl ?_
    clear hf; intro a ha hf; clear ha
    obtain ⟨hc64, h⟩ := chk h
    have hc65 : ((1 : Int)).toNat ≤ sx0c_4.length := by omega
    refine st_cutS (E := (Ek.pair Ek.str (Ek.pair Ek.bool (Ek.pair (Ek.int .i64) Ek.bool)))) hf (by decide) Try.underlying77 elt81 rfl rfl (hp.sl (i := 0) rfl) (.inr ⟨_, _, rfl, evI rfl hc64.1⟩) (.inl ⟨rfl, rfl⟩) hc65 (Nat.le_refl _) ?_
    clear hf; intro a ha hf; clear ha
    replace hp : Hp _ _ _ (Res.sl (Ek.pair Ek.str (Ek.pair Ek.bool (Ek.pair (Ek.int .i64) Ek.bool))) 81 (GL.cut v54 ((1 : Int)).toNat sx0c_4.length 4) (sx0c_4.drop ((1 : Int)).toNat) :: Res.obj 79 osx0 [.int .i64 sx0c_0, .int .i64 sx0c_1, .int .i64 sx0c_2, .int .i64 sx0c_3, v54] :: ow) := hp.cutFront (i := 0) rfl hc65
    refine st_nilV hf (by decide) rfl rfl (hp.ob (i := 1) rfl) ?_
    clear hf; intro a ha hf; clear ha
    refine st_fa (o' := 4) hf (by decide) (off := 4) (sz := 1) (by kernel_rfl) (by decide) rfl rfl (hp.ob (i := 1) rfl) rfl ?_
    clear hf; intro a ha hf; clear ha
    refine st_stO (us := [(GL.cut v54 ((1 : Int)).toNat sx0c_4.length 4)]) hf hp (i := 1) rfl rfl rfl rfl (cells_sh (hp.sl (i := 0) rfl).shapeV) (ones_sh (hp.sl (i := 0) rfl).shapeV) (by kernel_rfl) (Nat.le_of_ble_eq_true rfl) ?_
    clear hf; intro a w hf hp0; clear hp; have hp := hp0; clear hp0
    replace hp : Hp _ _ _ (_ :: Res.obj 79 osx0 [.int .i64 sx0c_0, .int .i64 sx0c_1, .int .i64 sx0c_2, .int .i64 sx0c_3, (GL.cut v54 ((1 : Int)).toNat sx0c_4.length 4)] :: ow) := hp
    refine st_nil hf ?_
    refine th_n ?_
    refine wp_reg ?_
    refine st_move hf rfl rfl (by decide) ?_
    clear hf; intro a ha hf; clear ha
    refine st_nilV hf (by decide) rfl rfl (hp.ob (i := 1) rfl) ?_
    clear hf; intro a ha hf; clear ha
    refine st_fa (o' := 3) hf (by decide) (off := 3) (sz := 1) (by kernel_rfl) (by decide) rfl rfl (hp.ob (i := 1) rfl) rfl ?_
    clear hf; intro a ha hf; clear ha
    refine st_ldO (u := .int .i64 sx0c_3) hf (by decide) pl3 rfl rfl (hp.ob (i := 1) rfl) rfl ?_
    clear hf; intro a ha hf; clear ha
    refine st_iadd hf (by decide) rfl rfl rfl ?_
    clear hf; intro a ha hf; clear ha
    refine st_nilV hf (by decide) rfl rfl (hp.ob (i := 1) rfl) ?_
    clear hf; intro a ha hf; clear ha
    refine st_fa (o' := 3) hf (by decide) (off := 3) (sz := 1) (by kernel_rfl) (by decide) rfl rfl (hp.ob (i := 1) rfl) rfl ?_
    clear hf; intro a ha hf; clear ha
    refine st_stO (us := [.int .i64 (IntKind.i64.wrap (sx0c_3 + (1 : Int)))]) hf hp (i := 1) rfl rfl rfl rfl rfl (by rfl) (by kernel_rfl) (Nat.le_of_ble_eq_true rfl) ?_
    clear hf; intro a w hf hp0; clear hp; have hp := hp0; clear hp0
    replace hp : Hp _ _ _ (_ :: Res.obj 79 osx0 [.int .i64 sx0c_0, .int .i64 sx0c_1, .int .i64 sx0c_2, .int .i64 (IntKind.i64.wrap (sx0c_3 + (1 : Int))), (GL.cut v54 ((1 : Int)).toNat sx0c_4.length 4)] :: ow) := hp
    refine st_nil hf ?_
    refine ib_n ?_
    obtain rfl := Option.some.inj h
    exact rnd_l ⟨_, hf.sub ⟨rfl, trivial⟩, hp⟩
   replace h := ifF h hb
   refine wp_exit ?_
   refine th_e ?_
   obtain rfl := Option.some.inj h
   exact rnd_r (by simp) ⟨rfl, _, hf.sub ⟨rfl, trivial⟩, hp⟩
  clear hl hf hp
  intro e a w hne hO
  obtain ⟨rfl, v57, hf, hp⟩ := hO
  refine ib_same ?_
  refine th_n ?_
  refine wp_seq ?_
  refine wp_reg ?_
  refine st_assign hf rfl rfl (by decide) ?_
  clear hf; intro a ha hf; clear ha
  refine st_nil hf ?_
  refine th_n ?_
  refine wp_ret ?_
  obtain rfl := Option.some.inj h
  exact ⟨rfl, ⟨_, hf.sub ⟨rfl, trivial⟩, hp⟩⟩

noncomputable def f_again_Sender_Left (sx0_window : Int) (sx0_wait : Int) (sx0_now : Int) (sx0_front : Int) (sx0_left : (List (ByteArray × Bool × Int × Bool))) : Option Int := (some (sx0_left.length : Int))
theorem f_again_Sender_Left_c {S : Nat → Prop} {w0 w : World} {ow : List Res} (hp : Hp S w0 w ow) (sx0_window : Int) (sx0_wait : Int) (sx0_now : Int) (sx0_front : Int) (vsx0_left : Value) (sx0_left : (List (ByteArray × Bool × Int × Bool))) (hsx0_left : RdS (Ek.pair Ek.str (Ek.pair Ek.bool (Ek.pair (Ek.int .i64) Ek.bool))) S w0 vsx0_left sx0_left) (osx0 : Value) (hosx0 : RdO S w0 osx0 [.int .i64 sx0_window, .int .i64 sx0_wait, .int .i64 sx0_now, .int .i64 sx0_front, vsx0_left]) {r : Int} (h : f_again_Sender_Left sx0_window sx0_wait sx0_now sx0_front sx0_left = some r) :
    Calls Try.prog 25 #[osx0] w (fun e w' => e = .returned (.int .i64 r) ∧ Hp S w0 w' (ow)) := by
  unfold f_again_Sender_Left at h
  refine enter (n := 10) (args := [osx0]) Try.func25 rfl rfl (Nat.le_of_ble_eq_true rfl) fun a hf => ?_
  replace hf : Fr 10 a [(0, osx0)] := hf
  refine wp_mono (Q := fun e a w => e = .ret ∧ Fr 10 a [(2, .int .i64 r)] ∧ Hp S w0 w (ow)) ?_ ?_
  rotate_left
  · rintro e a w ⟨rfl, hf, hp⟩
    exact ret1 hf rfl rfl ⟨rfl, hp⟩
  refine wp_seq ?_
  refine wp_reg ?_
  refine st_assign hf rfl rfl (by decide) ?_
  clear hf; intro a ha hf; clear ha
  refine st_nil hf ?_
  refine th_n ?_
  refine wp_seq ?_
  refine wp_seq ?_
  refine wp_reg ?_
  refine st_move hf rfl rfl (by decide) ?_
  clear hf; intro a ha hf; clear ha
  refine st_peql hf (by decide) Try.underlying44 rfl rfl rfl (nilF (hosx0.ob hp).e) ?_
  clear hf; intro a ha hf; clear ha
  refine st_nil hf ?_
  refine th_n ?_
  refine wp_if hf rfl (fun hb => ?_) (fun hb => ?_)
  · exact absurd hb (by decide)
  refine wp_skip ?_
  refine th_n ?_
  refine wp_seq ?_
  refine wp_reg ?_
  refine st_move hf rfl rfl (by decide) ?_
  clear hf; intro a ha hf; clear ha
  refine st_nilV hf (by decide) rfl rfl (hosx0.ob hp) ?_
  clear hf; intro a ha hf; clear ha
  refine st_fa (o' := 4) hf (by decide) (off := 4) (sz := 1) (by kernel_rfl) (by decide) rfl rfl (hosx0.ob hp) rfl ?_
  clear hf; intro a ha hf; clear ha
  refine st_ldO (u := vsx0_left) hf (by decide) pl77 rfl rfl (hosx0.ob hp) rfl ?_
  clear hf; intro a ha hf; clear ha
  refine st_len (E := (Ek.pair Ek.str (Ek.pair Ek.bool (Ek.pair (Ek.int .i64) Ek.bool)))) hf (by decide) Try.underlying77 rfl rfl (hsx0_left.sl hp) ?_
  clear hf; intro a ha hf; clear ha
  refine st_assign hf rfl rfl (by decide) ?_
  clear hf; intro a ha hf; clear ha
  refine st_nil hf ?_
  refine th_n ?_
  refine wp_ret ?_
  obtain rfl := Option.some.inj h
  exact ⟨rfl, ⟨hf.sub ⟨rfl, trivial⟩, hp⟩⟩

noncomputable def f_again_Receiver_Handed (r0_window : Int) (r0_next : Int) : Option Int := (some r0_next)
theorem f_again_Receiver_Handed_c {S : Nat → Prop} {w0 w : World} {ow : List Res} (hp : Hp S w0 w ow) (r0_window : Int) (r0_next : Int) (vr0_kept : Value) (or0 : Value) (hor0 : RdO S w0 or0 [.int .i64 r0_window, .int .i64 r0_next, vr0_kept]) {r : Int} (h : f_again_Receiver_Handed r0_window r0_next = some r) :
    Calls Try.prog 14 #[or0] w (fun e w' => e = .returned (.int .i64 r) ∧ Hp S w0 w' (ow)) := by
  unfold f_again_Receiver_Handed at h
  refine enter (n := 9) (args := [or0]) Try.func14 rfl rfl (Nat.le_of_ble_eq_true rfl) fun a hf => ?_
  replace hf : Fr 9 a [(0, or0)] := hf
  refine wp_mono (Q := fun e a w => e = .ret ∧ Fr 9 a [(2, .int .i64 r)] ∧ Hp S w0 w (ow)) ?_ ?_
  rotate_left
  · rintro e a w ⟨rfl, hf, hp⟩
    exact ret1 hf rfl rfl ⟨rfl, hp⟩
  refine wp_seq ?_
  refine wp_reg ?_
  refine st_assign hf rfl rfl (by decide) ?_
  clear hf; intro a ha hf; clear ha
  refine st_nil hf ?_
  refine th_n ?_
  refine wp_seq ?_
  refine wp_seq ?_
  refine wp_reg ?_
  refine st_move hf rfl rfl (by decide) ?_
  clear hf; intro a ha hf; clear ha
  refine st_peql hf (by decide) Try.underlying23 rfl rfl rfl (nilF (hor0.ob hp).e) ?_
  clear hf; intro a ha hf; clear ha
  refine st_nil hf ?_
  refine th_n ?_
  refine wp_if hf rfl (fun hb => ?_) (fun hb => ?_)
  · exact absurd hb (by decide)
  refine wp_skip ?_
  refine th_n ?_
  refine wp_seq ?_
  refine wp_reg ?_
  refine st_move hf rfl rfl (by decide) ?_
  clear hf; intro a ha hf; clear ha
  refine st_nilV hf (by decide) rfl rfl (hor0.ob hp) ?_
  clear hf; intro a ha hf; clear ha
  refine st_fa (o' := 1) hf (by decide) (off := 1) (sz := 1) (by kernel_rfl) (by decide) rfl rfl (hor0.ob hp) rfl ?_
  clear hf; intro a ha hf; clear ha
  refine st_ldO (u := .int .i64 r0_next) hf (by decide) pl3 rfl rfl (hor0.ob hp) rfl ?_
  clear hf; intro a ha hf; clear ha
  refine st_assign hf rfl rfl (by decide) ?_
  clear hf; intro a ha hf; clear ha
  refine st_nil hf ?_
  refine th_n ?_
  refine wp_ret ?_
  obtain rfl := Option.some.inj h
  exact ⟨rfl, ⟨hf.sub ⟨rfl, trivial⟩, hp⟩⟩

end Go.Proofs.Ytmdigffgmohcnaa
