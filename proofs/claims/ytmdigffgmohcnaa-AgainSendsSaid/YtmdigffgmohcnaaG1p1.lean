/- The functions foghorn foghornlaw28.AgainSends: what each answers, as a plain function, and that its call answers it; printed by gen.py. -/
import Derived.Test.YtmdigffgmohcnaaProg
import Derived.Test.YtmdigffgmohcnaaGlUa
import Derived.KernelRfl
set_option linter.unusedVariables false
set_option linter.unusedSimpArgs false
set_option maxRecDepth 100000
set_option maxHeartbeats 4000000
namespace Go.Proofs.Ytmdigffgmohcnaa
open GL
def pk79 : PtrK (Int × Int × Int × Int × (List (ByteArray × Bool × Int × Bool))) where
  R := fun v s => Res.ex fun (u : Value) => Res.star [Res.obj 79 v [.int .i64 s.1, .int .i64 s.2.1, .int .i64 s.2.2.1, .int .i64 s.2.2.2.1, u], Res.sl (Ek.pair Ek.str (Ek.pair Ek.bool (Ek.pair (Ek.int .i64) Ek.bool))) 81 u s.2.2.2.2]
  sh := fun ⟨_, h⟩ => star_sh h
theorem pk79_in {S : Nat → Prop} {w0 w : World} {rs : List Res} {v : Value} {s : (Int × Int × Int × Int × (List (ByteArray × Bool × Int × Bool)))} (hp : Hp S w0 w (pk79.R v s :: rs)) : ∃ u : Value, Hp S w0 w (Res.obj 79 v [.int .i64 s.1, .int .i64 s.2.1, .int .i64 s.2.2.1, .int .i64 s.2.2.2.1, u] :: Res.sl (Ek.pair Ek.str (Ek.pair Ek.bool (Ek.pair (Ek.int .i64) Ek.bool))) 81 u s.2.2.2.2 :: rs) := by
  obtain ⟨u, h⟩ := Hp.exOpen hp
  exact ⟨u, h.unstar⟩
theorem pk79_out {S : Nat → Prop} {w0 w : World} {rs : List Res} {v : Value} {s : (Int × Int × Int × Int × (List (ByteArray × Bool × Int × Bool)))} {u : Value} (hp : Hp S w0 w (Res.obj 79 v [.int .i64 s.1, .int .i64 s.2.1, .int .i64 s.2.2.1, .int .i64 s.2.2.2.1, u] :: Res.sl (Ek.pair Ek.str (Ek.pair Ek.bool (Ek.pair (Ek.int .i64) Ek.bool))) 81 u s.2.2.2.2 :: rs)) : Hp S w0 w (pk79.R v s :: rs) :=
  Hp.exClose (R := fun u => Res.star [Res.obj 79 v [.int .i64 s.1, .int .i64 s.2.1, .int .i64 s.2.2.1, .int .i64 s.2.2.2.1, u], Res.sl (Ek.pair Ek.str (Ek.pair Ek.bool (Ek.pair (Ek.int .i64) Ek.bool))) 81 u s.2.2.2.2]) (i := u) (Hp.star (l := [Res.obj 79 v [.int .i64 s.1, .int .i64 s.2.1, .int .i64 s.2.2.1, .int .i64 s.2.2.2.1, u], Res.sl (Ek.pair Ek.str (Ek.pair Ek.bool (Ek.pair (Ek.int .i64) Ek.bool))) 81 u s.2.2.2.2]) hp)
def pk53 : PtrK (Int × Int × Int × (List (ByteArray × Int × Bool))) where
  R := fun v s => Res.ex fun (u : Value) => Res.star [Res.obj 53 v [.int .i64 s.1, .int .i64 s.2.1, .int .i64 s.2.2.1, u], Res.sl (Ek.pair Ek.str (Ek.pair (Ek.int .i64) Ek.bool)) 83 u s.2.2.2]
  sh := fun ⟨_, h⟩ => star_sh h
theorem pk53_in {S : Nat → Prop} {w0 w : World} {rs : List Res} {v : Value} {s : (Int × Int × Int × (List (ByteArray × Int × Bool)))} (hp : Hp S w0 w (pk53.R v s :: rs)) : ∃ u : Value, Hp S w0 w (Res.obj 53 v [.int .i64 s.1, .int .i64 s.2.1, .int .i64 s.2.2.1, u] :: Res.sl (Ek.pair Ek.str (Ek.pair (Ek.int .i64) Ek.bool)) 83 u s.2.2.2 :: rs) := by
  obtain ⟨u, h⟩ := Hp.exOpen hp
  exact ⟨u, h.unstar⟩
theorem pk53_out {S : Nat → Prop} {w0 w : World} {rs : List Res} {v : Value} {s : (Int × Int × Int × (List (ByteArray × Int × Bool)))} {u : Value} (hp : Hp S w0 w (Res.obj 53 v [.int .i64 s.1, .int .i64 s.2.1, .int .i64 s.2.2.1, u] :: Res.sl (Ek.pair Ek.str (Ek.pair (Ek.int .i64) Ek.bool)) 83 u s.2.2.2 :: rs)) : Hp S w0 w (pk53.R v s :: rs) :=
  Hp.exClose (R := fun u => Res.star [Res.obj 53 v [.int .i64 s.1, .int .i64 s.2.1, .int .i64 s.2.2.1, u], Res.sl (Ek.pair Ek.str (Ek.pair (Ek.int .i64) Ek.bool)) 83 u s.2.2.2]) (i := u) (Hp.star (l := [Res.obj 53 v [.int .i64 s.1, .int .i64 s.2.1, .int .i64 s.2.2.1, u], Res.sl (Ek.pair Ek.str (Ek.pair (Ek.int .i64) Ek.bool)) 83 u s.2.2.2]) hp)
theorem elt31 : ElT Try.prog (Ek.pair (Ek.int .u8) (Ek.pair (Ek.int .u8) (Ek.pair Ek.bool Ek.str))) 31 24 ((0 : Int), (0 : Int), false, ByteArray.empty) := ElT.of (z := .agg #[.int .u8 0, .int .u8 0, .bool false, .string ByteArray.empty]) (by kernel_rfl) ⟨[.int .u8 0], [.int .u8 0, .bool false, .string ByteArray.empty], rfl, rfl, ⟨[.int .u8 0], [.bool false, .string ByteArray.empty], rfl, rfl, ⟨[.bool false], [.string ByteArray.empty], rfl, rfl, rfl⟩⟩⟩
theorem elt33 : ElT Try.prog (Ek.pair (Ek.int .u8) (Ek.pair (Ek.int .i64) (Ek.pair Ek.bool (Ek.pair (Ek.int .u8) (Ek.pair (Ek.int .u8) (Ek.pair Ek.bool Ek.str)))))) 33 48 ((0 : Int), (0 : Int), false, ((0 : Int), (0 : Int), false, ByteArray.empty)) := ElT.of (z := .agg #[.int .u8 0, .int .i64 0, .bool false, .int .u8 0, .int .u8 0, .bool false, .string ByteArray.empty]) (by kernel_rfl) ⟨[.int .u8 0], [.int .i64 0, .bool false, .int .u8 0, .int .u8 0, .bool false, .string ByteArray.empty], rfl, rfl, ⟨[.int .i64 0], [.bool false, .int .u8 0, .int .u8 0, .bool false, .string ByteArray.empty], rfl, rfl, ⟨[.bool false], [.int .u8 0, .int .u8 0, .bool false, .string ByteArray.empty], rfl, rfl, ⟨[.int .u8 0], [.int .u8 0, .bool false, .string ByteArray.empty], rfl, rfl, ⟨[.int .u8 0], [.bool false, .string ByteArray.empty], rfl, rfl, ⟨[.bool false], [.string ByteArray.empty], rfl, rfl, rfl⟩⟩⟩⟩⟩⟩
theorem elt81 : ElT Try.prog (Ek.pair Ek.str (Ek.pair Ek.bool (Ek.pair (Ek.int .i64) Ek.bool))) 81 40 (ByteArray.empty, false, (0 : Int), false) := ElT.of (z := .agg #[.string ByteArray.empty, .bool false, .int .i64 0, .bool false]) (by kernel_rfl) ⟨[.string ByteArray.empty], [.bool false, .int .i64 0, .bool false], rfl, rfl, ⟨[.bool false], [.int .i64 0, .bool false], rfl, rfl, ⟨[.int .i64 0], [.bool false], rfl, rfl, rfl⟩⟩⟩
theorem elt83 : ElT Try.prog (Ek.pair Ek.str (Ek.pair (Ek.int .i64) Ek.bool)) 83 32 (ByteArray.empty, (0 : Int), false) := ElT.of (z := .agg #[.string ByteArray.empty, .int .i64 0, .bool false]) (by kernel_rfl) ⟨[.string ByteArray.empty], [.int .i64 0, .bool false], rfl, rfl, ⟨[.int .i64 0], [.bool false], rfl, rfl, rfl⟩⟩
theorem pl2 : Plain Try.prog 2 := ⟨⟨_, Try.underlying2, trivial⟩⟩
theorem pl3 : Plain Try.prog 3 := ⟨⟨_, Try.underlying3, trivial⟩⟩
theorem pl4 : Plain Try.prog 4 := ⟨⟨_, Try.underlying4, trivial⟩⟩
theorem pl5 : Plain Try.prog 5 := ⟨⟨_, Try.underlying5, trivial⟩⟩
theorem pl9 : Plain Try.prog 9 := ⟨⟨_, Try.underlying9, trivial⟩⟩
theorem pl44 : Plain Try.prog 44 := ⟨⟨_, Try.underlying44, trivial⟩⟩
theorem pl51 : Plain Try.prog 51 := ⟨⟨_, Try.underlying51, trivial⟩⟩
theorem pl77 : Plain Try.prog 77 := ⟨⟨_, Try.underlying77, trivial⟩⟩
noncomputable def f_again_NewSender (window0 : Int) (wait1 : Int) : Option ((Option (Int × Int × Int × Int × (List (ByteArray × Bool × Int × Bool)))) × Int) := (if (((decide (window0 < (1 : Int))) || (decide ((128 : Int) < window0))) || (decide (wait1 < (1 : Int)))) = true then (some (none, (1 : Int))) else (some ((some (window0, wait1, (0 : Int), (0 : Int), [])), (0 : Int))))
theorem f_again_NewSender_c {S : Nat → Prop} {w0 w : World} {ow : List Res} (hp : Hp S w0 w ow) (window0 : Int) (wait1 : Int) {r : ((Option (Int × Int × Int × Int × (List (ByteArray × Bool × Int × Bool)))) × Int)} (h : f_again_NewSender window0 wait1 = some r) :
    Calls Try.prog 15 #[.int .i64 window0, .int .i64 wait1] w (fun e w' => ∃ (u0 : Value), e = .returned (.tuple #[u0, .int .i64 r.2]) ∧ Hp S w0 w' (Res.opt pk79 u0 r.1 :: ow)) := by
  unfold f_again_NewSender at h
  refine enter (n := 20) (args := [.int .i64 window0, .int .i64 wait1]) Try.func15 rfl rfl (Nat.le_of_ble_eq_true rfl) fun a hf => ?_
  replace hf : Fr 20 a [(0, .int .i64 window0), (1, .int .i64 wait1)] := hf
  refine wp_mono (Q := fun e a w => e = .ret ∧ ∃ (u0 : Value), Fr 20 a [(4, u0), (5, .int .i64 r.2)] ∧ Hp S w0 w (Res.opt pk79 u0 r.1 :: ow)) ?_ ?_
  rotate_left
  · rintro e a w ⟨rfl, x0, hf, hp⟩
    exact ret2 hf rfl rfl rfl ⟨x0, rfl, hp⟩
  refine wp_seq ?_
  refine wp_reg ?_
  refine st_assign hf rfl rfl (by decide) ?_
  clear hf; intro a ha hf; clear ha
  refine st_assign hf rfl rfl (by decide) ?_
  clear hf; intro a ha hf; clear ha
  refine st_nil hf ?_
  refine th_n ?_
  refine wp_seq ?_
  refine wp_seq ?_
  refine wp_reg ?_
  refine st_move hf rfl rfl (by decide) ?_
  clear hf; intro a ha hf; clear ha
  refine st_ilss hf (by decide) rfl rfl rfl ?_
  clear hf; intro a ha hf; clear ha
  refine st_move hf rfl rfl (by decide) ?_
  clear hf; intro a ha hf; clear ha
  refine wpList_cut 3 (fun a w => Fr 20 a [(0, .int .i64 window0), (1, .int .i64 wait1), (11, .bool ((decide (window0 < (1 : Int))) || (decide ((128 : Int) < window0))))] ∧ Hp S w0 w (ow)) ?_ ?_
  · rcases Bool.eq_false_or_eq_true (decide (window0 < (1 : Int))) with hb2 | hb2
    · skip
      refine st_skip hf (wantN hf rfl rfl hb2) rfl (by decide) ?_ rfl
      clear hf; intro a hf
      refine st_skip hf (wantN hf rfl rfl hb2) rfl (by decide) ?_ rfl
      clear hf; intro a hf
      refine st_pick (v := .bool true) hf rfl rfl (fun hb' => ?_) (fun hb' => ?_) (by decide) ?_
      · rfl
      · exact absurd (hb2.symm.trans hb') (by decide)
      clear hf; intro a ha hf; clear ha
      refine st_nil hf (th_n ?_)
      exact ⟨hf.sub ⟨rfl, rfl, (by rw [hb2]; rfl), trivial⟩, hp⟩
    refine st_move hf (wantY hf rfl rfl hb2) rfl (by decide) ?_
    clear hf; intro a ha hf; clear ha
    refine st_igtr hf (by decide) (wantY hf rfl rfl hb2) rfl rfl ?_
    clear hf; intro a ha hf; clear ha
    refine st_pick (v := .bool (decide ((128 : Int) < window0))) hf rfl rfl (fun hb' => ?_) (fun hb' => ?_) (by decide) ?_
    · exact absurd (hb2.symm.trans hb') (by decide)
    · rfl
    clear hf; intro a ha hf; clear ha
    refine st_nil hf (th_n ?_)
    exact ⟨hf.sub ⟨rfl, rfl, (by rw [hb2]; rfl), trivial⟩, hp⟩
  rintro a w ⟨hf, hp⟩
  refine st_move hf rfl rfl (by decide) ?_
  clear hf; intro a ha hf; clear ha
  refine wpList_cut 3 (fun a w => Fr 20 a [(0, .int .i64 window0), (1, .int .i64 wait1), (15, .bool (((decide (window0 < (1 : Int))) || (decide ((128 : Int) < window0))) || (decide (wait1 < (1 : Int)))))] ∧ Hp S w0 w (ow)) ?_ ?_
  · rcases Bool.eq_false_or_eq_true ((decide (window0 < (1 : Int))) || (decide ((128 : Int) < window0))) with hb4 | hb4
    · skip
      refine st_skip hf (wantN hf rfl rfl hb4) rfl (by decide) ?_ rfl
      clear hf; intro a hf
      refine st_skip hf (wantN hf rfl rfl hb4) rfl (by decide) ?_ rfl
      clear hf; intro a hf
      refine st_pick (v := .bool true) hf rfl rfl (fun hb' => ?_) (fun hb' => ?_) (by decide) ?_
      · rfl
      · exact absurd (hb4.symm.trans hb') (by decide)
      clear hf; intro a ha hf; clear ha
      refine st_nil hf (th_n ?_)
      exact ⟨hf.sub ⟨rfl, rfl, (by rw [hb4]; rfl), trivial⟩, hp⟩
    refine st_move hf (wantY hf rfl rfl hb4) rfl (by decide) ?_
    clear hf; intro a ha hf; clear ha
    refine st_ilss hf (by decide) (wantY hf rfl rfl hb4) rfl rfl ?_
    clear hf; intro a ha hf; clear ha
    refine st_pick (v := .bool (decide (wait1 < (1 : Int)))) hf rfl rfl (fun hb' => ?_) (fun hb' => ?_) (by decide) ?_
    · exact absurd (hb4.symm.trans hb') (by decide)
    · rfl
    clear hf; intro a ha hf; clear ha
    refine st_nil hf (th_n ?_)
    exact ⟨hf.sub ⟨rfl, rfl, (by rw [hb4]; rfl), trivial⟩, hp⟩
  rintro a w ⟨hf, hp⟩
  refine st_nil hf ?_
  refine th_n ?_
  refine wp_if hf rfl (fun hb => ?_) (fun hb => ?_)
  · replace h := ifT h hb
    refine wp_seq ?_
    refine wp_reg ?_
    refine st_assign hf rfl rfl (by decide) ?_
    clear hf; intro a ha hf; clear ha
    refine st_assign hf rfl rfl (by decide) ?_
    clear hf; intro a ha hf; clear ha
    refine st_nil hf ?_
    refine th_n ?_
    refine wp_ret ?_
    refine th_r ?_
    obtain rfl := Option.some.inj h
    have hp := hp.optNil pk79
    exact ⟨rfl, ⟨_, hf.sub ⟨rfl, rfl, trivial⟩, hp⟩⟩
  replace h := ifF h hb
  refine wp_skip ?_
  refine th_n ?_
  refine wp_seq ?_
  refine wp_reg ?_
  refine st_move hf rfl rfl (by decide) ?_
  clear hf; intro a ha hf; clear ha
  refine st_move hf rfl rfl (by decide) ?_
  clear hf; intro a ha hf; clear ha
  refine st_buildA (vals := [(0, .int .i64 window0), (1, .int .i64 wait1)]) (cells := [.int .i64 window0, .int .i64 wait1, .int .i64 (0 : Int), .int .i64 (0 : Int), .slice none 0 0]) hf (by decide) rfl (by simp [hf.ev (x := (Operand.tmp 16)) rfl, hf.ev (x := (Operand.tmp 17)) rfl]) (fun w => by kernel_rfl) ?_
  clear hf; intro a ha hf; clear ha
  refine st_boxO (cs := [.int .i64 window0, .int .i64 wait1, .int .i64 (0 : Int), .int .i64 (0 : Int), .slice none 0 0]) hf (by decide) hp rfl rfl rfl ?_
  clear hf; intro a w v6 hf hp0; clear hp; have hp := hp0; clear hp0
  replace hp : Hp _ _ _ (Res.obj 79 v6 [.int .i64 window0, .int .i64 wait1, .int .i64 (0 : Int), .int .i64 (0 : Int), .slice none 0 0] :: ow) := hp
  rw [hp.eq0] at hf
  refine st_assign hf rfl rfl (by decide) ?_
  clear hf; intro a ha hf; clear ha
  refine st_assign hf rfl rfl (by decide) ?_
  clear hf; intro a ha hf; clear ha
  refine st_nil hf ?_
  refine th_n ?_
  refine wp_ret ?_
  have hp := hp.nil (Ek.pair Ek.str (Ek.pair Ek.bool (Ek.pair (Ek.int .i64) Ek.bool))) 81
  have hp : Hp _ _ _ (Res.obj 79 v6 [.int .i64 window0, .int .i64 wait1, .int .i64 (0 : Int), .int .i64 (0 : Int), .slice none 0 0] :: Res.sl (Ek.pair Ek.str (Ek.pair Ek.bool (Ek.pair (Ek.int .i64) Ek.bool))) 81 (.slice none 0 0) ([]) :: ow) := Hp.sel (pre := [Res.sl (Ek.pair Ek.str (Ek.pair Ek.bool (Ek.pair (Ek.int .i64) Ek.bool))) 81 (.slice none 0 0) ([]), Res.obj 79 v6 [.int .i64 window0, .int .i64 wait1, .int .i64 (0 : Int), .int .i64 (0 : Int), .slice none 0 0]]) (tail := ow) (rs' := [Res.obj 79 v6 [.int .i64 window0, .int .i64 wait1, .int .i64 (0 : Int), .int .i64 (0 : Int), .slice none 0 0], Res.sl (Ek.pair Ek.str (Ek.pair Ek.bool (Ek.pair (Ek.int .i64) Ek.bool))) 81 (.slice none 0 0) ([])]) hp [1, 0] (by decide) (by simp) rfl
  replace hp : Hp _ _ _ (Res.opt pk79 v6 (some (window0, wait1, (0 : Int), (0 : Int), [])) :: ow) := pk79_out (s := (window0, wait1, (0 : Int), (0 : Int), [])) (u := .slice none 0 0) hp
  obtain rfl := Option.some.inj h
  exact ⟨rfl, ⟨_, hf.sub ⟨rfl, rfl, trivial⟩, hp⟩⟩

noncomputable def f_foghornref28_NewSender (window0 : Int) (wait1 : Int) : Option ((Option (Int × Int × Int × (List (ByteArray × Int × Bool)))) × Int) := (if (((decide (window0 < (1 : Int))) || (decide ((128 : Int) < window0))) || (decide (wait1 < (1 : Int)))) = true then (some (none, (1 : Int))) else (some ((some (window0, wait1, (0 : Int), [])), (0 : Int))))
theorem f_foghornref28_NewSender_c {S : Nat → Prop} {w0 w : World} {ow : List Res} (hp : Hp S w0 w ow) (window0 : Int) (wait1 : Int) {r : ((Option (Int × Int × Int × (List (ByteArray × Int × Bool)))) × Int)} (h : f_foghornref28_NewSender window0 wait1 = some r) :
    Calls Try.prog 16 #[.int .i64 window0, .int .i64 wait1] w (fun e w' => ∃ (u0 : Value), e = .returned (.tuple #[u0, .int .i64 r.2]) ∧ Hp S w0 w' (Res.opt pk53 u0 r.1 :: ow)) := by
  unfold f_foghornref28_NewSender at h
  refine enter (n := 20) (args := [.int .i64 window0, .int .i64 wait1]) Try.func16 rfl rfl (Nat.le_of_ble_eq_true rfl) fun a hf => ?_
  replace hf : Fr 20 a [(0, .int .i64 window0), (1, .int .i64 wait1)] := hf
  refine wp_mono (Q := fun e a w => e = .ret ∧ ∃ (u0 : Value), Fr 20 a [(4, u0), (5, .int .i64 r.2)] ∧ Hp S w0 w (Res.opt pk53 u0 r.1 :: ow)) ?_ ?_
  rotate_left
  · rintro e a w ⟨rfl, x0, hf, hp⟩
    exact ret2 hf rfl rfl rfl ⟨x0, rfl, hp⟩
  refine wp_seq ?_
  refine wp_reg ?_
  refine st_assign hf rfl rfl (by decide) ?_
  clear hf; intro a ha hf; clear ha
  refine st_assign hf rfl rfl (by decide) ?_
  clear hf; intro a ha hf; clear ha
  refine st_nil hf ?_
  refine th_n ?_
  refine wp_seq ?_
  refine wp_seq ?_
  refine wp_reg ?_
  refine st_move hf rfl rfl (by decide) ?_
  clear hf; intro a ha hf; clear ha
  refine st_ilss hf (by decide) rfl rfl rfl ?_
  clear hf; intro a ha hf; clear ha
  refine st_move hf rfl rfl (by decide) ?_
  clear hf; intro a ha hf; clear ha
  refine wpList_cut 3 (fun a w => Fr 20 a [(0, .int .i64 window0), (1, .int .i64 wait1), (11, .bool ((decide (window0 < (1 : Int))) || (decide ((128 : Int) < window0))))] ∧ Hp S w0 w (ow)) ?_ ?_
  · rcases Bool.eq_false_or_eq_true (decide (window0 < (1 : Int))) with hb2 | hb2
    · skip
      refine st_skip hf (wantN hf rfl rfl hb2) rfl (by decide) ?_ rfl
      clear hf; intro a hf
      refine st_skip hf (wantN hf rfl rfl hb2) rfl (by decide) ?_ rfl
      clear hf; intro a hf
      refine st_pick (v := .bool true) hf rfl rfl (fun hb' => ?_) (fun hb' => ?_) (by decide) ?_
      · rfl
      · exact absurd (hb2.symm.trans hb') (by decide)
      clear hf; intro a ha hf; clear ha
      refine st_nil hf (th_n ?_)
      exact ⟨hf.sub ⟨rfl, rfl, (by rw [hb2]; rfl), trivial⟩, hp⟩
    refine st_move hf (wantY hf rfl rfl hb2) rfl (by decide) ?_
    clear hf; intro a ha hf; clear ha
    refine st_igtr hf (by decide) (wantY hf rfl rfl hb2) rfl rfl ?_
    clear hf; intro a ha hf; clear ha
    refine st_pick (v := .bool (decide ((128 : Int) < window0))) hf rfl rfl (fun hb' => ?_) (fun hb' => ?_) (by decide) ?_
    · exact absurd (hb2.symm.trans hb') (by decide)
    · rfl
    clear hf; intro a ha hf; clear ha
    refine st_nil hf (th_n ?_)
    exact ⟨hf.sub ⟨rfl, rfl, (by rw [hb2]; rfl), trivial⟩, hp⟩
  rintro a w ⟨hf, hp⟩
  refine st_move hf rfl rfl (by decide) ?_
  clear hf; intro a ha hf; clear ha
  refine wpList_cut 3 (fun a w => Fr 20 a [(0, .int .i64 window0), (1, .int .i64 wait1), (15, .bool (((decide (window0 < (1 : Int))) || (decide ((128 : Int) < window0))) || (decide (wait1 < (1 : Int)))))] ∧ Hp S w0 w (ow)) ?_ ?_
  · rcases Bool.eq_false_or_eq_true ((decide (window0 < (1 : Int))) || (decide ((128 : Int) < window0))) with hb4 | hb4
    · skip
      refine st_skip hf (wantN hf rfl rfl hb4) rfl (by decide) ?_ rfl
      clear hf; intro a hf
      refine st_skip hf (wantN hf rfl rfl hb4) rfl (by decide) ?_ rfl
      clear hf; intro a hf
      refine st_pick (v := .bool true) hf rfl rfl (fun hb' => ?_) (fun hb' => ?_) (by decide) ?_
      · rfl
      · exact absurd (hb4.symm.trans hb') (by decide)
      clear hf; intro a ha hf; clear ha
      refine st_nil hf (th_n ?_)
      exact ⟨hf.sub ⟨rfl, rfl, (by rw [hb4]; rfl), trivial⟩, hp⟩
    refine st_move hf (wantY hf rfl rfl hb4) rfl (by decide) ?_
    clear hf; intro a ha hf; clear ha
    refine st_ilss hf (by decide) (wantY hf rfl rfl hb4) rfl rfl ?_
    clear hf; intro a ha hf; clear ha
    refine st_pick (v := .bool (decide (wait1 < (1 : Int)))) hf rfl rfl (fun hb' => ?_) (fun hb' => ?_) (by decide) ?_
    · exact absurd (hb4.symm.trans hb') (by decide)
    · rfl
    clear hf; intro a ha hf; clear ha
    refine st_nil hf (th_n ?_)
    exact ⟨hf.sub ⟨rfl, rfl, (by rw [hb4]; rfl), trivial⟩, hp⟩
  rintro a w ⟨hf, hp⟩
  refine st_nil hf ?_
  refine th_n ?_
  refine wp_if hf rfl (fun hb => ?_) (fun hb => ?_)
  · replace h := ifT h hb
    refine wp_seq ?_
    refine wp_reg ?_
    refine st_assign hf rfl rfl (by decide) ?_
    clear hf; intro a ha hf; clear ha
    refine st_assign hf rfl rfl (by decide) ?_
    clear hf; intro a ha hf; clear ha
    refine st_nil hf ?_
    refine th_n ?_
    refine wp_ret ?_
    refine th_r ?_
    obtain rfl := Option.some.inj h
    have hp := hp.optNil pk53
    exact ⟨rfl, ⟨_, hf.sub ⟨rfl, rfl, trivial⟩, hp⟩⟩
  replace h := ifF h hb
  refine wp_skip ?_
  refine th_n ?_
  refine wp_seq ?_
  refine wp_reg ?_
  refine st_move hf rfl rfl (by decide) ?_
  clear hf; intro a ha hf; clear ha
  refine st_move hf rfl rfl (by decide) ?_
  clear hf; intro a ha hf; clear ha
  refine st_buildA (vals := [(0, .int .i64 window0), (1, .int .i64 wait1)]) (cells := [.int .i64 window0, .int .i64 wait1, .int .i64 (0 : Int), .slice none 0 0]) hf (by decide) rfl (by simp [hf.ev (x := (Operand.tmp 16)) rfl, hf.ev (x := (Operand.tmp 17)) rfl]) (fun w => by kernel_rfl) ?_
  clear hf; intro a ha hf; clear ha
  refine st_boxO (cs := [.int .i64 window0, .int .i64 wait1, .int .i64 (0 : Int), .slice none 0 0]) hf (by decide) hp rfl rfl rfl ?_
  clear hf; intro a w v6 hf hp0; clear hp; have hp := hp0; clear hp0
  replace hp : Hp _ _ _ (Res.obj 53 v6 [.int .i64 window0, .int .i64 wait1, .int .i64 (0 : Int), .slice none 0 0] :: ow) := hp
  rw [hp.eq0] at hf
  refine st_assign hf rfl rfl (by decide) ?_
  clear hf; intro a ha hf; clear ha
  refine st_assign hf rfl rfl (by decide) ?_
  clear hf; intro a ha hf; clear ha
  refine st_nil hf ?_
  refine th_n ?_
  refine wp_ret ?_
  have hp := hp.nil (Ek.pair Ek.str (Ek.pair (Ek.int .i64) Ek.bool)) 83
  have hp : Hp _ _ _ (Res.obj 53 v6 [.int .i64 window0, .int .i64 wait1, .int .i64 (0 : Int), .slice none 0 0] :: Res.sl (Ek.pair Ek.str (Ek.pair (Ek.int .i64) Ek.bool)) 83 (.slice none 0 0) ([]) :: ow) := Hp.sel (pre := [Res.sl (Ek.pair Ek.str (Ek.pair (Ek.int .i64) Ek.bool)) 83 (.slice none 0 0) ([]), Res.obj 53 v6 [.int .i64 window0, .int .i64 wait1, .int .i64 (0 : Int), .slice none 0 0]]) (tail := ow) (rs' := [Res.obj 53 v6 [.int .i64 window0, .int .i64 wait1, .int .i64 (0 : Int), .slice none 0 0], Res.sl (Ek.pair Ek.str (Ek.pair (Ek.int .i64) Ek.bool)) 83 (.slice none 0 0) ([])]) hp [1, 0] (by decide) (by simp) rfl
  replace hp : Hp _ _ _ (Res.opt pk53 v6 (some (window0, wait1, (0 : Int), [])) :: ow) := pk53_out (s := (window0, wait1, (0 : Int), [])) (u := .slice none 0 0) hp
  obtain rfl := Option.some.inj h
  exact ⟨rfl, ⟨_, hf.sub ⟨rfl, rfl, trivial⟩, hp⟩⟩

noncomputable def f_again_Sender_Offer (sx0_window : Int) (sx0_wait : Int) (sx0_now : Int) (sx0_front : Int) (sx0_left : (List (ByteArray × Bool × Int × Bool))) (body1 : ByteArray) : Option (Int × (Int × Int × Int × Int × (List (ByteArray × Bool × Int × Bool)))) := (if (decide ((240 : Int) < (body1.size : Int))) = true then (some ((1 : Int), (sx0_window, sx0_wait, sx0_now, sx0_front, sx0_left))) else (if (decide ((4096 : Int) ≤ (sx0_left.length : Int))) = true then (some ((3 : Int), (sx0_window, sx0_wait, sx0_now, sx0_front, sx0_left))) else (if (sx0_left.length + ([(body1, false, (0 : Int), false)]).length) * 40 ≤ 140737488355328 then (some ((0 : Int), (sx0_window, sx0_wait, sx0_now, sx0_front, (sx0_left ++ [(body1, false, (0 : Int), false)])))) else none)))
theorem f_again_Sender_Offer_c {S : Nat → Prop} {w0 w : World} {ow : List Res} (sx0_window : Int) (sx0_wait : Int) (sx0_now : Int) (sx0_front : Int) (vsx0_left : Value) (sx0_left : (List (ByteArray × Bool × Int × Bool))) (osx0 : Value) (body1 : ByteArray) (hp : Hp S w0 w (Res.sl (Ek.pair Ek.str (Ek.pair Ek.bool (Ek.pair (Ek.int .i64) Ek.bool))) 81 vsx0_left sx0_left :: Res.obj 79 osx0 [.int .i64 sx0_window, .int .i64 sx0_wait, .int .i64 sx0_now, .int .i64 sx0_front, vsx0_left] :: ow)) {r : (Int × (Int × Int × Int × Int × (List (ByteArray × Bool × Int × Bool))))} (h : f_again_Sender_Offer sx0_window sx0_wait sx0_now sx0_front sx0_left body1 = some r) :
    Calls Try.prog 17 #[osx0, .string body1] w (fun e w' => ∃ (u0 : Value), e = .returned (.int .i64 r.1) ∧ Hp S w0 w' (Res.sl (Ek.pair Ek.str (Ek.pair Ek.bool (Ek.pair (Ek.int .i64) Ek.bool))) 81 u0 r.2.2.2.2.2 :: Res.obj 79 osx0 [.int .i64 r.2.1, .int .i64 r.2.2.1, .int .i64 r.2.2.2.1, .int .i64 r.2.2.2.2.1, u0] :: ow)) := by
  unfold f_again_Sender_Offer at h
  refine enter (n := 30) (args := [osx0, .string body1]) Try.func17 rfl rfl (Nat.le_of_ble_eq_true rfl) fun a hf => ?_
  replace hf : Fr 30 a [(0, osx0), (1, .string body1)] := hf
  refine wp_mono (Q := fun e a w => e = .ret ∧ ∃ (u0 : Value), Fr 30 a [(4, .int .i64 r.1)] ∧ Hp S w0 w (Res.sl (Ek.pair Ek.str (Ek.pair Ek.bool (Ek.pair (Ek.int .i64) Ek.bool))) 81 u0 r.2.2.2.2.2 :: Res.obj 79 osx0 [.int .i64 r.2.1, .int .i64 r.2.2.1, .int .i64 r.2.2.2.1, .int .i64 r.2.2.2.2.1, u0] :: ow)) ?_ ?_
  rotate_left
  · rintro e a w ⟨rfl, x0, hf, hp⟩
    exact ret1 hf rfl rfl ⟨x0, rfl, hp⟩
  refine wp_seq ?_
  refine wp_reg ?_
  refine st_assign hf rfl rfl (by decide) ?_
  clear hf; intro a ha hf; clear ha
  refine st_nil hf ?_
  refine th_n ?_
  refine wp_seq ?_
  refine wp_block ?_
  refine wp_seq ?_
  refine wp_reg ?_
  refine st_move hf rfl rfl (by decide) ?_
  clear hf; intro a ha hf; clear ha
  refine st_peql hf (by decide) Try.underlying44 rfl rfl rfl (nilF (hp.ob (i := 1) rfl).e) ?_
  clear hf; intro a ha hf; clear ha
  refine st_assign hf rfl rfl (by decide) ?_
  clear hf; intro a ha hf; clear ha
  refine st_nil hf ?_
  refine th_n ?_
  refine wp_if hf rfl (fun hb => ?_) (fun hb => ?_)
  · exact absurd hb (by decide)
  refine wp_seq ?_
  refine wp_reg ?_
  refine st_move hf rfl rfl (by decide) ?_
  clear hf; intro a ha hf; clear ha
  refine st_slen hf (by decide) Try.underlying9 rfl rfl ?_
  clear hf; intro a ha hf; clear ha
  refine st_igtr hf (by decide) rfl rfl rfl ?_
  clear hf; intro a ha hf; clear ha
  refine st_assign hf rfl rfl (by decide) ?_
  clear hf; intro a ha hf; clear ha
  refine st_nil hf ?_
  refine th_n ?_
  refine wp_if hf rfl (fun hb => ?_) (fun hb => ?_)
  · replace h := ifT h hb
    refine wp_seq ?_
    refine wp_reg ?_
    refine st_assign hf rfl rfl (by decide) ?_
    clear hf; intro a ha hf; clear ha
    refine st_nil hf ?_
    refine th_n ?_
    refine wp_ret ?_
    refine ib_r ?_
    refine th_r ?_
    obtain rfl := Option.some.inj h
    exact ⟨rfl, ⟨_, hf.sub ⟨rfl, trivial⟩, hp⟩⟩
  replace h := ifF h hb
  refine wp_seq ?_
  refine wp_reg ?_
  refine st_move hf rfl rfl (by decide) ?_
  clear hf; intro a ha hf; clear ha
  refine st_nilV hf (by decide) rfl rfl (hp.ob (i := 1) rfl) ?_
  clear hf; intro a ha hf; clear ha
  refine st_fa (o' := 4) hf (by decide) (off := 4) (sz := 1) (by kernel_rfl) (by decide) rfl rfl (hp.ob (i := 1) rfl) rfl ?_
  clear hf; intro a ha hf; clear ha
  refine st_ldO (u := vsx0_left) hf (by decide) pl77 rfl rfl (hp.ob (i := 1) rfl) rfl ?_
  clear hf; intro a ha hf; clear ha
  refine st_len (E := (Ek.pair Ek.str (Ek.pair Ek.bool (Ek.pair (Ek.int .i64) Ek.bool)))) hf (by decide) Try.underlying77 rfl rfl (hp.sl (i := 0) rfl) ?_
  clear hf; intro a ha hf; clear ha
  refine st_igeq hf (by decide) rfl rfl rfl ?_
  clear hf; intro a ha hf; clear ha
  refine st_assign hf rfl rfl (by decide) ?_
  clear hf; intro a ha hf; clear ha
  refine st_nil hf ?_
  refine th_n ?_
  refine wp_if hf rfl (fun hb => ?_) (fun hb => ?_)
  · replace h := ifT h hb
    refine wp_seq ?_
    refine wp_reg ?_
    refine st_assign hf rfl rfl (by decide) ?_
    clear hf; intro a ha hf; clear ha
    refine st_nil hf ?_
    refine th_n ?_
    refine wp_ret ?_
    refine ib_r ?_
    refine th_r ?_
    obtain rfl := Option.some.inj h
    exact ⟨rfl, ⟨_, hf.sub ⟨rfl, trivial⟩, hp⟩⟩
  replace h := ifF h hb
  refine wp_skip ?_
  refine ib_n ?_
  refine th_n ?_
  refine wp_seq ?_
  refine wp_reg ?_
  refine st_move hf rfl rfl (by decide) ?_
  clear hf; intro a ha hf; clear ha
  refine st_move hf rfl rfl (by decide) ?_
  clear hf; intro a ha hf; clear ha
  refine st_nilV hf (by decide) rfl rfl (hp.ob (i := 1) rfl) ?_
  clear hf; intro a ha hf; clear ha
  refine st_fa (o' := 4) hf (by decide) (off := 4) (sz := 1) (by kernel_rfl) (by decide) rfl rfl (hp.ob (i := 1) rfl) rfl ?_
  clear hf; intro a ha hf; clear ha
  refine st_ldO (u := vsx0_left) hf (by decide) pl77 rfl rfl (hp.ob (i := 1) rfl) rfl ?_
  clear hf; intro a ha hf; clear ha
  refine st_move hf rfl rfl (by decide) ?_
  clear hf; intro a ha hf; clear ha
  refine st_buildA (vals := [(0, .string body1)]) (cells := [.string body1, .bool false, .int .i64 (0 : Int), .bool false]) hf (by decide) rfl (by simp [hf.ev (x := (Operand.tmp 24)) rfl]) (fun w => by kernel_rfl) ?_
  clear hf; intro a ha hf; clear ha
  refine st_build (E := (Ek.pair Ek.str (Ek.pair Ek.bool (Ek.pair (Ek.int .i64) Ek.bool)))) (xs := [(body1, false, (0 : Int), false)]) hf (by decide) elt81 Try.underlying77 hp (vals := #[(0, .agg #[.string body1, .bool false, .int .i64 (0 : Int), .bool false])]) (cells := #[.string body1, .bool false, .int .i64 (0 : Int), .bool false]) rfl (by simp [hf.ev (x := (Operand.tmp 25)) rfl]) (by decide) (by decide) (z := .agg #[.string ByteArray.empty, .bool false, .int .i64 0, .bool false]) (by kernel_rfl) (by kernel_rfl) rfl (reps_cons (cs := [.string body1, .bool false, .int .i64 (0 : Int), .bool false]) ⟨[.string body1], [.bool false, .int .i64 (0 : Int), .bool false], rfl, rfl, ⟨[.bool false], [.int .i64 (0 : Int), .bool false], rfl, rfl, ⟨[.int .i64 (0 : Int)], [.bool false], rfl, rfl, rfl⟩⟩⟩ (reps_nil _)) ?_
  clear hf; intro a w v3 hf hp0; clear hp; have hp := hp0; clear hp0
  replace hp : Hp _ _ _ (Res.sl (Ek.pair Ek.str (Ek.pair Ek.bool (Ek.pair (Ek.int .i64) Ek.bool))) 81 v3 ([(body1, false, (0 : Int), false)]) :: Res.sl (Ek.pair Ek.str (Ek.pair Ek.bool (Ek.pair (Ek.int .i64) Ek.bool))) 81 vsx0_left sx0_left :: Res.obj 79 osx0 [.int .i64 sx0_window, .int .i64 sx0_wait, .int .i64 sx0_now, .int .i64 sx0_front, vsx0_left] :: ow) := hp
  obtain ⟨hc5, h⟩ := chk h
  refine st_append (E := (Ek.pair Ek.str (Ek.pair Ek.bool (Ek.pair (Ek.int .i64) Ek.bool)))) hf (by decide) elt81 Try.underlying77 (by decide) hp (i := 1) rfl rfl rfl rfl (hp.sl (i := 0) rfl) hc5 ?_
  clear hf; intro a w v6 hf hp0; clear hp; have hp := hp0; clear hp0
  replace hp : Hp _ _ _ (Res.sl (Ek.pair Ek.str (Ek.pair Ek.bool (Ek.pair (Ek.int .i64) Ek.bool))) 81 v3 ([(body1, false, (0 : Int), false)]) :: Res.sl (Ek.pair Ek.str (Ek.pair Ek.bool (Ek.pair (Ek.int .i64) Ek.bool))) 81 v6 (sx0_left ++ [(body1, false, (0 : Int), false)]) :: Res.obj 79 osx0 [.int .i64 sx0_window, .int .i64 sx0_wait, .int .i64 sx0_now, .int .i64 sx0_front, vsx0_left] :: ow) := hp
  refine st_nilV hf (by decide) rfl rfl (hp.ob (i := 2) rfl) ?_
  clear hf; intro a ha hf; clear ha
  refine st_fa (o' := 4) hf (by decide) (off := 4) (sz := 1) (by kernel_rfl) (by decide) rfl rfl (hp.ob (i := 2) rfl) rfl ?_
  clear hf; intro a ha hf; clear ha
  refine st_stO (us := [v6]) hf hp (i := 2) rfl rfl rfl rfl (cells_sh (hp.sl (i := 1) rfl).shapeV) (ones_sh (hp.sl (i := 1) rfl).shapeV) (by kernel_rfl) (Nat.le_of_ble_eq_true rfl) ?_
  clear hf; intro a w hf hp0; clear hp; have hp := hp0; clear hp0
  replace hp : Hp _ _ _ (Res.sl (Ek.pair Ek.str (Ek.pair Ek.bool (Ek.pair (Ek.int .i64) Ek.bool))) 81 v3 ([(body1, false, (0 : Int), false)]) :: Res.sl (Ek.pair Ek.str (Ek.pair Ek.bool (Ek.pair (Ek.int .i64) Ek.bool))) 81 v6 (sx0_left ++ [(body1, false, (0 : Int), false)]) :: Res.obj 79 osx0 [.int .i64 sx0_window, .int .i64 sx0_wait, .int .i64 sx0_now, .int .i64 sx0_front, v6] :: ow) := hp
  refine st_nil hf ?_
  refine th_n ?_
  refine wp_seq ?_
  refine wp_reg ?_
  refine st_assign hf rfl rfl (by decide) ?_
  clear hf; intro a ha hf; clear ha
  refine st_nil hf ?_
  refine th_n ?_
  refine wp_ret ?_
  obtain rfl := Option.some.inj h
  have hp : Hp _ _ _ (Res.sl (Ek.pair Ek.str (Ek.pair Ek.bool (Ek.pair (Ek.int .i64) Ek.bool))) 81 v6 (sx0_left ++ [(body1, false, (0 : Int), false)]) :: Res.obj 79 osx0 [.int .i64 sx0_window, .int .i64 sx0_wait, .int .i64 sx0_now, .int .i64 sx0_front, v6] :: ow) := Hp.sel (pre := [Res.sl (Ek.pair Ek.str (Ek.pair Ek.bool (Ek.pair (Ek.int .i64) Ek.bool))) 81 v3 ([(body1, false, (0 : Int), false)]), Res.sl (Ek.pair Ek.str (Ek.pair Ek.bool (Ek.pair (Ek.int .i64) Ek.bool))) 81 v6 (sx0_left ++ [(body1, false, (0 : Int), false)]), Res.obj 79 osx0 [.int .i64 sx0_window, .int .i64 sx0_wait, .int .i64 sx0_now, .int .i64 sx0_front, v6]]) (tail := ow) (rs' := [Res.sl (Ek.pair Ek.str (Ek.pair Ek.bool (Ek.pair (Ek.int .i64) Ek.bool))) 81 v6 (sx0_left ++ [(body1, false, (0 : Int), false)]), Res.obj 79 osx0 [.int .i64 sx0_window, .int .i64 sx0_wait, .int .i64 sx0_now, .int .i64 sx0_front, v6]]) hp [1, 2] (by decide) (by simp) rfl
  exact ⟨rfl, ⟨_, hf.sub ⟨rfl, trivial⟩, hp⟩⟩

noncomputable def f_foghornref28_Sender_Front.s1c (sx0_All : (List (ByteArray × Int × Bool))) (i3 : Int) : Option (Int ⊕ Int) := ((if (decide (i3 < (sx0_All.length : Int))) = true then (if 0 ≤ i3 ∧ i3 < (sx0_All.length : Int) then (some ((gt sx0_All i3).2.2)) else none) else (some false)).bind fun z3 => (if z3 = true then (some (Sum.inl (IntKind.i64.wrap (i3 + (1 : Int))))) else (some (Sum.inr i3))))
noncomputable def f_foghornref28_Sender_Front.s1 (sx0_All : (List (ByteArray × Int × Bool))) (s : Int) : Option (Int ⊕ Int) := f_foghornref28_Sender_Front.s1c sx0_All s
noncomputable def f_foghornref28_Sender_Front (sx0_Window : Int) (sx0_Wait : Int) (sx0_Now : Int) (sx0_All : (List (ByteArray × Int × Bool))) : Option Int := ((loop (f_foghornref28_Sender_Front.s1 sx0_All) (0 : Int)).bind (fun q5 => (some q5)))
theorem f_foghornref28_Sender_Front_c {S : Nat → Prop} {w0 w : World} {ow : List Res} (hp : Hp S w0 w ow) (sx0_Window : Int) (sx0_Wait : Int) (sx0_Now : Int) (vsx0_All : Value) (sx0_All : (List (ByteArray × Int × Bool))) (hsx0_All : RdS (Ek.pair Ek.str (Ek.pair (Ek.int .i64) Ek.bool)) S w0 vsx0_All sx0_All) (osx0 : Value) (hosx0 : RdO S w0 osx0 [.int .i64 sx0_Window, .int .i64 sx0_Wait, .int .i64 sx0_Now, vsx0_All]) {r : Int} (h : f_foghornref28_Sender_Front sx0_Window sx0_Wait sx0_Now sx0_All = some r) :
    Calls Try.prog 22 #[osx0] w (fun e w' => e = .returned (.int .i64 r) ∧ Hp S w0 w' (ow)) := by
  unfold f_foghornref28_Sender_Front at h
  refine enter (n := 24) (args := [osx0]) Try.func22 rfl rfl (Nat.le_of_ble_eq_true rfl) fun a hf => ?_
  replace hf : Fr 24 a [(0, osx0)] := hf
  refine wp_mono (Q := fun e a w => e = .ret ∧ Fr 24 a [(2, .int .i64 r)] ∧ Hp S w0 w (ow)) ?_ ?_
  rotate_left
  · rintro e a w ⟨rfl, hf, hp⟩
    exact ret1 hf rfl rfl ⟨rfl, hp⟩
  refine wp_seq ?_
  refine wp_reg ?_
  refine st_assign hf rfl rfl (by decide) ?_
  clear hf; intro a ha hf; clear ha
  refine st_nil hf ?_
  refine th_n ?_
  refine wp_seq ?_
  refine wp_reg ?_
  refine st_assign hf rfl rfl (by decide) ?_
  clear hf; intro a ha hf; clear ha
  refine st_nil hf ?_
  refine th_n ?_
  refine wp_seq ?_
  refine wp_block ?_
  obtain ⟨q5, hl, h⟩ := bnd h
  refine wp_loop_pure (f := (f_foghornref28_Sender_Front.s1 sx0_All)) (s := (0 : Int)) (fun s a w => Fr 24 a [(0, osx0), (3, .int .i64 s)] ∧ Hp S w0 w (ow)) (fun q e a w => e = .exit 0 ∧ Fr 24 a [(3, .int .i64 q)] ∧ Hp S w0 w (ow)) ?_ hl ⟨hf.sub ⟨rfl, rfl, trivial⟩, hp⟩ ?_
  · clear hl hf hp
    intro s x a w h hI
    obtain ⟨i3, hs⟩ : ∃ z, z = s := ⟨s, rfl⟩; subst hs
    obtain ⟨hf, hp⟩ : Fr 24 a [(0, osx0), (3, .int .i64 i3)] ∧ Hp S w0 w (ow) := hI
    replace h : f_foghornref28_Sender_Front.s1c sx0_All i3 = some x := h
    unfold f_foghornref28_Sender_Front.s1c at h
    refine wp_seq ?_
    refine wp_seq ?_
    refine wp_reg ?_
    refine st_move hf rfl rfl (by decide) ?_
    clear hf; intro a ha hf; clear ha
    refine st_move hf rfl rfl (by decide) ?_
    clear hf; intro a ha hf; clear ha
    refine st_nilV hf (by decide) rfl rfl (hosx0.ob hp) ?_
    clear hf; intro a ha hf; clear ha
    refine st_fa (o' := 3) hf (by decide) (off := 3) (sz := 1) (by kernel_rfl) (by decide) rfl rfl (hosx0.ob hp) rfl ?_
    clear hf; intro a ha hf; clear ha
    refine st_ldO (u := vsx0_All) hf (by decide) pl51 rfl rfl (hosx0.ob hp) rfl ?_
    clear hf; intro a ha hf; clear ha
    refine st_len (E := (Ek.pair Ek.str (Ek.pair (Ek.int .i64) Ek.bool))) hf (by decide) Try.underlying51 rfl rfl (hsx0_All.sl hp) ?_
    clear hf; intro a ha hf; clear ha
    refine st_ilss hf (by decide) rfl rfl rfl ?_
    clear hf; intro a ha hf; clear ha
    refine st_move hf rfl rfl (by decide) ?_
    clear hf; intro a ha hf; clear ha
    obtain ⟨z3, hz1, h⟩ := bnd h
    refine wpList_cut 9 (fun a w => Fr 24 a [(0, osx0), (3, .int .i64 i3), (20, .bool z3)] ∧ Hp S w0 w (ow)) ?_ ?_
    · rcases Bool.eq_false_or_eq_true (decide (i3 < (sx0_All.length : Int))) with hb2 | hb2
      · skip
        replace hz1 := ifT hz1 hb2
        refine st_move hf (wantY hf rfl rfl hb2) rfl (by decide) ?_
        clear hf; intro a ha hf; clear ha
        refine st_nilV hf (by decide) (wantY hf rfl rfl hb2) rfl (hosx0.ob hp) ?_
        clear hf; intro a ha hf; clear ha
        refine st_fa (o' := 3) hf (by decide) (off := 3) (sz := 1) (by kernel_rfl) (by decide) (wantY hf rfl rfl hb2) rfl (hosx0.ob hp) rfl ?_
        clear hf; intro a ha hf; clear ha
        refine st_ldO (u := vsx0_All) hf (by decide) pl51 (wantY hf rfl rfl hb2) rfl (hosx0.ob hp) rfl ?_
        clear hf; intro a ha hf; clear ha
        refine st_move hf (wantY hf rfl rfl hb2) rfl (by decide) ?_
        clear hf; intro a ha hf; clear ha
        obtain ⟨hc4, hz1⟩ := chk hz1
        refine st_index (E := (Ek.pair Ek.str (Ek.pair (Ek.int .i64) Ek.bool))) hf (by decide) Try.underlying51 elt83 (wantY hf rfl rfl hb2) rfl rfl (hsx0_All.sl hp) hc4.1 hc4.2 ?_
        clear hf; intro a ha hf; clear ha
        refine st_faP (off := 2) (sz := 1) hf (by decide) (by kernel_rfl) (by decide) (wantY hf rfl rfl hb2) rfl (Sl.isP (hsx0_All.sl hp) hc4.1 hc4.2) ?_
        clear hf; intro a ha hf; clear ha
        refine st_ldQ (F := Ek.bool) (yv := (gt sx0_All i3).2.2) hf (by decide) pl4 (fun x => .bool x) (fun _ _ h => h) (wantY hf rfl rfl hb2) rfl (Sl.part (E := (Ek.pair Ek.str (Ek.pair (Ek.int .i64) Ek.bool))) (F := Ek.bool) (o := 2) (Sub.comp (Sub.snd (E := Ek.str) (F := (Ek.pair (Ek.int .i64) Ek.bool))) (Sub.snd (E := (Ek.int .i64)) (F := Ek.bool))) (hsx0_All.sl hp) hc4.1 hc4.2) ?_
        clear hf; intro a ha hf; clear ha
        obtain rfl := Option.some.inj hz1
        refine st_pick (v := .bool ((gt sx0_All i3).2.2)) hf rfl rfl (fun hb' => ?_) (fun hb' => ?_) (by decide) ?_
        · rfl
        · exact absurd (hb2.symm.trans hb') (by decide)
        clear hf; intro a ha hf; clear ha
        refine st_nil hf (th_n ?_)
        exact ⟨hf.sub ⟨rfl, rfl, rfl, trivial⟩, hp⟩
      replace hz1 := ifF hz1 hb2
      refine st_skip hf (wantN hf rfl rfl hb2) rfl (by decide) ?_ rfl
      clear hf; intro a hf
      refine st_skip hf (wantN hf rfl rfl hb2) rfl (by decide) ?_ rfl
      clear hf; intro a hf
      refine st_skip hf (wantN hf rfl rfl hb2) rfl (by decide) ?_ rfl
      clear hf; intro a hf
      refine st_skip hf (wantN hf rfl rfl hb2) rfl (by decide) ?_ rfl
      clear hf; intro a hf
      refine st_skip hf (wantN hf rfl rfl hb2) rfl (by decide) ?_ rfl
      clear hf; intro a hf
      refine st_skip hf (wantN hf rfl rfl hb2) rfl (by decide) ?_ rfl
      clear hf; intro a hf
      refine st_skip hf (wantN hf rfl rfl hb2) rfl (by decide) ?_ rfl
      clear hf; intro a hf
      refine st_skip hf (wantN hf rfl rfl hb2) rfl (by decide) ?_ rfl
      clear hf; intro a hf
      obtain rfl := Option.some.inj hz1
      refine st_pick (v := .bool false) hf rfl rfl (fun hb' => ?_) (fun hb' => ?_) (by decide) ?_
      · exact absurd (hb2.symm.trans hb') (by decide)
      · rfl
      clear hf; intro a ha hf; clear ha
      refine st_nil hf (th_n ?_)
      exact ⟨hf.sub ⟨rfl, rfl, rfl, trivial⟩, hp⟩
    rintro a w ⟨hf, hp⟩
    refine st_nil hf ?_
    refine th_n ?_
    refine wp_if hf rfl (fun hb => ?_) (fun hb => ?_)
    · replace h := ifT h hb
      refine wp_skip ?_
      refine th_n ?_
      refine wp_block ?_
      refine wp_reg ?_
      refine st_move hf rfl rfl (by decide) ?_
      clear hf; intro a ha hf; clear ha
      refine st_iadd hf (by decide) rfl rfl rfl ?_
      clear hf; intro a ha hf; clear ha
      refine st_assign hf rfl rfl (by decide) ?_
      clear hf; intro a ha hf; clear ha
      refine st_nil hf ?_
      refine ib_n ?_
      obtain rfl := Option.some.inj h
      exact rnd_l ⟨hf.sub ⟨rfl, rfl, trivial⟩, hp⟩
    replace h := ifF h hb
    refine wp_exit ?_
    refine th_e ?_
    obtain rfl := Option.some.inj h
    exact rnd_r (by simp) ⟨rfl, hf.sub ⟨rfl, trivial⟩, hp⟩
  clear hl hf hp
  intro e a w hne hO
  obtain ⟨rfl, hf, hp⟩ := hO
  refine ib_same ?_
  refine th_n ?_
  refine wp_seq ?_
  refine wp_reg ?_
  refine st_move hf rfl rfl (by decide) ?_
  clear hf; intro a ha hf; clear ha
  refine st_assign hf rfl rfl (by decide) ?_
  clear hf; intro a ha hf; clear ha
  refine st_nil hf ?_
  refine th_n ?_
  refine wp_ret ?_
  obtain rfl := Option.some.inj h
  exact ⟨rfl, ⟨hf.sub ⟨rfl, trivial⟩, hp⟩⟩

noncomputable def f_foghornref28_Sender_Left (sx0_Window : Int) (sx0_Wait : Int) (sx0_Now : Int) (sx0_All : (List (ByteArray × Int × Bool))) : Option Int := ((f_foghornref28_Sender_Front sx0_Window sx0_Wait sx0_Now sx0_All).bind fun q1 => (some (IntKind.i64.wrap ((sx0_All.length : Int) - q1))))
theorem f_foghornref28_Sender_Left_c {S : Nat → Prop} {w0 w : World} {ow : List Res} (hp : Hp S w0 w ow) (sx0_Window : Int) (sx0_Wait : Int) (sx0_Now : Int) (vsx0_All : Value) (sx0_All : (List (ByteArray × Int × Bool))) (hsx0_All : RdS (Ek.pair Ek.str (Ek.pair (Ek.int .i64) Ek.bool)) S w0 vsx0_All sx0_All) (osx0 : Value) (hosx0 : RdO S w0 osx0 [.int .i64 sx0_Window, .int .i64 sx0_Wait, .int .i64 sx0_Now, vsx0_All]) {r : Int} (h : f_foghornref28_Sender_Left sx0_Window sx0_Wait sx0_Now sx0_All = some r) :
    Calls Try.prog 26 #[osx0] w (fun e w' => e = .returned (.int .i64 r) ∧ Hp S w0 w' (ow)) := by
  unfold f_foghornref28_Sender_Left at h
  refine enter (n := 11) (args := [osx0]) Try.func26 rfl rfl (Nat.le_of_ble_eq_true rfl) fun a hf => ?_
  replace hf : Fr 11 a [(0, osx0)] := hf
  refine wp_mono (Q := fun e a w => e = .ret ∧ Fr 11 a [(2, .int .i64 r)] ∧ Hp S w0 w (ow)) ?_ ?_
  rotate_left
  · rintro e a w ⟨rfl, hf, hp⟩
    exact ret1 hf rfl rfl ⟨rfl, hp⟩
  refine wp_seq ?_
  refine wp_reg ?_
  refine st_assign hf rfl rfl (by decide) ?_
  clear hf; intro a ha hf; clear ha
  refine st_nil hf ?_
  refine th_n ?_
  refine wp_seq ?_
  obtain ⟨q1, hcall2, h⟩ := bnd h
  refine wp_cutN (fun a w => Fr 11 a [(2, .int .i64 (IntKind.i64.wrap ((sx0_All.length : Int) - q1)))] ∧ Hp S w0 w (ow)) ?_ ?_
  · have hp := hp.same (Same.drew w)
    refine dr_begin' (fun a w => Fr 11 a [(2, .int .i64 (IntKind.i64.wrap ((sx0_All.length : Int) - q1)))] ∧ Hp S w0 w (ow)) (fun w' => ∃ l, Hp S w0 w' l) [] (by kernel_rfl) ?_
    refine dr_take 0 (osx0) rfl (by kernel_rfl) (by kernel_rfl) (by kernel_rfl) (by kernel_rfl) rfl rfl hf (by decide) rfl (fun w hp => ?_) ⟨_, hp⟩ ?_
    · obtain ⟨_, hp⟩ := hp
      refine st_move hf rfl rfl (by decide) ?_
      clear hf; intro a ha hf
      exact st_nil hf (th_n ⟨ha, rfl⟩)
    clear hf; intro a hf
    refine dr_nilV 1 rfl (by kernel_rfl) (by kernel_rfl) (by kernel_rfl) hf (by decide) rfl rfl (hosx0.ob hp) ?_
    clear hf; intro a hf
    refine dr_take 2 (optr osx0 3) rfl (by kernel_rfl) (by kernel_rfl) (by kernel_rfl) (by kernel_rfl) rfl rfl hf (by decide) rfl (fun w hp => ?_) ⟨_, hp⟩ ?_
    · obtain ⟨_, hp⟩ := hp
      refine st_fa (o' := 3) hf (by decide) (off := 3) (sz := 1) (by kernel_rfl) (by decide) rfl rfl (hosx0.ob hp) rfl ?_
      clear hf; intro a ha hf
      exact st_nil hf (th_n ⟨ha, rfl⟩)
    clear hf; intro a hf
    refine dr_take 3 (vsx0_All) rfl (by kernel_rfl) (by kernel_rfl) (by kernel_rfl) (by kernel_rfl) rfl rfl hf (by decide) rfl (fun w hp => ?_) ⟨_, hp⟩ ?_
    · obtain ⟨_, hp⟩ := hp
      refine st_ldO (u := vsx0_All) hf (by decide) pl51 rfl rfl (hosx0.ob hp) rfl ?_
      clear hf; intro a ha hf
      exact st_nil hf (th_n ⟨ha, rfl⟩)
    clear hf; intro a hf
    refine dr_take 4 (.int .i64 (sx0_All.length : Int)) rfl (by kernel_rfl) (by kernel_rfl) (by kernel_rfl) (by kernel_rfl) rfl rfl hf (by decide) rfl (fun w hp => ?_) ⟨_, hp⟩ ?_
    · obtain ⟨_, hp⟩ := hp
      refine st_len (E := (Ek.pair Ek.str (Ek.pair (Ek.int .i64) Ek.bool))) hf (by decide) Try.underlying51 rfl rfl (hsx0_All.sl hp) ?_
      clear hf; intro a ha hf
      exact st_nil hf (th_n ⟨ha, rfl⟩)
    clear hf; intro a hf
    refine dr_take 5 (osx0) rfl (by kernel_rfl) (by kernel_rfl) (by kernel_rfl) (by kernel_rfl) rfl rfl hf (by decide) rfl (fun w hp => ?_) ⟨_, hp⟩ ?_
    · obtain ⟨_, hp⟩ := hp
      refine st_move hf rfl rfl (by decide) ?_
      clear hf; intro a ha hf
      exact st_nil hf (th_n ⟨ha, rfl⟩)
    clear hf; intro a hf
    refine dr_one 6 rfl (by kernel_rfl) ?_
    refine st_call hf (by decide) Try.func22 rfl rfl rfl rfl rfl (f_foghornref28_Sender_Front_c hp _ _ _ _ _ hsx0_All _ hosx0 hcall2) ?_
    rintro _ w ⟨rfl, hp0⟩
    clear hp; have hp := hp0; clear hp0
    replace hp : Hp _ _ _ (ow) := hp
    refine ⟨_, rfl, ?_⟩
    clear hf; intro a hf
    refine st_nil hf (th_n ⟨fun _ _ => ⟨_, hp⟩, ?_⟩)
    refine dr_take 7 (.int .i64 (IntKind.i64.wrap ((sx0_All.length : Int) - q1))) rfl (by kernel_rfl) (by kernel_rfl) (by kernel_rfl) (by kernel_rfl) rfl rfl hf (by decide) rfl (fun w hp => ?_) ⟨_, hp⟩ ?_
    · obtain ⟨_, hp⟩ := hp
      refine st_isub hf (by decide) rfl rfl rfl ?_
      clear hf; intro a ha hf
      exact st_nil hf (th_n ⟨ha, rfl⟩)
    clear hf; intro a hf
    refine dr_take 8 (.int .i64 (IntKind.i64.wrap ((sx0_All.length : Int) - q1))) rfl (by kernel_rfl) (by kernel_rfl) (by kernel_rfl) (by kernel_rfl) rfl rfl hf (by decide) rfl (fun w hp => ?_) ⟨_, hp⟩ ?_
    · obtain ⟨_, hp⟩ := hp
      refine st_assign hf rfl rfl (by decide) ?_
      clear hf; intro a ha hf
      exact st_nil hf (th_n ⟨ha, rfl⟩)
    clear hf; intro a hf
    refine dr_end (by kernel_rfl) ?_ _
    exact ⟨hf.sub ⟨rfl, trivial⟩, hp⟩
  rintro a w ⟨hf, hp⟩
  refine th_n ?_
  refine wp_ret ?_
  obtain rfl := Option.some.inj h
  exact ⟨rfl, ⟨hf.sub ⟨rfl, trivial⟩, hp⟩⟩

noncomputable def f_foghornref28_Sender_Offer (sx0_Window : Int) (sx0_Wait : Int) (sx0_Now : Int) (sx0_All : (List (ByteArray × Int × Bool))) (body1 : ByteArray) : Option (Int × (Int × Int × Int × (List (ByteArray × Int × Bool)))) := (if (decide ((240 : Int) < (body1.size : Int))) = true then (some ((1 : Int), (sx0_Window, sx0_Wait, sx0_Now, sx0_All))) else ((f_foghornref28_Sender_Left sx0_Window sx0_Wait sx0_Now sx0_All).bind fun q3 => (if (decide ((4096 : Int) ≤ q3)) = true then (some ((3 : Int), (sx0_Window, sx0_Wait, sx0_Now, sx0_All))) else (if (sx0_All.length + ([(body1, (-1 : Int), false)]).length) * 32 ≤ 140737488355328 then (some ((0 : Int), (sx0_Window, sx0_Wait, sx0_Now, (sx0_All ++ [(body1, (-1 : Int), false)])))) else none))))
theorem f_foghornref28_Sender_Offer_c {S : Nat → Prop} {w0 w : World} {ow : List Res} (sx0_Window : Int) (sx0_Wait : Int) (sx0_Now : Int) (vsx0_All : Value) (sx0_All : (List (ByteArray × Int × Bool))) (osx0 : Value) (body1 : ByteArray) (hp : Hp S w0 w (Res.sl (Ek.pair Ek.str (Ek.pair (Ek.int .i64) Ek.bool)) 83 vsx0_All sx0_All :: Res.obj 53 osx0 [.int .i64 sx0_Window, .int .i64 sx0_Wait, .int .i64 sx0_Now, vsx0_All] :: ow)) {r : (Int × (Int × Int × Int × (List (ByteArray × Int × Bool))))} (h : f_foghornref28_Sender_Offer sx0_Window sx0_Wait sx0_Now sx0_All body1 = some r) :
    Calls Try.prog 18 #[osx0, .string body1] w (fun e w' => ∃ (u0 : Value), e = .returned (.int .i64 r.1) ∧ Hp S w0 w' (Res.sl (Ek.pair Ek.str (Ek.pair (Ek.int .i64) Ek.bool)) 83 u0 r.2.2.2.2 :: Res.obj 53 osx0 [.int .i64 r.2.1, .int .i64 r.2.2.1, .int .i64 r.2.2.2.1, u0] :: ow)) := by
  unfold f_foghornref28_Sender_Offer at h
  refine enter (n := 22) (args := [osx0, .string body1]) Try.func18 rfl rfl (Nat.le_of_ble_eq_true rfl) fun a hf => ?_
  replace hf : Fr 22 a [(0, osx0), (1, .string body1)] := hf
  refine wp_mono (Q := fun e a w => e = .ret ∧ ∃ (u0 : Value), Fr 22 a [(4, .int .i64 r.1)] ∧ Hp S w0 w (Res.sl (Ek.pair Ek.str (Ek.pair (Ek.int .i64) Ek.bool)) 83 u0 r.2.2.2.2 :: Res.obj 53 osx0 [.int .i64 r.2.1, .int .i64 r.2.2.1, .int .i64 r.2.2.2.1, u0] :: ow)) ?_ ?_
  rotate_left
  · rintro e a w ⟨rfl, x0, hf, hp⟩
    exact ret1 hf rfl rfl ⟨x0, rfl, hp⟩
  refine wp_seq ?_
  refine wp_reg ?_
  refine st_assign hf rfl rfl (by decide) ?_
  clear hf; intro a ha hf; clear ha
  refine st_nil hf ?_
  refine th_n ?_
  refine wp_seq ?_
  refine wp_seq ?_
  refine wp_reg ?_
  refine st_move hf rfl rfl (by decide) ?_
  clear hf; intro a ha hf; clear ha
  refine st_slen hf (by decide) Try.underlying9 rfl rfl ?_
  clear hf; intro a ha hf; clear ha
  refine st_igtr hf (by decide) rfl rfl rfl ?_
  clear hf; intro a ha hf; clear ha
  refine st_nil hf ?_
  refine th_n ?_
  refine wp_if hf rfl (fun hb => ?_) (fun hb => ?_)
  · replace h := ifT h hb
    refine wp_seq ?_
    refine wp_reg ?_
    refine st_assign hf rfl rfl (by decide) ?_
    clear hf; intro a ha hf; clear ha
    refine st_nil hf ?_
    refine th_n ?_
    refine wp_ret ?_
    refine th_r ?_
    obtain rfl := Option.some.inj h
    exact ⟨rfl, ⟨_, hf.sub ⟨rfl, trivial⟩, hp⟩⟩
  replace h := ifF h hb
  refine wp_skip ?_
  refine th_n ?_
  refine wp_seq ?_
  refine wp_seq ?_
  refine wp_reg ?_
  refine st_move hf rfl rfl (by decide) ?_
  clear hf; intro a ha hf; clear ha
  obtain ⟨q3, hcall4, h⟩ := bnd h
  obtain ⟨S5, hp6, rd7, up8, bk9⟩ := Hp.lendS hp (i := 0) rfl
  obtain ⟨S10, hp11, rd12, up13, bk14⟩ := Hp.lendO hp6 (i := 0) rfl
  refine st_call hf (by decide) Try.func26 rfl rfl rfl rfl rfl (f_foghornref28_Sender_Left_c hp11 _ _ _ _ _ ((rd7.now hp6).mono up13) _ rd12 hcall4) ?_
  rintro _ w ⟨rfl, hp0⟩
  have hp0 := bk14 _ _ hp0
  have hp0 := bk9 _ _ hp0
  clear hp; have hp := hp0; clear hp0
  replace hp : Hp _ _ _ (Res.sl (Ek.pair Ek.str (Ek.pair (Ek.int .i64) Ek.bool)) 83 vsx0_All sx0_All :: Res.obj 53 osx0 [.int .i64 sx0_Window, .int .i64 sx0_Wait, .int .i64 sx0_Now, vsx0_All] :: ow) := hp
  refine ⟨_, rfl, ?_⟩
  clear hf; intro a hf
  refine st_igeq hf (by decide) rfl rfl rfl ?_
  clear hf; intro a ha hf; clear ha
  refine st_nil hf ?_
  refine th_n ?_
  refine wp_if hf rfl (fun hb => ?_) (fun hb => ?_)
  · replace h := ifT h hb
    refine wp_seq ?_
    refine wp_reg ?_
    refine st_assign hf rfl rfl (by decide) ?_
    clear hf; intro a ha hf; clear ha
    refine st_nil hf ?_
    refine th_n ?_
    refine wp_ret ?_
    refine th_r ?_
    obtain rfl := Option.some.inj h
    exact ⟨rfl, ⟨_, hf.sub ⟨rfl, trivial⟩, hp⟩⟩
  replace h := ifF h hb
  refine wp_skip ?_
  refine th_n ?_
  refine wp_seq ?_
  refine wp_reg ?_
  refine st_move hf rfl rfl (by decide) ?_
  clear hf; intro a ha hf; clear ha
  refine st_move hf rfl rfl (by decide) ?_
  clear hf; intro a ha hf; clear ha
  refine st_nilV hf (by decide) rfl rfl (hp.ob (i := 1) rfl) ?_
  clear hf; intro a ha hf; clear ha
  refine st_fa (o' := 3) hf (by decide) (off := 3) (sz := 1) (by kernel_rfl) (by decide) rfl rfl (hp.ob (i := 1) rfl) rfl ?_
  clear hf; intro a ha hf; clear ha
  refine st_ldO (u := vsx0_All) hf (by decide) pl51 rfl rfl (hp.ob (i := 1) rfl) rfl ?_
  clear hf; intro a ha hf; clear ha
  refine st_move hf rfl rfl (by decide) ?_
  clear hf; intro a ha hf; clear ha
  refine st_buildA (vals := [(0, .string body1), (1, .int .i64 (-1 : Int))]) (cells := [.string body1, .int .i64 (-1 : Int), .bool false]) hf (by decide) rfl (by simp [hf.ev (x := (Operand.tmp 16)) rfl, hf.ev (x := (Operand.const (.int .i64 (-1 : Int)))) rfl]) (fun w => by kernel_rfl) ?_
  clear hf; intro a ha hf; clear ha
  refine st_build (E := (Ek.pair Ek.str (Ek.pair (Ek.int .i64) Ek.bool))) (xs := [(body1, (-1 : Int), false)]) hf (by decide) elt83 Try.underlying51 hp (vals := #[(0, .agg #[.string body1, .int .i64 (-1 : Int), .bool false])]) (cells := #[.string body1, .int .i64 (-1 : Int), .bool false]) rfl (by simp [hf.ev (x := (Operand.tmp 17)) rfl]) (by decide) (by decide) (z := .agg #[.string ByteArray.empty, .int .i64 0, .bool false]) (by kernel_rfl) (by kernel_rfl) rfl (reps_cons (cs := [.string body1, .int .i64 (-1 : Int), .bool false]) ⟨[.string body1], [.int .i64 (-1 : Int), .bool false], rfl, rfl, ⟨[.int .i64 (-1 : Int)], [.bool false], rfl, rfl, rfl⟩⟩ (reps_nil _)) ?_
  clear hf; intro a w v15 hf hp0; clear hp; have hp := hp0; clear hp0
  replace hp : Hp _ _ _ (Res.sl (Ek.pair Ek.str (Ek.pair (Ek.int .i64) Ek.bool)) 83 v15 ([(body1, (-1 : Int), false)]) :: Res.sl (Ek.pair Ek.str (Ek.pair (Ek.int .i64) Ek.bool)) 83 vsx0_All sx0_All :: Res.obj 53 osx0 [.int .i64 sx0_Window, .int .i64 sx0_Wait, .int .i64 sx0_Now, vsx0_All] :: ow) := hp
  obtain ⟨hc17, h⟩ := chk h
  refine st_append (E := (Ek.pair Ek.str (Ek.pair (Ek.int .i64) Ek.bool))) hf (by decide) elt83 Try.underlying51 (by decide) hp (i := 1) rfl rfl rfl rfl (hp.sl (i := 0) rfl) hc17 ?_
  clear hf; intro a w v18 hf hp0; clear hp; have hp := hp0; clear hp0
  replace hp : Hp _ _ _ (Res.sl (Ek.pair Ek.str (Ek.pair (Ek.int .i64) Ek.bool)) 83 v15 ([(body1, (-1 : Int), false)]) :: Res.sl (Ek.pair Ek.str (Ek.pair (Ek.int .i64) Ek.bool)) 83 v18 (sx0_All ++ [(body1, (-1 : Int), false)]) :: Res.obj 53 osx0 [.int .i64 sx0_Window, .int .i64 sx0_Wait, .int .i64 sx0_Now, vsx0_All] :: ow) := hp
  refine st_nilV hf (by decide) rfl rfl (hp.ob (i := 2) rfl) ?_
  clear hf; intro a ha hf; clear ha
  refine st_fa (o' := 3) hf (by decide) (off := 3) (sz := 1) (by kernel_rfl) (by decide) rfl rfl (hp.ob (i := 2) rfl) rfl ?_
  clear hf; intro a ha hf; clear ha
  refine st_stO (us := [v18]) hf hp (i := 2) rfl rfl rfl rfl (cells_sh (hp.sl (i := 1) rfl).shapeV) (ones_sh (hp.sl (i := 1) rfl).shapeV) (by kernel_rfl) (Nat.le_of_ble_eq_true rfl) ?_
  clear hf; intro a w hf hp0; clear hp; have hp := hp0; clear hp0
  replace hp : Hp _ _ _ (Res.sl (Ek.pair Ek.str (Ek.pair (Ek.int .i64) Ek.bool)) 83 v15 ([(body1, (-1 : Int), false)]) :: Res.sl (Ek.pair Ek.str (Ek.pair (Ek.int .i64) Ek.bool)) 83 v18 (sx0_All ++ [(body1, (-1 : Int), false)]) :: Res.obj 53 osx0 [.int .i64 sx0_Window, .int .i64 sx0_Wait, .int .i64 sx0_Now, v18] :: ow) := hp
  refine st_nil hf ?_
  refine th_n ?_
  refine wp_seq ?_
  refine wp_reg ?_
  refine st_assign hf rfl rfl (by decide) ?_
  clear hf; intro a ha hf; clear ha
  refine st_nil hf ?_
  refine th_n ?_
  refine wp_ret ?_
  obtain rfl := Option.some.inj h
  have hp : Hp _ _ _ (Res.sl (Ek.pair Ek.str (Ek.pair (Ek.int .i64) Ek.bool)) 83 v18 (sx0_All ++ [(body1, (-1 : Int), false)]) :: Res.obj 53 osx0 [.int .i64 sx0_Window, .int .i64 sx0_Wait, .int .i64 sx0_Now, v18] :: ow) := Hp.sel (pre := [Res.sl (Ek.pair Ek.str (Ek.pair (Ek.int .i64) Ek.bool)) 83 v15 ([(body1, (-1 : Int), false)]), Res.sl (Ek.pair Ek.str (Ek.pair (Ek.int .i64) Ek.bool)) 83 v18 (sx0_All ++ [(body1, (-1 : Int), false)]), Res.obj 53 osx0 [.int .i64 sx0_Window, .int .i64 sx0_Wait, .int .i64 sx0_Now, v18]]) (tail := ow) (rs' := [Res.sl (Ek.pair Ek.str (Ek.pair (Ek.int .i64) Ek.bool)) 83 v18 (sx0_All ++ [(body1, (-1 : Int), false)]), Res.obj 53 osx0 [.int .i64 sx0_Window, .int .i64 sx0_Wait, .int .i64 sx0_Now, v18]]) hp [1, 2] (by decide) (by simp) rfl
  exact ⟨rfl, ⟨_, hf.sub ⟨rfl, trivial⟩, hp⟩⟩

noncomputable def f_again_Sender_Tick_1 (m0 : (List (ByteArray × Bool × Int × Bool))) (im0 : Int) (t1 : Int) (t3002_window : Int) (t3002_wait : Int) (t3002_now : Int) (t3002_front : Int) (t3002_left : (List (ByteArray × Bool × Int × Bool))) : Option Bool := (some ((!((gt m0 im0).2.2.2)) && ((!((gt m0 im0).2.1)) || (decide (t3002_wait ≤ (IntKind.i64.wrap (t1 - (gt m0 im0).2.2.1)))))))
theorem f_again_Sender_Tick_1_c {S : Nat → Prop} {w0 w : World} {ow : List Res} (hp : Hp S w0 w ow) (vm0 : Value) (m0 : (List (ByteArray × Bool × Int × Bool))) (im0 : Int) (hm0 : RdS (Ek.pair Ek.str (Ek.pair Ek.bool (Ek.pair (Ek.int .i64) Ek.bool))) S w0 vm0 m0) (km0 : 0 ≤ im0 ∧ im0 < (m0.length : Int)) (t1 : Int) (ot1 : Value) (hot1 : RdO S w0 ot1 [.int .i64 t1]) (t3002_window : Int) (t3002_wait : Int) (t3002_now : Int) (t3002_front : Int) (vt3002_left : Value) (t3002_left : (List (ByteArray × Bool × Int × Bool))) (ht3002_left : RdS (Ek.pair Ek.str (Ek.pair Ek.bool (Ek.pair (Ek.int .i64) Ek.bool))) S w0 vt3002_left t3002_left) (ot3002 : Value) (hot3002 : RdO S w0 ot3002 [.int .i64 t3002_window, .int .i64 t3002_wait, .int .i64 t3002_now, .int .i64 t3002_front, vt3002_left]) (ot2 : Value) (hot2 : RdO S w0 ot2 [ot3002]) {r : Bool} (h : f_again_Sender_Tick_1 m0 im0 t1 t3002_window t3002_wait t3002_now t3002_front t3002_left = some r) :
    Calls Try.prog 30 #[eptr vm0 im0 4, optr ot1 0, optr ot2 0] w (fun e w' => e = .returned (.bool r) ∧ Hp S w0 w' (ow)) := by
  unfold f_again_Sender_Tick_1 at h
  refine enter (n := 30) (args := [eptr vm0 im0 4, optr ot1 0, optr ot2 0]) Try.func30 rfl rfl (Nat.le_of_ble_eq_true rfl) fun a hf => ?_
  replace hf : Fr 30 a [(0, eptr vm0 im0 4), (1, optr ot1 0), (2, optr ot2 0)] := hf
  refine wp_mono (Q := fun e a w => e = .ret ∧ Fr 30 a [(4, .bool r)] ∧ Hp S w0 w (ow)) ?_ ?_
  rotate_left
  · rintro e a w ⟨rfl, hf, hp⟩
    exact ret1 hf rfl rfl ⟨rfl, hp⟩
  refine wp_seq ?_
  refine wp_reg ?_
  refine st_assign hf rfl rfl (by decide) ?_
  clear hf; intro a ha hf; clear ha
  refine st_nil hf ?_
  refine th_n ?_
  refine wp_seq ?_
  refine wp_cutN (fun a w => Fr 30 a [(4, .bool ((!((gt m0 im0).2.2.2)) && ((!((gt m0 im0).2.1)) || (decide (t3002_wait ≤ (IntKind.i64.wrap (t1 - (gt m0 im0).2.2.1)))))))] ∧ Hp S w0 w (ow)) ?_ ?_
  · have hp := hp.same (Same.drew w)
    rcases Bool.eq_false_or_eq_true (!((gt m0 im0).2.2.2)) with hb2 | hb2
    · skip
      rcases Bool.eq_false_or_eq_true (!((gt m0 im0).2.1)) with hb4 | hb4
      · skip
        refine dr_begin' (fun a w => Fr 30 a [(4, .bool ((!((gt m0 im0).2.2.2)) && ((!((gt m0 im0).2.1)) || (decide (t3002_wait ≤ (IntKind.i64.wrap (t1 - (gt m0 im0).2.2.1)))))))] ∧ Hp S w0 w (ow)) (fun w' => ∃ l, Hp S w0 w' l) [] (by kernel_rfl) ?_
        refine dr_take 0 (eptr vm0 im0 4) rfl (by kernel_rfl) (by kernel_rfl) (by kernel_rfl) (by kernel_rfl) rfl rfl hf (by decide) rfl (fun w hp => ?_) ⟨_, hp⟩ ?_
        · obtain ⟨_, hp⟩ := hp
          refine st_move hf rfl rfl (by decide) ?_
          clear hf; intro a ha hf
          exact st_nil hf (th_n ⟨ha, rfl⟩)
        clear hf; intro a hf
        refine dr_nilE 1 rfl (by kernel_rfl) (by kernel_rfl) (by kernel_rfl) hf (by decide) rfl rfl (Sl.ptr (hm0.sl hp) km0.1 km0.2) ?_
        clear hf; intro a hf
        refine dr_take 2 (optr (eptr vm0 im0 4) 3) rfl (by kernel_rfl) (by kernel_rfl) (by kernel_rfl) (by kernel_rfl) rfl rfl hf (by decide) rfl (fun w hp => ?_) ⟨_, hp⟩ ?_
        · obtain ⟨_, hp⟩ := hp
          refine st_faP (off := 3) (sz := 1) hf (by decide) (by kernel_rfl) (by decide) rfl rfl (Sl.isP (hm0.sl hp) km0.1 km0.2) ?_
          clear hf; intro a ha hf
          exact st_nil hf (th_n ⟨ha, rfl⟩)
        clear hf; intro a hf
        refine dr_take 3 (.bool ((gt m0 im0).2.2.2)) rfl (by kernel_rfl) (by kernel_rfl) (by kernel_rfl) (by kernel_rfl) rfl rfl hf (by decide) rfl (fun w hp => ?_) ⟨_, hp⟩ ?_
        · obtain ⟨_, hp⟩ := hp
          refine st_ldQ (F := Ek.bool) (yv := (gt m0 im0).2.2.2) hf (by decide) pl4 (fun x => .bool x) (fun _ _ h => h) rfl rfl (Sl.part (E := (Ek.pair Ek.str (Ek.pair Ek.bool (Ek.pair (Ek.int .i64) Ek.bool)))) (F := Ek.bool) (o := 3) (Sub.comp (Sub.snd (E := Ek.str) (F := (Ek.pair Ek.bool (Ek.pair (Ek.int .i64) Ek.bool)))) (Sub.comp (Sub.snd (E := Ek.bool) (F := (Ek.pair (Ek.int .i64) Ek.bool))) (Sub.snd (E := (Ek.int .i64)) (F := Ek.bool)))) (hm0.sl hp) km0.1 km0.2) ?_
          clear hf; intro a ha hf
          exact st_nil hf (th_n ⟨ha, rfl⟩)
        clear hf; intro a hf
        refine dr_take 4 (.bool (!((gt m0 im0).2.2.2))) rfl (by kernel_rfl) (by kernel_rfl) (by kernel_rfl) (by kernel_rfl) rfl rfl hf (by decide) rfl (fun w hp => ?_) ⟨_, hp⟩ ?_
        · obtain ⟨_, hp⟩ := hp
          refine st_not hf (by decide) rfl rfl ?_
          clear hf; intro a ha hf
          exact st_nil hf (th_n ⟨ha, rfl⟩)
        clear hf; intro a hf
        refine dr_take 5 (.bool (!((gt m0 im0).2.2.2))) rfl (by kernel_rfl) (by kernel_rfl) (by kernel_rfl) (by kernel_rfl) rfl rfl hf (by decide) rfl (fun w hp => ?_) ⟨_, hp⟩ ?_
        · obtain ⟨_, hp⟩ := hp
          refine st_move hf rfl rfl (by decide) ?_
          clear hf; intro a ha hf
          exact st_nil hf (th_n ⟨ha, rfl⟩)
        clear hf; intro a hf
        refine dr_take 6 (eptr vm0 im0 4) rfl (by kernel_rfl) (by kernel_rfl) (by kernel_rfl) (by kernel_rfl) rfl rfl hf (by decide) (wantY hf rfl rfl hb2) (fun w hp => ?_) ⟨_, hp⟩ ?_
        · obtain ⟨_, hp⟩ := hp
          refine st_move hf (wantY hf rfl rfl hb2) rfl (by decide) ?_
          clear hf; intro a ha hf
          exact st_nil hf (th_n ⟨ha, rfl⟩)
        clear hf; intro a hf
        refine dr_nilE 7 rfl (by kernel_rfl) (by kernel_rfl) (by kernel_rfl) hf (by decide) (wantY hf rfl rfl hb2) rfl (Sl.ptr (hm0.sl hp) km0.1 km0.2) ?_
        clear hf; intro a hf
        refine dr_take 8 (optr (eptr vm0 im0 4) 1) rfl (by kernel_rfl) (by kernel_rfl) (by kernel_rfl) (by kernel_rfl) rfl rfl hf (by decide) (wantY hf rfl rfl hb2) (fun w hp => ?_) ⟨_, hp⟩ ?_
        · obtain ⟨_, hp⟩ := hp
          refine st_faP (off := 1) (sz := 1) hf (by decide) (by kernel_rfl) (by decide) (wantY hf rfl rfl hb2) rfl (Sl.isP (hm0.sl hp) km0.1 km0.2) ?_
          clear hf; intro a ha hf
          exact st_nil hf (th_n ⟨ha, rfl⟩)
        clear hf; intro a hf
        refine dr_take 9 (.bool ((gt m0 im0).2.1)) rfl (by kernel_rfl) (by kernel_rfl) (by kernel_rfl) (by kernel_rfl) rfl rfl hf (by decide) (wantY hf rfl rfl hb2) (fun w hp => ?_) ⟨_, hp⟩ ?_
        · obtain ⟨_, hp⟩ := hp
          refine st_ldQ (F := Ek.bool) (yv := (gt m0 im0).2.1) hf (by decide) pl4 (fun x => .bool x) (fun _ _ h => h) (wantY hf rfl rfl hb2) rfl (Sl.part (E := (Ek.pair Ek.str (Ek.pair Ek.bool (Ek.pair (Ek.int .i64) Ek.bool)))) (F := Ek.bool) (o := 1) (Sub.comp (Sub.snd (E := Ek.str) (F := (Ek.pair Ek.bool (Ek.pair (Ek.int .i64) Ek.bool)))) (Sub.fst (E := Ek.bool) (F := (Ek.pair (Ek.int .i64) Ek.bool)))) (hm0.sl hp) km0.1 km0.2) ?_
          clear hf; intro a ha hf
          exact st_nil hf (th_n ⟨ha, rfl⟩)
        clear hf; intro a hf
        refine dr_take 10 (.bool (!((gt m0 im0).2.1))) rfl (by kernel_rfl) (by kernel_rfl) (by kernel_rfl) (by kernel_rfl) rfl rfl hf (by decide) (wantY hf rfl rfl hb2) (fun w hp => ?_) ⟨_, hp⟩ ?_
        · obtain ⟨_, hp⟩ := hp
          refine st_not hf (by decide) (wantY hf rfl rfl hb2) rfl ?_
          clear hf; intro a ha hf
          exact st_nil hf (th_n ⟨ha, rfl⟩)
        clear hf; intro a hf
        refine dr_take 11 (.bool (!((gt m0 im0).2.1))) rfl (by kernel_rfl) (by kernel_rfl) (by kernel_rfl) (by kernel_rfl) rfl rfl hf (by decide) (wantY hf rfl rfl hb2) (fun w hp => ?_) ⟨_, hp⟩ ?_
        · obtain ⟨_, hp⟩ := hp
          refine st_move hf (wantY hf rfl rfl hb2) rfl (by decide) ?_
          clear hf; intro a ha hf
          exact st_nil hf (th_n ⟨ha, rfl⟩)
        clear hf; intro a hf
        refine dr_out 12 rfl (by kernel_rfl) (by kernel_rfl) (by kernel_rfl) (by kernel_rfl) rfl hf (by decide) rfl (wantN hf rfl rfl hb4) ⟨_, hp⟩ ?_
        clear hf; intro a hf
        refine dr_out 13 rfl (by kernel_rfl) (by kernel_rfl) (by kernel_rfl) (by kernel_rfl) rfl hf (by decide) rfl (wantN hf rfl rfl hb4) ⟨_, hp⟩ ?_
        clear hf; intro a hf
        refine dr_outP 14 rfl (by kernel_rfl) (by kernel_rfl) (by kernel_rfl) rfl hf (by decide) (wantN hf rfl rfl hb4) ?_
        clear hf; intro a hf
        refine dr_out 15 rfl (by kernel_rfl) (by kernel_rfl) (by kernel_rfl) (by kernel_rfl) rfl hf (by decide) rfl (wantN hf rfl rfl hb4) ⟨_, hp⟩ ?_
        clear hf; intro a hf
        refine dr_out 16 rfl (by kernel_rfl) (by kernel_rfl) (by kernel_rfl) (by kernel_rfl) rfl hf (by decide) rfl (wantN hf rfl rfl hb4) ⟨_, hp⟩ ?_
        clear hf; intro a hf
        refine dr_out 17 rfl (by kernel_rfl) (by kernel_rfl) (by kernel_rfl) (by kernel_rfl) rfl hf (by decide) rfl (wantN hf rfl rfl hb4) ⟨_, hp⟩ ?_
        clear hf; intro a hf
        refine dr_out 18 rfl (by kernel_rfl) (by kernel_rfl) (by kernel_rfl) (by kernel_rfl) rfl hf (by decide) rfl (wantN hf rfl rfl hb4) ⟨_, hp⟩ ?_
        clear hf; intro a hf
        refine dr_outP 19 rfl (by kernel_rfl) (by kernel_rfl) (by kernel_rfl) rfl hf (by decide) (wantN hf rfl rfl hb4) ?_
        clear hf; intro a hf
        refine dr_out 20 rfl (by kernel_rfl) (by kernel_rfl) (by kernel_rfl) (by kernel_rfl) rfl hf (by decide) rfl (wantN hf rfl rfl hb4) ⟨_, hp⟩ ?_
        clear hf; intro a hf
        refine dr_out 21 rfl (by kernel_rfl) (by kernel_rfl) (by kernel_rfl) (by kernel_rfl) rfl hf (by decide) rfl (wantN hf rfl rfl hb4) ⟨_, hp⟩ ?_
        clear hf; intro a hf
        refine dr_out 22 rfl (by kernel_rfl) (by kernel_rfl) (by kernel_rfl) (by kernel_rfl) rfl hf (by decide) rfl (wantN hf rfl rfl hb4) ⟨_, hp⟩ ?_
        clear hf; intro a hf
        refine dr_take 23 (.bool ((!((gt m0 im0).2.1)) || (decide (t3002_wait ≤ (IntKind.i64.wrap (t1 - (gt m0 im0).2.2.1)))))) rfl (by kernel_rfl) (by kernel_rfl) (by kernel_rfl) (by kernel_rfl) rfl rfl hf (by decide) (wantY hf rfl rfl hb2) (fun w hp => ?_) ⟨_, hp⟩ ?_
        · obtain ⟨_, hp⟩ := hp
          refine st_pick (v := .bool ((!((gt m0 im0).2.1)) || (decide (t3002_wait ≤ (IntKind.i64.wrap (t1 - (gt m0 im0).2.2.1)))))) hf (wantY hf rfl rfl hb2) rfl (fun _ => by rw [show ((!((gt m0 im0).2.1)) || (decide (t3002_wait ≤ (IntKind.i64.wrap (t1 - (gt m0 im0).2.2.1))))) = true from by rw [hb4]; rfl]; rfl) (fun hb' => absurd (hb4.symm.trans hb') (by decide)) (by decide) ?_
          clear hf; intro a ha hf
          exact st_nil hf (th_n ⟨ha, rfl⟩)
        clear hf; intro a hf
        refine dr_take 24 (.bool ((!((gt m0 im0).2.2.2)) && ((!((gt m0 im0).2.1)) || (decide (t3002_wait ≤ (IntKind.i64.wrap (t1 - (gt m0 im0).2.2.1))))))) rfl (by kernel_rfl) (by kernel_rfl) (by kernel_rfl) (by kernel_rfl) rfl rfl hf (by decide) rfl (fun w hp => ?_) ⟨_, hp⟩ ?_
        · obtain ⟨_, hp⟩ := hp
          refine st_pick (v := .bool ((!((gt m0 im0).2.2.2)) && ((!((gt m0 im0).2.1)) || (decide (t3002_wait ≤ (IntKind.i64.wrap (t1 - (gt m0 im0).2.2.1))))))) hf rfl rfl (fun _ => by rw [show ((!((gt m0 im0).2.2.2)) && ((!((gt m0 im0).2.1)) || (decide (t3002_wait ≤ (IntKind.i64.wrap (t1 - (gt m0 im0).2.2.1)))))) = ((!((gt m0 im0).2.1)) || (decide (t3002_wait ≤ (IntKind.i64.wrap (t1 - (gt m0 im0).2.2.1))))) from by rw [hb2]; rfl]; rfl) (fun hb' => absurd (hb2.symm.trans hb') (by decide)) (by decide) ?_
          clear hf; intro a ha hf
          exact st_nil hf (th_n ⟨ha, rfl⟩)
        clear hf; intro a hf
        refine dr_take 25 (.bool ((!((gt m0 im0).2.2.2)) && ((!((gt m0 im0).2.1)) || (decide (t3002_wait ≤ (IntKind.i64.wrap (t1 - (gt m0 im0).2.2.1))))))) rfl (by kernel_rfl) (by kernel_rfl) (by kernel_rfl) (by kernel_rfl) rfl rfl hf (by decide) rfl (fun w hp => ?_) ⟨_, hp⟩ ?_
        · obtain ⟨_, hp⟩ := hp
          refine st_assign hf rfl rfl (by decide) ?_
          clear hf; intro a ha hf
          exact st_nil hf (th_n ⟨ha, rfl⟩)
        clear hf; intro a hf
        refine dr_end (by kernel_rfl) ?_ _
        exact ⟨hf.sub ⟨rfl, trivial⟩, hp⟩
      skip
      refine dr_begin' (fun a w => Fr 30 a [(4, .bool ((!((gt m0 im0).2.2.2)) && ((!((gt m0 im0).2.1)) || (decide (t3002_wait ≤ (IntKind.i64.wrap (t1 - (gt m0 im0).2.2.1)))))))] ∧ Hp S w0 w (ow)) (fun w' => ∃ l, Hp S w0 w' l) [] (by kernel_rfl) ?_
      refine dr_take 0 (eptr vm0 im0 4) rfl (by kernel_rfl) (by kernel_rfl) (by kernel_rfl) (by kernel_rfl) rfl rfl hf (by decide) rfl (fun w hp => ?_) ⟨_, hp⟩ ?_
      · obtain ⟨_, hp⟩ := hp
        refine st_move hf rfl rfl (by decide) ?_
        clear hf; intro a ha hf
        exact st_nil hf (th_n ⟨ha, rfl⟩)
      clear hf; intro a hf
      refine dr_nilE 1 rfl (by kernel_rfl) (by kernel_rfl) (by kernel_rfl) hf (by decide) rfl rfl (Sl.ptr (hm0.sl hp) km0.1 km0.2) ?_
      clear hf; intro a hf
      refine dr_take 2 (optr (eptr vm0 im0 4) 3) rfl (by kernel_rfl) (by kernel_rfl) (by kernel_rfl) (by kernel_rfl) rfl rfl hf (by decide) rfl (fun w hp => ?_) ⟨_, hp⟩ ?_
      · obtain ⟨_, hp⟩ := hp
        refine st_faP (off := 3) (sz := 1) hf (by decide) (by kernel_rfl) (by decide) rfl rfl (Sl.isP (hm0.sl hp) km0.1 km0.2) ?_
        clear hf; intro a ha hf
        exact st_nil hf (th_n ⟨ha, rfl⟩)
      clear hf; intro a hf
      refine dr_take 3 (.bool ((gt m0 im0).2.2.2)) rfl (by kernel_rfl) (by kernel_rfl) (by kernel_rfl) (by kernel_rfl) rfl rfl hf (by decide) rfl (fun w hp => ?_) ⟨_, hp⟩ ?_
      · obtain ⟨_, hp⟩ := hp
        refine st_ldQ (F := Ek.bool) (yv := (gt m0 im0).2.2.2) hf (by decide) pl4 (fun x => .bool x) (fun _ _ h => h) rfl rfl (Sl.part (E := (Ek.pair Ek.str (Ek.pair Ek.bool (Ek.pair (Ek.int .i64) Ek.bool)))) (F := Ek.bool) (o := 3) (Sub.comp (Sub.snd (E := Ek.str) (F := (Ek.pair Ek.bool (Ek.pair (Ek.int .i64) Ek.bool)))) (Sub.comp (Sub.snd (E := Ek.bool) (F := (Ek.pair (Ek.int .i64) Ek.bool))) (Sub.snd (E := (Ek.int .i64)) (F := Ek.bool)))) (hm0.sl hp) km0.1 km0.2) ?_
        clear hf; intro a ha hf
        exact st_nil hf (th_n ⟨ha, rfl⟩)
      clear hf; intro a hf
      refine dr_take 4 (.bool (!((gt m0 im0).2.2.2))) rfl (by kernel_rfl) (by kernel_rfl) (by kernel_rfl) (by kernel_rfl) rfl rfl hf (by decide) rfl (fun w hp => ?_) ⟨_, hp⟩ ?_
      · obtain ⟨_, hp⟩ := hp
        refine st_not hf (by decide) rfl rfl ?_
        clear hf; intro a ha hf
        exact st_nil hf (th_n ⟨ha, rfl⟩)
      clear hf; intro a hf
      refine dr_take 5 (.bool (!((gt m0 im0).2.2.2))) rfl (by kernel_rfl) (by kernel_rfl) (by kernel_rfl) (by kernel_rfl) rfl rfl hf (by decide) rfl (fun w hp => ?_) ⟨_, hp⟩ ?_
      · obtain ⟨_, hp⟩ := hp
        refine st_move hf rfl rfl (by decide) ?_
        clear hf; intro a ha hf
        exact st_nil hf (th_n ⟨ha, rfl⟩)
      clear hf; intro a hf
      refine dr_take 6 (eptr vm0 im0 4) rfl (by kernel_rfl) (by kernel_rfl) (by kernel_rfl) (by kernel_rfl) rfl rfl hf (by decide) (wantY hf rfl rfl hb2) (fun w hp => ?_) ⟨_, hp⟩ ?_
      · obtain ⟨_, hp⟩ := hp
        refine st_move hf (wantY hf rfl rfl hb2) rfl (by decide) ?_
        clear hf; intro a ha hf
        exact st_nil hf (th_n ⟨ha, rfl⟩)
      clear hf; intro a hf
      refine dr_nilE 7 rfl (by kernel_rfl) (by kernel_rfl) (by kernel_rfl) hf (by decide) (wantY hf rfl rfl hb2) rfl (Sl.ptr (hm0.sl hp) km0.1 km0.2) ?_
      clear hf; intro a hf
      refine dr_take 8 (optr (eptr vm0 im0 4) 1) rfl (by kernel_rfl) (by kernel_rfl) (by kernel_rfl) (by kernel_rfl) rfl rfl hf (by decide) (wantY hf rfl rfl hb2) (fun w hp => ?_) ⟨_, hp⟩ ?_
      · obtain ⟨_, hp⟩ := hp
        refine st_faP (off := 1) (sz := 1) hf (by decide) (by kernel_rfl) (by decide) (wantY hf rfl rfl hb2) rfl (Sl.isP (hm0.sl hp) km0.1 km0.2) ?_
        clear hf; intro a ha hf
        exact st_nil hf (th_n ⟨ha, rfl⟩)
      clear hf; intro a hf
      refine dr_take 9 (.bool ((gt m0 im0).2.1)) rfl (by kernel_rfl) (by kernel_rfl) (by kernel_rfl) (by kernel_rfl) rfl rfl hf (by decide) (wantY hf rfl rfl hb2) (fun w hp => ?_) ⟨_, hp⟩ ?_
      · obtain ⟨_, hp⟩ := hp
        refine st_ldQ (F := Ek.bool) (yv := (gt m0 im0).2.1) hf (by decide) pl4 (fun x => .bool x) (fun _ _ h => h) (wantY hf rfl rfl hb2) rfl (Sl.part (E := (Ek.pair Ek.str (Ek.pair Ek.bool (Ek.pair (Ek.int .i64) Ek.bool)))) (F := Ek.bool) (o := 1) (Sub.comp (Sub.snd (E := Ek.str) (F := (Ek.pair Ek.bool (Ek.pair (Ek.int .i64) Ek.bool)))) (Sub.fst (E := Ek.bool) (F := (Ek.pair (Ek.int .i64) Ek.bool)))) (hm0.sl hp) km0.1 km0.2) ?_
        clear hf; intro a ha hf
        exact st_nil hf (th_n ⟨ha, rfl⟩)
      clear hf; intro a hf
      refine dr_take 10 (.bool (!((gt m0 im0).2.1))) rfl (by kernel_rfl) (by kernel_rfl) (by kernel_rfl) (by kernel_rfl) rfl rfl hf (by decide) (wantY hf rfl rfl hb2) (fun w hp => ?_) ⟨_, hp⟩ ?_
      · obtain ⟨_, hp⟩ := hp
        refine st_not hf (by decide) (wantY hf rfl rfl hb2) rfl ?_
        clear hf; intro a ha hf
        exact st_nil hf (th_n ⟨ha, rfl⟩)
      clear hf; intro a hf
      refine dr_take 11 (.bool (!((gt m0 im0).2.1))) rfl (by kernel_rfl) (by kernel_rfl) (by kernel_rfl) (by kernel_rfl) rfl rfl hf (by decide) (wantY hf rfl rfl hb2) (fun w hp => ?_) ⟨_, hp⟩ ?_
      · obtain ⟨_, hp⟩ := hp
        refine st_move hf (wantY hf rfl rfl hb2) rfl (by decide) ?_
        clear hf; intro a ha hf
        exact st_nil hf (th_n ⟨ha, rfl⟩)
      clear hf; intro a hf
      refine dr_take 12 (.int .i64 t1) rfl (by kernel_rfl) (by kernel_rfl) (by kernel_rfl) (by kernel_rfl) rfl rfl hf (by decide) (wantY hf rfl rfl hb4) (fun w hp => ?_) ⟨_, hp⟩ ?_
      · obtain ⟨_, hp⟩ := hp
        refine st_ldO (u := .int .i64 t1) hf (by decide) pl2 (wantY hf rfl rfl hb4) rfl (hot1.ob hp) rfl ?_
        clear hf; intro a ha hf
        exact st_nil hf (th_n ⟨ha, rfl⟩)
      clear hf; intro a hf
      refine dr_take 13 (eptr vm0 im0 4) rfl (by kernel_rfl) (by kernel_rfl) (by kernel_rfl) (by kernel_rfl) rfl rfl hf (by decide) (wantY hf rfl rfl hb4) (fun w hp => ?_) ⟨_, hp⟩ ?_
      · obtain ⟨_, hp⟩ := hp
        refine st_move hf (wantY hf rfl rfl hb4) rfl (by decide) ?_
        clear hf; intro a ha hf
        exact st_nil hf (th_n ⟨ha, rfl⟩)
      clear hf; intro a hf
      refine dr_nilE 14 rfl (by kernel_rfl) (by kernel_rfl) (by kernel_rfl) hf (by decide) (wantY hf rfl rfl hb4) rfl (Sl.ptr (hm0.sl hp) km0.1 km0.2) ?_
      clear hf; intro a hf
      refine dr_take 15 (optr (eptr vm0 im0 4) 2) rfl (by kernel_rfl) (by kernel_rfl) (by kernel_rfl) (by kernel_rfl) rfl rfl hf (by decide) (wantY hf rfl rfl hb4) (fun w hp => ?_) ⟨_, hp⟩ ?_
      · obtain ⟨_, hp⟩ := hp
        refine st_faP (off := 2) (sz := 1) hf (by decide) (by kernel_rfl) (by decide) (wantY hf rfl rfl hb4) rfl (Sl.isP (hm0.sl hp) km0.1 km0.2) ?_
        clear hf; intro a ha hf
        exact st_nil hf (th_n ⟨ha, rfl⟩)
      clear hf; intro a hf
      refine dr_take 16 (.int .i64 ((gt m0 im0).2.2.1)) rfl (by kernel_rfl) (by kernel_rfl) (by kernel_rfl) (by kernel_rfl) rfl rfl hf (by decide) (wantY hf rfl rfl hb4) (fun w hp => ?_) ⟨_, hp⟩ ?_
      · obtain ⟨_, hp⟩ := hp
        refine st_ldQ (F := (Ek.int .i64)) (yv := (gt m0 im0).2.2.1) hf (by decide) pl2 (fun x => .int .i64 x) (fun _ _ h => h) (wantY hf rfl rfl hb4) rfl (Sl.part (E := (Ek.pair Ek.str (Ek.pair Ek.bool (Ek.pair (Ek.int .i64) Ek.bool)))) (F := (Ek.int .i64)) (o := 2) (Sub.comp (Sub.snd (E := Ek.str) (F := (Ek.pair Ek.bool (Ek.pair (Ek.int .i64) Ek.bool)))) (Sub.comp (Sub.snd (E := Ek.bool) (F := (Ek.pair (Ek.int .i64) Ek.bool))) (Sub.fst (E := (Ek.int .i64)) (F := Ek.bool)))) (hm0.sl hp) km0.1 km0.2) ?_
        clear hf; intro a ha hf
        exact st_nil hf (th_n ⟨ha, rfl⟩)
      clear hf; intro a hf
      refine dr_take 17 (.int .i64 (IntKind.i64.wrap (t1 - (gt m0 im0).2.2.1))) rfl (by kernel_rfl) (by kernel_rfl) (by kernel_rfl) (by kernel_rfl) rfl rfl hf (by decide) (wantY hf rfl rfl hb4) (fun w hp => ?_) ⟨_, hp⟩ ?_
      · obtain ⟨_, hp⟩ := hp
        refine st_isub hf (by decide) (wantY hf rfl rfl hb4) rfl rfl ?_
        clear hf; intro a ha hf
        exact st_nil hf (th_n ⟨ha, rfl⟩)
      clear hf; intro a hf
      refine dr_take 18 (ot3002) rfl (by kernel_rfl) (by kernel_rfl) (by kernel_rfl) (by kernel_rfl) rfl rfl hf (by decide) (wantY hf rfl rfl hb4) (fun w hp => ?_) ⟨_, hp⟩ ?_
      · obtain ⟨_, hp⟩ := hp
        refine st_ldO (u := ot3002) hf (by decide) pl44 (wantY hf rfl rfl hb4) rfl (hot2.ob hp) rfl ?_
        clear hf; intro a ha hf
        exact st_nil hf (th_n ⟨ha, rfl⟩)
      clear hf; intro a hf
      refine dr_nilV 19 rfl (by kernel_rfl) (by kernel_rfl) (by kernel_rfl) hf (by decide) (wantY hf rfl rfl hb4) rfl (hot3002.ob hp) ?_
      clear hf; intro a hf
      refine dr_take 20 (optr ot3002 1) rfl (by kernel_rfl) (by kernel_rfl) (by kernel_rfl) (by kernel_rfl) rfl rfl hf (by decide) (wantY hf rfl rfl hb4) (fun w hp => ?_) ⟨_, hp⟩ ?_
      · obtain ⟨_, hp⟩ := hp
        refine st_fa (o' := 1) hf (by decide) (off := 1) (sz := 1) (by kernel_rfl) (by decide) (wantY hf rfl rfl hb4) rfl (hot3002.ob hp) rfl ?_
        clear hf; intro a ha hf
        exact st_nil hf (th_n ⟨ha, rfl⟩)
      clear hf; intro a hf
      refine dr_take 21 (.int .i64 t3002_wait) rfl (by kernel_rfl) (by kernel_rfl) (by kernel_rfl) (by kernel_rfl) rfl rfl hf (by decide) (wantY hf rfl rfl hb4) (fun w hp => ?_) ⟨_, hp⟩ ?_
      · obtain ⟨_, hp⟩ := hp
        refine st_ldO (u := .int .i64 t3002_wait) hf (by decide) pl2 (wantY hf rfl rfl hb4) rfl (hot3002.ob hp) rfl ?_
        clear hf; intro a ha hf
        exact st_nil hf (th_n ⟨ha, rfl⟩)
      clear hf; intro a hf
      refine dr_take 22 (.bool (decide (t3002_wait ≤ (IntKind.i64.wrap (t1 - (gt m0 im0).2.2.1))))) rfl (by kernel_rfl) (by kernel_rfl) (by kernel_rfl) (by kernel_rfl) rfl rfl hf (by decide) (wantY hf rfl rfl hb4) (fun w hp => ?_) ⟨_, hp⟩ ?_
      · obtain ⟨_, hp⟩ := hp
        refine st_igeq hf (by decide) (wantY hf rfl rfl hb4) rfl rfl ?_
        clear hf; intro a ha hf
        exact st_nil hf (th_n ⟨ha, rfl⟩)
      clear hf; intro a hf
      refine dr_take 23 (.bool ((!((gt m0 im0).2.1)) || (decide (t3002_wait ≤ (IntKind.i64.wrap (t1 - (gt m0 im0).2.2.1)))))) rfl (by kernel_rfl) (by kernel_rfl) (by kernel_rfl) (by kernel_rfl) rfl rfl hf (by decide) (wantY hf rfl rfl hb2) (fun w hp => ?_) ⟨_, hp⟩ ?_
      · obtain ⟨_, hp⟩ := hp
        refine st_pick (v := .bool ((!((gt m0 im0).2.1)) || (decide (t3002_wait ≤ (IntKind.i64.wrap (t1 - (gt m0 im0).2.2.1)))))) hf (wantY hf rfl rfl hb2) rfl (fun hb' => absurd (hb4.symm.trans hb') (by decide)) (fun _ => by rw [show ((!((gt m0 im0).2.1)) || (decide (t3002_wait ≤ (IntKind.i64.wrap (t1 - (gt m0 im0).2.2.1))))) = (decide (t3002_wait ≤ (IntKind.i64.wrap (t1 - (gt m0 im0).2.2.1)))) from by rw [hb4]; rfl]; rfl) (by decide) ?_
        clear hf; intro a ha hf
        exact st_nil hf (th_n ⟨ha, rfl⟩)
      clear hf; intro a hf
      refine dr_take 24 (.bool ((!((gt m0 im0).2.2.2)) && ((!((gt m0 im0).2.1)) || (decide (t3002_wait ≤ (IntKind.i64.wrap (t1 - (gt m0 im0).2.2.1))))))) rfl (by kernel_rfl) (by kernel_rfl) (by kernel_rfl) (by kernel_rfl) rfl rfl hf (by decide) rfl (fun w hp => ?_) ⟨_, hp⟩ ?_
      · obtain ⟨_, hp⟩ := hp
        refine st_pick (v := .bool ((!((gt m0 im0).2.2.2)) && ((!((gt m0 im0).2.1)) || (decide (t3002_wait ≤ (IntKind.i64.wrap (t1 - (gt m0 im0).2.2.1))))))) hf rfl rfl (fun _ => by rw [show ((!((gt m0 im0).2.2.2)) && ((!((gt m0 im0).2.1)) || (decide (t3002_wait ≤ (IntKind.i64.wrap (t1 - (gt m0 im0).2.2.1)))))) = ((!((gt m0 im0).2.1)) || (decide (t3002_wait ≤ (IntKind.i64.wrap (t1 - (gt m0 im0).2.2.1))))) from by rw [hb2]; rfl]; rfl) (fun hb' => absurd (hb2.symm.trans hb') (by decide)) (by decide) ?_
        clear hf; intro a ha hf
        exact st_nil hf (th_n ⟨ha, rfl⟩)
      clear hf; intro a hf
      refine dr_take 25 (.bool ((!((gt m0 im0).2.2.2)) && ((!((gt m0 im0).2.1)) || (decide (t3002_wait ≤ (IntKind.i64.wrap (t1 - (gt m0 im0).2.2.1))))))) rfl (by kernel_rfl) (by kernel_rfl) (by kernel_rfl) (by kernel_rfl) rfl rfl hf (by decide) rfl (fun w hp => ?_) ⟨_, hp⟩ ?_
      · obtain ⟨_, hp⟩ := hp
        refine st_assign hf rfl rfl (by decide) ?_
        clear hf; intro a ha hf
        exact st_nil hf (th_n ⟨ha, rfl⟩)
      clear hf; intro a hf
      refine dr_end (by kernel_rfl) ?_ _
      exact ⟨hf.sub ⟨rfl, trivial⟩, hp⟩
    skip
    refine dr_begin' (fun a w => Fr 30 a [(4, .bool ((!((gt m0 im0).2.2.2)) && ((!((gt m0 im0).2.1)) || (decide (t3002_wait ≤ (IntKind.i64.wrap (t1 - (gt m0 im0).2.2.1)))))))] ∧ Hp S w0 w (ow)) (fun w' => ∃ l, Hp S w0 w' l) [] (by kernel_rfl) ?_
    refine dr_take 0 (eptr vm0 im0 4) rfl (by kernel_rfl) (by kernel_rfl) (by kernel_rfl) (by kernel_rfl) rfl rfl hf (by decide) rfl (fun w hp => ?_) ⟨_, hp⟩ ?_
    · obtain ⟨_, hp⟩ := hp
      refine st_move hf rfl rfl (by decide) ?_
      clear hf; intro a ha hf
      exact st_nil hf (th_n ⟨ha, rfl⟩)
    clear hf; intro a hf
    refine dr_nilE 1 rfl (by kernel_rfl) (by kernel_rfl) (by kernel_rfl) hf (by decide) rfl rfl (Sl.ptr (hm0.sl hp) km0.1 km0.2) ?_
    clear hf; intro a hf
    refine dr_take 2 (optr (eptr vm0 im0 4) 3) rfl (by kernel_rfl) (by kernel_rfl) (by kernel_rfl) (by kernel_rfl) rfl rfl hf (by decide) rfl (fun w hp => ?_) ⟨_, hp⟩ ?_
    · obtain ⟨_, hp⟩ := hp
      refine st_faP (off := 3) (sz := 1) hf (by decide) (by kernel_rfl) (by decide) rfl rfl (Sl.isP (hm0.sl hp) km0.1 km0.2) ?_
      clear hf; intro a ha hf
      exact st_nil hf (th_n ⟨ha, rfl⟩)
    clear hf; intro a hf
    refine dr_take 3 (.bool ((gt m0 im0).2.2.2)) rfl (by kernel_rfl) (by kernel_rfl) (by kernel_rfl) (by kernel_rfl) rfl rfl hf (by decide) rfl (fun w hp => ?_) ⟨_, hp⟩ ?_
    · obtain ⟨_, hp⟩ := hp
      refine st_ldQ (F := Ek.bool) (yv := (gt m0 im0).2.2.2) hf (by decide) pl4 (fun x => .bool x) (fun _ _ h => h) rfl rfl (Sl.part (E := (Ek.pair Ek.str (Ek.pair Ek.bool (Ek.pair (Ek.int .i64) Ek.bool)))) (F := Ek.bool) (o := 3) (Sub.comp (Sub.snd (E := Ek.str) (F := (Ek.pair Ek.bool (Ek.pair (Ek.int .i64) Ek.bool)))) (Sub.comp (Sub.snd (E := Ek.bool) (F := (Ek.pair (Ek.int .i64) Ek.bool))) (Sub.snd (E := (Ek.int .i64)) (F := Ek.bool)))) (hm0.sl hp) km0.1 km0.2) ?_
      clear hf; intro a ha hf
      exact st_nil hf (th_n ⟨ha, rfl⟩)
    clear hf; intro a hf
    refine dr_take 4 (.bool (!((gt m0 im0).2.2.2))) rfl (by kernel_rfl) (by kernel_rfl) (by kernel_rfl) (by kernel_rfl) rfl rfl hf (by decide) rfl (fun w hp => ?_) ⟨_, hp⟩ ?_
    · obtain ⟨_, hp⟩ := hp
      refine st_not hf (by decide) rfl rfl ?_
      clear hf; intro a ha hf
      exact st_nil hf (th_n ⟨ha, rfl⟩)
    clear hf; intro a hf
    refine dr_take 5 (.bool (!((gt m0 im0).2.2.2))) rfl (by kernel_rfl) (by kernel_rfl) (by kernel_rfl) (by kernel_rfl) rfl rfl hf (by decide) rfl (fun w hp => ?_) ⟨_, hp⟩ ?_
    · obtain ⟨_, hp⟩ := hp
      refine st_move hf rfl rfl (by decide) ?_
      clear hf; intro a ha hf
      exact st_nil hf (th_n ⟨ha, rfl⟩)
    clear hf; intro a hf
    refine dr_out 6 rfl (by kernel_rfl) (by kernel_rfl) (by kernel_rfl) (by kernel_rfl) rfl hf (by decide) rfl (wantN hf rfl rfl hb2) ⟨_, hp⟩ ?_
    clear hf; intro a hf
    refine dr_outP 7 rfl (by kernel_rfl) (by kernel_rfl) (by kernel_rfl) rfl hf (by decide) (wantN hf rfl rfl hb2) ?_
    clear hf; intro a hf
    refine dr_out 8 rfl (by kernel_rfl) (by kernel_rfl) (by kernel_rfl) (by kernel_rfl) rfl hf (by decide) rfl (wantN hf rfl rfl hb2) ⟨_, hp⟩ ?_
    clear hf; intro a hf
    refine dr_out 9 rfl (by kernel_rfl) (by kernel_rfl) (by kernel_rfl) (by kernel_rfl) rfl hf (by decide) rfl (wantN hf rfl rfl hb2) ⟨_, hp⟩ ?_
    clear hf; intro a hf
    refine dr_out 10 rfl (by kernel_rfl) (by kernel_rfl) (by kernel_rfl) (by kernel_rfl) rfl hf (by decide) rfl (wantN hf rfl rfl hb2) ⟨_, hp⟩ ?_
    clear hf; intro a hf
    refine dr_outU 11 rfl (by kernel_rfl) (by kernel_rfl) (by kernel_rfl) (by kernel_rfl) rfl hf (by decide) (wantN hf rfl rfl hb2) ⟨_, hp⟩ ?_
    clear hf; intro a hf
    refine dr_out 12 rfl (by kernel_rfl) (by kernel_rfl) (by kernel_rfl) (by kernel_rfl) rfl hf (by decide) rfl (wantU hf rfl rfl) ⟨_, hp⟩ ?_
    clear hf; intro a hf
    refine dr_out 13 rfl (by kernel_rfl) (by kernel_rfl) (by kernel_rfl) (by kernel_rfl) rfl hf (by decide) rfl (wantU hf rfl rfl) ⟨_, hp⟩ ?_
    clear hf; intro a hf
    refine dr_outP 14 rfl (by kernel_rfl) (by kernel_rfl) (by kernel_rfl) rfl hf (by decide) (wantU hf rfl rfl) ?_
    clear hf; intro a hf
    refine dr_out 15 rfl (by kernel_rfl) (by kernel_rfl) (by kernel_rfl) (by kernel_rfl) rfl hf (by decide) rfl (wantU hf rfl rfl) ⟨_, hp⟩ ?_
    clear hf; intro a hf
    refine dr_out 16 rfl (by kernel_rfl) (by kernel_rfl) (by kernel_rfl) (by kernel_rfl) rfl hf (by decide) rfl (wantU hf rfl rfl) ⟨_, hp⟩ ?_
    clear hf; intro a hf
    refine dr_out 17 rfl (by kernel_rfl) (by kernel_rfl) (by kernel_rfl) (by kernel_rfl) rfl hf (by decide) rfl (wantU hf rfl rfl) ⟨_, hp⟩ ?_
    clear hf; intro a hf
    refine dr_out 18 rfl (by kernel_rfl) (by kernel_rfl) (by kernel_rfl) (by kernel_rfl) rfl hf (by decide) rfl (wantU hf rfl rfl) ⟨_, hp⟩ ?_
    clear hf; intro a hf
    refine dr_outP 19 rfl (by kernel_rfl) (by kernel_rfl) (by kernel_rfl) rfl hf (by decide) (wantU hf rfl rfl) ?_
    clear hf; intro a hf
    refine dr_out 20 rfl (by kernel_rfl) (by kernel_rfl) (by kernel_rfl) (by kernel_rfl) rfl hf (by decide) rfl (wantU hf rfl rfl) ⟨_, hp⟩ ?_
    clear hf; intro a hf
    refine dr_out 21 rfl (by kernel_rfl) (by kernel_rfl) (by kernel_rfl) (by kernel_rfl) rfl hf (by decide) rfl (wantU hf rfl rfl) ⟨_, hp⟩ ?_
    clear hf; intro a hf
    refine dr_out 22 rfl (by kernel_rfl) (by kernel_rfl) (by kernel_rfl) (by kernel_rfl) rfl hf (by decide) rfl (wantU hf rfl rfl) ⟨_, hp⟩ ?_
    clear hf; intro a hf
    refine dr_out 23 rfl (by kernel_rfl) (by kernel_rfl) (by kernel_rfl) (by kernel_rfl) rfl hf (by decide) rfl (wantN hf rfl rfl hb2) ⟨_, hp⟩ ?_
    clear hf; intro a hf
    refine dr_take 24 (.bool ((!((gt m0 im0).2.2.2)) && ((!((gt m0 im0).2.1)) || (decide (t3002_wait ≤ (IntKind.i64.wrap (t1 - (gt m0 im0).2.2.1))))))) rfl (by kernel_rfl) (by kernel_rfl) (by kernel_rfl) (by kernel_rfl) rfl rfl hf (by decide) rfl (fun w hp => ?_) ⟨_, hp⟩ ?_
    · obtain ⟨_, hp⟩ := hp
      refine st_pick (v := .bool ((!((gt m0 im0).2.2.2)) && ((!((gt m0 im0).2.1)) || (decide (t3002_wait ≤ (IntKind.i64.wrap (t1 - (gt m0 im0).2.2.1))))))) hf rfl rfl (fun hb' => absurd (hb2.symm.trans hb') (by decide)) (fun _ => by rw [show ((!((gt m0 im0).2.2.2)) && ((!((gt m0 im0).2.1)) || (decide (t3002_wait ≤ (IntKind.i64.wrap (t1 - (gt m0 im0).2.2.1)))))) = false from by rw [hb2]; rfl]; rfl) (by decide) ?_
      clear hf; intro a ha hf
      exact st_nil hf (th_n ⟨ha, rfl⟩)
    clear hf; intro a hf
    refine dr_take 25 (.bool ((!((gt m0 im0).2.2.2)) && ((!((gt m0 im0).2.1)) || (decide (t3002_wait ≤ (IntKind.i64.wrap (t1 - (gt m0 im0).2.2.1))))))) rfl (by kernel_rfl) (by kernel_rfl) (by kernel_rfl) (by kernel_rfl) rfl rfl hf (by decide) rfl (fun w hp => ?_) ⟨_, hp⟩ ?_
    · obtain ⟨_, hp⟩ := hp
      refine st_assign hf rfl rfl (by decide) ?_
      clear hf; intro a ha hf
      exact st_nil hf (th_n ⟨ha, rfl⟩)
    clear hf; intro a hf
    refine dr_end (by kernel_rfl) ?_ _
    exact ⟨hf.sub ⟨rfl, trivial⟩, hp⟩
  rintro a w ⟨hf, hp⟩
  refine th_n ?_
  refine wp_ret ?_
  obtain rfl := Option.some.inj h
  exact ⟨rfl, ⟨hf.sub ⟨rfl, trivial⟩, hp⟩⟩

noncomputable def f_again_Sender_Tick.s1c (sx0_window : Int) (sx0_left : (List (ByteArray × Bool × Int × Bool))) (sx0c_0 : Int) (sx0c_1 : Int) (sx0c_2 : Int) (sx0c_3 : Int) (sx0c_4 : (List (ByteArray × Bool × Int × Bool))) (now3c : Int) (out7 : (List (Int × Int × Bool × ByteArray))) (t33 : Int) : Option ((Int × Int × Int × Int × (List (ByteArray × Bool × Int × Bool)) × Int × (List (Int × Int × Bool × ByteArray)) × Int) ⊕ (Int × Int × Int × Int × (List (ByteArray × Bool × Int × Bool)) × (List (Int × Int × Bool × ByteArray)))) := (if (decide (t33 < (imin sx0_window (sx0_left.length : Int)))) = true then (if 0 ≤ t33 ∧ t33 < (sx0c_4.length : Int) then ((f_again_Sender_Tick_1 sx0c_4 t33 now3c sx0c_0 sx0c_1 sx0c_2 sx0c_3 sx0c_4).bind fun q57 => (if q57 = true then (if (out7.length + ([((1 : Int), (IntKind.u8.wrap (IntKind.i64.wrap (sx0c_3 + t33))), false, (gt ((sx0c_4.set (t33).toNat ((gt sx0c_4 t33).1, true, (gt sx0c_4 t33).2.2.1, (gt sx0c_4 t33).2.2.2)).set (t33).toNat ((gt (sx0c_4.set (t33).toNat ((gt sx0c_4 t33).1, true, (gt sx0c_4 t33).2.2.1, (gt sx0c_4 t33).2.2.2)) t33).1, (gt (sx0c_4.set (t33).toNat ((gt sx0c_4 t33).1, true, (gt sx0c_4 t33).2.2.1, (gt sx0c_4 t33).2.2.2)) t33).2.1, now3c, (gt (sx0c_4.set (t33).toNat ((gt sx0c_4 t33).1, true, (gt sx0c_4 t33).2.2.1, (gt sx0c_4 t33).2.2.2)) t33).2.2.2)) t33).1)]).length) * 24 ≤ 140737488355328 then (some (Sum.inl (sx0c_0, sx0c_1, sx0c_2, sx0c_3, ((sx0c_4.set (t33).toNat ((gt sx0c_4 t33).1, true, (gt sx0c_4 t33).2.2.1, (gt sx0c_4 t33).2.2.2)).set (t33).toNat ((gt (sx0c_4.set (t33).toNat ((gt sx0c_4 t33).1, true, (gt sx0c_4 t33).2.2.1, (gt sx0c_4 t33).2.2.2)) t33).1, (gt (sx0c_4.set (t33).toNat ((gt sx0c_4 t33).1, true, (gt sx0c_4 t33).2.2.1, (gt sx0c_4 t33).2.2.2)) t33).2.1, now3c, (gt (sx0c_4.set (t33).toNat ((gt sx0c_4 t33).1, true, (gt sx0c_4 t33).2.2.1, (gt sx0c_4 t33).2.2.2)) t33).2.2.2)), now3c, (out7 ++ [((1 : Int), (IntKind.u8.wrap (IntKind.i64.wrap (sx0c_3 + t33))), false, (gt ((sx0c_4.set (t33).toNat ((gt sx0c_4 t33).1, true, (gt sx0c_4 t33).2.2.1, (gt sx0c_4 t33).2.2.2)).set (t33).toNat ((gt (sx0c_4.set (t33).toNat ((gt sx0c_4 t33).1, true, (gt sx0c_4 t33).2.2.1, (gt sx0c_4 t33).2.2.2)) t33).1, (gt (sx0c_4.set (t33).toNat ((gt sx0c_4 t33).1, true, (gt sx0c_4 t33).2.2.1, (gt sx0c_4 t33).2.2.2)) t33).2.1, now3c, (gt (sx0c_4.set (t33).toNat ((gt sx0c_4 t33).1, true, (gt sx0c_4 t33).2.2.1, (gt sx0c_4 t33).2.2.2)) t33).2.2.2)) t33).1)]), (IntKind.i64.wrap (t33 + (1 : Int)))))) else none) else (some (Sum.inl (sx0c_0, sx0c_1, sx0c_2, sx0c_3, sx0c_4, now3c, out7, (IntKind.i64.wrap (t33 + (1 : Int)))))))) else none) else (some (Sum.inr (sx0c_0, sx0c_1, sx0c_2, sx0c_3, sx0c_4, out7))))
noncomputable def f_again_Sender_Tick.s1 (sx0_window : Int) (sx0_left : (List (ByteArray × Bool × Int × Bool))) (s : (Int × Int × Int × Int × (List (ByteArray × Bool × Int × Bool)) × Int × (List (Int × Int × Bool × ByteArray)) × Int)) : Option ((Int × Int × Int × Int × (List (ByteArray × Bool × Int × Bool)) × Int × (List (Int × Int × Bool × ByteArray)) × Int) ⊕ (Int × Int × Int × Int × (List (ByteArray × Bool × Int × Bool)) × (List (Int × Int × Bool × ByteArray)))) := f_again_Sender_Tick.s1c sx0_window sx0_left s.1 s.2.1 s.2.2.1 s.2.2.2.1 s.2.2.2.2.1 s.2.2.2.2.2.1 s.2.2.2.2.2.2.1 s.2.2.2.2.2.2.2
noncomputable def f_again_Sender_Tick (sx0_window : Int) (sx0_wait : Int) (sx0_now : Int) (sx0_front : Int) (sx0_left : (List (ByteArray × Bool × Int × Bool))) (now1 : Int) : Option ((List (Int × Int × Bool × ByteArray)) × Int × (Int × Int × Int × Int × (List (ByteArray × Bool × Int × Bool)))) := (if (decide (now1 < sx0_now)) = true then (some ([], (1 : Int), (sx0_window, sx0_wait, sx0_now, sx0_front, sx0_left))) else ((loop (f_again_Sender_Tick.s1 sx0_window sx0_left) (sx0_window, sx0_wait, now1, sx0_front, sx0_left, now1, [], (0 : Int))).bind (fun q108 => (some (q108.2.2.2.2.2, (0 : Int), (q108.1, q108.2.1, q108.2.2.1, q108.2.2.2.1, q108.2.2.2.2.1))))))
theorem f_again_Sender_Tick_c {S : Nat → Prop} {w0 w : World} {ow : List Res} (sx0_window : Int) (sx0_wait : Int) (sx0_now : Int) (sx0_front : Int) (vsx0_left : Value) (sx0_left : (List (ByteArray × Bool × Int × Bool))) (osx0 : Value) (now1 : Int) (hp : Hp S w0 w (Res.sl (Ek.pair Ek.str (Ek.pair Ek.bool (Ek.pair (Ek.int .i64) Ek.bool))) 81 vsx0_left sx0_left :: Res.obj 79 osx0 [.int .i64 sx0_window, .int .i64 sx0_wait, .int .i64 sx0_now, .int .i64 sx0_front, vsx0_left] :: ow)) {r : ((List (Int × Int × Bool × ByteArray)) × Int × (Int × Int × Int × Int × (List (ByteArray × Bool × Int × Bool))))} (h : f_again_Sender_Tick sx0_window sx0_wait sx0_now sx0_front sx0_left now1 = some r) :
    Calls Try.prog 19 #[osx0, .int .i64 now1] w (fun e w' => ∃ (u0 : Value) (u1 : Value), e = .returned (.tuple #[u0, .int .i64 r.2.1]) ∧ Hp S w0 w' (Res.sl (Ek.pair (Ek.int .u8) (Ek.pair (Ek.int .u8) (Ek.pair Ek.bool Ek.str))) 31 u0 r.1 :: Res.sl (Ek.pair Ek.str (Ek.pair Ek.bool (Ek.pair (Ek.int .i64) Ek.bool))) 81 u1 r.2.2.2.2.2.2 :: Res.obj 79 osx0 [.int .i64 r.2.2.1, .int .i64 r.2.2.2.1, .int .i64 r.2.2.2.2.1, .int .i64 r.2.2.2.2.2.1, u1] :: ow)) := by
  unfold f_again_Sender_Tick at h
  refine enter (n := 69) (args := [osx0, .int .i64 now1]) Try.func19 rfl rfl (Nat.le_of_ble_eq_true rfl) fun a hf => ?_
  replace hf : Fr 69 a [(0, osx0), (1, .int .i64 now1)] := hf
  refine wp_mono (Q := fun e a w => e = .ret ∧ ∃ (u0 : Value) (u1 : Value), Fr 69 a [(4, u0), (5, .int .i64 r.2.1)] ∧ Hp S w0 w (Res.sl (Ek.pair (Ek.int .u8) (Ek.pair (Ek.int .u8) (Ek.pair Ek.bool Ek.str))) 31 u0 r.1 :: Res.sl (Ek.pair Ek.str (Ek.pair Ek.bool (Ek.pair (Ek.int .i64) Ek.bool))) 81 u1 r.2.2.2.2.2.2 :: Res.obj 79 osx0 [.int .i64 r.2.2.1, .int .i64 r.2.2.2.1, .int .i64 r.2.2.2.2.1, .int .i64 r.2.2.2.2.2.1, u1] :: ow)) ?_ ?_
  rotate_left
  · rintro e a w ⟨rfl, x0, x1, hf, hp⟩
    exact ret2 hf rfl rfl rfl ⟨x0, x1, rfl, hp⟩
  refine wp_seq ?_
  refine wp_reg ?_
  refine st_boxO (cs := [osx0]) hf (by decide) hp rfl rfl (cells_po (hp.ob (i := 1) rfl)) ?_
  clear hf; intro a w v3 hf hp0; clear hp; have hp := hp0; clear hp0
  replace hp : Hp _ _ _ (Res.obj 44 v3 [osx0] :: Res.sl (Ek.pair Ek.str (Ek.pair Ek.bool (Ek.pair (Ek.int .i64) Ek.bool))) 81 vsx0_left sx0_left :: Res.obj 79 osx0 [.int .i64 sx0_window, .int .i64 sx0_wait, .int .i64 sx0_now, .int .i64 sx0_front, vsx0_left] :: ow) := hp
  refine st_boxO (cs := [.int .i64 now1]) hf (by decide) hp rfl rfl rfl ?_
  clear hf; intro a w v5 hf hp0; clear hp; have hp := hp0; clear hp0
  replace hp : Hp _ _ _ (Res.obj 2 v5 [.int .i64 now1] :: Res.obj 44 v3 [osx0] :: Res.sl (Ek.pair Ek.str (Ek.pair Ek.bool (Ek.pair (Ek.int .i64) Ek.bool))) 81 vsx0_left sx0_left :: Res.obj 79 osx0 [.int .i64 sx0_window, .int .i64 sx0_wait, .int .i64 sx0_now, .int .i64 sx0_front, vsx0_left] :: ow) := hp
  refine st_assign hf rfl rfl (by decide) ?_
  clear hf; intro a ha hf; clear ha
  refine st_assign hf rfl rfl (by decide) ?_
  clear hf; intro a ha hf; clear ha
  refine st_nil hf ?_
  refine th_n ?_
  refine wp_seq ?_
  refine wp_seq ?_
  refine wp_reg ?_
  refine st_ldO (u := osx0) hf (by decide) pl44 rfl rfl (hp.ob (i := 1) rfl) rfl ?_
  clear hf; intro a ha hf; clear ha
  refine st_peql hf (by decide) Try.underlying44 rfl rfl rfl (nilF (hp.ob (i := 3) rfl).e) ?_
  clear hf; intro a ha hf; clear ha
  refine st_nil hf ?_
  refine th_n ?_
  refine wp_if hf rfl (fun hb => ?_) (fun hb => ?_)
  · exact absurd hb (by decide)
  refine wp_skip ?_
  refine th_n ?_
  refine wp_seq ?_
  refine wp_seq ?_
  obtain ⟨S7, hp8, rd9, up10, bk11⟩ := Hp.lendO hp (i := 0) rfl
  obtain ⟨S12, hp13, rd14, up15, bk16⟩ := Hp.lendO hp8 (i := 0) rfl
  obtain ⟨S17, hp18, rd19, up20, bk21⟩ := Hp.lendO hp13 (i := 1) rfl
  have rl22 := rd19
  have rl23 := ((rd14.now hp13).mono up20)
  have rl24 := ((((rd9.now hp8).mono up15).now hp13).mono up20)
  refine wp_cutN (fun a w => Fr 69 a [(0, osx0), (2, optr v3 0), (3, optr v5 0), (17, .bool (decide (now1 < sx0_now)))] ∧ Hp S w0 w (Res.obj 2 v5 [.int .i64 now1] :: Res.obj 44 v3 [osx0] :: Res.obj 79 osx0 [.int .i64 sx0_window, .int .i64 sx0_wait, .int .i64 sx0_now, .int .i64 sx0_front, vsx0_left] :: Res.sl (Ek.pair Ek.str (Ek.pair Ek.bool (Ek.pair (Ek.int .i64) Ek.bool))) 81 vsx0_left sx0_left :: ow)) ?_ ?_
  · have hp := hp18.same (Same.drew w)
    refine dr_begin' (fun a w => Fr 69 a [(0, osx0), (2, optr v3 0), (3, optr v5 0), (17, .bool (decide (now1 < sx0_now)))] ∧ Hp S w0 w (Res.obj 2 v5 [.int .i64 now1] :: Res.obj 44 v3 [osx0] :: Res.obj 79 osx0 [.int .i64 sx0_window, .int .i64 sx0_wait, .int .i64 sx0_now, .int .i64 sx0_front, vsx0_left] :: Res.sl (Ek.pair Ek.str (Ek.pair Ek.bool (Ek.pair (Ek.int .i64) Ek.bool))) 81 vsx0_left sx0_left :: ow)) (fun w' => ∃ l, Hp S17 w w' l) [] (by kernel_rfl) ?_
    refine dr_take 0 (.int .i64 now1) rfl (by kernel_rfl) (by kernel_rfl) (by kernel_rfl) (by kernel_rfl) rfl rfl hf (by decide) rfl (fun w hp => ?_) ⟨_, hp⟩ ?_
    · obtain ⟨_, hp⟩ := hp
      refine st_ldO (u := .int .i64 now1) hf (by decide) pl2 rfl rfl (rl24.ob hp) rfl ?_
      clear hf; intro a ha hf
      exact st_nil hf (th_n ⟨ha, rfl⟩)
    clear hf; intro a hf
    refine dr_take 1 (osx0) rfl (by kernel_rfl) (by kernel_rfl) (by kernel_rfl) (by kernel_rfl) rfl rfl hf (by decide) rfl (fun w hp => ?_) ⟨_, hp⟩ ?_
    · obtain ⟨_, hp⟩ := hp
      refine st_ldO (u := osx0) hf (by decide) pl44 rfl rfl (rl23.ob hp) rfl ?_
      clear hf; intro a ha hf
      exact st_nil hf (th_n ⟨ha, rfl⟩)
    clear hf; intro a hf
    refine dr_nilV 2 rfl (by kernel_rfl) (by kernel_rfl) (by kernel_rfl) hf (by decide) rfl rfl (rl22.ob hp) ?_
    clear hf; intro a hf
    refine dr_take 3 (optr osx0 2) rfl (by kernel_rfl) (by kernel_rfl) (by kernel_rfl) (by kernel_rfl) rfl rfl hf (by decide) rfl (fun w hp => ?_) ⟨_, hp⟩ ?_
    · obtain ⟨_, hp⟩ := hp
      refine st_fa (o' := 2) hf (by decide) (off := 2) (sz := 1) (by kernel_rfl) (by decide) rfl rfl (rl22.ob hp) rfl ?_
      clear hf; intro a ha hf
      exact st_nil hf (th_n ⟨ha, rfl⟩)
    clear hf; intro a hf
    refine dr_take 4 (.int .i64 sx0_now) rfl (by kernel_rfl) (by kernel_rfl) (by kernel_rfl) (by kernel_rfl) rfl rfl hf (by decide) rfl (fun w hp => ?_) ⟨_, hp⟩ ?_
    · obtain ⟨_, hp⟩ := hp
      refine st_ldO (u := .int .i64 sx0_now) hf (by decide) pl2 rfl rfl (rl22.ob hp) rfl ?_
      clear hf; intro a ha hf
      exact st_nil hf (th_n ⟨ha, rfl⟩)
    clear hf; intro a hf
    refine dr_take 5 (.bool (decide (now1 < sx0_now))) rfl (by kernel_rfl) (by kernel_rfl) (by kernel_rfl) (by kernel_rfl) rfl rfl hf (by decide) rfl (fun w hp => ?_) ⟨_, hp⟩ ?_
    · obtain ⟨_, hp⟩ := hp
      refine st_ilss hf (by decide) rfl rfl rfl ?_
      clear hf; intro a ha hf
      exact st_nil hf (th_n ⟨ha, rfl⟩)
    clear hf; intro a hf
    refine dr_end (by kernel_rfl) ?_ _
    have hp := bk21 _ _ hp
    have hp := bk16 _ _ hp
    have hp := bk11 _ _ hp
    exact ⟨hf.sub ⟨rfl, rfl, rfl, rfl, trivial⟩, hp⟩
  rintro a w ⟨hf, hp⟩
  refine th_n ?_
  refine wp_if hf rfl (fun hb => ?_) (fun hb => ?_)
  · replace h := ifT h hb
    refine wp_seq ?_
    refine wp_reg ?_
    refine st_assign hf rfl rfl (by decide) ?_
    clear hf; intro a ha hf; clear ha
    refine st_assign hf rfl rfl (by decide) ?_
    clear hf; intro a ha hf; clear ha
    refine st_nil hf ?_
    refine th_n ?_
    refine wp_ret ?_
    refine th_r ?_
    obtain rfl := Option.some.inj h
    have hp := hp.nil (Ek.pair (Ek.int .u8) (Ek.pair (Ek.int .u8) (Ek.pair Ek.bool Ek.str))) 31
    have hp : Hp _ _ _ (Res.sl (Ek.pair (Ek.int .u8) (Ek.pair (Ek.int .u8) (Ek.pair Ek.bool Ek.str))) 31 (.slice none 0 0) ([]) :: Res.sl (Ek.pair Ek.str (Ek.pair Ek.bool (Ek.pair (Ek.int .i64) Ek.bool))) 81 vsx0_left sx0_left :: Res.obj 79 osx0 [.int .i64 sx0_window, .int .i64 sx0_wait, .int .i64 sx0_now, .int .i64 sx0_front, vsx0_left] :: ow) := Hp.sel (pre := [Res.sl (Ek.pair (Ek.int .u8) (Ek.pair (Ek.int .u8) (Ek.pair Ek.bool Ek.str))) 31 (.slice none 0 0) ([]), Res.obj 2 v5 [.int .i64 now1], Res.obj 44 v3 [osx0], Res.obj 79 osx0 [.int .i64 sx0_window, .int .i64 sx0_wait, .int .i64 sx0_now, .int .i64 sx0_front, vsx0_left], Res.sl (Ek.pair Ek.str (Ek.pair Ek.bool (Ek.pair (Ek.int .i64) Ek.bool))) 81 vsx0_left sx0_left]) (tail := ow) (rs' := [Res.sl (Ek.pair (Ek.int .u8) (Ek.pair (Ek.int .u8) (Ek.pair Ek.bool Ek.str))) 31 (.slice none 0 0) ([]), Res.sl (Ek.pair Ek.str (Ek.pair Ek.bool (Ek.pair (Ek.int .i64) Ek.bool))) 81 vsx0_left sx0_left, Res.obj 79 osx0 [.int .i64 sx0_window, .int .i64 sx0_wait, .int .i64 sx0_now, .int .i64 sx0_front, vsx0_left]]) hp [0, 4, 3] (by decide) (by simp) rfl
    exact ⟨rfl, ⟨_, _, hf.sub ⟨rfl, rfl, trivial⟩, hp⟩⟩
  replace h := ifF h hb
  refine wp_skip ?_
  refine th_n ?_
  refine wp_seq ?_
  refine wp_reg ?_
  refine st_ldO (u := osx0) hf (by decide) pl44 rfl rfl (hp.ob (i := 1) rfl) rfl ?_
  clear hf; intro a ha hf; clear ha
  refine st_ldO (u := .int .i64 now1) hf (by decide) pl2 rfl rfl (hp.ob (i := 0) rfl) rfl ?_
  clear hf; intro a ha hf; clear ha
  refine st_nilV hf (by decide) rfl rfl (hp.ob (i := 2) rfl) ?_
  clear hf; intro a ha hf; clear ha
  refine st_fa (o' := 2) hf (by decide) (off := 2) (sz := 1) (by kernel_rfl) (by decide) rfl rfl (hp.ob (i := 2) rfl) rfl ?_
  clear hf; intro a ha hf; clear ha
  refine st_stO (us := [.int .i64 now1]) hf hp (i := 2) rfl rfl rfl rfl rfl (by rfl) (by kernel_rfl) (Nat.le_of_ble_eq_true rfl) ?_
  clear hf; intro a w hf hp0; clear hp; have hp := hp0; clear hp0
  replace hp : Hp _ _ _ (Res.obj 2 v5 [.int .i64 now1] :: Res.obj 44 v3 [osx0] :: Res.obj 79 osx0 [.int .i64 sx0_window, .int .i64 sx0_wait, .int .i64 now1, .int .i64 sx0_front, vsx0_left] :: Res.sl (Ek.pair Ek.str (Ek.pair Ek.bool (Ek.pair (Ek.int .i64) Ek.bool))) 81 vsx0_left sx0_left :: ow) := hp
  refine st_nil hf ?_
  refine th_n ?_
  refine wp_seq ?_
  refine wp_reg ?_
  refine st_makeFunc2 hf (by decide) rfl rfl rfl ?_
  clear hf; intro a ha hf; clear ha
  refine st_assign hf rfl rfl (by decide) ?_
  clear hf; intro a ha hf; clear ha
  refine st_nil hf ?_
  refine th_n ?_
  refine wp_seq ?_
  refine wp_reg ?_
  refine st_assign hf rfl rfl (by decide) ?_
  clear hf; intro a ha hf; clear ha
  refine st_nil hf ?_
  refine th_n ?_
  refine wp_seq ?_
  refine wp_seq ?_
  obtain ⟨S26, hp27, rd28, up29, bk30⟩ := Hp.lendO hp (i := 1) rfl
  obtain ⟨S31, hp32, rd33, up34, bk35⟩ := Hp.lendO hp27 (i := 1) rfl
  obtain ⟨S36, hp37, rd38, up39, bk40⟩ := Hp.lendS hp32 (i := 1) rfl
  have rl41 := ((rd33.now hp32).mono up39)
  have rl42 := rd38
  have rl43 := ((((rd28.now hp27).mono up34).now hp32).mono up39)
  refine wp_cutN (fun a w => Fr 69 a [(0, osx0), (2, optr v3 0), (3, optr v5 0), (6, .func (.func 30) #[] #[optr v5 0, optr v3 0]), (7, .slice none 0 0), (32, .int .i64 (imin sx0_window (sx0_left.length : Int))), (33, .int .i64 (0 : Int))] ∧ Hp S w0 w (Res.obj 44 v3 [osx0] :: Res.obj 79 osx0 [.int .i64 sx0_window, .int .i64 sx0_wait, .int .i64 now1, .int .i64 sx0_front, vsx0_left] :: Res.sl (Ek.pair Ek.str (Ek.pair Ek.bool (Ek.pair (Ek.int .i64) Ek.bool))) 81 vsx0_left sx0_left :: Res.obj 2 v5 [.int .i64 now1] :: ow)) ?_ ?_
  · have hp := hp37.same (Same.drew w)
    refine dr_begin' (fun a w => Fr 69 a [(0, osx0), (2, optr v3 0), (3, optr v5 0), (6, .func (.func 30) #[] #[optr v5 0, optr v3 0]), (7, .slice none 0 0), (32, .int .i64 (imin sx0_window (sx0_left.length : Int))), (33, .int .i64 (0 : Int))] ∧ Hp S w0 w (Res.obj 44 v3 [osx0] :: Res.obj 79 osx0 [.int .i64 sx0_window, .int .i64 sx0_wait, .int .i64 now1, .int .i64 sx0_front, vsx0_left] :: Res.sl (Ek.pair Ek.str (Ek.pair Ek.bool (Ek.pair (Ek.int .i64) Ek.bool))) 81 vsx0_left sx0_left :: Res.obj 2 v5 [.int .i64 now1] :: ow)) (fun w' => ∃ l, Hp S36 w w' l) [] (by kernel_rfl) ?_
    refine dr_take 0 (osx0) rfl (by kernel_rfl) (by kernel_rfl) (by kernel_rfl) (by kernel_rfl) rfl rfl hf (by decide) rfl (fun w hp => ?_) ⟨_, hp⟩ ?_
    · obtain ⟨_, hp⟩ := hp
      refine st_ldO (u := osx0) hf (by decide) pl44 rfl rfl (rl43.ob hp) rfl ?_
      clear hf; intro a ha hf
      exact st_nil hf (th_n ⟨ha, rfl⟩)
    clear hf; intro a hf
    refine dr_nilV 1 rfl (by kernel_rfl) (by kernel_rfl) (by kernel_rfl) hf (by decide) rfl rfl (rl41.ob hp) ?_
    clear hf; intro a hf
    refine dr_take 2 (optr osx0 0) rfl (by kernel_rfl) (by kernel_rfl) (by kernel_rfl) (by kernel_rfl) rfl rfl hf (by decide) rfl (fun w hp => ?_) ⟨_, hp⟩ ?_
    · obtain ⟨_, hp⟩ := hp
      refine st_fa (o' := 0) hf (by decide) (off := 0) (sz := 1) (by kernel_rfl) (by decide) rfl rfl (rl41.ob hp) rfl ?_
      clear hf; intro a ha hf
      exact st_nil hf (th_n ⟨ha, rfl⟩)
    clear hf; intro a hf
    refine dr_take 3 (.int .i64 sx0_window) rfl (by kernel_rfl) (by kernel_rfl) (by kernel_rfl) (by kernel_rfl) rfl rfl hf (by decide) rfl (fun w hp => ?_) ⟨_, hp⟩ ?_
    · obtain ⟨_, hp⟩ := hp
      refine st_ldO (u := .int .i64 sx0_window) hf (by decide) pl3 rfl rfl (rl41.ob hp) rfl ?_
      clear hf; intro a ha hf
      exact st_nil hf (th_n ⟨ha, rfl⟩)
    clear hf; intro a hf
    refine dr_take 4 (osx0) rfl (by kernel_rfl) (by kernel_rfl) (by kernel_rfl) (by kernel_rfl) rfl rfl hf (by decide) rfl (fun w hp => ?_) ⟨_, hp⟩ ?_
    · obtain ⟨_, hp⟩ := hp
      refine st_ldO (u := osx0) hf (by decide) pl44 rfl rfl (rl43.ob hp) rfl ?_
      clear hf; intro a ha hf
      exact st_nil hf (th_n ⟨ha, rfl⟩)
    clear hf; intro a hf
    refine dr_nilV 5 rfl (by kernel_rfl) (by kernel_rfl) (by kernel_rfl) hf (by decide) rfl rfl (rl41.ob hp) ?_
    clear hf; intro a hf
    refine dr_take 6 (optr osx0 4) rfl (by kernel_rfl) (by kernel_rfl) (by kernel_rfl) (by kernel_rfl) rfl rfl hf (by decide) rfl (fun w hp => ?_) ⟨_, hp⟩ ?_
    · obtain ⟨_, hp⟩ := hp
      refine st_fa (o' := 4) hf (by decide) (off := 4) (sz := 1) (by kernel_rfl) (by decide) rfl rfl (rl41.ob hp) rfl ?_
      clear hf; intro a ha hf
      exact st_nil hf (th_n ⟨ha, rfl⟩)
    clear hf; intro a hf
    refine dr_take 7 (vsx0_left) rfl (by kernel_rfl) (by kernel_rfl) (by kernel_rfl) (by kernel_rfl) rfl rfl hf (by decide) rfl (fun w hp => ?_) ⟨_, hp⟩ ?_
    · obtain ⟨_, hp⟩ := hp
      refine st_ldO (u := vsx0_left) hf (by decide) pl77 rfl rfl (rl41.ob hp) rfl ?_
      clear hf; intro a ha hf
      exact st_nil hf (th_n ⟨ha, rfl⟩)
    clear hf; intro a hf
    refine dr_take 8 (.int .i64 (sx0_left.length : Int)) rfl (by kernel_rfl) (by kernel_rfl) (by kernel_rfl) (by kernel_rfl) rfl rfl hf (by decide) rfl (fun w hp => ?_) ⟨_, hp⟩ ?_
    · obtain ⟨_, hp⟩ := hp
      refine st_len (E := (Ek.pair Ek.str (Ek.pair Ek.bool (Ek.pair (Ek.int .i64) Ek.bool)))) hf (by decide) Try.underlying77 rfl rfl (rl42.sl hp) ?_
      clear hf; intro a ha hf
      exact st_nil hf (th_n ⟨ha, rfl⟩)
    clear hf; intro a hf
    refine dr_take 9 (.int .i64 (imin sx0_window (sx0_left.length : Int))) rfl (by kernel_rfl) (by kernel_rfl) (by kernel_rfl) (by kernel_rfl) rfl rfl hf (by decide) rfl (fun w hp => ?_) ⟨_, hp⟩ ?_
    · obtain ⟨_, hp⟩ := hp
      refine st_imin hf (by decide) rfl rfl rfl ?_
      clear hf; intro a ha hf
      exact st_nil hf (th_n ⟨ha, rfl⟩)
    clear hf; intro a hf
    refine dr_take 10 (.int .i64 (0 : Int)) rfl (by kernel_rfl) (by kernel_rfl) (by kernel_rfl) (by kernel_rfl) rfl rfl hf (by decide) rfl (fun w hp => ?_) ⟨_, hp⟩ ?_
    · obtain ⟨_, hp⟩ := hp
      refine st_move hf rfl rfl (by decide) ?_
      clear hf; intro a ha hf
      exact st_nil hf (th_n ⟨ha, rfl⟩)
    clear hf; intro a hf
    refine dr_end (by kernel_rfl) ?_ _
    have hp := bk40 _ _ hp
    have hp := bk35 _ _ hp
    have hp := bk30 _ _ hp
    exact ⟨hf.sub ⟨rfl, rfl, rfl, rfl, rfl, rfl, rfl, trivial⟩, hp⟩
  rintro a w ⟨hf, hp⟩
  refine th_n ?_
  refine wp_block ?_
  obtain ⟨q108, hl, h⟩ := bnd h
  have hp := hp.nil (Ek.pair (Ek.int .u8) (Ek.pair (Ek.int .u8) (Ek.pair Ek.bool Ek.str))) 31
  have hp : Hp _ _ _ (Res.sl (Ek.pair Ek.str (Ek.pair Ek.bool (Ek.pair (Ek.int .i64) Ek.bool))) 81 vsx0_left sx0_left :: Res.obj 79 osx0 [.int .i64 sx0_window, .int .i64 sx0_wait, .int .i64 now1, .int .i64 sx0_front, vsx0_left] :: Res.obj 44 v3 [osx0] :: Res.obj 2 v5 [.int .i64 now1] :: Res.sl (Ek.pair (Ek.int .u8) (Ek.pair (Ek.int .u8) (Ek.pair Ek.bool Ek.str))) 31 (.slice none 0 0) ([]) :: ow) := Hp.sel (pre := [Res.sl (Ek.pair (Ek.int .u8) (Ek.pair (Ek.int .u8) (Ek.pair Ek.bool Ek.str))) 31 (.slice none 0 0) ([]), Res.obj 44 v3 [osx0], Res.obj 79 osx0 [.int .i64 sx0_window, .int .i64 sx0_wait, .int .i64 now1, .int .i64 sx0_front, vsx0_left], Res.sl (Ek.pair Ek.str (Ek.pair Ek.bool (Ek.pair (Ek.int .i64) Ek.bool))) 81 vsx0_left sx0_left, Res.obj 2 v5 [.int .i64 now1]]) (tail := ow) (rs' := [Res.sl (Ek.pair Ek.str (Ek.pair Ek.bool (Ek.pair (Ek.int .i64) Ek.bool))) 81 vsx0_left sx0_left, Res.obj 79 osx0 [.int .i64 sx0_window, .int .i64 sx0_wait, .int .i64 now1, .int .i64 sx0_front, vsx0_left], Res.obj 44 v3 [osx0], Res.obj 2 v5 [.int .i64 now1], Res.sl (Ek.pair (Ek.int .u8) (Ek.pair (Ek.int .u8) (Ek.pair Ek.bool Ek.str))) 31 (.slice none 0 0) ([])]) hp [3, 2, 1, 4, 0] (by decide) (by simp) rfl
  refine wp_loop_pure (f := (f_again_Sender_Tick.s1 sx0_window sx0_left)) (s := (sx0_window, sx0_wait, now1, sx0_front, sx0_left, now1, [], (0 : Int))) (fun s a w => ∃ (v44 : Value) (v49 : Value), Fr 69 a [(0, osx0), (2, optr v3 0), (3, optr v5 0), (6, .func (.func 30) #[] #[optr v5 0, optr v3 0]), (7, v49), (32, .int .i64 (imin sx0_window (sx0_left.length : Int))), (33, .int .i64 s.2.2.2.2.2.2.2)] ∧ Hp S w0 w (Res.sl (Ek.pair Ek.str (Ek.pair Ek.bool (Ek.pair (Ek.int .i64) Ek.bool))) 81 v44 s.2.2.2.2.1 :: Res.obj 79 osx0 [.int .i64 s.1, .int .i64 s.2.1, .int .i64 s.2.2.1, .int .i64 s.2.2.2.1, v44] :: Res.obj 44 v3 [osx0] :: Res.obj 2 v5 [.int .i64 s.2.2.2.2.2.1] :: Res.sl (Ek.pair (Ek.int .u8) (Ek.pair (Ek.int .u8) (Ek.pair Ek.bool Ek.str))) 31 v49 s.2.2.2.2.2.2.1 :: ow)) (fun q e a w => e = .exit 0 ∧ ∃ (v51 : Value) (v54 : Value), Fr 69 a [(0, osx0), (7, v54)] ∧ Hp S w0 w (Res.sl (Ek.pair Ek.str (Ek.pair Ek.bool (Ek.pair (Ek.int .i64) Ek.bool))) 81 v51 q.2.2.2.2.1 :: Res.obj 79 osx0 [.int .i64 q.1, .int .i64 q.2.1, .int .i64 q.2.2.1, .int .i64 q.2.2.2.1, v51] :: Res.sl (Ek.pair (Ek.int .u8) (Ek.pair (Ek.int .u8) (Ek.pair Ek.bool Ek.str))) 31 v54 q.2.2.2.2.2 :: ow)) ?_ hl ⟨_, _, hf.sub ⟨rfl, rfl, rfl, rfl, rfl, rfl, rfl, trivial⟩, hp⟩ ?_
  · clear hl hf hp
    intro s x a w h hI
    obtain ⟨sx0c_0, sx0c_1, sx0c_2, sx0c_3, sx0c_4, now3c, out7, t33⟩ := s
    obtain ⟨v44, v49, hf, hp⟩ : ∃ (v44 : Value) (v49 : Value), Fr 69 a [(0, osx0), (2, optr v3 0), (3, optr v5 0), (6, .func (.func 30) #[] #[optr v5 0, optr v3 0]), (7, v49), (32, .int .i64 (imin sx0_window (sx0_left.length : Int))), (33, .int .i64 t33)] ∧ Hp S w0 w (Res.sl (Ek.pair Ek.str (Ek.pair Ek.bool (Ek.pair (Ek.int .i64) Ek.bool))) 81 v44 sx0c_4 :: Res.obj 79 osx0 [.int .i64 sx0c_0, .int .i64 sx0c_1, .int .i64 sx0c_2, .int .i64 sx0c_3, v44] :: Res.obj 44 v3 [osx0] :: Res.obj 2 v5 [.int .i64 now3c] :: Res.sl (Ek.pair (Ek.int .u8) (Ek.pair (Ek.int .u8) (Ek.pair Ek.bool Ek.str))) 31 v49 out7 :: ow) := hI
    replace h : f_again_Sender_Tick.s1c sx0_window sx0_left sx0c_0 sx0c_1 sx0c_2 sx0c_3 sx0c_4 now3c out7 t33 = some x := h
    unfold f_again_Sender_Tick.s1c at h
    refine wp_seq ?_
    refine wp_reg ?_
    refine st_ilss hf (by decide) rfl rfl rfl ?_
    clear hf; intro a ha hf; clear ha
    refine st_nil hf ?_
    refine th_n ?_
    refine wp_seq ?_
    refine wp_if hf rfl (fun hb => ?_) (fun hb => ?_)
    · replace h := ifT h hb
      refine wp_skip ?_
      refine th_n ?_
      refine wp_seq ?_
      refine wp_block ?_
      refine wp_seq ?_
      refine wp_reg ?_
      refine st_move hf rfl rfl (by decide) ?_
      clear hf; intro a ha hf; clear ha
      refine st_assign hf rfl rfl (by decide) ?_
      clear hf; intro a ha hf; clear ha
      refine st_nil hf ?_
      refine th_n ?_
      refine wp_seq ?_
      refine wp_reg ?_
      refine st_ldO (u := osx0) hf (by decide) pl44 rfl rfl (hp.ob (i := 2) rfl) rfl ?_
      clear hf; intro a ha hf; clear ha
      refine st_nilV hf (by decide) rfl rfl (hp.ob (i := 1) rfl) ?_
      clear hf; intro a ha hf; clear ha
      refine st_fa (o' := 4) hf (by decide) (off := 4) (sz := 1) (by kernel_rfl) (by decide) rfl rfl (hp.ob (i := 1) rfl) rfl ?_
      clear hf; intro a ha hf; clear ha
      refine st_ldO (u := v44) hf (by decide) pl77 rfl rfl (hp.ob (i := 1) rfl) rfl ?_
      clear hf; intro a ha hf; clear ha
      refine st_move hf rfl rfl (by decide) ?_
      clear hf; intro a ha hf; clear ha
      obtain ⟨hc56, h⟩ := chk h
      refine st_index (E := (Ek.pair Ek.str (Ek.pair Ek.bool (Ek.pair (Ek.int .i64) Ek.bool)))) hf (by decide) Try.underlying77 elt81 rfl rfl rfl (hp.sl (i := 0) rfl) hc56.1 hc56.2 ?_
      clear hf; intro a ha hf; clear ha
      refine st_assign hf rfl rfl (by decide) ?_
      clear hf; intro a ha hf; clear ha
      refine st_nil hf ?_
      refine th_n ?_
      refine wp_seq ?_
      refine wp_reg ?_
      refine st_move hf rfl rfl (by decide) ?_
      clear hf; intro a ha hf; clear ha
      refine st_move hf rfl rfl (by decide) ?_
      clear hf; intro a ha hf; clear ha
      obtain ⟨q57, hcall58, h⟩ := bnd h
      obtain ⟨S59, hp60, rd61, up62, bk63⟩ := Hp.lendS hp (i := 0) rfl
      obtain ⟨S64, hp65, rd66, up67, bk68⟩ := Hp.lendO hp60 (i := 2) rfl
      obtain ⟨S69, hp70, rd71, up72, bk73⟩ := Hp.lendO hp65 (i := 0) rfl
      obtain ⟨S74, hp75, rd76, up77, bk78⟩ := Hp.lendO hp70 (i := 0) rfl
      refine st_call hf (by decide) Try.func30 rfl rfl rfl rfl rfl (f_again_Sender_Tick_1_c hp75 _ _ _ ((((((rd61.now hp60).mono up67).now hp65).mono up72).now hp70).mono up77) hc56 _ _ ((((rd66.now hp65).mono up72).now hp70).mono up77) _ _ _ _ _ _ ((((((rd61.now hp60).mono up67).now hp65).mono up72).now hp70).mono up77) _ ((rd71.now hp70).mono up77) _ rd76 hcall58) ?_
      rintro _ w ⟨rfl, hp0⟩
      have hp0 := bk78 _ _ hp0
      have hp0 := bk73 _ _ hp0
      have hp0 := bk68 _ _ hp0
      have hp0 := bk63 _ _ hp0
      clear hp; have hp := hp0; clear hp0
      replace hp : Hp _ _ _ (Res.sl (Ek.pair Ek.str (Ek.pair Ek.bool (Ek.pair (Ek.int .i64) Ek.bool))) 81 v44 sx0c_4 :: Res.obj 2 v5 [.int .i64 now3c] :: Res.obj 79 osx0 [.int .i64 sx0c_0, .int .i64 sx0c_1, .int .i64 sx0c_2, .int .i64 sx0c_3, v44] :: Res.obj 44 v3 [osx0] :: Res.sl (Ek.pair (Ek.int .u8) (Ek.pair (Ek.int .u8) (Ek.pair Ek.bool Ek.str))) 31 v49 out7 :: ow) := hp
      refine ⟨_, rfl, ?_⟩
      clear hf; intro a hf
      refine st_nil hf ?_
      refine th_n ?_
      refine wp_if hf rfl (fun hb => ?_) (fun hb => ?_)
      · replace h := ifT h hb
        refine wp_seq ?_
        obtain ⟨S79, hp80, rd81, up82, bk83⟩ := Hp.lendO hp (i := 1) rfl
        have rl84 := rd81
        have fx85 := hp.sl (i := 0) rfl
        refine wp_cutN (fun a w => Fr 69 a [(0, osx0), (2, optr v3 0), (3, optr v5 0), (6, .func (.func 30) #[] #[optr v5 0, optr v3 0]), (7, v49), (8, .int .i64 t33), (9, eptr v44 t33 4), (32, .int .i64 (imin sx0_window (sx0_left.length : Int))), (33, .int .i64 t33)] ∧ Hp S w0 w (Res.obj 2 v5 [.int .i64 now3c] :: Res.sl (Ek.pair Ek.str (Ek.pair Ek.bool (Ek.pair (Ek.int .i64) Ek.bool))) 81 v44 ((sx0c_4.set (t33).toNat ((gt sx0c_4 t33).1, true, (gt sx0c_4 t33).2.2.1, (gt sx0c_4 t33).2.2.2)).set (t33).toNat ((gt (sx0c_4.set (t33).toNat ((gt sx0c_4 t33).1, true, (gt sx0c_4 t33).2.2.1, (gt sx0c_4 t33).2.2.2)) t33).1, (gt (sx0c_4.set (t33).toNat ((gt sx0c_4 t33).1, true, (gt sx0c_4 t33).2.2.1, (gt sx0c_4 t33).2.2.2)) t33).2.1, now3c, (gt (sx0c_4.set (t33).toNat ((gt sx0c_4 t33).1, true, (gt sx0c_4 t33).2.2.1, (gt sx0c_4 t33).2.2.2)) t33).2.2.2)) :: Res.obj 79 osx0 [.int .i64 sx0c_0, .int .i64 sx0c_1, .int .i64 sx0c_2, .int .i64 sx0c_3, v44] :: Res.obj 44 v3 [osx0] :: Res.sl (Ek.pair (Ek.int .u8) (Ek.pair (Ek.int .u8) (Ek.pair Ek.bool Ek.str))) 31 v49 out7 :: ow)) ?_ ?_
        · have hp := hp80.same (Same.drew w)
          refine dr_begin' (fun a w => Fr 69 a [(0, osx0), (2, optr v3 0), (3, optr v5 0), (6, .func (.func 30) #[] #[optr v5 0, optr v3 0]), (7, v49), (8, .int .i64 t33), (9, eptr v44 t33 4), (32, .int .i64 (imin sx0_window (sx0_left.length : Int))), (33, .int .i64 t33)] ∧ Hp S w0 w (Res.obj 2 v5 [.int .i64 now3c] :: Res.sl (Ek.pair Ek.str (Ek.pair Ek.bool (Ek.pair (Ek.int .i64) Ek.bool))) 81 v44 ((sx0c_4.set (t33).toNat ((gt sx0c_4 t33).1, true, (gt sx0c_4 t33).2.2.1, (gt sx0c_4 t33).2.2.2)).set (t33).toNat ((gt (sx0c_4.set (t33).toNat ((gt sx0c_4 t33).1, true, (gt sx0c_4 t33).2.2.1, (gt sx0c_4 t33).2.2.2)) t33).1, (gt (sx0c_4.set (t33).toNat ((gt sx0c_4 t33).1, true, (gt sx0c_4 t33).2.2.1, (gt sx0c_4 t33).2.2.2)) t33).2.1, now3c, (gt (sx0c_4.set (t33).toNat ((gt sx0c_4 t33).1, true, (gt sx0c_4 t33).2.2.1, (gt sx0c_4 t33).2.2.2)) t33).2.2.2)) :: Res.obj 79 osx0 [.int .i64 sx0c_0, .int .i64 sx0c_1, .int .i64 sx0c_2, .int .i64 sx0c_3, v44] :: Res.obj 44 v3 [osx0] :: Res.sl (Ek.pair (Ek.int .u8) (Ek.pair (Ek.int .u8) (Ek.pair Ek.bool Ek.str))) 31 v49 out7 :: ow)) (fun w' => ∃ l, Hp S79 w w' l) [] (by kernel_rfl) ?_
          refine dr_takeP 0 (eptr v44 t33 4) rfl (by kernel_rfl) (by kernel_rfl) (by kernel_rfl) rfl rfl hf (by decide) rfl (fun w => ?_) ?_
          · skip
            refine st_move hf rfl rfl (by decide) ?_
            clear hf; intro a ha hf
            exact st_nil hf (th_n ⟨ha, rfl⟩)
          clear hf; intro a hf
          refine dr_takeP 1 (eptr v44 t33 4) rfl (by kernel_rfl) (by kernel_rfl) (by kernel_rfl) rfl rfl hf (by decide) rfl (fun w => ?_) ?_
          · skip
            refine st_move hf rfl rfl (by decide) ?_
            clear hf; intro a ha hf
            exact st_nil hf (th_n ⟨ha, rfl⟩)
          clear hf; intro a hf
          refine dr_take 2 (.int .i64 now3c) rfl (by kernel_rfl) (by kernel_rfl) (by kernel_rfl) (by kernel_rfl) rfl rfl hf (by decide) rfl (fun w hp => ?_) ⟨_, hp⟩ ?_
          · obtain ⟨_, hp⟩ := hp
            refine st_ldO (u := .int .i64 now3c) hf (by decide) pl2 rfl rfl (rl84.ob hp) rfl ?_
            clear hf; intro a ha hf
            exact st_nil hf (th_n ⟨ha, rfl⟩)
          clear hf; intro a hf
          refine dr_nilE 3 rfl (by kernel_rfl) (by kernel_rfl) (by kernel_rfl) hf (by decide) rfl rfl (Sl.ptr fx85 hc56.1 hc56.2) ?_
          clear hf; intro a hf
          refine dr_takeP 4 (optr (eptr v44 t33 4) 1) rfl (by kernel_rfl) (by kernel_rfl) (by kernel_rfl) rfl rfl hf (by decide) rfl (fun w => ?_) ?_
          · skip
            refine st_faP (off := 1) (sz := 1) hf (by decide) (by kernel_rfl) (by decide) rfl rfl (Sl.isP fx85 hc56.1 hc56.2) ?_
            clear hf; intro a ha hf
            exact st_nil hf (th_n ⟨ha, rfl⟩)
          clear hf; intro a hf
          refine dr_one 5 rfl (by kernel_rfl) ?_
          refine st_stQ (E := (Ek.pair Ek.str (Ek.pair Ek.bool (Ek.pair (Ek.int .i64) Ek.bool)))) (F := Ek.bool) (o := 1) (Sub.comp (Sub.snd (E := Ek.str) (F := (Ek.pair Ek.bool (Ek.pair (Ek.int .i64) Ek.bool)))) (Sub.fst (E := Ek.bool) (F := (Ek.pair (Ek.int .i64) Ek.bool)))) hf (by kernel_rfl) hp (i := 0) rfl rfl rfl rfl rfl hc56.1 hc56.2 ?_
          clear hf; intro a w hf hp0; clear hp; have hp := hp0; clear hp0
          replace hp : Hp _ _ _ (Res.sl (Ek.pair Ek.str (Ek.pair Ek.bool (Ek.pair (Ek.int .i64) Ek.bool))) 81 v44 (sx0c_4.set (t33).toNat ((gt sx0c_4 t33).1, true, (gt sx0c_4 t33).2.2.1, (gt sx0c_4 t33).2.2.2)) :: Res.obj 79 osx0 [.int .i64 sx0c_0, .int .i64 sx0c_1, .int .i64 sx0c_2, .int .i64 sx0c_3, v44] :: Res.obj 44 v3 [osx0] :: Res.sl (Ek.pair (Ek.int .u8) (Ek.pair (Ek.int .u8) (Ek.pair Ek.bool Ek.str))) 31 v49 out7 :: ow) := hp
          refine st_nil hf (th_n ⟨fun _ _ => ⟨_, hp⟩, ?_⟩)
          refine dr_nilE 6 rfl (by kernel_rfl) (by kernel_rfl) (by kernel_rfl) hf (by decide) rfl rfl (Sl.ptr fx85 hc56.1 hc56.2) ?_
          clear hf; intro a hf
          refine dr_takeP 7 (optr (eptr v44 t33 4) 2) rfl (by kernel_rfl) (by kernel_rfl) (by kernel_rfl) rfl rfl hf (by decide) rfl (fun w => ?_) ?_
          · skip
            refine st_faP (off := 2) (sz := 1) hf (by decide) (by kernel_rfl) (by decide) rfl rfl (Sl.isP fx85 hc56.1 hc56.2) ?_
            clear hf; intro a ha hf
            exact st_nil hf (th_n ⟨ha, rfl⟩)
          clear hf; intro a hf
          refine dr_one 8 rfl (by kernel_rfl) ?_
          refine st_stQ (E := (Ek.pair Ek.str (Ek.pair Ek.bool (Ek.pair (Ek.int .i64) Ek.bool)))) (F := (Ek.int .i64)) (o := 2) (Sub.comp (Sub.snd (E := Ek.str) (F := (Ek.pair Ek.bool (Ek.pair (Ek.int .i64) Ek.bool)))) (Sub.comp (Sub.snd (E := Ek.bool) (F := (Ek.pair (Ek.int .i64) Ek.bool))) (Sub.fst (E := (Ek.int .i64)) (F := Ek.bool)))) hf (by kernel_rfl) hp (i := 0) rfl rfl rfl rfl rfl (show 0 ≤ t33 ∧ t33 < ((sx0c_4.set (t33).toNat ((gt sx0c_4 t33).1, true, (gt sx0c_4 t33).2.2.1, (gt sx0c_4 t33).2.2.2)).length : Int) from hset hc56).1 (show 0 ≤ t33 ∧ t33 < ((sx0c_4.set (t33).toNat ((gt sx0c_4 t33).1, true, (gt sx0c_4 t33).2.2.1, (gt sx0c_4 t33).2.2.2)).length : Int) from hset hc56).2 ?_
          clear hf; intro a w hf hp0; clear hp; have hp := hp0; clear hp0
          replace hp : Hp _ _ _ (Res.sl (Ek.pair Ek.str (Ek.pair Ek.bool (Ek.pair (Ek.int .i64) Ek.bool))) 81 v44 ((sx0c_4.set (t33).toNat ((gt sx0c_4 t33).1, true, (gt sx0c_4 t33).2.2.1, (gt sx0c_4 t33).2.2.2)).set (t33).toNat ((gt (sx0c_4.set (t33).toNat ((gt sx0c_4 t33).1, true, (gt sx0c_4 t33).2.2.1, (gt sx0c_4 t33).2.2.2)) t33).1, (gt (sx0c_4.set (t33).toNat ((gt sx0c_4 t33).1, true, (gt sx0c_4 t33).2.2.1, (gt sx0c_4 t33).2.2.2)) t33).2.1, now3c, (gt (sx0c_4.set (t33).toNat ((gt sx0c_4 t33).1, true, (gt sx0c_4 t33).2.2.1, (gt sx0c_4 t33).2.2.2)) t33).2.2.2)) :: Res.obj 79 osx0 [.int .i64 sx0c_0, .int .i64 sx0c_1, .int .i64 sx0c_2, .int .i64 sx0c_3, v44] :: Res.obj 44 v3 [osx0] :: Res.sl (Ek.pair (Ek.int .u8) (Ek.pair (Ek.int .u8) (Ek.pair Ek.bool Ek.str))) 31 v49 out7 :: ow) := hp
          refine st_nil hf (th_n ⟨fun _ _ => ⟨_, hp⟩, ?_⟩)
          refine dr_end (by kernel_rfl) ?_ _
          have hp := bk83 _ _ hp
          exact ⟨hf.sub ⟨rfl, rfl, rfl, rfl, rfl, rfl, rfl, rfl, rfl, trivial⟩, hp⟩
        rintro a w ⟨hf, hp⟩
        refine th_n ?_
        obtain ⟨S86, hp87, rd88, up89, bk90⟩ := Hp.lendO hp (i := 3) rfl
        obtain ⟨S91, hp92, rd93, up94, bk95⟩ := Hp.lendO hp87 (i := 2) rfl
        obtain ⟨S96, hp97, rd98, up99, bk100⟩ := Hp.lendS hp92 (i := 1) rfl
        have rl101 := ((rd93.now hp92).mono up99)
        have rl102 := rd98
        have rl103 := ((((rd88.now hp87).mono up94).now hp92).mono up99)
        obtain ⟨hc106, h⟩ := chk h
        refine wp_cutN (fun a w => ∃ (v104 : Value) (v107 : Value), Fr 69 a [(0, osx0), (2, optr v3 0), (3, optr v5 0), (6, .func (.func 30) #[] #[optr v5 0, optr v3 0]), (7, v107), (32, .int .i64 (imin sx0_window (sx0_left.length : Int))), (33, .int .i64 t33)] ∧ Hp S w0 w (Res.obj 44 v3 [osx0] :: Res.obj 79 osx0 [.int .i64 sx0c_0, .int .i64 sx0c_1, .int .i64 sx0c_2, .int .i64 sx0c_3, v44] :: Res.sl (Ek.pair Ek.str (Ek.pair Ek.bool (Ek.pair (Ek.int .i64) Ek.bool))) 81 v44 ((sx0c_4.set (t33).toNat ((gt sx0c_4 t33).1, true, (gt sx0c_4 t33).2.2.1, (gt sx0c_4 t33).2.2.2)).set (t33).toNat ((gt (sx0c_4.set (t33).toNat ((gt sx0c_4 t33).1, true, (gt sx0c_4 t33).2.2.1, (gt sx0c_4 t33).2.2.2)) t33).1, (gt (sx0c_4.set (t33).toNat ((gt sx0c_4 t33).1, true, (gt sx0c_4 t33).2.2.1, (gt sx0c_4 t33).2.2.2)) t33).2.1, now3c, (gt (sx0c_4.set (t33).toNat ((gt sx0c_4 t33).1, true, (gt sx0c_4 t33).2.2.1, (gt sx0c_4 t33).2.2.2)) t33).2.2.2)) :: Res.sl (Ek.pair (Ek.int .u8) (Ek.pair (Ek.int .u8) (Ek.pair Ek.bool Ek.str))) 31 v104 ([((1 : Int), (IntKind.u8.wrap (IntKind.i64.wrap (sx0c_3 + t33))), false, (gt ((sx0c_4.set (t33).toNat ((gt sx0c_4 t33).1, true, (gt sx0c_4 t33).2.2.1, (gt sx0c_4 t33).2.2.2)).set (t33).toNat ((gt (sx0c_4.set (t33).toNat ((gt sx0c_4 t33).1, true, (gt sx0c_4 t33).2.2.1, (gt sx0c_4 t33).2.2.2)) t33).1, (gt (sx0c_4.set (t33).toNat ((gt sx0c_4 t33).1, true, (gt sx0c_4 t33).2.2.1, (gt sx0c_4 t33).2.2.2)) t33).2.1, now3c, (gt (sx0c_4.set (t33).toNat ((gt sx0c_4 t33).1, true, (gt sx0c_4 t33).2.2.1, (gt sx0c_4 t33).2.2.2)) t33).2.2.2)) t33).1)]) :: Res.obj 2 v5 [.int .i64 now3c] :: Res.sl (Ek.pair (Ek.int .u8) (Ek.pair (Ek.int .u8) (Ek.pair Ek.bool Ek.str))) 31 v107 (out7 ++ [((1 : Int), (IntKind.u8.wrap (IntKind.i64.wrap (sx0c_3 + t33))), false, (gt ((sx0c_4.set (t33).toNat ((gt sx0c_4 t33).1, true, (gt sx0c_4 t33).2.2.1, (gt sx0c_4 t33).2.2.2)).set (t33).toNat ((gt (sx0c_4.set (t33).toNat ((gt sx0c_4 t33).1, true, (gt sx0c_4 t33).2.2.1, (gt sx0c_4 t33).2.2.2)) t33).1, (gt (sx0c_4.set (t33).toNat ((gt sx0c_4 t33).1, true, (gt sx0c_4 t33).2.2.1, (gt sx0c_4 t33).2.2.2)) t33).2.1, now3c, (gt (sx0c_4.set (t33).toNat ((gt sx0c_4 t33).1, true, (gt sx0c_4 t33).2.2.1, (gt sx0c_4 t33).2.2.2)) t33).2.2.2)) t33).1)]) :: ow)) ?_ ?_
        · have hp := hp97.same (Same.drew w)
          refine dr_begin' (fun a w => ∃ (v104 : Value) (v107 : Value), Fr 69 a [(0, osx0), (2, optr v3 0), (3, optr v5 0), (6, .func (.func 30) #[] #[optr v5 0, optr v3 0]), (7, v107), (32, .int .i64 (imin sx0_window (sx0_left.length : Int))), (33, .int .i64 t33)] ∧ Hp S w0 w (Res.obj 44 v3 [osx0] :: Res.obj 79 osx0 [.int .i64 sx0c_0, .int .i64 sx0c_1, .int .i64 sx0c_2, .int .i64 sx0c_3, v44] :: Res.sl (Ek.pair Ek.str (Ek.pair Ek.bool (Ek.pair (Ek.int .i64) Ek.bool))) 81 v44 ((sx0c_4.set (t33).toNat ((gt sx0c_4 t33).1, true, (gt sx0c_4 t33).2.2.1, (gt sx0c_4 t33).2.2.2)).set (t33).toNat ((gt (sx0c_4.set (t33).toNat ((gt sx0c_4 t33).1, true, (gt sx0c_4 t33).2.2.1, (gt sx0c_4 t33).2.2.2)) t33).1, (gt (sx0c_4.set (t33).toNat ((gt sx0c_4 t33).1, true, (gt sx0c_4 t33).2.2.1, (gt sx0c_4 t33).2.2.2)) t33).2.1, now3c, (gt (sx0c_4.set (t33).toNat ((gt sx0c_4 t33).1, true, (gt sx0c_4 t33).2.2.1, (gt sx0c_4 t33).2.2.2)) t33).2.2.2)) :: Res.sl (Ek.pair (Ek.int .u8) (Ek.pair (Ek.int .u8) (Ek.pair Ek.bool Ek.str))) 31 v104 ([((1 : Int), (IntKind.u8.wrap (IntKind.i64.wrap (sx0c_3 + t33))), false, (gt ((sx0c_4.set (t33).toNat ((gt sx0c_4 t33).1, true, (gt sx0c_4 t33).2.2.1, (gt sx0c_4 t33).2.2.2)).set (t33).toNat ((gt (sx0c_4.set (t33).toNat ((gt sx0c_4 t33).1, true, (gt sx0c_4 t33).2.2.1, (gt sx0c_4 t33).2.2.2)) t33).1, (gt (sx0c_4.set (t33).toNat ((gt sx0c_4 t33).1, true, (gt sx0c_4 t33).2.2.1, (gt sx0c_4 t33).2.2.2)) t33).2.1, now3c, (gt (sx0c_4.set (t33).toNat ((gt sx0c_4 t33).1, true, (gt sx0c_4 t33).2.2.1, (gt sx0c_4 t33).2.2.2)) t33).2.2.2)) t33).1)]) :: Res.obj 2 v5 [.int .i64 now3c] :: Res.sl (Ek.pair (Ek.int .u8) (Ek.pair (Ek.int .u8) (Ek.pair Ek.bool Ek.str))) 31 v107 (out7 ++ [((1 : Int), (IntKind.u8.wrap (IntKind.i64.wrap (sx0c_3 + t33))), false, (gt ((sx0c_4.set (t33).toNat ((gt sx0c_4 t33).1, true, (gt sx0c_4 t33).2.2.1, (gt sx0c_4 t33).2.2.2)).set (t33).toNat ((gt (sx0c_4.set (t33).toNat ((gt sx0c_4 t33).1, true, (gt sx0c_4 t33).2.2.1, (gt sx0c_4 t33).2.2.2)) t33).1, (gt (sx0c_4.set (t33).toNat ((gt sx0c_4 t33).1, true, (gt sx0c_4 t33).2.2.1, (gt sx0c_4 t33).2.2.2)) t33).2.1, now3c, (gt (sx0c_4.set (t33).toNat ((gt sx0c_4 t33).1, true, (gt sx0c_4 t33).2.2.1, (gt sx0c_4 t33).2.2.2)) t33).2.2.2)) t33).1)]) :: ow)) (fun w' => ∃ l, Hp S96 w w' l) [] (by kernel_rfl) ?_
          refine dr_take 0 (v49) rfl (by kernel_rfl) (by kernel_rfl) (by kernel_rfl) (by kernel_rfl) rfl rfl hf (by decide) rfl (fun w hp => ?_) ⟨_, hp⟩ ?_
          · obtain ⟨_, hp⟩ := hp
            refine st_move hf rfl rfl (by decide) ?_
            clear hf; intro a ha hf
            exact st_nil hf (th_n ⟨ha, rfl⟩)
          clear hf; intro a hf
          refine dr_take 1 (osx0) rfl (by kernel_rfl) (by kernel_rfl) (by kernel_rfl) (by kernel_rfl) rfl rfl hf (by decide) rfl (fun w hp => ?_) ⟨_, hp⟩ ?_
          · obtain ⟨_, hp⟩ := hp
            refine st_ldO (u := osx0) hf (by decide) pl44 rfl rfl (rl103.ob hp) rfl ?_
            clear hf; intro a ha hf
            exact st_nil hf (th_n ⟨ha, rfl⟩)
          clear hf; intro a hf
          refine dr_nilV 2 rfl (by kernel_rfl) (by kernel_rfl) (by kernel_rfl) hf (by decide) rfl rfl (rl101.ob hp) ?_
          clear hf; intro a hf
          refine dr_take 3 (optr osx0 3) rfl (by kernel_rfl) (by kernel_rfl) (by kernel_rfl) (by kernel_rfl) rfl rfl hf (by decide) rfl (fun w hp => ?_) ⟨_, hp⟩ ?_
          · obtain ⟨_, hp⟩ := hp
            refine st_fa (o' := 3) hf (by decide) (off := 3) (sz := 1) (by kernel_rfl) (by decide) rfl rfl (rl101.ob hp) rfl ?_
            clear hf; intro a ha hf
            exact st_nil hf (th_n ⟨ha, rfl⟩)
          clear hf; intro a hf
          refine dr_take 4 (.int .i64 sx0c_3) rfl (by kernel_rfl) (by kernel_rfl) (by kernel_rfl) (by kernel_rfl) rfl rfl hf (by decide) rfl (fun w hp => ?_) ⟨_, hp⟩ ?_
          · obtain ⟨_, hp⟩ := hp
            refine st_ldO (u := .int .i64 sx0c_3) hf (by decide) pl3 rfl rfl (rl101.ob hp) rfl ?_
            clear hf; intro a ha hf
            exact st_nil hf (th_n ⟨ha, rfl⟩)
          clear hf; intro a hf
          refine dr_take 5 (.int .i64 t33) rfl (by kernel_rfl) (by kernel_rfl) (by kernel_rfl) (by kernel_rfl) rfl rfl hf (by decide) rfl (fun w hp => ?_) ⟨_, hp⟩ ?_
          · obtain ⟨_, hp⟩ := hp
            refine st_move hf rfl rfl (by decide) ?_
            clear hf; intro a ha hf
            exact st_nil hf (th_n ⟨ha, rfl⟩)
          clear hf; intro a hf
          refine dr_take 6 (.int .i64 (IntKind.i64.wrap (sx0c_3 + t33))) rfl (by kernel_rfl) (by kernel_rfl) (by kernel_rfl) (by kernel_rfl) rfl rfl hf (by decide) rfl (fun w hp => ?_) ⟨_, hp⟩ ?_
          · obtain ⟨_, hp⟩ := hp
            refine st_iadd hf (by decide) rfl rfl rfl ?_
            clear hf; intro a ha hf
            exact st_nil hf (th_n ⟨ha, rfl⟩)
          clear hf; intro a hf
          refine dr_take 7 (.int .u8 (IntKind.u8.wrap (IntKind.i64.wrap (sx0c_3 + t33)))) rfl (by kernel_rfl) (by kernel_rfl) (by kernel_rfl) (by kernel_rfl) rfl rfl hf (by decide) rfl (fun w hp => ?_) ⟨_, hp⟩ ?_
          · obtain ⟨_, hp⟩ := hp
            refine st_conv_ii hf (by decide) (by rw [Try.underlying3]; rfl) Try.underlying5 rfl rfl ?_
            clear hf; intro a ha hf
            exact st_nil hf (th_n ⟨ha, rfl⟩)
          clear hf; intro a hf
          refine dr_take 8 (eptr v44 t33 4) rfl (by kernel_rfl) (by kernel_rfl) (by kernel_rfl) (by kernel_rfl) rfl rfl hf (by decide) rfl (fun w hp => ?_) ⟨_, hp⟩ ?_
          · obtain ⟨_, hp⟩ := hp
            refine st_move hf rfl rfl (by decide) ?_
            clear hf; intro a ha hf
            exact st_nil hf (th_n ⟨ha, rfl⟩)
          clear hf; intro a hf
          refine dr_nilE 9 rfl (by kernel_rfl) (by kernel_rfl) (by kernel_rfl) hf (by decide) rfl rfl (Sl.ptr (rl102.sl hp) (show 0 ≤ t33 ∧ t33 < (((sx0c_4.set (t33).toNat ((gt sx0c_4 t33).1, true, (gt sx0c_4 t33).2.2.1, (gt sx0c_4 t33).2.2.2)).set (t33).toNat ((gt (sx0c_4.set (t33).toNat ((gt sx0c_4 t33).1, true, (gt sx0c_4 t33).2.2.1, (gt sx0c_4 t33).2.2.2)) t33).1, (gt (sx0c_4.set (t33).toNat ((gt sx0c_4 t33).1, true, (gt sx0c_4 t33).2.2.1, (gt sx0c_4 t33).2.2.2)) t33).2.1, now3c, (gt (sx0c_4.set (t33).toNat ((gt sx0c_4 t33).1, true, (gt sx0c_4 t33).2.2.1, (gt sx0c_4 t33).2.2.2)) t33).2.2.2)).length : Int) from hset (show 0 ≤ t33 ∧ t33 < ((sx0c_4.set (t33).toNat ((gt sx0c_4 t33).1, true, (gt sx0c_4 t33).2.2.1, (gt sx0c_4 t33).2.2.2)).length : Int) from hset hc56)).1 (show 0 ≤ t33 ∧ t33 < (((sx0c_4.set (t33).toNat ((gt sx0c_4 t33).1, true, (gt sx0c_4 t33).2.2.1, (gt sx0c_4 t33).2.2.2)).set (t33).toNat ((gt (sx0c_4.set (t33).toNat ((gt sx0c_4 t33).1, true, (gt sx0c_4 t33).2.2.1, (gt sx0c_4 t33).2.2.2)) t33).1, (gt (sx0c_4.set (t33).toNat ((gt sx0c_4 t33).1, true, (gt sx0c_4 t33).2.2.1, (gt sx0c_4 t33).2.2.2)) t33).2.1, now3c, (gt (sx0c_4.set (t33).toNat ((gt sx0c_4 t33).1, true, (gt sx0c_4 t33).2.2.1, (gt sx0c_4 t33).2.2.2)) t33).2.2.2)).length : Int) from hset (show 0 ≤ t33 ∧ t33 < ((sx0c_4.set (t33).toNat ((gt sx0c_4 t33).1, true, (gt sx0c_4 t33).2.2.1, (gt sx0c_4 t33).2.2.2)).length : Int) from hset hc56)).2) ?_
          clear hf; intro a hf
          refine dr_take 10 (optr (eptr v44 t33 4) 0) rfl (by kernel_rfl) (by kernel_rfl) (by kernel_rfl) (by kernel_rfl) rfl rfl hf (by decide) rfl (fun w hp => ?_) ⟨_, hp⟩ ?_
          · obtain ⟨_, hp⟩ := hp
            refine st_faP (off := 0) (sz := 1) hf (by decide) (by kernel_rfl) (by decide) rfl rfl (Sl.isP (rl102.sl hp) (show 0 ≤ t33 ∧ t33 < (((sx0c_4.set (t33).toNat ((gt sx0c_4 t33).1, true, (gt sx0c_4 t33).2.2.1, (gt sx0c_4 t33).2.2.2)).set (t33).toNat ((gt (sx0c_4.set (t33).toNat ((gt sx0c_4 t33).1, true, (gt sx0c_4 t33).2.2.1, (gt sx0c_4 t33).2.2.2)) t33).1, (gt (sx0c_4.set (t33).toNat ((gt sx0c_4 t33).1, true, (gt sx0c_4 t33).2.2.1, (gt sx0c_4 t33).2.2.2)) t33).2.1, now3c, (gt (sx0c_4.set (t33).toNat ((gt sx0c_4 t33).1, true, (gt sx0c_4 t33).2.2.1, (gt sx0c_4 t33).2.2.2)) t33).2.2.2)).length : Int) from hset (show 0 ≤ t33 ∧ t33 < ((sx0c_4.set (t33).toNat ((gt sx0c_4 t33).1, true, (gt sx0c_4 t33).2.2.1, (gt sx0c_4 t33).2.2.2)).length : Int) from hset hc56)).1 (show 0 ≤ t33 ∧ t33 < (((sx0c_4.set (t33).toNat ((gt sx0c_4 t33).1, true, (gt sx0c_4 t33).2.2.1, (gt sx0c_4 t33).2.2.2)).set (t33).toNat ((gt (sx0c_4.set (t33).toNat ((gt sx0c_4 t33).1, true, (gt sx0c_4 t33).2.2.1, (gt sx0c_4 t33).2.2.2)) t33).1, (gt (sx0c_4.set (t33).toNat ((gt sx0c_4 t33).1, true, (gt sx0c_4 t33).2.2.1, (gt sx0c_4 t33).2.2.2)) t33).2.1, now3c, (gt (sx0c_4.set (t33).toNat ((gt sx0c_4 t33).1, true, (gt sx0c_4 t33).2.2.1, (gt sx0c_4 t33).2.2.2)) t33).2.2.2)).length : Int) from hset (show 0 ≤ t33 ∧ t33 < ((sx0c_4.set (t33).toNat ((gt sx0c_4 t33).1, true, (gt sx0c_4 t33).2.2.1, (gt sx0c_4 t33).2.2.2)).length : Int) from hset hc56)).2) ?_
            clear hf; intro a ha hf
            exact st_nil hf (th_n ⟨ha, rfl⟩)
          clear hf; intro a hf
          refine dr_take 11 (.string ((gt ((sx0c_4.set (t33).toNat ((gt sx0c_4 t33).1, true, (gt sx0c_4 t33).2.2.1, (gt sx0c_4 t33).2.2.2)).set (t33).toNat ((gt (sx0c_4.set (t33).toNat ((gt sx0c_4 t33).1, true, (gt sx0c_4 t33).2.2.1, (gt sx0c_4 t33).2.2.2)) t33).1, (gt (sx0c_4.set (t33).toNat ((gt sx0c_4 t33).1, true, (gt sx0c_4 t33).2.2.1, (gt sx0c_4 t33).2.2.2)) t33).2.1, now3c, (gt (sx0c_4.set (t33).toNat ((gt sx0c_4 t33).1, true, (gt sx0c_4 t33).2.2.1, (gt sx0c_4 t33).2.2.2)) t33).2.2.2)) t33).1)) rfl (by kernel_rfl) (by kernel_rfl) (by kernel_rfl) (by kernel_rfl) rfl rfl hf (by decide) rfl (fun w hp => ?_) ⟨_, hp⟩ ?_
          · obtain ⟨_, hp⟩ := hp
            refine st_ldQ (F := Ek.str) (yv := (gt ((sx0c_4.set (t33).toNat ((gt sx0c_4 t33).1, true, (gt sx0c_4 t33).2.2.1, (gt sx0c_4 t33).2.2.2)).set (t33).toNat ((gt (sx0c_4.set (t33).toNat ((gt sx0c_4 t33).1, true, (gt sx0c_4 t33).2.2.1, (gt sx0c_4 t33).2.2.2)) t33).1, (gt (sx0c_4.set (t33).toNat ((gt sx0c_4 t33).1, true, (gt sx0c_4 t33).2.2.1, (gt sx0c_4 t33).2.2.2)) t33).2.1, now3c, (gt (sx0c_4.set (t33).toNat ((gt sx0c_4 t33).1, true, (gt sx0c_4 t33).2.2.1, (gt sx0c_4 t33).2.2.2)) t33).2.2.2)) t33).1) hf (by decide) pl9 (fun x => .string x) (fun _ _ h => h) rfl rfl (Sl.part (E := (Ek.pair Ek.str (Ek.pair Ek.bool (Ek.pair (Ek.int .i64) Ek.bool)))) (F := Ek.str) (o := 0) (Sub.fst (E := Ek.str) (F := (Ek.pair Ek.bool (Ek.pair (Ek.int .i64) Ek.bool)))) (rl102.sl hp) (show 0 ≤ t33 ∧ t33 < (((sx0c_4.set (t33).toNat ((gt sx0c_4 t33).1, true, (gt sx0c_4 t33).2.2.1, (gt sx0c_4 t33).2.2.2)).set (t33).toNat ((gt (sx0c_4.set (t33).toNat ((gt sx0c_4 t33).1, true, (gt sx0c_4 t33).2.2.1, (gt sx0c_4 t33).2.2.2)) t33).1, (gt (sx0c_4.set (t33).toNat ((gt sx0c_4 t33).1, true, (gt sx0c_4 t33).2.2.1, (gt sx0c_4 t33).2.2.2)) t33).2.1, now3c, (gt (sx0c_4.set (t33).toNat ((gt sx0c_4 t33).1, true, (gt sx0c_4 t33).2.2.1, (gt sx0c_4 t33).2.2.2)) t33).2.2.2)).length : Int) from hset (show 0 ≤ t33 ∧ t33 < ((sx0c_4.set (t33).toNat ((gt sx0c_4 t33).1, true, (gt sx0c_4 t33).2.2.1, (gt sx0c_4 t33).2.2.2)).length : Int) from hset hc56)).1 (show 0 ≤ t33 ∧ t33 < (((sx0c_4.set (t33).toNat ((gt sx0c_4 t33).1, true, (gt sx0c_4 t33).2.2.1, (gt sx0c_4 t33).2.2.2)).set (t33).toNat ((gt (sx0c_4.set (t33).toNat ((gt sx0c_4 t33).1, true, (gt sx0c_4 t33).2.2.1, (gt sx0c_4 t33).2.2.2)) t33).1, (gt (sx0c_4.set (t33).toNat ((gt sx0c_4 t33).1, true, (gt sx0c_4 t33).2.2.1, (gt sx0c_4 t33).2.2.2)) t33).2.1, now3c, (gt (sx0c_4.set (t33).toNat ((gt sx0c_4 t33).1, true, (gt sx0c_4 t33).2.2.1, (gt sx0c_4 t33).2.2.2)) t33).2.2.2)).length : Int) from hset (show 0 ≤ t33 ∧ t33 < ((sx0c_4.set (t33).toNat ((gt sx0c_4 t33).1, true, (gt sx0c_4 t33).2.2.1, (gt sx0c_4 t33).2.2.2)).length : Int) from hset hc56)).2) ?_
            clear hf; intro a ha hf
            exact st_nil hf (th_n ⟨ha, rfl⟩)
          clear hf; intro a hf
          refine dr_take 12 (.agg #[.int .u8 (1 : Int), .int .u8 (IntKind.u8.wrap (IntKind.i64.wrap (sx0c_3 + t33))), .bool false, .string ((gt ((sx0c_4.set (t33).toNat ((gt sx0c_4 t33).1, true, (gt sx0c_4 t33).2.2.1, (gt sx0c_4 t33).2.2.2)).set (t33).toNat ((gt (sx0c_4.set (t33).toNat ((gt sx0c_4 t33).1, true, (gt sx0c_4 t33).2.2.1, (gt sx0c_4 t33).2.2.2)) t33).1, (gt (sx0c_4.set (t33).toNat ((gt sx0c_4 t33).1, true, (gt sx0c_4 t33).2.2.1, (gt sx0c_4 t33).2.2.2)) t33).2.1, now3c, (gt (sx0c_4.set (t33).toNat ((gt sx0c_4 t33).1, true, (gt sx0c_4 t33).2.2.1, (gt sx0c_4 t33).2.2.2)) t33).2.2.2)) t33).1)]) rfl (by kernel_rfl) (by kernel_rfl) (by kernel_rfl) (by kernel_rfl) rfl rfl hf (by decide) rfl (fun w hp => ?_) ⟨_, hp⟩ ?_
          · obtain ⟨_, hp⟩ := hp
            refine st_buildA (vals := [(0, .int .u8 (1 : Int)), (1, .int .u8 (IntKind.u8.wrap (IntKind.i64.wrap (sx0c_3 + t33)))), (3, .string ((gt ((sx0c_4.set (t33).toNat ((gt sx0c_4 t33).1, true, (gt sx0c_4 t33).2.2.1, (gt sx0c_4 t33).2.2.2)).set (t33).toNat ((gt (sx0c_4.set (t33).toNat ((gt sx0c_4 t33).1, true, (gt sx0c_4 t33).2.2.1, (gt sx0c_4 t33).2.2.2)) t33).1, (gt (sx0c_4.set (t33).toNat ((gt sx0c_4 t33).1, true, (gt sx0c_4 t33).2.2.1, (gt sx0c_4 t33).2.2.2)) t33).2.1, now3c, (gt (sx0c_4.set (t33).toNat ((gt sx0c_4 t33).1, true, (gt sx0c_4 t33).2.2.1, (gt sx0c_4 t33).2.2.2)) t33).2.2.2)) t33).1))]) (cells := [.int .u8 (1 : Int), .int .u8 (IntKind.u8.wrap (IntKind.i64.wrap (sx0c_3 + t33))), .bool false, .string ((gt ((sx0c_4.set (t33).toNat ((gt sx0c_4 t33).1, true, (gt sx0c_4 t33).2.2.1, (gt sx0c_4 t33).2.2.2)).set (t33).toNat ((gt (sx0c_4.set (t33).toNat ((gt sx0c_4 t33).1, true, (gt sx0c_4 t33).2.2.1, (gt sx0c_4 t33).2.2.2)) t33).1, (gt (sx0c_4.set (t33).toNat ((gt sx0c_4 t33).1, true, (gt sx0c_4 t33).2.2.1, (gt sx0c_4 t33).2.2.2)) t33).2.1, now3c, (gt (sx0c_4.set (t33).toNat ((gt sx0c_4 t33).1, true, (gt sx0c_4 t33).2.2.1, (gt sx0c_4 t33).2.2.2)) t33).2.2.2)) t33).1)]) hf (by decide) rfl (by simp [hf.ev (x := (Operand.const (.int .u8 (1 : Int)))) rfl, hf.ev (x := (Operand.tmp 59)) rfl, hf.ev (x := (Operand.tmp 63)) rfl]) (fun w => by kernel_rfl) ?_
            clear hf; intro a ha hf
            exact st_nil hf (th_n ⟨ha, rfl⟩)
          clear hf; intro a hf
          refine dr_one 13 rfl (by kernel_rfl) ?_
          refine st_build (E := (Ek.pair (Ek.int .u8) (Ek.pair (Ek.int .u8) (Ek.pair Ek.bool Ek.str)))) (xs := [((1 : Int), (IntKind.u8.wrap (IntKind.i64.wrap (sx0c_3 + t33))), false, (gt ((sx0c_4.set (t33).toNat ((gt sx0c_4 t33).1, true, (gt sx0c_4 t33).2.2.1, (gt sx0c_4 t33).2.2.2)).set (t33).toNat ((gt (sx0c_4.set (t33).toNat ((gt sx0c_4 t33).1, true, (gt sx0c_4 t33).2.2.1, (gt sx0c_4 t33).2.2.2)) t33).1, (gt (sx0c_4.set (t33).toNat ((gt sx0c_4 t33).1, true, (gt sx0c_4 t33).2.2.1, (gt sx0c_4 t33).2.2.2)) t33).2.1, now3c, (gt (sx0c_4.set (t33).toNat ((gt sx0c_4 t33).1, true, (gt sx0c_4 t33).2.2.1, (gt sx0c_4 t33).2.2.2)) t33).2.2.2)) t33).1)]) hf (by decide) elt31 Try.underlying54 hp (vals := #[(0, .agg #[.int .u8 (1 : Int), .int .u8 (IntKind.u8.wrap (IntKind.i64.wrap (sx0c_3 + t33))), .bool false, .string ((gt ((sx0c_4.set (t33).toNat ((gt sx0c_4 t33).1, true, (gt sx0c_4 t33).2.2.1, (gt sx0c_4 t33).2.2.2)).set (t33).toNat ((gt (sx0c_4.set (t33).toNat ((gt sx0c_4 t33).1, true, (gt sx0c_4 t33).2.2.1, (gt sx0c_4 t33).2.2.2)) t33).1, (gt (sx0c_4.set (t33).toNat ((gt sx0c_4 t33).1, true, (gt sx0c_4 t33).2.2.1, (gt sx0c_4 t33).2.2.2)) t33).2.1, now3c, (gt (sx0c_4.set (t33).toNat ((gt sx0c_4 t33).1, true, (gt sx0c_4 t33).2.2.1, (gt sx0c_4 t33).2.2.2)) t33).2.2.2)) t33).1)])]) (cells := #[.int .u8 (1 : Int), .int .u8 (IntKind.u8.wrap (IntKind.i64.wrap (sx0c_3 + t33))), .bool false, .string ((gt ((sx0c_4.set (t33).toNat ((gt sx0c_4 t33).1, true, (gt sx0c_4 t33).2.2.1, (gt sx0c_4 t33).2.2.2)).set (t33).toNat ((gt (sx0c_4.set (t33).toNat ((gt sx0c_4 t33).1, true, (gt sx0c_4 t33).2.2.1, (gt sx0c_4 t33).2.2.2)) t33).1, (gt (sx0c_4.set (t33).toNat ((gt sx0c_4 t33).1, true, (gt sx0c_4 t33).2.2.1, (gt sx0c_4 t33).2.2.2)) t33).2.1, now3c, (gt (sx0c_4.set (t33).toNat ((gt sx0c_4 t33).1, true, (gt sx0c_4 t33).2.2.1, (gt sx0c_4 t33).2.2.2)) t33).2.2.2)) t33).1)]) rfl (by simp [hf.ev (x := (Operand.tmp 64)) rfl]) (by decide) (by decide) (z := .agg #[.int .u8 0, .int .u8 0, .bool false, .string ByteArray.empty]) (by kernel_rfl) (by kernel_rfl) rfl (reps_cons (cs := [.int .u8 (1 : Int), .int .u8 (IntKind.u8.wrap (IntKind.i64.wrap (sx0c_3 + t33))), .bool false, .string ((gt ((sx0c_4.set (t33).toNat ((gt sx0c_4 t33).1, true, (gt sx0c_4 t33).2.2.1, (gt sx0c_4 t33).2.2.2)).set (t33).toNat ((gt (sx0c_4.set (t33).toNat ((gt sx0c_4 t33).1, true, (gt sx0c_4 t33).2.2.1, (gt sx0c_4 t33).2.2.2)) t33).1, (gt (sx0c_4.set (t33).toNat ((gt sx0c_4 t33).1, true, (gt sx0c_4 t33).2.2.1, (gt sx0c_4 t33).2.2.2)) t33).2.1, now3c, (gt (sx0c_4.set (t33).toNat ((gt sx0c_4 t33).1, true, (gt sx0c_4 t33).2.2.1, (gt sx0c_4 t33).2.2.2)) t33).2.2.2)) t33).1)]) ⟨[.int .u8 (1 : Int)], [.int .u8 (IntKind.u8.wrap (IntKind.i64.wrap (sx0c_3 + t33))), .bool false, .string ((gt ((sx0c_4.set (t33).toNat ((gt sx0c_4 t33).1, true, (gt sx0c_4 t33).2.2.1, (gt sx0c_4 t33).2.2.2)).set (t33).toNat ((gt (sx0c_4.set (t33).toNat ((gt sx0c_4 t33).1, true, (gt sx0c_4 t33).2.2.1, (gt sx0c_4 t33).2.2.2)) t33).1, (gt (sx0c_4.set (t33).toNat ((gt sx0c_4 t33).1, true, (gt sx0c_4 t33).2.2.1, (gt sx0c_4 t33).2.2.2)) t33).2.1, now3c, (gt (sx0c_4.set (t33).toNat ((gt sx0c_4 t33).1, true, (gt sx0c_4 t33).2.2.1, (gt sx0c_4 t33).2.2.2)) t33).2.2.2)) t33).1)], rfl, rfl, ⟨[.int .u8 (IntKind.u8.wrap (IntKind.i64.wrap (sx0c_3 + t33)))], [.bool false, .string ((gt ((sx0c_4.set (t33).toNat ((gt sx0c_4 t33).1, true, (gt sx0c_4 t33).2.2.1, (gt sx0c_4 t33).2.2.2)).set (t33).toNat ((gt (sx0c_4.set (t33).toNat ((gt sx0c_4 t33).1, true, (gt sx0c_4 t33).2.2.1, (gt sx0c_4 t33).2.2.2)) t33).1, (gt (sx0c_4.set (t33).toNat ((gt sx0c_4 t33).1, true, (gt sx0c_4 t33).2.2.1, (gt sx0c_4 t33).2.2.2)) t33).2.1, now3c, (gt (sx0c_4.set (t33).toNat ((gt sx0c_4 t33).1, true, (gt sx0c_4 t33).2.2.1, (gt sx0c_4 t33).2.2.2)) t33).2.2.2)) t33).1)], rfl, rfl, ⟨[.bool false], [.string ((gt ((sx0c_4.set (t33).toNat ((gt sx0c_4 t33).1, true, (gt sx0c_4 t33).2.2.1, (gt sx0c_4 t33).2.2.2)).set (t33).toNat ((gt (sx0c_4.set (t33).toNat ((gt sx0c_4 t33).1, true, (gt sx0c_4 t33).2.2.1, (gt sx0c_4 t33).2.2.2)) t33).1, (gt (sx0c_4.set (t33).toNat ((gt sx0c_4 t33).1, true, (gt sx0c_4 t33).2.2.1, (gt sx0c_4 t33).2.2.2)) t33).2.1, now3c, (gt (sx0c_4.set (t33).toNat ((gt sx0c_4 t33).1, true, (gt sx0c_4 t33).2.2.1, (gt sx0c_4 t33).2.2.2)) t33).2.2.2)) t33).1)], rfl, rfl, rfl⟩⟩⟩ (reps_nil _)) ?_
          clear hf; intro a w v104 hf hp0; clear hp; have hp := hp0; clear hp0
          replace hp : Hp _ _ _ (Res.sl (Ek.pair (Ek.int .u8) (Ek.pair (Ek.int .u8) (Ek.pair Ek.bool Ek.str))) 31 v104 ([((1 : Int), (IntKind.u8.wrap (IntKind.i64.wrap (sx0c_3 + t33))), false, (gt ((sx0c_4.set (t33).toNat ((gt sx0c_4 t33).1, true, (gt sx0c_4 t33).2.2.1, (gt sx0c_4 t33).2.2.2)).set (t33).toNat ((gt (sx0c_4.set (t33).toNat ((gt sx0c_4 t33).1, true, (gt sx0c_4 t33).2.2.1, (gt sx0c_4 t33).2.2.2)) t33).1, (gt (sx0c_4.set (t33).toNat ((gt sx0c_4 t33).1, true, (gt sx0c_4 t33).2.2.1, (gt sx0c_4 t33).2.2.2)) t33).2.1, now3c, (gt (sx0c_4.set (t33).toNat ((gt sx0c_4 t33).1, true, (gt sx0c_4 t33).2.2.1, (gt sx0c_4 t33).2.2.2)) t33).2.2.2)) t33).1)]) :: Res.obj 2 v5 [.int .i64 now3c] :: Res.sl (Ek.pair (Ek.int .u8) (Ek.pair (Ek.int .u8) (Ek.pair Ek.bool Ek.str))) 31 v49 out7 :: ow) := hp
          refine st_nil hf (th_n ⟨fun _ _ => ⟨_, hp⟩, ?_⟩)
          refine dr_one 14 rfl (by kernel_rfl) ?_
          refine st_append (E := (Ek.pair (Ek.int .u8) (Ek.pair (Ek.int .u8) (Ek.pair Ek.bool Ek.str)))) hf (by decide) elt31 Try.underlying54 (by decide) hp (i := 2) rfl rfl rfl rfl (hp.sl (i := 0) rfl) hc106 ?_
          clear hf; intro a w v107 hf hp0; clear hp; have hp := hp0; clear hp0
          replace hp : Hp _ _ _ (Res.sl (Ek.pair (Ek.int .u8) (Ek.pair (Ek.int .u8) (Ek.pair Ek.bool Ek.str))) 31 v104 ([((1 : Int), (IntKind.u8.wrap (IntKind.i64.wrap (sx0c_3 + t33))), false, (gt ((sx0c_4.set (t33).toNat ((gt sx0c_4 t33).1, true, (gt sx0c_4 t33).2.2.1, (gt sx0c_4 t33).2.2.2)).set (t33).toNat ((gt (sx0c_4.set (t33).toNat ((gt sx0c_4 t33).1, true, (gt sx0c_4 t33).2.2.1, (gt sx0c_4 t33).2.2.2)) t33).1, (gt (sx0c_4.set (t33).toNat ((gt sx0c_4 t33).1, true, (gt sx0c_4 t33).2.2.1, (gt sx0c_4 t33).2.2.2)) t33).2.1, now3c, (gt (sx0c_4.set (t33).toNat ((gt sx0c_4 t33).1, true, (gt sx0c_4 t33).2.2.1, (gt sx0c_4 t33).2.2.2)) t33).2.2.2)) t33).1)]) :: Res.obj 2 v5 [.int .i64 now3c] :: Res.sl (Ek.pair (Ek.int .u8) (Ek.pair (Ek.int .u8) (Ek.pair Ek.bool Ek.str))) 31 v107 (out7 ++ [((1 : Int), (IntKind.u8.wrap (IntKind.i64.wrap (sx0c_3 + t33))), false, (gt ((sx0c_4.set (t33).toNat ((gt sx0c_4 t33).1, true, (gt sx0c_4 t33).2.2.1, (gt sx0c_4 t33).2.2.2)).set (t33).toNat ((gt (sx0c_4.set (t33).toNat ((gt sx0c_4 t33).1, true, (gt sx0c_4 t33).2.2.1, (gt sx0c_4 t33).2.2.2)) t33).1, (gt (sx0c_4.set (t33).toNat ((gt sx0c_4 t33).1, true, (gt sx0c_4 t33).2.2.1, (gt sx0c_4 t33).2.2.2)) t33).2.1, now3c, (gt (sx0c_4.set (t33).toNat ((gt sx0c_4 t33).1, true, (gt sx0c_4 t33).2.2.1, (gt sx0c_4 t33).2.2.2)) t33).2.2.2)) t33).1)]) :: ow) := hp
          refine st_nil hf (th_n ⟨fun _ _ => ⟨_, hp⟩, ?_⟩)
          refine dr_take 15 (v107) rfl (by kernel_rfl) (by kernel_rfl) (by kernel_rfl) (by kernel_rfl) rfl rfl hf (by decide) rfl (fun w hp => ?_) ⟨_, hp⟩ ?_
          · obtain ⟨_, hp⟩ := hp
            refine st_assign hf rfl rfl (by decide) ?_
            clear hf; intro a ha hf
            exact st_nil hf (th_n ⟨ha, rfl⟩)
          clear hf; intro a hf
          refine dr_end (by kernel_rfl) ?_ _
          have hp := bk100 _ _ hp
          have hp := bk95 _ _ hp
          have hp := bk90 _ _ hp
          exact ⟨v104, v107, hf.sub ⟨rfl, rfl, rfl, rfl, rfl, rfl, rfl, trivial⟩, hp⟩
        rintro a w ⟨v104, v107, hf, hp⟩
        refine ib_n ?_
        refine th_n ?_
        refine wp_reg ?_
        refine st_iadd hf (by decide) rfl rfl rfl ?_
        clear hf; intro a ha hf; clear ha
        refine st_move hf rfl rfl (by decide) ?_
        clear hf; intro a ha hf; clear ha
        refine st_nil hf ?_
        obtain rfl := Option.some.inj h
        have hp : Hp _ _ _ (Res.sl (Ek.pair Ek.str (Ek.pair Ek.bool (Ek.pair (Ek.int .i64) Ek.bool))) 81 v44 ((sx0c_4.set (t33).toNat ((gt sx0c_4 t33).1, true, (gt sx0c_4 t33).2.2.1, (gt sx0c_4 t33).2.2.2)).set (t33).toNat ((gt (sx0c_4.set (t33).toNat ((gt sx0c_4 t33).1, true, (gt sx0c_4 t33).2.2.1, (gt sx0c_4 t33).2.2.2)) t33).1, (gt (sx0c_4.set (t33).toNat ((gt sx0c_4 t33).1, true, (gt sx0c_4 t33).2.2.1, (gt sx0c_4 t33).2.2.2)) t33).2.1, now3c, (gt (sx0c_4.set (t33).toNat ((gt sx0c_4 t33).1, true, (gt sx0c_4 t33).2.2.1, (gt sx0c_4 t33).2.2.2)) t33).2.2.2)) :: Res.obj 79 osx0 [.int .i64 sx0c_0, .int .i64 sx0c_1, .int .i64 sx0c_2, .int .i64 sx0c_3, v44] :: Res.obj 44 v3 [osx0] :: Res.obj 2 v5 [.int .i64 now3c] :: Res.sl (Ek.pair (Ek.int .u8) (Ek.pair (Ek.int .u8) (Ek.pair Ek.bool Ek.str))) 31 v107 (out7 ++ [((1 : Int), (IntKind.u8.wrap (IntKind.i64.wrap (sx0c_3 + t33))), false, (gt ((sx0c_4.set (t33).toNat ((gt sx0c_4 t33).1, true, (gt sx0c_4 t33).2.2.1, (gt sx0c_4 t33).2.2.2)).set (t33).toNat ((gt (sx0c_4.set (t33).toNat ((gt sx0c_4 t33).1, true, (gt sx0c_4 t33).2.2.1, (gt sx0c_4 t33).2.2.2)) t33).1, (gt (sx0c_4.set (t33).toNat ((gt sx0c_4 t33).1, true, (gt sx0c_4 t33).2.2.1, (gt sx0c_4 t33).2.2.2)) t33).2.1, now3c, (gt (sx0c_4.set (t33).toNat ((gt sx0c_4 t33).1, true, (gt sx0c_4 t33).2.2.1, (gt sx0c_4 t33).2.2.2)) t33).2.2.2)) t33).1)]) :: ow) := Hp.sel (pre := [Res.obj 44 v3 [osx0], Res.obj 79 osx0 [.int .i64 sx0c_0, .int .i64 sx0c_1, .int .i64 sx0c_2, .int .i64 sx0c_3, v44], Res.sl (Ek.pair Ek.str (Ek.pair Ek.bool (Ek.pair (Ek.int .i64) Ek.bool))) 81 v44 ((sx0c_4.set (t33).toNat ((gt sx0c_4 t33).1, true, (gt sx0c_4 t33).2.2.1, (gt sx0c_4 t33).2.2.2)).set (t33).toNat ((gt (sx0c_4.set (t33).toNat ((gt sx0c_4 t33).1, true, (gt sx0c_4 t33).2.2.1, (gt sx0c_4 t33).2.2.2)) t33).1, (gt (sx0c_4.set (t33).toNat ((gt sx0c_4 t33).1, true, (gt sx0c_4 t33).2.2.1, (gt sx0c_4 t33).2.2.2)) t33).2.1, now3c, (gt (sx0c_4.set (t33).toNat ((gt sx0c_4 t33).1, true, (gt sx0c_4 t33).2.2.1, (gt sx0c_4 t33).2.2.2)) t33).2.2.2)), Res.sl (Ek.pair (Ek.int .u8) (Ek.pair (Ek.int .u8) (Ek.pair Ek.bool Ek.str))) 31 v104 ([((1 : Int), (IntKind.u8.wrap (IntKind.i64.wrap (sx0c_3 + t33))), false, (gt ((sx0c_4.set (t33).toNat ((gt sx0c_4 t33).1, true, (gt sx0c_4 t33).2.2.1, (gt sx0c_4 t33).2.2.2)).set (t33).toNat ((gt (sx0c_4.set (t33).toNat ((gt sx0c_4 t33).1, true, (gt sx0c_4 t33).2.2.1, (gt sx0c_4 t33).2.2.2)) t33).1, (gt (sx0c_4.set (t33).toNat ((gt sx0c_4 t33).1, true, (gt sx0c_4 t33).2.2.1, (gt sx0c_4 t33).2.2.2)) t33).2.1, now3c, (gt (sx0c_4.set (t33).toNat ((gt sx0c_4 t33).1, true, (gt sx0c_4 t33).2.2.1, (gt sx0c_4 t33).2.2.2)) t33).2.2.2)) t33).1)]), Res.obj 2 v5 [.int .i64 now3c], Res.sl (Ek.pair (Ek.int .u8) (Ek.pair (Ek.int .u8) (Ek.pair Ek.bool Ek.str))) 31 v107 (out7 ++ [((1 : Int), (IntKind.u8.wrap (IntKind.i64.wrap (sx0c_3 + t33))), false, (gt ((sx0c_4.set (t33).toNat ((gt sx0c_4 t33).1, true, (gt sx0c_4 t33).2.2.1, (gt sx0c_4 t33).2.2.2)).set (t33).toNat ((gt (sx0c_4.set (t33).toNat ((gt sx0c_4 t33).1, true, (gt sx0c_4 t33).2.2.1, (gt sx0c_4 t33).2.2.2)) t33).1, (gt (sx0c_4.set (t33).toNat ((gt sx0c_4 t33).1, true, (gt sx0c_4 t33).2.2.1, (gt sx0c_4 t33).2.2.2)) t33).2.1, now3c, (gt (sx0c_4.set (t33).toNat ((gt sx0c_4 t33).1, true, (gt sx0c_4 t33).2.2.1, (gt sx0c_4 t33).2.2.2)) t33).2.2.2)) t33).1)])]) (tail := ow) (rs' := [Res.sl (Ek.pair Ek.str (Ek.pair Ek.bool (Ek.pair (Ek.int .i64) Ek.bool))) 81 v44 ((sx0c_4.set (t33).toNat ((gt sx0c_4 t33).1, true, (gt sx0c_4 t33).2.2.1, (gt sx0c_4 t33).2.2.2)).set (t33).toNat ((gt (sx0c_4.set (t33).toNat ((gt sx0c_4 t33).1, true, (gt sx0c_4 t33).2.2.1, (gt sx0c_4 t33).2.2.2)) t33).1, (gt (sx0c_4.set (t33).toNat ((gt sx0c_4 t33).1, true, (gt sx0c_4 t33).2.2.1, (gt sx0c_4 t33).2.2.2)) t33).2.1, now3c, (gt (sx0c_4.set (t33).toNat ((gt sx0c_4 t33).1, true, (gt sx0c_4 t33).2.2.1, (gt sx0c_4 t33).2.2.2)) t33).2.2.2)), Res.obj 79 osx0 [.int .i64 sx0c_0, .int .i64 sx0c_1, .int .i64 sx0c_2, .int .i64 sx0c_3, v44], Res.obj 44 v3 [osx0], Res.obj 2 v5 [.int .i64 now3c], Res.sl (Ek.pair (Ek.int .u8) (Ek.pair (Ek.int .u8) (Ek.pair Ek.bool Ek.str))) 31 v107 (out7 ++ [((1 : Int), (IntKind.u8.wrap (IntKind.i64.wrap (sx0c_3 + t33))), false, (gt ((sx0c_4.set (t33).toNat ((gt sx0c_4 t33).1, true, (gt sx0c_4 t33).2.2.1, (gt sx0c_4 t33).2.2.2)).set (t33).toNat ((gt (sx0c_4.set (t33).toNat ((gt sx0c_4 t33).1, true, (gt sx0c_4 t33).2.2.1, (gt sx0c_4 t33).2.2.2)) t33).1, (gt (sx0c_4.set (t33).toNat ((gt sx0c_4 t33).1, true, (gt sx0c_4 t33).2.2.1, (gt sx0c_4 t33).2.2.2)) t33).2.1, now3c, (gt (sx0c_4.set (t33).toNat ((gt sx0c_4 t33).1, true, (gt sx0c_4 t33).2.2.1, (gt sx0c_4 t33).2.2.2)) t33).2.2.2)) t33).1)])]) hp [2, 1, 0, 4, 5] (by decide) (by simp) rfl
        exact rnd_l ⟨_, _, hf.sub ⟨rfl, rfl, rfl, rfl, rfl, rfl, rfl, trivial⟩, hp⟩
      replace h := ifF h hb
      refine wp_skip ?_
      refine ib_n ?_
      refine th_n ?_
      refine wp_reg ?_
      refine st_iadd hf (by decide) rfl rfl rfl ?_
      clear hf; intro a ha hf; clear ha
      refine st_move hf rfl rfl (by decide) ?_
      clear hf; intro a ha hf; clear ha
      refine st_nil hf ?_
      obtain rfl := Option.some.inj h
      have hp : Hp _ _ _ (Res.sl (Ek.pair Ek.str (Ek.pair Ek.bool (Ek.pair (Ek.int .i64) Ek.bool))) 81 v44 sx0c_4 :: Res.obj 79 osx0 [.int .i64 sx0c_0, .int .i64 sx0c_1, .int .i64 sx0c_2, .int .i64 sx0c_3, v44] :: Res.obj 44 v3 [osx0] :: Res.obj 2 v5 [.int .i64 now3c] :: Res.sl (Ek.pair (Ek.int .u8) (Ek.pair (Ek.int .u8) (Ek.pair Ek.bool Ek.str))) 31 v49 out7 :: ow) := Hp.sel (pre := [Res.sl (Ek.pair Ek.str (Ek.pair Ek.bool (Ek.pair (Ek.int .i64) Ek.bool))) 81 v44 sx0c_4, Res.obj 2 v5 [.int .i64 now3c], Res.obj 79 osx0 [.int .i64 sx0c_0, .int .i64 sx0c_1, .int .i64 sx0c_2, .int .i64 sx0c_3, v44], Res.obj 44 v3 [osx0], Res.sl (Ek.pair (Ek.int .u8) (Ek.pair (Ek.int .u8) (Ek.pair Ek.bool Ek.str))) 31 v49 out7]) (tail := ow) (rs' := [Res.sl (Ek.pair Ek.str (Ek.pair Ek.bool (Ek.pair (Ek.int .i64) Ek.bool))) 81 v44 sx0c_4, Res.obj 79 osx0 [.int .i64 sx0c_0, .int .i64 sx0c_1, .int .i64 sx0c_2, .int .i64 sx0c_3, v44], Res.obj 44 v3 [osx0], Res.obj 2 v5 [.int .i64 now3c], Res.sl (Ek.pair (Ek.int .u8) (Ek.pair (Ek.int .u8) (Ek.pair Ek.bool Ek.str))) 31 v49 out7]) hp [0, 2, 3, 1, 4] (by decide) (by simp) rfl
      exact rnd_l ⟨_, _, hf.sub ⟨rfl, rfl, rfl, rfl, rfl, rfl, rfl, trivial⟩, hp⟩
    replace h := ifF h hb
    refine wp_exit ?_
    refine th_e ?_
    obtain rfl := Option.some.inj h
    have hp : Hp _ _ _ (Res.sl (Ek.pair Ek.str (Ek.pair Ek.bool (Ek.pair (Ek.int .i64) Ek.bool))) 81 v44 sx0c_4 :: Res.obj 79 osx0 [.int .i64 sx0c_0, .int .i64 sx0c_1, .int .i64 sx0c_2, .int .i64 sx0c_3, v44] :: Res.sl (Ek.pair (Ek.int .u8) (Ek.pair (Ek.int .u8) (Ek.pair Ek.bool Ek.str))) 31 v49 out7 :: ow) := Hp.sel (pre := [Res.sl (Ek.pair Ek.str (Ek.pair Ek.bool (Ek.pair (Ek.int .i64) Ek.bool))) 81 v44 sx0c_4, Res.obj 79 osx0 [.int .i64 sx0c_0, .int .i64 sx0c_1, .int .i64 sx0c_2, .int .i64 sx0c_3, v44], Res.obj 44 v3 [osx0], Res.obj 2 v5 [.int .i64 now3c], Res.sl (Ek.pair (Ek.int .u8) (Ek.pair (Ek.int .u8) (Ek.pair Ek.bool Ek.str))) 31 v49 out7]) (tail := ow) (rs' := [Res.sl (Ek.pair Ek.str (Ek.pair Ek.bool (Ek.pair (Ek.int .i64) Ek.bool))) 81 v44 sx0c_4, Res.obj 79 osx0 [.int .i64 sx0c_0, .int .i64 sx0c_1, .int .i64 sx0c_2, .int .i64 sx0c_3, v44], Res.sl (Ek.pair (Ek.int .u8) (Ek.pair (Ek.int .u8) (Ek.pair Ek.bool Ek.str))) 31 v49 out7]) hp [0, 1, 4] (by decide) (by simp) rfl
    exact rnd_r (by simp) ⟨rfl, _, _, hf.sub ⟨rfl, rfl, trivial⟩, hp⟩
  clear hl hf hp
  intro e a w hne hO
  obtain ⟨rfl, v51, v54, hf, hp⟩ := hO
  refine ib_same ?_
  refine th_n ?_
  refine wp_seq ?_
  refine wp_reg ?_
  refine st_move hf rfl rfl (by decide) ?_
  clear hf; intro a ha hf; clear ha
  refine st_assign hf rfl rfl (by decide) ?_
  clear hf; intro a ha hf; clear ha
  refine st_assign hf rfl rfl (by decide) ?_
  clear hf; intro a ha hf; clear ha
  refine st_nil hf ?_
  refine th_n ?_
  refine wp_ret ?_
  obtain rfl := Option.some.inj h
  have hp : Hp _ _ _ (Res.sl (Ek.pair (Ek.int .u8) (Ek.pair (Ek.int .u8) (Ek.pair Ek.bool Ek.str))) 31 v54 q108.2.2.2.2.2 :: Res.sl (Ek.pair Ek.str (Ek.pair Ek.bool (Ek.pair (Ek.int .i64) Ek.bool))) 81 v51 q108.2.2.2.2.1 :: Res.obj 79 osx0 [.int .i64 q108.1, .int .i64 q108.2.1, .int .i64 q108.2.2.1, .int .i64 q108.2.2.2.1, v51] :: ow) := Hp.sel (pre := [Res.sl (Ek.pair Ek.str (Ek.pair Ek.bool (Ek.pair (Ek.int .i64) Ek.bool))) 81 v51 q108.2.2.2.2.1, Res.obj 79 osx0 [.int .i64 q108.1, .int .i64 q108.2.1, .int .i64 q108.2.2.1, .int .i64 q108.2.2.2.1, v51], Res.sl (Ek.pair (Ek.int .u8) (Ek.pair (Ek.int .u8) (Ek.pair Ek.bool Ek.str))) 31 v54 q108.2.2.2.2.2]) (tail := ow) (rs' := [Res.sl (Ek.pair (Ek.int .u8) (Ek.pair (Ek.int .u8) (Ek.pair Ek.bool Ek.str))) 31 v54 q108.2.2.2.2.2, Res.sl (Ek.pair Ek.str (Ek.pair Ek.bool (Ek.pair (Ek.int .i64) Ek.bool))) 81 v51 q108.2.2.2.2.1, Res.obj 79 osx0 [.int .i64 q108.1, .int .i64 q108.2.1, .int .i64 q108.2.2.1, .int .i64 q108.2.2.2.1, v51]]) hp [2, 0, 1] (by decide) (by simp) rfl
  exact ⟨rfl, ⟨_, _, hf.sub ⟨rfl, rfl, trivial⟩, hp⟩⟩

noncomputable def f_foghornref28_Sender_Tick.s1c (now1 : Int) (q6 : Int) (sx0c_0 : Int) (sx0c_1 : Int) (sx0c_2 : Int) (sx0c_3 : (List (ByteArray × Int × Bool))) (out6 : (List (Int × Int × Bool × ByteArray))) (i8 : Int) : Option ((Int × Int × Int × (List (ByteArray × Int × Bool)) × (List (Int × Int × Bool × ByteArray)) × Int) ⊕ (Int × Int × Int × (List (ByteArray × Int × Bool)) × (List (Int × Int × Bool × ByteArray)))) := (if ((decide (i8 < (sx0c_3.length : Int))) && (decide (i8 < (IntKind.i64.wrap (q6 + sx0c_0))))) = true then (if 0 ≤ i8 ∧ i8 < (sx0c_3.length : Int) then ((if ((gt sx0c_3 i8).2.2) = true then (some true) else (if 0 ≤ i8 ∧ i8 < (sx0c_3.length : Int) then ((if (decide ((0 : Int) ≤ (gt sx0c_3 i8).2.1)) = true then (if 0 ≤ i8 ∧ i8 < (sx0c_3.length : Int) then (some (decide ((IntKind.i64.wrap (now1 - (gt sx0c_3 i8).2.1)) < sx0c_1))) else none) else (some false)).bind fun z49 => (some z49)) else none)).bind fun z50 => (if z50 = true then (some (Sum.inl (sx0c_0, sx0c_1, sx0c_2, sx0c_3, out6, (IntKind.i64.wrap (i8 + (1 : Int)))))) else (if 0 ≤ i8 ∧ i8 < (sx0c_3.length : Int) then (if 0 ≤ i8 ∧ i8 < ((sx0c_3.set (i8).toNat ((gt sx0c_3 i8).1, now1, (gt sx0c_3 i8).2.2)).length : Int) then (if (out6.length + ([((1 : Int), (IntKind.u8.wrap ((i8).tmod (256 : Int))), false, (gt (sx0c_3.set (i8).toNat ((gt sx0c_3 i8).1, now1, (gt sx0c_3 i8).2.2)) i8).1)]).length) * 24 ≤ 140737488355328 then (some (Sum.inl (sx0c_0, sx0c_1, sx0c_2, (sx0c_3.set (i8).toNat ((gt sx0c_3 i8).1, now1, (gt sx0c_3 i8).2.2)), (out6 ++ [((1 : Int), (IntKind.u8.wrap ((i8).tmod (256 : Int))), false, (gt (sx0c_3.set (i8).toNat ((gt sx0c_3 i8).1, now1, (gt sx0c_3 i8).2.2)) i8).1)]), (IntKind.i64.wrap (i8 + (1 : Int)))))) else none) else none) else none))) else none) else (some (Sum.inr (sx0c_0, sx0c_1, sx0c_2, sx0c_3, out6))))
noncomputable def f_foghornref28_Sender_Tick.s1 (now1 : Int) (q6 : Int) (s : (Int × Int × Int × (List (ByteArray × Int × Bool)) × (List (Int × Int × Bool × ByteArray)) × Int)) : Option ((Int × Int × Int × (List (ByteArray × Int × Bool)) × (List (Int × Int × Bool × ByteArray)) × Int) ⊕ (Int × Int × Int × (List (ByteArray × Int × Bool)) × (List (Int × Int × Bool × ByteArray)))) := f_foghornref28_Sender_Tick.s1c now1 q6 s.1 s.2.1 s.2.2.1 s.2.2.2.1 s.2.2.2.2.1 s.2.2.2.2.2
noncomputable def f_foghornref28_Sender_Tick (sx0_Window : Int) (sx0_Wait : Int) (sx0_Now : Int) (sx0_All : (List (ByteArray × Int × Bool))) (now1 : Int) : Option ((List (Int × Int × Bool × ByteArray)) × Int × (Int × Int × Int × (List (ByteArray × Int × Bool)))) := (if ((decide (now1 < (0 : Int))) || (decide (now1 < sx0_Now))) = true then (some ([], (1 : Int), (sx0_Window, sx0_Wait, sx0_Now, sx0_All))) else ((f_foghornref28_Sender_Front sx0_Window sx0_Wait now1 sx0_All).bind fun q6 => ((loop (f_foghornref28_Sender_Tick.s1 now1 q6) (sx0_Window, sx0_Wait, now1, sx0_All, [], q6)).bind (fun q57 => (some (q57.2.2.2.2, (0 : Int), (q57.1, q57.2.1, q57.2.2.1, q57.2.2.2.1)))))))
theorem f_foghornref28_Sender_Tick_c {S : Nat → Prop} {w0 w : World} {ow : List Res} (sx0_Window : Int) (sx0_Wait : Int) (sx0_Now : Int) (vsx0_All : Value) (sx0_All : (List (ByteArray × Int × Bool))) (osx0 : Value) (now1 : Int) (hp : Hp S w0 w (Res.sl (Ek.pair Ek.str (Ek.pair (Ek.int .i64) Ek.bool)) 83 vsx0_All sx0_All :: Res.obj 53 osx0 [.int .i64 sx0_Window, .int .i64 sx0_Wait, .int .i64 sx0_Now, vsx0_All] :: ow)) {r : ((List (Int × Int × Bool × ByteArray)) × Int × (Int × Int × Int × (List (ByteArray × Int × Bool))))} (h : f_foghornref28_Sender_Tick sx0_Window sx0_Wait sx0_Now sx0_All now1 = some r) :
    Calls Try.prog 20 #[osx0, .int .i64 now1] w (fun e w' => ∃ (u0 : Value) (u1 : Value), e = .returned (.tuple #[u0, .int .i64 r.2.1]) ∧ Hp S w0 w' (Res.sl (Ek.pair (Ek.int .u8) (Ek.pair (Ek.int .u8) (Ek.pair Ek.bool Ek.str))) 31 u0 r.1 :: Res.sl (Ek.pair Ek.str (Ek.pair (Ek.int .i64) Ek.bool)) 83 u1 r.2.2.2.2.2 :: Res.obj 53 osx0 [.int .i64 r.2.2.1, .int .i64 r.2.2.2.1, .int .i64 r.2.2.2.2.1, u1] :: ow)) := by
  unfold f_foghornref28_Sender_Tick at h
  refine enter (n := 105) (args := [osx0, .int .i64 now1]) Try.func20 rfl rfl (Nat.le_of_ble_eq_true rfl) fun a hf => ?_
  replace hf : Fr 105 a [(0, osx0), (1, .int .i64 now1)] := hf
  refine wp_mono (Q := fun e a w => e = .ret ∧ ∃ (u0 : Value) (u1 : Value), Fr 105 a [(4, u0), (5, .int .i64 r.2.1)] ∧ Hp S w0 w (Res.sl (Ek.pair (Ek.int .u8) (Ek.pair (Ek.int .u8) (Ek.pair Ek.bool Ek.str))) 31 u0 r.1 :: Res.sl (Ek.pair Ek.str (Ek.pair (Ek.int .i64) Ek.bool)) 83 u1 r.2.2.2.2.2 :: Res.obj 53 osx0 [.int .i64 r.2.2.1, .int .i64 r.2.2.2.1, .int .i64 r.2.2.2.2.1, u1] :: ow)) ?_ ?_
  rotate_left
  · rintro e a w ⟨rfl, x0, x1, hf, hp⟩
    exact ret2 hf rfl rfl rfl ⟨x0, x1, rfl, hp⟩
  refine wp_seq ?_
  refine wp_reg ?_
  refine st_assign hf rfl rfl (by decide) ?_
  clear hf; intro a ha hf; clear ha
  refine st_assign hf rfl rfl (by decide) ?_
  clear hf; intro a ha hf; clear ha
  refine st_nil hf ?_
  refine th_n ?_
  refine wp_seq ?_
  refine wp_seq ?_
  refine wp_reg ?_
  refine st_move hf rfl rfl (by decide) ?_
  clear hf; intro a ha hf; clear ha
  refine st_ilss hf (by decide) rfl rfl rfl ?_
  clear hf; intro a ha hf; clear ha
  refine st_move hf rfl rfl (by decide) ?_
  clear hf; intro a ha hf; clear ha
  refine wpList_cut 7 (fun a w => Fr 105 a [(0, osx0), (1, .int .i64 now1), (18, .bool ((decide (now1 < (0 : Int))) || (decide (now1 < sx0_Now))))] ∧ Hp S w0 w (Res.sl (Ek.pair Ek.str (Ek.pair (Ek.int .i64) Ek.bool)) 83 vsx0_All sx0_All :: Res.obj 53 osx0 [.int .i64 sx0_Window, .int .i64 sx0_Wait, .int .i64 sx0_Now, vsx0_All] :: ow)) ?_ ?_
  · rcases Bool.eq_false_or_eq_true (decide (now1 < (0 : Int))) with hb4 | hb4
    · skip
      refine st_skip hf (wantN hf rfl rfl hb4) rfl (by decide) ?_ rfl
      clear hf; intro a hf
      refine st_skip hf (wantN hf rfl rfl hb4) rfl (by decide) ?_ rfl
      clear hf; intro a hf
      refine st_skip hf (wantN hf rfl rfl hb4) rfl (by decide) ?_ rfl
      clear hf; intro a hf
      refine st_skip hf (wantN hf rfl rfl hb4) rfl (by decide) ?_ rfl
      clear hf; intro a hf
      refine st_skip hf (wantN hf rfl rfl hb4) rfl (by decide) ?_ rfl
      clear hf; intro a hf
      refine st_skip hf (wantN hf rfl rfl hb4) rfl (by decide) ?_ rfl
      clear hf; intro a hf
      refine st_pick (v := .bool true) hf rfl rfl (fun hb' => ?_) (fun hb' => ?_) (by decide) ?_
      · rfl
      · exact absurd (hb4.symm.trans hb') (by decide)
      clear hf; intro a ha hf; clear ha
      refine st_nil hf (th_n ?_)
      exact ⟨hf.sub ⟨rfl, rfl, (by rw [hb4]; rfl), trivial⟩, hp⟩
    refine st_move hf (wantY hf rfl rfl hb4) rfl (by decide) ?_
    clear hf; intro a ha hf; clear ha
    refine st_move hf (wantY hf rfl rfl hb4) rfl (by decide) ?_
    clear hf; intro a ha hf; clear ha
    refine st_nilV hf (by decide) (wantY hf rfl rfl hb4) rfl (hp.ob (i := 1) rfl) ?_
    clear hf; intro a ha hf; clear ha
    refine st_fa (o' := 2) hf (by decide) (off := 2) (sz := 1) (by kernel_rfl) (by decide) (wantY hf rfl rfl hb4) rfl (hp.ob (i := 1) rfl) rfl ?_
    clear hf; intro a ha hf; clear ha
    refine st_ldO (u := .int .i64 sx0_Now) hf (by decide) pl2 (wantY hf rfl rfl hb4) rfl (hp.ob (i := 1) rfl) rfl ?_
    clear hf; intro a ha hf; clear ha
    refine st_ilss hf (by decide) (wantY hf rfl rfl hb4) rfl rfl ?_
    clear hf; intro a ha hf; clear ha
    refine st_pick (v := .bool (decide (now1 < sx0_Now))) hf rfl rfl (fun hb' => ?_) (fun hb' => ?_) (by decide) ?_
    · exact absurd (hb4.symm.trans hb') (by decide)
    · rfl
    clear hf; intro a ha hf; clear ha
    refine st_nil hf (th_n ?_)
    exact ⟨hf.sub ⟨rfl, rfl, (by rw [hb4]; rfl), trivial⟩, hp⟩
  rintro a w ⟨hf, hp⟩
  refine st_nil hf ?_
  refine th_n ?_
  refine wp_if hf rfl (fun hb => ?_) (fun hb => ?_)
  · replace h := ifT h hb
    refine wp_seq ?_
    refine wp_reg ?_
    refine st_assign hf rfl rfl (by decide) ?_
    clear hf; intro a ha hf; clear ha
    refine st_assign hf rfl rfl (by decide) ?_
    clear hf; intro a ha hf; clear ha
    refine st_nil hf ?_
    refine th_n ?_
    refine wp_ret ?_
    refine th_r ?_
    obtain rfl := Option.some.inj h
    have hp := hp.nil (Ek.pair (Ek.int .u8) (Ek.pair (Ek.int .u8) (Ek.pair Ek.bool Ek.str))) 31
    exact ⟨rfl, ⟨_, _, hf.sub ⟨rfl, rfl, trivial⟩, hp⟩⟩
  replace h := ifF h hb
  refine wp_skip ?_
  refine th_n ?_
  refine wp_seq ?_
  refine wp_reg ?_
  refine st_move hf rfl rfl (by decide) ?_
  clear hf; intro a ha hf; clear ha
  refine st_move hf rfl rfl (by decide) ?_
  clear hf; intro a ha hf; clear ha
  refine st_nilV hf (by decide) rfl rfl (hp.ob (i := 1) rfl) ?_
  clear hf; intro a ha hf; clear ha
  refine st_fa (o' := 2) hf (by decide) (off := 2) (sz := 1) (by kernel_rfl) (by decide) rfl rfl (hp.ob (i := 1) rfl) rfl ?_
  clear hf; intro a ha hf; clear ha
  refine st_stO (us := [.int .i64 now1]) hf hp (i := 1) rfl rfl rfl rfl rfl (by rfl) (by kernel_rfl) (Nat.le_of_ble_eq_true rfl) ?_
  clear hf; intro a w hf hp0; clear hp; have hp := hp0; clear hp0
  replace hp : Hp _ _ _ (Res.sl (Ek.pair Ek.str (Ek.pair (Ek.int .i64) Ek.bool)) 83 vsx0_All sx0_All :: Res.obj 53 osx0 [.int .i64 sx0_Window, .int .i64 sx0_Wait, .int .i64 now1, vsx0_All] :: ow) := hp
  refine st_nil hf ?_
  refine th_n ?_
  refine wp_seq ?_
  refine wp_reg ?_
  refine st_assign hf rfl rfl (by decide) ?_
  clear hf; intro a ha hf; clear ha
  refine st_nil hf ?_
  refine th_n ?_
  refine wp_seq ?_
  refine wp_reg ?_
  refine st_move hf rfl rfl (by decide) ?_
  clear hf; intro a ha hf; clear ha
  obtain ⟨q6, hcall7, h⟩ := bnd h
  obtain ⟨S8, hp9, rd10, up11, bk12⟩ := Hp.lendS hp (i := 0) rfl
  obtain ⟨S13, hp14, rd15, up16, bk17⟩ := Hp.lendO hp9 (i := 0) rfl
  refine st_call hf (by decide) Try.func22 rfl rfl rfl rfl rfl (f_foghornref28_Sender_Front_c hp14 _ _ _ _ _ ((rd10.now hp9).mono up16) _ rd15 hcall7) ?_
  rintro _ w ⟨rfl, hp0⟩
  have hp0 := bk17 _ _ hp0
  have hp0 := bk12 _ _ hp0
  clear hp; have hp := hp0; clear hp0
  replace hp : Hp _ _ _ (Res.sl (Ek.pair Ek.str (Ek.pair (Ek.int .i64) Ek.bool)) 83 vsx0_All sx0_All :: Res.obj 53 osx0 [.int .i64 sx0_Window, .int .i64 sx0_Wait, .int .i64 now1, vsx0_All] :: ow) := hp
  refine ⟨_, rfl, ?_⟩
  clear hf; intro a hf
  refine st_assign hf rfl rfl (by decide) ?_
  clear hf; intro a ha hf; clear ha
  refine st_nil hf ?_
  refine th_n ?_
  refine wp_seq ?_
  refine wp_seq ?_
  refine wp_reg ?_
  refine st_move hf rfl rfl (by decide) ?_
  clear hf; intro a ha hf; clear ha
  refine st_assign hf rfl rfl (by decide) ?_
  clear hf; intro a ha hf; clear ha
  refine st_nil hf ?_
  refine th_n ?_
  refine wp_block ?_
  obtain ⟨q57, hl, h⟩ := bnd h
  have hp := hp.nil (Ek.pair (Ek.int .u8) (Ek.pair (Ek.int .u8) (Ek.pair Ek.bool Ek.str))) 31
  have hp : Hp _ _ _ (Res.sl (Ek.pair Ek.str (Ek.pair (Ek.int .i64) Ek.bool)) 83 vsx0_All sx0_All :: Res.obj 53 osx0 [.int .i64 sx0_Window, .int .i64 sx0_Wait, .int .i64 now1, vsx0_All] :: Res.sl (Ek.pair (Ek.int .u8) (Ek.pair (Ek.int .u8) (Ek.pair Ek.bool Ek.str))) 31 (.slice none 0 0) ([]) :: ow) := Hp.sel (pre := [Res.sl (Ek.pair (Ek.int .u8) (Ek.pair (Ek.int .u8) (Ek.pair Ek.bool Ek.str))) 31 (.slice none 0 0) ([]), Res.sl (Ek.pair Ek.str (Ek.pair (Ek.int .i64) Ek.bool)) 83 vsx0_All sx0_All, Res.obj 53 osx0 [.int .i64 sx0_Window, .int .i64 sx0_Wait, .int .i64 now1, vsx0_All]]) (tail := ow) (rs' := [Res.sl (Ek.pair Ek.str (Ek.pair (Ek.int .i64) Ek.bool)) 83 vsx0_All sx0_All, Res.obj 53 osx0 [.int .i64 sx0_Window, .int .i64 sx0_Wait, .int .i64 now1, vsx0_All], Res.sl (Ek.pair (Ek.int .u8) (Ek.pair (Ek.int .u8) (Ek.pair Ek.bool Ek.str))) 31 (.slice none 0 0) ([])]) hp [1, 2, 0] (by decide) (by simp) rfl
  refine wp_loop_pure (f := (f_foghornref28_Sender_Tick.s1 now1 q6)) (s := (sx0_Window, sx0_Wait, now1, sx0_All, [], q6)) (fun s a w => ∃ (v18 : Value) (v21 : Value), Fr 105 a [(0, osx0), (1, .int .i64 now1), (6, v21), (7, .int .i64 q6), (8, .int .i64 s.2.2.2.2.2)] ∧ Hp S w0 w (Res.sl (Ek.pair Ek.str (Ek.pair (Ek.int .i64) Ek.bool)) 83 v18 s.2.2.2.1 :: Res.obj 53 osx0 [.int .i64 s.1, .int .i64 s.2.1, .int .i64 s.2.2.1, v18] :: Res.sl (Ek.pair (Ek.int .u8) (Ek.pair (Ek.int .u8) (Ek.pair Ek.bool Ek.str))) 31 v21 s.2.2.2.2.1 :: ow)) (fun q e a w => e = .exit 0 ∧ ∃ (v23 : Value) (v26 : Value), Fr 105 a [(0, osx0), (6, v26)] ∧ Hp S w0 w (Res.sl (Ek.pair Ek.str (Ek.pair (Ek.int .i64) Ek.bool)) 83 v23 q.2.2.2.1 :: Res.obj 53 osx0 [.int .i64 q.1, .int .i64 q.2.1, .int .i64 q.2.2.1, v23] :: Res.sl (Ek.pair (Ek.int .u8) (Ek.pair (Ek.int .u8) (Ek.pair Ek.bool Ek.str))) 31 v26 q.2.2.2.2 :: ow)) ?_ hl ⟨_, _, hf.sub ⟨rfl, rfl, rfl, rfl, rfl, trivial⟩, hp⟩ ?_
  · clear hl hf hp
    intro s x a w h hI
    obtain ⟨sx0c_0, sx0c_1, sx0c_2, sx0c_3, out6, i8⟩ := s
    obtain ⟨v18, v21, hf, hp⟩ : ∃ (v18 : Value) (v21 : Value), Fr 105 a [(0, osx0), (1, .int .i64 now1), (6, v21), (7, .int .i64 q6), (8, .int .i64 i8)] ∧ Hp S w0 w (Res.sl (Ek.pair Ek.str (Ek.pair (Ek.int .i64) Ek.bool)) 83 v18 sx0c_3 :: Res.obj 53 osx0 [.int .i64 sx0c_0, .int .i64 sx0c_1, .int .i64 sx0c_2, v18] :: Res.sl (Ek.pair (Ek.int .u8) (Ek.pair (Ek.int .u8) (Ek.pair Ek.bool Ek.str))) 31 v21 out6 :: ow) := hI
    replace h : f_foghornref28_Sender_Tick.s1c now1 q6 sx0c_0 sx0c_1 sx0c_2 sx0c_3 out6 i8 = some x := h
    unfold f_foghornref28_Sender_Tick.s1c at h
    refine wp_seq ?_
    refine wp_seq ?_
    refine wp_reg ?_
    refine st_move hf rfl rfl (by decide) ?_
    clear hf; intro a ha hf; clear ha
    refine st_move hf rfl rfl (by decide) ?_
    clear hf; intro a ha hf; clear ha
    refine st_nilV hf (by decide) rfl rfl (hp.ob (i := 1) rfl) ?_
    clear hf; intro a ha hf; clear ha
    refine st_fa (o' := 3) hf (by decide) (off := 3) (sz := 1) (by kernel_rfl) (by decide) rfl rfl (hp.ob (i := 1) rfl) rfl ?_
    clear hf; intro a ha hf; clear ha
    refine st_ldO (u := v18) hf (by decide) pl51 rfl rfl (hp.ob (i := 1) rfl) rfl ?_
    clear hf; intro a ha hf; clear ha
    refine st_len (E := (Ek.pair Ek.str (Ek.pair (Ek.int .i64) Ek.bool))) hf (by decide) Try.underlying51 rfl rfl (hp.sl (i := 0) rfl) ?_
    clear hf; intro a ha hf; clear ha
    refine st_ilss hf (by decide) rfl rfl rfl ?_
    clear hf; intro a ha hf; clear ha
    refine st_move hf rfl rfl (by decide) ?_
    clear hf; intro a ha hf; clear ha
    refine wpList_cut 9 (fun a w => Fr 105 a [(0, osx0), (1, .int .i64 now1), (6, v21), (7, .int .i64 q6), (8, .int .i64 i8), (42, .bool ((decide (i8 < (sx0c_3.length : Int))) && (decide (i8 < (IntKind.i64.wrap (q6 + sx0c_0))))))] ∧ Hp S w0 w (Res.sl (Ek.pair Ek.str (Ek.pair (Ek.int .i64) Ek.bool)) 83 v18 sx0c_3 :: Res.obj 53 osx0 [.int .i64 sx0c_0, .int .i64 sx0c_1, .int .i64 sx0c_2, v18] :: Res.sl (Ek.pair (Ek.int .u8) (Ek.pair (Ek.int .u8) (Ek.pair Ek.bool Ek.str))) 31 v21 out6 :: ow)) ?_ ?_
    · rcases Bool.eq_false_or_eq_true (decide (i8 < (sx0c_3.length : Int))) with hb29 | hb29
      · skip
        refine st_move hf (wantY hf rfl rfl hb29) rfl (by decide) ?_
        clear hf; intro a ha hf; clear ha
        refine st_move hf (wantY hf rfl rfl hb29) rfl (by decide) ?_
        clear hf; intro a ha hf; clear ha
        refine st_move hf (wantY hf rfl rfl hb29) rfl (by decide) ?_
        clear hf; intro a ha hf; clear ha
        refine st_nilV hf (by decide) (wantY hf rfl rfl hb29) rfl (hp.ob (i := 1) rfl) ?_
        clear hf; intro a ha hf; clear ha
        refine st_fa (o' := 0) hf (by decide) (off := 0) (sz := 1) (by kernel_rfl) (by decide) (wantY hf rfl rfl hb29) rfl (hp.ob (i := 1) rfl) rfl ?_
        clear hf; intro a ha hf; clear ha
        refine st_ldO (u := .int .i64 sx0c_0) hf (by decide) pl3 (wantY hf rfl rfl hb29) rfl (hp.ob (i := 1) rfl) rfl ?_
        clear hf; intro a ha hf; clear ha
        refine st_iadd hf (by decide) (wantY hf rfl rfl hb29) rfl rfl ?_
        clear hf; intro a ha hf; clear ha
        refine st_ilss hf (by decide) (wantY hf rfl rfl hb29) rfl rfl ?_
        clear hf; intro a ha hf; clear ha
        refine st_pick (v := .bool (decide (i8 < (IntKind.i64.wrap (q6 + sx0c_0))))) hf rfl rfl (fun hb' => ?_) (fun hb' => ?_) (by decide) ?_
        · rfl
        · exact absurd (hb29.symm.trans hb') (by decide)
        clear hf; intro a ha hf; clear ha
        refine st_nil hf (th_n ?_)
        exact ⟨hf.sub ⟨rfl, rfl, rfl, rfl, rfl, (by rw [hb29]; rfl), trivial⟩, hp⟩
      refine st_skip hf (wantN hf rfl rfl hb29) rfl (by decide) ?_ rfl
      clear hf; intro a hf
      refine st_skip hf (wantN hf rfl rfl hb29) rfl (by decide) ?_ rfl
      clear hf; intro a hf
      refine st_skip hf (wantN hf rfl rfl hb29) rfl (by decide) ?_ rfl
      clear hf; intro a hf
      refine st_skip hf (wantN hf rfl rfl hb29) rfl (by decide) ?_ rfl
      clear hf; intro a hf
      refine st_skip hf (wantN hf rfl rfl hb29) rfl (by decide) ?_ rfl
      clear hf; intro a hf
      refine st_skip hf (wantN hf rfl rfl hb29) rfl (by decide) ?_ rfl
      clear hf; intro a hf
      refine st_skip hf (wantN hf rfl rfl hb29) rfl (by decide) ?_ rfl
      clear hf; intro a hf
      refine st_skip hf (wantN hf rfl rfl hb29) rfl (by decide) ?_ rfl
      clear hf; intro a hf
      refine st_pick (v := .bool false) hf rfl rfl (fun hb' => ?_) (fun hb' => ?_) (by decide) ?_
      · exact absurd (hb29.symm.trans hb') (by decide)
      · rfl
      clear hf; intro a ha hf; clear ha
      refine st_nil hf (th_n ?_)
      exact ⟨hf.sub ⟨rfl, rfl, rfl, rfl, rfl, (by rw [hb29]; rfl), trivial⟩, hp⟩
    rintro a w ⟨hf, hp⟩
    refine st_nil hf ?_
    refine th_n ?_
    refine wp_if hf rfl (fun hb => ?_) (fun hb => ?_)
    · replace h := ifT h hb
      refine wp_skip ?_
      refine th_n ?_
      refine wp_seq ?_
      refine wp_block ?_
      refine wp_seq ?_
      refine wp_seq ?_
      obtain ⟨S30, hp31, rd32, up33, bk34⟩ := Hp.lendO hp (i := 1) rfl
      obtain ⟨S35, hp36, rd37, up38, bk39⟩ := Hp.lendS hp31 (i := 0) rfl
      have rl40 := ((rd32.now hp31).mono up38)
      have rl41 := rd37
      obtain ⟨hc42, h⟩ := chk h
      obtain ⟨z50, hz43, h⟩ := bnd h
      refine wp_cutN (fun a w => Fr 105 a [(0, osx0), (1, .int .i64 now1), (6, v21), (7, .int .i64 q6), (8, .int .i64 i8), (80, .bool z50)] ∧ Hp S w0 w (Res.obj 53 osx0 [.int .i64 sx0c_0, .int .i64 sx0c_1, .int .i64 sx0c_2, v18] :: Res.sl (Ek.pair Ek.str (Ek.pair (Ek.int .i64) Ek.bool)) 83 v18 sx0c_3 :: Res.sl (Ek.pair (Ek.int .u8) (Ek.pair (Ek.int .u8) (Ek.pair Ek.bool Ek.str))) 31 v21 out6 :: ow)) ?_ ?_
      · have hp := hp36.same (Same.drew w)
        rcases Bool.eq_false_or_eq_true ((gt sx0c_3 i8).2.2) with hb44 | hb44
        · skip
          replace hz43 := ifT hz43 hb44
          replace hz43 := Option.some.inj hz43
          refine dr_begin' (fun a w => Fr 105 a [(0, osx0), (1, .int .i64 now1), (6, v21), (7, .int .i64 q6), (8, .int .i64 i8), (80, .bool z50)] ∧ Hp S w0 w (Res.obj 53 osx0 [.int .i64 sx0c_0, .int .i64 sx0c_1, .int .i64 sx0c_2, v18] :: Res.sl (Ek.pair Ek.str (Ek.pair (Ek.int .i64) Ek.bool)) 83 v18 sx0c_3 :: Res.sl (Ek.pair (Ek.int .u8) (Ek.pair (Ek.int .u8) (Ek.pair Ek.bool Ek.str))) 31 v21 out6 :: ow)) (fun w' => ∃ l, Hp S35 w w' l) [] (by kernel_rfl) ?_
          refine dr_take 0 (osx0) rfl (by kernel_rfl) (by kernel_rfl) (by kernel_rfl) (by kernel_rfl) rfl rfl hf (by decide) rfl (fun w hp => ?_) ⟨_, hp⟩ ?_
          · obtain ⟨_, hp⟩ := hp
            refine st_move hf rfl rfl (by decide) ?_
            clear hf; intro a ha hf
            exact st_nil hf (th_n ⟨ha, rfl⟩)
          clear hf; intro a hf
          refine dr_nilV 1 rfl (by kernel_rfl) (by kernel_rfl) (by kernel_rfl) hf (by decide) rfl rfl (rl40.ob hp) ?_
          clear hf; intro a hf
          refine dr_take 2 (optr osx0 3) rfl (by kernel_rfl) (by kernel_rfl) (by kernel_rfl) (by kernel_rfl) rfl rfl hf (by decide) rfl (fun w hp => ?_) ⟨_, hp⟩ ?_
          · obtain ⟨_, hp⟩ := hp
            refine st_fa (o' := 3) hf (by decide) (off := 3) (sz := 1) (by kernel_rfl) (by decide) rfl rfl (rl40.ob hp) rfl ?_
            clear hf; intro a ha hf
            exact st_nil hf (th_n ⟨ha, rfl⟩)
          clear hf; intro a hf
          refine dr_take 3 (v18) rfl (by kernel_rfl) (by kernel_rfl) (by kernel_rfl) (by kernel_rfl) rfl rfl hf (by decide) rfl (fun w hp => ?_) ⟨_, hp⟩ ?_
          · obtain ⟨_, hp⟩ := hp
            refine st_ldO (u := v18) hf (by decide) pl51 rfl rfl (rl40.ob hp) rfl ?_
            clear hf; intro a ha hf
            exact st_nil hf (th_n ⟨ha, rfl⟩)
          clear hf; intro a hf
          refine dr_take 4 (.int .i64 i8) rfl (by kernel_rfl) (by kernel_rfl) (by kernel_rfl) (by kernel_rfl) rfl rfl hf (by decide) rfl (fun w hp => ?_) ⟨_, hp⟩ ?_
          · obtain ⟨_, hp⟩ := hp
            refine st_move hf rfl rfl (by decide) ?_
            clear hf; intro a ha hf
            exact st_nil hf (th_n ⟨ha, rfl⟩)
          clear hf; intro a hf
          refine dr_take 5 (eptr v18 i8 3) rfl (by kernel_rfl) (by kernel_rfl) (by kernel_rfl) (by kernel_rfl) rfl rfl hf (by decide) rfl (fun w hp => ?_) ⟨_, hp⟩ ?_
          · obtain ⟨_, hp⟩ := hp
            refine st_index (E := (Ek.pair Ek.str (Ek.pair (Ek.int .i64) Ek.bool))) hf (by decide) Try.underlying51 elt83 rfl rfl rfl (rl41.sl hp) hc42.1 hc42.2 ?_
            clear hf; intro a ha hf
            exact st_nil hf (th_n ⟨ha, rfl⟩)
          clear hf; intro a hf
          refine dr_take 6 (optr (eptr v18 i8 3) 2) rfl (by kernel_rfl) (by kernel_rfl) (by kernel_rfl) (by kernel_rfl) rfl rfl hf (by decide) rfl (fun w hp => ?_) ⟨_, hp⟩ ?_
          · obtain ⟨_, hp⟩ := hp
            refine st_faP (off := 2) (sz := 1) hf (by decide) (by kernel_rfl) (by decide) rfl rfl (Sl.isP (rl41.sl hp) hc42.1 hc42.2) ?_
            clear hf; intro a ha hf
            exact st_nil hf (th_n ⟨ha, rfl⟩)
          clear hf; intro a hf
          refine dr_take 7 (.bool ((gt sx0c_3 i8).2.2)) rfl (by kernel_rfl) (by kernel_rfl) (by kernel_rfl) (by kernel_rfl) rfl rfl hf (by decide) rfl (fun w hp => ?_) ⟨_, hp⟩ ?_
          · obtain ⟨_, hp⟩ := hp
            refine st_ldQ (F := Ek.bool) (yv := (gt sx0c_3 i8).2.2) hf (by decide) pl4 (fun x => .bool x) (fun _ _ h => h) rfl rfl (Sl.part (E := (Ek.pair Ek.str (Ek.pair (Ek.int .i64) Ek.bool))) (F := Ek.bool) (o := 2) (Sub.comp (Sub.snd (E := Ek.str) (F := (Ek.pair (Ek.int .i64) Ek.bool))) (Sub.snd (E := (Ek.int .i64)) (F := Ek.bool))) (rl41.sl hp) hc42.1 hc42.2) ?_
            clear hf; intro a ha hf
            exact st_nil hf (th_n ⟨ha, rfl⟩)
          clear hf; intro a hf
          refine dr_take 8 (.bool ((gt sx0c_3 i8).2.2)) rfl (by kernel_rfl) (by kernel_rfl) (by kernel_rfl) (by kernel_rfl) rfl rfl hf (by decide) rfl (fun w hp => ?_) ⟨_, hp⟩ ?_
          · obtain ⟨_, hp⟩ := hp
            refine st_move hf rfl rfl (by decide) ?_
            clear hf; intro a ha hf
            exact st_nil hf (th_n ⟨ha, rfl⟩)
          clear hf; intro a hf
          refine dr_out 9 rfl (by kernel_rfl) (by kernel_rfl) (by kernel_rfl) (by kernel_rfl) rfl hf (by decide) rfl (wantN hf rfl rfl hb44) ⟨_, hp⟩ ?_
          clear hf; intro a hf
          refine dr_outP 10 rfl (by kernel_rfl) (by kernel_rfl) (by kernel_rfl) rfl hf (by decide) (wantN hf rfl rfl hb44) ?_
          clear hf; intro a hf
          refine dr_out 11 rfl (by kernel_rfl) (by kernel_rfl) (by kernel_rfl) (by kernel_rfl) rfl hf (by decide) rfl (wantN hf rfl rfl hb44) ⟨_, hp⟩ ?_
          clear hf; intro a hf
          refine dr_out 12 rfl (by kernel_rfl) (by kernel_rfl) (by kernel_rfl) (by kernel_rfl) rfl hf (by decide) rfl (wantN hf rfl rfl hb44) ⟨_, hp⟩ ?_
          clear hf; intro a hf
          refine dr_out 13 rfl (by kernel_rfl) (by kernel_rfl) (by kernel_rfl) (by kernel_rfl) rfl hf (by decide) rfl (wantN hf rfl rfl hb44) ⟨_, hp⟩ ?_
          clear hf; intro a hf
          refine dr_out 14 rfl (by kernel_rfl) (by kernel_rfl) (by kernel_rfl) (by kernel_rfl) rfl hf (by decide) rfl (wantN hf rfl rfl hb44) ⟨_, hp⟩ ?_
          clear hf; intro a hf
          refine dr_out 15 rfl (by kernel_rfl) (by kernel_rfl) (by kernel_rfl) (by kernel_rfl) rfl hf (by decide) rfl (wantN hf rfl rfl hb44) ⟨_, hp⟩ ?_
          clear hf; intro a hf
          refine dr_out 16 rfl (by kernel_rfl) (by kernel_rfl) (by kernel_rfl) (by kernel_rfl) rfl hf (by decide) rfl (wantN hf rfl rfl hb44) ⟨_, hp⟩ ?_
          clear hf; intro a hf
          refine dr_out 17 rfl (by kernel_rfl) (by kernel_rfl) (by kernel_rfl) (by kernel_rfl) rfl hf (by decide) rfl (wantN hf rfl rfl hb44) ⟨_, hp⟩ ?_
          clear hf; intro a hf
          refine dr_outU 18 rfl (by kernel_rfl) (by kernel_rfl) (by kernel_rfl) (by kernel_rfl) rfl hf (by decide) (wantN hf rfl rfl hb44) ⟨_, hp⟩ ?_
          clear hf; intro a hf
          refine dr_out 19 rfl (by kernel_rfl) (by kernel_rfl) (by kernel_rfl) (by kernel_rfl) rfl hf (by decide) rfl (wantU hf rfl rfl) ⟨_, hp⟩ ?_
          clear hf; intro a hf
          refine dr_out 20 rfl (by kernel_rfl) (by kernel_rfl) (by kernel_rfl) (by kernel_rfl) rfl hf (by decide) rfl (wantU hf rfl rfl) ⟨_, hp⟩ ?_
          clear hf; intro a hf
          refine dr_outP 21 rfl (by kernel_rfl) (by kernel_rfl) (by kernel_rfl) rfl hf (by decide) (wantU hf rfl rfl) ?_
          clear hf; intro a hf
          refine dr_out 22 rfl (by kernel_rfl) (by kernel_rfl) (by kernel_rfl) (by kernel_rfl) rfl hf (by decide) rfl (wantU hf rfl rfl) ⟨_, hp⟩ ?_
          clear hf; intro a hf
          refine dr_out 23 rfl (by kernel_rfl) (by kernel_rfl) (by kernel_rfl) (by kernel_rfl) rfl hf (by decide) rfl (wantU hf rfl rfl) ⟨_, hp⟩ ?_
          clear hf; intro a hf
          refine dr_out 24 rfl (by kernel_rfl) (by kernel_rfl) (by kernel_rfl) (by kernel_rfl) rfl hf (by decide) rfl (wantU hf rfl rfl) ⟨_, hp⟩ ?_
          clear hf; intro a hf
          refine dr_out 25 rfl (by kernel_rfl) (by kernel_rfl) (by kernel_rfl) (by kernel_rfl) rfl hf (by decide) rfl (wantU hf rfl rfl) ⟨_, hp⟩ ?_
          clear hf; intro a hf
          refine dr_out 26 rfl (by kernel_rfl) (by kernel_rfl) (by kernel_rfl) (by kernel_rfl) rfl hf (by decide) rfl (wantU hf rfl rfl) ⟨_, hp⟩ ?_
          clear hf; intro a hf
          refine dr_out 27 rfl (by kernel_rfl) (by kernel_rfl) (by kernel_rfl) (by kernel_rfl) rfl hf (by decide) rfl (wantU hf rfl rfl) ⟨_, hp⟩ ?_
          clear hf; intro a hf
          refine dr_out 28 rfl (by kernel_rfl) (by kernel_rfl) (by kernel_rfl) (by kernel_rfl) rfl hf (by decide) rfl (wantU hf rfl rfl) ⟨_, hp⟩ ?_
          clear hf; intro a hf
          refine dr_out 29 rfl (by kernel_rfl) (by kernel_rfl) (by kernel_rfl) (by kernel_rfl) rfl hf (by decide) rfl (wantU hf rfl rfl) ⟨_, hp⟩ ?_
          clear hf; intro a hf
          refine dr_outP 30 rfl (by kernel_rfl) (by kernel_rfl) (by kernel_rfl) rfl hf (by decide) (wantU hf rfl rfl) ?_
          clear hf; intro a hf
          refine dr_out 31 rfl (by kernel_rfl) (by kernel_rfl) (by kernel_rfl) (by kernel_rfl) rfl hf (by decide) rfl (wantU hf rfl rfl) ⟨_, hp⟩ ?_
          clear hf; intro a hf
          refine dr_out 32 rfl (by kernel_rfl) (by kernel_rfl) (by kernel_rfl) (by kernel_rfl) rfl hf (by decide) rfl (wantU hf rfl rfl) ⟨_, hp⟩ ?_
          clear hf; intro a hf
          refine dr_out 33 rfl (by kernel_rfl) (by kernel_rfl) (by kernel_rfl) (by kernel_rfl) rfl hf (by decide) rfl (wantU hf rfl rfl) ⟨_, hp⟩ ?_
          clear hf; intro a hf
          refine dr_out 34 rfl (by kernel_rfl) (by kernel_rfl) (by kernel_rfl) (by kernel_rfl) rfl hf (by decide) rfl (wantN hf rfl rfl hb44) ⟨_, hp⟩ ?_
          clear hf; intro a hf
          refine dr_take 35 (.bool z50) rfl (by kernel_rfl) (by kernel_rfl) (by kernel_rfl) (by kernel_rfl) rfl rfl hf (by decide) rfl (fun w hp => ?_) ⟨_, hp⟩ ?_
          · obtain ⟨_, hp⟩ := hp
            refine st_pick (v := .bool z50) hf rfl rfl (fun _ => by rw [← hz43]; rfl) (fun hb' => absurd (hb44.symm.trans hb') (by decide)) (by decide) ?_
            clear hf; intro a ha hf
            exact st_nil hf (th_n ⟨ha, rfl⟩)
          clear hf; intro a hf
          refine dr_end (by kernel_rfl) ?_ _
          have hp := bk39 _ _ hp
          have hp := bk34 _ _ hp
          exact ⟨hf.sub ⟨rfl, rfl, rfl, rfl, rfl, rfl, trivial⟩, hp⟩
        skip
        replace hz43 := ifF hz43 hb44
        obtain ⟨hc45, hz43⟩ := chk hz43
        obtain ⟨z49, hz46, hz43⟩ := bnd hz43
        replace hz43 := Option.some.inj hz43
        rcases Bool.eq_false_or_eq_true (decide ((0 : Int) ≤ (gt sx0c_3 i8).2.1)) with hb47 | hb47
        · skip
          replace hz46 := ifT hz46 hb47
          obtain ⟨hc48, hz46⟩ := chk hz46
          replace hz46 := Option.some.inj hz46
          refine dr_begin' (fun a w => Fr 105 a [(0, osx0), (1, .int .i64 now1), (6, v21), (7, .int .i64 q6), (8, .int .i64 i8), (80, .bool z50)] ∧ Hp S w0 w (Res.obj 53 osx0 [.int .i64 sx0c_0, .int .i64 sx0c_1, .int .i64 sx0c_2, v18] :: Res.sl (Ek.pair Ek.str (Ek.pair (Ek.int .i64) Ek.bool)) 83 v18 sx0c_3 :: Res.sl (Ek.pair (Ek.int .u8) (Ek.pair (Ek.int .u8) (Ek.pair Ek.bool Ek.str))) 31 v21 out6 :: ow)) (fun w' => ∃ l, Hp S35 w w' l) [] (by kernel_rfl) ?_
          refine dr_take 0 (osx0) rfl (by kernel_rfl) (by kernel_rfl) (by kernel_rfl) (by kernel_rfl) rfl rfl hf (by decide) rfl (fun w hp => ?_) ⟨_, hp⟩ ?_
          · obtain ⟨_, hp⟩ := hp
            refine st_move hf rfl rfl (by decide) ?_
            clear hf; intro a ha hf
            exact st_nil hf (th_n ⟨ha, rfl⟩)
          clear hf; intro a hf
          refine dr_nilV 1 rfl (by kernel_rfl) (by kernel_rfl) (by kernel_rfl) hf (by decide) rfl rfl (rl40.ob hp) ?_
          clear hf; intro a hf
          refine dr_take 2 (optr osx0 3) rfl (by kernel_rfl) (by kernel_rfl) (by kernel_rfl) (by kernel_rfl) rfl rfl hf (by decide) rfl (fun w hp => ?_) ⟨_, hp⟩ ?_
          · obtain ⟨_, hp⟩ := hp
            refine st_fa (o' := 3) hf (by decide) (off := 3) (sz := 1) (by kernel_rfl) (by decide) rfl rfl (rl40.ob hp) rfl ?_
            clear hf; intro a ha hf
            exact st_nil hf (th_n ⟨ha, rfl⟩)
          clear hf; intro a hf
          refine dr_take 3 (v18) rfl (by kernel_rfl) (by kernel_rfl) (by kernel_rfl) (by kernel_rfl) rfl rfl hf (by decide) rfl (fun w hp => ?_) ⟨_, hp⟩ ?_
          · obtain ⟨_, hp⟩ := hp
            refine st_ldO (u := v18) hf (by decide) pl51 rfl rfl (rl40.ob hp) rfl ?_
            clear hf; intro a ha hf
            exact st_nil hf (th_n ⟨ha, rfl⟩)
          clear hf; intro a hf
          refine dr_take 4 (.int .i64 i8) rfl (by kernel_rfl) (by kernel_rfl) (by kernel_rfl) (by kernel_rfl) rfl rfl hf (by decide) rfl (fun w hp => ?_) ⟨_, hp⟩ ?_
          · obtain ⟨_, hp⟩ := hp
            refine st_move hf rfl rfl (by decide) ?_
            clear hf; intro a ha hf
            exact st_nil hf (th_n ⟨ha, rfl⟩)
          clear hf; intro a hf
          refine dr_take 5 (eptr v18 i8 3) rfl (by kernel_rfl) (by kernel_rfl) (by kernel_rfl) (by kernel_rfl) rfl rfl hf (by decide) rfl (fun w hp => ?_) ⟨_, hp⟩ ?_
          · obtain ⟨_, hp⟩ := hp
            refine st_index (E := (Ek.pair Ek.str (Ek.pair (Ek.int .i64) Ek.bool))) hf (by decide) Try.underlying51 elt83 rfl rfl rfl (rl41.sl hp) hc42.1 hc42.2 ?_
            clear hf; intro a ha hf
            exact st_nil hf (th_n ⟨ha, rfl⟩)
          clear hf; intro a hf
          refine dr_take 6 (optr (eptr v18 i8 3) 2) rfl (by kernel_rfl) (by kernel_rfl) (by kernel_rfl) (by kernel_rfl) rfl rfl hf (by decide) rfl (fun w hp => ?_) ⟨_, hp⟩ ?_
          · obtain ⟨_, hp⟩ := hp
            refine st_faP (off := 2) (sz := 1) hf (by decide) (by kernel_rfl) (by decide) rfl rfl (Sl.isP (rl41.sl hp) hc42.1 hc42.2) ?_
            clear hf; intro a ha hf
            exact st_nil hf (th_n ⟨ha, rfl⟩)
          clear hf; intro a hf
          refine dr_take 7 (.bool ((gt sx0c_3 i8).2.2)) rfl (by kernel_rfl) (by kernel_rfl) (by kernel_rfl) (by kernel_rfl) rfl rfl hf (by decide) rfl (fun w hp => ?_) ⟨_, hp⟩ ?_
          · obtain ⟨_, hp⟩ := hp
            refine st_ldQ (F := Ek.bool) (yv := (gt sx0c_3 i8).2.2) hf (by decide) pl4 (fun x => .bool x) (fun _ _ h => h) rfl rfl (Sl.part (E := (Ek.pair Ek.str (Ek.pair (Ek.int .i64) Ek.bool))) (F := Ek.bool) (o := 2) (Sub.comp (Sub.snd (E := Ek.str) (F := (Ek.pair (Ek.int .i64) Ek.bool))) (Sub.snd (E := (Ek.int .i64)) (F := Ek.bool))) (rl41.sl hp) hc42.1 hc42.2) ?_
            clear hf; intro a ha hf
            exact st_nil hf (th_n ⟨ha, rfl⟩)
          clear hf; intro a hf
          refine dr_take 8 (.bool ((gt sx0c_3 i8).2.2)) rfl (by kernel_rfl) (by kernel_rfl) (by kernel_rfl) (by kernel_rfl) rfl rfl hf (by decide) rfl (fun w hp => ?_) ⟨_, hp⟩ ?_
          · obtain ⟨_, hp⟩ := hp
            refine st_move hf rfl rfl (by decide) ?_
            clear hf; intro a ha hf
            exact st_nil hf (th_n ⟨ha, rfl⟩)
          clear hf; intro a hf
          refine dr_take 9 (osx0) rfl (by kernel_rfl) (by kernel_rfl) (by kernel_rfl) (by kernel_rfl) rfl rfl hf (by decide) (wantY hf rfl rfl hb44) (fun w hp => ?_) ⟨_, hp⟩ ?_
          · obtain ⟨_, hp⟩ := hp
            refine st_move hf (wantY hf rfl rfl hb44) rfl (by decide) ?_
            clear hf; intro a ha hf
            exact st_nil hf (th_n ⟨ha, rfl⟩)
          clear hf; intro a hf
          refine dr_nilV 10 rfl (by kernel_rfl) (by kernel_rfl) (by kernel_rfl) hf (by decide) (wantY hf rfl rfl hb44) rfl (rl40.ob hp) ?_
          clear hf; intro a hf
          refine dr_take 11 (optr osx0 3) rfl (by kernel_rfl) (by kernel_rfl) (by kernel_rfl) (by kernel_rfl) rfl rfl hf (by decide) (wantY hf rfl rfl hb44) (fun w hp => ?_) ⟨_, hp⟩ ?_
          · obtain ⟨_, hp⟩ := hp
            refine st_fa (o' := 3) hf (by decide) (off := 3) (sz := 1) (by kernel_rfl) (by decide) (wantY hf rfl rfl hb44) rfl (rl40.ob hp) rfl ?_
            clear hf; intro a ha hf
            exact st_nil hf (th_n ⟨ha, rfl⟩)
          clear hf; intro a hf
          refine dr_take 12 (v18) rfl (by kernel_rfl) (by kernel_rfl) (by kernel_rfl) (by kernel_rfl) rfl rfl hf (by decide) (wantY hf rfl rfl hb44) (fun w hp => ?_) ⟨_, hp⟩ ?_
          · obtain ⟨_, hp⟩ := hp
            refine st_ldO (u := v18) hf (by decide) pl51 (wantY hf rfl rfl hb44) rfl (rl40.ob hp) rfl ?_
            clear hf; intro a ha hf
            exact st_nil hf (th_n ⟨ha, rfl⟩)
          clear hf; intro a hf
          refine dr_take 13 (.int .i64 i8) rfl (by kernel_rfl) (by kernel_rfl) (by kernel_rfl) (by kernel_rfl) rfl rfl hf (by decide) (wantY hf rfl rfl hb44) (fun w hp => ?_) ⟨_, hp⟩ ?_
          · obtain ⟨_, hp⟩ := hp
            refine st_move hf (wantY hf rfl rfl hb44) rfl (by decide) ?_
            clear hf; intro a ha hf
            exact st_nil hf (th_n ⟨ha, rfl⟩)
          clear hf; intro a hf
          refine dr_take 14 (eptr v18 i8 3) rfl (by kernel_rfl) (by kernel_rfl) (by kernel_rfl) (by kernel_rfl) rfl rfl hf (by decide) (wantY hf rfl rfl hb44) (fun w hp => ?_) ⟨_, hp⟩ ?_
          · obtain ⟨_, hp⟩ := hp
            refine st_index (E := (Ek.pair Ek.str (Ek.pair (Ek.int .i64) Ek.bool))) hf (by decide) Try.underlying51 elt83 (wantY hf rfl rfl hb44) rfl rfl (rl41.sl hp) hc45.1 hc45.2 ?_
            clear hf; intro a ha hf
            exact st_nil hf (th_n ⟨ha, rfl⟩)
          clear hf; intro a hf
          refine dr_take 15 (optr (eptr v18 i8 3) 1) rfl (by kernel_rfl) (by kernel_rfl) (by kernel_rfl) (by kernel_rfl) rfl rfl hf (by decide) (wantY hf rfl rfl hb44) (fun w hp => ?_) ⟨_, hp⟩ ?_
          · obtain ⟨_, hp⟩ := hp
            refine st_faP (off := 1) (sz := 1) hf (by decide) (by kernel_rfl) (by decide) (wantY hf rfl rfl hb44) rfl (Sl.isP (rl41.sl hp) hc45.1 hc45.2) ?_
            clear hf; intro a ha hf
            exact st_nil hf (th_n ⟨ha, rfl⟩)
          clear hf; intro a hf
          refine dr_take 16 (.int .i64 ((gt sx0c_3 i8).2.1)) rfl (by kernel_rfl) (by kernel_rfl) (by kernel_rfl) (by kernel_rfl) rfl rfl hf (by decide) (wantY hf rfl rfl hb44) (fun w hp => ?_) ⟨_, hp⟩ ?_
          · obtain ⟨_, hp⟩ := hp
            refine st_ldQ (F := (Ek.int .i64)) (yv := (gt sx0c_3 i8).2.1) hf (by decide) pl2 (fun x => .int .i64 x) (fun _ _ h => h) (wantY hf rfl rfl hb44) rfl (Sl.part (E := (Ek.pair Ek.str (Ek.pair (Ek.int .i64) Ek.bool))) (F := (Ek.int .i64)) (o := 1) (Sub.comp (Sub.snd (E := Ek.str) (F := (Ek.pair (Ek.int .i64) Ek.bool))) (Sub.fst (E := (Ek.int .i64)) (F := Ek.bool))) (rl41.sl hp) hc45.1 hc45.2) ?_
            clear hf; intro a ha hf
            exact st_nil hf (th_n ⟨ha, rfl⟩)
          clear hf; intro a hf
          refine dr_take 17 (.bool (decide ((0 : Int) ≤ (gt sx0c_3 i8).2.1))) rfl (by kernel_rfl) (by kernel_rfl) (by kernel_rfl) (by kernel_rfl) rfl rfl hf (by decide) (wantY hf rfl rfl hb44) (fun w hp => ?_) ⟨_, hp⟩ ?_
          · obtain ⟨_, hp⟩ := hp
            refine st_igeq hf (by decide) (wantY hf rfl rfl hb44) rfl rfl ?_
            clear hf; intro a ha hf
            exact st_nil hf (th_n ⟨ha, rfl⟩)
          clear hf; intro a hf
          refine dr_take 18 (.bool (decide ((0 : Int) ≤ (gt sx0c_3 i8).2.1))) rfl (by kernel_rfl) (by kernel_rfl) (by kernel_rfl) (by kernel_rfl) rfl rfl hf (by decide) (wantY hf rfl rfl hb44) (fun w hp => ?_) ⟨_, hp⟩ ?_
          · obtain ⟨_, hp⟩ := hp
            refine st_move hf (wantY hf rfl rfl hb44) rfl (by decide) ?_
            clear hf; intro a ha hf
            exact st_nil hf (th_n ⟨ha, rfl⟩)
          clear hf; intro a hf
          refine dr_take 19 (.int .i64 now1) rfl (by kernel_rfl) (by kernel_rfl) (by kernel_rfl) (by kernel_rfl) rfl rfl hf (by decide) (wantY hf rfl rfl hb47) (fun w hp => ?_) ⟨_, hp⟩ ?_
          · obtain ⟨_, hp⟩ := hp
            refine st_move hf (wantY hf rfl rfl hb47) rfl (by decide) ?_
            clear hf; intro a ha hf
            exact st_nil hf (th_n ⟨ha, rfl⟩)
          clear hf; intro a hf
          refine dr_take 20 (osx0) rfl (by kernel_rfl) (by kernel_rfl) (by kernel_rfl) (by kernel_rfl) rfl rfl hf (by decide) (wantY hf rfl rfl hb47) (fun w hp => ?_) ⟨_, hp⟩ ?_
          · obtain ⟨_, hp⟩ := hp
            refine st_move hf (wantY hf rfl rfl hb47) rfl (by decide) ?_
            clear hf; intro a ha hf
            exact st_nil hf (th_n ⟨ha, rfl⟩)
          clear hf; intro a hf
          refine dr_nilV 21 rfl (by kernel_rfl) (by kernel_rfl) (by kernel_rfl) hf (by decide) (wantY hf rfl rfl hb47) rfl (rl40.ob hp) ?_
          clear hf; intro a hf
          refine dr_take 22 (optr osx0 3) rfl (by kernel_rfl) (by kernel_rfl) (by kernel_rfl) (by kernel_rfl) rfl rfl hf (by decide) (wantY hf rfl rfl hb47) (fun w hp => ?_) ⟨_, hp⟩ ?_
          · obtain ⟨_, hp⟩ := hp
            refine st_fa (o' := 3) hf (by decide) (off := 3) (sz := 1) (by kernel_rfl) (by decide) (wantY hf rfl rfl hb47) rfl (rl40.ob hp) rfl ?_
            clear hf; intro a ha hf
            exact st_nil hf (th_n ⟨ha, rfl⟩)
          clear hf; intro a hf
          refine dr_take 23 (v18) rfl (by kernel_rfl) (by kernel_rfl) (by kernel_rfl) (by kernel_rfl) rfl rfl hf (by decide) (wantY hf rfl rfl hb47) (fun w hp => ?_) ⟨_, hp⟩ ?_
          · obtain ⟨_, hp⟩ := hp
            refine st_ldO (u := v18) hf (by decide) pl51 (wantY hf rfl rfl hb47) rfl (rl40.ob hp) rfl ?_
            clear hf; intro a ha hf
            exact st_nil hf (th_n ⟨ha, rfl⟩)
          clear hf; intro a hf
          refine dr_take 24 (.int .i64 i8) rfl (by kernel_rfl) (by kernel_rfl) (by kernel_rfl) (by kernel_rfl) rfl rfl hf (by decide) (wantY hf rfl rfl hb47) (fun w hp => ?_) ⟨_, hp⟩ ?_
          · obtain ⟨_, hp⟩ := hp
            refine st_move hf (wantY hf rfl rfl hb47) rfl (by decide) ?_
            clear hf; intro a ha hf
            exact st_nil hf (th_n ⟨ha, rfl⟩)
          clear hf; intro a hf
          refine dr_take 25 (eptr v18 i8 3) rfl (by kernel_rfl) (by kernel_rfl) (by kernel_rfl) (by kernel_rfl) rfl rfl hf (by decide) (wantY hf rfl rfl hb47) (fun w hp => ?_) ⟨_, hp⟩ ?_
          · obtain ⟨_, hp⟩ := hp
            refine st_index (E := (Ek.pair Ek.str (Ek.pair (Ek.int .i64) Ek.bool))) hf (by decide) Try.underlying51 elt83 (wantY hf rfl rfl hb47) rfl rfl (rl41.sl hp) hc48.1 hc48.2 ?_
            clear hf; intro a ha hf
            exact st_nil hf (th_n ⟨ha, rfl⟩)
          clear hf; intro a hf
          refine dr_take 26 (optr (eptr v18 i8 3) 1) rfl (by kernel_rfl) (by kernel_rfl) (by kernel_rfl) (by kernel_rfl) rfl rfl hf (by decide) (wantY hf rfl rfl hb47) (fun w hp => ?_) ⟨_, hp⟩ ?_
          · obtain ⟨_, hp⟩ := hp
            refine st_faP (off := 1) (sz := 1) hf (by decide) (by kernel_rfl) (by decide) (wantY hf rfl rfl hb47) rfl (Sl.isP (rl41.sl hp) hc48.1 hc48.2) ?_
            clear hf; intro a ha hf
            exact st_nil hf (th_n ⟨ha, rfl⟩)
          clear hf; intro a hf
          refine dr_take 27 (.int .i64 ((gt sx0c_3 i8).2.1)) rfl (by kernel_rfl) (by kernel_rfl) (by kernel_rfl) (by kernel_rfl) rfl rfl hf (by decide) (wantY hf rfl rfl hb47) (fun w hp => ?_) ⟨_, hp⟩ ?_
          · obtain ⟨_, hp⟩ := hp
            refine st_ldQ (F := (Ek.int .i64)) (yv := (gt sx0c_3 i8).2.1) hf (by decide) pl2 (fun x => .int .i64 x) (fun _ _ h => h) (wantY hf rfl rfl hb47) rfl (Sl.part (E := (Ek.pair Ek.str (Ek.pair (Ek.int .i64) Ek.bool))) (F := (Ek.int .i64)) (o := 1) (Sub.comp (Sub.snd (E := Ek.str) (F := (Ek.pair (Ek.int .i64) Ek.bool))) (Sub.fst (E := (Ek.int .i64)) (F := Ek.bool))) (rl41.sl hp) hc48.1 hc48.2) ?_
            clear hf; intro a ha hf
            exact st_nil hf (th_n ⟨ha, rfl⟩)
          clear hf; intro a hf
          refine dr_take 28 (.int .i64 (IntKind.i64.wrap (now1 - (gt sx0c_3 i8).2.1))) rfl (by kernel_rfl) (by kernel_rfl) (by kernel_rfl) (by kernel_rfl) rfl rfl hf (by decide) (wantY hf rfl rfl hb47) (fun w hp => ?_) ⟨_, hp⟩ ?_
          · obtain ⟨_, hp⟩ := hp
            refine st_isub hf (by decide) (wantY hf rfl rfl hb47) rfl rfl ?_
            clear hf; intro a ha hf
            exact st_nil hf (th_n ⟨ha, rfl⟩)
          clear hf; intro a hf
          refine dr_take 29 (osx0) rfl (by kernel_rfl) (by kernel_rfl) (by kernel_rfl) (by kernel_rfl) rfl rfl hf (by decide) (wantY hf rfl rfl hb47) (fun w hp => ?_) ⟨_, hp⟩ ?_
          · obtain ⟨_, hp⟩ := hp
            refine st_move hf (wantY hf rfl rfl hb47) rfl (by decide) ?_
            clear hf; intro a ha hf
            exact st_nil hf (th_n ⟨ha, rfl⟩)
          clear hf; intro a hf
          refine dr_nilV 30 rfl (by kernel_rfl) (by kernel_rfl) (by kernel_rfl) hf (by decide) (wantY hf rfl rfl hb47) rfl (rl40.ob hp) ?_
          clear hf; intro a hf
          refine dr_take 31 (optr osx0 1) rfl (by kernel_rfl) (by kernel_rfl) (by kernel_rfl) (by kernel_rfl) rfl rfl hf (by decide) (wantY hf rfl rfl hb47) (fun w hp => ?_) ⟨_, hp⟩ ?_
          · obtain ⟨_, hp⟩ := hp
            refine st_fa (o' := 1) hf (by decide) (off := 1) (sz := 1) (by kernel_rfl) (by decide) (wantY hf rfl rfl hb47) rfl (rl40.ob hp) rfl ?_
            clear hf; intro a ha hf
            exact st_nil hf (th_n ⟨ha, rfl⟩)
          clear hf; intro a hf
          refine dr_take 32 (.int .i64 sx0c_1) rfl (by kernel_rfl) (by kernel_rfl) (by kernel_rfl) (by kernel_rfl) rfl rfl hf (by decide) (wantY hf rfl rfl hb47) (fun w hp => ?_) ⟨_, hp⟩ ?_
          · obtain ⟨_, hp⟩ := hp
            refine st_ldO (u := .int .i64 sx0c_1) hf (by decide) pl2 (wantY hf rfl rfl hb47) rfl (rl40.ob hp) rfl ?_
            clear hf; intro a ha hf
            exact st_nil hf (th_n ⟨ha, rfl⟩)
          clear hf; intro a hf
          refine dr_take 33 (.bool (decide ((IntKind.i64.wrap (now1 - (gt sx0c_3 i8).2.1)) < sx0c_1))) rfl (by kernel_rfl) (by kernel_rfl) (by kernel_rfl) (by kernel_rfl) rfl rfl hf (by decide) (wantY hf rfl rfl hb47) (fun w hp => ?_) ⟨_, hp⟩ ?_
          · obtain ⟨_, hp⟩ := hp
            refine st_ilss hf (by decide) (wantY hf rfl rfl hb47) rfl rfl ?_
            clear hf; intro a ha hf
            exact st_nil hf (th_n ⟨ha, rfl⟩)
          clear hf; intro a hf
          refine dr_take 34 (.bool z49) rfl (by kernel_rfl) (by kernel_rfl) (by kernel_rfl) (by kernel_rfl) rfl rfl hf (by decide) (wantY hf rfl rfl hb44) (fun w hp => ?_) ⟨_, hp⟩ ?_
          · obtain ⟨_, hp⟩ := hp
            refine st_pick (v := .bool z49) hf (wantY hf rfl rfl hb44) rfl (fun _ => by rw [← hz46]; rfl) (fun hb' => absurd (hb47.symm.trans hb') (by decide)) (by decide) ?_
            clear hf; intro a ha hf
            exact st_nil hf (th_n ⟨ha, rfl⟩)
          clear hf; intro a hf
          refine dr_take 35 (.bool z50) rfl (by kernel_rfl) (by kernel_rfl) (by kernel_rfl) (by kernel_rfl) rfl rfl hf (by decide) rfl (fun w hp => ?_) ⟨_, hp⟩ ?_
          · obtain ⟨_, hp⟩ := hp
            refine st_pick (v := .bool z50) hf rfl rfl (fun hb' => absurd (hb44.symm.trans hb') (by decide)) (fun _ => by rw [← hz43]; rfl) (by decide) ?_
            clear hf; intro a ha hf
            exact st_nil hf (th_n ⟨ha, rfl⟩)
          clear hf; intro a hf
          refine dr_end (by kernel_rfl) ?_ _
          have hp := bk39 _ _ hp
          have hp := bk34 _ _ hp
          exact ⟨hf.sub ⟨rfl, rfl, rfl, rfl, rfl, rfl, trivial⟩, hp⟩
        skip
        replace hz46 := ifF hz46 hb47
        replace hz46 := Option.some.inj hz46
        refine dr_begin' (fun a w => Fr 105 a [(0, osx0), (1, .int .i64 now1), (6, v21), (7, .int .i64 q6), (8, .int .i64 i8), (80, .bool z50)] ∧ Hp S w0 w (Res.obj 53 osx0 [.int .i64 sx0c_0, .int .i64 sx0c_1, .int .i64 sx0c_2, v18] :: Res.sl (Ek.pair Ek.str (Ek.pair (Ek.int .i64) Ek.bool)) 83 v18 sx0c_3 :: Res.sl (Ek.pair (Ek.int .u8) (Ek.pair (Ek.int .u8) (Ek.pair Ek.bool Ek.str))) 31 v21 out6 :: ow)) (fun w' => ∃ l, Hp S35 w w' l) [] (by kernel_rfl) ?_
        refine dr_take 0 (osx0) rfl (by kernel_rfl) (by kernel_rfl) (by kernel_rfl) (by kernel_rfl) rfl rfl hf (by decide) rfl (fun w hp => ?_) ⟨_, hp⟩ ?_
        · obtain ⟨_, hp⟩ := hp
          refine st_move hf rfl rfl (by decide) ?_
          clear hf; intro a ha hf
          exact st_nil hf (th_n ⟨ha, rfl⟩)
        clear hf; intro a hf
        refine dr_nilV 1 rfl (by kernel_rfl) (by kernel_rfl) (by kernel_rfl) hf (by decide) rfl rfl (rl40.ob hp) ?_
        clear hf; intro a hf
        refine dr_take 2 (optr osx0 3) rfl (by kernel_rfl) (by kernel_rfl) (by kernel_rfl) (by kernel_rfl) rfl rfl hf (by decide) rfl (fun w hp => ?_) ⟨_, hp⟩ ?_
        · obtain ⟨_, hp⟩ := hp
          refine st_fa (o' := 3) hf (by decide) (off := 3) (sz := 1) (by kernel_rfl) (by decide) rfl rfl (rl40.ob hp) rfl ?_
          clear hf; intro a ha hf
          exact st_nil hf (th_n ⟨ha, rfl⟩)
        clear hf; intro a hf
        refine dr_take 3 (v18) rfl (by kernel_rfl) (by kernel_rfl) (by kernel_rfl) (by kernel_rfl) rfl rfl hf (by decide) rfl (fun w hp => ?_) ⟨_, hp⟩ ?_
        · obtain ⟨_, hp⟩ := hp
          refine st_ldO (u := v18) hf (by decide) pl51 rfl rfl (rl40.ob hp) rfl ?_
          clear hf; intro a ha hf
          exact st_nil hf (th_n ⟨ha, rfl⟩)
        clear hf; intro a hf
        refine dr_take 4 (.int .i64 i8) rfl (by kernel_rfl) (by kernel_rfl) (by kernel_rfl) (by kernel_rfl) rfl rfl hf (by decide) rfl (fun w hp => ?_) ⟨_, hp⟩ ?_
        · obtain ⟨_, hp⟩ := hp
          refine st_move hf rfl rfl (by decide) ?_
          clear hf; intro a ha hf
          exact st_nil hf (th_n ⟨ha, rfl⟩)
        clear hf; intro a hf
        refine dr_take 5 (eptr v18 i8 3) rfl (by kernel_rfl) (by kernel_rfl) (by kernel_rfl) (by kernel_rfl) rfl rfl hf (by decide) rfl (fun w hp => ?_) ⟨_, hp⟩ ?_
        · obtain ⟨_, hp⟩ := hp
          refine st_index (E := (Ek.pair Ek.str (Ek.pair (Ek.int .i64) Ek.bool))) hf (by decide) Try.underlying51 elt83 rfl rfl rfl (rl41.sl hp) hc42.1 hc42.2 ?_
          clear hf; intro a ha hf
          exact st_nil hf (th_n ⟨ha, rfl⟩)
        clear hf; intro a hf
        refine dr_take 6 (optr (eptr v18 i8 3) 2) rfl (by kernel_rfl) (by kernel_rfl) (by kernel_rfl) (by kernel_rfl) rfl rfl hf (by decide) rfl (fun w hp => ?_) ⟨_, hp⟩ ?_
        · obtain ⟨_, hp⟩ := hp
          refine st_faP (off := 2) (sz := 1) hf (by decide) (by kernel_rfl) (by decide) rfl rfl (Sl.isP (rl41.sl hp) hc42.1 hc42.2) ?_
          clear hf; intro a ha hf
          exact st_nil hf (th_n ⟨ha, rfl⟩)
        clear hf; intro a hf
        refine dr_take 7 (.bool ((gt sx0c_3 i8).2.2)) rfl (by kernel_rfl) (by kernel_rfl) (by kernel_rfl) (by kernel_rfl) rfl rfl hf (by decide) rfl (fun w hp => ?_) ⟨_, hp⟩ ?_
        · obtain ⟨_, hp⟩ := hp
          refine st_ldQ (F := Ek.bool) (yv := (gt sx0c_3 i8).2.2) hf (by decide) pl4 (fun x => .bool x) (fun _ _ h => h) rfl rfl (Sl.part (E := (Ek.pair Ek.str (Ek.pair (Ek.int .i64) Ek.bool))) (F := Ek.bool) (o := 2) (Sub.comp (Sub.snd (E := Ek.str) (F := (Ek.pair (Ek.int .i64) Ek.bool))) (Sub.snd (E := (Ek.int .i64)) (F := Ek.bool))) (rl41.sl hp) hc42.1 hc42.2) ?_
          clear hf; intro a ha hf
          exact st_nil hf (th_n ⟨ha, rfl⟩)
        clear hf; intro a hf
        refine dr_take 8 (.bool ((gt sx0c_3 i8).2.2)) rfl (by kernel_rfl) (by kernel_rfl) (by kernel_rfl) (by kernel_rfl) rfl rfl hf (by decide) rfl (fun w hp => ?_) ⟨_, hp⟩ ?_
        · obtain ⟨_, hp⟩ := hp
          refine st_move hf rfl rfl (by decide) ?_
          clear hf; intro a ha hf
          exact st_nil hf (th_n ⟨ha, rfl⟩)
        clear hf; intro a hf
        refine dr_take 9 (osx0) rfl (by kernel_rfl) (by kernel_rfl) (by kernel_rfl) (by kernel_rfl) rfl rfl hf (by decide) (wantY hf rfl rfl hb44) (fun w hp => ?_) ⟨_, hp⟩ ?_
        · obtain ⟨_, hp⟩ := hp
          refine st_move hf (wantY hf rfl rfl hb44) rfl (by decide) ?_
          clear hf; intro a ha hf
          exact st_nil hf (th_n ⟨ha, rfl⟩)
        clear hf; intro a hf
        refine dr_nilV 10 rfl (by kernel_rfl) (by kernel_rfl) (by kernel_rfl) hf (by decide) (wantY hf rfl rfl hb44) rfl (rl40.ob hp) ?_
        clear hf; intro a hf
        refine dr_take 11 (optr osx0 3) rfl (by kernel_rfl) (by kernel_rfl) (by kernel_rfl) (by kernel_rfl) rfl rfl hf (by decide) (wantY hf rfl rfl hb44) (fun w hp => ?_) ⟨_, hp⟩ ?_
        · obtain ⟨_, hp⟩ := hp
          refine st_fa (o' := 3) hf (by decide) (off := 3) (sz := 1) (by kernel_rfl) (by decide) (wantY hf rfl rfl hb44) rfl (rl40.ob hp) rfl ?_
          clear hf; intro a ha hf
          exact st_nil hf (th_n ⟨ha, rfl⟩)
        clear hf; intro a hf
        refine dr_take 12 (v18) rfl (by kernel_rfl) (by kernel_rfl) (by kernel_rfl) (by kernel_rfl) rfl rfl hf (by decide) (wantY hf rfl rfl hb44) (fun w hp => ?_) ⟨_, hp⟩ ?_
        · obtain ⟨_, hp⟩ := hp
          refine st_ldO (u := v18) hf (by decide) pl51 (wantY hf rfl rfl hb44) rfl (rl40.ob hp) rfl ?_
          clear hf; intro a ha hf
          exact st_nil hf (th_n ⟨ha, rfl⟩)
        clear hf; intro a hf
        refine dr_take 13 (.int .i64 i8) rfl (by kernel_rfl) (by kernel_rfl) (by kernel_rfl) (by kernel_rfl) rfl rfl hf (by decide) (wantY hf rfl rfl hb44) (fun w hp => ?_) ⟨_, hp⟩ ?_
        · obtain ⟨_, hp⟩ := hp
          refine st_move hf (wantY hf rfl rfl hb44) rfl (by decide) ?_
          clear hf; intro a ha hf
          exact st_nil hf (th_n ⟨ha, rfl⟩)
        clear hf; intro a hf
        refine dr_take 14 (eptr v18 i8 3) rfl (by kernel_rfl) (by kernel_rfl) (by kernel_rfl) (by kernel_rfl) rfl rfl hf (by decide) (wantY hf rfl rfl hb44) (fun w hp => ?_) ⟨_, hp⟩ ?_
        · obtain ⟨_, hp⟩ := hp
          refine st_index (E := (Ek.pair Ek.str (Ek.pair (Ek.int .i64) Ek.bool))) hf (by decide) Try.underlying51 elt83 (wantY hf rfl rfl hb44) rfl rfl (rl41.sl hp) hc45.1 hc45.2 ?_
          clear hf; intro a ha hf
          exact st_nil hf (th_n ⟨ha, rfl⟩)
        clear hf; intro a hf
        refine dr_take 15 (optr (eptr v18 i8 3) 1) rfl (by kernel_rfl) (by kernel_rfl) (by kernel_rfl) (by kernel_rfl) rfl rfl hf (by decide) (wantY hf rfl rfl hb44) (fun w hp => ?_) ⟨_, hp⟩ ?_
        · obtain ⟨_, hp⟩ := hp
          refine st_faP (off := 1) (sz := 1) hf (by decide) (by kernel_rfl) (by decide) (wantY hf rfl rfl hb44) rfl (Sl.isP (rl41.sl hp) hc45.1 hc45.2) ?_
          clear hf; intro a ha hf
          exact st_nil hf (th_n ⟨ha, rfl⟩)
        clear hf; intro a hf
        refine dr_take 16 (.int .i64 ((gt sx0c_3 i8).2.1)) rfl (by kernel_rfl) (by kernel_rfl) (by kernel_rfl) (by kernel_rfl) rfl rfl hf (by decide) (wantY hf rfl rfl hb44) (fun w hp => ?_) ⟨_, hp⟩ ?_
        · obtain ⟨_, hp⟩ := hp
          refine st_ldQ (F := (Ek.int .i64)) (yv := (gt sx0c_3 i8).2.1) hf (by decide) pl2 (fun x => .int .i64 x) (fun _ _ h => h) (wantY hf rfl rfl hb44) rfl (Sl.part (E := (Ek.pair Ek.str (Ek.pair (Ek.int .i64) Ek.bool))) (F := (Ek.int .i64)) (o := 1) (Sub.comp (Sub.snd (E := Ek.str) (F := (Ek.pair (Ek.int .i64) Ek.bool))) (Sub.fst (E := (Ek.int .i64)) (F := Ek.bool))) (rl41.sl hp) hc45.1 hc45.2) ?_
          clear hf; intro a ha hf
          exact st_nil hf (th_n ⟨ha, rfl⟩)
        clear hf; intro a hf
        refine dr_take 17 (.bool (decide ((0 : Int) ≤ (gt sx0c_3 i8).2.1))) rfl (by kernel_rfl) (by kernel_rfl) (by kernel_rfl) (by kernel_rfl) rfl rfl hf (by decide) (wantY hf rfl rfl hb44) (fun w hp => ?_) ⟨_, hp⟩ ?_
        · obtain ⟨_, hp⟩ := hp
          refine st_igeq hf (by decide) (wantY hf rfl rfl hb44) rfl rfl ?_
          clear hf; intro a ha hf
          exact st_nil hf (th_n ⟨ha, rfl⟩)
        clear hf; intro a hf
        refine dr_take 18 (.bool (decide ((0 : Int) ≤ (gt sx0c_3 i8).2.1))) rfl (by kernel_rfl) (by kernel_rfl) (by kernel_rfl) (by kernel_rfl) rfl rfl hf (by decide) (wantY hf rfl rfl hb44) (fun w hp => ?_) ⟨_, hp⟩ ?_
        · obtain ⟨_, hp⟩ := hp
          refine st_move hf (wantY hf rfl rfl hb44) rfl (by decide) ?_
          clear hf; intro a ha hf
          exact st_nil hf (th_n ⟨ha, rfl⟩)
        clear hf; intro a hf
        refine dr_out 19 rfl (by kernel_rfl) (by kernel_rfl) (by kernel_rfl) (by kernel_rfl) rfl hf (by decide) rfl (wantN hf rfl rfl hb47) ⟨_, hp⟩ ?_
        clear hf; intro a hf
        refine dr_out 20 rfl (by kernel_rfl) (by kernel_rfl) (by kernel_rfl) (by kernel_rfl) rfl hf (by decide) rfl (wantN hf rfl rfl hb47) ⟨_, hp⟩ ?_
        clear hf; intro a hf
        refine dr_outP 21 rfl (by kernel_rfl) (by kernel_rfl) (by kernel_rfl) rfl hf (by decide) (wantN hf rfl rfl hb47) ?_
        clear hf; intro a hf
        refine dr_out 22 rfl (by kernel_rfl) (by kernel_rfl) (by kernel_rfl) (by kernel_rfl) rfl hf (by decide) rfl (wantN hf rfl rfl hb47) ⟨_, hp⟩ ?_
        clear hf; intro a hf
        refine dr_out 23 rfl (by kernel_rfl) (by kernel_rfl) (by kernel_rfl) (by kernel_rfl) rfl hf (by decide) rfl (wantN hf rfl rfl hb47) ⟨_, hp⟩ ?_
        clear hf; intro a hf
        refine dr_out 24 rfl (by kernel_rfl) (by kernel_rfl) (by kernel_rfl) (by kernel_rfl) rfl hf (by decide) rfl (wantN hf rfl rfl hb47) ⟨_, hp⟩ ?_
        clear hf; intro a hf
        refine dr_out 25 rfl (by kernel_rfl) (by kernel_rfl) (by kernel_rfl) (by kernel_rfl) rfl hf (by decide) rfl (wantN hf rfl rfl hb47) ⟨_, hp⟩ ?_
        clear hf; intro a hf
        refine dr_out 26 rfl (by kernel_rfl) (by kernel_rfl) (by kernel_rfl) (by kernel_rfl) rfl hf (by decide) rfl (wantN hf rfl rfl hb47) ⟨_, hp⟩ ?_
        clear hf; intro a hf
        refine dr_out 27 rfl (by kernel_rfl) (by kernel_rfl) (by kernel_rfl) (by kernel_rfl) rfl hf (by decide) rfl (wantN hf rfl rfl hb47) ⟨_, hp⟩ ?_
        clear hf; intro a hf
        refine dr_out 28 rfl (by kernel_rfl) (by kernel_rfl) (by kernel_rfl) (by kernel_rfl) rfl hf (by decide) rfl (wantN hf rfl rfl hb47) ⟨_, hp⟩ ?_
        clear hf; intro a hf
        refine dr_out 29 rfl (by kernel_rfl) (by kernel_rfl) (by kernel_rfl) (by kernel_rfl) rfl hf (by decide) rfl (wantN hf rfl rfl hb47) ⟨_, hp⟩ ?_
        clear hf; intro a hf
        refine dr_outP 30 rfl (by kernel_rfl) (by kernel_rfl) (by kernel_rfl) rfl hf (by decide) (wantN hf rfl rfl hb47) ?_
        clear hf; intro a hf
        refine dr_out 31 rfl (by kernel_rfl) (by kernel_rfl) (by kernel_rfl) (by kernel_rfl) rfl hf (by decide) rfl (wantN hf rfl rfl hb47) ⟨_, hp⟩ ?_
        clear hf; intro a hf
        refine dr_out 32 rfl (by kernel_rfl) (by kernel_rfl) (by kernel_rfl) (by kernel_rfl) rfl hf (by decide) rfl (wantN hf rfl rfl hb47) ⟨_, hp⟩ ?_
        clear hf; intro a hf
        refine dr_out 33 rfl (by kernel_rfl) (by kernel_rfl) (by kernel_rfl) (by kernel_rfl) rfl hf (by decide) rfl (wantN hf rfl rfl hb47) ⟨_, hp⟩ ?_
        clear hf; intro a hf
        refine dr_take 34 (.bool z49) rfl (by kernel_rfl) (by kernel_rfl) (by kernel_rfl) (by kernel_rfl) rfl rfl hf (by decide) (wantY hf rfl rfl hb44) (fun w hp => ?_) ⟨_, hp⟩ ?_
        · obtain ⟨_, hp⟩ := hp
          refine st_pick (v := .bool z49) hf (wantY hf rfl rfl hb44) rfl (fun hb' => absurd (hb47.symm.trans hb') (by decide)) (fun _ => by rw [← hz46]; rfl) (by decide) ?_
          clear hf; intro a ha hf
          exact st_nil hf (th_n ⟨ha, rfl⟩)
        clear hf; intro a hf
        refine dr_take 35 (.bool z50) rfl (by kernel_rfl) (by kernel_rfl) (by kernel_rfl) (by kernel_rfl) rfl rfl hf (by decide) rfl (fun w hp => ?_) ⟨_, hp⟩ ?_
        · obtain ⟨_, hp⟩ := hp
          refine st_pick (v := .bool z50) hf rfl rfl (fun hb' => absurd (hb44.symm.trans hb') (by decide)) (fun _ => by rw [← hz43]; rfl) (by decide) ?_
          clear hf; intro a ha hf
          exact st_nil hf (th_n ⟨ha, rfl⟩)
        clear hf; intro a hf
        refine dr_end (by kernel_rfl) ?_ _
        have hp := bk39 _ _ hp
        have hp := bk34 _ _ hp
        exact ⟨hf.sub ⟨rfl, rfl, rfl, rfl, rfl, rfl, trivial⟩, hp⟩
      rintro a w ⟨hf, hp⟩
      refine th_n ?_
      refine wp_if hf rfl (fun hb => ?_) (fun hb => ?_)
      · replace h := ifT h hb
        refine wp_exit ?_
        refine th_e ?_
        refine ib_same ?_
        refine th_n ?_
        refine wp_reg ?_
        refine st_move hf rfl rfl (by decide) ?_
        clear hf; intro a ha hf; clear ha
        refine st_iadd hf (by decide) rfl rfl rfl ?_
        clear hf; intro a ha hf; clear ha
        refine st_assign hf rfl rfl (by decide) ?_
        clear hf; intro a ha hf; clear ha
        refine st_nil hf ?_
        obtain rfl := Option.some.inj h
        have hp : Hp _ _ _ (Res.sl (Ek.pair Ek.str (Ek.pair (Ek.int .i64) Ek.bool)) 83 v18 sx0c_3 :: Res.obj 53 osx0 [.int .i64 sx0c_0, .int .i64 sx0c_1, .int .i64 sx0c_2, v18] :: Res.sl (Ek.pair (Ek.int .u8) (Ek.pair (Ek.int .u8) (Ek.pair Ek.bool Ek.str))) 31 v21 out6 :: ow) := Hp.sel (pre := [Res.obj 53 osx0 [.int .i64 sx0c_0, .int .i64 sx0c_1, .int .i64 sx0c_2, v18], Res.sl (Ek.pair Ek.str (Ek.pair (Ek.int .i64) Ek.bool)) 83 v18 sx0c_3, Res.sl (Ek.pair (Ek.int .u8) (Ek.pair (Ek.int .u8) (Ek.pair Ek.bool Ek.str))) 31 v21 out6]) (tail := ow) (rs' := [Res.sl (Ek.pair Ek.str (Ek.pair (Ek.int .i64) Ek.bool)) 83 v18 sx0c_3, Res.obj 53 osx0 [.int .i64 sx0c_0, .int .i64 sx0c_1, .int .i64 sx0c_2, v18], Res.sl (Ek.pair (Ek.int .u8) (Ek.pair (Ek.int .u8) (Ek.pair Ek.bool Ek.str))) 31 v21 out6]) hp [1, 0, 2] (by decide) (by simp) rfl
        exact rnd_l ⟨_, _, hf.sub ⟨rfl, rfl, rfl, rfl, rfl, trivial⟩, hp⟩
      replace h := ifF h hb
      refine wp_skip ?_
      refine th_n ?_
      refine wp_seq ?_
      refine wp_reg ?_
      refine st_move hf rfl rfl (by decide) ?_
      clear hf; intro a ha hf; clear ha
      refine st_nilV hf (by decide) rfl rfl (hp.ob (i := 0) rfl) ?_
      clear hf; intro a ha hf; clear ha
      refine st_fa (o' := 3) hf (by decide) (off := 3) (sz := 1) (by kernel_rfl) (by decide) rfl rfl (hp.ob (i := 0) rfl) rfl ?_
      clear hf; intro a ha hf; clear ha
      refine st_ldO (u := v18) hf (by decide) pl51 rfl rfl (hp.ob (i := 0) rfl) rfl ?_
      clear hf; intro a ha hf; clear ha
      refine st_move hf rfl rfl (by decide) ?_
      clear hf; intro a ha hf; clear ha
      refine st_move hf rfl rfl (by decide) ?_
      clear hf; intro a ha hf; clear ha
      obtain ⟨hc51, h⟩ := chk h
      refine st_index (E := (Ek.pair Ek.str (Ek.pair (Ek.int .i64) Ek.bool))) hf (by decide) Try.underlying51 elt83 rfl rfl rfl (hp.sl (i := 1) rfl) hc51.1 hc51.2 ?_
      clear hf; intro a ha hf; clear ha
      refine st_faP (off := 1) (sz := 1) hf (by decide) (by kernel_rfl) (by decide) rfl rfl (Sl.isP (hp.sl (i := 1) rfl) hc51.1 hc51.2) ?_
      clear hf; intro a ha hf; clear ha
      refine st_stQ (E := (Ek.pair Ek.str (Ek.pair (Ek.int .i64) Ek.bool))) (F := (Ek.int .i64)) (o := 1) (Sub.comp (Sub.snd (E := Ek.str) (F := (Ek.pair (Ek.int .i64) Ek.bool))) (Sub.fst (E := (Ek.int .i64)) (F := Ek.bool))) hf (by kernel_rfl) hp (i := 1) rfl rfl rfl rfl rfl hc51.1 hc51.2 ?_
      clear hf; intro a w hf hp0; clear hp; have hp := hp0; clear hp0
      replace hp : Hp _ _ _ (Res.obj 53 osx0 [.int .i64 sx0c_0, .int .i64 sx0c_1, .int .i64 sx0c_2, v18] :: Res.sl (Ek.pair Ek.str (Ek.pair (Ek.int .i64) Ek.bool)) 83 v18 (sx0c_3.set (i8).toNat ((gt sx0c_3 i8).1, now1, (gt sx0c_3 i8).2.2)) :: Res.sl (Ek.pair (Ek.int .u8) (Ek.pair (Ek.int .u8) (Ek.pair Ek.bool Ek.str))) 31 v21 out6 :: ow) := hp
      refine st_nil hf ?_
      refine th_n ?_
      refine wp_reg ?_
      refine st_move hf rfl rfl (by decide) ?_
      clear hf; intro a ha hf; clear ha
      refine st_move hf rfl rfl (by decide) ?_
      clear hf; intro a ha hf; clear ha
      refine st_irem hf (by decide) rfl rfl rfl (by decide) ?_
      clear hf; intro a ha hf; clear ha
      refine st_conv_ii hf (by decide) (by rw [Try.underlying3]; rfl) Try.underlying5 rfl rfl ?_
      clear hf; intro a ha hf; clear ha
      refine st_move hf rfl rfl (by decide) ?_
      clear hf; intro a ha hf; clear ha
      refine st_nilV hf (by decide) rfl rfl (hp.ob (i := 0) rfl) ?_
      clear hf; intro a ha hf; clear ha
      refine st_fa (o' := 3) hf (by decide) (off := 3) (sz := 1) (by kernel_rfl) (by decide) rfl rfl (hp.ob (i := 0) rfl) rfl ?_
      clear hf; intro a ha hf; clear ha
      refine st_ldO (u := v18) hf (by decide) pl51 rfl rfl (hp.ob (i := 0) rfl) rfl ?_
      clear hf; intro a ha hf; clear ha
      refine st_move hf rfl rfl (by decide) ?_
      clear hf; intro a ha hf; clear ha
      obtain ⟨hc52, h⟩ := chk h
      refine st_index (E := (Ek.pair Ek.str (Ek.pair (Ek.int .i64) Ek.bool))) hf (by decide) Try.underlying51 elt83 rfl rfl rfl (hp.sl (i := 1) rfl) hc52.1 hc52.2 ?_
      clear hf; intro a ha hf; clear ha
      refine st_faP (off := 0) (sz := 1) hf (by decide) (by kernel_rfl) (by decide) rfl rfl (Sl.isP (hp.sl (i := 1) rfl) hc52.1 hc52.2) ?_
      clear hf; intro a ha hf; clear ha
      refine st_ldQ (F := Ek.str) (yv := (gt (sx0c_3.set (i8).toNat ((gt sx0c_3 i8).1, now1, (gt sx0c_3 i8).2.2)) i8).1) hf (by decide) pl9 (fun x => .string x) (fun _ _ h => h) rfl rfl (Sl.part (E := (Ek.pair Ek.str (Ek.pair (Ek.int .i64) Ek.bool))) (F := Ek.str) (o := 0) (Sub.fst (E := Ek.str) (F := (Ek.pair (Ek.int .i64) Ek.bool))) (hp.sl (i := 1) rfl) hc52.1 hc52.2) ?_
      clear hf; intro a ha hf; clear ha
      refine st_buildA (vals := [(0, .int .u8 (1 : Int)), (1, .int .u8 (IntKind.u8.wrap ((i8).tmod (256 : Int)))), (3, .string ((gt (sx0c_3.set (i8).toNat ((gt sx0c_3 i8).1, now1, (gt sx0c_3 i8).2.2)) i8).1))]) (cells := [.int .u8 (1 : Int), .int .u8 (IntKind.u8.wrap ((i8).tmod (256 : Int))), .bool false, .string ((gt (sx0c_3.set (i8).toNat ((gt sx0c_3 i8).1, now1, (gt sx0c_3 i8).2.2)) i8).1)]) hf (by decide) rfl (by simp [hf.ev (x := (Operand.const (.int .u8 (1 : Int)))) rfl, hf.ev (x := (Operand.tmp 92)) rfl, hf.ev (x := (Operand.tmp 100)) rfl]) (fun w => by kernel_rfl) ?_
      clear hf; intro a ha hf; clear ha
      refine st_build (E := (Ek.pair (Ek.int .u8) (Ek.pair (Ek.int .u8) (Ek.pair Ek.bool Ek.str)))) (xs := [((1 : Int), (IntKind.u8.wrap ((i8).tmod (256 : Int))), false, (gt (sx0c_3.set (i8).toNat ((gt sx0c_3 i8).1, now1, (gt sx0c_3 i8).2.2)) i8).1)]) hf (by decide) elt31 Try.underlying54 hp (vals := #[(0, .agg #[.int .u8 (1 : Int), .int .u8 (IntKind.u8.wrap ((i8).tmod (256 : Int))), .bool false, .string ((gt (sx0c_3.set (i8).toNat ((gt sx0c_3 i8).1, now1, (gt sx0c_3 i8).2.2)) i8).1)])]) (cells := #[.int .u8 (1 : Int), .int .u8 (IntKind.u8.wrap ((i8).tmod (256 : Int))), .bool false, .string ((gt (sx0c_3.set (i8).toNat ((gt sx0c_3 i8).1, now1, (gt sx0c_3 i8).2.2)) i8).1)]) rfl (by simp [hf.ev (x := (Operand.tmp 101)) rfl]) (by decide) (by decide) (z := .agg #[.int .u8 0, .int .u8 0, .bool false, .string ByteArray.empty]) (by kernel_rfl) (by kernel_rfl) rfl (reps_cons (cs := [.int .u8 (1 : Int), .int .u8 (IntKind.u8.wrap ((i8).tmod (256 : Int))), .bool false, .string ((gt (sx0c_3.set (i8).toNat ((gt sx0c_3 i8).1, now1, (gt sx0c_3 i8).2.2)) i8).1)]) ⟨[.int .u8 (1 : Int)], [.int .u8 (IntKind.u8.wrap ((i8).tmod (256 : Int))), .bool false, .string ((gt (sx0c_3.set (i8).toNat ((gt sx0c_3 i8).1, now1, (gt sx0c_3 i8).2.2)) i8).1)], rfl, rfl, ⟨[.int .u8 (IntKind.u8.wrap ((i8).tmod (256 : Int)))], [.bool false, .string ((gt (sx0c_3.set (i8).toNat ((gt sx0c_3 i8).1, now1, (gt sx0c_3 i8).2.2)) i8).1)], rfl, rfl, ⟨[.bool false], [.string ((gt (sx0c_3.set (i8).toNat ((gt sx0c_3 i8).1, now1, (gt sx0c_3 i8).2.2)) i8).1)], rfl, rfl, rfl⟩⟩⟩ (reps_nil _)) ?_
      clear hf; intro a w v53 hf hp0; clear hp; have hp := hp0; clear hp0
      replace hp : Hp _ _ _ (Res.sl (Ek.pair (Ek.int .u8) (Ek.pair (Ek.int .u8) (Ek.pair Ek.bool Ek.str))) 31 v53 ([((1 : Int), (IntKind.u8.wrap ((i8).tmod (256 : Int))), false, (gt (sx0c_3.set (i8).toNat ((gt sx0c_3 i8).1, now1, (gt sx0c_3 i8).2.2)) i8).1)]) :: Res.obj 53 osx0 [.int .i64 sx0c_0, .int .i64 sx0c_1, .int .i64 sx0c_2, v18] :: Res.sl (Ek.pair Ek.str (Ek.pair (Ek.int .i64) Ek.bool)) 83 v18 (sx0c_3.set (i8).toNat ((gt sx0c_3 i8).1, now1, (gt sx0c_3 i8).2.2)) :: Res.sl (Ek.pair (Ek.int .u8) (Ek.pair (Ek.int .u8) (Ek.pair Ek.bool Ek.str))) 31 v21 out6 :: ow) := hp
      obtain ⟨hc55, h⟩ := chk h
      refine st_append (E := (Ek.pair (Ek.int .u8) (Ek.pair (Ek.int .u8) (Ek.pair Ek.bool Ek.str)))) hf (by decide) elt31 Try.underlying54 (by decide) hp (i := 3) rfl rfl rfl rfl (hp.sl (i := 0) rfl) hc55 ?_
      clear hf; intro a w v56 hf hp0; clear hp; have hp := hp0; clear hp0
      replace hp : Hp _ _ _ (Res.sl (Ek.pair (Ek.int .u8) (Ek.pair (Ek.int .u8) (Ek.pair Ek.bool Ek.str))) 31 v53 ([((1 : Int), (IntKind.u8.wrap ((i8).tmod (256 : Int))), false, (gt (sx0c_3.set (i8).toNat ((gt sx0c_3 i8).1, now1, (gt sx0c_3 i8).2.2)) i8).1)]) :: Res.obj 53 osx0 [.int .i64 sx0c_0, .int .i64 sx0c_1, .int .i64 sx0c_2, v18] :: Res.sl (Ek.pair Ek.str (Ek.pair (Ek.int .i64) Ek.bool)) 83 v18 (sx0c_3.set (i8).toNat ((gt sx0c_3 i8).1, now1, (gt sx0c_3 i8).2.2)) :: Res.sl (Ek.pair (Ek.int .u8) (Ek.pair (Ek.int .u8) (Ek.pair Ek.bool Ek.str))) 31 v56 (out6 ++ [((1 : Int), (IntKind.u8.wrap ((i8).tmod (256 : Int))), false, (gt (sx0c_3.set (i8).toNat ((gt sx0c_3 i8).1, now1, (gt sx0c_3 i8).2.2)) i8).1)]) :: ow) := hp
      refine st_assign hf rfl rfl (by decide) ?_
      clear hf; intro a ha hf; clear ha
      refine st_nil hf ?_
      refine ib_n ?_
      refine th_n ?_
      refine wp_reg ?_
      refine st_move hf rfl rfl (by decide) ?_
      clear hf; intro a ha hf; clear ha
      refine st_iadd hf (by decide) rfl rfl rfl ?_
      clear hf; intro a ha hf; clear ha
      refine st_assign hf rfl rfl (by decide) ?_
      clear hf; intro a ha hf; clear ha
      refine st_nil hf ?_
      obtain rfl := Option.some.inj h
      have hp : Hp _ _ _ (Res.sl (Ek.pair Ek.str (Ek.pair (Ek.int .i64) Ek.bool)) 83 v18 (sx0c_3.set (i8).toNat ((gt sx0c_3 i8).1, now1, (gt sx0c_3 i8).2.2)) :: Res.obj 53 osx0 [.int .i64 sx0c_0, .int .i64 sx0c_1, .int .i64 sx0c_2, v18] :: Res.sl (Ek.pair (Ek.int .u8) (Ek.pair (Ek.int .u8) (Ek.pair Ek.bool Ek.str))) 31 v56 (out6 ++ [((1 : Int), (IntKind.u8.wrap ((i8).tmod (256 : Int))), false, (gt (sx0c_3.set (i8).toNat ((gt sx0c_3 i8).1, now1, (gt sx0c_3 i8).2.2)) i8).1)]) :: ow) := Hp.sel (pre := [Res.sl (Ek.pair (Ek.int .u8) (Ek.pair (Ek.int .u8) (Ek.pair Ek.bool Ek.str))) 31 v53 ([((1 : Int), (IntKind.u8.wrap ((i8).tmod (256 : Int))), false, (gt (sx0c_3.set (i8).toNat ((gt sx0c_3 i8).1, now1, (gt sx0c_3 i8).2.2)) i8).1)]), Res.obj 53 osx0 [.int .i64 sx0c_0, .int .i64 sx0c_1, .int .i64 sx0c_2, v18], Res.sl (Ek.pair Ek.str (Ek.pair (Ek.int .i64) Ek.bool)) 83 v18 (sx0c_3.set (i8).toNat ((gt sx0c_3 i8).1, now1, (gt sx0c_3 i8).2.2)), Res.sl (Ek.pair (Ek.int .u8) (Ek.pair (Ek.int .u8) (Ek.pair Ek.bool Ek.str))) 31 v56 (out6 ++ [((1 : Int), (IntKind.u8.wrap ((i8).tmod (256 : Int))), false, (gt (sx0c_3.set (i8).toNat ((gt sx0c_3 i8).1, now1, (gt sx0c_3 i8).2.2)) i8).1)])]) (tail := ow) (rs' := [Res.sl (Ek.pair Ek.str (Ek.pair (Ek.int .i64) Ek.bool)) 83 v18 (sx0c_3.set (i8).toNat ((gt sx0c_3 i8).1, now1, (gt sx0c_3 i8).2.2)), Res.obj 53 osx0 [.int .i64 sx0c_0, .int .i64 sx0c_1, .int .i64 sx0c_2, v18], Res.sl (Ek.pair (Ek.int .u8) (Ek.pair (Ek.int .u8) (Ek.pair Ek.bool Ek.str))) 31 v56 (out6 ++ [((1 : Int), (IntKind.u8.wrap ((i8).tmod (256 : Int))), false, (gt (sx0c_3.set (i8).toNat ((gt sx0c_3 i8).1, now1, (gt sx0c_3 i8).2.2)) i8).1)])]) hp [2, 1, 3] (by decide) (by simp) rfl
      exact rnd_l ⟨_, _, hf.sub ⟨rfl, rfl, rfl, rfl, rfl, trivial⟩, hp⟩
    replace h := ifF h hb
    refine wp_exit ?_
    refine th_e ?_
    obtain rfl := Option.some.inj h
    exact rnd_r (by simp) ⟨rfl, _, _, hf.sub ⟨rfl, rfl, trivial⟩, hp⟩
  clear hl hf hp
  intro e a w hne hO
  obtain ⟨rfl, v23, v26, hf, hp⟩ := hO
  refine ib_same ?_
  refine th_n ?_
  refine wp_seq ?_
  refine wp_reg ?_
  refine st_move hf rfl rfl (by decide) ?_
  clear hf; intro a ha hf; clear ha
  refine st_assign hf rfl rfl (by decide) ?_
  clear hf; intro a ha hf; clear ha
  refine st_assign hf rfl rfl (by decide) ?_
  clear hf; intro a ha hf; clear ha
  refine st_nil hf ?_
  refine th_n ?_
  refine wp_ret ?_
  obtain rfl := Option.some.inj h
  have hp : Hp _ _ _ (Res.sl (Ek.pair (Ek.int .u8) (Ek.pair (Ek.int .u8) (Ek.pair Ek.bool Ek.str))) 31 v26 q57.2.2.2.2 :: Res.sl (Ek.pair Ek.str (Ek.pair (Ek.int .i64) Ek.bool)) 83 v23 q57.2.2.2.1 :: Res.obj 53 osx0 [.int .i64 q57.1, .int .i64 q57.2.1, .int .i64 q57.2.2.1, v23] :: ow) := Hp.sel (pre := [Res.sl (Ek.pair Ek.str (Ek.pair (Ek.int .i64) Ek.bool)) 83 v23 q57.2.2.2.1, Res.obj 53 osx0 [.int .i64 q57.1, .int .i64 q57.2.1, .int .i64 q57.2.2.1, v23], Res.sl (Ek.pair (Ek.int .u8) (Ek.pair (Ek.int .u8) (Ek.pair Ek.bool Ek.str))) 31 v26 q57.2.2.2.2]) (tail := ow) (rs' := [Res.sl (Ek.pair (Ek.int .u8) (Ek.pair (Ek.int .u8) (Ek.pair Ek.bool Ek.str))) 31 v26 q57.2.2.2.2, Res.sl (Ek.pair Ek.str (Ek.pair (Ek.int .i64) Ek.bool)) 83 v23 q57.2.2.2.1, Res.obj 53 osx0 [.int .i64 q57.1, .int .i64 q57.2.1, .int .i64 q57.2.2.1, v23]]) hp [2, 0, 1] (by decide) (by simp) rfl
  exact ⟨rfl, ⟨_, _, hf.sub ⟨rfl, rfl, trivial⟩, hp⟩⟩

noncomputable def f_foghornlaw28_same (ax0_Kind : Int) (ax0_Number : Int) (ax0_More : Bool) (ax0_Body : ByteArray) (bx1_Kind : Int) (bx1_Number : Int) (bx1_More : Bool) (bx1_Body : ByteArray) : Option Bool := (some ((((ax0_Kind == bx1_Kind) && (ax0_Number == bx1_Number)) && (ax0_More == bx1_More)) && (seq ax0_Body bx1_Body)))
theorem f_foghornlaw28_same_c {S : Nat → Prop} {w0 w : World} {ow : List Res} (hp : Hp S w0 w ow) (ax0_Kind : Int) (ax0_Number : Int) (ax0_More : Bool) (ax0_Body : ByteArray) (bx1_Kind : Int) (bx1_Number : Int) (bx1_More : Bool) (bx1_Body : ByteArray) {r : Bool} (h : f_foghornlaw28_same ax0_Kind ax0_Number ax0_More ax0_Body bx1_Kind bx1_Number bx1_More bx1_Body = some r) :
    Calls Try.prog 13 #[.agg #[.int .u8 ax0_Kind, .int .u8 ax0_Number, .bool ax0_More, .string ax0_Body], .agg #[.int .u8 bx1_Kind, .int .u8 bx1_Number, .bool bx1_More, .string bx1_Body]] w (fun e w' => e = .returned (.bool r) ∧ Hp S w0 w' (ow)) := by
  unfold f_foghornlaw28_same at h
  refine enter (n := 31) (args := [.agg #[.int .u8 ax0_Kind, .int .u8 ax0_Number, .bool ax0_More, .string ax0_Body], .agg #[.int .u8 bx1_Kind, .int .u8 bx1_Number, .bool bx1_More, .string bx1_Body]]) Try.func13 rfl rfl (Nat.le_of_ble_eq_true rfl) fun a hf => ?_
  replace hf : Fr 31 a [(0, .agg #[.int .u8 ax0_Kind, .int .u8 ax0_Number, .bool ax0_More, .string ax0_Body]), (1, .agg #[.int .u8 bx1_Kind, .int .u8 bx1_Number, .bool bx1_More, .string bx1_Body])] := hf
  refine wp_mono (Q := fun e a w => e = .ret ∧ Fr 31 a [(4, .bool r)] ∧ Hp S w0 w (ow)) ?_ ?_
  rotate_left
  · rintro e a w ⟨rfl, hf, hp⟩
    exact ret1 hf rfl rfl ⟨rfl, hp⟩
  refine wp_seq ?_
  refine wp_reg ?_
  refine st_boxO (cs := [.int .u8 ax0_Kind, .int .u8 ax0_Number, .bool ax0_More, .string ax0_Body]) hf (by decide) hp rfl rfl rfl ?_
  clear hf; intro a w v1 hf hp0; clear hp; have hp := hp0; clear hp0
  replace hp : Hp _ _ _ (Res.obj 31 v1 [.int .u8 ax0_Kind, .int .u8 ax0_Number, .bool ax0_More, .string ax0_Body] :: ow) := hp
  refine st_boxO (cs := [.int .u8 bx1_Kind, .int .u8 bx1_Number, .bool bx1_More, .string bx1_Body]) hf (by decide) hp rfl rfl rfl ?_
  clear hf; intro a w v3 hf hp0; clear hp; have hp := hp0; clear hp0
  replace hp : Hp _ _ _ (Res.obj 31 v3 [.int .u8 bx1_Kind, .int .u8 bx1_Number, .bool bx1_More, .string bx1_Body] :: Res.obj 31 v1 [.int .u8 ax0_Kind, .int .u8 ax0_Number, .bool ax0_More, .string ax0_Body] :: ow) := hp
  refine st_assign hf rfl rfl (by decide) ?_
  clear hf; intro a ha hf; clear ha
  refine st_nil hf ?_
  refine th_n ?_
  refine wp_seq ?_
  refine wp_reg ?_
  refine st_fa (o' := 0) hf (by decide) (off := 0) (sz := 1) (by kernel_rfl) (by decide) rfl rfl (hp.ob (i := 1) rfl) rfl ?_
  clear hf; intro a ha hf; clear ha
  refine st_ldO (u := .int .u8 ax0_Kind) hf (by decide) pl5 rfl rfl (hp.ob (i := 1) rfl) rfl ?_
  clear hf; intro a ha hf; clear ha
  refine st_fa (o' := 0) hf (by decide) (off := 0) (sz := 1) (by kernel_rfl) (by decide) rfl rfl (hp.ob (i := 0) rfl) rfl ?_
  clear hf; intro a ha hf; clear ha
  refine st_ldO (u := .int .u8 bx1_Kind) hf (by decide) pl5 rfl rfl (hp.ob (i := 0) rfl) rfl ?_
  clear hf; intro a ha hf; clear ha
  refine st_ieql hf (by decide) rfl rfl rfl ?_
  clear hf; intro a ha hf; clear ha
  refine st_move hf rfl rfl (by decide) ?_
  clear hf; intro a ha hf; clear ha
  refine wpList_cut 6 (fun a w => Fr 31 a [(2, optr v1 0), (3, optr v3 0), (16, .bool ((ax0_Kind == bx1_Kind) && (ax0_Number == bx1_Number)))] ∧ Hp S w0 w (Res.obj 31 v3 [.int .u8 bx1_Kind, .int .u8 bx1_Number, .bool bx1_More, .string bx1_Body] :: Res.obj 31 v1 [.int .u8 ax0_Kind, .int .u8 ax0_Number, .bool ax0_More, .string ax0_Body] :: ow)) ?_ ?_
  · rcases Bool.eq_false_or_eq_true (ax0_Kind == bx1_Kind) with hb6 | hb6
    · skip
      refine st_fa (o' := 1) hf (by decide) (off := 1) (sz := 1) (by kernel_rfl) (by decide) (wantY hf rfl rfl hb6) rfl (hp.ob (i := 1) rfl) rfl ?_
      clear hf; intro a ha hf; clear ha
      refine st_ldO (u := .int .u8 ax0_Number) hf (by decide) pl5 (wantY hf rfl rfl hb6) rfl (hp.ob (i := 1) rfl) rfl ?_
      clear hf; intro a ha hf; clear ha
      refine st_fa (o' := 1) hf (by decide) (off := 1) (sz := 1) (by kernel_rfl) (by decide) (wantY hf rfl rfl hb6) rfl (hp.ob (i := 0) rfl) rfl ?_
      clear hf; intro a ha hf; clear ha
      refine st_ldO (u := .int .u8 bx1_Number) hf (by decide) pl5 (wantY hf rfl rfl hb6) rfl (hp.ob (i := 0) rfl) rfl ?_
      clear hf; intro a ha hf; clear ha
      refine st_ieql hf (by decide) (wantY hf rfl rfl hb6) rfl rfl ?_
      clear hf; intro a ha hf; clear ha
      refine st_pick (v := .bool (ax0_Number == bx1_Number)) hf rfl rfl (fun hb' => ?_) (fun hb' => ?_) (by decide) ?_
      · rfl
      · exact absurd (hb6.symm.trans hb') (by decide)
      clear hf; intro a ha hf; clear ha
      refine st_nil hf (th_n ?_)
      exact ⟨hf.sub ⟨rfl, rfl, (by rw [hb6]; rfl), trivial⟩, hp⟩
    refine st_skip hf (wantN hf rfl rfl hb6) rfl (by decide) ?_ rfl
    clear hf; intro a hf
    refine st_skip hf (wantN hf rfl rfl hb6) rfl (by decide) ?_ rfl
    clear hf; intro a hf
    refine st_skip hf (wantN hf rfl rfl hb6) rfl (by decide) ?_ rfl
    clear hf; intro a hf
    refine st_skip hf (wantN hf rfl rfl hb6) rfl (by decide) ?_ rfl
    clear hf; intro a hf
    refine st_skip hf (wantN hf rfl rfl hb6) rfl (by decide) ?_ rfl
    clear hf; intro a hf
    refine st_pick (v := .bool false) hf rfl rfl (fun hb' => ?_) (fun hb' => ?_) (by decide) ?_
    · exact absurd (hb6.symm.trans hb') (by decide)
    · rfl
    clear hf; intro a ha hf; clear ha
    refine st_nil hf (th_n ?_)
    exact ⟨hf.sub ⟨rfl, rfl, (by rw [hb6]; rfl), trivial⟩, hp⟩
  rintro a w ⟨hf, hp⟩
  refine st_move hf rfl rfl (by decide) ?_
  clear hf; intro a ha hf; clear ha
  refine wpList_cut 6 (fun a w => Fr 31 a [(2, optr v1 0), (3, optr v3 0), (23, .bool (((ax0_Kind == bx1_Kind) && (ax0_Number == bx1_Number)) && (ax0_More == bx1_More)))] ∧ Hp S w0 w (Res.obj 31 v3 [.int .u8 bx1_Kind, .int .u8 bx1_Number, .bool bx1_More, .string bx1_Body] :: Res.obj 31 v1 [.int .u8 ax0_Kind, .int .u8 ax0_Number, .bool ax0_More, .string ax0_Body] :: ow)) ?_ ?_
  · rcases Bool.eq_false_or_eq_true ((ax0_Kind == bx1_Kind) && (ax0_Number == bx1_Number)) with hb8 | hb8
    · skip
      refine st_fa (o' := 2) hf (by decide) (off := 2) (sz := 1) (by kernel_rfl) (by decide) (wantY hf rfl rfl hb8) rfl (hp.ob (i := 1) rfl) rfl ?_
      clear hf; intro a ha hf; clear ha
      refine st_ldO (u := .bool ax0_More) hf (by decide) pl4 (wantY hf rfl rfl hb8) rfl (hp.ob (i := 1) rfl) rfl ?_
      clear hf; intro a ha hf; clear ha
      refine st_fa (o' := 2) hf (by decide) (off := 2) (sz := 1) (by kernel_rfl) (by decide) (wantY hf rfl rfl hb8) rfl (hp.ob (i := 0) rfl) rfl ?_
      clear hf; intro a ha hf; clear ha
      refine st_ldO (u := .bool bx1_More) hf (by decide) pl4 (wantY hf rfl rfl hb8) rfl (hp.ob (i := 0) rfl) rfl ?_
      clear hf; intro a ha hf; clear ha
      refine st_beql hf (by decide) Try.underlying4 (wantY hf rfl rfl hb8) rfl rfl ?_
      clear hf; intro a ha hf; clear ha
      refine st_pick (v := .bool (ax0_More == bx1_More)) hf rfl rfl (fun hb' => ?_) (fun hb' => ?_) (by decide) ?_
      · rfl
      · exact absurd (hb8.symm.trans hb') (by decide)
      clear hf; intro a ha hf; clear ha
      refine st_nil hf (th_n ?_)
      exact ⟨hf.sub ⟨rfl, rfl, (by rw [hb8]; rfl), trivial⟩, hp⟩
    refine st_skip hf (wantN hf rfl rfl hb8) rfl (by decide) ?_ rfl
    clear hf; intro a hf
    refine st_skip hf (wantN hf rfl rfl hb8) rfl (by decide) ?_ rfl
    clear hf; intro a hf
    refine st_skip hf (wantN hf rfl rfl hb8) rfl (by decide) ?_ rfl
    clear hf; intro a hf
    refine st_skip hf (wantN hf rfl rfl hb8) rfl (by decide) ?_ rfl
    clear hf; intro a hf
    refine st_skip hf (wantN hf rfl rfl hb8) rfl (by decide) ?_ rfl
    clear hf; intro a hf
    refine st_pick (v := .bool false) hf rfl rfl (fun hb' => ?_) (fun hb' => ?_) (by decide) ?_
    · exact absurd (hb8.symm.trans hb') (by decide)
    · rfl
    clear hf; intro a ha hf; clear ha
    refine st_nil hf (th_n ?_)
    exact ⟨hf.sub ⟨rfl, rfl, (by rw [hb8]; rfl), trivial⟩, hp⟩
  rintro a w ⟨hf, hp⟩
  refine st_move hf rfl rfl (by decide) ?_
  clear hf; intro a ha hf; clear ha
  refine wpList_cut 6 (fun a w => Fr 31 a [(30, .bool ((((ax0_Kind == bx1_Kind) && (ax0_Number == bx1_Number)) && (ax0_More == bx1_More)) && (seq ax0_Body bx1_Body)))] ∧ Hp S w0 w (Res.obj 31 v3 [.int .u8 bx1_Kind, .int .u8 bx1_Number, .bool bx1_More, .string bx1_Body] :: Res.obj 31 v1 [.int .u8 ax0_Kind, .int .u8 ax0_Number, .bool ax0_More, .string ax0_Body] :: ow)) ?_ ?_
  · rcases Bool.eq_false_or_eq_true (((ax0_Kind == bx1_Kind) && (ax0_Number == bx1_Number)) && (ax0_More == bx1_More)) with hb10 | hb10
    · skip
      refine st_fa (o' := 3) hf (by decide) (off := 3) (sz := 1) (by kernel_rfl) (by decide) (wantY hf rfl rfl hb10) rfl (hp.ob (i := 1) rfl) rfl ?_
      clear hf; intro a ha hf; clear ha
      refine st_ldO (u := .string ax0_Body) hf (by decide) pl9 (wantY hf rfl rfl hb10) rfl (hp.ob (i := 1) rfl) rfl ?_
      clear hf; intro a ha hf; clear ha
      refine st_fa (o' := 3) hf (by decide) (off := 3) (sz := 1) (by kernel_rfl) (by decide) (wantY hf rfl rfl hb10) rfl (hp.ob (i := 0) rfl) rfl ?_
      clear hf; intro a ha hf; clear ha
      refine st_ldO (u := .string bx1_Body) hf (by decide) pl9 (wantY hf rfl rfl hb10) rfl (hp.ob (i := 0) rfl) rfl ?_
      clear hf; intro a ha hf; clear ha
      refine st_seql hf (by decide) (wantY hf rfl rfl hb10) rfl rfl ?_
      clear hf; intro a ha hf; clear ha
      refine st_pick (v := .bool (seq ax0_Body bx1_Body)) hf rfl rfl (fun hb' => ?_) (fun hb' => ?_) (by decide) ?_
      · rfl
      · exact absurd (hb10.symm.trans hb') (by decide)
      clear hf; intro a ha hf; clear ha
      refine st_nil hf (th_n ?_)
      exact ⟨hf.sub ⟨(by rw [hb10]; rfl), trivial⟩, hp⟩
    refine st_skip hf (wantN hf rfl rfl hb10) rfl (by decide) ?_ rfl
    clear hf; intro a hf
    refine st_skip hf (wantN hf rfl rfl hb10) rfl (by decide) ?_ rfl
    clear hf; intro a hf
    refine st_skip hf (wantN hf rfl rfl hb10) rfl (by decide) ?_ rfl
    clear hf; intro a hf
    refine st_skip hf (wantN hf rfl rfl hb10) rfl (by decide) ?_ rfl
    clear hf; intro a hf
    refine st_skip hf (wantN hf rfl rfl hb10) rfl (by decide) ?_ rfl
    clear hf; intro a hf
    refine st_pick (v := .bool false) hf rfl rfl (fun hb' => ?_) (fun hb' => ?_) (by decide) ?_
    · exact absurd (hb10.symm.trans hb') (by decide)
    · rfl
    clear hf; intro a ha hf; clear ha
    refine st_nil hf (th_n ?_)
    exact ⟨hf.sub ⟨(by rw [hb10]; rfl), trivial⟩, hp⟩
  rintro a w ⟨hf, hp⟩
  refine st_assign hf rfl rfl (by decide) ?_
  clear hf; intro a ha hf; clear ha
  refine st_nil hf ?_
  refine th_n ?_
  refine wp_ret ?_
  obtain rfl := Option.some.inj h
  have hp : Hp _ _ _ (ow) := Hp.sel (pre := [Res.obj 31 v3 [.int .u8 bx1_Kind, .int .u8 bx1_Number, .bool bx1_More, .string bx1_Body], Res.obj 31 v1 [.int .u8 ax0_Kind, .int .u8 ax0_Number, .bool ax0_More, .string ax0_Body]]) (tail := ow) (rs' := []) hp [] (by decide) (by simp) rfl
  exact ⟨rfl, ⟨hf.sub ⟨rfl, trivial⟩, hp⟩⟩

end Go.Proofs.Ytmdigffgmohcnaa
