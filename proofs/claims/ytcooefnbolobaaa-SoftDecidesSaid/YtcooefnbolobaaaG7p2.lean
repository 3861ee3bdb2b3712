/- The functions foghorn foghornlaw23.SoftDecides: what each answers, as a plain function, and that its call answers it; printed by gen.py. -/
import Derived.Test.YtcooefnbolobaaaProg
import Derived.Test.YtcooefnbolobaaaGlUd
import Derived.KernelRfl
import Derived.Test.YtcooefnbolobaaaG7p1
set_option linter.unusedVariables false
set_option linter.unusedSimpArgs false
set_option maxRecDepth 100000
set_option maxHeartbeats 4000000
namespace Go.Proofs.Ytcooefnbolobaaa
open GL
noncomputable def f_foghornlaw23_code (cx0_Length : Int) (cx0_One : Int) (cx0_Two : Int) : Option (Int × Int × Int) := (some (cx0_Length, cx0_One, cx0_Two))
theorem f_foghornlaw23_code_c {S : Nat → Prop} {w0 w : World} {ow : List Res} (hp : Hp S w0 w ow) (cx0_Length : Int) (cx0_One : Int) (cx0_Two : Int) {r : (Int × Int × Int)} (h : f_foghornlaw23_code cx0_Length cx0_One cx0_Two = some r) :
    Calls Try.prog 14 #[.agg #[.int .i64 cx0_Length, .int .u32 cx0_One, .int .u32 cx0_Two]] w (fun e w' => e = .returned (.agg #[.int .i64 r.1, .int .u32 r.2.1, .int .u32 r.2.2]) ∧ Hp S w0 w' (ow)) := by
  unfold f_foghornlaw23_code at h
  refine enter (n := 10) (args := [.agg #[.int .i64 cx0_Length, .int .u32 cx0_One, .int .u32 cx0_Two]]) Try.func14 rfl rfl (Nat.le_of_ble_eq_true rfl) fun a hf => ?_
  replace hf : Fr 10 a [(0, .agg #[.int .i64 cx0_Length, .int .u32 cx0_One, .int .u32 cx0_Two])] := hf
  refine wp_mono (Q := fun e a w => e = .ret ∧ ∃ (c0 : Value), Fr 10 a [(2, optr c0 0)] ∧ Hp S w0 w (Res.obj 40 c0 [.int .i64 r.1, .int .u32 r.2.1, .int .u32 r.2.2] :: ow)) ?_ ?_
  rotate_left
  · rintro e a w ⟨rfl, c0, hf, hp⟩
    exact retG1 hf rfl ⟨_, _, rfl, hp.ob (i := 0) rfl, .inr ⟨by kernel_rfl, rfl⟩⟩ ⟨rfl, hp.drop⟩
  refine wp_seq ?_
  refine wp_reg ?_
  refine st_boxO (cs := [.int .i64 cx0_Length, .int .u32 cx0_One, .int .u32 cx0_Two]) hf (by decide) hp rfl rfl rfl ?_
  clear hf; intro a w v1 hf hp0; clear hp; have hp := hp0; clear hp0
  replace hp : Hp _ _ _ (Res.obj 24 v1 [.int .i64 cx0_Length, .int .u32 cx0_One, .int .u32 cx0_Two] :: ow) := hp
  refine st_alloc (cs := [.int .i64 (0 : Int), .int .u32 (0 : Int), .int .u32 (0 : Int)]) (zv := .agg #[.int .i64 (0 : Int), .int .u32 (0 : Int), .int .u32 (0 : Int)]) hf (by decide) (by kernel_rfl) rfl hp rfl ?_
  clear hf; intro a w v3 hf hp0; clear hp; have hp := hp0; clear hp0
  replace hp : Hp _ _ _ (Res.obj 40 v3 [.int .i64 (0 : Int), .int .u32 (0 : Int), .int .u32 (0 : Int)] :: Res.obj 24 v1 [.int .i64 cx0_Length, .int .u32 cx0_One, .int .u32 cx0_Two] :: ow) := hp
  refine st_nil hf ?_
  refine th_n ?_
  refine wp_seq ?_
  refine wp_reg ?_
  refine st_fa (o' := 0) hf (by decide) (off := 0) (sz := 1) (by kernel_rfl) (by decide) rfl rfl (hp.ob (i := 1) rfl) rfl ?_
  clear hf; intro a ha hf; clear ha
  refine st_ldO (u := .int .i64 cx0_Length) hf (by decide) pl3 rfl rfl (hp.ob (i := 1) rfl) rfl ?_
  clear hf; intro a ha hf; clear ha
  refine st_fa (o' := 1) hf (by decide) (off := 1) (sz := 1) (by kernel_rfl) (by decide) rfl rfl (hp.ob (i := 1) rfl) rfl ?_
  clear hf; intro a ha hf; clear ha
  refine st_ldO (u := .int .u32 cx0_One) hf (by decide) pl22 rfl rfl (hp.ob (i := 1) rfl) rfl ?_
  clear hf; intro a ha hf; clear ha
  refine st_fa (o' := 2) hf (by decide) (off := 2) (sz := 1) (by kernel_rfl) (by decide) rfl rfl (hp.ob (i := 1) rfl) rfl ?_
  clear hf; intro a ha hf; clear ha
  refine st_ldO (u := .int .u32 cx0_Two) hf (by decide) pl22 rfl rfl (hp.ob (i := 1) rfl) rfl ?_
  clear hf; intro a ha hf; clear ha
  refine st_buildA (vals := [(0, .int .i64 cx0_Length), (1, .int .u32 cx0_One), (2, .int .u32 cx0_Two)]) (cells := [.int .i64 cx0_Length, .int .u32 cx0_One, .int .u32 cx0_Two]) hf (by decide) rfl (by simp [hf.ev (x := (Operand.tmp 4)) rfl, hf.ev (x := (Operand.tmp 6)) rfl, hf.ev (x := (Operand.tmp 8)) rfl]) (fun w => by kernel_rfl) ?_
  clear hf; intro a ha hf; clear ha
  refine st_stO (us := [.int .i64 cx0_Length, .int .u32 cx0_One, .int .u32 cx0_Two]) hf hp (i := 0) rfl rfl rfl rfl rfl (by rfl) (by kernel_rfl) (Nat.le_of_ble_eq_true rfl) ?_
  clear hf; intro a w hf hp0; clear hp; have hp := hp0; clear hp0
  replace hp : Hp _ _ _ (Res.obj 40 v3 [.int .i64 cx0_Length, .int .u32 cx0_One, .int .u32 cx0_Two] :: Res.obj 24 v1 [.int .i64 cx0_Length, .int .u32 cx0_One, .int .u32 cx0_Two] :: ow) := hp
  refine st_nil hf ?_
  refine th_n ?_
  refine wp_ret ?_
  obtain rfl := Option.some.inj h
  have hp : Hp _ _ _ (Res.obj 40 v3 [.int .i64 cx0_Length, .int .u32 cx0_One, .int .u32 cx0_Two] :: ow) := Hp.sel (pre := [Res.obj 40 v3 [.int .i64 cx0_Length, .int .u32 cx0_One, .int .u32 cx0_Two], Res.obj 24 v1 [.int .i64 cx0_Length, .int .u32 cx0_One, .int .u32 cx0_Two]]) (tail := ow) (rs' := [Res.obj 40 v3 [.int .i64 cx0_Length, .int .u32 cx0_One, .int .u32 cx0_Two]]) hp [0] (by decide) (by simp) rfl
  exact ⟨rfl, ⟨_, hf.sub ⟨rfl, trivial⟩, hp⟩⟩

noncomputable def f_math_bits_Len32.j2 (xx0 : Int) (n2 : Int) : Option Int := (if 0 ≤ (IntKind.u8.wrap xx0) ∧ (IntKind.u8.wrap xx0) < ((ByteArray.mk #[0, 1, 2, 2, 3, 3, 3, 3, 4, 4, 4, 4, 4, 4, 4, 4, 5, 5, 5, 5, 5, 5, 5, 5, 5, 5, 5, 5, 5, 5, 5, 5, 6, 6, 6, 6, 6, 6, 6, 6, 6, 6, 6, 6, 6, 6, 6, 6, 6, 6, 6, 6, 6, 6, 6, 6, 6, 6, 6, 6, 6, 6, 6, 6, 7, 7, 7, 7, 7, 7, 7, 7, 7, 7, 7, 7, 7, 7, 7, 7, 7, 7, 7, 7, 7, 7, 7, 7, 7, 7, 7, 7, 7, 7, 7, 7, 7, 7, 7, 7, 7, 7, 7, 7, 7, 7, 7, 7, 7, 7, 7, 7, 7, 7, 7, 7, 7, 7, 7, 7, 7, 7, 7, 7, 7, 7, 7, 7, 8, 8, 8, 8, 8, 8, 8, 8, 8, 8, 8, 8, 8, 8, 8, 8, 8, 8, 8, 8, 8, 8, 8, 8, 8, 8, 8, 8, 8, 8, 8, 8, 8, 8, 8, 8, 8, 8, 8, 8, 8, 8, 8, 8, 8, 8, 8, 8, 8, 8, 8, 8, 8, 8, 8, 8, 8, 8, 8, 8, 8, 8, 8, 8, 8, 8, 8, 8, 8, 8, 8, 8, 8, 8, 8, 8, 8, 8, 8, 8, 8, 8, 8, 8, 8, 8, 8, 8, 8, 8, 8, 8, 8, 8, 8, 8, 8, 8, 8, 8, 8, 8, 8, 8, 8, 8, 8, 8, 8, 8, 8, 8, 8, 8, 8, 8, 8, 8, 8, 8, 8, 8, 8, 8, 8, 8, 8, 8]).size : Int) then (some (IntKind.i64.wrap (n2 + (IntKind.i64.wrap (bt (ByteArray.mk #[0, 1, 2, 2, 3, 3, 3, 3, 4, 4, 4, 4, 4, 4, 4, 4, 5, 5, 5, 5, 5, 5, 5, 5, 5, 5, 5, 5, 5, 5, 5, 5, 6, 6, 6, 6, 6, 6, 6, 6, 6, 6, 6, 6, 6, 6, 6, 6, 6, 6, 6, 6, 6, 6, 6, 6, 6, 6, 6, 6, 6, 6, 6, 6, 7, 7, 7, 7, 7, 7, 7, 7, 7, 7, 7, 7, 7, 7, 7, 7, 7, 7, 7, 7, 7, 7, 7, 7, 7, 7, 7, 7, 7, 7, 7, 7, 7, 7, 7, 7, 7, 7, 7, 7, 7, 7, 7, 7, 7, 7, 7, 7, 7, 7, 7, 7, 7, 7, 7, 7, 7, 7, 7, 7, 7, 7, 7, 7, 8, 8, 8, 8, 8, 8, 8, 8, 8, 8, 8, 8, 8, 8, 8, 8, 8, 8, 8, 8, 8, 8, 8, 8, 8, 8, 8, 8, 8, 8, 8, 8, 8, 8, 8, 8, 8, 8, 8, 8, 8, 8, 8, 8, 8, 8, 8, 8, 8, 8, 8, 8, 8, 8, 8, 8, 8, 8, 8, 8, 8, 8, 8, 8, 8, 8, 8, 8, 8, 8, 8, 8, 8, 8, 8, 8, 8, 8, 8, 8, 8, 8, 8, 8, 8, 8, 8, 8, 8, 8, 8, 8, 8, 8, 8, 8, 8, 8, 8, 8, 8, 8, 8, 8, 8, 8, 8, 8, 8, 8, 8, 8, 8, 8, 8, 8, 8, 8, 8, 8, 8, 8, 8, 8, 8, 8, 8, 8]) (IntKind.u8.wrap xx0)))))) else none)
noncomputable def f_math_bits_Len32.j1 (xx0 : Int) (n2 : Int) : Option Int := (if (decide ((256 : Int) ≤ xx0)) = true then (f_math_bits_Len32.j2 (ishr .u32 xx0 (8 : Int)) (IntKind.i64.wrap (n2 + (8 : Int)))) else (f_math_bits_Len32.j2 xx0 n2))
noncomputable def f_math_bits_Len32 (xx0 : Int) : Option Int := (if (decide ((65536 : Int) ≤ xx0)) = true then (f_math_bits_Len32.j1 (ishr .u32 xx0 (16 : Int)) (16 : Int)) else (f_math_bits_Len32.j1 xx0 (0 : Int)))
theorem f_math_bits_Len32_c {S : Nat → Prop} {w0 w : World} {ow : List Res} (hp : Hp S w0 w ow) (xx0 : Int) {r : Int} (h : f_math_bits_Len32 xx0 = some r) :
    Calls Try.prog 61 #[.int .u32 xx0] w (fun e w' => e = .returned (.int .i64 r) ∧ Hp S w0 w' (ow)) := by
  unfold f_math_bits_Len32 at h
  refine enter (n := 19) (args := [.int .u32 xx0]) Try.func61 rfl rfl (Nat.le_of_ble_eq_true rfl) fun a hf => ?_
  replace hf : Fr 19 a [(0, .int .u32 xx0)] := hf
  refine wp_mono (Q := fun e a w => e = .ret ∧ Fr 19 a [(2, .int .i64 r)] ∧ Hp S w0 w (ow)) ?_ ?_
  rotate_left
  · rintro e a w ⟨rfl, hf, hp⟩
    exact ret1 hf rfl rfl ⟨rfl, hp⟩
  refine wp_seq ?_
  refine wp_reg ?_
  refine st_assign hf rfl rfl (by decide) ?_
  clear hf; intro a ha hf; clear ha
  refine st_nil hf ?_
  refine th_n ?_
  refine wp_seq_cut (fun a w => ∃ (xx0 : Int) (n2 : Int), f_math_bits_Len32.j1 xx0 n2 = some r ∧ Fr 19 a [(0, .int .u32 xx0), (2, .int .i64 n2)] ∧ Hp S w0 w (ow)) ?_ ?_
  · skip
    refine wp_seq ?_
    refine wp_reg ?_
    refine st_move hf rfl rfl (by decide) ?_
    clear hf; intro a ha hf; clear ha
    refine st_igeq hf (by decide) rfl rfl rfl ?_
    clear hf; intro a ha hf; clear ha
    refine st_nil hf ?_
    refine th_n ?_
    refine wp_if hf rfl (fun hb => ?_) (fun hb => ?_)
    · replace h := ifT h hb
      refine wp_seq ?_
      refine wp_reg ?_
      refine st_move hf rfl rfl (by decide) ?_
      clear hf; intro a ha hf; clear ha
      refine st_ishr hf (by decide) rfl rfl rfl (by decide) ?_
      clear hf; intro a ha hf; clear ha
      refine st_assign hf rfl rfl (by decide) ?_
      clear hf; intro a ha hf; clear ha
      refine st_nil hf ?_
      refine th_n ?_
      refine wp_reg ?_
      refine st_assign hf rfl rfl (by decide) ?_
      clear hf; intro a ha hf; clear ha
      refine st_nil hf ?_
      refine th_n ?_
      exact ⟨_, _, h, hf.sub ⟨rfl, rfl, trivial⟩, hp⟩
    replace h := ifF h hb
    refine wp_skip ?_
    refine th_n ?_
    exact ⟨_, _, h, hf.sub ⟨rfl, rfl, trivial⟩, hp⟩
  rintro a w ⟨xx0, n2, h, hf, hp⟩
  unfold f_math_bits_Len32.j1 at h
  refine wp_seq_cut (fun a w => ∃ (xx0 : Int) (n2 : Int), f_math_bits_Len32.j2 xx0 n2 = some r ∧ Fr 19 a [(0, .int .u32 xx0), (2, .int .i64 n2)] ∧ Hp S w0 w (ow)) ?_ ?_
  · skip
    refine wp_seq ?_
    refine wp_reg ?_
    refine st_move hf rfl rfl (by decide) ?_
    clear hf; intro a ha hf; clear ha
    refine st_igeq hf (by decide) rfl rfl rfl ?_
    clear hf; intro a ha hf; clear ha
    refine st_nil hf ?_
    refine th_n ?_
    refine wp_if hf rfl (fun hb => ?_) (fun hb => ?_)
    · replace h := ifT h hb
      refine wp_seq ?_
      refine wp_reg ?_
      refine st_move hf rfl rfl (by decide) ?_
      clear hf; intro a ha hf; clear ha
      refine st_ishr hf (by decide) rfl rfl rfl (by decide) ?_
      clear hf; intro a ha hf; clear ha
      refine st_assign hf rfl rfl (by decide) ?_
      clear hf; intro a ha hf; clear ha
      refine st_nil hf ?_
      refine th_n ?_
      refine wp_reg ?_
      refine st_move hf rfl rfl (by decide) ?_
      clear hf; intro a ha hf; clear ha
      refine st_iadd hf (by decide) rfl rfl rfl ?_
      clear hf; intro a ha hf; clear ha
      refine st_assign hf rfl rfl (by decide) ?_
      clear hf; intro a ha hf; clear ha
      refine st_nil hf ?_
      refine th_n ?_
      exact ⟨_, _, h, hf.sub ⟨rfl, rfl, trivial⟩, hp⟩
    replace h := ifF h hb
    refine wp_skip ?_
    refine th_n ?_
    exact ⟨_, _, h, hf.sub ⟨rfl, rfl, trivial⟩, hp⟩
  rintro a w ⟨xx0, n2, h, hf, hp⟩
  unfold f_math_bits_Len32.j2 at h
  refine wp_seq ?_
  refine wp_reg ?_
  refine st_move hf rfl rfl (by decide) ?_
  clear hf; intro a ha hf; clear ha
  refine st_move hf rfl rfl (by decide) ?_
  clear hf; intro a ha hf; clear ha
  refine st_conv_ii hf (by decide) (by rw [Try.underlying22]; rfl) Try.underlying5 rfl rfl ?_
  clear hf; intro a ha hf; clear ha
  obtain ⟨hc1, h⟩ := chk h
  refine st_sidx hf (by decide) Try.underlying9 rfl rfl rfl hc1.1 hc1.2 ?_
  clear hf; intro a ha hf; clear ha
  refine st_conv_ii hf (by decide) (by rw [Try.underlying5]; rfl) Try.underlying3 rfl rfl ?_
  clear hf; intro a ha hf; clear ha
  refine st_iadd hf (by decide) rfl rfl rfl ?_
  clear hf; intro a ha hf; clear ha
  refine st_assign hf rfl rfl (by decide) ?_
  clear hf; intro a ha hf; clear ha
  refine st_nil hf ?_
  refine th_n ?_
  refine wp_ret ?_
  obtain rfl := Option.some.inj h
  exact ⟨rfl, ⟨hf.sub ⟨rfl, trivial⟩, hp⟩⟩

noncomputable def f_trellis_Code_Check (cx0_Length : Int) (cx0_One : Int) (cx0_Two : Int) : Option Int := ((if (((decide (cx0_Length < (2 : Int))) || (decide ((7 : Int) < cx0_Length))) || (decide ((imin cx0_One cx0_Two) < (1 : Int)))) = true then (some true) else ((f_math_bits_Len32 (imax cx0_One cx0_Two)).bind fun q15 => (some (q15 != cx0_Length)))).bind fun z17 => (if z17 = true then (some (1 : Int)) else (some (0 : Int))))
theorem f_trellis_Code_Check_c {S : Nat → Prop} {w0 w : World} {ow : List Res} (hp : Hp S w0 w ow) (cx0_Length : Int) (cx0_One : Int) (cx0_Two : Int) {r : Int} (h : f_trellis_Code_Check cx0_Length cx0_One cx0_Two = some r) :
   Calls Try.prog 44 #[.agg #[.int .i64 cx0_Length, .int .u32 cx0_One, .int .u32 cx0_Two]] w (fun e w' => e = .returned (.int .i64 r) ∧ Hp S w0 w' (ow)) := by
  unfold f_trellis_Code_Check at h
  refine enter (n := 30) (args := [.agg #[.int .i64 cx0_Length, .int .u32 cx0_One, .int .u32 cx0_Two]]) Try.func44 rfl rfl (Nat.le_of_ble_eq_true rfl) fun a hf => ?_
  replace hf : Fr 30 a [(0, .agg #[.int .i64 cx0_Length, .int .u32 cx0_One, .int .u32 cx0_Two])] := hf
  refine wp_mono (Q := fun e a w => e = .ret ∧ Fr 30 a [(2, .int .i64 r)] ∧ Hp S w0 w (ow)) ?_ ?_
  rotate_left
  ·
   rintro e a w ⟨rfl, hf, hp⟩
   exact ret1 hf rfl rfl ⟨rfl, hp⟩
  refine wp_seq ?_
  refine wp_reg ?_
  refine st_boxO (cs := [.int .i64 cx0_Length, .int .u32 cx0_One, .int .u32 cx0_Two]) hf (by decide) hp rfl rfl rfl ?_
  clear hf; intro a w v1 hf hp0; clear hp; have hp := hp0; clear hp0
  replace hp : Hp _ _ _ (Res.obj 40 v1 [.int .i64 cx0_Length, .int .u32 cx0_One, .int .u32 cx0_Two] :: ow) := hp
  refine st_assign hf rfl rfl (by decide) ?_
  clear hf; intro a ha hf; clear ha
  refine st_nil hf ?_
  refine th_n ?_
  refine wp_seq ?_
  refine wp_seq ?_
  obtain ⟨S3, hp4, rd5, up6, bk7⟩ := Hp.lendO hp (i := 0) rfl
  have rl8 := rd5
  obtain ⟨z17, hz13, h⟩ := bnd h
  refine wp_cutN (fun a w => Fr 30 a [(29, .bool z17)] ∧ Hp S w0 w (Res.obj 40 v1 [.int .i64 cx0_Length, .int .u32 cx0_One, .int .u32 cx0_Two] :: ow)) ?_ ?_
  ·
   have hp := hp4.same (Same.drew w)
   rcases Bool.eq_false_or_eq_true (decide (cx0_Length < (2 : Int))) with hb10 | hb10
   ·
    have hb12 : ((decide (cx0_Length < (2 : Int))) || (decide ((7 : Int) < cx0_Length))) = true := by rw [hb10]; rfl
    skip
    have hb14 : (((decide (cx0_Length < (2 : Int))) || (decide ((7 : Int) < cx0_Length))) || (decide ((imin cx0_One cx0_Two) < (1 : Int)))) = true := by rw [hb12]; rfl
    skip
    replace hz13 := ifT hz13 hb14
    replace hz13 := Option.some.inj hz13
    refine dr_begin' _ (fun w' => ∃ l, Hp S3 w w' l) [] (by kernel_rfl) ?_
    refine dr_takeK 0 (optr v1 0) rfl hf rfl (fun w ⟨_, hp⟩ => ?_) ⟨_, hp⟩ ?_
    · exact st_fa (o' := 0) hf (by decide) (off := 0) (sz := 1) (by kernel_rfl) (by decide) rfl rfl (rl8.ob hp) rfl tk
    clear hf; intro a hf
    refine dr_takeK 1 (.int .i64 cx0_Length) rfl hf rfl (fun w ⟨_, hp⟩ => ?_) ⟨_, hp⟩ ?_
    · exact st_ldO (u := .int .i64 cx0_Length) hf (by decide) pl3 rfl rfl (rl8.ob hp) rfl tk
    clear hf; intro a hf
    refine dr_takeK 2 (.bool (decide (cx0_Length < (2 : Int)))) rfl hf rfl (fun w ⟨_, hp⟩ => ?_) ⟨_, hp⟩ ?_
    · exact st_ilss hf (by decide) rfl rfl rfl tk
    clear hf; intro a hf
    refine dr_takeK 3 (.bool (decide (cx0_Length < (2 : Int)))) rfl hf rfl (fun w ⟨_, hp⟩ => ?_) ⟨_, hp⟩ ?_
    · exact st_move hf rfl rfl (by decide) tk
    clear hf; intro a hf
    refine dr_outK 4 rfl hf rfl (wantN hf rfl rfl hb10) ⟨_, hp⟩ ?_
    clear hf; intro a hf
    refine dr_outK 5 rfl hf rfl (wantN hf rfl rfl hb10) ⟨_, hp⟩ ?_
    clear hf; intro a hf
    refine dr_outK 6 rfl hf rfl (wantN hf rfl rfl hb10) ⟨_, hp⟩ ?_
    clear hf; intro a hf
    refine dr_takeK 7 (.bool ((decide (cx0_Length < (2 : Int))) || (decide ((7 : Int) < cx0_Length)))) rfl hf rfl (fun w ⟨_, hp⟩ => ?_) ⟨_, hp⟩ ?_
    · exact st_pick (v := .bool ((decide (cx0_Length < (2 : Int))) || (decide ((7 : Int) < cx0_Length)))) hf rfl rfl (fun _ => by rw [show ((decide (cx0_Length < (2 : Int))) || (decide ((7 : Int) < cx0_Length))) = true from by rw [hb10]; rfl]; rfl) (fun hb' => absurd (hb10.symm.trans hb') (by decide)) (by decide) tk
    clear hf; intro a hf
    refine dr_takeK 8 (.bool ((decide (cx0_Length < (2 : Int))) || (decide ((7 : Int) < cx0_Length)))) rfl hf rfl (fun w ⟨_, hp⟩ => ?_) ⟨_, hp⟩ ?_
    · exact st_move hf rfl rfl (by decide) tk
    clear hf; intro a hf
    refine dr_outK 9 rfl hf rfl (wantN hf rfl rfl hb12) ⟨_, hp⟩ ?_
    clear hf; intro a hf
    refine dr_outK 10 rfl hf rfl (wantN hf rfl rfl hb12) ⟨_, hp⟩ ?_
    clear hf; intro a hf
    refine dr_outK 11 rfl hf rfl (wantN hf rfl rfl hb12) ⟨_, hp⟩ ?_
    clear hf; intro a hf
    refine dr_outK 12 rfl hf rfl (wantN hf rfl rfl hb12) ⟨_, hp⟩ ?_
    clear hf; intro a hf
    refine dr_outK 13 rfl hf rfl (wantN hf rfl rfl hb12) ⟨_, hp⟩ ?_
    clear hf; intro a hf
    refine dr_outK 14 rfl hf rfl (wantN hf rfl rfl hb12) ⟨_, hp⟩ ?_
    clear hf; intro a hf
    refine dr_takeK 15 (.bool (((decide (cx0_Length < (2 : Int))) || (decide ((7 : Int) < cx0_Length))) || (decide ((imin cx0_One cx0_Two) < (1 : Int))))) rfl hf rfl (fun w ⟨_, hp⟩ => ?_) ⟨_, hp⟩ ?_
    · exact st_pick (v := .bool (((decide (cx0_Length < (2 : Int))) || (decide ((7 : Int) < cx0_Length))) || (decide ((imin cx0_One cx0_Two) < (1 : Int))))) hf rfl rfl (fun _ => by rw [show (((decide (cx0_Length < (2 : Int))) || (decide ((7 : Int) < cx0_Length))) || (decide ((imin cx0_One cx0_Two) < (1 : Int)))) = true from by rw [hb12]; rfl]; rfl) (fun hb' => absurd (hb12.symm.trans hb') (by decide)) (by decide) tk
    clear hf; intro a hf
    refine dr_takeK 16 (.bool (((decide (cx0_Length < (2 : Int))) || (decide ((7 : Int) < cx0_Length))) || (decide ((imin cx0_One cx0_Two) < (1 : Int))))) rfl hf rfl (fun w ⟨_, hp⟩ => ?_) ⟨_, hp⟩ ?_
    · exact st_move hf rfl rfl (by decide) tk
    clear hf; intro a hf
    refine dr_outK 17 rfl hf rfl (wantN hf rfl rfl hb14) ⟨_, hp⟩ ?_
    clear hf; intro a hf
    refine dr_outK 18 rfl hf rfl (wantN hf rfl rfl hb14) ⟨_, hp⟩ ?_
    clear hf; intro a hf
    refine dr_outK 19 rfl hf rfl (wantN hf rfl rfl hb14) ⟨_, hp⟩ ?_
    clear hf; intro a hf
    refine dr_outK 20 rfl hf rfl (wantN hf rfl rfl hb14) ⟨_, hp⟩ ?_
    clear hf; intro a hf
    refine dr_outK 21 rfl hf rfl (wantN hf rfl rfl hb14) ⟨_, hp⟩ ?_
    clear hf; intro a hf
    refine dr_outK 22 rfl hf rfl (wantN hf rfl rfl hb14) ⟨_, hp⟩ ?_
    clear hf; intro a hf
    refine dr_outK 23 rfl hf rfl (wantN hf rfl rfl hb14) ⟨_, hp⟩ ?_
    clear hf; intro a hf
    refine dr_outK 24 rfl hf rfl (wantN hf rfl rfl hb14) ⟨_, hp⟩ ?_
    clear hf; intro a hf
    refine dr_outK 25 rfl hf rfl (wantN hf rfl rfl hb14) ⟨_, hp⟩ ?_
    clear hf; intro a hf
    refine dr_takeK 26 (.bool z17) rfl hf rfl (fun w ⟨_, hp⟩ => ?_) ⟨_, hp⟩ ?_
    · exact st_pick (v := .bool z17) hf rfl rfl (fun _ => by rw [← hz13]; rfl) (fun hb' => absurd (hb14.symm.trans hb') (by decide)) (by decide) tk
    clear hf; intro a hf
    refine dr_end (by kernel_rfl) ?_ _
    have hp := bk7 _ _ hp
    exact ⟨hf.sub ⟨rfl, trivial⟩, hp⟩
   skip
   rcases Bool.eq_false_or_eq_true ((decide (cx0_Length < (2 : Int))) || (decide ((7 : Int) < cx0_Length))) with hb12 | hb12
   ·
    have hb14 : (((decide (cx0_Length < (2 : Int))) || (decide ((7 : Int) < cx0_Length))) || (decide ((imin cx0_One cx0_Two) < (1 : Int)))) = true := by rw [hb12]; rfl
    skip
    replace hz13 := ifT hz13 hb14
    replace hz13 := Option.some.inj hz13
    refine dr_begin' _ (fun w' => ∃ l, Hp S3 w w' l) [] (by kernel_rfl) ?_
    refine dr_takeK 0 (optr v1 0) rfl hf rfl (fun w ⟨_, hp⟩ => ?_) ⟨_, hp⟩ ?_
    · exact st_fa (o' := 0) hf (by decide) (off := 0) (sz := 1) (by kernel_rfl) (by decide) rfl rfl (rl8.ob hp) rfl tk
    clear hf; intro a hf
    refine dr_takeK 1 (.int .i64 cx0_Length) rfl hf rfl (fun w ⟨_, hp⟩ => ?_) ⟨_, hp⟩ ?_
    · exact st_ldO (u := .int .i64 cx0_Length) hf (by decide) pl3 rfl rfl (rl8.ob hp) rfl tk
    clear hf; intro a hf
    refine dr_takeK 2 (.bool (decide (cx0_Length < (2 : Int)))) rfl hf rfl (fun w ⟨_, hp⟩ => ?_) ⟨_, hp⟩ ?_
    · exact st_ilss hf (by decide) rfl rfl rfl tk
    clear hf; intro a hf
    refine dr_takeK 3 (.bool (decide (cx0_Length < (2 : Int)))) rfl hf rfl (fun w ⟨_, hp⟩ => ?_) ⟨_, hp⟩ ?_
    · exact st_move hf rfl rfl (by decide) tk
    clear hf; intro a hf
    refine dr_takeK 4 (optr v1 0) rfl hf (wantY hf rfl rfl hb10) (fun w ⟨_, hp⟩ => ?_) ⟨_, hp⟩ ?_
    · exact st_fa (o' := 0) hf (by decide) (off := 0) (sz := 1) (by kernel_rfl) (by decide) (wantY hf rfl rfl hb10) rfl (rl8.ob hp) rfl tk
    clear hf; intro a hf
    refine dr_takeK 5 (.int .i64 cx0_Length) rfl hf (wantY hf rfl rfl hb10) (fun w ⟨_, hp⟩ => ?_) ⟨_, hp⟩ ?_
    · exact st_ldO (u := .int .i64 cx0_Length) hf (by decide) pl3 (wantY hf rfl rfl hb10) rfl (rl8.ob hp) rfl tk
    clear hf; intro a hf
    refine dr_takeK 6 (.bool (decide ((7 : Int) < cx0_Length))) rfl hf (wantY hf rfl rfl hb10) (fun w ⟨_, hp⟩ => ?_) ⟨_, hp⟩ ?_
    · exact st_igtr hf (by decide) (wantY hf rfl rfl hb10) rfl rfl tk
    clear hf; intro a hf
    refine dr_takeK 7 (.bool ((decide (cx0_Length < (2 : Int))) || (decide ((7 : Int) < cx0_Length)))) rfl hf rfl (fun w ⟨_, hp⟩ => ?_) ⟨_, hp⟩ ?_
    · exact st_pick (v := .bool ((decide (cx0_Length < (2 : Int))) || (decide ((7 : Int) < cx0_Length)))) hf rfl rfl (fun hb' => absurd (hb10.symm.trans hb') (by decide)) (fun _ => by rw [show ((decide (cx0_Length < (2 : Int))) || (decide ((7 : Int) < cx0_Length))) = (decide ((7 : Int) < cx0_Length)) from by rw [hb10]; rfl]; rfl) (by decide) tk
    clear hf; intro a hf
    refine dr_takeK 8 (.bool ((decide (cx0_Length < (2 : Int))) || (decide ((7 : Int) < cx0_Length)))) rfl hf rfl (fun w ⟨_, hp⟩ => ?_) ⟨_, hp⟩ ?_
    · exact st_move hf rfl rfl (by decide) tk
    clear hf; intro a hf
    refine dr_outK 9 rfl hf rfl (wantN hf rfl rfl hb12) ⟨_, hp⟩ ?_
    clear hf; intro a hf
    refine dr_outK 10 rfl hf rfl (wantN hf rfl rfl hb12) ⟨_, hp⟩ ?_
    clear hf; intro a hf
    refine dr_outK 11 rfl hf rfl (wantN hf rfl rfl hb12) ⟨_, hp⟩ ?_
    clear hf; intro a hf
    refine dr_outK 12 rfl hf rfl (wantN hf rfl rfl hb12) ⟨_, hp⟩ ?_
    clear hf; intro a hf
    refine dr_outK 13 rfl hf rfl (wantN hf rfl rfl hb12) ⟨_, hp⟩ ?_
    clear hf; intro a hf
    refine dr_outK 14 rfl hf rfl (wantN hf rfl rfl hb12) ⟨_, hp⟩ ?_
    clear hf; intro a hf
    refine dr_takeK 15 (.bool (((decide (cx0_Length < (2 : Int))) || (decide ((7 : Int) < cx0_Length))) || (decide ((imin cx0_One cx0_Two) < (1 : Int))))) rfl hf rfl (fun w ⟨_, hp⟩ => ?_) ⟨_, hp⟩ ?_
    · exact st_pick (v := .bool (((decide (cx0_Length < (2 : Int))) || (decide ((7 : Int) < cx0_Length))) || (decide ((imin cx0_One cx0_Two) < (1 : Int))))) hf rfl rfl (fun _ => by rw [show (((decide (cx0_Length < (2 : Int))) || (decide ((7 : Int) < cx0_Length))) || (decide ((imin cx0_One cx0_Two) < (1 : Int)))) = true from by rw [hb12]; rfl]; rfl) (fun hb' => absurd (hb12.symm.trans hb') (by decide)) (by decide) tk
    clear hf; intro a hf
    refine dr_takeK 16 (.bool (((decide (cx0_Length < (2 : Int))) || (decide ((7 : Int) < cx0_Length))) || (decide ((imin cx0_One cx0_Two) < (1 : Int))))) rfl hf rfl (fun w ⟨_, hp⟩ => ?_) ⟨_, hp⟩ ?_
    · exact st_move hf rfl rfl (by decide) tk
    clear hf; intro a hf
    refine dr_outK 17 rfl hf rfl (wantN hf rfl rfl hb14) ⟨_, hp⟩ ?_
    clear hf; intro a hf
    refine dr_outK 18 rfl hf rfl (wantN hf rfl rfl hb14) ⟨_, hp⟩ ?_
    clear hf; intro a hf
    refine dr_outK 19 rfl hf rfl (wantN hf rfl rfl hb14) ⟨_, hp⟩ ?_
    clear hf; intro a hf
    refine dr_outK 20 rfl hf rfl (wantN hf rfl rfl hb14) ⟨_, hp⟩ ?_
    clear hf; intro a hf
    refine dr_outK 21 rfl hf rfl (wantN hf rfl rfl hb14) ⟨_, hp⟩ ?_
    clear hf; intro a hf
    refine dr_outK 22 rfl hf rfl (wantN hf rfl rfl hb14) ⟨_, hp⟩ ?_
    clear hf; intro a hf
    refine dr_outK 23 rfl hf rfl (wantN hf rfl rfl hb14) ⟨_, hp⟩ ?_
    clear hf; intro a hf
    refine dr_outK 24 rfl hf rfl (wantN hf rfl rfl hb14) ⟨_, hp⟩ ?_
    clear hf; intro a hf
    refine dr_outK 25 rfl hf rfl (wantN hf rfl rfl hb14) ⟨_, hp⟩ ?_
    clear hf; intro a hf
    refine dr_takeK 26 (.bool z17) rfl hf rfl (fun w ⟨_, hp⟩ => ?_) ⟨_, hp⟩ ?_
    · exact st_pick (v := .bool z17) hf rfl rfl (fun _ => by rw [← hz13]; rfl) (fun hb' => absurd (hb14.symm.trans hb') (by decide)) (by decide) tk
    clear hf; intro a hf
    refine dr_end (by kernel_rfl) ?_ _
    have hp := bk7 _ _ hp
    exact ⟨hf.sub ⟨rfl, trivial⟩, hp⟩
   skip
   rcases Bool.eq_false_or_eq_true (((decide (cx0_Length < (2 : Int))) || (decide ((7 : Int) < cx0_Length))) || (decide ((imin cx0_One cx0_Two) < (1 : Int)))) with hb14 | hb14
   ·
    replace hz13 := ifT hz13 hb14
    replace hz13 := Option.some.inj hz13
    refine dr_begin' _ (fun w' => ∃ l, Hp S3 w w' l) [] (by kernel_rfl) ?_
    refine dr_takeK 0 (optr v1 0) rfl hf rfl (fun w ⟨_, hp⟩ => ?_) ⟨_, hp⟩ ?_
    · exact st_fa (o' := 0) hf (by decide) (off := 0) (sz := 1) (by kernel_rfl) (by decide) rfl rfl (rl8.ob hp) rfl tk
    clear hf; intro a hf
    refine dr_takeK 1 (.int .i64 cx0_Length) rfl hf rfl (fun w ⟨_, hp⟩ => ?_) ⟨_, hp⟩ ?_
    · exact st_ldO (u := .int .i64 cx0_Length) hf (by decide) pl3 rfl rfl (rl8.ob hp) rfl tk
    clear hf; intro a hf
    refine dr_takeK 2 (.bool (decide (cx0_Length < (2 : Int)))) rfl hf rfl (fun w ⟨_, hp⟩ => ?_) ⟨_, hp⟩ ?_
    · exact st_ilss hf (by decide) rfl rfl rfl tk
    clear hf; intro a hf
    refine dr_takeK 3 (.bool (decide (cx0_Length < (2 : Int)))) rfl hf rfl (fun w ⟨_, hp⟩ => ?_) ⟨_, hp⟩ ?_
    · exact st_move hf rfl rfl (by decide) tk
    clear hf; intro a hf
    refine dr_takeK 4 (optr v1 0) rfl hf (wantY hf rfl rfl hb10) (fun w ⟨_, hp⟩ => ?_) ⟨_, hp⟩ ?_
    · exact st_fa (o' := 0) hf (by decide) (off := 0) (sz := 1) (by kernel_rfl) (by decide) (wantY hf rfl rfl hb10) rfl (rl8.ob hp) rfl tk
    clear hf; intro a hf
    refine dr_takeK 5 (.int .i64 cx0_Length) rfl hf (wantY hf rfl rfl hb10) (fun w ⟨_, hp⟩ => ?_) ⟨_, hp⟩ ?_
    · exact st_ldO (u := .int .i64 cx0_Length) hf (by decide) pl3 (wantY hf rfl rfl hb10) rfl (rl8.ob hp) rfl tk
    clear hf; intro a hf
    refine dr_takeK 6 (.bool (decide ((7 : Int) < cx0_Length))) rfl hf (wantY hf rfl rfl hb10) (fun w ⟨_, hp⟩ => ?_) ⟨_, hp⟩ ?_
    · exact st_igtr hf (by decide) (wantY hf rfl rfl hb10) rfl rfl tk
    clear hf; intro a hf
    refine dr_takeK 7 (.bool ((decide (cx0_Length < (2 : Int))) || (decide ((7 : Int) < cx0_Length)))) rfl hf rfl (fun w ⟨_, hp⟩ => ?_) ⟨_, hp⟩ ?_
    · exact st_pick (v := .bool ((decide (cx0_Length < (2 : Int))) || (decide ((7 : Int) < cx0_Length)))) hf rfl rfl (fun hb' => absurd (hb10.symm.trans hb') (by decide)) (fun _ => by rw [show ((decide (cx0_Length < (2 : Int))) || (decide ((7 : Int) < cx0_Length))) = (decide ((7 : Int) < cx0_Length)) from by rw [hb10]; rfl]; rfl) (by decide) tk
    clear hf; intro a hf
    refine dr_takeK 8 (.bool ((decide (cx0_Length < (2 : Int))) || (decide ((7 : Int) < cx0_Length)))) rfl hf rfl (fun w ⟨_, hp⟩ => ?_) ⟨_, hp⟩ ?_
    · exact st_move hf rfl rfl (by decide) tk
    clear hf; intro a hf
    refine dr_takeK 9 (optr v1 1) rfl hf (wantY hf rfl rfl hb12) (fun w ⟨_, hp⟩ => ?_) ⟨_, hp⟩ ?_
    · exact st_fa (o' := 1) hf (by decide) (off := 1) (sz := 1) (by kernel_rfl) (by decide) (wantY hf rfl rfl hb12) rfl (rl8.ob hp) rfl tk
    clear hf; intro a hf
    refine dr_takeK 10 (.int .u32 cx0_One) rfl hf (wantY hf rfl rfl hb12) (fun w ⟨_, hp⟩ => ?_) ⟨_, hp⟩ ?_
    · exact st_ldO (u := .int .u32 cx0_One) hf (by decide) pl22 (wantY hf rfl rfl hb12) rfl (rl8.ob hp) rfl tk
    clear hf; intro a hf
    refine dr_takeK 11 (optr v1 2) rfl hf (wantY hf rfl rfl hb12) (fun w ⟨_, hp⟩ => ?_) ⟨_, hp⟩ ?_
    · exact st_fa (o' := 2) hf (by decide) (off := 2) (sz := 1) (by kernel_rfl) (by decide) (wantY hf rfl rfl hb12) rfl (rl8.ob hp) rfl tk
    clear hf; intro a hf
    refine dr_takeK 12 (.int .u32 cx0_Two) rfl hf (wantY hf rfl rfl hb12) (fun w ⟨_, hp⟩ => ?_) ⟨_, hp⟩ ?_
    · exact st_ldO (u := .int .u32 cx0_Two) hf (by decide) pl22 (wantY hf rfl rfl hb12) rfl (rl8.ob hp) rfl tk
    clear hf; intro a hf
    refine dr_takeK 13 (.int .u32 (imin cx0_One cx0_Two)) rfl hf (wantY hf rfl rfl hb12) (fun w ⟨_, hp⟩ => ?_) ⟨_, hp⟩ ?_
    · exact st_imin hf (by decide) (wantY hf rfl rfl hb12) rfl rfl tk
    clear hf; intro a hf
    refine dr_takeK 14 (.bool (decide ((imin cx0_One cx0_Two) < (1 : Int)))) rfl hf (wantY hf rfl rfl hb12) (fun w ⟨_, hp⟩ => ?_) ⟨_, hp⟩ ?_
    · exact st_ilss hf (by decide) (wantY hf rfl rfl hb12) rfl rfl tk
    clear hf; intro a hf
    refine dr_takeK 15 (.bool (((decide (cx0_Length < (2 : Int))) || (decide ((7 : Int) < cx0_Length))) || (decide ((imin cx0_One cx0_Two) < (1 : Int))))) rfl hf rfl (fun w ⟨_, hp⟩ => ?_) ⟨_, hp⟩ ?_
    · exact st_pick (v := .bool (((decide (cx0_Length < (2 : Int))) || (decide ((7 : Int) < cx0_Length))) || (decide ((imin cx0_One cx0_Two) < (1 : Int))))) hf rfl rfl (fun hb' => absurd (hb12.symm.trans hb') (by decide)) (fun _ => by rw [show (((decide (cx0_Length < (2 : Int))) || (decide ((7 : Int) < cx0_Length))) || (decide ((imin cx0_One cx0_Two) < (1 : Int)))) = (decide ((imin cx0_One cx0_Two) < (1 : Int))) from by rw [hb12]; rfl]; rfl) (by decide) tk
    clear hf; intro a hf
    refine dr_takeK 16 (.bool (((decide (cx0_Length < (2 : Int))) || (decide ((7 : Int) < cx0_Length))) || (decide ((imin cx0_One cx0_Two) < (1 : Int))))) rfl hf rfl (fun w ⟨_, hp⟩ => ?_) ⟨_, hp⟩ ?_
    · exact st_move hf rfl rfl (by decide) tk
    clear hf; intro a hf
    refine dr_outK 17 rfl hf rfl (wantN hf rfl rfl hb14) ⟨_, hp⟩ ?_
    clear hf; intro a hf
    refine dr_outK 18 rfl hf rfl (wantN hf rfl rfl hb14) ⟨_, hp⟩ ?_
    clear hf; intro a hf
    refine dr_outK 19 rfl hf rfl (wantN hf rfl rfl hb14) ⟨_, hp⟩ ?_
    clear hf; intro a hf
    refine dr_outK 20 rfl hf rfl (wantN hf rfl rfl hb14) ⟨_, hp⟩ ?_
    clear hf; intro a hf
    refine dr_outK 21 rfl hf rfl (wantN hf rfl rfl hb14) ⟨_, hp⟩ ?_
    clear hf; intro a hf
    refine dr_outK 22 rfl hf rfl (wantN hf rfl rfl hb14) ⟨_, hp⟩ ?_
    clear hf; intro a hf
    refine dr_outK 23 rfl hf rfl (wantN hf rfl rfl hb14) ⟨_, hp⟩ ?_
    clear hf; intro a hf
    refine dr_outK 24 rfl hf rfl (wantN hf rfl rfl hb14) ⟨_, hp⟩ ?_
    clear hf; intro a hf
    refine dr_outK 25 rfl hf rfl (wantN hf rfl rfl hb14) ⟨_, hp⟩ ?_
    clear hf; intro a hf
    refine dr_takeK 26 (.bool z17) rfl hf rfl (fun w ⟨_, hp⟩ => ?_) ⟨_, hp⟩ ?_
    · exact st_pick (v := .bool z17) hf rfl rfl (fun _ => by rw [← hz13]; rfl) (fun hb' => absurd (hb14.symm.trans hb') (by decide)) (by decide) tk
    clear hf; intro a hf
    refine dr_end (by kernel_rfl) ?_ _
    have hp := bk7 _ _ hp
    exact ⟨hf.sub ⟨rfl, trivial⟩, hp⟩
   skip
   replace hz13 := ifF hz13 hb14
   obtain ⟨q15, hcall16, hz13⟩ := bnd hz13
   replace hz13 := Option.some.inj hz13
   refine dr_begin' _ (fun w' => ∃ l, Hp S3 w w' l) [] (by kernel_rfl) ?_
   refine dr_takeK 0 (optr v1 0) rfl hf rfl (fun w ⟨_, hp⟩ => ?_) ⟨_, hp⟩ ?_
   · exact st_fa (o' := 0) hf (by decide) (off := 0) (sz := 1) (by kernel_rfl) (by decide) rfl rfl (rl8.ob hp) rfl tk
   clear hf; intro a hf
   refine dr_takeK 1 (.int .i64 cx0_Length) rfl hf rfl (fun w ⟨_, hp⟩ => ?_) ⟨_, hp⟩ ?_
   · exact st_ldO (u := .int .i64 cx0_Length) hf (by decide) pl3 rfl rfl (rl8.ob hp) rfl tk
   clear hf; intro a hf
   refine dr_takeK 2 (.bool (decide (cx0_Length < (2 : Int)))) rfl hf rfl (fun w ⟨_, hp⟩ => ?_) ⟨_, hp⟩ ?_
   · exact st_ilss hf (by decide) rfl rfl rfl tk
   clear hf; intro a hf
   refine dr_takeK 3 (.bool (decide (cx0_Length < (2 : Int)))) rfl hf rfl (fun w ⟨_, hp⟩ => ?_) ⟨_, hp⟩ ?_
   · exact st_move hf rfl rfl (by decide) tk
   clear hf; intro a hf
   refine dr_takeK 4 (optr v1 0) rfl hf (wantY hf rfl rfl hb10) (fun w ⟨_, hp⟩ => ?_) ⟨_, hp⟩ ?_
   · exact st_fa (o' := 0) hf (by decide) (off := 0) (sz := 1) (by kernel_rfl) (by decide) (wantY hf rfl rfl hb10) rfl (rl8.ob hp) rfl tk
   clear hf; intro a hf
   refine dr_takeK 5 (.int .i64 cx0_Length) rfl hf (wantY hf rfl rfl hb10) (fun w ⟨_, hp⟩ => ?_) ⟨_, hp⟩ ?_
   · exact st_ldO (u := .int .i64 cx0_Length) hf (by decide) pl3 (wantY hf rfl rfl hb10) rfl (rl8.ob hp) rfl tk
   clear hf; intro a hf
   refine dr_takeK 6 (.bool (decide ((7 : Int) < cx0_Length))) rfl hf (wantY hf rfl rfl hb10) (fun w ⟨_, hp⟩ => ?_) ⟨_, hp⟩ ?_
   · exact st_igtr hf (by decide) (wantY hf rfl rfl hb10) rfl rfl tk
   clear hf; intro a hf
   refine dr_takeK 7 (.bool ((decide (cx0_Length < (2 : Int))) || (decide ((7 : Int) < cx0_Length)))) rfl hf rfl (fun w ⟨_, hp⟩ => ?_) ⟨_, hp⟩ ?_
   · exact st_pick (v := .bool ((decide (cx0_Length < (2 : Int))) || (decide ((7 : Int) < cx0_Length)))) hf rfl rfl (fun hb' => absurd (hb10.symm.trans hb') (by decide)) (fun _ => by rw [show ((decide (cx0_Length < (2 : Int))) || (decide ((7 : Int) < cx0_Length))) = (decide ((7 : Int) < cx0_Length)) from by rw [hb10]; rfl]; rfl) (by decide) tk
   clear hf; intro a hf
   refine dr_takeK 8 (.bool ((decide (cx0_Length < (2 : Int))) || (decide ((7 : Int) < cx0_Length)))) rfl hf rfl (fun w ⟨_, hp⟩ => ?_) ⟨_, hp⟩ ?_
   · exact st_move hf rfl rfl (by decide) tk
   clear hf; intro a hf
   refine dr_takeK 9 (optr v1 1) rfl hf (wantY hf rfl rfl hb12) (fun w ⟨_, hp⟩ => ?_) ⟨_, hp⟩ ?_
   · exact st_fa (o' := 1) hf (by decide) (off := 1) (sz := 1) (by kernel_rfl) (by decide) (wantY hf rfl rfl hb12) rfl (rl8.ob hp) rfl tk
   clear hf; intro a hf
   refine dr_takeK 10 (.int .u32 cx0_One) rfl hf (wantY hf rfl rfl hb12) (fun w ⟨_, hp⟩ => ?_) ⟨_, hp⟩ ?_
   · exact st_ldO (u := .int .u32 cx0_One) hf (by decide) pl22 (wantY hf rfl rfl hb12) rfl (rl8.ob hp) rfl tk
   clear hf; intro a hf
   refine dr_takeK 11 (optr v1 2) rfl hf (wantY hf rfl rfl hb12) (fun w ⟨_, hp⟩ => ?_) ⟨_, hp⟩ ?_
   · exact st_fa (o' := 2) hf (by decide) (off := 2) (sz := 1) (by kernel_rfl) (by decide) (wantY hf rfl rfl hb12) rfl (rl8.ob hp) rfl tk
   clear hf; intro a hf
   refine dr_takeK 12 (.int .u32 cx0_Two) rfl hf (wantY hf rfl rfl hb12) (fun w ⟨_, hp⟩ => ?_) ⟨_, hp⟩ ?_
   · exact st_ldO (u := .int .u32 cx0_Two) hf (by decide) pl22 (wantY hf rfl rfl hb12) rfl (rl8.ob hp) rfl tk
   clear hf; intro a hf
   refine dr_takeK 13 (.int .u32 (imin cx0_One cx0_Two)) rfl hf (wantY hf rfl rfl hb12) (fun w ⟨_, hp⟩ => ?_) ⟨_, hp⟩ ?_
   · exact st_imin hf (by decide) (wantY hf rfl rfl hb12) rfl rfl tk
   clear hf; intro a hf
   refine dr_takeK 14 (.bool (decide ((imin cx0_One cx0_Two) < (1 : Int)))) rfl hf (wantY hf rfl rfl hb12) (fun w ⟨_, hp⟩ => ?_) ⟨_, hp⟩ ?_
   · exact st_ilss hf (by decide) (wantY hf rfl rfl hb12) rfl rfl tk
   clear hf; intro a hf
   refine dr_takeK 15 (.bool (((decide (cx0_Length < (2 : Int))) || (decide ((7 : Int) < cx0_Length))) || (decide ((imin cx0_One cx0_Two) < (1 : Int))))) rfl hf rfl (fun w ⟨_, hp⟩ => ?_) ⟨_, hp⟩ ?_
   · exact st_pick (v := .bool (((decide (cx0_Length < (2 : Int))) || (decide ((7 : Int) < cx0_Length))) || (decide ((imin cx0_One cx0_Two) < (1 : Int))))) hf rfl rfl (fun hb' => absurd (hb12.symm.trans hb') (by decide)) (fun _ => by rw [show (((decide (cx0_Length < (2 : Int))) || (decide ((7 : Int) < cx0_Length))) || (decide ((imin cx0_One cx0_Two) < (1 : Int)))) = (decide ((imin cx0_One cx0_Two) < (1 : Int))) from by rw [hb12]; rfl]; rfl) (by decide) tk
   clear hf; intro a hf
   refine dr_takeK 16 (.bool (((decide (cx0_Length < (2 : Int))) || (decide ((7 : Int) < cx0_Length))) || (decide ((imin cx0_One cx0_Two) < (1 : Int))))) rfl hf rfl (fun w ⟨_, hp⟩ => ?_) ⟨_, hp⟩ ?_
   · exact st_move hf rfl rfl (by decide) tk
   clear hf; intro a hf
   refine dr_takeK 17 (optr v1 1) rfl hf (wantY hf rfl rfl hb14) (fun w ⟨_, hp⟩ => ?_) ⟨_, hp⟩ ?_
   · exact st_fa (o' := 1) hf (by decide) (off := 1) (sz := 1) (by kernel_rfl) (by decide) (wantY hf rfl rfl hb14) rfl (rl8.ob hp) rfl tk
   clear hf; intro a hf
   refine dr_takeK 18 (.int .u32 cx0_One) rfl hf (wantY hf rfl rfl hb14) (fun w ⟨_, hp⟩ => ?_) ⟨_, hp⟩ ?_
   · exact st_ldO (u := .int .u32 cx0_One) hf (by decide) pl22 (wantY hf rfl rfl hb14) rfl (rl8.ob hp) rfl tk
   clear hf; intro a hf
   refine dr_takeK 19 (optr v1 2) rfl hf (wantY hf rfl rfl hb14) (fun w ⟨_, hp⟩ => ?_) ⟨_, hp⟩ ?_
   · exact st_fa (o' := 2) hf (by decide) (off := 2) (sz := 1) (by kernel_rfl) (by decide) (wantY hf rfl rfl hb14) rfl (rl8.ob hp) rfl tk
   clear hf; intro a hf
   refine dr_takeK 20 (.int .u32 cx0_Two) rfl hf (wantY hf rfl rfl hb14) (fun w ⟨_, hp⟩ => ?_) ⟨_, hp⟩ ?_
   · exact st_ldO (u := .int .u32 cx0_Two) hf (by decide) pl22 (wantY hf rfl rfl hb14) rfl (rl8.ob hp) rfl tk
   clear hf; intro a hf
   refine dr_takeK 21 (.int .u32 (imax cx0_One cx0_Two)) rfl hf (wantY hf rfl rfl hb14) (fun w ⟨_, hp⟩ => ?_) ⟨_, hp⟩ ?_
   · exact st_imax hf (by decide) (wantY hf rfl rfl hb14) rfl rfl tk
   clear hf; intro a hf
   refine dr_takeK 23 (optr v1 0) rfl hf (wantY hf rfl rfl hb14) (fun w ⟨_, hp⟩ => ?_) ⟨_, hp⟩ ?_
   · exact st_fa (o' := 0) hf (by decide) (off := 0) (sz := 1) (by kernel_rfl) (by decide) (wantY hf rfl rfl hb14) rfl (rl8.ob hp) rfl tk
   clear hf; intro a hf
   refine dr_takeK 24 (.int .i64 cx0_Length) rfl hf (wantY hf rfl rfl hb14) (fun w ⟨_, hp⟩ => ?_) ⟨_, hp⟩ ?_
   · exact st_ldO (u := .int .i64 cx0_Length) hf (by decide) pl3 (wantY hf rfl rfl hb14) rfl (rl8.ob hp) rfl tk
   clear hf; intro a hf
   refine dr_one 22 rfl (by kernel_rfl) ?_
   refine st_call hf (by decide) Try.func61 rfl rfl (wantY hf rfl rfl hb14) rfl rfl (f_math_bits_Len32_c hp _ hcall16) ?_
   rintro _ w ⟨rfl, hp0⟩
   clear hp; have hp := hp0; clear hp0
   replace hp : Hp _ _ _ (ow) := hp
   refine ⟨_, rfl, ?_⟩
   clear hf; intro a hf
   refine nx hf (fun _ _ => ⟨_, hp⟩) ?_
   refine dr_takeK 25 (.bool (q15 != cx0_Length)) rfl hf (wantY hf rfl rfl hb14) (fun w ⟨_, hp⟩ => ?_) ⟨_, hp⟩ ?_
   · exact st_ineq hf (by decide) (wantY hf rfl rfl hb14) rfl rfl tk
   clear hf; intro a hf
   refine dr_takeK 26 (.bool z17) rfl hf rfl (fun w ⟨_, hp⟩ => ?_) ⟨_, hp⟩ ?_
   · exact st_pick (v := .bool z17) hf rfl rfl (fun hb' => absurd (hb14.symm.trans hb') (by decide)) (fun _ => by rw [← hz13]; rfl) (by decide) tk
   clear hf; intro a hf
   refine dr_end (by kernel_rfl) ?_ _
   have hp := bk7 _ _ hp
   exact ⟨hf.sub ⟨rfl, trivial⟩, hp⟩
  rintro a w ⟨hf, hp⟩
  refine th_n ?_
  refine wp_if hf rfl (fun hb => ?_) (fun hb => ?_)
  ·
   replace h := ifT h hb
   refine wp_seq ?_
   refine wp_reg ?_
   refine st_assign hf rfl rfl (by decide) ?_
   clear hf; intro a ha hf; clear ha
   refine st_nil hf ?_
   refine th_n ?_
   refine wp_ret ?_
   refine th_r ?_
   obtain rfl := Option.some.inj h
   have hp : Hp _ _ _ (ow) := Hp.sel (pre := [Res.obj 40 v1 [.int .i64 cx0_Length, .int .u32 cx0_One, .int .u32 cx0_Two]]) (tail := ow) (rs' := []) hp [] (by decide) (by simp) rfl
   exact ⟨rfl, ⟨hf.sub ⟨rfl, trivial⟩, hp⟩⟩
  replace h := ifF h hb
  refine wp_skip ?_
  refine th_n ?_
  refine wp_seq ?_
  refine wp_reg ?_
  refine st_assign hf rfl rfl (by decide) ?_
  clear hf; intro a ha hf; clear ha
  refine st_nil hf ?_
  refine th_n ?_
  refine wp_ret ?_
  obtain rfl := Option.some.inj h
  have hp : Hp _ _ _ (ow) := Hp.sel (pre := [Res.obj 40 v1 [.int .i64 cx0_Length, .int .u32 cx0_One, .int .u32 cx0_Two]]) (tail := ow) (rs' := []) hp [] (by decide) (by simp) rfl
  exact ⟨rfl, ⟨hf.sub ⟨rfl, trivial⟩, hp⟩⟩

noncomputable def f_grid_within (xx0 : Fl) : Option Bool := (some ((fge xx0 (Fl.bits 13875590451928498176)) && (fle xx0 (Fl.bits 4652218415073722368))))
theorem f_grid_within_c {S : Nat → Prop} {w0 w : World} {ow : List Res} (hp : Hp S w0 w ow) (bxx0 : Nat) (xx0 : Fl) (hxx0 : xx0.rep bxx0) {r : Bool} (h : f_grid_within xx0 = some r) :
    Calls Try.prog 71 #[.float .f64 bxx0] w (fun e w' => e = .returned (.bool r) ∧ Hp S w0 w' (ow)) := by
  unfold f_grid_within at h
  refine enter (n := 9) (args := [.float .f64 bxx0]) Try.func71 rfl rfl (Nat.le_of_ble_eq_true rfl) fun a hf => ?_
  replace hf : Fr 9 a [(0, .float .f64 bxx0)] := hf
  refine wp_mono (Q := fun e a w => e = .ret ∧ Fr 9 a [(2, .bool r)] ∧ Hp S w0 w (ow)) ?_ ?_
  rotate_left
  · rintro e a w ⟨rfl, hf, hp⟩
    exact ret1 hf rfl rfl ⟨rfl, hp⟩
  refine wp_seq ?_
  refine wp_reg ?_
  refine st_assign hf rfl rfl (by decide) ?_
  clear hf; intro a ha hf; clear ha
  refine st_nil hf ?_
  refine th_n ?_
  refine wp_seq ?_
  refine wp_reg ?_
  refine st_move hf rfl rfl (by decide) ?_
  clear hf; intro a ha hf; clear ha
  refine st_fcmp (r_fge (fx := xx0) (fy := (Fl.bits 13875590451928498176)) hxx0 rfl) hf (by decide) rfl rfl rfl ?_
  clear hf; intro a ha hf; clear ha
  refine st_move hf rfl rfl (by decide) ?_
  clear hf; intro a ha hf; clear ha
  refine wpList_cut 3 (fun a w => Fr 9 a [(8, .bool ((fge xx0 (Fl.bits 13875590451928498176)) && (fle xx0 (Fl.bits 4652218415073722368))))] ∧ Hp S w0 w (ow)) ?_ ?_
  · rcases Bool.eq_false_or_eq_true (fge xx0 (Fl.bits 13875590451928498176)) with hb2 | hb2
    · skip
      refine st_move hf (wantY hf rfl rfl hb2) rfl (by decide) ?_
      clear hf; intro a ha hf; clear ha
      refine st_fcmp (r_fle (fx := xx0) (fy := (Fl.bits 4652218415073722368)) hxx0 rfl) hf (by decide) (wantY hf rfl rfl hb2) rfl rfl ?_
      clear hf; intro a ha hf; clear ha
      refine st_pick (v := .bool (fle xx0 (Fl.bits 4652218415073722368))) hf rfl rfl (fun hb' => ?_) (fun hb' => ?_) (by decide) ?_
      · rfl
      · exact absurd (hb2.symm.trans hb') (by decide)
      clear hf; intro a ha hf; clear ha
      refine st_nil hf (th_n ?_)
      exact ⟨hf.sub ⟨(by rw [hb2]; rfl), trivial⟩, hp⟩
    refine st_skip hf (wantN hf rfl rfl hb2) rfl (by decide) ?_ rfl
    clear hf; intro a hf
    refine st_skip hf (wantN hf rfl rfl hb2) rfl (by decide) ?_ rfl
    clear hf; intro a hf
    refine st_pick (v := .bool false) hf rfl rfl (fun hb' => ?_) (fun hb' => ?_) (by decide) ?_
    · exact absurd (hb2.symm.trans hb') (by decide)
    · rfl
    clear hf; intro a ha hf; clear ha
    refine st_nil hf (th_n ?_)
    exact ⟨hf.sub ⟨(by rw [hb2]; rfl), trivial⟩, hp⟩
  rintro a w ⟨hf, hp⟩
  refine st_assign hf rfl rfl (by decide) ?_
  clear hf; intro a ha hf; clear ha
  refine st_nil hf ?_
  refine th_n ?_
  refine wp_ret ?_
  obtain rfl := Option.some.inj h
  exact ⟨rfl, ⟨hf.sub ⟨rfl, trivial⟩, hp⟩⟩

noncomputable def f_math_Floor (xx0 : Fl) : Option Fl := (some (fint Ieee.Toward.down xx0))
theorem f_math_Floor_c {S : Nat → Prop} {w0 w : World} {ow : List Res} (hp : Hp S w0 w ow) (bxx0 : Nat) (xx0 : Fl) (hxx0 : xx0.rep bxx0) {r : Fl} (h : f_math_Floor xx0 = some r) :
    Calls Try.prog 72 #[.float .f64 bxx0] w (fun e w' => ∃ (b0 : Nat), e = .returned (.float .f64 b0) ∧ Fl.rep b0 r ∧ Hp S w0 w' (ow)) := by
  unfold f_math_Floor at h
  refine enter (n := 7) (args := [.float .f64 bxx0]) Try.func72 rfl rfl (Nat.le_of_ble_eq_true rfl) fun a hf => ?_
  replace hf : Fr 7 a [(0, .float .f64 bxx0)] := hf
  refine wp_mono (Q := fun e a w => e = .ret ∧ ∃ (b0 : Nat), Fr 7 a [(2, .float .f64 b0)] ∧ Fl.rep b0 r ∧ Hp S w0 w (ow)) ?_ ?_
  rotate_left
  · rintro e a w ⟨rfl, x0, hf, y0, hp⟩
    exact ret1 hf rfl rfl ⟨x0, rfl, y0, hp⟩
  refine wp_seq ?_
  refine wp_reg ?_
  refine st_assign hf rfl rfl (by decide) ?_
  clear hf; intro a ha hf; clear ha
  refine st_nil hf ?_
  refine th_n ?_
  refine wp_seq ?_
  refine wp_if hf rfl (fun hb => ?_) (fun hb => ?_)
  rotate_left
  · exact absurd hb (by decide)
  refine wp_seq ?_
  refine wp_reg ?_
  refine st_move hf rfl rfl (by decide) ?_
  clear hf; intro a ha hf; clear ha
  refine st_fint (fx := xx0) (nm := "math.archFloor") (way := Ieee.Toward.down) (f := 73) hf (by decide) hp Try.func73 rfl rfl (by kernel_rfl) (by kernel_rfl) rfl rfl rfl hxx0 ?_
  clear hf; intro a w bb1 y2 hf hp0; clear hp; have hp := hp0; clear hp0
  replace hp : Hp _ _ _ (ow) := hp
  refine st_assign hf rfl rfl (by decide) ?_
  clear hf; intro a ha hf; clear ha
  refine st_nil hf ?_
  refine th_n ?_
  refine wp_ret ?_
  refine th_r ?_
  obtain rfl := Option.some.inj h
  exact ⟨rfl, ⟨_, hf.sub ⟨rfl, trivial⟩, y2, hp⟩⟩

noncomputable def f_grid_On (xx0 : Fl) : Option Bool := ((f_grid_within xx0).bind fun q1 => ((if q1 = true then ((f_math_Floor (fmul xx0 (Fl.bits 4661225614328463360))).bind fun q8 => (some (feq q8 (fmul xx0 (Fl.bits 4661225614328463360))))) else (some false)).bind fun z5 => (some z5)))
theorem f_grid_On_c {S : Nat → Prop} {w0 w : World} {ow : List Res} (hp : Hp S w0 w ow) (bxx0 : Nat) (xx0 : Fl) (hxx0 : xx0.rep bxx0) {r : Bool} (h : f_grid_On xx0 = some r) :
    Calls Try.prog 69 #[.float .f64 bxx0] w (fun e w' => e = .returned (.bool r) ∧ Hp S w0 w' (ow)) := by
  unfold f_grid_On at h
  refine enter (n := 13) (args := [.float .f64 bxx0]) Try.func69 rfl rfl (Nat.le_of_ble_eq_true rfl) fun a hf => ?_
  replace hf : Fr 13 a [(0, .float .f64 bxx0)] := hf
  refine wp_mono (Q := fun e a w => e = .ret ∧ Fr 13 a [(2, .bool r)] ∧ Hp S w0 w (ow)) ?_ ?_
  rotate_left
  · rintro e a w ⟨rfl, hf, hp⟩
    exact ret1 hf rfl rfl ⟨rfl, hp⟩
  refine wp_seq ?_
  refine wp_reg ?_
  refine st_assign hf rfl rfl (by decide) ?_
  clear hf; intro a ha hf; clear ha
  refine st_nil hf ?_
  refine th_n ?_
  refine wp_seq ?_
  refine wp_reg ?_
  refine st_move hf rfl rfl (by decide) ?_
  clear hf; intro a ha hf; clear ha
  obtain ⟨q1, hcall2, h⟩ := bnd h
  refine st_call hf (by decide) Try.func71 rfl rfl rfl rfl rfl (f_grid_within_c hp _ _ (show Fl.rep bxx0 xx0 from hxx0) hcall2) ?_
  rintro _ w ⟨rfl, hp0⟩
  clear hp; have hp := hp0; clear hp0
  replace hp : Hp _ _ _ (ow) := hp
  refine ⟨_, rfl, ?_⟩
  clear hf; intro a hf
  refine st_move hf rfl rfl (by decide) ?_
  clear hf; intro a ha hf; clear ha
  obtain ⟨z5, hz3, h⟩ := bnd h
  refine wpList_cut 7 (fun a w => Fr 13 a [(12, .bool z5)] ∧ Hp S w0 w (ow)) ?_ ?_
  · rcases Bool.eq_false_or_eq_true q1 with hb4 | hb4
    · skip
      replace hz3 := ifT hz3 hb4
      refine st_move hf (wantY hf rfl rfl hb4) rfl (by decide) ?_
      clear hf; intro a ha hf; clear ha
      refine st_farith (op := .mul) rfl hf (by decide) hp (wantY hf rfl rfl hb4) rfl rfl (show Fl.rep bxx0 xx0 from hxx0) (show Fl.rep 4661225614328463360 (Fl.bits 4661225614328463360) from rfl) ?_
      clear hf; intro a w bb6 y7 hf hp0; clear hp; have hp := hp0; clear hp0
      replace hp : Hp _ _ _ (ow) := hp
      obtain ⟨q8, hcall9, hz3⟩ := bnd hz3
      refine st_call hf (by decide) Try.func72 rfl rfl (wantY hf rfl rfl hb4) rfl rfl (f_math_Floor_c hp _ _ (show Fl.rep bb6 (fmul xx0 (Fl.bits 4661225614328463360)) from y7) hcall9) ?_
      rintro _ w ⟨v10, rfl, y11, hp0⟩
      clear hp; have hp := hp0; clear hp0
      replace hp : Hp _ _ _ (ow) := hp
      refine ⟨_, rfl, ?_⟩
      clear hf; intro a hf
      refine st_move hf (wantY hf rfl rfl hb4) rfl (by decide) ?_
      clear hf; intro a ha hf; clear ha
      refine st_farith (op := .mul) rfl hf (by decide) hp (wantY hf rfl rfl hb4) rfl rfl (show Fl.rep bxx0 xx0 from hxx0) (show Fl.rep 4661225614328463360 (Fl.bits 4661225614328463360) from rfl) ?_
      clear hf; intro a w bb12 y13 hf hp0; clear hp; have hp := hp0; clear hp0
      replace hp : Hp _ _ _ (ow) := hp
      refine st_fcmp (r_feq (fx := q8) (fy := (fmul xx0 (Fl.bits 4661225614328463360))) y11 y13) hf (by decide) (wantY hf rfl rfl hb4) rfl rfl ?_
      clear hf; intro a ha hf; clear ha
      obtain rfl := Option.some.inj hz3
      refine st_pick (v := .bool (feq q8 (fmul xx0 (Fl.bits 4661225614328463360)))) hf rfl rfl (fun hb' => ?_) (fun hb' => ?_) (by decide) ?_
      · rfl
      · exact absurd (hb4.symm.trans hb') (by decide)
      clear hf; intro a ha hf; clear ha
      refine st_nil hf (th_n ?_)
      exact ⟨hf.sub ⟨rfl, trivial⟩, hp⟩
    replace hz3 := ifF hz3 hb4
    refine st_skip hf (wantN hf rfl rfl hb4) rfl (by decide) ?_ rfl
    clear hf; intro a hf
    refine st_skip hf (wantN hf rfl rfl hb4) rfl (by decide) ?_ rfl
    clear hf; intro a hf
    refine st_skip hf (wantN hf rfl rfl hb4) rfl (by decide) ?_ rfl
    clear hf; intro a hf
    refine st_skip hf (wantN hf rfl rfl hb4) rfl (by decide) ?_ rfl
    clear hf; intro a hf
    refine st_skip hf (wantN hf rfl rfl hb4) rfl (by decide) ?_ rfl
    clear hf; intro a hf
    refine st_skip hf (wantN hf rfl rfl hb4) rfl (by decide) ?_ rfl
    clear hf; intro a hf
    obtain rfl := Option.some.inj hz3
    refine st_pick (v := .bool false) hf rfl rfl (fun hb' => ?_) (fun hb' => ?_) (by decide) ?_
    · exact absurd (hb4.symm.trans hb') (by decide)
    · rfl
    clear hf; intro a ha hf; clear ha
    refine st_nil hf (th_n ?_)
    exact ⟨hf.sub ⟨rfl, trivial⟩, hp⟩
  rintro a w ⟨hf, hp⟩
  refine st_assign hf rfl rfl (by decide) ?_
  clear hf; intro a ha hf; clear ha
  refine st_nil hf ?_
  refine th_n ?_
  refine wp_ret ?_
  obtain rfl := Option.some.inj h
  exact ⟨rfl, ⟨hf.sub ⟨rfl, trivial⟩, hp⟩⟩

noncomputable def f_grid_may (sx0_V : (Fl × Fl)) (sx0_Lost : Bool) : Option Bool := (if sx0_Lost = true then (some (ceq sx0_V (Fl.bits 0, Fl.bits 0))) else ((f_grid_On sx0_V.1).bind fun q3 => ((if q3 = true then ((f_grid_On sx0_V.2).bind fun q8 => (some q8)) else (some false)).bind fun z7 => (some z7))))
theorem f_grid_may_c {S : Nat → Prop} {w0 w : World} {ow : List Res} (hp : Hp S w0 w ow) (bsx0_V csx0_V : Nat) (sx0_V : Fl × Fl) (hsx0_V : sx0_V.1.rep bsx0_V) (ksx0_V : sx0_V.2.rep csx0_V) (sx0_Lost : Bool) {r : Bool} (h : f_grid_may sx0_V sx0_Lost = some r) :
    Calls Try.prog 56 #[.agg #[.complex .f64 bsx0_V csx0_V, .bool sx0_Lost]] w (fun e w' => e = .returned (.bool r) ∧ Hp S w0 w' (ow)) := by
  unfold f_grid_may at h
  refine enter (n := 18) (args := [.agg #[.complex .f64 bsx0_V csx0_V, .bool sx0_Lost]]) Try.func56 rfl rfl (Nat.le_of_ble_eq_true rfl) fun a hf => ?_
  replace hf : Fr 18 a [(0, .agg #[.complex .f64 bsx0_V csx0_V, .bool sx0_Lost])] := hf
  refine wp_mono (Q := fun e a w => e = .ret ∧ Fr 18 a [(2, .bool r)] ∧ Hp S w0 w (ow)) ?_ ?_
  rotate_left
  · rintro e a w ⟨rfl, hf, hp⟩
    exact ret1 hf rfl rfl ⟨rfl, hp⟩
  refine wp_seq ?_
  refine wp_reg ?_
  refine st_boxO (cs := [.complex .f64 bsx0_V csx0_V, .bool sx0_Lost]) hf (by decide) hp rfl rfl rfl ?_
  clear hf; intro a w v1 hf hp0; clear hp; have hp := hp0; clear hp0
  replace hp : Hp _ _ _ (Res.obj 35 v1 [.complex .f64 bsx0_V csx0_V, .bool sx0_Lost] :: ow) := hp
  refine st_assign hf rfl rfl (by decide) ?_
  clear hf; intro a ha hf; clear ha
  refine st_nil hf ?_
  refine th_n ?_
  refine wp_seq ?_
  refine wp_seq ?_
  refine wp_reg ?_
  refine st_fa (o' := 1) hf (by decide) (off := 1) (sz := 1) (by kernel_rfl) (by decide) rfl rfl (hp.ob (i := 0) rfl) rfl ?_
  clear hf; intro a ha hf; clear ha
  refine st_ldO (u := .bool sx0_Lost) hf (by decide) pl4 rfl rfl (hp.ob (i := 0) rfl) rfl ?_
  clear hf; intro a ha hf; clear ha
  refine st_nil hf ?_
  refine th_n ?_
  refine wp_if hf rfl (fun hb => ?_) (fun hb => ?_)
  · replace h := ifT h hb
    refine wp_seq ?_
    refine wp_reg ?_
    refine st_fa (o' := 0) hf (by decide) (off := 0) (sz := 1) (by kernel_rfl) (by decide) rfl rfl (hp.ob (i := 0) rfl) rfl ?_
    clear hf; intro a ha hf; clear ha
    refine st_ldO (u := .complex .f64 bsx0_V csx0_V) hf (by decide) pl33 rfl rfl (hp.ob (i := 0) rfl) rfl ?_
    clear hf; intro a ha hf; clear ha
    refine st_ccmp (r_ceq (x := sx0_V) (y := (Fl.bits 0, Fl.bits 0)) hsx0_V ksx0_V rfl rfl) hf (by decide) rfl rfl rfl ?_
    clear hf; intro a ha hf; clear ha
    refine st_assign hf rfl rfl (by decide) ?_
    clear hf; intro a ha hf; clear ha
    refine st_nil hf ?_
    refine th_n ?_
    refine wp_ret ?_
    refine th_r ?_
    obtain rfl := Option.some.inj h
    have hp : Hp _ _ _ (ow) := Hp.sel (pre := [Res.obj 35 v1 [.complex .f64 bsx0_V csx0_V, .bool sx0_Lost]]) (tail := ow) (rs' := []) hp [] (by decide) (by simp) rfl
    exact ⟨rfl, ⟨hf.sub ⟨rfl, trivial⟩, hp⟩⟩
  replace h := ifF h hb
  refine wp_skip ?_
  refine th_n ?_
  refine wp_seq ?_
  refine wp_reg ?_
  refine st_fa (o' := 0) hf (by decide) (off := 0) (sz := 1) (by kernel_rfl) (by decide) rfl rfl (hp.ob (i := 0) rfl) rfl ?_
  clear hf; intro a ha hf; clear ha
  refine st_ldO (u := .complex .f64 bsx0_V csx0_V) hf (by decide) pl33 rfl rfl (hp.ob (i := 0) rfl) rfl ?_
  clear hf; intro a ha hf; clear ha
  refine st_real hf (by decide) rfl rfl ?_
  clear hf; intro a ha hf; clear ha
  obtain ⟨q3, hcall4, h⟩ := bnd h
  refine st_call hf (by decide) Try.func69 rfl rfl rfl rfl rfl (f_grid_On_c hp _ _ (show Fl.rep bsx0_V sx0_V.1 from hsx0_V) hcall4) ?_
  rintro _ w ⟨rfl, hp0⟩
  clear hp; have hp := hp0; clear hp0
  replace hp : Hp _ _ _ (Res.obj 35 v1 [.complex .f64 bsx0_V csx0_V, .bool sx0_Lost] :: ow) := hp
  refine ⟨_, rfl, ?_⟩
  clear hf; intro a hf
  refine st_move hf rfl rfl (by decide) ?_
  clear hf; intro a ha hf; clear ha
  obtain ⟨z7, hz5, h⟩ := bnd h
  refine wpList_cut 5 (fun a w => Fr 18 a [(17, .bool z7)] ∧ Hp S w0 w (Res.obj 35 v1 [.complex .f64 bsx0_V csx0_V, .bool sx0_Lost] :: ow)) ?_ ?_
  · rcases Bool.eq_false_or_eq_true q3 with hb6 | hb6
    · skip
      replace hz5 := ifT hz5 hb6
      refine st_fa (o' := 0) hf (by decide) (off := 0) (sz := 1) (by kernel_rfl) (by decide) (wantY hf rfl rfl hb6) rfl (hp.ob (i := 0) rfl) rfl ?_
      clear hf; intro a ha hf; clear ha
      refine st_ldO (u := .complex .f64 bsx0_V csx0_V) hf (by decide) pl33 (wantY hf rfl rfl hb6) rfl (hp.ob (i := 0) rfl) rfl ?_
      clear hf; intro a ha hf; clear ha
      refine st_imag hf (by decide) (wantY hf rfl rfl hb6) rfl ?_
      clear hf; intro a ha hf; clear ha
      obtain ⟨q8, hcall9, hz5⟩ := bnd hz5
      refine st_call hf (by decide) Try.func69 rfl rfl (wantY hf rfl rfl hb6) rfl rfl (f_grid_On_c hp _ _ (show Fl.rep csx0_V sx0_V.2 from ksx0_V) hcall9) ?_
      rintro _ w ⟨rfl, hp0⟩
      clear hp; have hp := hp0; clear hp0
      replace hp : Hp _ _ _ (Res.obj 35 v1 [.complex .f64 bsx0_V csx0_V, .bool sx0_Lost] :: ow) := hp
      refine ⟨_, rfl, ?_⟩
      clear hf; intro a hf
      obtain rfl := Option.some.inj hz5
      refine st_pick (v := .bool q8) hf rfl rfl (fun hb' => ?_) (fun hb' => ?_) (by decide) ?_
      · rfl
      · exact absurd (hb6.symm.trans hb') (by decide)
      clear hf; intro a ha hf; clear ha
      refine st_nil hf (th_n ?_)
      exact ⟨hf.sub ⟨rfl, trivial⟩, hp⟩
    replace hz5 := ifF hz5 hb6
    refine st_skip hf (wantN hf rfl rfl hb6) rfl (by decide) ?_ rfl
    clear hf; intro a hf
    refine st_skip hf (wantN hf rfl rfl hb6) rfl (by decide) ?_ rfl
    clear hf; intro a hf
    refine st_skip hf (wantN hf rfl rfl hb6) rfl (by decide) ?_ rfl
    clear hf; intro a hf
    refine st_skip hf (wantN hf rfl rfl hb6) rfl (by decide) ?_ rfl
    clear hf; intro a hf
    obtain rfl := Option.some.inj hz5
    refine st_pick (v := .bool false) hf rfl rfl (fun hb' => ?_) (fun hb' => ?_) (by decide) ?_
    · exact absurd (hb6.symm.trans hb') (by decide)
    · rfl
    clear hf; intro a ha hf; clear ha
    refine st_nil hf (th_n ?_)
    exact ⟨hf.sub ⟨rfl, trivial⟩, hp⟩
  rintro a w ⟨hf, hp⟩
  refine st_assign hf rfl rfl (by decide) ?_
  clear hf; intro a ha hf; clear ha
  refine st_nil hf ?_
  refine th_n ?_
  refine wp_ret ?_
  obtain rfl := Option.some.inj h
  have hp : Hp _ _ _ (ow) := Hp.sel (pre := [Res.obj 35 v1 [.complex .f64 bsx0_V csx0_V, .bool sx0_Lost]]) (tail := ow) (rs' := []) hp [] (by decide) (by simp) rfl
  exact ⟨rfl, ⟨hf.sub ⟨rfl, trivial⟩, hp⟩⟩

noncomputable def f_grid_Check.s1c (l0 : (List ((Fl × Fl) × Bool))) (t11 : Int) : Option (Int ⊕ (Unit ⊕ (Int × Int))) := (if (decide (t11 < (l0.length : Int))) = true then (if 0 ≤ t11 ∧ t11 < (l0.length : Int) then ((f_grid_may ((gt l0 t11).1) ((gt l0 t11).2)).bind fun q10 => (if (!q10) = true then (some (Sum.inr (Sum.inr (t11, (7 : Int))))) else (some (Sum.inl (IntKind.i64.wrap (t11 + (1 : Int))))))) else none) else (some (Sum.inr (Sum.inl ()))))
noncomputable def f_grid_Check.s1 (l0 : (List ((Fl × Fl) × Bool))) (s : Int) : Option (Int ⊕ (Unit ⊕ (Int × Int))) := f_grid_Check.s1c l0 s
noncomputable def f_grid_Check (l0 : (List ((Fl × Fl) × Bool))) : Option (Int × Int) := (if (decide ((65536 : Int) < (l0.length : Int))) = true then (some ((0 : Int), (1 : Int))) else ((loop (f_grid_Check.s1 l0) (0 : Int)).bind (fun q12 => sm q12 (fun q13 => (some ((0 : Int), (0 : Int)))) (fun q14 => (some (q14.1, q14.2))))))
theorem f_grid_Check_c {S : Nat → Prop} {w0 w : World} {ow : List Res} (hp : Hp S w0 w ow) (vl0 : Value) (l0 : (List ((Fl × Fl) × Bool))) (hl0 : RdS (Ek.pair Ek.c128 Ek.bool) S w0 vl0 l0) {r : (Int × Int)} (h : f_grid_Check l0 = some r) :
    Calls Try.prog 35 #[vl0] w (fun e w' => e = .returned (.tuple #[.int .i64 r.1, .int .i64 r.2]) ∧ Hp S w0 w' (ow)) := by
  unfold f_grid_Check at h
  refine enter (n := 21) (args := [vl0]) Try.func35 rfl rfl (Nat.le_of_ble_eq_true rfl) fun a hf => ?_
  replace hf : Fr 21 a [(0, vl0)] := hf
  refine wp_mono (Q := fun e a w => e = .ret ∧ Fr 21 a [(2, .int .i64 r.1), (3, .int .i64 r.2)] ∧ Hp S w0 w (ow)) ?_ ?_
  rotate_left
  · rintro e a w ⟨rfl, hf, hp⟩
    exact ret2 hf rfl rfl rfl ⟨rfl, hp⟩
  refine wp_seq ?_
  refine wp_reg ?_
  refine st_assign hf rfl rfl (by decide) ?_
  clear hf; intro a ha hf; clear ha
  refine st_assign hf rfl rfl (by decide) ?_
  clear hf; intro a ha hf; clear ha
  refine st_nil hf ?_
  refine th_n ?_
  refine wp_seq ?_
  refine wp_seq ?_
  refine wp_reg ?_
  refine st_move hf rfl rfl (by decide) ?_
  clear hf; intro a ha hf; clear ha
  refine st_len (E := (Ek.pair Ek.c128 Ek.bool)) hf (by decide) Try.underlying27 rfl rfl (hl0.sl hp) ?_
  clear hf; intro a ha hf; clear ha
  refine st_igtr hf (by decide) rfl rfl rfl ?_
  clear hf; intro a ha hf; clear ha
  refine st_nil hf ?_
  refine th_n ?_
  refine wp_if hf rfl (fun hb => ?_) (fun hb => ?_)
  · replace h := ifT h hb
    refine wp_seq ?_
    refine wp_reg ?_
    refine st_assign hf rfl rfl (by decide) ?_
    clear hf; intro a ha hf; clear ha
    refine st_assign hf rfl rfl (by decide) ?_
    clear hf; intro a ha hf; clear ha
    refine st_nil hf ?_
    refine th_n ?_
    refine wp_ret ?_
    refine th_r ?_
    obtain rfl := Option.some.inj h
    exact ⟨rfl, ⟨hf.sub ⟨rfl, rfl, trivial⟩, hp⟩⟩
  replace h := ifF h hb
  refine wp_skip ?_
  refine th_n ?_
  refine wp_seq ?_
  refine wp_seq ?_
  refine wp_reg ?_
  refine st_move hf rfl rfl (by decide) ?_
  clear hf; intro a ha hf; clear ha
  refine st_len (E := (Ek.pair Ek.c128 Ek.bool)) hf (by decide) Try.underlying27 rfl rfl (hl0.sl hp) ?_
  clear hf; intro a ha hf; clear ha
  refine st_move hf rfl rfl (by decide) ?_
  clear hf; intro a ha hf; clear ha
  refine st_nil hf ?_
  refine th_n ?_
  refine wp_block ?_
  obtain ⟨q12, hl, h⟩ := bnd h
  refine wp_loop_pure (f := (f_grid_Check.s1 l0)) (s := (0 : Int)) (fun s a w => Fr 21 a [(9, vl0), (10, .int .i64 (l0.length : Int)), (11, .int .i64 s)] ∧ Hp S w0 w (ow)) (fun q e a w => match q with | (Sum.inl q) => e = .exit 0 ∧ Fr 21 a [] ∧ Hp S w0 w (ow) | (Sum.inr q) => e = .ret ∧ Fr 21 a [(2, .int .i64 q.1), (3, .int .i64 q.2)] ∧ Hp S w0 w (ow)) ?_ hl ⟨hf.sub ⟨rfl, rfl, rfl, trivial⟩, hp⟩ ?_
  · clear hl hf hp
    intro s x a w h hI
    obtain ⟨t11, hs⟩ : ∃ z, z = s := ⟨s, rfl⟩; subst hs
    obtain ⟨hf, hp⟩ : Fr 21 a [(9, vl0), (10, .int .i64 (l0.length : Int)), (11, .int .i64 t11)] ∧ Hp S w0 w (ow) := hI
    replace h : f_grid_Check.s1c l0 t11 = some x := h
    unfold f_grid_Check.s1c at h
    refine wp_seq ?_
    refine wp_reg ?_
    refine st_ilss hf (by decide) rfl rfl rfl ?_
    clear hf; intro a ha hf; clear ha
    refine st_nil hf ?_
    refine th_n ?_
    refine wp_seq ?_
    refine wp_if hf rfl (fun hb => ?_) (fun hb => ?_)
    · replace h := ifT h hb
      refine wp_skip ?_
      refine th_n ?_
      refine wp_seq ?_
      refine wp_block ?_
      refine wp_seq ?_
      refine wp_reg ?_
      refine st_move hf rfl rfl (by decide) ?_
      clear hf; intro a ha hf; clear ha
      obtain ⟨hc1, h⟩ := chk h
      refine st_index (E := (Ek.pair Ek.c128 Ek.bool)) hf (by decide) Try.underlying27 elt35 rfl rfl rfl (hl0.sl hp) hc1.1 hc1.2 ?_
      clear hf; intro a ha hf; clear ha
      refine st_ldQA (F := (Ek.pair Ek.c128 Ek.bool)) (yv := (gt l0 t11)) (m := 2) hf (by decide) (by kernel_rfl) rfl rfl rfl (Part.whole (hl0.sl hp) hc1.1 hc1.2) ?_
      clear hf; intro a cs2 hr3 ha hf; clear ha
      obtain ⟨_, _, rfl, ⟨bb4, bb5, rfl, y6, y7⟩, rfl⟩ := hr3
      replace hf : Fr _ _ ((15, .agg #[.complex .f64 bb4 bb5, .bool ((gt l0 t11).2)]) :: _) := hf
      refine st_alloc (cs := [.complex .f64 0 0, .bool false]) (zv := .agg #[.complex .f64 0 0, .bool false]) hf (by decide) (by kernel_rfl) rfl hp rfl ?_
      clear hf; intro a w v8 hf hp0; clear hp; have hp := hp0; clear hp0
      replace hp : Hp _ _ _ (Res.obj 35 v8 [.complex .f64 0 0, .bool false] :: ow) := hp
      refine st_assign hf rfl rfl (by decide) ?_
      clear hf; intro a ha hf; clear ha
      refine st_stO (us := [.complex .f64 bb4 bb5, .bool ((gt l0 t11).2)]) hf hp (i := 0) rfl rfl rfl rfl rfl (by rfl) (by kernel_rfl) (Nat.le_of_ble_eq_true rfl) ?_
      clear hf; intro a w hf hp0; clear hp; have hp := hp0; clear hp0
      replace hp : Hp _ _ _ (Res.obj 35 v8 [.complex .f64 bb4 bb5, .bool ((gt l0 t11).2)] :: ow) := hp
      refine st_nil hf ?_
      refine th_n ?_
      refine wp_seq ?_
      refine wp_reg ?_
      refine st_ldOA (m := 2) (us := [.complex .f64 bb4 bb5, .bool ((gt l0 t11).2)]) hf (by decide) (by kernel_rfl) rfl rfl (hp.ob (i := 0) rfl) rfl rfl ?_
      clear hf; intro a ha hf; clear ha
      obtain ⟨q10, hcall11, h⟩ := bnd h
      refine st_call hf (by decide) Try.func56 rfl rfl rfl rfl rfl (f_grid_may_c hp _ _ _ (show Fl.rep bb4 ((gt l0 t11).1).1 from y6) (show Fl.rep bb5 ((gt l0 t11).1).2 from y7) _ hcall11) ?_
      rintro _ w ⟨rfl, hp0⟩
      clear hp; have hp := hp0; clear hp0
      replace hp : Hp _ _ _ (Res.obj 35 v8 [.complex .f64 bb4 bb5, .bool ((gt l0 t11).2)] :: ow) := hp
      refine ⟨_, rfl, ?_⟩
      clear hf; intro a hf
      refine st_not hf (by decide) rfl rfl ?_
      clear hf; intro a ha hf; clear ha
      refine st_nil hf ?_
      refine th_n ?_
      refine wp_if hf rfl (fun hb => ?_) (fun hb => ?_)
      · replace h := ifT h hb
        refine wp_seq ?_
        refine wp_reg ?_
        refine st_move hf rfl rfl (by decide) ?_
        clear hf; intro a ha hf; clear ha
        refine st_assign hf rfl rfl (by decide) ?_
        clear hf; intro a ha hf; clear ha
        refine st_assign hf rfl rfl (by decide) ?_
        clear hf; intro a ha hf; clear ha
        refine st_nil hf ?_
        refine th_n ?_
        refine wp_ret ?_
        refine ib_r ?_
        refine th_r ?_
        obtain rfl := Option.some.inj h
        have hp : Hp _ _ _ (ow) := Hp.sel (pre := [Res.obj 35 v8 [.complex .f64 bb4 bb5, .bool ((gt l0 t11).2)]]) (tail := ow) (rs' := []) hp [] (by decide) (by simp) rfl
        exact rnd_r (by simp) ⟨rfl, ⟨hf.sub ⟨rfl, rfl, trivial⟩, hp⟩⟩
      replace h := ifF h hb
      refine wp_skip ?_
      refine ib_n ?_
      refine th_n ?_
      refine wp_reg ?_
      refine st_iadd hf (by decide) rfl rfl rfl ?_
      clear hf; intro a ha hf; clear ha
      refine st_move hf rfl rfl (by decide) ?_
      clear hf; intro a ha hf; clear ha
      refine st_nil hf ?_
      obtain rfl := Option.some.inj h
      have hp : Hp _ _ _ (ow) := Hp.sel (pre := [Res.obj 35 v8 [.complex .f64 bb4 bb5, .bool ((gt l0 t11).2)]]) (tail := ow) (rs' := []) hp [] (by decide) (by simp) rfl
      exact rnd_l ⟨hf.sub ⟨rfl, rfl, rfl, trivial⟩, hp⟩
    replace h := ifF h hb
    refine wp_exit ?_
    refine th_e ?_
    obtain rfl := Option.some.inj h
    exact rnd_r (by simp) ⟨rfl, hf.sub trivial, hp⟩
  clear hl hf hp
  intro e a w hne hO
  rcases q12 with q13 | q14
  · replace h := smL h
    obtain ⟨rfl, hf, hp⟩ := hO
    refine ib_same ?_
    refine th_n ?_
    refine wp_seq ?_
    refine wp_reg ?_
    refine st_assign hf rfl rfl (by decide) ?_
    clear hf; intro a ha hf; clear ha
    refine st_assign hf rfl rfl (by decide) ?_
    clear hf; intro a ha hf; clear ha
    refine st_nil hf ?_
    refine th_n ?_
    refine wp_ret ?_
    obtain rfl := Option.some.inj h
    exact ⟨rfl, ⟨hf.sub ⟨rfl, rfl, trivial⟩, hp⟩⟩
  replace h := smR h
  obtain ⟨rfl, hf, hp⟩ := hO
  refine ib_r ?_
  refine th_r ?_
  obtain rfl := Option.some.inj h
  exact ⟨rfl, ⟨hf.sub ⟨rfl, rfl, trivial⟩, hp⟩⟩

noncomputable def f_soft_check (cx0_Length : Int) (cx0_One : Int) (cx0_Two : Int) (l1 : (List ((Fl × Fl) × Bool))) (least2 : Int) : Option Int := ((f_trellis_Code_Check cx0_Length cx0_One cx0_Two).bind fun q3 => (if (((q3 != (0 : Int)) || (decide ((16384 : Int) < (l1.length : Int)))) || (decide ((l1.length : Int) < least2))) = true then (some (1 : Int)) else ((f_grid_Check l1).bind fun q9 => (some q9.2))))
theorem f_soft_check_c {S : Nat → Prop} {w0 w : World} {ow : List Res} (hp : Hp S w0 w ow) (cx0_Length : Int) (cx0_One : Int) (cx0_Two : Int) (vl1 : Value) (l1 : (List ((Fl × Fl) × Bool))) (hl1 : RdS (Ek.pair Ek.c128 Ek.bool) S w0 vl1 l1) (least2 : Int) {r : Int} (h : f_soft_check cx0_Length cx0_One cx0_Two l1 least2 = some r) :
    Calls Try.prog 45 #[.agg #[.int .i64 cx0_Length, .int .u32 cx0_One, .int .u32 cx0_Two], vl1, .int .i64 least2] w (fun e w' => e = .returned (.int .i64 r) ∧ Hp S w0 w' (ow)) := by
  unfold f_soft_check at h
  refine enter (n := 29) (args := [.agg #[.int .i64 cx0_Length, .int .u32 cx0_One, .int .u32 cx0_Two], vl1, .int .i64 least2]) Try.func45 rfl rfl (Nat.le_of_ble_eq_true rfl) fun a hf => ?_
  replace hf : Fr 29 a [(0, .agg #[.int .i64 cx0_Length, .int .u32 cx0_One, .int .u32 cx0_Two]), (1, vl1), (2, .int .i64 least2)] := hf
  refine wp_mono (Q := fun e a w => e = .ret ∧ Fr 29 a [(6, .int .i64 r)] ∧ Hp S w0 w (ow)) ?_ ?_
  rotate_left
  · rintro e a w ⟨rfl, hf, hp⟩
    exact ret1 hf rfl rfl ⟨rfl, hp⟩
  refine wp_seq ?_
  refine wp_reg ?_
  refine st_boxO (cs := [.int .i64 cx0_Length, .int .u32 cx0_One, .int .u32 cx0_Two]) hf (by decide) hp rfl rfl rfl ?_
  clear hf; intro a w v1 hf hp0; clear hp; have hp := hp0; clear hp0
  replace hp : Hp _ _ _ (Res.obj 40 v1 [.int .i64 cx0_Length, .int .u32 cx0_One, .int .u32 cx0_Two] :: ow) := hp
  refine st_assign hf rfl rfl (by decide) ?_
  clear hf; intro a ha hf; clear ha
  refine st_nil hf ?_
  refine th_n ?_
  refine wp_seq ?_
  refine wp_seq ?_
  refine wp_reg ?_
  refine st_ldOA (m := 3) (us := [.int .i64 cx0_Length, .int .u32 cx0_One, .int .u32 cx0_Two]) hf (by decide) (by kernel_rfl) rfl rfl (hp.ob (i := 0) rfl) rfl rfl ?_
  clear hf; intro a ha hf; clear ha
  obtain ⟨q3, hcall4, h⟩ := bnd h
  refine st_call hf (by decide) Try.func44 rfl rfl rfl rfl rfl (f_trellis_Code_Check_c hp _ _ _ hcall4) ?_
  rintro _ w ⟨rfl, hp0⟩
  clear hp; have hp := hp0; clear hp0
  replace hp : Hp _ _ _ (Res.obj 40 v1 [.int .i64 cx0_Length, .int .u32 cx0_One, .int .u32 cx0_Two] :: ow) := hp
  refine ⟨_, rfl, ?_⟩
  clear hf; intro a hf
  refine st_ineq hf (by decide) rfl rfl rfl ?_
  clear hf; intro a ha hf; clear ha
  refine st_move hf rfl rfl (by decide) ?_
  clear hf; intro a ha hf; clear ha
  refine wpList_cut 4 (fun a w => Fr 29 a [(1, vl1), (2, .int .i64 least2), (16, .bool ((q3 != (0 : Int)) || (decide ((16384 : Int) < (l1.length : Int)))))] ∧ Hp S w0 w (Res.obj 40 v1 [.int .i64 cx0_Length, .int .u32 cx0_One, .int .u32 cx0_Two] :: ow)) ?_ ?_
  · rcases Bool.eq_false_or_eq_true (q3 != (0 : Int)) with hb6 | hb6
    · skip
      refine st_skip hf (wantN hf rfl rfl hb6) rfl (by decide) ?_ rfl
      clear hf; intro a hf
      refine st_skip hf (wantN hf rfl rfl hb6) rfl (by decide) ?_ rfl
      clear hf; intro a hf
      refine st_skip hf (wantN hf rfl rfl hb6) rfl (by decide) ?_ rfl
      clear hf; intro a hf
      refine st_pick (v := .bool true) hf rfl rfl (fun hb' => ?_) (fun hb' => ?_) (by decide) ?_
      · rfl
      · exact absurd (hb6.symm.trans hb') (by decide)
      clear hf; intro a ha hf; clear ha
      refine st_nil hf (th_n ?_)
      exact ⟨hf.sub ⟨rfl, rfl, (by rw [hb6]; rfl), trivial⟩, hp⟩
    refine st_move hf (wantY hf rfl rfl hb6) rfl (by decide) ?_
    clear hf; intro a ha hf; clear ha
    refine st_len (E := (Ek.pair Ek.c128 Ek.bool)) hf (by decide) Try.underlying27 (wantY hf rfl rfl hb6) rfl (hl1.sl hp) ?_
    clear hf; intro a ha hf; clear ha
    refine st_igtr hf (by decide) (wantY hf rfl rfl hb6) rfl rfl ?_
    clear hf; intro a ha hf; clear ha
    refine st_pick (v := .bool (decide ((16384 : Int) < (l1.length : Int)))) hf rfl rfl (fun hb' => ?_) (fun hb' => ?_) (by decide) ?_
    · exact absurd (hb6.symm.trans hb') (by decide)
    · rfl
    clear hf; intro a ha hf; clear ha
    refine st_nil hf (th_n ?_)
    exact ⟨hf.sub ⟨rfl, rfl, (by rw [hb6]; rfl), trivial⟩, hp⟩
  rintro a w ⟨hf, hp⟩
  refine st_move hf rfl rfl (by decide) ?_
  clear hf; intro a ha hf; clear ha
  refine wpList_cut 5 (fun a w => Fr 29 a [(1, vl1), (22, .bool (((q3 != (0 : Int)) || (decide ((16384 : Int) < (l1.length : Int)))) || (decide ((l1.length : Int) < least2))))] ∧ Hp S w0 w (Res.obj 40 v1 [.int .i64 cx0_Length, .int .u32 cx0_One, .int .u32 cx0_Two] :: ow)) ?_ ?_
  · rcases Bool.eq_false_or_eq_true ((q3 != (0 : Int)) || (decide ((16384 : Int) < (l1.length : Int)))) with hb8 | hb8
    · skip
      refine st_skip hf (wantN hf rfl rfl hb8) rfl (by decide) ?_ rfl
      clear hf; intro a hf
      refine st_skip hf (wantN hf rfl rfl hb8) rfl (by decide) ?_ rfl
      clear hf; intro a hf
      refine st_skip hf (wantN hf rfl rfl hb8) rfl (by decide) ?_ rfl
      clear hf; intro a hf
      refine st_skip hf (wantN hf rfl rfl hb8) rfl (by decide) ?_ rfl
      clear hf; intro a hf
      refine st_pick (v := .bool true) hf rfl rfl (fun hb' => ?_) (fun hb' => ?_) (by decide) ?_
      · rfl
      · exact absurd (hb8.symm.trans hb') (by decide)
      clear hf; intro a ha hf; clear ha
      refine st_nil hf (th_n ?_)
      exact ⟨hf.sub ⟨rfl, (by rw [hb8]; rfl), trivial⟩, hp⟩
    refine st_move hf (wantY hf rfl rfl hb8) rfl (by decide) ?_
    clear hf; intro a ha hf; clear ha
    refine st_len (E := (Ek.pair Ek.c128 Ek.bool)) hf (by decide) Try.underlying27 (wantY hf rfl rfl hb8) rfl (hl1.sl hp) ?_
    clear hf; intro a ha hf; clear ha
    refine st_move hf (wantY hf rfl rfl hb8) rfl (by decide) ?_
    clear hf; intro a ha hf; clear ha
    refine st_ilss hf (by decide) (wantY hf rfl rfl hb8) rfl rfl ?_
    clear hf; intro a ha hf; clear ha
    refine st_pick (v := .bool (decide ((l1.length : Int) < least2))) hf rfl rfl (fun hb' => ?_) (fun hb' => ?_) (by decide) ?_
    · exact absurd (hb8.symm.trans hb') (by decide)
    · rfl
    clear hf; intro a ha hf; clear ha
    refine st_nil hf (th_n ?_)
    exact ⟨hf.sub ⟨rfl, (by rw [hb8]; rfl), trivial⟩, hp⟩
  rintro a w ⟨hf, hp⟩
  refine st_nil hf ?_
  refine th_n ?_
  refine wp_if hf rfl (fun hb => ?_) (fun hb => ?_)
  · replace h := ifT h hb
    refine wp_seq ?_
    refine wp_reg ?_
    refine st_assign hf rfl rfl (by decide) ?_
    clear hf; intro a ha hf; clear ha
    refine st_nil hf ?_
    refine th_n ?_
    refine wp_ret ?_
    refine th_r ?_
    obtain rfl := Option.some.inj h
    have hp : Hp _ _ _ (ow) := Hp.sel (pre := [Res.obj 40 v1 [.int .i64 cx0_Length, .int .u32 cx0_One, .int .u32 cx0_Two]]) (tail := ow) (rs' := []) hp [] (by decide) (by simp) rfl
    exact ⟨rfl, ⟨hf.sub ⟨rfl, trivial⟩, hp⟩⟩
  replace h := ifF h hb
  refine wp_skip ?_
  refine th_n ?_
  refine wp_seq ?_
  refine wp_reg ?_
  refine st_move hf rfl rfl (by decide) ?_
  clear hf; intro a ha hf; clear ha
  obtain ⟨q9, hcall10, h⟩ := bnd h
  refine st_call hf (by decide) Try.func35 rfl rfl rfl rfl rfl (f_grid_Check_c hp _ _ hl1 hcall10) ?_
  rintro _ w ⟨rfl, hp0⟩
  clear hp; have hp := hp0; clear hp0
  replace hp : Hp _ _ _ (Res.obj 40 v1 [.int .i64 cx0_Length, .int .u32 cx0_One, .int .u32 cx0_Two] :: ow) := hp
  refine ⟨_, rfl, ?_⟩
  clear hf; intro a hf
  refine st_move hf rfl rfl (by decide) ?_
  clear hf; intro a ha hf; clear ha
  refine st_extract hf (by decide) rfl rfl rfl ?_
  clear hf; intro a ha hf; clear ha
  refine st_extract hf (by decide) rfl rfl rfl ?_
  clear hf; intro a ha hf; clear ha
  refine st_assign hf rfl rfl (by decide) ?_
  clear hf; intro a ha hf; clear ha
  refine st_assign hf rfl rfl (by decide) ?_
  clear hf; intro a ha hf; clear ha
  refine st_nil hf ?_
  refine th_n ?_
  refine wp_seq ?_
  refine wp_reg ?_
  refine st_move hf rfl rfl (by decide) ?_
  clear hf; intro a ha hf; clear ha
  refine st_assign hf rfl rfl (by decide) ?_
  clear hf; intro a ha hf; clear ha
  refine st_nil hf ?_
  refine th_n ?_
  refine wp_ret ?_
  obtain rfl := Option.some.inj h
  have hp : Hp _ _ _ (ow) := Hp.sel (pre := [Res.obj 40 v1 [.int .i64 cx0_Length, .int .u32 cx0_One, .int .u32 cx0_Two]]) (tail := ow) (rs' := []) hp [] (by decide) (by simp) rfl
  exact ⟨rfl, ⟨hf.sub ⟨rfl, trivial⟩, hp⟩⟩

noncomputable def f_trellis_Code_States (cx0_Length : Int) (cx0_One : Int) (cx0_Two : Int) : Option (Int × Int) := ((f_trellis_Code_Check cx0_Length cx0_One cx0_Two).bind fun q3 => (if (q3 != (0 : Int)) = true then (some ((0 : Int), q3)) else (if 0 ≤ (IntKind.i64.wrap (cx0_Length - (1 : Int))) then (some ((ishl .i64 (1 : Int) (IntKind.i64.wrap (cx0_Length - (1 : Int)))), (0 : Int))) else none)))
theorem f_trellis_Code_States_c {S : Nat → Prop} {w0 w : World} {ow : List Res} (hp : Hp S w0 w ow) (cx0_Length : Int) (cx0_One : Int) (cx0_Two : Int) {r : (Int × Int)} (h : f_trellis_Code_States cx0_Length cx0_One cx0_Two = some r) :
    Calls Try.prog 47 #[.agg #[.int .i64 cx0_Length, .int .u32 cx0_One, .int .u32 cx0_Two]] w (fun e w' => e = .returned (.tuple #[.int .i64 r.1, .int .i64 r.2]) ∧ Hp S w0 w' (ow)) := by
  unfold f_trellis_Code_States at h
  refine enter (n := 14) (args := [.agg #[.int .i64 cx0_Length, .int .u32 cx0_One, .int .u32 cx0_Two]]) Try.func47 rfl rfl (Nat.le_of_ble_eq_true rfl) fun a hf => ?_
  replace hf : Fr 14 a [(0, .agg #[.int .i64 cx0_Length, .int .u32 cx0_One, .int .u32 cx0_Two])] := hf
  refine wp_mono (Q := fun e a w => e = .ret ∧ Fr 14 a [(2, .int .i64 r.1), (3, .int .i64 r.2)] ∧ Hp S w0 w (ow)) ?_ ?_
  rotate_left
  · rintro e a w ⟨rfl, hf, hp⟩
    exact ret2 hf rfl rfl rfl ⟨rfl, hp⟩
  refine wp_seq ?_
  refine wp_reg ?_
  refine st_boxO (cs := [.int .i64 cx0_Length, .int .u32 cx0_One, .int .u32 cx0_Two]) hf (by decide) hp rfl rfl rfl ?_
  clear hf; intro a w v1 hf hp0; clear hp; have hp := hp0; clear hp0
  replace hp : Hp _ _ _ (Res.obj 40 v1 [.int .i64 cx0_Length, .int .u32 cx0_One, .int .u32 cx0_Two] :: ow) := hp
  refine st_assign hf rfl rfl (by decide) ?_
  clear hf; intro a ha hf; clear ha
  refine st_assign hf rfl rfl (by decide) ?_
  clear hf; intro a ha hf; clear ha
  refine st_nil hf ?_
  refine th_n ?_
  refine wp_seq ?_
  refine wp_seq ?_
  refine wp_reg ?_
  refine st_ldOA (m := 3) (us := [.int .i64 cx0_Length, .int .u32 cx0_One, .int .u32 cx0_Two]) hf (by decide) (by kernel_rfl) rfl rfl (hp.ob (i := 0) rfl) rfl rfl ?_
  clear hf; intro a ha hf; clear ha
  obtain ⟨q3, hcall4, h⟩ := bnd h
  refine st_call hf (by decide) Try.func44 rfl rfl rfl rfl rfl (f_trellis_Code_Check_c hp _ _ _ hcall4) ?_
  rintro _ w ⟨rfl, hp0⟩
  clear hp; have hp := hp0; clear hp0
  replace hp : Hp _ _ _ (Res.obj 40 v1 [.int .i64 cx0_Length, .int .u32 cx0_One, .int .u32 cx0_Two] :: ow) := hp
  refine ⟨_, rfl, ?_⟩
  clear hf; intro a hf
  refine st_assign hf rfl rfl (by decide) ?_
  clear hf; intro a ha hf; clear ha
  refine st_nil hf ?_
  refine th_n ?_
  refine wp_seq ?_
  refine wp_reg ?_
  refine st_move hf rfl rfl (by decide) ?_
  clear hf; intro a ha hf; clear ha
  refine st_ineq hf (by decide) rfl rfl rfl ?_
  clear hf; intro a ha hf; clear ha
  refine st_nil hf ?_
  refine th_n ?_
  refine wp_if hf rfl (fun hb => ?_) (fun hb => ?_)
  · replace h := ifT h hb
    refine wp_seq ?_
    refine wp_reg ?_
    refine st_move hf rfl rfl (by decide) ?_
    clear hf; intro a ha hf; clear ha
    refine st_assign hf rfl rfl (by decide) ?_
    clear hf; intro a ha hf; clear ha
    refine st_assign hf rfl rfl (by decide) ?_
    clear hf; intro a ha hf; clear ha
    refine st_nil hf ?_
    refine th_n ?_
    refine wp_ret ?_
    refine th_r ?_
    obtain rfl := Option.some.inj h
    have hp : Hp _ _ _ (ow) := Hp.sel (pre := [Res.obj 40 v1 [.int .i64 cx0_Length, .int .u32 cx0_One, .int .u32 cx0_Two]]) (tail := ow) (rs' := []) hp [] (by decide) (by simp) rfl
    exact ⟨rfl, ⟨hf.sub ⟨rfl, rfl, trivial⟩, hp⟩⟩
  replace h := ifF h hb
  refine wp_skip ?_
  refine th_n ?_
  refine wp_seq ?_
  refine wp_reg ?_
  refine st_fa (o' := 0) hf (by decide) (off := 0) (sz := 1) (by kernel_rfl) (by decide) rfl rfl (hp.ob (i := 0) rfl) rfl ?_
  clear hf; intro a ha hf; clear ha
  refine st_ldO (u := .int .i64 cx0_Length) hf (by decide) pl3 rfl rfl (hp.ob (i := 0) rfl) rfl ?_
  clear hf; intro a ha hf; clear ha
  refine st_isub hf (by decide) rfl rfl rfl ?_
  clear hf; intro a ha hf; clear ha
  obtain ⟨hc5, h⟩ := chk h
  refine st_ishl hf (by decide) rfl rfl rfl hc5 ?_
  clear hf; intro a ha hf; clear ha
  refine st_assign hf rfl rfl (by decide) ?_
  clear hf; intro a ha hf; clear ha
  refine st_assign hf rfl rfl (by decide) ?_
  clear hf; intro a ha hf; clear ha
  refine st_nil hf ?_
  refine th_n ?_
  refine wp_ret ?_
  obtain rfl := Option.some.inj h
  have hp : Hp _ _ _ (ow) := Hp.sel (pre := [Res.obj 40 v1 [.int .i64 cx0_Length, .int .u32 cx0_One, .int .u32 cx0_Two]]) (tail := ow) (rs' := []) hp [] (by decide) (by simp) rfl
  exact ⟨rfl, ⟨hf.sub ⟨rfl, rfl, trivial⟩, hp⟩⟩

noncomputable def f_trellis_Code_state (cx0_Length : Int) (cx0_One : Int) (cx0_Two : Int) (n1 : Int) : Option Int := ((f_trellis_Code_States cx0_Length cx0_One cx0_Two).bind fun q3 => (if (((q3.2 != (0 : Int)) || (decide (n1 < (0 : Int)))) || (decide (q3.1 ≤ n1))) = true then (some (1 : Int)) else (some (0 : Int))))
theorem f_trellis_Code_state_c {S : Nat → Prop} {w0 w : World} {ow : List Res} (hp : Hp S w0 w ow) (cx0_Length : Int) (cx0_One : Int) (cx0_Two : Int) (n1 : Int) {r : Int} (h : f_trellis_Code_state cx0_Length cx0_One cx0_Two n1 = some r) :
    Calls Try.prog 53 #[.agg #[.int .i64 cx0_Length, .int .u32 cx0_One, .int .u32 cx0_Two], .int .i64 n1] w (fun e w' => e = .returned (.int .i64 r) ∧ Hp S w0 w' (ow)) := by
  unfold f_trellis_Code_state at h
  refine enter (n := 23) (args := [.agg #[.int .i64 cx0_Length, .int .u32 cx0_One, .int .u32 cx0_Two], .int .i64 n1]) Try.func53 rfl rfl (Nat.le_of_ble_eq_true rfl) fun a hf => ?_
  replace hf : Fr 23 a [(0, .agg #[.int .i64 cx0_Length, .int .u32 cx0_One, .int .u32 cx0_Two]), (1, .int .i64 n1)] := hf
  refine wp_mono (Q := fun e a w => e = .ret ∧ Fr 23 a [(4, .int .i64 r)] ∧ Hp S w0 w (ow)) ?_ ?_
  rotate_left
  · rintro e a w ⟨rfl, hf, hp⟩
    exact ret1 hf rfl rfl ⟨rfl, hp⟩
  refine wp_seq ?_
  refine wp_reg ?_
  refine st_boxO (cs := [.int .i64 cx0_Length, .int .u32 cx0_One, .int .u32 cx0_Two]) hf (by decide) hp rfl rfl rfl ?_
  clear hf; intro a w v1 hf hp0; clear hp; have hp := hp0; clear hp0
  replace hp : Hp _ _ _ (Res.obj 40 v1 [.int .i64 cx0_Length, .int .u32 cx0_One, .int .u32 cx0_Two] :: ow) := hp
  refine st_assign hf rfl rfl (by decide) ?_
  clear hf; intro a ha hf; clear ha
  refine st_nil hf ?_
  refine th_n ?_
  refine wp_seq ?_
  refine wp_reg ?_
  refine st_ldOA (m := 3) (us := [.int .i64 cx0_Length, .int .u32 cx0_One, .int .u32 cx0_Two]) hf (by decide) (by kernel_rfl) rfl rfl (hp.ob (i := 0) rfl) rfl rfl ?_
  clear hf; intro a ha hf; clear ha
  obtain ⟨q3, hcall4, h⟩ := bnd h
  refine st_call hf (by decide) Try.func47 rfl rfl rfl rfl rfl (f_trellis_Code_States_c hp _ _ _ hcall4) ?_
  rintro _ w ⟨rfl, hp0⟩
  clear hp; have hp := hp0; clear hp0
  replace hp : Hp _ _ _ (Res.obj 40 v1 [.int .i64 cx0_Length, .int .u32 cx0_One, .int .u32 cx0_Two] :: ow) := hp
  refine ⟨_, rfl, ?_⟩
  clear hf; intro a hf
  refine st_move hf rfl rfl (by decide) ?_
  clear hf; intro a ha hf; clear ha
  refine st_extract hf (by decide) rfl rfl rfl ?_
  clear hf; intro a ha hf; clear ha
  refine st_extract hf (by decide) rfl rfl rfl ?_
  clear hf; intro a ha hf; clear ha
  refine st_assign hf rfl rfl (by decide) ?_
  clear hf; intro a ha hf; clear ha
  refine st_assign hf rfl rfl (by decide) ?_
  clear hf; intro a ha hf; clear ha
  refine st_nil hf ?_
  refine th_n ?_
  refine wp_seq ?_
  refine wp_seq ?_
  refine wp_reg ?_
  refine st_move hf rfl rfl (by decide) ?_
  clear hf; intro a ha hf; clear ha
  refine st_ineq hf (by decide) rfl rfl rfl ?_
  clear hf; intro a ha hf; clear ha
  refine st_move hf rfl rfl (by decide) ?_
  clear hf; intro a ha hf; clear ha
  refine wpList_cut 3 (fun a w => Fr 23 a [(1, .int .i64 n1), (5, .int .i64 q3.1), (17, .bool ((q3.2 != (0 : Int)) || (decide (n1 < (0 : Int)))))] ∧ Hp S w0 w (Res.obj 40 v1 [.int .i64 cx0_Length, .int .u32 cx0_One, .int .u32 cx0_Two] :: ow)) ?_ ?_
  · rcases Bool.eq_false_or_eq_true (q3.2 != (0 : Int)) with hb6 | hb6
    · skip
      refine st_skip hf (wantN hf rfl rfl hb6) rfl (by decide) ?_ rfl
      clear hf; intro a hf
      refine st_skip hf (wantN hf rfl rfl hb6) rfl (by decide) ?_ rfl
      clear hf; intro a hf
      refine st_pick (v := .bool true) hf rfl rfl (fun hb' => ?_) (fun hb' => ?_) (by decide) ?_
      · rfl
      · exact absurd (hb6.symm.trans hb') (by decide)
      clear hf; intro a ha hf; clear ha
      refine st_nil hf (th_n ?_)
      exact ⟨hf.sub ⟨rfl, rfl, (by rw [hb6]; rfl), trivial⟩, hp⟩
    refine st_move hf (wantY hf rfl rfl hb6) rfl (by decide) ?_
    clear hf; intro a ha hf; clear ha
    refine st_ilss hf (by decide) (wantY hf rfl rfl hb6) rfl rfl ?_
    clear hf; intro a ha hf; clear ha
    refine st_pick (v := .bool (decide (n1 < (0 : Int)))) hf rfl rfl (fun hb' => ?_) (fun hb' => ?_) (by decide) ?_
    · exact absurd (hb6.symm.trans hb') (by decide)
    · rfl
    clear hf; intro a ha hf; clear ha
    refine st_nil hf (th_n ?_)
    exact ⟨hf.sub ⟨rfl, rfl, (by rw [hb6]; rfl), trivial⟩, hp⟩
  rintro a w ⟨hf, hp⟩
  refine st_move hf rfl rfl (by decide) ?_
  clear hf; intro a ha hf; clear ha
  refine wpList_cut 4 (fun a w => Fr 23 a [(22, .bool (((q3.2 != (0 : Int)) || (decide (n1 < (0 : Int)))) || (decide (q3.1 ≤ n1))))] ∧ Hp S w0 w (Res.obj 40 v1 [.int .i64 cx0_Length, .int .u32 cx0_One, .int .u32 cx0_Two] :: ow)) ?_ ?_
  · rcases Bool.eq_false_or_eq_true ((q3.2 != (0 : Int)) || (decide (n1 < (0 : Int)))) with hb8 | hb8
    · skip
      refine st_skip hf (wantN hf rfl rfl hb8) rfl (by decide) ?_ rfl
      clear hf; intro a hf
      refine st_skip hf (wantN hf rfl rfl hb8) rfl (by decide) ?_ rfl
      clear hf; intro a hf
      refine st_skip hf (wantN hf rfl rfl hb8) rfl (by decide) ?_ rfl
      clear hf; intro a hf
      refine st_pick (v := .bool true) hf rfl rfl (fun hb' => ?_) (fun hb' => ?_) (by decide) ?_
      · rfl
      · exact absurd (hb8.symm.trans hb') (by decide)
      clear hf; intro a ha hf; clear ha
      refine st_nil hf (th_n ?_)
      exact ⟨hf.sub ⟨(by rw [hb8]; rfl), trivial⟩, hp⟩
    refine st_move hf (wantY hf rfl rfl hb8) rfl (by decide) ?_
    clear hf; intro a ha hf; clear ha
    refine st_move hf (wantY hf rfl rfl hb8) rfl (by decide) ?_
    clear hf; intro a ha hf; clear ha
    refine st_igeq hf (by decide) (wantY hf rfl rfl hb8) rfl rfl ?_
    clear hf; intro a ha hf; clear ha
    refine st_pick (v := .bool (decide (q3.1 ≤ n1))) hf rfl rfl (fun hb' => ?_) (fun hb' => ?_) (by decide) ?_
    · exact absurd (hb8.symm.trans hb') (by decide)
    · rfl
    clear hf; intro a ha hf; clear ha
    refine st_nil hf (th_n ?_)
    exact ⟨hf.sub ⟨(by rw [hb8]; rfl), trivial⟩, hp⟩
  rintro a w ⟨hf, hp⟩
  refine st_nil hf ?_
  refine th_n ?_
  refine wp_if hf rfl (fun hb => ?_) (fun hb => ?_)
  · replace h := ifT h hb
    refine wp_seq ?_
    refine wp_reg ?_
    refine st_assign hf rfl rfl (by decide) ?_
    clear hf; intro a ha hf; clear ha
    refine st_nil hf ?_
    refine th_n ?_
    refine wp_ret ?_
    refine th_r ?_
    obtain rfl := Option.some.inj h
    have hp : Hp _ _ _ (ow) := Hp.sel (pre := [Res.obj 40 v1 [.int .i64 cx0_Length, .int .u32 cx0_One, .int .u32 cx0_Two]]) (tail := ow) (rs' := []) hp [] (by decide) (by simp) rfl
    exact ⟨rfl, ⟨hf.sub ⟨rfl, trivial⟩, hp⟩⟩
  replace h := ifF h hb
  refine wp_skip ?_
  refine th_n ?_
  refine wp_seq ?_
  refine wp_reg ?_
  refine st_assign hf rfl rfl (by decide) ?_
  clear hf; intro a ha hf; clear ha
  refine st_nil hf ?_
  refine th_n ?_
  refine wp_ret ?_
  obtain rfl := Option.some.inj h
  have hp : Hp _ _ _ (ow) := Hp.sel (pre := [Res.obj 40 v1 [.int .i64 cx0_Length, .int .u32 cx0_One, .int .u32 cx0_Two]]) (tail := ow) (rs' := []) hp [] (by decide) (by simp) rfl
  exact ⟨rfl, ⟨hf.sub ⟨rfl, trivial⟩, hp⟩⟩

noncomputable def f_math_bits_OnesCount32 (xx0 : Int) : Option Int := (if 0 ≤ (ishr .u32 xx0 (24 : Int)) ∧ (ishr .u32 xx0 (24 : Int)) < ((ByteArray.mk #[0, 1, 1, 2, 1, 2, 2, 3, 1, 2, 2, 3, 2, 3, 3, 4, 1, 2, 2, 3, 2, 3, 3, 4, 2, 3, 3, 4, 3, 4, 4, 5, 1, 2, 2, 3, 2, 3, 3, 4, 2, 3, 3, 4, 3, 4, 4, 5, 2, 3, 3, 4, 3, 4, 4, 5, 3, 4, 4, 5, 4, 5, 5, 6, 1, 2, 2, 3, 2, 3, 3, 4, 2, 3, 3, 4, 3, 4, 4, 5, 2, 3, 3, 4, 3, 4, 4, 5, 3, 4, 4, 5, 4, 5, 5, 6, 2, 3, 3, 4, 3, 4, 4, 5, 3, 4, 4, 5, 4, 5, 5, 6, 3, 4, 4, 5, 4, 5, 5, 6, 4, 5, 5, 6, 5, 6, 6, 7, 1, 2, 2, 3, 2, 3, 3, 4, 2, 3, 3, 4, 3, 4, 4, 5, 2, 3, 3, 4, 3, 4, 4, 5, 3, 4, 4, 5, 4, 5, 5, 6, 2, 3, 3, 4, 3, 4, 4, 5, 3, 4, 4, 5, 4, 5, 5, 6, 3, 4, 4, 5, 4, 5, 5, 6, 4, 5, 5, 6, 5, 6, 6, 7, 2, 3, 3, 4, 3, 4, 4, 5, 3, 4, 4, 5, 4, 5, 5, 6, 3, 4, 4, 5, 4, 5, 5, 6, 4, 5, 5, 6, 5, 6, 6, 7, 3, 4, 4, 5, 4, 5, 5, 6, 4, 5, 5, 6, 5, 6, 6, 7, 4, 5, 5, 6, 5, 6, 6, 7, 5, 6, 6, 7, 6, 7, 7, 8]).size : Int) then (if 0 ≤ (iand .u32 (ishr .u32 xx0 (16 : Int)) (255 : Int)) ∧ (iand .u32 (ishr .u32 xx0 (16 : Int)) (255 : Int)) < ((ByteArray.mk #[0, 1, 1, 2, 1, 2, 2, 3, 1, 2, 2, 3, 2, 3, 3, 4, 1, 2, 2, 3, 2, 3, 3, 4, 2, 3, 3, 4, 3, 4, 4, 5, 1, 2, 2, 3, 2, 3, 3, 4, 2, 3, 3, 4, 3, 4, 4, 5, 2, 3, 3, 4, 3, 4, 4, 5, 3, 4, 4, 5, 4, 5, 5, 6, 1, 2, 2, 3, 2, 3, 3, 4, 2, 3, 3, 4, 3, 4, 4, 5, 2, 3, 3, 4, 3, 4, 4, 5, 3, 4, 4, 5, 4, 5, 5, 6, 2, 3, 3, 4, 3, 4, 4, 5, 3, 4, 4, 5, 4, 5, 5, 6, 3, 4, 4, 5, 4, 5, 5, 6, 4, 5, 5, 6, 5, 6, 6, 7, 1, 2, 2, 3, 2, 3, 3, 4, 2, 3, 3, 4, 3, 4, 4, 5, 2, 3, 3, 4, 3, 4, 4, 5, 3, 4, 4, 5, 4, 5, 5, 6, 2, 3, 3, 4, 3, 4, 4, 5, 3, 4, 4, 5, 4, 5, 5, 6, 3, 4, 4, 5, 4, 5, 5, 6, 4, 5, 5, 6, 5, 6, 6, 7, 2, 3, 3, 4, 3, 4, 4, 5, 3, 4, 4, 5, 4, 5, 5, 6, 3, 4, 4, 5, 4, 5, 5, 6, 4, 5, 5, 6, 5, 6, 6, 7, 3, 4, 4, 5, 4, 5, 5, 6, 4, 5, 5, 6, 5, 6, 6, 7, 4, 5, 5, 6, 5, 6, 6, 7, 5, 6, 6, 7, 6, 7, 7, 8]).size : Int) then (if 0 ≤ (iand .u32 (ishr .u32 xx0 (8 : Int)) (255 : Int)) ∧ (iand .u32 (ishr .u32 xx0 (8 : Int)) (255 : Int)) < ((ByteArray.mk #[0, 1, 1, 2, 1, 2, 2, 3, 1, 2, 2, 3, 2, 3, 3, 4, 1, 2, 2, 3, 2, 3, 3, 4, 2, 3, 3, 4, 3, 4, 4, 5, 1, 2, 2, 3, 2, 3, 3, 4, 2, 3, 3, 4, 3, 4, 4, 5, 2, 3, 3, 4, 3, 4, 4, 5, 3, 4, 4, 5, 4, 5, 5, 6, 1, 2, 2, 3, 2, 3, 3, 4, 2, 3, 3, 4, 3, 4, 4, 5, 2, 3, 3, 4, 3, 4, 4, 5, 3, 4, 4, 5, 4, 5, 5, 6, 2, 3, 3, 4, 3, 4, 4, 5, 3, 4, 4, 5, 4, 5, 5, 6, 3, 4, 4, 5, 4, 5, 5, 6, 4, 5, 5, 6, 5, 6, 6, 7, 1, 2, 2, 3, 2, 3, 3, 4, 2, 3, 3, 4, 3, 4, 4, 5, 2, 3, 3, 4, 3, 4, 4, 5, 3, 4, 4, 5, 4, 5, 5, 6, 2, 3, 3, 4, 3, 4, 4, 5, 3, 4, 4, 5, 4, 5, 5, 6, 3, 4, 4, 5, 4, 5, 5, 6, 4, 5, 5, 6, 5, 6, 6, 7, 2, 3, 3, 4, 3, 4, 4, 5, 3, 4, 4, 5, 4, 5, 5, 6, 3, 4, 4, 5, 4, 5, 5, 6, 4, 5, 5, 6, 5, 6, 6, 7, 3, 4, 4, 5, 4, 5, 5, 6, 4, 5, 5, 6, 5, 6, 6, 7, 4, 5, 5, 6, 5, 6, 6, 7, 5, 6, 6, 7, 6, 7, 7, 8]).size : Int) then (if 0 ≤ (iand .u32 xx0 (255 : Int)) ∧ (iand .u32 xx0 (255 : Int)) < ((ByteArray.mk #[0, 1, 1, 2, 1, 2, 2, 3, 1, 2, 2, 3, 2, 3, 3, 4, 1, 2, 2, 3, 2, 3, 3, 4, 2, 3, 3, 4, 3, 4, 4, 5, 1, 2, 2, 3, 2, 3, 3, 4, 2, 3, 3, 4, 3, 4, 4, 5, 2, 3, 3, 4, 3, 4, 4, 5, 3, 4, 4, 5, 4, 5, 5, 6, 1, 2, 2, 3, 2, 3, 3, 4, 2, 3, 3, 4, 3, 4, 4, 5, 2, 3, 3, 4, 3, 4, 4, 5, 3, 4, 4, 5, 4, 5, 5, 6, 2, 3, 3, 4, 3, 4, 4, 5, 3, 4, 4, 5, 4, 5, 5, 6, 3, 4, 4, 5, 4, 5, 5, 6, 4, 5, 5, 6, 5, 6, 6, 7, 1, 2, 2, 3, 2, 3, 3, 4, 2, 3, 3, 4, 3, 4, 4, 5, 2, 3, 3, 4, 3, 4, 4, 5, 3, 4, 4, 5, 4, 5, 5, 6, 2, 3, 3, 4, 3, 4, 4, 5, 3, 4, 4, 5, 4, 5, 5, 6, 3, 4, 4, 5, 4, 5, 5, 6, 4, 5, 5, 6, 5, 6, 6, 7, 2, 3, 3, 4, 3, 4, 4, 5, 3, 4, 4, 5, 4, 5, 5, 6, 3, 4, 4, 5, 4, 5, 5, 6, 4, 5, 5, 6, 5, 6, 6, 7, 3, 4, 4, 5, 4, 5, 5, 6, 4, 5, 5, 6, 5, 6, 6, 7, 4, 5, 5, 6, 5, 6, 6, 7, 5, 6, 6, 7, 6, 7, 7, 8]).size : Int) then (some (IntKind.i64.wrap (IntKind.u8.wrap ((IntKind.u8.wrap ((IntKind.u8.wrap ((bt (ByteArray.mk #[0, 1, 1, 2, 1, 2, 2, 3, 1, 2, 2, 3, 2, 3, 3, 4, 1, 2, 2, 3, 2, 3, 3, 4, 2, 3, 3, 4, 3, 4, 4, 5, 1, 2, 2, 3, 2, 3, 3, 4, 2, 3, 3, 4, 3, 4, 4, 5, 2, 3, 3, 4, 3, 4, 4, 5, 3, 4, 4, 5, 4, 5, 5, 6, 1, 2, 2, 3, 2, 3, 3, 4, 2, 3, 3, 4, 3, 4, 4, 5, 2, 3, 3, 4, 3, 4, 4, 5, 3, 4, 4, 5, 4, 5, 5, 6, 2, 3, 3, 4, 3, 4, 4, 5, 3, 4, 4, 5, 4, 5, 5, 6, 3, 4, 4, 5, 4, 5, 5, 6, 4, 5, 5, 6, 5, 6, 6, 7, 1, 2, 2, 3, 2, 3, 3, 4, 2, 3, 3, 4, 3, 4, 4, 5, 2, 3, 3, 4, 3, 4, 4, 5, 3, 4, 4, 5, 4, 5, 5, 6, 2, 3, 3, 4, 3, 4, 4, 5, 3, 4, 4, 5, 4, 5, 5, 6, 3, 4, 4, 5, 4, 5, 5, 6, 4, 5, 5, 6, 5, 6, 6, 7, 2, 3, 3, 4, 3, 4, 4, 5, 3, 4, 4, 5, 4, 5, 5, 6, 3, 4, 4, 5, 4, 5, 5, 6, 4, 5, 5, 6, 5, 6, 6, 7, 3, 4, 4, 5, 4, 5, 5, 6, 4, 5, 5, 6, 5, 6, 6, 7, 4, 5, 5, 6, 5, 6, 6, 7, 5, 6, 6, 7, 6, 7, 7, 8]) (ishr .u32 xx0 (24 : Int))) + (bt (ByteArray.mk #[0, 1, 1, 2, 1, 2, 2, 3, 1, 2, 2, 3, 2, 3, 3, 4, 1, 2, 2, 3, 2, 3, 3, 4, 2, 3, 3, 4, 3, 4, 4, 5, 1, 2, 2, 3, 2, 3, 3, 4, 2, 3, 3, 4, 3, 4, 4, 5, 2, 3, 3, 4, 3, 4, 4, 5, 3, 4, 4, 5, 4, 5, 5, 6, 1, 2, 2, 3, 2, 3, 3, 4, 2, 3, 3, 4, 3, 4, 4, 5, 2, 3, 3, 4, 3, 4, 4, 5, 3, 4, 4, 5, 4, 5, 5, 6, 2, 3, 3, 4, 3, 4, 4, 5, 3, 4, 4, 5, 4, 5, 5, 6, 3, 4, 4, 5, 4, 5, 5, 6, 4, 5, 5, 6, 5, 6, 6, 7, 1, 2, 2, 3, 2, 3, 3, 4, 2, 3, 3, 4, 3, 4, 4, 5, 2, 3, 3, 4, 3, 4, 4, 5, 3, 4, 4, 5, 4, 5, 5, 6, 2, 3, 3, 4, 3, 4, 4, 5, 3, 4, 4, 5, 4, 5, 5, 6, 3, 4, 4, 5, 4, 5, 5, 6, 4, 5, 5, 6, 5, 6, 6, 7, 2, 3, 3, 4, 3, 4, 4, 5, 3, 4, 4, 5, 4, 5, 5, 6, 3, 4, 4, 5, 4, 5, 5, 6, 4, 5, 5, 6, 5, 6, 6, 7, 3, 4, 4, 5, 4, 5, 5, 6, 4, 5, 5, 6, 5, 6, 6, 7, 4, 5, 5, 6, 5, 6, 6, 7, 5, 6, 6, 7, 6, 7, 7, 8]) (iand .u32 (ishr .u32 xx0 (16 : Int)) (255 : Int))))) + (bt (ByteArray.mk #[0, 1, 1, 2, 1, 2, 2, 3, 1, 2, 2, 3, 2, 3, 3, 4, 1, 2, 2, 3, 2, 3, 3, 4, 2, 3, 3, 4, 3, 4, 4, 5, 1, 2, 2, 3, 2, 3, 3, 4, 2, 3, 3, 4, 3, 4, 4, 5, 2, 3, 3, 4, 3, 4, 4, 5, 3, 4, 4, 5, 4, 5, 5, 6, 1, 2, 2, 3, 2, 3, 3, 4, 2, 3, 3, 4, 3, 4, 4, 5, 2, 3, 3, 4, 3, 4, 4, 5, 3, 4, 4, 5, 4, 5, 5, 6, 2, 3, 3, 4, 3, 4, 4, 5, 3, 4, 4, 5, 4, 5, 5, 6, 3, 4, 4, 5, 4, 5, 5, 6, 4, 5, 5, 6, 5, 6, 6, 7, 1, 2, 2, 3, 2, 3, 3, 4, 2, 3, 3, 4, 3, 4, 4, 5, 2, 3, 3, 4, 3, 4, 4, 5, 3, 4, 4, 5, 4, 5, 5, 6, 2, 3, 3, 4, 3, 4, 4, 5, 3, 4, 4, 5, 4, 5, 5, 6, 3, 4, 4, 5, 4, 5, 5, 6, 4, 5, 5, 6, 5, 6, 6, 7, 2, 3, 3, 4, 3, 4, 4, 5, 3, 4, 4, 5, 4, 5, 5, 6, 3, 4, 4, 5, 4, 5, 5, 6, 4, 5, 5, 6, 5, 6, 6, 7, 3, 4, 4, 5, 4, 5, 5, 6, 4, 5, 5, 6, 5, 6, 6, 7, 4, 5, 5, 6, 5, 6, 6, 7, 5, 6, 6, 7, 6, 7, 7, 8]) (iand .u32 (ishr .u32 xx0 (8 : Int)) (255 : Int))))) + (bt (ByteArray.mk #[0, 1, 1, 2, 1, 2, 2, 3, 1, 2, 2, 3, 2, 3, 3, 4, 1, 2, 2, 3, 2, 3, 3, 4, 2, 3, 3, 4, 3, 4, 4, 5, 1, 2, 2, 3, 2, 3, 3, 4, 2, 3, 3, 4, 3, 4, 4, 5, 2, 3, 3, 4, 3, 4, 4, 5, 3, 4, 4, 5, 4, 5, 5, 6, 1, 2, 2, 3, 2, 3, 3, 4, 2, 3, 3, 4, 3, 4, 4, 5, 2, 3, 3, 4, 3, 4, 4, 5, 3, 4, 4, 5, 4, 5, 5, 6, 2, 3, 3, 4, 3, 4, 4, 5, 3, 4, 4, 5, 4, 5, 5, 6, 3, 4, 4, 5, 4, 5, 5, 6, 4, 5, 5, 6, 5, 6, 6, 7, 1, 2, 2, 3, 2, 3, 3, 4, 2, 3, 3, 4, 3, 4, 4, 5, 2, 3, 3, 4, 3, 4, 4, 5, 3, 4, 4, 5, 4, 5, 5, 6, 2, 3, 3, 4, 3, 4, 4, 5, 3, 4, 4, 5, 4, 5, 5, 6, 3, 4, 4, 5, 4, 5, 5, 6, 4, 5, 5, 6, 5, 6, 6, 7, 2, 3, 3, 4, 3, 4, 4, 5, 3, 4, 4, 5, 4, 5, 5, 6, 3, 4, 4, 5, 4, 5, 5, 6, 4, 5, 5, 6, 5, 6, 6, 7, 3, 4, 4, 5, 4, 5, 5, 6, 4, 5, 5, 6, 5, 6, 6, 7, 4, 5, 5, 6, 5, 6, 6, 7, 5, 6, 6, 7, 6, 7, 7, 8]) (iand .u32 xx0 (255 : Int))))))) else none) else none) else none) else none)
theorem f_math_bits_OnesCount32_c {S : Nat → Prop} {w0 w : World} {ow : List Res} (hp : Hp S w0 w ow) (xx0 : Int) {r : Int} (h : f_math_bits_OnesCount32 xx0 = some r) :
   Calls Try.prog 68 #[.int .u32 xx0] w (fun e w' => e = .returned (.int .i64 r) ∧ Hp S w0 w' (ow)) := by
  unfold f_math_bits_OnesCount32 at h
  refine enter (n := 21) (args := [.int .u32 xx0]) Try.func68 rfl rfl (Nat.le_of_ble_eq_true rfl) fun a hf => ?_
  replace hf : Fr 21 a [(0, .int .u32 xx0)] := hf
  refine wp_mono (Q := fun e a w => e = .ret ∧ Fr 21 a [(2, .int .i64 r)] ∧ Hp S w0 w (ow)) ?_ ?_
  rotate_left
  ·
   rintro e a w ⟨rfl, hf, hp⟩
   exact ret1 hf rfl rfl ⟨rfl, hp⟩
  refine wp_seq ?_
  refine wp_reg ?_
  refine st_assign hf rfl rfl (by decide) ?_
  clear hf; intro a ha hf; clear ha
  refine st_nil hf ?_
  refine th_n ?_
  refine wp_seq ?_
  obtain ⟨hc1, h⟩ := chk h
  obtain ⟨hc2, h⟩ := chk h
  obtain ⟨hc3, h⟩ := chk h
  obtain ⟨hc4, h⟩ := chk h
  refine wp_cutN (fun a w => Fr 21 a [(2, .int .i64 (IntKind.i64.wrap (IntKind.u8.wrap ((IntKind.u8.wrap ((IntKind.u8.wrap ((bt (ByteArray.mk #[0, 1, 1, 2, 1, 2, 2, 3, 1, 2, 2, 3, 2, 3, 3, 4, 1, 2, 2, 3, 2, 3, 3, 4, 2, 3, 3, 4, 3, 4, 4, 5, 1, 2, 2, 3, 2, 3, 3, 4, 2, 3, 3, 4, 3, 4, 4, 5, 2, 3, 3, 4, 3, 4, 4, 5, 3, 4, 4, 5, 4, 5, 5, 6, 1, 2, 2, 3, 2, 3, 3, 4, 2, 3, 3, 4, 3, 4, 4, 5, 2, 3, 3, 4, 3, 4, 4, 5, 3, 4, 4, 5, 4, 5, 5, 6, 2, 3, 3, 4, 3, 4, 4, 5, 3, 4, 4, 5, 4, 5, 5, 6, 3, 4, 4, 5, 4, 5, 5, 6, 4, 5, 5, 6, 5, 6, 6, 7, 1, 2, 2, 3, 2, 3, 3, 4, 2, 3, 3, 4, 3, 4, 4, 5, 2, 3, 3, 4, 3, 4, 4, 5, 3, 4, 4, 5, 4, 5, 5, 6, 2, 3, 3, 4, 3, 4, 4, 5, 3, 4, 4, 5, 4, 5, 5, 6, 3, 4, 4, 5, 4, 5, 5, 6, 4, 5, 5, 6, 5, 6, 6, 7, 2, 3, 3, 4, 3, 4, 4, 5, 3, 4, 4, 5, 4, 5, 5, 6, 3, 4, 4, 5, 4, 5, 5, 6, 4, 5, 5, 6, 5, 6, 6, 7, 3, 4, 4, 5, 4, 5, 5, 6, 4, 5, 5, 6, 5, 6, 6, 7, 4, 5, 5, 6, 5, 6, 6, 7, 5, 6, 6, 7, 6, 7, 7, 8]) (ishr .u32 xx0 (24 : Int))) + (bt (ByteArray.mk #[0, 1, 1, 2, 1, 2, 2, 3, 1, 2, 2, 3, 2, 3, 3, 4, 1, 2, 2, 3, 2, 3, 3, 4, 2, 3, 3, 4, 3, 4, 4, 5, 1, 2, 2, 3, 2, 3, 3, 4, 2, 3, 3, 4, 3, 4, 4, 5, 2, 3, 3, 4, 3, 4, 4, 5, 3, 4, 4, 5, 4, 5, 5, 6, 1, 2, 2, 3, 2, 3, 3, 4, 2, 3, 3, 4, 3, 4, 4, 5, 2, 3, 3, 4, 3, 4, 4, 5, 3, 4, 4, 5, 4, 5, 5, 6, 2, 3, 3, 4, 3, 4, 4, 5, 3, 4, 4, 5, 4, 5, 5, 6, 3, 4, 4, 5, 4, 5, 5, 6, 4, 5, 5, 6, 5, 6, 6, 7, 1, 2, 2, 3, 2, 3, 3, 4, 2, 3, 3, 4, 3, 4, 4, 5, 2, 3, 3, 4, 3, 4, 4, 5, 3, 4, 4, 5, 4, 5, 5, 6, 2, 3, 3, 4, 3, 4, 4, 5, 3, 4, 4, 5, 4, 5, 5, 6, 3, 4, 4, 5, 4, 5, 5, 6, 4, 5, 5, 6, 5, 6, 6, 7, 2, 3, 3, 4, 3, 4, 4, 5, 3, 4, 4, 5, 4, 5, 5, 6, 3, 4, 4, 5, 4, 5, 5, 6, 4, 5, 5, 6, 5, 6, 6, 7, 3, 4, 4, 5, 4, 5, 5, 6, 4, 5, 5, 6, 5, 6, 6, 7, 4, 5, 5, 6, 5, 6, 6, 7, 5, 6, 6, 7, 6, 7, 7, 8]) (iand .u32 (ishr .u32 xx0 (16 : Int)) (255 : Int))))) + (bt (ByteArray.mk #[0, 1, 1, 2, 1, 2, 2, 3, 1, 2, 2, 3, 2, 3, 3, 4, 1, 2, 2, 3, 2, 3, 3, 4, 2, 3, 3, 4, 3, 4, 4, 5, 1, 2, 2, 3, 2, 3, 3, 4, 2, 3, 3, 4, 3, 4, 4, 5, 2, 3, 3, 4, 3, 4, 4, 5, 3, 4, 4, 5, 4, 5, 5, 6, 1, 2, 2, 3, 2, 3, 3, 4, 2, 3, 3, 4, 3, 4, 4, 5, 2, 3, 3, 4, 3, 4, 4, 5, 3, 4, 4, 5, 4, 5, 5, 6, 2, 3, 3, 4, 3, 4, 4, 5, 3, 4, 4, 5, 4, 5, 5, 6, 3, 4, 4, 5, 4, 5, 5, 6, 4, 5, 5, 6, 5, 6, 6, 7, 1, 2, 2, 3, 2, 3, 3, 4, 2, 3, 3, 4, 3, 4, 4, 5, 2, 3, 3, 4, 3, 4, 4, 5, 3, 4, 4, 5, 4, 5, 5, 6, 2, 3, 3, 4, 3, 4, 4, 5, 3, 4, 4, 5, 4, 5, 5, 6, 3, 4, 4, 5, 4, 5, 5, 6, 4, 5, 5, 6, 5, 6, 6, 7, 2, 3, 3, 4, 3, 4, 4, 5, 3, 4, 4, 5, 4, 5, 5, 6, 3, 4, 4, 5, 4, 5, 5, 6, 4, 5, 5, 6, 5, 6, 6, 7, 3, 4, 4, 5, 4, 5, 5, 6, 4, 5, 5, 6, 5, 6, 6, 7, 4, 5, 5, 6, 5, 6, 6, 7, 5, 6, 6, 7, 6, 7, 7, 8]) (iand .u32 (ishr .u32 xx0 (8 : Int)) (255 : Int))))) + (bt (ByteArray.mk #[0, 1, 1, 2, 1, 2, 2, 3, 1, 2, 2, 3, 2, 3, 3, 4, 1, 2, 2, 3, 2, 3, 3, 4, 2, 3, 3, 4, 3, 4, 4, 5, 1, 2, 2, 3, 2, 3, 3, 4, 2, 3, 3, 4, 3, 4, 4, 5, 2, 3, 3, 4, 3, 4, 4, 5, 3, 4, 4, 5, 4, 5, 5, 6, 1, 2, 2, 3, 2, 3, 3, 4, 2, 3, 3, 4, 3, 4, 4, 5, 2, 3, 3, 4, 3, 4, 4, 5, 3, 4, 4, 5, 4, 5, 5, 6, 2, 3, 3, 4, 3, 4, 4, 5, 3, 4, 4, 5, 4, 5, 5, 6, 3, 4, 4, 5, 4, 5, 5, 6, 4, 5, 5, 6, 5, 6, 6, 7, 1, 2, 2, 3, 2, 3, 3, 4, 2, 3, 3, 4, 3, 4, 4, 5, 2, 3, 3, 4, 3, 4, 4, 5, 3, 4, 4, 5, 4, 5, 5, 6, 2, 3, 3, 4, 3, 4, 4, 5, 3, 4, 4, 5, 4, 5, 5, 6, 3, 4, 4, 5, 4, 5, 5, 6, 4, 5, 5, 6, 5, 6, 6, 7, 2, 3, 3, 4, 3, 4, 4, 5, 3, 4, 4, 5, 4, 5, 5, 6, 3, 4, 4, 5, 4, 5, 5, 6, 4, 5, 5, 6, 5, 6, 6, 7, 3, 4, 4, 5, 4, 5, 5, 6, 4, 5, 5, 6, 5, 6, 6, 7, 4, 5, 5, 6, 5, 6, 6, 7, 5, 6, 6, 7, 6, 7, 7, 8]) (iand .u32 xx0 (255 : Int)))))))] ∧ Hp S w0 w (ow)) ?_ ?_
  ·
   have hp := hp.same (Same.drew w)
   refine dr_begin' _ (fun w' => ∃ l, Hp S w0 w' l) [] (by kernel_rfl) ?_
   refine dr_takeK 0 (.int .u32 xx0) rfl hf rfl (fun w ⟨_, hp⟩ => ?_) ⟨_, hp⟩ ?_
   · exact st_move hf rfl rfl (by decide) tk
   clear hf; intro a hf
   refine dr_takeK 1 (.int .u32 (ishr .u32 xx0 (24 : Int))) rfl hf rfl (fun w ⟨_, hp⟩ => ?_) ⟨_, hp⟩ ?_
   · exact st_ishr hf (by decide) rfl rfl rfl (by decide) tk
   clear hf; intro a hf
   refine dr_takeK 2 (.int .u8 (bt (ByteArray.mk #[0, 1, 1, 2, 1, 2, 2, 3, 1, 2, 2, 3, 2, 3, 3, 4, 1, 2, 2, 3, 2, 3, 3, 4, 2, 3, 3, 4, 3, 4, 4, 5, 1, 2, 2, 3, 2, 3, 3, 4, 2, 3, 3, 4, 3, 4, 4, 5, 2, 3, 3, 4, 3, 4, 4, 5, 3, 4, 4, 5, 4, 5, 5, 6, 1, 2, 2, 3, 2, 3, 3, 4, 2, 3, 3, 4, 3, 4, 4, 5, 2, 3, 3, 4, 3, 4, 4, 5, 3, 4, 4, 5, 4, 5, 5, 6, 2, 3, 3, 4, 3, 4, 4, 5, 3, 4, 4, 5, 4, 5, 5, 6, 3, 4, 4, 5, 4, 5, 5, 6, 4, 5, 5, 6, 5, 6, 6, 7, 1, 2, 2, 3, 2, 3, 3, 4, 2, 3, 3, 4, 3, 4, 4, 5, 2, 3, 3, 4, 3, 4, 4, 5, 3, 4, 4, 5, 4, 5, 5, 6, 2, 3, 3, 4, 3, 4, 4, 5, 3, 4, 4, 5, 4, 5, 5, 6, 3, 4, 4, 5, 4, 5, 5, 6, 4, 5, 5, 6, 5, 6, 6, 7, 2, 3, 3, 4, 3, 4, 4, 5, 3, 4, 4, 5, 4, 5, 5, 6, 3, 4, 4, 5, 4, 5, 5, 6, 4, 5, 5, 6, 5, 6, 6, 7, 3, 4, 4, 5, 4, 5, 5, 6, 4, 5, 5, 6, 5, 6, 6, 7, 4, 5, 5, 6, 5, 6, 6, 7, 5, 6, 6, 7, 6, 7, 7, 8]) (ishr .u32 xx0 (24 : Int)))) rfl hf rfl (fun w ⟨_, hp⟩ => ?_) ⟨_, hp⟩ ?_
   · exact st_sidx hf (by decide) Try.underlying9 rfl rfl rfl hc1.1 hc1.2 tk
   clear hf; intro a hf
   refine dr_takeK 3 (.int .u32 xx0) rfl hf rfl (fun w ⟨_, hp⟩ => ?_) ⟨_, hp⟩ ?_
   · exact st_move hf rfl rfl (by decide) tk
   clear hf; intro a hf
   refine dr_takeK 4 (.int .u32 (ishr .u32 xx0 (16 : Int))) rfl hf rfl (fun w ⟨_, hp⟩ => ?_) ⟨_, hp⟩ ?_
   · exact st_ishr hf (by decide) rfl rfl rfl (by decide) tk
   clear hf; intro a hf
   refine dr_takeK 5 (.int .u32 (iand .u32 (ishr .u32 xx0 (16 : Int)) (255 : Int))) rfl hf rfl (fun w ⟨_, hp⟩ => ?_) ⟨_, hp⟩ ?_
   · exact st_iand hf (by decide) rfl rfl rfl tk
   clear hf; intro a hf
   refine dr_takeK 6 (.int .u8 (bt (ByteArray.mk #[0, 1, 1, 2, 1, 2, 2, 3, 1, 2, 2, 3, 2, 3, 3, 4, 1, 2, 2, 3, 2, 3, 3, 4, 2, 3, 3, 4, 3, 4, 4, 5, 1, 2, 2, 3, 2, 3, 3, 4, 2, 3, 3, 4, 3, 4, 4, 5, 2, 3, 3, 4, 3, 4, 4, 5, 3, 4, 4, 5, 4, 5, 5, 6, 1, 2, 2, 3, 2, 3, 3, 4, 2, 3, 3, 4, 3, 4, 4, 5, 2, 3, 3, 4, 3, 4, 4, 5, 3, 4, 4, 5, 4, 5, 5, 6, 2, 3, 3, 4, 3, 4, 4, 5, 3, 4, 4, 5, 4, 5, 5, 6, 3, 4, 4, 5, 4, 5, 5, 6, 4, 5, 5, 6, 5, 6, 6, 7, 1, 2, 2, 3, 2, 3, 3, 4, 2, 3, 3, 4, 3, 4, 4, 5, 2, 3, 3, 4, 3, 4, 4, 5, 3, 4, 4, 5, 4, 5, 5, 6, 2, 3, 3, 4, 3, 4, 4, 5, 3, 4, 4, 5, 4, 5, 5, 6, 3, 4, 4, 5, 4, 5, 5, 6, 4, 5, 5, 6, 5, 6, 6, 7, 2, 3, 3, 4, 3, 4, 4, 5, 3, 4, 4, 5, 4, 5, 5, 6, 3, 4, 4, 5, 4, 5, 5, 6, 4, 5, 5, 6, 5, 6, 6, 7, 3, 4, 4, 5, 4, 5, 5, 6, 4, 5, 5, 6, 5, 6, 6, 7, 4, 5, 5, 6, 5, 6, 6, 7, 5, 6, 6, 7, 6, 7, 7, 8]) (iand .u32 (ishr .u32 xx0 (16 : Int)) (255 : Int)))) rfl hf rfl (fun w ⟨_, hp⟩ => ?_) ⟨_, hp⟩ ?_
   · exact st_sidx hf (by decide) Try.underlying9 rfl rfl rfl hc2.1 hc2.2 tk
   clear hf; intro a hf
   refine dr_takeK 7 (.int .u8 (IntKind.u8.wrap ((bt (ByteArray.mk #[0, 1, 1, 2, 1, 2, 2, 3, 1, 2, 2, 3, 2, 3, 3, 4, 1, 2, 2, 3, 2, 3, 3, 4, 2, 3, 3, 4, 3, 4, 4, 5, 1, 2, 2, 3, 2, 3, 3, 4, 2, 3, 3, 4, 3, 4, 4, 5, 2, 3, 3, 4, 3, 4, 4, 5, 3, 4, 4, 5, 4, 5, 5, 6, 1, 2, 2, 3, 2, 3, 3, 4, 2, 3, 3, 4, 3, 4, 4, 5, 2, 3, 3, 4, 3, 4, 4, 5, 3, 4, 4, 5, 4, 5, 5, 6, 2, 3, 3, 4, 3, 4, 4, 5, 3, 4, 4, 5, 4, 5, 5, 6, 3, 4, 4, 5, 4, 5, 5, 6, 4, 5, 5, 6, 5, 6, 6, 7, 1, 2, 2, 3, 2, 3, 3, 4, 2, 3, 3, 4, 3, 4, 4, 5, 2, 3, 3, 4, 3, 4, 4, 5, 3, 4, 4, 5, 4, 5, 5, 6, 2, 3, 3, 4, 3, 4, 4, 5, 3, 4, 4, 5, 4, 5, 5, 6, 3, 4, 4, 5, 4, 5, 5, 6, 4, 5, 5, 6, 5, 6, 6, 7, 2, 3, 3, 4, 3, 4, 4, 5, 3, 4, 4, 5, 4, 5, 5, 6, 3, 4, 4, 5, 4, 5, 5, 6, 4, 5, 5, 6, 5, 6, 6, 7, 3, 4, 4, 5, 4, 5, 5, 6, 4, 5, 5, 6, 5, 6, 6, 7, 4, 5, 5, 6, 5, 6, 6, 7, 5, 6, 6, 7, 6, 7, 7, 8]) (ishr .u32 xx0 (24 : Int))) + (bt (ByteArray.mk #[0, 1, 1, 2, 1, 2, 2, 3, 1, 2, 2, 3, 2, 3, 3, 4, 1, 2, 2, 3, 2, 3, 3, 4, 2, 3, 3, 4, 3, 4, 4, 5, 1, 2, 2, 3, 2, 3, 3, 4, 2, 3, 3, 4, 3, 4, 4, 5, 2, 3, 3, 4, 3, 4, 4, 5, 3, 4, 4, 5, 4, 5, 5, 6, 1, 2, 2, 3, 2, 3, 3, 4, 2, 3, 3, 4, 3, 4, 4, 5, 2, 3, 3, 4, 3, 4, 4, 5, 3, 4, 4, 5, 4, 5, 5, 6, 2, 3, 3, 4, 3, 4, 4, 5, 3, 4, 4, 5, 4, 5, 5, 6, 3, 4, 4, 5, 4, 5, 5, 6, 4, 5, 5, 6, 5, 6, 6, 7, 1, 2, 2, 3, 2, 3, 3, 4, 2, 3, 3, 4, 3, 4, 4, 5, 2, 3, 3, 4, 3, 4, 4, 5, 3, 4, 4, 5, 4, 5, 5, 6, 2, 3, 3, 4, 3, 4, 4, 5, 3, 4, 4, 5, 4, 5, 5, 6, 3, 4, 4, 5, 4, 5, 5, 6, 4, 5, 5, 6, 5, 6, 6, 7, 2, 3, 3, 4, 3, 4, 4, 5, 3, 4, 4, 5, 4, 5, 5, 6, 3, 4, 4, 5, 4, 5, 5, 6, 4, 5, 5, 6, 5, 6, 6, 7, 3, 4, 4, 5, 4, 5, 5, 6, 4, 5, 5, 6, 5, 6, 6, 7, 4, 5, 5, 6, 5, 6, 6, 7, 5, 6, 6, 7, 6, 7, 7, 8]) (iand .u32 (ishr .u32 xx0 (16 : Int)) (255 : Int)))))) rfl hf rfl (fun w ⟨_, hp⟩ => ?_) ⟨_, hp⟩ ?_
   · exact st_iadd hf (by decide) rfl rfl rfl tk
   clear hf; intro a hf
   refine dr_takeK 8 (.int .u32 xx0) rfl hf rfl (fun w ⟨_, hp⟩ => ?_) ⟨_, hp⟩ ?_
   · exact st_move hf rfl rfl (by decide) tk
   clear hf; intro a hf
   refine dr_takeK 9 (.int .u32 (ishr .u32 xx0 (8 : Int))) rfl hf rfl (fun w ⟨_, hp⟩ => ?_) ⟨_, hp⟩ ?_
   · exact st_ishr hf (by decide) rfl rfl rfl (by decide) tk
   clear hf; intro a hf
   refine dr_takeK 10 (.int .u32 (iand .u32 (ishr .u32 xx0 (8 : Int)) (255 : Int))) rfl hf rfl (fun w ⟨_, hp⟩ => ?_) ⟨_, hp⟩ ?_
   · exact st_iand hf (by decide) rfl rfl rfl tk
   clear hf; intro a hf
   refine dr_takeK 11 (.int .u8 (bt (ByteArray.mk #[0, 1, 1, 2, 1, 2, 2, 3, 1, 2, 2, 3, 2, 3, 3, 4, 1, 2, 2, 3, 2, 3, 3, 4, 2, 3, 3, 4, 3, 4, 4, 5, 1, 2, 2, 3, 2, 3, 3, 4, 2, 3, 3, 4, 3, 4, 4, 5, 2, 3, 3, 4, 3, 4, 4, 5, 3, 4, 4, 5, 4, 5, 5, 6, 1, 2, 2, 3, 2, 3, 3, 4, 2, 3, 3, 4, 3, 4, 4, 5, 2, 3, 3, 4, 3, 4, 4, 5, 3, 4, 4, 5, 4, 5, 5, 6, 2, 3, 3, 4, 3, 4, 4, 5, 3, 4, 4, 5, 4, 5, 5, 6, 3, 4, 4, 5, 4, 5, 5, 6, 4, 5, 5, 6, 5, 6, 6, 7, 1, 2, 2, 3, 2, 3, 3, 4, 2, 3, 3, 4, 3, 4, 4, 5, 2, 3, 3, 4, 3, 4, 4, 5, 3, 4, 4, 5, 4, 5, 5, 6, 2, 3, 3, 4, 3, 4, 4, 5, 3, 4, 4, 5, 4, 5, 5, 6, 3, 4, 4, 5, 4, 5, 5, 6, 4, 5, 5, 6, 5, 6, 6, 7, 2, 3, 3, 4, 3, 4, 4, 5, 3, 4, 4, 5, 4, 5, 5, 6, 3, 4, 4, 5, 4, 5, 5, 6, 4, 5, 5, 6, 5, 6, 6, 7, 3, 4, 4, 5, 4, 5, 5, 6, 4, 5, 5, 6, 5, 6, 6, 7, 4, 5, 5, 6, 5, 6, 6, 7, 5, 6, 6, 7, 6, 7, 7, 8]) (iand .u32 (ishr .u32 xx0 (8 : Int)) (255 : Int)))) rfl hf rfl (fun w ⟨_, hp⟩ => ?_) ⟨_, hp⟩ ?_
   · exact st_sidx hf (by decide) Try.underlying9 rfl rfl rfl hc3.1 hc3.2 tk
   clear hf; intro a hf
   refine dr_takeK 12 (.int .u8 (IntKind.u8.wrap ((IntKind.u8.wrap ((bt (ByteArray.mk #[0, 1, 1, 2, 1, 2, 2, 3, 1, 2, 2, 3, 2, 3, 3, 4, 1, 2, 2, 3, 2, 3, 3, 4, 2, 3, 3, 4, 3, 4, 4, 5, 1, 2, 2, 3, 2, 3, 3, 4, 2, 3, 3, 4, 3, 4, 4, 5, 2, 3, 3, 4, 3, 4, 4, 5, 3, 4, 4, 5, 4, 5, 5, 6, 1, 2, 2, 3, 2, 3, 3, 4, 2, 3, 3, 4, 3, 4, 4, 5, 2, 3, 3, 4, 3, 4, 4, 5, 3, 4, 4, 5, 4, 5, 5, 6, 2, 3, 3, 4, 3, 4, 4, 5, 3, 4, 4, 5, 4, 5, 5, 6, 3, 4, 4, 5, 4, 5, 5, 6, 4, 5, 5, 6, 5, 6, 6, 7, 1, 2, 2, 3, 2, 3, 3, 4, 2, 3, 3, 4, 3, 4, 4, 5, 2, 3, 3, 4, 3, 4, 4, 5, 3, 4, 4, 5, 4, 5, 5, 6, 2, 3, 3, 4, 3, 4, 4, 5, 3, 4, 4, 5, 4, 5, 5, 6, 3, 4, 4, 5, 4, 5, 5, 6, 4, 5, 5, 6, 5, 6, 6, 7, 2, 3, 3, 4, 3, 4, 4, 5, 3, 4, 4, 5, 4, 5, 5, 6, 3, 4, 4, 5, 4, 5, 5, 6, 4, 5, 5, 6, 5, 6, 6, 7, 3, 4, 4, 5, 4, 5, 5, 6, 4, 5, 5, 6, 5, 6, 6, 7, 4, 5, 5, 6, 5, 6, 6, 7, 5, 6, 6, 7, 6, 7, 7, 8]) (ishr .u32 xx0 (24 : Int))) + (bt (ByteArray.mk #[0, 1, 1, 2, 1, 2, 2, 3, 1, 2, 2, 3, 2, 3, 3, 4, 1, 2, 2, 3, 2, 3, 3, 4, 2, 3, 3, 4, 3, 4, 4, 5, 1, 2, 2, 3, 2, 3, 3, 4, 2, 3, 3, 4, 3, 4, 4, 5, 2, 3, 3, 4, 3, 4, 4, 5, 3, 4, 4, 5, 4, 5, 5, 6, 1, 2, 2, 3, 2, 3, 3, 4, 2, 3, 3, 4, 3, 4, 4, 5, 2, 3, 3, 4, 3, 4, 4, 5, 3, 4, 4, 5, 4, 5, 5, 6, 2, 3, 3, 4, 3, 4, 4, 5, 3, 4, 4, 5, 4, 5, 5, 6, 3, 4, 4, 5, 4, 5, 5, 6, 4, 5, 5, 6, 5, 6, 6, 7, 1, 2, 2, 3, 2, 3, 3, 4, 2, 3, 3, 4, 3, 4, 4, 5, 2, 3, 3, 4, 3, 4, 4, 5, 3, 4, 4, 5, 4, 5, 5, 6, 2, 3, 3, 4, 3, 4, 4, 5, 3, 4, 4, 5, 4, 5, 5, 6, 3, 4, 4, 5, 4, 5, 5, 6, 4, 5, 5, 6, 5, 6, 6, 7, 2, 3, 3, 4, 3, 4, 4, 5, 3, 4, 4, 5, 4, 5, 5, 6, 3, 4, 4, 5, 4, 5, 5, 6, 4, 5, 5, 6, 5, 6, 6, 7, 3, 4, 4, 5, 4, 5, 5, 6, 4, 5, 5, 6, 5, 6, 6, 7, 4, 5, 5, 6, 5, 6, 6, 7, 5, 6, 6, 7, 6, 7, 7, 8]) (iand .u32 (ishr .u32 xx0 (16 : Int)) (255 : Int))))) + (bt (ByteArray.mk #[0, 1, 1, 2, 1, 2, 2, 3, 1, 2, 2, 3, 2, 3, 3, 4, 1, 2, 2, 3, 2, 3, 3, 4, 2, 3, 3, 4, 3, 4, 4, 5, 1, 2, 2, 3, 2, 3, 3, 4, 2, 3, 3, 4, 3, 4, 4, 5, 2, 3, 3, 4, 3, 4, 4, 5, 3, 4, 4, 5, 4, 5, 5, 6, 1, 2, 2, 3, 2, 3, 3, 4, 2, 3, 3, 4, 3, 4, 4, 5, 2, 3, 3, 4, 3, 4, 4, 5, 3, 4, 4, 5, 4, 5, 5, 6, 2, 3, 3, 4, 3, 4, 4, 5, 3, 4, 4, 5, 4, 5, 5, 6, 3, 4, 4, 5, 4, 5, 5, 6, 4, 5, 5, 6, 5, 6, 6, 7, 1, 2, 2, 3, 2, 3, 3, 4, 2, 3, 3, 4, 3, 4, 4, 5, 2, 3, 3, 4, 3, 4, 4, 5, 3, 4, 4, 5, 4, 5, 5, 6, 2, 3, 3, 4, 3, 4, 4, 5, 3, 4, 4, 5, 4, 5, 5, 6, 3, 4, 4, 5, 4, 5, 5, 6, 4, 5, 5, 6, 5, 6, 6, 7, 2, 3, 3, 4, 3, 4, 4, 5, 3, 4, 4, 5, 4, 5, 5, 6, 3, 4, 4, 5, 4, 5, 5, 6, 4, 5, 5, 6, 5, 6, 6, 7, 3, 4, 4, 5, 4, 5, 5, 6, 4, 5, 5, 6, 5, 6, 6, 7, 4, 5, 5, 6, 5, 6, 6, 7, 5, 6, 6, 7, 6, 7, 7, 8]) (iand .u32 (ishr .u32 xx0 (8 : Int)) (255 : Int)))))) rfl hf rfl (fun w ⟨_, hp⟩ => ?_) ⟨_, hp⟩ ?_
   · exact st_iadd hf (by decide) rfl rfl rfl tk
   clear hf; intro a hf
   refine dr_takeK 13 (.int .u32 xx0) rfl hf rfl (fun w ⟨_, hp⟩ => ?_) ⟨_, hp⟩ ?_
   · exact st_move hf rfl rfl (by decide) tk
   clear hf; intro a hf
   refine dr_takeK 14 (.int .u32 (iand .u32 xx0 (255 : Int))) rfl hf rfl (fun w ⟨_, hp⟩ => ?_) ⟨_, hp⟩ ?_
   · exact st_iand hf (by decide) rfl rfl rfl tk
   clear hf; intro a hf
   refine dr_takeK 15 (.int .u8 (bt (ByteArray.mk #[0, 1, 1, 2, 1, 2, 2, 3, 1, 2, 2, 3, 2, 3, 3, 4, 1, 2, 2, 3, 2, 3, 3, 4, 2, 3, 3, 4, 3, 4, 4, 5, 1, 2, 2, 3, 2, 3, 3, 4, 2, 3, 3, 4, 3, 4, 4, 5, 2, 3, 3, 4, 3, 4, 4, 5, 3, 4, 4, 5, 4, 5, 5, 6, 1, 2, 2, 3, 2, 3, 3, 4, 2, 3, 3, 4, 3, 4, 4, 5, 2, 3, 3, 4, 3, 4, 4, 5, 3, 4, 4, 5, 4, 5, 5, 6, 2, 3, 3, 4, 3, 4, 4, 5, 3, 4, 4, 5, 4, 5, 5, 6, 3, 4, 4, 5, 4, 5, 5, 6, 4, 5, 5, 6, 5, 6, 6, 7, 1, 2, 2, 3, 2, 3, 3, 4, 2, 3, 3, 4, 3, 4, 4, 5, 2, 3, 3, 4, 3, 4, 4, 5, 3, 4, 4, 5, 4, 5, 5, 6, 2, 3, 3, 4, 3, 4, 4, 5, 3, 4, 4, 5, 4, 5, 5, 6, 3, 4, 4, 5, 4, 5, 5, 6, 4, 5, 5, 6, 5, 6, 6, 7, 2, 3, 3, 4, 3, 4, 4, 5, 3, 4, 4, 5, 4, 5, 5, 6, 3, 4, 4, 5, 4, 5, 5, 6, 4, 5, 5, 6, 5, 6, 6, 7, 3, 4, 4, 5, 4, 5, 5, 6, 4, 5, 5, 6, 5, 6, 6, 7, 4, 5, 5, 6, 5, 6, 6, 7, 5, 6, 6, 7, 6, 7, 7, 8]) (iand .u32 xx0 (255 : Int)))) rfl hf rfl (fun w ⟨_, hp⟩ => ?_) ⟨_, hp⟩ ?_
   · exact st_sidx hf (by decide) Try.underlying9 rfl rfl rfl hc4.1 hc4.2 tk
   clear hf; intro a hf
   refine dr_takeK 16 (.int .u8 (IntKind.u8.wrap ((IntKind.u8.wrap ((IntKind.u8.wrap ((bt (ByteArray.mk #[0, 1, 1, 2, 1, 2, 2, 3, 1, 2, 2, 3, 2, 3, 3, 4, 1, 2, 2, 3, 2, 3, 3, 4, 2, 3, 3, 4, 3, 4, 4, 5, 1, 2, 2, 3, 2, 3, 3, 4, 2, 3, 3, 4, 3, 4, 4, 5, 2, 3, 3, 4, 3, 4, 4, 5, 3, 4, 4, 5, 4, 5, 5, 6, 1, 2, 2, 3, 2, 3, 3, 4, 2, 3, 3, 4, 3, 4, 4, 5, 2, 3, 3, 4, 3, 4, 4, 5, 3, 4, 4, 5, 4, 5, 5, 6, 2, 3, 3, 4, 3, 4, 4, 5, 3, 4, 4, 5, 4, 5, 5, 6, 3, 4, 4, 5, 4, 5, 5, 6, 4, 5, 5, 6, 5, 6, 6, 7, 1, 2, 2, 3, 2, 3, 3, 4, 2, 3, 3, 4, 3, 4, 4, 5, 2, 3, 3, 4, 3, 4, 4, 5, 3, 4, 4, 5, 4, 5, 5, 6, 2, 3, 3, 4, 3, 4, 4, 5, 3, 4, 4, 5, 4, 5, 5, 6, 3, 4, 4, 5, 4, 5, 5, 6, 4, 5, 5, 6, 5, 6, 6, 7, 2, 3, 3, 4, 3, 4, 4, 5, 3, 4, 4, 5, 4, 5, 5, 6, 3, 4, 4, 5, 4, 5, 5, 6, 4, 5, 5, 6, 5, 6, 6, 7, 3, 4, 4, 5, 4, 5, 5, 6, 4, 5, 5, 6, 5, 6, 6, 7, 4, 5, 5, 6, 5, 6, 6, 7, 5, 6, 6, 7, 6, 7, 7, 8]) (ishr .u32 xx0 (24 : Int))) + (bt (ByteArray.mk #[0, 1, 1, 2, 1, 2, 2, 3, 1, 2, 2, 3, 2, 3, 3, 4, 1, 2, 2, 3, 2, 3, 3, 4, 2, 3, 3, 4, 3, 4, 4, 5, 1, 2, 2, 3, 2, 3, 3, 4, 2, 3, 3, 4, 3, 4, 4, 5, 2, 3, 3, 4, 3, 4, 4, 5, 3, 4, 4, 5, 4, 5, 5, 6, 1, 2, 2, 3, 2, 3, 3, 4, 2, 3, 3, 4, 3, 4, 4, 5, 2, 3, 3, 4, 3, 4, 4, 5, 3, 4, 4, 5, 4, 5, 5, 6, 2, 3, 3, 4, 3, 4, 4, 5, 3, 4, 4, 5, 4, 5, 5, 6, 3, 4, 4, 5, 4, 5, 5, 6, 4, 5, 5, 6, 5, 6, 6, 7, 1, 2, 2, 3, 2, 3, 3, 4, 2, 3, 3, 4, 3, 4, 4, 5, 2, 3, 3, 4, 3, 4, 4, 5, 3, 4, 4, 5, 4, 5, 5, 6, 2, 3, 3, 4, 3, 4, 4, 5, 3, 4, 4, 5, 4, 5, 5, 6, 3, 4, 4, 5, 4, 5, 5, 6, 4, 5, 5, 6, 5, 6, 6, 7, 2, 3, 3, 4, 3, 4, 4, 5, 3, 4, 4, 5, 4, 5, 5, 6, 3, 4, 4, 5, 4, 5, 5, 6, 4, 5, 5, 6, 5, 6, 6, 7, 3, 4, 4, 5, 4, 5, 5, 6, 4, 5, 5, 6, 5, 6, 6, 7, 4, 5, 5, 6, 5, 6, 6, 7, 5, 6, 6, 7, 6, 7, 7, 8]) (iand .u32 (ishr .u32 xx0 (16 : Int)) (255 : Int))))) + (bt (ByteArray.mk #[0, 1, 1, 2, 1, 2, 2, 3, 1, 2, 2, 3, 2, 3, 3, 4, 1, 2, 2, 3, 2, 3, 3, 4, 2, 3, 3, 4, 3, 4, 4, 5, 1, 2, 2, 3, 2, 3, 3, 4, 2, 3, 3, 4, 3, 4, 4, 5, 2, 3, 3, 4, 3, 4, 4, 5, 3, 4, 4, 5, 4, 5, 5, 6, 1, 2, 2, 3, 2, 3, 3, 4, 2, 3, 3, 4, 3, 4, 4, 5, 2, 3, 3, 4, 3, 4, 4, 5, 3, 4, 4, 5, 4, 5, 5, 6, 2, 3, 3, 4, 3, 4, 4, 5, 3, 4, 4, 5, 4, 5, 5, 6, 3, 4, 4, 5, 4, 5, 5, 6, 4, 5, 5, 6, 5, 6, 6, 7, 1, 2, 2, 3, 2, 3, 3, 4, 2, 3, 3, 4, 3, 4, 4, 5, 2, 3, 3, 4, 3, 4, 4, 5, 3, 4, 4, 5, 4, 5, 5, 6, 2, 3, 3, 4, 3, 4, 4, 5, 3, 4, 4, 5, 4, 5, 5, 6, 3, 4, 4, 5, 4, 5, 5, 6, 4, 5, 5, 6, 5, 6, 6, 7, 2, 3, 3, 4, 3, 4, 4, 5, 3, 4, 4, 5, 4, 5, 5, 6, 3, 4, 4, 5, 4, 5, 5, 6, 4, 5, 5, 6, 5, 6, 6, 7, 3, 4, 4, 5, 4, 5, 5, 6, 4, 5, 5, 6, 5, 6, 6, 7, 4, 5, 5, 6, 5, 6, 6, 7, 5, 6, 6, 7, 6, 7, 7, 8]) (iand .u32 (ishr .u32 xx0 (8 : Int)) (255 : Int))))) + (bt (ByteArray.mk #[0, 1, 1, 2, 1, 2, 2, 3, 1, 2, 2, 3, 2, 3, 3, 4, 1, 2, 2, 3, 2, 3, 3, 4, 2, 3, 3, 4, 3, 4, 4, 5, 1, 2, 2, 3, 2, 3, 3, 4, 2, 3, 3, 4, 3, 4, 4, 5, 2, 3, 3, 4, 3, 4, 4, 5, 3, 4, 4, 5, 4, 5, 5, 6, 1, 2, 2, 3, 2, 3, 3, 4, 2, 3, 3, 4, 3, 4, 4, 5, 2, 3, 3, 4, 3, 4, 4, 5, 3, 4, 4, 5, 4, 5, 5, 6, 2, 3, 3, 4, 3, 4, 4, 5, 3, 4, 4, 5, 4, 5, 5, 6, 3, 4, 4, 5, 4, 5, 5, 6, 4, 5, 5, 6, 5, 6, 6, 7, 1, 2, 2, 3, 2, 3, 3, 4, 2, 3, 3, 4, 3, 4, 4, 5, 2, 3, 3, 4, 3, 4, 4, 5, 3, 4, 4, 5, 4, 5, 5, 6, 2, 3, 3, 4, 3, 4, 4, 5, 3, 4, 4, 5, 4, 5, 5, 6, 3, 4, 4, 5, 4, 5, 5, 6, 4, 5, 5, 6, 5, 6, 6, 7, 2, 3, 3, 4, 3, 4, 4, 5, 3, 4, 4, 5, 4, 5, 5, 6, 3, 4, 4, 5, 4, 5, 5, 6, 4, 5, 5, 6, 5, 6, 6, 7, 3, 4, 4, 5, 4, 5, 5, 6, 4, 5, 5, 6, 5, 6, 6, 7, 4, 5, 5, 6, 5, 6, 6, 7, 5, 6, 6, 7, 6, 7, 7, 8]) (iand .u32 xx0 (255 : Int)))))) rfl hf rfl (fun w ⟨_, hp⟩ => ?_) ⟨_, hp⟩ ?_
   · exact st_iadd hf (by decide) rfl rfl rfl tk
   clear hf; intro a hf
   refine dr_takeK 17 (.int .i64 (IntKind.i64.wrap (IntKind.u8.wrap ((IntKind.u8.wrap ((IntKind.u8.wrap ((bt (ByteArray.mk #[0, 1, 1, 2, 1, 2, 2, 3, 1, 2, 2, 3, 2, 3, 3, 4, 1, 2, 2, 3, 2, 3, 3, 4, 2, 3, 3, 4, 3, 4, 4, 5, 1, 2, 2, 3, 2, 3, 3, 4, 2, 3, 3, 4, 3, 4, 4, 5, 2, 3, 3, 4, 3, 4, 4, 5, 3, 4, 4, 5, 4, 5, 5, 6, 1, 2, 2, 3, 2, 3, 3, 4, 2, 3, 3, 4, 3, 4, 4, 5, 2, 3, 3, 4, 3, 4, 4, 5, 3, 4, 4, 5, 4, 5, 5, 6, 2, 3, 3, 4, 3, 4, 4, 5, 3, 4, 4, 5, 4, 5, 5, 6, 3, 4, 4, 5, 4, 5, 5, 6, 4, 5, 5, 6, 5, 6, 6, 7, 1, 2, 2, 3, 2, 3, 3, 4, 2, 3, 3, 4, 3, 4, 4, 5, 2, 3, 3, 4, 3, 4, 4, 5, 3, 4, 4, 5, 4, 5, 5, 6, 2, 3, 3, 4, 3, 4, 4, 5, 3, 4, 4, 5, 4, 5, 5, 6, 3, 4, 4, 5, 4, 5, 5, 6, 4, 5, 5, 6, 5, 6, 6, 7, 2, 3, 3, 4, 3, 4, 4, 5, 3, 4, 4, 5, 4, 5, 5, 6, 3, 4, 4, 5, 4, 5, 5, 6, 4, 5, 5, 6, 5, 6, 6, 7, 3, 4, 4, 5, 4, 5, 5, 6, 4, 5, 5, 6, 5, 6, 6, 7, 4, 5, 5, 6, 5, 6, 6, 7, 5, 6, 6, 7, 6, 7, 7, 8]) (ishr .u32 xx0 (24 : Int))) + (bt (ByteArray.mk #[0, 1, 1, 2, 1, 2, 2, 3, 1, 2, 2, 3, 2, 3, 3, 4, 1, 2, 2, 3, 2, 3, 3, 4, 2, 3, 3, 4, 3, 4, 4, 5, 1, 2, 2, 3, 2, 3, 3, 4, 2, 3, 3, 4, 3, 4, 4, 5, 2, 3, 3, 4, 3, 4, 4, 5, 3, 4, 4, 5, 4, 5, 5, 6, 1, 2, 2, 3, 2, 3, 3, 4, 2, 3, 3, 4, 3, 4, 4, 5, 2, 3, 3, 4, 3, 4, 4, 5, 3, 4, 4, 5, 4, 5, 5, 6, 2, 3, 3, 4, 3, 4, 4, 5, 3, 4, 4, 5, 4, 5, 5, 6, 3, 4, 4, 5, 4, 5, 5, 6, 4, 5, 5, 6, 5, 6, 6, 7, 1, 2, 2, 3, 2, 3, 3, 4, 2, 3, 3, 4, 3, 4, 4, 5, 2, 3, 3, 4, 3, 4, 4, 5, 3, 4, 4, 5, 4, 5, 5, 6, 2, 3, 3, 4, 3, 4, 4, 5, 3, 4, 4, 5, 4, 5, 5, 6, 3, 4, 4, 5, 4, 5, 5, 6, 4, 5, 5, 6, 5, 6, 6, 7, 2, 3, 3, 4, 3, 4, 4, 5, 3, 4, 4, 5, 4, 5, 5, 6, 3, 4, 4, 5, 4, 5, 5, 6, 4, 5, 5, 6, 5, 6, 6, 7, 3, 4, 4, 5, 4, 5, 5, 6, 4, 5, 5, 6, 5, 6, 6, 7, 4, 5, 5, 6, 5, 6, 6, 7, 5, 6, 6, 7, 6, 7, 7, 8]) (iand .u32 (ishr .u32 xx0 (16 : Int)) (255 : Int))))) + (bt (ByteArray.mk #[0, 1, 1, 2, 1, 2, 2, 3, 1, 2, 2, 3, 2, 3, 3, 4, 1, 2, 2, 3, 2, 3, 3, 4, 2, 3, 3, 4, 3, 4, 4, 5, 1, 2, 2, 3, 2, 3, 3, 4, 2, 3, 3, 4, 3, 4, 4, 5, 2, 3, 3, 4, 3, 4, 4, 5, 3, 4, 4, 5, 4, 5, 5, 6, 1, 2, 2, 3, 2, 3, 3, 4, 2, 3, 3, 4, 3, 4, 4, 5, 2, 3, 3, 4, 3, 4, 4, 5, 3, 4, 4, 5, 4, 5, 5, 6, 2, 3, 3, 4, 3, 4, 4, 5, 3, 4, 4, 5, 4, 5, 5, 6, 3, 4, 4, 5, 4, 5, 5, 6, 4, 5, 5, 6, 5, 6, 6, 7, 1, 2, 2, 3, 2, 3, 3, 4, 2, 3, 3, 4, 3, 4, 4, 5, 2, 3, 3, 4, 3, 4, 4, 5, 3, 4, 4, 5, 4, 5, 5, 6, 2, 3, 3, 4, 3, 4, 4, 5, 3, 4, 4, 5, 4, 5, 5, 6, 3, 4, 4, 5, 4, 5, 5, 6, 4, 5, 5, 6, 5, 6, 6, 7, 2, 3, 3, 4, 3, 4, 4, 5, 3, 4, 4, 5, 4, 5, 5, 6, 3, 4, 4, 5, 4, 5, 5, 6, 4, 5, 5, 6, 5, 6, 6, 7, 3, 4, 4, 5, 4, 5, 5, 6, 4, 5, 5, 6, 5, 6, 6, 7, 4, 5, 5, 6, 5, 6, 6, 7, 5, 6, 6, 7, 6, 7, 7, 8]) (iand .u32 (ishr .u32 xx0 (8 : Int)) (255 : Int))))) + (bt (ByteArray.mk #[0, 1, 1, 2, 1, 2, 2, 3, 1, 2, 2, 3, 2, 3, 3, 4, 1, 2, 2, 3, 2, 3, 3, 4, 2, 3, 3, 4, 3, 4, 4, 5, 1, 2, 2, 3, 2, 3, 3, 4, 2, 3, 3, 4, 3, 4, 4, 5, 2, 3, 3, 4, 3, 4, 4, 5, 3, 4, 4, 5, 4, 5, 5, 6, 1, 2, 2, 3, 2, 3, 3, 4, 2, 3, 3, 4, 3, 4, 4, 5, 2, 3, 3, 4, 3, 4, 4, 5, 3, 4, 4, 5, 4, 5, 5, 6, 2, 3, 3, 4, 3, 4, 4, 5, 3, 4, 4, 5, 4, 5, 5, 6, 3, 4, 4, 5, 4, 5, 5, 6, 4, 5, 5, 6, 5, 6, 6, 7, 1, 2, 2, 3, 2, 3, 3, 4, 2, 3, 3, 4, 3, 4, 4, 5, 2, 3, 3, 4, 3, 4, 4, 5, 3, 4, 4, 5, 4, 5, 5, 6, 2, 3, 3, 4, 3, 4, 4, 5, 3, 4, 4, 5, 4, 5, 5, 6, 3, 4, 4, 5, 4, 5, 5, 6, 4, 5, 5, 6, 5, 6, 6, 7, 2, 3, 3, 4, 3, 4, 4, 5, 3, 4, 4, 5, 4, 5, 5, 6, 3, 4, 4, 5, 4, 5, 5, 6, 4, 5, 5, 6, 5, 6, 6, 7, 3, 4, 4, 5, 4, 5, 5, 6, 4, 5, 5, 6, 5, 6, 6, 7, 4, 5, 5, 6, 5, 6, 6, 7, 5, 6, 6, 7, 6, 7, 7, 8]) (iand .u32 xx0 (255 : Int))))))) rfl hf rfl (fun w ⟨_, hp⟩ => ?_) ⟨_, hp⟩ ?_
   · exact st_conv_ii hf (by decide) (by rw [Try.underlying5]; rfl) Try.underlying3 rfl rfl tk
   clear hf; intro a hf
   refine dr_takeK 18 (.int .i64 (IntKind.i64.wrap (IntKind.u8.wrap ((IntKind.u8.wrap ((IntKind.u8.wrap ((bt (ByteArray.mk #[0, 1, 1, 2, 1, 2, 2, 3, 1, 2, 2, 3, 2, 3, 3, 4, 1, 2, 2, 3, 2, 3, 3, 4, 2, 3, 3, 4, 3, 4, 4, 5, 1, 2, 2, 3, 2, 3, 3, 4, 2, 3, 3, 4, 3, 4, 4, 5, 2, 3, 3, 4, 3, 4, 4, 5, 3, 4, 4, 5, 4, 5, 5, 6, 1, 2, 2, 3, 2, 3, 3, 4, 2, 3, 3, 4, 3, 4, 4, 5, 2, 3, 3, 4, 3, 4, 4, 5, 3, 4, 4, 5, 4, 5, 5, 6, 2, 3, 3, 4, 3, 4, 4, 5, 3, 4, 4, 5, 4, 5, 5, 6, 3, 4, 4, 5, 4, 5, 5, 6, 4, 5, 5, 6, 5, 6, 6, 7, 1, 2, 2, 3, 2, 3, 3, 4, 2, 3, 3, 4, 3, 4, 4, 5, 2, 3, 3, 4, 3, 4, 4, 5, 3, 4, 4, 5, 4, 5, 5, 6, 2, 3, 3, 4, 3, 4, 4, 5, 3, 4, 4, 5, 4, 5, 5, 6, 3, 4, 4, 5, 4, 5, 5, 6, 4, 5, 5, 6, 5, 6, 6, 7, 2, 3, 3, 4, 3, 4, 4, 5, 3, 4, 4, 5, 4, 5, 5, 6, 3, 4, 4, 5, 4, 5, 5, 6, 4, 5, 5, 6, 5, 6, 6, 7, 3, 4, 4, 5, 4, 5, 5, 6, 4, 5, 5, 6, 5, 6, 6, 7, 4, 5, 5, 6, 5, 6, 6, 7, 5, 6, 6, 7, 6, 7, 7, 8]) (ishr .u32 xx0 (24 : Int))) + (bt (ByteArray.mk #[0, 1, 1, 2, 1, 2, 2, 3, 1, 2, 2, 3, 2, 3, 3, 4, 1, 2, 2, 3, 2, 3, 3, 4, 2, 3, 3, 4, 3, 4, 4, 5, 1, 2, 2, 3, 2, 3, 3, 4, 2, 3, 3, 4, 3, 4, 4, 5, 2, 3, 3, 4, 3, 4, 4, 5, 3, 4, 4, 5, 4, 5, 5, 6, 1, 2, 2, 3, 2, 3, 3, 4, 2, 3, 3, 4, 3, 4, 4, 5, 2, 3, 3, 4, 3, 4, 4, 5, 3, 4, 4, 5, 4, 5, 5, 6, 2, 3, 3, 4, 3, 4, 4, 5, 3, 4, 4, 5, 4, 5, 5, 6, 3, 4, 4, 5, 4, 5, 5, 6, 4, 5, 5, 6, 5, 6, 6, 7, 1, 2, 2, 3, 2, 3, 3, 4, 2, 3, 3, 4, 3, 4, 4, 5, 2, 3, 3, 4, 3, 4, 4, 5, 3, 4, 4, 5, 4, 5, 5, 6, 2, 3, 3, 4, 3, 4, 4, 5, 3, 4, 4, 5, 4, 5, 5, 6, 3, 4, 4, 5, 4, 5, 5, 6, 4, 5, 5, 6, 5, 6, 6, 7, 2, 3, 3, 4, 3, 4, 4, 5, 3, 4, 4, 5, 4, 5, 5, 6, 3, 4, 4, 5, 4, 5, 5, 6, 4, 5, 5, 6, 5, 6, 6, 7, 3, 4, 4, 5, 4, 5, 5, 6, 4, 5, 5, 6, 5, 6, 6, 7, 4, 5, 5, 6, 5, 6, 6, 7, 5, 6, 6, 7, 6, 7, 7, 8]) (iand .u32 (ishr .u32 xx0 (16 : Int)) (255 : Int))))) + (bt (ByteArray.mk #[0, 1, 1, 2, 1, 2, 2, 3, 1, 2, 2, 3, 2, 3, 3, 4, 1, 2, 2, 3, 2, 3, 3, 4, 2, 3, 3, 4, 3, 4, 4, 5, 1, 2, 2, 3, 2, 3, 3, 4, 2, 3, 3, 4, 3, 4, 4, 5, 2, 3, 3, 4, 3, 4, 4, 5, 3, 4, 4, 5, 4, 5, 5, 6, 1, 2, 2, 3, 2, 3, 3, 4, 2, 3, 3, 4, 3, 4, 4, 5, 2, 3, 3, 4, 3, 4, 4, 5, 3, 4, 4, 5, 4, 5, 5, 6, 2, 3, 3, 4, 3, 4, 4, 5, 3, 4, 4, 5, 4, 5, 5, 6, 3, 4, 4, 5, 4, 5, 5, 6, 4, 5, 5, 6, 5, 6, 6, 7, 1, 2, 2, 3, 2, 3, 3, 4, 2, 3, 3, 4, 3, 4, 4, 5, 2, 3, 3, 4, 3, 4, 4, 5, 3, 4, 4, 5, 4, 5, 5, 6, 2, 3, 3, 4, 3, 4, 4, 5, 3, 4, 4, 5, 4, 5, 5, 6, 3, 4, 4, 5, 4, 5, 5, 6, 4, 5, 5, 6, 5, 6, 6, 7, 2, 3, 3, 4, 3, 4, 4, 5, 3, 4, 4, 5, 4, 5, 5, 6, 3, 4, 4, 5, 4, 5, 5, 6, 4, 5, 5, 6, 5, 6, 6, 7, 3, 4, 4, 5, 4, 5, 5, 6, 4, 5, 5, 6, 5, 6, 6, 7, 4, 5, 5, 6, 5, 6, 6, 7, 5, 6, 6, 7, 6, 7, 7, 8]) (iand .u32 (ishr .u32 xx0 (8 : Int)) (255 : Int))))) + (bt (ByteArray.mk #[0, 1, 1, 2, 1, 2, 2, 3, 1, 2, 2, 3, 2, 3, 3, 4, 1, 2, 2, 3, 2, 3, 3, 4, 2, 3, 3, 4, 3, 4, 4, 5, 1, 2, 2, 3, 2, 3, 3, 4, 2, 3, 3, 4, 3, 4, 4, 5, 2, 3, 3, 4, 3, 4, 4, 5, 3, 4, 4, 5, 4, 5, 5, 6, 1, 2, 2, 3, 2, 3, 3, 4, 2, 3, 3, 4, 3, 4, 4, 5, 2, 3, 3, 4, 3, 4, 4, 5, 3, 4, 4, 5, 4, 5, 5, 6, 2, 3, 3, 4, 3, 4, 4, 5, 3, 4, 4, 5, 4, 5, 5, 6, 3, 4, 4, 5, 4, 5, 5, 6, 4, 5, 5, 6, 5, 6, 6, 7, 1, 2, 2, 3, 2, 3, 3, 4, 2, 3, 3, 4, 3, 4, 4, 5, 2, 3, 3, 4, 3, 4, 4, 5, 3, 4, 4, 5, 4, 5, 5, 6, 2, 3, 3, 4, 3, 4, 4, 5, 3, 4, 4, 5, 4, 5, 5, 6, 3, 4, 4, 5, 4, 5, 5, 6, 4, 5, 5, 6, 5, 6, 6, 7, 2, 3, 3, 4, 3, 4, 4, 5, 3, 4, 4, 5, 4, 5, 5, 6, 3, 4, 4, 5, 4, 5, 5, 6, 4, 5, 5, 6, 5, 6, 6, 7, 3, 4, 4, 5, 4, 5, 5, 6, 4, 5, 5, 6, 5, 6, 6, 7, 4, 5, 5, 6, 5, 6, 6, 7, 5, 6, 6, 7, 6, 7, 7, 8]) (iand .u32 xx0 (255 : Int))))))) rfl hf rfl (fun w ⟨_, hp⟩ => ?_) ⟨_, hp⟩ ?_
   · exact st_assign hf rfl rfl (by decide) tk
   clear hf; intro a hf
   refine dr_end (by kernel_rfl) ?_ _
   exact ⟨hf.sub ⟨rfl, trivial⟩, hp⟩
  rintro a w ⟨hf, hp⟩
  refine th_n ?_
  refine wp_ret ?_
  obtain rfl := Option.some.inj h
  exact ⟨rfl, ⟨hf.sub ⟨rfl, trivial⟩, hp⟩⟩

noncomputable def f_trellis_Code_step_1 (n0 : Int) : Option Bool := ((f_math_bits_OnesCount32 n0).bind fun q1 => (some (decide ((0 : Int) < (iand .i64 q1 (1 : Int))))))
theorem f_trellis_Code_step_1_c {S : Nat → Prop} {w0 w : World} {ow : List Res} (hp : Hp S w0 w ow) (n0 : Int) {r : Bool} (h : f_trellis_Code_step_1 n0 = some r) :
    Calls Try.prog 67 #[.int .u32 n0] w (fun e w' => e = .returned (.bool r) ∧ Hp S w0 w' (ow)) := by
  unfold f_trellis_Code_step_1 at h
  refine enter (n := 7) (args := [.int .u32 n0]) Try.func67 rfl rfl (Nat.le_of_ble_eq_true rfl) fun a hf => ?_
  replace hf : Fr 7 a [(0, .int .u32 n0)] := hf
  refine wp_mono (Q := fun e a w => e = .ret ∧ Fr 7 a [(2, .bool r)] ∧ Hp S w0 w (ow)) ?_ ?_
  rotate_left
  · rintro e a w ⟨rfl, hf, hp⟩
    exact ret1 hf rfl rfl ⟨rfl, hp⟩
  refine wp_seq ?_
  refine wp_reg ?_
  refine st_assign hf rfl rfl (by decide) ?_
  clear hf; intro a ha hf; clear ha
  refine st_nil hf ?_
  refine th_n ?_
  refine wp_seq ?_
  refine wp_reg ?_
  refine st_move hf rfl rfl (by decide) ?_
  clear hf; intro a ha hf; clear ha
  obtain ⟨q1, hcall2, h⟩ := bnd h
  refine st_call hf (by decide) Try.func68 rfl rfl rfl rfl rfl (f_math_bits_OnesCount32_c hp _ hcall2) ?_
  rintro _ w ⟨rfl, hp0⟩
  clear hp; have hp := hp0; clear hp0
  replace hp : Hp _ _ _ (ow) := hp
  refine ⟨_, rfl, ?_⟩
  clear hf; intro a hf
  refine st_iand hf (by decide) rfl rfl rfl ?_
  clear hf; intro a ha hf; clear ha
  refine st_igtr hf (by decide) rfl rfl rfl ?_
  clear hf; intro a ha hf; clear ha
  refine st_assign hf rfl rfl (by decide) ?_
  clear hf; intro a ha hf; clear ha
  refine st_nil hf ?_
  refine th_n ?_
  refine wp_ret ?_
  obtain rfl := Option.some.inj h
  exact ⟨rfl, ⟨hf.sub ⟨rfl, trivial⟩, hp⟩⟩

noncomputable def f_trellis_Code_step.j1 (cx0_One : Int) (cx0_Two : Int) (all9 : Int) : Option (Int × Bool × Bool) := ((f_trellis_Code_step_1 (iand .u32 all9 cx0_One)).bind fun q9 => ((f_trellis_Code_step_1 (iand .u32 all9 cx0_Two)).bind fun q11 => (some ((IntKind.i64.wrap (ishr .u32 all9 (1 : Int))), q9, q11))))
noncomputable def f_trellis_Code_step (cx0_Length : Int) (cx0_One : Int) (cx0_Two : Int) (state1 : Int) (bit2 : Bool) : Option (Int × Bool × Bool) := (if bit2 = true then (if 0 ≤ (IntKind.i64.wrap (cx0_Length - (1 : Int))) then (f_trellis_Code_step.j1 cx0_One cx0_Two (ior .u32 (IntKind.u32.wrap state1) (ishl .u32 (1 : Int) (IntKind.i64.wrap (cx0_Length - (1 : Int)))))) else none) else (f_trellis_Code_step.j1 cx0_One cx0_Two (IntKind.u32.wrap state1)))
theorem f_trellis_Code_step_c {S : Nat → Prop} {w0 w : World} {ow : List Res} (hp : Hp S w0 w ow) (cx0_Length : Int) (cx0_One : Int) (cx0_Two : Int) (state1 : Int) (bit2 : Bool) {r : (Int × Bool × Bool)} (h : f_trellis_Code_step cx0_Length cx0_One cx0_Two state1 bit2 = some r) :
    Calls Try.prog 52 #[.agg #[.int .i64 cx0_Length, .int .u32 cx0_One, .int .u32 cx0_Two], .int .i64 state1, .bool bit2] w (fun e w' => e = .returned (.tuple #[.int .i64 r.1, .bool r.2.1, .bool r.2.2]) ∧ Hp S w0 w' (ow)) := by
  unfold f_trellis_Code_step at h
  refine enter (n := 35) (args := [.agg #[.int .i64 cx0_Length, .int .u32 cx0_One, .int .u32 cx0_Two], .int .i64 state1, .bool bit2]) Try.func52 rfl rfl (Nat.le_of_ble_eq_true rfl) fun a hf => ?_
  replace hf : Fr 35 a [(0, .agg #[.int .i64 cx0_Length, .int .u32 cx0_One, .int .u32 cx0_Two]), (1, .int .i64 state1), (2, .bool bit2)] := hf
  refine wp_mono (Q := fun e a w => e = .ret ∧ Fr 35 a [(6, .int .i64 r.1), (7, .bool r.2.1), (8, .bool r.2.2)] ∧ Hp S w0 w (ow)) ?_ ?_
  rotate_left
  · rintro e a w ⟨rfl, hf, hp⟩
    exact ret3 hf rfl rfl rfl rfl ⟨rfl, hp⟩
  refine wp_seq ?_
  refine wp_reg ?_
  refine st_boxO (cs := [.int .i64 cx0_Length, .int .u32 cx0_One, .int .u32 cx0_Two]) hf (by decide) hp rfl rfl rfl ?_
  clear hf; intro a w v1 hf hp0; clear hp; have hp := hp0; clear hp0
  replace hp : Hp _ _ _ (Res.obj 40 v1 [.int .i64 cx0_Length, .int .u32 cx0_One, .int .u32 cx0_Two] :: ow) := hp
  refine st_assign hf rfl rfl (by decide) ?_
  clear hf; intro a ha hf; clear ha
  refine st_assign hf rfl rfl (by decide) ?_
  clear hf; intro a ha hf; clear ha
  refine st_assign hf rfl rfl (by decide) ?_
  clear hf; intro a ha hf; clear ha
  refine st_nil hf ?_
  refine th_n ?_
  refine wp_seq ?_
  refine wp_reg ?_
  refine st_move hf rfl rfl (by decide) ?_
  clear hf; intro a ha hf; clear ha
  refine st_conv_ii hf (by decide) (by rw [Try.underlying3]; rfl) Try.underlying22 rfl rfl ?_
  clear hf; intro a ha hf; clear ha
  refine st_assign hf rfl rfl (by decide) ?_
  clear hf; intro a ha hf; clear ha
  refine st_nil hf ?_
  refine th_n ?_
  refine wp_seq_cut (fun a w => ∃ (all9 : Int), f_trellis_Code_step.j1 cx0_One cx0_Two all9 = some r ∧ Fr 35 a [(3, optr v1 0), (9, .int .u32 all9)] ∧ Hp S w0 w (Res.obj 40 v1 [.int .i64 cx0_Length, .int .u32 cx0_One, .int .u32 cx0_Two] :: ow)) ?_ ?_
  · skip
    refine wp_seq ?_
    refine wp_reg ?_
    refine st_move hf rfl rfl (by decide) ?_
    clear hf; intro a ha hf; clear ha
    refine st_nil hf ?_
    refine th_n ?_
    refine wp_if hf rfl (fun hb => ?_) (fun hb => ?_)
    · replace h := ifT h hb
      refine wp_reg ?_
      refine st_move hf rfl rfl (by decide) ?_
      clear hf; intro a ha hf; clear ha
      refine st_fa (o' := 0) hf (by decide) (off := 0) (sz := 1) (by kernel_rfl) (by decide) rfl rfl (hp.ob (i := 0) rfl) rfl ?_
      clear hf; intro a ha hf; clear ha
      refine st_ldO (u := .int .i64 cx0_Length) hf (by decide) pl3 rfl rfl (hp.ob (i := 0) rfl) rfl ?_
      clear hf; intro a ha hf; clear ha
      refine st_isub hf (by decide) rfl rfl rfl ?_
      clear hf; intro a ha hf; clear ha
      obtain ⟨hc13, h⟩ := chk h
      refine st_ishl hf (by decide) rfl rfl rfl hc13 ?_
      clear hf; intro a ha hf; clear ha
      refine st_ior hf (by decide) rfl rfl rfl ?_
      clear hf; intro a ha hf; clear ha
      refine st_assign hf rfl rfl (by decide) ?_
      clear hf; intro a ha hf; clear ha
      refine st_nil hf ?_
      refine th_n ?_
      exact ⟨_, h, hf.sub ⟨rfl, rfl, trivial⟩, hp⟩
    replace h := ifF h hb
    refine wp_skip ?_
    refine th_n ?_
    exact ⟨_, h, hf.sub ⟨rfl, rfl, trivial⟩, hp⟩
  rintro a w ⟨all9, h, hf, hp⟩
  unfold f_trellis_Code_step.j1 at h
  refine wp_seq ?_
  refine wp_reg ?_
  refine st_assign hf rfl rfl (by decide) ?_
  clear hf; intro a ha hf; clear ha
  refine st_nil hf ?_
  refine th_n ?_
  refine wp_seq ?_
  obtain ⟨S3, hp4, rd5, up6, bk7⟩ := Hp.lendO hp (i := 0) rfl
  have rl8 := rd5
  obtain ⟨q9, hcall10, h⟩ := bnd h
  obtain ⟨q11, hcall12, h⟩ := bnd h
  refine wp_cutN (fun a w => Fr 35 a [(6, .int .i64 (IntKind.i64.wrap (ishr .u32 all9 (1 : Int)))), (7, .bool q9), (8, .bool q11)] ∧ Hp S w0 w (Res.obj 40 v1 [.int .i64 cx0_Length, .int .u32 cx0_One, .int .u32 cx0_Two] :: ow)) ?_ ?_
  · have hp := hp4.same (Same.drew w)
    refine dr_begin' (fun a w => Fr 35 a [(6, .int .i64 (IntKind.i64.wrap (ishr .u32 all9 (1 : Int)))), (7, .bool q9), (8, .bool q11)] ∧ Hp S w0 w (Res.obj 40 v1 [.int .i64 cx0_Length, .int .u32 cx0_One, .int .u32 cx0_Two] :: ow)) (fun w' => ∃ l, Hp S3 w w' l) [] (by kernel_rfl) ?_
    refine dr_take 0 (.int .u32 all9) rfl (by kernel_rfl) (by kernel_rfl) (by kernel_rfl) (by kernel_rfl) rfl rfl hf (by decide) rfl (fun w hp => ?_) ⟨_, hp⟩ ?_
    · obtain ⟨_, hp⟩ := hp
      refine st_move hf rfl rfl (by decide) ?_
      clear hf; intro a ha hf
      exact st_nil hf (th_n ⟨ha, rfl⟩)
    clear hf; intro a hf
    refine dr_take 1 (.int .u32 (ishr .u32 all9 (1 : Int))) rfl (by kernel_rfl) (by kernel_rfl) (by kernel_rfl) (by kernel_rfl) rfl rfl hf (by decide) rfl (fun w hp => ?_) ⟨_, hp⟩ ?_
    · obtain ⟨_, hp⟩ := hp
      refine st_ishr hf (by decide) rfl rfl rfl (by decide) ?_
      clear hf; intro a ha hf
      exact st_nil hf (th_n ⟨ha, rfl⟩)
    clear hf; intro a hf
    refine dr_take 2 (.int .i64 (IntKind.i64.wrap (ishr .u32 all9 (1 : Int)))) rfl (by kernel_rfl) (by kernel_rfl) (by kernel_rfl) (by kernel_rfl) rfl rfl hf (by decide) rfl (fun w hp => ?_) ⟨_, hp⟩ ?_
    · obtain ⟨_, hp⟩ := hp
      refine st_conv_ii hf (by decide) (by rw [Try.underlying22]; rfl) Try.underlying3 rfl rfl ?_
      clear hf; intro a ha hf
      exact st_nil hf (th_n ⟨ha, rfl⟩)
    clear hf; intro a hf
    refine dr_take 3 (.func (.func 67) #[] #[]) rfl (by kernel_rfl) (by kernel_rfl) (by kernel_rfl) (by kernel_rfl) rfl rfl hf (by decide) rfl (fun w hp => ?_) ⟨_, hp⟩ ?_
    · obtain ⟨_, hp⟩ := hp
      refine st_move hf rfl rfl (by decide) ?_
      clear hf; intro a ha hf
      exact st_nil hf (th_n ⟨ha, rfl⟩)
    clear hf; intro a hf
    refine dr_take 4 (.int .u32 all9) rfl (by kernel_rfl) (by kernel_rfl) (by kernel_rfl) (by kernel_rfl) rfl rfl hf (by decide) rfl (fun w hp => ?_) ⟨_, hp⟩ ?_
    · obtain ⟨_, hp⟩ := hp
      refine st_move hf rfl rfl (by decide) ?_
      clear hf; intro a ha hf
      exact st_nil hf (th_n ⟨ha, rfl⟩)
    clear hf; intro a hf
    refine dr_take 5 (optr v1 1) rfl (by kernel_rfl) (by kernel_rfl) (by kernel_rfl) (by kernel_rfl) rfl rfl hf (by decide) rfl (fun w hp => ?_) ⟨_, hp⟩ ?_
    · obtain ⟨_, hp⟩ := hp
      refine st_fa (o' := 1) hf (by decide) (off := 1) (sz := 1) (by kernel_rfl) (by decide) rfl rfl (rl8.ob hp) rfl ?_
      clear hf; intro a ha hf
      exact st_nil hf (th_n ⟨ha, rfl⟩)
    clear hf; intro a hf
    refine dr_take 6 (.int .u32 cx0_One) rfl (by kernel_rfl) (by kernel_rfl) (by kernel_rfl) (by kernel_rfl) rfl rfl hf (by decide) rfl (fun w hp => ?_) ⟨_, hp⟩ ?_
    · obtain ⟨_, hp⟩ := hp
      refine st_ldO (u := .int .u32 cx0_One) hf (by decide) pl22 rfl rfl (rl8.ob hp) rfl ?_
      clear hf; intro a ha hf
      exact st_nil hf (th_n ⟨ha, rfl⟩)
    clear hf; intro a hf
    refine dr_take 7 (.int .u32 (iand .u32 all9 cx0_One)) rfl (by kernel_rfl) (by kernel_rfl) (by kernel_rfl) (by kernel_rfl) rfl rfl hf (by decide) rfl (fun w hp => ?_) ⟨_, hp⟩ ?_
    · obtain ⟨_, hp⟩ := hp
      refine st_iand hf (by decide) rfl rfl rfl ?_
      clear hf; intro a ha hf
      exact st_nil hf (th_n ⟨ha, rfl⟩)
    clear hf; intro a hf
    refine dr_take 9 (.func (.func 67) #[] #[]) rfl (by kernel_rfl) (by kernel_rfl) (by kernel_rfl) (by kernel_rfl) rfl rfl hf (by decide) rfl (fun w hp => ?_) ⟨_, hp⟩ ?_
    · obtain ⟨_, hp⟩ := hp
      refine st_move hf rfl rfl (by decide) ?_
      clear hf; intro a ha hf
      exact st_nil hf (th_n ⟨ha, rfl⟩)
    clear hf; intro a hf
    refine dr_take 10 (.int .u32 all9) rfl (by kernel_rfl) (by kernel_rfl) (by kernel_rfl) (by kernel_rfl) rfl rfl hf (by decide) rfl (fun w hp => ?_) ⟨_, hp⟩ ?_
    · obtain ⟨_, hp⟩ := hp
      refine st_move hf rfl rfl (by decide) ?_
      clear hf; intro a ha hf
      exact st_nil hf (th_n ⟨ha, rfl⟩)
    clear hf; intro a hf
    refine dr_take 11 (optr v1 2) rfl (by kernel_rfl) (by kernel_rfl) (by kernel_rfl) (by kernel_rfl) rfl rfl hf (by decide) rfl (fun w hp => ?_) ⟨_, hp⟩ ?_
    · obtain ⟨_, hp⟩ := hp
      refine st_fa (o' := 2) hf (by decide) (off := 2) (sz := 1) (by kernel_rfl) (by decide) rfl rfl (rl8.ob hp) rfl ?_
      clear hf; intro a ha hf
      exact st_nil hf (th_n ⟨ha, rfl⟩)
    clear hf; intro a hf
    refine dr_take 12 (.int .u32 cx0_Two) rfl (by kernel_rfl) (by kernel_rfl) (by kernel_rfl) (by kernel_rfl) rfl rfl hf (by decide) rfl (fun w hp => ?_) ⟨_, hp⟩ ?_
    · obtain ⟨_, hp⟩ := hp
      refine st_ldO (u := .int .u32 cx0_Two) hf (by decide) pl22 rfl rfl (rl8.ob hp) rfl ?_
      clear hf; intro a ha hf
      exact st_nil hf (th_n ⟨ha, rfl⟩)
    clear hf; intro a hf
    refine dr_take 13 (.int .u32 (iand .u32 all9 cx0_Two)) rfl (by kernel_rfl) (by kernel_rfl) (by kernel_rfl) (by kernel_rfl) rfl rfl hf (by decide) rfl (fun w hp => ?_) ⟨_, hp⟩ ?_
    · obtain ⟨_, hp⟩ := hp
      refine st_iand hf (by decide) rfl rfl rfl ?_
      clear hf; intro a ha hf
      exact st_nil hf (th_n ⟨ha, rfl⟩)
    clear hf; intro a hf
    refine dr_one 8 rfl (by kernel_rfl) ?_
    refine st_call hf (by decide) Try.func67 rfl rfl rfl rfl rfl (f_trellis_Code_step_1_c hp _ hcall10) ?_
    rintro _ w ⟨rfl, hp0⟩
    clear hp; have hp := hp0; clear hp0
    replace hp : Hp _ _ _ (ow) := hp
    refine ⟨_, rfl, ?_⟩
    clear hf; intro a hf
    refine st_nil hf (th_n ⟨fun _ _ => ⟨_, hp⟩, ?_⟩)
    refine dr_one 14 rfl (by kernel_rfl) ?_
    refine st_call hf (by decide) Try.func67 rfl rfl rfl rfl rfl (f_trellis_Code_step_1_c hp _ hcall12) ?_
    rintro _ w ⟨rfl, hp0⟩
    clear hp; have hp := hp0; clear hp0
    replace hp : Hp _ _ _ (ow) := hp
    refine ⟨_, rfl, ?_⟩
    clear hf; intro a hf
    refine st_nil hf (th_n ⟨fun _ _ => ⟨_, hp⟩, ?_⟩)
    refine dr_take 15 (.int .i64 (IntKind.i64.wrap (ishr .u32 all9 (1 : Int)))) rfl (by kernel_rfl) (by kernel_rfl) (by kernel_rfl) (by kernel_rfl) rfl rfl hf (by decide) rfl (fun w hp => ?_) ⟨_, hp⟩ ?_
    · obtain ⟨_, hp⟩ := hp
      refine st_assign hf rfl rfl (by decide) ?_
      clear hf; intro a ha hf
      exact st_nil hf (th_n ⟨ha, rfl⟩)
    clear hf; intro a hf
    refine dr_take 16 (.bool q9) rfl (by kernel_rfl) (by kernel_rfl) (by kernel_rfl) (by kernel_rfl) rfl rfl hf (by decide) rfl (fun w hp => ?_) ⟨_, hp⟩ ?_
    · obtain ⟨_, hp⟩ := hp
      refine st_assign hf rfl rfl (by decide) ?_
      clear hf; intro a ha hf
      exact st_nil hf (th_n ⟨ha, rfl⟩)
    clear hf; intro a hf
    refine dr_take 17 (.bool q11) rfl (by kernel_rfl) (by kernel_rfl) (by kernel_rfl) (by kernel_rfl) rfl rfl hf (by decide) rfl (fun w hp => ?_) ⟨_, hp⟩ ?_
    · obtain ⟨_, hp⟩ := hp
      refine st_assign hf rfl rfl (by decide) ?_
      clear hf; intro a ha hf
      exact st_nil hf (th_n ⟨ha, rfl⟩)
    clear hf; intro a hf
    refine dr_end (by kernel_rfl) ?_ _
    have hp := bk7 _ _ hp
    exact ⟨hf.sub ⟨rfl, rfl, rfl, trivial⟩, hp⟩
  rintro a w ⟨hf, hp⟩
  refine th_n ?_
  refine wp_ret ?_
  obtain rfl := Option.some.inj h
  have hp : Hp _ _ _ (ow) := Hp.sel (pre := [Res.obj 40 v1 [.int .i64 cx0_Length, .int .u32 cx0_One, .int .u32 cx0_Two]]) (tail := ow) (rs' := []) hp [] (by decide) (by simp) rfl
  exact ⟨rfl, ⟨hf.sub ⟨rfl, rfl, rfl, trivial⟩, hp⟩⟩

noncomputable def f_trellis_Code_Step (cx0_Length : Int) (cx0_One : Int) (cx0_Two : Int) (state1 : Int) (bit2 : Bool) : Option (Int × Bool × Bool × Int) := ((f_trellis_Code_state cx0_Length cx0_One cx0_Two state1).bind fun q3 => (if (q3 != (0 : Int)) = true then (some ((0 : Int), false, false, q3)) else ((f_trellis_Code_step cx0_Length cx0_One cx0_Two state1 bit2).bind fun q5 => (some (q5.1, q5.2.1, q5.2.2, (0 : Int))))))
theorem f_trellis_Code_Step_c {S : Nat → Prop} {w0 w : World} {ow : List Res} (hp : Hp S w0 w ow) (cx0_Length : Int) (cx0_One : Int) (cx0_Two : Int) (state1 : Int) (bit2 : Bool) {r : (Int × Bool × Bool × Int)} (h : f_trellis_Code_Step cx0_Length cx0_One cx0_Two state1 bit2 = some r) :
    Calls Try.prog 32 #[.agg #[.int .i64 cx0_Length, .int .u32 cx0_One, .int .u32 cx0_Two], .int .i64 state1, .bool bit2] w (fun e w' => e = .returned (.tuple #[.int .i64 r.1, .bool r.2.1, .bool r.2.2.1, .int .i64 r.2.2.2]) ∧ Hp S w0 w' (ow)) := by
  unfold f_trellis_Code_Step at h
  refine enter (n := 28) (args := [.agg #[.int .i64 cx0_Length, .int .u32 cx0_One, .int .u32 cx0_Two], .int .i64 state1, .bool bit2]) Try.func32 rfl rfl (Nat.le_of_ble_eq_true rfl) fun a hf => ?_
  replace hf : Fr 28 a [(0, .agg #[.int .i64 cx0_Length, .int .u32 cx0_One, .int .u32 cx0_Two]), (1, .int .i64 state1), (2, .bool bit2)] := hf
  refine wp_mono (Q := fun e a w => e = .ret ∧ Fr 28 a [(6, .int .i64 r.1), (7, .bool r.2.1), (8, .bool r.2.2.1), (9, .int .i64 r.2.2.2)] ∧ Hp S w0 w (ow)) ?_ ?_
  rotate_left
  · rintro e a w ⟨rfl, hf, hp⟩
    exact ret4 hf rfl rfl rfl rfl rfl ⟨rfl, hp⟩
  refine wp_seq ?_
  refine wp_reg ?_
  refine st_boxO (cs := [.int .i64 cx0_Length, .int .u32 cx0_One, .int .u32 cx0_Two]) hf (by decide) hp rfl rfl rfl ?_
  clear hf; intro a w v1 hf hp0; clear hp; have hp := hp0; clear hp0
  replace hp : Hp _ _ _ (Res.obj 40 v1 [.int .i64 cx0_Length, .int .u32 cx0_One, .int .u32 cx0_Two] :: ow) := hp
  refine st_assign hf rfl rfl (by decide) ?_
  clear hf; intro a ha hf; clear ha
  refine st_assign hf rfl rfl (by decide) ?_
  clear hf; intro a ha hf; clear ha
  refine st_assign hf rfl rfl (by decide) ?_
  clear hf; intro a ha hf; clear ha
  refine st_assign hf rfl rfl (by decide) ?_
  clear hf; intro a ha hf; clear ha
  refine st_nil hf ?_
  refine th_n ?_
  refine wp_seq ?_
  refine wp_seq ?_
  refine wp_reg ?_
  refine st_ldOA (m := 3) (us := [.int .i64 cx0_Length, .int .u32 cx0_One, .int .u32 cx0_Two]) hf (by decide) (by kernel_rfl) rfl rfl (hp.ob (i := 0) rfl) rfl rfl ?_
  clear hf; intro a ha hf; clear ha
  refine st_move hf rfl rfl (by decide) ?_
  clear hf; intro a ha hf; clear ha
  obtain ⟨q3, hcall4, h⟩ := bnd h
  refine st_call hf (by decide) Try.func53 rfl rfl rfl rfl rfl (f_trellis_Code_state_c hp _ _ _ _ hcall4) ?_
  rintro _ w ⟨rfl, hp0⟩
  clear hp; have hp := hp0; clear hp0
  replace hp : Hp _ _ _ (Res.obj 40 v1 [.int .i64 cx0_Length, .int .u32 cx0_One, .int .u32 cx0_Two] :: ow) := hp
  refine ⟨_, rfl, ?_⟩
  clear hf; intro a hf
  refine st_assign hf rfl rfl (by decide) ?_
  clear hf; intro a ha hf; clear ha
  refine st_nil hf ?_
  refine th_n ?_
  refine wp_seq ?_
  refine wp_reg ?_
  refine st_move hf rfl rfl (by decide) ?_
  clear hf; intro a ha hf; clear ha
  refine st_ineq hf (by decide) rfl rfl rfl ?_
  clear hf; intro a ha hf; clear ha
  refine st_nil hf ?_
  refine th_n ?_
  refine wp_if hf rfl (fun hb => ?_) (fun hb => ?_)
  · replace h := ifT h hb
    refine wp_seq ?_
    refine wp_reg ?_
    refine st_move hf rfl rfl (by decide) ?_
    clear hf; intro a ha hf; clear ha
    refine st_assign hf rfl rfl (by decide) ?_
    clear hf; intro a ha hf; clear ha
    refine st_assign hf rfl rfl (by decide) ?_
    clear hf; intro a ha hf; clear ha
    refine st_assign hf rfl rfl (by decide) ?_
    clear hf; intro a ha hf; clear ha
    refine st_assign hf rfl rfl (by decide) ?_
    clear hf; intro a ha hf; clear ha
    refine st_nil hf ?_
    refine th_n ?_
    refine wp_ret ?_
    refine th_r ?_
    obtain rfl := Option.some.inj h
    have hp : Hp _ _ _ (ow) := Hp.sel (pre := [Res.obj 40 v1 [.int .i64 cx0_Length, .int .u32 cx0_One, .int .u32 cx0_Two]]) (tail := ow) (rs' := []) hp [] (by decide) (by simp) rfl
    exact ⟨rfl, ⟨hf.sub ⟨rfl, rfl, rfl, rfl, trivial⟩, hp⟩⟩
  replace h := ifF h hb
  refine wp_skip ?_
  refine th_n ?_
  refine wp_seq ?_
  refine wp_reg ?_
  refine st_ldOA (m := 3) (us := [.int .i64 cx0_Length, .int .u32 cx0_One, .int .u32 cx0_Two]) hf (by decide) (by kernel_rfl) rfl rfl (hp.ob (i := 0) rfl) rfl rfl ?_
  clear hf; intro a ha hf; clear ha
  refine st_move hf rfl rfl (by decide) ?_
  clear hf; intro a ha hf; clear ha
  refine st_move hf rfl rfl (by decide) ?_
  clear hf; intro a ha hf; clear ha
  obtain ⟨q5, hcall6, h⟩ := bnd h
  refine st_call hf (by decide) Try.func52 rfl rfl rfl rfl rfl (f_trellis_Code_step_c hp _ _ _ _ _ hcall6) ?_
  rintro _ w ⟨rfl, hp0⟩
  clear hp; have hp := hp0; clear hp0
  replace hp : Hp _ _ _ (Res.obj 40 v1 [.int .i64 cx0_Length, .int .u32 cx0_One, .int .u32 cx0_Two] :: ow) := hp
  refine ⟨_, rfl, ?_⟩
  clear hf; intro a hf
  refine st_move hf rfl rfl (by decide) ?_
  clear hf; intro a ha hf; clear ha
  refine st_extract hf (by decide) rfl rfl rfl ?_
  clear hf; intro a ha hf; clear ha
  refine st_extract hf (by decide) rfl rfl rfl ?_
  clear hf; intro a ha hf; clear ha
  refine st_extract hf (by decide) rfl rfl rfl ?_
  clear hf; intro a ha hf; clear ha
  refine st_assign hf rfl rfl (by decide) ?_
  clear hf; intro a ha hf; clear ha
  refine st_assign hf rfl rfl (by decide) ?_
  clear hf; intro a ha hf; clear ha
  refine st_assign hf rfl rfl (by decide) ?_
  clear hf; intro a ha hf; clear ha
  refine st_nil hf ?_
  refine th_n ?_
  refine wp_seq ?_
  refine wp_reg ?_
  refine st_move hf rfl rfl (by decide) ?_
  clear hf; intro a ha hf; clear ha
  refine st_move hf rfl rfl (by decide) ?_
  clear hf; intro a ha hf; clear ha
  refine st_move hf rfl rfl (by decide) ?_
  clear hf; intro a ha hf; clear ha
  refine st_assign hf rfl rfl (by decide) ?_
  clear hf; intro a ha hf; clear ha
  refine st_assign hf rfl rfl (by decide) ?_
  clear hf; intro a ha hf; clear ha
  refine st_assign hf rfl rfl (by decide) ?_
  clear hf; intro a ha hf; clear ha
  refine st_assign hf rfl rfl (by decide) ?_
  clear hf; intro a ha hf; clear ha
  refine st_nil hf ?_
  refine th_n ?_
  refine wp_ret ?_
  obtain rfl := Option.some.inj h
  have hp : Hp _ _ _ (ow) := Hp.sel (pre := [Res.obj 40 v1 [.int .i64 cx0_Length, .int .u32 cx0_One, .int .u32 cx0_Two]]) (tail := ow) (rs' := []) hp [] (by decide) (by simp) rfl
  exact ⟨rfl, ⟨hf.sub ⟨rfl, rfl, rfl, rfl, trivial⟩, hp⟩⟩

noncomputable def f_soft_sign (bx0 : Bool) : Option Fl := (if bx0 = true then (some (Fl.bits 4607182418800017408)) else (some (Fl.bits 13830554455654793216)))
theorem f_soft_sign_c {S : Nat → Prop} {w0 w : World} {ow : List Res} (hp : Hp S w0 w ow) (bx0 : Bool) {r : Fl} (h : f_soft_sign bx0 = some r) :
    Calls Try.prog 39 #[.bool bx0] w (fun e w' => ∃ (b0 : Nat), e = .returned (.float .f64 b0) ∧ Fl.rep b0 r ∧ Hp S w0 w' (ow)) := by
  unfold f_soft_sign at h
  refine enter (n := 4) (args := [.bool bx0]) Try.func39 rfl rfl (Nat.le_of_ble_eq_true rfl) fun a hf => ?_
  replace hf : Fr 4 a [(0, .bool bx0)] := hf
  refine wp_mono (Q := fun e a w => e = .ret ∧ ∃ (b0 : Nat), Fr 4 a [(2, .float .f64 b0)] ∧ Fl.rep b0 r ∧ Hp S w0 w (ow)) ?_ ?_
  rotate_left
  · rintro e a w ⟨rfl, x0, hf, y0, hp⟩
    exact ret1 hf rfl rfl ⟨x0, rfl, y0, hp⟩
  refine wp_seq ?_
  refine wp_reg ?_
  refine st_assign hf rfl rfl (by decide) ?_
  clear hf; intro a ha hf; clear ha
  refine st_nil hf ?_
  refine th_n ?_
  refine wp_seq ?_
  refine wp_seq ?_
  refine wp_reg ?_
  refine st_move hf rfl rfl (by decide) ?_
  clear hf; intro a ha hf; clear ha
  refine st_nil hf ?_
  refine th_n ?_
  refine wp_if hf rfl (fun hb => ?_) (fun hb => ?_)
  · replace h := ifT h hb
    refine wp_seq ?_
    refine wp_reg ?_
    refine st_assign hf rfl rfl (by decide) ?_
    clear hf; intro a ha hf; clear ha
    refine st_nil hf ?_
    refine th_n ?_
    refine wp_ret ?_
    refine th_r ?_
    obtain rfl := Option.some.inj h
    exact ⟨rfl, ⟨_, hf.sub ⟨rfl, trivial⟩, rfl, hp⟩⟩
  replace h := ifF h hb
  refine wp_skip ?_
  refine th_n ?_
  refine wp_seq ?_
  refine wp_reg ?_
  refine st_assign hf rfl rfl (by decide) ?_
  clear hf; intro a ha hf; clear ha
  refine st_nil hf ?_
  refine th_n ?_
  refine wp_ret ?_
  obtain rfl := Option.some.inj h
  exact ⟨rfl, ⟨_, hf.sub ⟨rfl, trivial⟩, rfl, hp⟩⟩

noncomputable def f_soft_cost (one0 : Bool) (two1 : Bool) (sx2_V : (Fl × Fl)) (sx2_Lost : Bool) : Option Fl := (if sx2_Lost = true then (some (Fl.bits 0)) else ((f_soft_sign one0).bind fun q9 => ((farithS .mul q9 sx2_V.1).bind fun q13 => ((f_soft_sign two1).bind fun q15 => ((farithS .mul q15 sx2_V.2).bind fun q19 => ((farithS .add q13 q19).bind fun q21 => ((farithS .mul (Fl.bits 4611686018427387904) q21).bind fun q23 => ((farithS .sub (Fl.bits 4611686018427387904) q23).bind fun q25 => (some q25)))))))))
theorem f_soft_cost_c {S : Nat → Prop} {w0 w : World} {ow : List Res} (hp : Hp S w0 w ow) (one0 : Bool) (two1 : Bool) (bsx2_V csx2_V : Nat) (sx2_V : Fl × Fl) (hsx2_V : sx2_V.1.rep bsx2_V) (ksx2_V : sx2_V.2.rep csx2_V) (sx2_Lost : Bool) {r : Fl} (h : f_soft_cost one0 two1 sx2_V sx2_Lost = some r) :
    Calls Try.prog 36 #[.bool one0, .bool two1, .agg #[.complex .f64 bsx2_V csx2_V, .bool sx2_Lost]] w (fun e w' => ∃ (b0 : Nat), e = .returned (.float .f64 b0) ∧ Fl.rep b0 r ∧ Hp S w0 w' (ow)) := by
  unfold f_soft_cost at h
  refine enter (n := 24) (args := [.bool one0, .bool two1, .agg #[.complex .f64 bsx2_V csx2_V, .bool sx2_Lost]]) Try.func36 rfl rfl (Nat.le_of_ble_eq_true rfl) fun a hf => ?_
  replace hf : Fr 24 a [(0, .bool one0), (1, .bool two1), (2, .agg #[.complex .f64 bsx2_V csx2_V, .bool sx2_Lost])] := hf
  refine wp_mono (Q := fun e a w => e = .ret ∧ ∃ (b0 : Nat), Fr 24 a [(6, .float .f64 b0)] ∧ Fl.rep b0 r ∧ Hp S w0 w (ow)) ?_ ?_
  rotate_left
  · rintro e a w ⟨rfl, x0, hf, y0, hp⟩
    exact ret1 hf rfl rfl ⟨x0, rfl, y0, hp⟩
  refine wp_seq ?_
  refine wp_reg ?_
  refine st_boxO (cs := [.complex .f64 bsx2_V csx2_V, .bool sx2_Lost]) hf (by decide) hp rfl rfl rfl ?_
  clear hf; intro a w v1 hf hp0; clear hp; have hp := hp0; clear hp0
  replace hp : Hp _ _ _ (Res.obj 35 v1 [.complex .f64 bsx2_V csx2_V, .bool sx2_Lost] :: ow) := hp
  refine st_assign hf rfl rfl (by decide) ?_
  clear hf; intro a ha hf; clear ha
  refine st_nil hf ?_
  refine th_n ?_
  refine wp_seq ?_
  refine wp_seq ?_
  refine wp_reg ?_
  refine st_fa (o' := 1) hf (by decide) (off := 1) (sz := 1) (by kernel_rfl) (by decide) rfl rfl (hp.ob (i := 0) rfl) rfl ?_
  clear hf; intro a ha hf; clear ha
  refine st_ldO (u := .bool sx2_Lost) hf (by decide) pl4 rfl rfl (hp.ob (i := 0) rfl) rfl ?_
  clear hf; intro a ha hf; clear ha
  refine st_nil hf ?_
  refine th_n ?_
  refine wp_if hf rfl (fun hb => ?_) (fun hb => ?_)
  · replace h := ifT h hb
    refine wp_seq ?_
    refine wp_reg ?_
    refine st_assign hf rfl rfl (by decide) ?_
    clear hf; intro a ha hf; clear ha
    refine st_nil hf ?_
    refine th_n ?_
    refine wp_ret ?_
    refine th_r ?_
    obtain rfl := Option.some.inj h
    have hp : Hp _ _ _ (ow) := Hp.sel (pre := [Res.obj 35 v1 [.complex .f64 bsx2_V csx2_V, .bool sx2_Lost]]) (tail := ow) (rs' := []) hp [] (by decide) (by simp) rfl
    exact ⟨rfl, ⟨_, hf.sub ⟨rfl, trivial⟩, rfl, hp⟩⟩
  replace h := ifF h hb
  refine wp_skip ?_
  refine th_n ?_
  refine wp_seq ?_
  obtain ⟨S3, hp4, rd5, up6, bk7⟩ := Hp.lendO hp (i := 0) rfl
  have rl8 := rd5
  obtain ⟨q9, hcall10, h⟩ := bnd h
  obtain ⟨q13, hq14, h⟩ := bnd h
  obtain ⟨q15, hcall16, h⟩ := bnd h
  obtain ⟨q19, hq20, h⟩ := bnd h
  obtain ⟨q21, hq22, h⟩ := bnd h
  obtain ⟨q23, hq24, h⟩ := bnd h
  obtain ⟨q25, hq26, h⟩ := bnd h
  refine wp_cutN (fun a w => Fr 24 a [(6, .float .f64 (flb q25))] ∧ Hp S w0 w (Res.obj 35 v1 [.complex .f64 bsx2_V csx2_V, .bool sx2_Lost] :: ow)) ?_ ?_
  · have hp := hp4.same (Same.drew w)
    refine dr_begin' (fun a w => Fr 24 a [(6, .float .f64 (flb q25))] ∧ Hp S w0 w (Res.obj 35 v1 [.complex .f64 bsx2_V csx2_V, .bool sx2_Lost] :: ow)) (fun w' => ∃ l, Hp S3 w w' l) [] (by kernel_rfl) ?_
    refine dr_take 0 (.bool one0) rfl (by kernel_rfl) (by kernel_rfl) (by kernel_rfl) (by kernel_rfl) rfl rfl hf (by decide) rfl (fun w hp => ?_) ⟨_, hp⟩ ?_
    · obtain ⟨_, hp⟩ := hp
      refine st_move hf rfl rfl (by decide) ?_
      clear hf; intro a ha hf
      exact st_nil hf (th_n ⟨ha, rfl⟩)
    clear hf; intro a hf
    refine dr_take 2 (optr v1 0) rfl (by kernel_rfl) (by kernel_rfl) (by kernel_rfl) (by kernel_rfl) rfl rfl hf (by decide) rfl (fun w hp => ?_) ⟨_, hp⟩ ?_
    · obtain ⟨_, hp⟩ := hp
      refine st_fa (o' := 0) hf (by decide) (off := 0) (sz := 1) (by kernel_rfl) (by decide) rfl rfl (rl8.ob hp) rfl ?_
      clear hf; intro a ha hf
      exact st_nil hf (th_n ⟨ha, rfl⟩)
    clear hf; intro a hf
    refine dr_take 3 (.complex .f64 bsx2_V csx2_V) rfl (by kernel_rfl) (by kernel_rfl) (by kernel_rfl) (by kernel_rfl) rfl rfl hf (by decide) rfl (fun w hp => ?_) ⟨_, hp⟩ ?_
    · obtain ⟨_, hp⟩ := hp
      refine st_ldO (u := .complex .f64 bsx2_V csx2_V) hf (by decide) pl33 rfl rfl (rl8.ob hp) rfl ?_
      clear hf; intro a ha hf
      exact st_nil hf (th_n ⟨ha, rfl⟩)
    clear hf; intro a hf
    refine dr_take 4 (.float .f64 bsx2_V) rfl (by kernel_rfl) (by kernel_rfl) (by kernel_rfl) (by kernel_rfl) rfl rfl hf (by decide) rfl (fun w hp => ?_) ⟨_, hp⟩ ?_
    · obtain ⟨_, hp⟩ := hp
      refine st_real hf (by decide) rfl rfl ?_
      clear hf; intro a ha hf
      exact st_nil hf (th_n ⟨ha, rfl⟩)
    clear hf; intro a hf
    refine dr_take 6 (.bool two1) rfl (by kernel_rfl) (by kernel_rfl) (by kernel_rfl) (by kernel_rfl) rfl rfl hf (by decide) rfl (fun w hp => ?_) ⟨_, hp⟩ ?_
    · obtain ⟨_, hp⟩ := hp
      refine st_move hf rfl rfl (by decide) ?_
      clear hf; intro a ha hf
      exact st_nil hf (th_n ⟨ha, rfl⟩)
    clear hf; intro a hf
    refine dr_take 8 (optr v1 0) rfl (by kernel_rfl) (by kernel_rfl) (by kernel_rfl) (by kernel_rfl) rfl rfl hf (by decide) rfl (fun w hp => ?_) ⟨_, hp⟩ ?_
    · obtain ⟨_, hp⟩ := hp
      refine st_fa (o' := 0) hf (by decide) (off := 0) (sz := 1) (by kernel_rfl) (by decide) rfl rfl (rl8.ob hp) rfl ?_
      clear hf; intro a ha hf
      exact st_nil hf (th_n ⟨ha, rfl⟩)
    clear hf; intro a hf
    refine dr_take 9 (.complex .f64 bsx2_V csx2_V) rfl (by kernel_rfl) (by kernel_rfl) (by kernel_rfl) (by kernel_rfl) rfl rfl hf (by decide) rfl (fun w hp => ?_) ⟨_, hp⟩ ?_
    · obtain ⟨_, hp⟩ := hp
      refine st_ldO (u := .complex .f64 bsx2_V csx2_V) hf (by decide) pl33 rfl rfl (rl8.ob hp) rfl ?_
      clear hf; intro a ha hf
      exact st_nil hf (th_n ⟨ha, rfl⟩)
    clear hf; intro a hf
    refine dr_take 10 (.float .f64 csx2_V) rfl (by kernel_rfl) (by kernel_rfl) (by kernel_rfl) (by kernel_rfl) rfl rfl hf (by decide) rfl (fun w hp => ?_) ⟨_, hp⟩ ?_
    · obtain ⟨_, hp⟩ := hp
      refine st_imag hf (by decide) rfl rfl ?_
      clear hf; intro a ha hf
      exact st_nil hf (th_n ⟨ha, rfl⟩)
    clear hf; intro a hf
    refine dr_one 1 rfl (by kernel_rfl) ?_
    refine st_call hf (by decide) Try.func39 rfl rfl rfl rfl rfl (f_soft_sign_c hp _ hcall10) ?_
    rintro _ w ⟨v11, rfl, y12, hp0⟩
    clear hp; have hp := hp0; clear hp0
    replace hp : Hp _ _ _ (ow) := hp
    refine ⟨_, rfl, ?_⟩
    clear hf; intro a hf
    refine st_nil hf (th_n ⟨fun _ _ => ⟨_, hp⟩, ?_⟩)
    refine dr_take 5 (.float .f64 (flb q13)) rfl (by kernel_rfl) (by kernel_rfl) (by kernel_rfl) (by kernel_rfl) rfl rfl hf (by decide) rfl (fun w hp => ?_) ⟨_, hp⟩ ?_
    · obtain ⟨_, hp⟩ := hp
      refine st_fs (op := .mul) rfl hf (by decide) rfl rfl rfl (show Fl.rep v11 q9 from y12) (show Fl.rep bsx2_V sx2_V.1 from hsx2_V) hq14 ?_
      clear hf; intro a ha hf
      exact st_nil hf (th_n ⟨ha, rfl⟩)
    clear hf; intro a hf
    refine dr_one 7 rfl (by kernel_rfl) ?_
    refine st_call hf (by decide) Try.func39 rfl rfl rfl rfl rfl (f_soft_sign_c hp _ hcall16) ?_
    rintro _ w ⟨v17, rfl, y18, hp0⟩
    clear hp; have hp := hp0; clear hp0
    replace hp : Hp _ _ _ (ow) := hp
    refine ⟨_, rfl, ?_⟩
    clear hf; intro a hf
    refine st_nil hf (th_n ⟨fun _ _ => ⟨_, hp⟩, ?_⟩)
    refine dr_take 11 (.float .f64 (flb q19)) rfl (by kernel_rfl) (by kernel_rfl) (by kernel_rfl) (by kernel_rfl) rfl rfl hf (by decide) rfl (fun w hp => ?_) ⟨_, hp⟩ ?_
    · obtain ⟨_, hp⟩ := hp
      refine st_fs (op := .mul) rfl hf (by decide) rfl rfl rfl (show Fl.rep v17 q15 from y18) (show Fl.rep csx2_V sx2_V.2 from ksx2_V) hq20 ?_
      clear hf; intro a ha hf
      exact st_nil hf (th_n ⟨ha, rfl⟩)
    clear hf; intro a hf
    refine dr_take 12 (.float .f64 (flb q21)) rfl (by kernel_rfl) (by kernel_rfl) (by kernel_rfl) (by kernel_rfl) rfl rfl hf (by decide) rfl (fun w hp => ?_) ⟨_, hp⟩ ?_
    · obtain ⟨_, hp⟩ := hp
      refine st_fs (op := .add) rfl hf (by decide) rfl rfl rfl (show Fl.rep (flb q13) q13 from (farithS_rep hq14)) (show Fl.rep (flb q19) q19 from (farithS_rep hq20)) hq22 ?_
      clear hf; intro a ha hf
      exact st_nil hf (th_n ⟨ha, rfl⟩)
    clear hf; intro a hf
    refine dr_take 13 (.float .f64 (flb q23)) rfl (by kernel_rfl) (by kernel_rfl) (by kernel_rfl) (by kernel_rfl) rfl rfl hf (by decide) rfl (fun w hp => ?_) ⟨_, hp⟩ ?_
    · obtain ⟨_, hp⟩ := hp
      refine st_fs (op := .mul) rfl hf (by decide) rfl rfl rfl (show Fl.rep 4611686018427387904 (Fl.bits 4611686018427387904) from rfl) (show Fl.rep (flb q21) q21 from (farithS_rep hq22)) hq24 ?_
      clear hf; intro a ha hf
      exact st_nil hf (th_n ⟨ha, rfl⟩)
    clear hf; intro a hf
    refine dr_take 14 (.float .f64 (flb q25)) rfl (by kernel_rfl) (by kernel_rfl) (by kernel_rfl) (by kernel_rfl) rfl rfl hf (by decide) rfl (fun w hp => ?_) ⟨_, hp⟩ ?_
    · obtain ⟨_, hp⟩ := hp
      refine st_fs (op := .sub) rfl hf (by decide) rfl rfl rfl (show Fl.rep 4611686018427387904 (Fl.bits 4611686018427387904) from rfl) (show Fl.rep (flb q23) q23 from (farithS_rep hq24)) hq26 ?_
      clear hf; intro a ha hf
      exact st_nil hf (th_n ⟨ha, rfl⟩)
    clear hf; intro a hf
    refine dr_take 15 (.float .f64 (flb q25)) rfl (by kernel_rfl) (by kernel_rfl) (by kernel_rfl) (by kernel_rfl) rfl rfl hf (by decide) rfl (fun w hp => ?_) ⟨_, hp⟩ ?_
    · obtain ⟨_, hp⟩ := hp
      refine st_assign hf rfl rfl (by decide) ?_
      clear hf; intro a ha hf
      exact st_nil hf (th_n ⟨ha, rfl⟩)
    clear hf; intro a hf
    refine dr_end (by kernel_rfl) ?_ _
    have hp := bk7 _ _ hp
    exact ⟨hf.sub ⟨rfl, trivial⟩, hp⟩
  rintro a w ⟨hf, hp⟩
  refine th_n ?_
  refine wp_ret ?_
  obtain rfl := Option.some.inj h
  have hp : Hp _ _ _ (ow) := Hp.sel (pre := [Res.obj 35 v1 [.complex .f64 bsx2_V csx2_V, .bool sx2_Lost]]) (tail := ow) (rs' := []) hp [] (by decide) (by simp) rfl
  exact ⟨rfl, ⟨_, hf.sub ⟨rfl, trivial⟩, (farithS_rep hq26), hp⟩⟩

noncomputable def f_soft_run_1 (nd0 : (List WayC)) (ax0 : (Option Nat)) (bx1 : (Option Nat)) : Option Bool := ((ax0).bind fun n1 => ((bx1).bind fun n8 => (if (fne ((nth nd0 n1).2.2.1) ((nth nd0 n8).2.2.1)) = true then ((ax0).bind fun n15 => ((bx1).bind fun n22 => (some (flt ((nth nd0 n15).2.2.1) ((nth nd0 n22).2.2.1))))) else ((ax0).bind fun n29 => ((bx1).bind fun n36 => (if (!(decide ((nth nd0 n29).2.1 = (nth nd0 n36).2.1))) = true then ((ax0).bind fun n43 => (((nth nd0 n43).2.1).bind fun n50 => ((bx1).bind fun n57 => (((nth nd0 n57).2.1).bind fun n64 => (some (decide ((nth nd0 n50).2.2.2 < (nth nd0 n64).2.2.2))))))) else ((ax0).bind fun n71 => ((if (!((nth nd0 n71).1)) = true then ((bx1).bind fun n81 => (some ((nth nd0 n81).1))) else (some false)).bind fun z80 => (some z80)))))))))
theorem f_soft_run_1_c {S : Nat → Prop} {w0 w : World} {ow : List Res} (hp : Hp S w0 w ow) (bs : List Nat) (nd0 : List WayC) (hA : RdA S w0 92 bs nd0) (vax0 : Value) (ax0 : Option Nat) (hax0 : WP bs vax0 ax0) (vbx1 : Value) (bx1 : Option Nat) (hbx1 : WP bs vbx1 bx1) {r : Bool} (h : f_soft_run_1 nd0 ax0 bx1 = some r) :
   Calls Try.prog 62 #[vax0, vbx1] w (fun e w' => e = .returned (.bool r) ∧ Hp S w0 w' (ow)) := by
  unfold f_soft_run_1 at h
  refine enter (n := 58) (args := [vax0, vbx1]) Try.func62 rfl rfl (Nat.le_of_ble_eq_true rfl) fun a hf => ?_
  replace hf : Fr 58 a [(0, vax0), (1, vbx1)] := hf
  refine wp_mono (Q := fun e a w => e = .ret ∧ Fr 58 a [(4, .bool r)] ∧ Hp S w0 w (ow)) ?_ ?_
  rotate_left
  ·
   rintro e a w ⟨rfl, hf, hp⟩
   exact ret1 hf rfl rfl ⟨rfl, hp⟩
  refine wp_seq ?_
  refine wp_reg ?_
  refine st_assign hf rfl rfl (by decide) ?_
  clear hf; intro a ha hf; clear ha
  refine st_nil hf ?_
  refine th_n ?_
  refine wp_seq ?_
  refine wp_seq ?_
  obtain ⟨n1, hx2, h⟩ := bnd h
  obtain ⟨v3, bb4, y5, y6, ho7⟩ := RdA.at hA hax0 hx2
  obtain ⟨n8, hx9, h⟩ := bnd h
  obtain ⟨v10, bb11, y12, y13, ho14⟩ := RdA.at hA hbx1 hx9
  refine wp_cutN (fun a w => Fr 58 a [(0, vax0), (1, vbx1), (13, .bool (fne ((nth nd0 n1).2.2.1) ((nth nd0 n8).2.2.1)))] ∧ Hp S w0 w (ow)) ?_ ?_
  ·
   have hp := hp.same (Same.drew w)
   refine dr_begin' _ (fun w' => ∃ l, Hp S w0 w' l) [] (by kernel_rfl) ?_
   refine dr_takeK 0 (vax0) rfl hf rfl (fun w ⟨_, hp⟩ => ?_) ⟨_, hp⟩ ?_
   · exact st_move hf rfl rfl (by decide) tk
   clear hf; intro a hf
   refine dr_nilE 1 rfl (by kernel_rfl) (by kernel_rfl) (by kernel_rfl) hf (by decide) rfl rfl (WP.ptr hax0 hx2) ?_
   clear hf; intro a hf
   refine dr_takeK 2 (optr vax0 2) rfl hf rfl (fun w ⟨_, hp⟩ => ?_) ⟨_, hp⟩ ?_
   · exact st_faP (off := 2) (sz := 1) hf (by decide) (by kernel_rfl) (by decide) rfl rfl (WP.isP hax0 hx2) tk
   clear hf; intro a hf
   refine dr_takeK 3 (.float .f64 bb4) rfl hf rfl (fun w ⟨_, hp⟩ => ?_) ⟨_, hp⟩ ?_
   · exact st_ldO (u := .float .f64 bb4) hf (by decide) pl29 rfl rfl (ho7.ob hp) rfl tk
   clear hf; intro a hf
   refine dr_takeK 4 (vbx1) rfl hf rfl (fun w ⟨_, hp⟩ => ?_) ⟨_, hp⟩ ?_
   · exact st_move hf rfl rfl (by decide) tk
   clear hf; intro a hf
   refine dr_nilE 5 rfl (by kernel_rfl) (by kernel_rfl) (by kernel_rfl) hf (by decide) rfl rfl (WP.ptr hbx1 hx9) ?_
   clear hf; intro a hf
   refine dr_takeK 6 (optr vbx1 2) rfl hf rfl (fun w ⟨_, hp⟩ => ?_) ⟨_, hp⟩ ?_
   · exact st_faP (off := 2) (sz := 1) hf (by decide) (by kernel_rfl) (by decide) rfl rfl (WP.isP hbx1 hx9) tk
   clear hf; intro a hf
   refine dr_takeK 7 (.float .f64 bb11) rfl hf rfl (fun w ⟨_, hp⟩ => ?_) ⟨_, hp⟩ ?_
   · exact st_ldO (u := .float .f64 bb11) hf (by decide) pl29 rfl rfl (ho14.ob hp) rfl tk
   clear hf; intro a hf
   refine dr_takeK 8 (.bool (fne ((nth nd0 n1).2.2.1) ((nth nd0 n8).2.2.1))) rfl hf rfl (fun w ⟨_, hp⟩ => ?_) ⟨_, hp⟩ ?_
   · exact st_fcmp (r_fne (fx := (nth nd0 n1).2.2.1) (fy := (nth nd0 n8).2.2.1) y6 y13) hf (by decide) rfl rfl rfl tk
   clear hf; intro a hf
   refine dr_end (by kernel_rfl) ?_ _
   exact ⟨hf.sub ⟨rfl, rfl, rfl, trivial⟩, hp⟩
  rintro a w ⟨hf, hp⟩
  refine th_n ?_
  refine wp_if hf rfl (fun hb => ?_) (fun hb => ?_)
  ·
   replace h := ifT h hb
   refine wp_seq ?_
   obtain ⟨n15, hx16, h⟩ := bnd h
   obtain ⟨v17, bb18, y19, y20, ho21⟩ := RdA.at hA hax0 hx16
   obtain ⟨n22, hx23, h⟩ := bnd h
   obtain ⟨v24, bb25, y26, y27, ho28⟩ := RdA.at hA hbx1 hx23
   refine wp_cutN (fun a w => Fr 58 a [(4, .bool (flt ((nth nd0 n15).2.2.1) ((nth nd0 n22).2.2.1)))] ∧ Hp S w0 w (ow)) ?_ ?_
   ·
    have hp := hp.same (Same.drew w)
    refine dr_begin' _ (fun w' => ∃ l, Hp S w0 w' l) [] (by kernel_rfl) ?_
    refine dr_takeK 0 (vax0) rfl hf rfl (fun w ⟨_, hp⟩ => ?_) ⟨_, hp⟩ ?_
    · exact st_move hf rfl rfl (by decide) tk
    clear hf; intro a hf
    refine dr_nilE 1 rfl (by kernel_rfl) (by kernel_rfl) (by kernel_rfl) hf (by decide) rfl rfl (WP.ptr hax0 hx16) ?_
    clear hf; intro a hf
    refine dr_takeK 2 (optr vax0 2) rfl hf rfl (fun w ⟨_, hp⟩ => ?_) ⟨_, hp⟩ ?_
    · exact st_faP (off := 2) (sz := 1) hf (by decide) (by kernel_rfl) (by decide) rfl rfl (WP.isP hax0 hx16) tk
    clear hf; intro a hf
    refine dr_takeK 3 (.float .f64 bb18) rfl hf rfl (fun w ⟨_, hp⟩ => ?_) ⟨_, hp⟩ ?_
    · exact st_ldO (u := .float .f64 bb18) hf (by decide) pl29 rfl rfl (ho21.ob hp) rfl tk
    clear hf; intro a hf
    refine dr_takeK 4 (vbx1) rfl hf rfl (fun w ⟨_, hp⟩ => ?_) ⟨_, hp⟩ ?_
    · exact st_move hf rfl rfl (by decide) tk
    clear hf; intro a hf
    refine dr_nilE 5 rfl (by kernel_rfl) (by kernel_rfl) (by kernel_rfl) hf (by decide) rfl rfl (WP.ptr hbx1 hx23) ?_
    clear hf; intro a hf
    refine dr_takeK 6 (optr vbx1 2) rfl hf rfl (fun w ⟨_, hp⟩ => ?_) ⟨_, hp⟩ ?_
    · exact st_faP (off := 2) (sz := 1) hf (by decide) (by kernel_rfl) (by decide) rfl rfl (WP.isP hbx1 hx23) tk
    clear hf; intro a hf
    refine dr_takeK 7 (.float .f64 bb25) rfl hf rfl (fun w ⟨_, hp⟩ => ?_) ⟨_, hp⟩ ?_
    · exact st_ldO (u := .float .f64 bb25) hf (by decide) pl29 rfl rfl (ho28.ob hp) rfl tk
    clear hf; intro a hf
    refine dr_takeK 8 (.bool (flt ((nth nd0 n15).2.2.1) ((nth nd0 n22).2.2.1))) rfl hf rfl (fun w ⟨_, hp⟩ => ?_) ⟨_, hp⟩ ?_
    · exact st_fcmp (r_flt (fx := (nth nd0 n15).2.2.1) (fy := (nth nd0 n22).2.2.1) y20 y27) hf (by decide) rfl rfl rfl tk
    clear hf; intro a hf
    refine dr_takeK 9 (.bool (flt ((nth nd0 n15).2.2.1) ((nth nd0 n22).2.2.1))) rfl hf rfl (fun w ⟨_, hp⟩ => ?_) ⟨_, hp⟩ ?_
    · exact st_assign hf rfl rfl (by decide) tk
    clear hf; intro a hf
    refine dr_end (by kernel_rfl) ?_ _
    exact ⟨hf.sub ⟨rfl, trivial⟩, hp⟩
   rintro a w ⟨hf, hp⟩
   refine th_n ?_
   refine wp_ret ?_
   refine th_r ?_
   obtain rfl := Option.some.inj h
   exact ⟨rfl, ⟨hf.sub ⟨rfl, trivial⟩, hp⟩⟩
  replace h := ifF h hb
  refine wp_skip ?_
  refine th_n ?_
  refine wp_seq ?_
  refine wp_seq ?_
  obtain ⟨n29, hx30, h⟩ := bnd h
  obtain ⟨v31, bb32, y33, y34, ho35⟩ := RdA.at hA hax0 hx30
  obtain ⟨n36, hx37, h⟩ := bnd h
  obtain ⟨v38, bb39, y40, y41, ho42⟩ := RdA.at hA hbx1 hx37
  refine wp_cutN (fun a w => Fr 58 a [(0, vax0), (1, vbx1), (31, .bool (!(decide ((nth nd0 n29).2.1 = (nth nd0 n36).2.1))))] ∧ Hp S w0 w (ow)) ?_ ?_
  ·
   have hp := hp.same (Same.drew w)
   refine dr_begin' _ (fun w' => ∃ l, Hp S w0 w' l) [] (by kernel_rfl) ?_
   refine dr_takeK 0 (vax0) rfl hf rfl (fun w ⟨_, hp⟩ => ?_) ⟨_, hp⟩ ?_
   · exact st_move hf rfl rfl (by decide) tk
   clear hf; intro a hf
   refine dr_nilE 1 rfl (by kernel_rfl) (by kernel_rfl) (by kernel_rfl) hf (by decide) rfl rfl (WP.ptr hax0 hx30) ?_
   clear hf; intro a hf
   refine dr_takeK 2 (optr vax0 1) rfl hf rfl (fun w ⟨_, hp⟩ => ?_) ⟨_, hp⟩ ?_
   · exact st_faP (off := 1) (sz := 1) hf (by decide) (by kernel_rfl) (by decide) rfl rfl (WP.isP hax0 hx30) tk
   clear hf; intro a hf
   refine dr_takeK 3 (v31) rfl hf rfl (fun w ⟨_, hp⟩ => ?_) ⟨_, hp⟩ ?_
   · exact st_ldO (u := v31) hf (by decide) pl86 rfl rfl (ho35.ob hp) rfl tk
   clear hf; intro a hf
   refine dr_takeK 4 (vbx1) rfl hf rfl (fun w ⟨_, hp⟩ => ?_) ⟨_, hp⟩ ?_
   · exact st_move hf rfl rfl (by decide) tk
   clear hf; intro a hf
   refine dr_nilE 5 rfl (by kernel_rfl) (by kernel_rfl) (by kernel_rfl) hf (by decide) rfl rfl (WP.ptr hbx1 hx37) ?_
   clear hf; intro a hf
   refine dr_takeK 6 (optr vbx1 1) rfl hf rfl (fun w ⟨_, hp⟩ => ?_) ⟨_, hp⟩ ?_
   · exact st_faP (off := 1) (sz := 1) hf (by decide) (by kernel_rfl) (by decide) rfl rfl (WP.isP hbx1 hx37) tk
   clear hf; intro a hf
   refine dr_takeK 7 (v38) rfl hf rfl (fun w ⟨_, hp⟩ => ?_) ⟨_, hp⟩ ?_
   · exact st_ldO (u := v38) hf (by decide) pl86 rfl rfl (ho42.ob hp) rfl tk
   clear hf; intro a hf
   refine dr_takeK 8 (.bool (!(decide ((nth nd0 n29).2.1 = (nth nd0 n36).2.1)))) rfl hf rfl (fun w ⟨_, hp⟩ => ?_) ⟨_, hp⟩ ?_
   · exact st_wneq hf (by decide) Try.underlying86 (szne (sz := 4) (by kernel_rfl) (by decide)) (hA.ara hp) rfl rfl rfl y33 y40 tk
   clear hf; intro a hf
   refine dr_end (by kernel_rfl) ?_ _
   exact ⟨hf.sub ⟨rfl, rfl, rfl, trivial⟩, hp⟩
  rintro a w ⟨hf, hp⟩
  refine th_n ?_
  refine wp_if hf rfl (fun hb => ?_) (fun hb => ?_)
  ·
   replace h := ifT h hb
   refine wp_seq ?_
   obtain ⟨n43, hx44, h⟩ := bnd h
   obtain ⟨v45, bb46, y47, y48, ho49⟩ := RdA.at hA hax0 hx44
   obtain ⟨n50, hx51, h⟩ := bnd h
   obtain ⟨v52, bb53, y54, y55, ho56⟩ := RdA.at hA y47 hx51
   obtain ⟨n57, hx58, h⟩ := bnd h
   obtain ⟨v59, bb60, y61, y62, ho63⟩ := RdA.at hA hbx1 hx58
   obtain ⟨n64, hx65, h⟩ := bnd h
   obtain ⟨v66, bb67, y68, y69, ho70⟩ := RdA.at hA y61 hx65
   refine wp_cutN (fun a w => Fr 58 a [(4, .bool (decide ((nth nd0 n50).2.2.2 < (nth nd0 n64).2.2.2)))] ∧ Hp S w0 w (ow)) ?_ ?_
   ·
    have hp := hp.same (Same.drew w)
    refine dr_begin' _ (fun w' => ∃ l, Hp S w0 w' l) [] (by kernel_rfl) ?_
    refine dr_takeK 0 (vax0) rfl hf rfl (fun w ⟨_, hp⟩ => ?_) ⟨_, hp⟩ ?_
    · exact st_move hf rfl rfl (by decide) tk
    clear hf; intro a hf
    refine dr_nilE 1 rfl (by kernel_rfl) (by kernel_rfl) (by kernel_rfl) hf (by decide) rfl rfl (WP.ptr hax0 hx44) ?_
    clear hf; intro a hf
    refine dr_takeK 2 (optr vax0 1) rfl hf rfl (fun w ⟨_, hp⟩ => ?_) ⟨_, hp⟩ ?_
    · exact st_faP (off := 1) (sz := 1) hf (by decide) (by kernel_rfl) (by decide) rfl rfl (WP.isP hax0 hx44) tk
    clear hf; intro a hf
    refine dr_takeK 3 (v45) rfl hf rfl (fun w ⟨_, hp⟩ => ?_) ⟨_, hp⟩ ?_
    · exact st_ldO (u := v45) hf (by decide) pl86 rfl rfl (ho49.ob hp) rfl tk
    clear hf; intro a hf
    refine dr_nilE 4 rfl (by kernel_rfl) (by kernel_rfl) (by kernel_rfl) hf (by decide) rfl rfl (WP.ptr y47 hx51) ?_
    clear hf; intro a hf
    refine dr_takeK 5 (optr v45 3) rfl hf rfl (fun w ⟨_, hp⟩ => ?_) ⟨_, hp⟩ ?_
    · exact st_faP (off := 3) (sz := 1) hf (by decide) (by kernel_rfl) (by decide) rfl rfl (WP.isP y47 hx51) tk
    clear hf; intro a hf
    refine dr_takeK 6 (.int .i64 ((nth nd0 n50).2.2.2)) rfl hf rfl (fun w ⟨_, hp⟩ => ?_) ⟨_, hp⟩ ?_
    · exact st_ldO (u := .int .i64 ((nth nd0 n50).2.2.2)) hf (by decide) pl3 rfl rfl (ho56.ob hp) rfl tk
    clear hf; intro a hf
    refine dr_takeK 7 (vbx1) rfl hf rfl (fun w ⟨_, hp⟩ => ?_) ⟨_, hp⟩ ?_
    · exact st_move hf rfl rfl (by decide) tk
    clear hf; intro a hf
    refine dr_nilE 8 rfl (by kernel_rfl) (by kernel_rfl) (by kernel_rfl) hf (by decide) rfl rfl (WP.ptr hbx1 hx58) ?_
    clear hf; intro a hf
    refine dr_takeK 9 (optr vbx1 1) rfl hf rfl (fun w ⟨_, hp⟩ => ?_) ⟨_, hp⟩ ?_
    · exact st_faP (off := 1) (sz := 1) hf (by decide) (by kernel_rfl) (by decide) rfl rfl (WP.isP hbx1 hx58) tk
    clear hf; intro a hf
    refine dr_takeK 10 (v59) rfl hf rfl (fun w ⟨_, hp⟩ => ?_) ⟨_, hp⟩ ?_
    · exact st_ldO (u := v59) hf (by decide) pl86 rfl rfl (ho63.ob hp) rfl tk
    clear hf; intro a hf
    refine dr_nilE 11 rfl (by kernel_rfl) (by kernel_rfl) (by kernel_rfl) hf (by decide) rfl rfl (WP.ptr y61 hx65) ?_
    clear hf; intro a hf
    refine dr_takeK 12 (optr v59 3) rfl hf rfl (fun w ⟨_, hp⟩ => ?_) ⟨_, hp⟩ ?_
    · exact st_faP (off := 3) (sz := 1) hf (by decide) (by kernel_rfl) (by decide) rfl rfl (WP.isP y61 hx65) tk
    clear hf; intro a hf
    refine dr_takeK 13 (.int .i64 ((nth nd0 n64).2.2.2)) rfl hf rfl (fun w ⟨_, hp⟩ => ?_) ⟨_, hp⟩ ?_
    · exact st_ldO (u := .int .i64 ((nth nd0 n64).2.2.2)) hf (by decide) pl3 rfl rfl (ho70.ob hp) rfl tk
    clear hf; intro a hf
    refine dr_takeK 14 (.bool (decide ((nth nd0 n50).2.2.2 < (nth nd0 n64).2.2.2))) rfl hf rfl (fun w ⟨_, hp⟩ => ?_) ⟨_, hp⟩ ?_
    · exact st_ilss hf (by decide) rfl rfl rfl tk
    clear hf; intro a hf
    refine dr_takeK 15 (.bool (decide ((nth nd0 n50).2.2.2 < (nth nd0 n64).2.2.2))) rfl hf rfl (fun w ⟨_, hp⟩ => ?_) ⟨_, hp⟩ ?_
    · exact st_assign hf rfl rfl (by decide) tk
    clear hf; intro a hf
    refine dr_end (by kernel_rfl) ?_ _
    exact ⟨hf.sub ⟨rfl, trivial⟩, hp⟩
   rintro a w ⟨hf, hp⟩
   refine th_n ?_
   refine wp_ret ?_
   refine th_r ?_
   obtain rfl := Option.some.inj h
   exact ⟨rfl, ⟨hf.sub ⟨rfl, trivial⟩, hp⟩⟩
  replace h := ifF h hb
  refine wp_skip ?_
  refine th_n ?_
  refine wp_seq ?_
  refine wp_reg ?_
  refine st_move hf rfl rfl (by decide) ?_
  clear hf; intro a ha hf; clear ha
  obtain ⟨n71, hx72, h⟩ := bnd h
  refine st_nilE hf (by decide) rfl rfl (WP.ptr hax0 hx72) ?_
  clear hf; intro a ha hf; clear ha
  refine st_faP (off := 0) (sz := 1) hf (by decide) (by kernel_rfl) (by decide) rfl rfl (WP.isP hax0 hx72) ?_
  clear hf; intro a ha hf; clear ha
  obtain ⟨v73, bb74, y75, y76, ho77⟩ := RdA.at hA hax0 hx72
  refine st_ldO (u := .bool ((nth nd0 n71).1)) hf (by decide) pl4 rfl rfl (ho77.ob hp) rfl ?_
  clear hf; intro a ha hf; clear ha
  refine st_not hf (by decide) rfl rfl ?_
  clear hf; intro a ha hf; clear ha
  refine st_move hf rfl rfl (by decide) ?_
  clear hf; intro a ha hf; clear ha
  obtain ⟨z80, hz78, h⟩ := bnd h
  refine wpList_cut 5 (fun a w => Fr 58 a [(57, .bool z80)] ∧ Hp S w0 w (ow)) ?_ ?_
  ·
   rcases Bool.eq_false_or_eq_true (!((nth nd0 n71).1)) with hb79 | hb79
   ·
    replace hz78 := ifT hz78 hb79
    refine st_move hf (wantY hf rfl rfl hb79) rfl (by decide) ?_
    clear hf; intro a ha hf; clear ha
    obtain ⟨n81, hx82, hz78⟩ := bnd hz78
    refine st_nilE hf (by decide) (wantY hf rfl rfl hb79) rfl (WP.ptr hbx1 hx82) ?_
    clear hf; intro a ha hf; clear ha
    refine st_faP (off := 0) (sz := 1) hf (by decide) (by kernel_rfl) (by decide) (wantY hf rfl rfl hb79) rfl (WP.isP hbx1 hx82) ?_
    clear hf; intro a ha hf; clear ha
    obtain ⟨v83, bb84, y85, y86, ho87⟩ := RdA.at hA hbx1 hx82
    refine st_ldO (u := .bool ((nth nd0 n81).1)) hf (by decide) pl4 (wantY hf rfl rfl hb79) rfl (ho87.ob hp) rfl ?_
    clear hf; intro a ha hf; clear ha
    obtain rfl := Option.some.inj hz78
    refine st_pick (v := .bool ((nth nd0 n81).1)) hf rfl rfl (fun hb' => ?_) (fun hb' => ?_) (by decide) ?_
    · rfl
    · exact absurd (hb79.symm.trans hb') (by decide)
    clear hf; intro a ha hf; clear ha
    refine st_nil hf (th_n ?_)
    exact ⟨hf.sub ⟨rfl, trivial⟩, hp⟩
   replace hz78 := ifF hz78 hb79
   refine st_skip hf (wantN hf rfl rfl hb79) rfl (by decide) ?_ rfl
   clear hf; intro a hf
   refine st_skip hf (wantN hf rfl rfl hb79) rfl (by decide) ?_ rfl
   clear hf; intro a hf
   refine st_skip hf (wantN hf rfl rfl hb79) rfl (by decide) ?_ rfl
   clear hf; intro a hf
   refine st_skip hf (wantN hf rfl rfl hb79) rfl (by decide) ?_ rfl
   clear hf; intro a hf
   obtain rfl := Option.some.inj hz78
   refine st_pick (v := .bool false) hf rfl rfl (fun hb' => ?_) (fun hb' => ?_) (by decide) ?_
   · exact absurd (hb79.symm.trans hb') (by decide)
   · rfl
   clear hf; intro a ha hf; clear ha
   refine st_nil hf (th_n ?_)
   exact ⟨hf.sub ⟨rfl, trivial⟩, hp⟩
  rintro a w ⟨hf, hp⟩
  refine st_assign hf rfl rfl (by decide) ?_
  clear hf; intro a ha hf; clear ha
  refine st_nil hf ?_
  refine th_n ?_
  refine wp_ret ?_
  obtain rfl := Option.some.inj h
  exact ⟨rfl, ⟨hf.sub ⟨rfl, trivial⟩, hp⟩⟩

noncomputable def f_soft_two_put (nd0 : (List WayC)) (t0 : (List ((Option Nat) × (Option Nat)))) (it0 : Int) (wx1 : (Option Nat)) : Option (List ((Option Nat) × (Option Nat))) := ((if (((gt t0 it0).1).isNone) = true then (some true) else ((f_soft_run_1 nd0 wx1 ((gt t0 it0).1)).bind fun q11 => (some q11))).bind fun z7 => (if z7 = true then (some ((t0.set (it0).toNat (wx1, (gt t0 it0).2)).set (it0).toNat ((gt (t0.set (it0).toNat (wx1, (gt t0 it0).2)) it0).1, (gt t0 it0).1))) else ((if (((gt t0 it0).2).isNone) = true then (some true) else ((f_soft_run_1 nd0 wx1 ((gt t0 it0).2)).bind fun q39 => (some q39))).bind fun z35 => (if z35 = true then (some (t0.set (it0).toNat ((gt t0 it0).1, wx1))) else (some t0)))))
theorem f_soft_two_put_c {S : Nat → Prop} {w0 w : World} {ow : List Res} (bs : List Nat) (nd0 : List WayC) (hA : RdA S w0 92 bs nd0) (vt0 : Value) (tbt0 : Nat) (t0 : List ((Option Nat) × (Option Nat))) (it0 : Int) (kt0 : 0 ≤ it0 ∧ it0 < (t0.length : Int)) (vwx1 : Value) (wx1 : Option Nat) (hwx1 : WP bs vwx1 wx1) (hp : Hp S w0 w (Res.sl (Ek.pair (Ek.wp bs) (Ek.wp bs)) tbt0 vt0 t0 :: ow)) {r : (List ((Option Nat) × (Option Nat)))} (h : f_soft_two_put nd0 t0 it0 wx1 = some r) :
    Calls Try.prog 63 #[eptr vt0 it0 2, vwx1, .func (.func 62) #[] #[]] w (fun e w' => e = .returned (.tuple #[]) ∧ Hp S w0 w' (Res.sl (Ek.pair (Ek.wp bs) (Ek.wp bs)) tbt0 vt0 r :: ow)) := by
  unfold f_soft_two_put at h
  refine enter (n := 51) (args := [eptr vt0 it0 2, vwx1, .func (.func 62) #[] #[]]) Try.func63 rfl rfl (Nat.le_of_ble_eq_true rfl) fun a hf => ?_
  replace hf : Fr 51 a [(0, eptr vt0 it0 2), (1, vwx1), (2, .func (.func 62) #[] #[])] := hf
  refine wp_mono (Q := fun e a w => (e = .ret ∨ e = .normal) ∧ Fr 51 a [] ∧ Hp S w0 w (Res.sl (Ek.pair (Ek.wp bs) (Ek.wp bs)) tbt0 vt0 r :: ow)) ?_ ?_
  rotate_left
  · rintro e a w ⟨rfl | rfl, hf, hp⟩
    · exact ret0 hf rfl ⟨rfl, hp⟩
    · exact ret0n hf rfl ⟨rfl, hp⟩
  refine wp_block ?_
  refine wp_seq ?_
  refine wp_reg ?_
  refine st_move hf rfl rfl (by decide) ?_
  clear hf; intro a ha hf; clear ha
  refine st_nilE hf (by decide) rfl rfl (Sl.ptr (hp.sl (i := 0) rfl) kt0.1 kt0.2) ?_
  clear hf; intro a ha hf; clear ha
  have hc2 : 0 ≤ (0 : Int) ∧ (0 : Int) < (2 : Int) := by decide
  refine st_iaP (sz := 1) hf (by decide) Try.underlying88 (by kernel_rfl) rfl rfl rfl (Sl.isP (hp.sl (i := 0) rfl) kt0.1 kt0.2) hc2.1 hc2.2 ?_
  clear hf; intro a ha hf; clear ha
  refine st_ldQW (bs := bs) (yv := (gt t0 it0).1) hf (by decide) pl86 rfl rfl (Sl.part (E := (Ek.pair (Ek.wp bs) (Ek.wp bs))) (F := (Ek.wp bs)) (o := ((0 : Int)).toNat * 1) (Sub.fst (E := (Ek.wp bs)) (F := (Ek.wp bs))) (hp.sl (i := 0) rfl) kt0.1 kt0.2) ?_
  clear hf; intro a v3 y4 ha hf; clear ha
  refine st_wnilE hf (by decide) Try.underlying86 rfl rfl rfl y4 ?_
  clear hf; intro a ha hf; clear ha
  refine st_move hf rfl rfl (by decide) ?_
  clear hf; intro a ha hf; clear ha
  obtain ⟨z7, hz5, h⟩ := bnd h
  refine wpList_cut 8 (fun a w => Fr 51 a [(0, eptr vt0 it0 2), (1, vwx1), (2, .func (.func 62) #[] #[]), (20, .bool z7)] ∧ Hp S w0 w (Res.sl (Ek.pair (Ek.wp bs) (Ek.wp bs)) tbt0 vt0 t0 :: ow)) ?_ ?_
  · rcases Bool.eq_false_or_eq_true (((gt t0 it0).1).isNone) with hb6 | hb6
    · skip
      replace hz5 := ifT hz5 hb6
      refine st_skip hf (wantN hf rfl rfl hb6) rfl (by decide) ?_ rfl
      clear hf; intro a hf
      refine st_skip hf (wantN hf rfl rfl hb6) rfl (by decide) ?_ rfl
      clear hf; intro a hf
      refine st_skip hf (wantN hf rfl rfl hb6) rfl (by decide) ?_ rfl
      clear hf; intro a hf
      refine st_skip hf (wantN hf rfl rfl hb6) rfl (by decide) ?_ rfl
      clear hf; intro a hf
      refine st_skip hf (wantN hf rfl rfl hb6) rfl (by decide) ?_ rfl
      clear hf; intro a hf
      refine st_skip hf (wantN hf rfl rfl hb6) rfl (by decide) ?_ rfl
      clear hf; intro a hf
      refine st_skip hf (wantN hf rfl rfl hb6) rfl (by decide) ?_ rfl
      clear hf; intro a hf
      obtain rfl := Option.some.inj hz5
      refine st_pick (v := .bool true) hf rfl rfl (fun hb' => ?_) (fun hb' => ?_) (by decide) ?_
      · rfl
      · exact absurd (hb6.symm.trans hb') (by decide)
      clear hf; intro a ha hf; clear ha
      refine st_nil hf (th_n ?_)
      exact ⟨hf.sub ⟨rfl, rfl, rfl, rfl, trivial⟩, hp⟩
    replace hz5 := ifF hz5 hb6
    refine st_move hf (wantY hf rfl rfl hb6) rfl (by decide) ?_
    clear hf; intro a ha hf; clear ha
    refine st_move hf (wantY hf rfl rfl hb6) rfl (by decide) ?_
    clear hf; intro a ha hf; clear ha
    refine st_move hf (wantY hf rfl rfl hb6) rfl (by decide) ?_
    clear hf; intro a ha hf; clear ha
    refine st_nilE hf (by decide) (wantY hf rfl rfl hb6) rfl (Sl.ptr (hp.sl (i := 0) rfl) kt0.1 kt0.2) ?_
    clear hf; intro a ha hf; clear ha
    have hc8 : 0 ≤ (0 : Int) ∧ (0 : Int) < (2 : Int) := by decide
    refine st_iaP (sz := 1) hf (by decide) Try.underlying88 (by kernel_rfl) (wantY hf rfl rfl hb6) rfl rfl (Sl.isP (hp.sl (i := 0) rfl) kt0.1 kt0.2) hc8.1 hc8.2 ?_
    clear hf; intro a ha hf; clear ha
    refine st_ldQW (bs := bs) (yv := (gt t0 it0).1) hf (by decide) pl86 (wantY hf rfl rfl hb6) rfl (Sl.part (E := (Ek.pair (Ek.wp bs) (Ek.wp bs))) (F := (Ek.wp bs)) (o := ((0 : Int)).toNat * 1) (Sub.fst (E := (Ek.wp bs)) (F := (Ek.wp bs))) (hp.sl (i := 0) rfl) kt0.1 kt0.2) ?_
    clear hf; intro a v9 y10 ha hf; clear ha
    obtain ⟨q11, hcall12, hz5⟩ := bnd hz5
    refine st_call hf (by decide) Try.func62 rfl rfl (wantY hf rfl rfl hb6) rfl rfl (f_soft_run_1_c hp _ _ hA _ _ hwx1 _ _ y10 hcall12) ?_
    rintro _ w ⟨rfl, hp0⟩
    clear hp; have hp := hp0; clear hp0
    replace hp : Hp _ _ _ (Res.sl (Ek.pair (Ek.wp bs) (Ek.wp bs)) tbt0 vt0 t0 :: ow) := hp
    refine ⟨_, rfl, ?_⟩
    clear hf; intro a hf
    obtain rfl := Option.some.inj hz5
    refine st_pick (v := .bool q11) hf rfl rfl (fun hb' => ?_) (fun hb' => ?_) (by decide) ?_
    · exact absurd (hb6.symm.trans hb') (by decide)
    · rfl
    clear hf; intro a ha hf; clear ha
    refine st_nil hf (th_n ?_)
    exact ⟨hf.sub ⟨rfl, rfl, rfl, rfl, trivial⟩, hp⟩
  rintro a w ⟨hf, hp⟩
  refine st_assign hf rfl rfl (by decide) ?_
  clear hf; intro a ha hf; clear ha
  refine st_nil hf ?_
  refine th_n ?_
  refine wp_if hf rfl (fun hb => ?_) (fun hb => ?_)
  · replace h := ifT h hb
    obtain ⟨S13, hp14, rd15, up16, bk17⟩ := Hp.lendS hp (i := 0) rfl
    have rl18 := rd15
    have rl19 := ((hA.now hp).mono up16)
    have fx28 := hp.sl (i := 0) rfl
    have hc20 : 0 ≤ (0 : Int) ∧ (0 : Int) < (2 : Int) := by decide
    obtain ⟨v26, y24, hl21⟩ := RdS.pinPW (p := it0) (o := ((0 : Int)).toNat * 1) (Sub.fst (E := (Ek.wp bs)) (F := (Ek.wp bs))) rl18 kt0.1 kt0.2
    have hc27 : 0 ≤ (0 : Int) ∧ (0 : Int) < (2 : Int) := by decide
    have hc29 : 0 ≤ (1 : Int) ∧ (1 : Int) < (2 : Int) := by decide
    refine wp_cutN (fun a w => Fr 51 a [] ∧ Hp S w0 w (Res.sl (Ek.pair (Ek.wp bs) (Ek.wp bs)) tbt0 vt0 ((t0.set (it0).toNat (wx1, (gt t0 it0).2)).set (it0).toNat ((gt (t0.set (it0).toNat (wx1, (gt t0 it0).2)) it0).1, (gt t0 it0).1)) :: ow)) ?_ ?_
    · have hp := hp14.same (Same.drew w)
      refine dr_begin' (fun a w => Fr 51 a [] ∧ Hp S w0 w (Res.sl (Ek.pair (Ek.wp bs) (Ek.wp bs)) tbt0 vt0 ((t0.set (it0).toNat (wx1, (gt t0 it0).2)).set (it0).toNat ((gt (t0.set (it0).toNat (wx1, (gt t0 it0).2)) it0).1, (gt t0 it0).1)) :: ow)) (fun w' => ∃ l, Hp S13 w w' l) [9, 12] (by kernel_rfl) ?_
      refine dr_takeP 0 (eptr vt0 it0 2) rfl (by kernel_rfl) (by kernel_rfl) (by kernel_rfl) rfl rfl hf (by decide) rfl (fun w => ?_) ?_
      · skip
        refine st_move hf rfl rfl (by decide) ?_
        clear hf; intro a ha hf
        exact st_nil hf (th_n ⟨ha, rfl⟩)
      clear hf; intro a hf
      refine dr_takeP 1 (eptr vt0 it0 2) rfl (by kernel_rfl) (by kernel_rfl) (by kernel_rfl) rfl rfl hf (by decide) rfl (fun w => ?_) ?_
      · skip
        refine st_move hf rfl rfl (by decide) ?_
        clear hf; intro a ha hf
        exact st_nil hf (th_n ⟨ha, rfl⟩)
      clear hf; intro a hf
      refine dr_takeP 2 (vwx1) rfl (by kernel_rfl) (by kernel_rfl) (by kernel_rfl) rfl rfl hf (by decide) rfl (fun w => ?_) ?_
      · skip
        refine st_move hf rfl rfl (by decide) ?_
        clear hf; intro a ha hf
        exact st_nil hf (th_n ⟨ha, rfl⟩)
      clear hf; intro a hf
      refine dr_takeP 3 (eptr vt0 it0 2) rfl (by kernel_rfl) (by kernel_rfl) (by kernel_rfl) rfl rfl hf (by decide) rfl (fun w => ?_) ?_
      · skip
        refine st_move hf rfl rfl (by decide) ?_
        clear hf; intro a ha hf
        exact st_nil hf (th_n ⟨ha, rfl⟩)
      clear hf; intro a hf
      refine dr_nilE 4 rfl (by kernel_rfl) (by kernel_rfl) (by kernel_rfl) hf (by decide) rfl rfl (Sl.ptr rl18.any kt0.1 kt0.2) ?_
      clear hf; intro a hf
      refine dr_takeP 5 (optr (eptr vt0 it0 2) (((0 : Int)).toNat * 1)) rfl (by kernel_rfl) (by kernel_rfl) (by kernel_rfl) rfl rfl hf (by decide) rfl (fun w => ?_) ?_
      · skip
        refine st_iaP (sz := 1) hf (by decide) Try.underlying88 (by kernel_rfl) rfl rfl rfl (Sl.isP rl18.any kt0.1 kt0.2) hc20.1 hc20.2 ?_
        clear hf; intro a ha hf
        exact st_nil hf (th_n ⟨ha, rfl⟩)
      clear hf; intro a hf
      refine dr_take2 6 (v26) rfl (by kernel_rfl) (by kernel_rfl) (by kernel_rfl) (by kernel_rfl) (by kernel_rfl) rfl rfl hf (by decide) rfl (fun w hp => ?_) ⟨_, hp⟩ ?_
      · obtain ⟨_, hp⟩ := hp
        refine st_ldP hf (by decide) pl86 rfl rfl (hl21 _ _ hp) ?_
        clear hf; intro a ha hf
        exact st_nil hf (th_n ⟨ha, rfl⟩)
      clear hf; intro a hf
      refine dr_nilE 7 rfl (by kernel_rfl) (by kernel_rfl) (by kernel_rfl) hf (by decide) rfl rfl (Sl.ptr rl18.any kt0.1 kt0.2) ?_
      clear hf; intro a hf
      refine dr_takeP 8 (optr (eptr vt0 it0 2) (((0 : Int)).toNat * 1)) rfl (by kernel_rfl) (by kernel_rfl) (by kernel_rfl) rfl rfl hf (by decide) rfl (fun w => ?_) ?_
      · skip
        refine st_iaP (sz := 1) hf (by decide) Try.underlying88 (by kernel_rfl) rfl rfl rfl (Sl.isP rl18.any kt0.1 kt0.2) hc27.1 hc27.2 ?_
        clear hf; intro a ha hf
        exact st_nil hf (th_n ⟨ha, rfl⟩)
      clear hf; intro a hf
      refine dr_nilE 10 rfl (by kernel_rfl) (by kernel_rfl) (by kernel_rfl) hf (by decide) rfl rfl (Sl.ptr fx28 kt0.1 kt0.2) ?_
      clear hf; intro a hf
      have hp := bk17 _ _ hp
      refine dr_one 9 rfl (by kernel_rfl) ?_
      refine st_stQ (E := (Ek.pair (Ek.wp bs) (Ek.wp bs))) (F := (Ek.wp bs)) (o := ((0 : Int)).toNat * 1) (Sub.fst (E := (Ek.wp bs)) (F := (Ek.wp bs))) hf (by kernel_rfl) hp (i := 0) rfl rfl rfl rfl (wp_cells hwx1) kt0.1 kt0.2 ?_
      clear hf; intro a w hf hp0; clear hp; have hp := hp0; clear hp0
      replace hp : Hp _ _ _ (Res.sl (Ek.pair (Ek.wp bs) (Ek.wp bs)) tbt0 vt0 (t0.set (it0).toNat (wx1, (gt t0 it0).2)) :: ow) := hp
      refine st_nil hf (th_n ⟨fun hn => absurd hn (by decide), ?_⟩)
      refine dr_takeP 11 (optr (eptr vt0 it0 2) (((1 : Int)).toNat * 1)) rfl (by kernel_rfl) (by kernel_rfl) (by kernel_rfl) rfl rfl hf (by decide) rfl (fun w => ?_) ?_
      · skip
        refine st_iaP (sz := 1) hf (by decide) Try.underlying88 (by kernel_rfl) rfl rfl rfl (Sl.isP fx28 kt0.1 kt0.2) hc29.1 hc29.2 ?_
        clear hf; intro a ha hf
        exact st_nil hf (th_n ⟨ha, rfl⟩)
      clear hf; intro a hf
      refine dr_one 12 rfl (by kernel_rfl) ?_
      refine st_stQ (E := (Ek.pair (Ek.wp bs) (Ek.wp bs))) (F := (Ek.wp bs)) (o := ((1 : Int)).toNat * 1) (Sub.snd (E := (Ek.wp bs)) (F := (Ek.wp bs))) hf (by kernel_rfl) hp (i := 0) rfl rfl rfl rfl (wp_cells y24) (show 0 ≤ it0 ∧ it0 < ((t0.set (it0).toNat (wx1, (gt t0 it0).2)).length : Int) from hset kt0).1 (show 0 ≤ it0 ∧ it0 < ((t0.set (it0).toNat (wx1, (gt t0 it0).2)).length : Int) from hset kt0).2 ?_
      clear hf; intro a w hf hp0; clear hp; have hp := hp0; clear hp0
      replace hp : Hp _ _ _ (Res.sl (Ek.pair (Ek.wp bs) (Ek.wp bs)) tbt0 vt0 ((t0.set (it0).toNat (wx1, (gt t0 it0).2)).set (it0).toNat ((gt (t0.set (it0).toNat (wx1, (gt t0 it0).2)) it0).1, (gt t0 it0).1)) :: ow) := hp
      refine st_nil hf (th_n ⟨fun hn => absurd hn (by decide), ?_⟩)
      refine dr_end (by kernel_rfl) ?_ _
      exact ⟨hf.sub trivial, hp⟩
    rintro a w ⟨hf, hp⟩
    refine ib_n ?_
    obtain rfl := Option.some.inj h
    exact ⟨(.inr rfl), ⟨hf.sub trivial, hp⟩⟩
  replace h := ifF h hb
  refine wp_seq ?_
  refine wp_reg ?_
  refine st_move hf rfl rfl (by decide) ?_
  clear hf; intro a ha hf; clear ha
  refine st_nilE hf (by decide) rfl rfl (Sl.ptr (hp.sl (i := 0) rfl) kt0.1 kt0.2) ?_
  clear hf; intro a ha hf; clear ha
  have hc30 : 0 ≤ (1 : Int) ∧ (1 : Int) < (2 : Int) := by decide
  refine st_iaP (sz := 1) hf (by decide) Try.underlying88 (by kernel_rfl) rfl rfl rfl (Sl.isP (hp.sl (i := 0) rfl) kt0.1 kt0.2) hc30.1 hc30.2 ?_
  clear hf; intro a ha hf; clear ha
  refine st_ldQW (bs := bs) (yv := (gt t0 it0).2) hf (by decide) pl86 rfl rfl (Sl.part (E := (Ek.pair (Ek.wp bs) (Ek.wp bs))) (F := (Ek.wp bs)) (o := ((1 : Int)).toNat * 1) (Sub.snd (E := (Ek.wp bs)) (F := (Ek.wp bs))) (hp.sl (i := 0) rfl) kt0.1 kt0.2) ?_
  clear hf; intro a v31 y32 ha hf; clear ha
  refine st_wnilE hf (by decide) Try.underlying86 rfl rfl rfl y32 ?_
  clear hf; intro a ha hf; clear ha
  refine st_move hf rfl rfl (by decide) ?_
  clear hf; intro a ha hf; clear ha
  obtain ⟨z35, hz33, h⟩ := bnd h
  refine wpList_cut 8 (fun a w => Fr 51 a [(0, eptr vt0 it0 2), (1, vwx1), (46, .bool z35)] ∧ Hp S w0 w (Res.sl (Ek.pair (Ek.wp bs) (Ek.wp bs)) tbt0 vt0 t0 :: ow)) ?_ ?_
  · rcases Bool.eq_false_or_eq_true (((gt t0 it0).2).isNone) with hb34 | hb34
    · skip
      replace hz33 := ifT hz33 hb34
      refine st_skip hf (wantN hf rfl rfl hb34) rfl (by decide) ?_ rfl
      clear hf; intro a hf
      refine st_skip hf (wantN hf rfl rfl hb34) rfl (by decide) ?_ rfl
      clear hf; intro a hf
      refine st_skip hf (wantN hf rfl rfl hb34) rfl (by decide) ?_ rfl
      clear hf; intro a hf
      refine st_skip hf (wantN hf rfl rfl hb34) rfl (by decide) ?_ rfl
      clear hf; intro a hf
      refine st_skip hf (wantN hf rfl rfl hb34) rfl (by decide) ?_ rfl
      clear hf; intro a hf
      refine st_skip hf (wantN hf rfl rfl hb34) rfl (by decide) ?_ rfl
      clear hf; intro a hf
      refine st_skip hf (wantN hf rfl rfl hb34) rfl (by decide) ?_ rfl
      clear hf; intro a hf
      obtain rfl := Option.some.inj hz33
      refine st_pick (v := .bool true) hf rfl rfl (fun hb' => ?_) (fun hb' => ?_) (by decide) ?_
      · rfl
      · exact absurd (hb34.symm.trans hb') (by decide)
      clear hf; intro a ha hf; clear ha
      refine st_nil hf (th_n ?_)
      exact ⟨hf.sub ⟨rfl, rfl, rfl, trivial⟩, hp⟩
    replace hz33 := ifF hz33 hb34
    refine st_move hf (wantY hf rfl rfl hb34) rfl (by decide) ?_
    clear hf; intro a ha hf; clear ha
    refine st_move hf (wantY hf rfl rfl hb34) rfl (by decide) ?_
    clear hf; intro a ha hf; clear ha
    refine st_move hf (wantY hf rfl rfl hb34) rfl (by decide) ?_
    clear hf; intro a ha hf; clear ha
    refine st_nilE hf (by decide) (wantY hf rfl rfl hb34) rfl (Sl.ptr (hp.sl (i := 0) rfl) kt0.1 kt0.2) ?_
    clear hf; intro a ha hf; clear ha
    have hc36 : 0 ≤ (1 : Int) ∧ (1 : Int) < (2 : Int) := by decide
    refine st_iaP (sz := 1) hf (by decide) Try.underlying88 (by kernel_rfl) (wantY hf rfl rfl hb34) rfl rfl (Sl.isP (hp.sl (i := 0) rfl) kt0.1 kt0.2) hc36.1 hc36.2 ?_
    clear hf; intro a ha hf; clear ha
    refine st_ldQW (bs := bs) (yv := (gt t0 it0).2) hf (by decide) pl86 (wantY hf rfl rfl hb34) rfl (Sl.part (E := (Ek.pair (Ek.wp bs) (Ek.wp bs))) (F := (Ek.wp bs)) (o := ((1 : Int)).toNat * 1) (Sub.snd (E := (Ek.wp bs)) (F := (Ek.wp bs))) (hp.sl (i := 0) rfl) kt0.1 kt0.2) ?_
    clear hf; intro a v37 y38 ha hf; clear ha
    obtain ⟨q39, hcall40, hz33⟩ := bnd hz33
    refine st_call hf (by decide) Try.func62 rfl rfl (wantY hf rfl rfl hb34) rfl rfl (f_soft_run_1_c hp _ _ hA _ _ hwx1 _ _ y38 hcall40) ?_
    rintro _ w ⟨rfl, hp0⟩
    clear hp; have hp := hp0; clear hp0
    replace hp : Hp _ _ _ (Res.sl (Ek.pair (Ek.wp bs) (Ek.wp bs)) tbt0 vt0 t0 :: ow) := hp
    refine ⟨_, rfl, ?_⟩
    clear hf; intro a hf
    obtain rfl := Option.some.inj hz33
    refine st_pick (v := .bool q39) hf rfl rfl (fun hb' => ?_) (fun hb' => ?_) (by decide) ?_
    · exact absurd (hb34.symm.trans hb') (by decide)
    · rfl
    clear hf; intro a ha hf; clear ha
    refine st_nil hf (th_n ?_)
    exact ⟨hf.sub ⟨rfl, rfl, rfl, trivial⟩, hp⟩
  rintro a w ⟨hf, hp⟩
  refine st_assign hf rfl rfl (by decide) ?_
  clear hf; intro a ha hf; clear ha
  refine st_nil hf ?_
  refine th_n ?_
  refine wp_if hf rfl (fun hb => ?_) (fun hb => ?_)
  · replace h := ifT h hb
    refine wp_reg ?_
    refine st_move hf rfl rfl (by decide) ?_
    clear hf; intro a ha hf; clear ha
    refine st_move hf rfl rfl (by decide) ?_
    clear hf; intro a ha hf; clear ha
    refine st_nilE hf (by decide) rfl rfl (Sl.ptr (hp.sl (i := 0) rfl) kt0.1 kt0.2) ?_
    clear hf; intro a ha hf; clear ha
    have hc41 : 0 ≤ (1 : Int) ∧ (1 : Int) < (2 : Int) := by decide
    refine st_iaP (sz := 1) hf (by decide) Try.underlying88 (by kernel_rfl) rfl rfl rfl (Sl.isP (hp.sl (i := 0) rfl) kt0.1 kt0.2) hc41.1 hc41.2 ?_
    clear hf; intro a ha hf; clear ha
    refine st_stQ (E := (Ek.pair (Ek.wp bs) (Ek.wp bs))) (F := (Ek.wp bs)) (o := ((1 : Int)).toNat * 1) (Sub.snd (E := (Ek.wp bs)) (F := (Ek.wp bs))) hf (by kernel_rfl) hp (i := 0) rfl rfl rfl rfl (wp_cells hwx1) kt0.1 kt0.2 ?_
    clear hf; intro a w hf hp0; clear hp; have hp := hp0; clear hp0
    replace hp : Hp _ _ _ (Res.sl (Ek.pair (Ek.wp bs) (Ek.wp bs)) tbt0 vt0 (t0.set (it0).toNat ((gt t0 it0).1, wx1)) :: ow) := hp
    refine st_nil hf ?_
    refine ib_n ?_
    obtain rfl := Option.some.inj h
    exact ⟨(.inr rfl), ⟨hf.sub trivial, hp⟩⟩
  replace h := ifF h hb
  refine wp_skip ?_
  refine ib_n ?_
  obtain rfl := Option.some.inj h
  exact ⟨(.inr rfl), ⟨hf.sub trivial, hp⟩⟩

noncomputable def f_soft_ranked.j2 (row0 : (List ((Option Nat) × (Option Nat)))) (seats4 : (List ((Option Nat) × (Option Nat)))) (t19 : Int) (t27 : Int) (at8 : Int) (k9 : Int) : Option (((List ((Option Nat) × (Option Nat))) × Int) ⊕ (List ((Option Nat) × (Option Nat)))) := (if 0 ≤ at8 ∧ at8 < (seats4.length : Int) then (if 0 ≤ k9 ∧ k9 < 2 then (some (Sum.inl ((seats4.set (at8).toNat (pput (gt seats4 at8) k9 (gt [(gt row0 t19).1, (gt row0 t19).2] t27))), (IntKind.i64.wrap (t27 + (1 : Int)))))) else none) else none)
noncomputable def f_soft_ranked.j1 (nd0 : (List WayC)) (row0 : (List ((Option Nat) × (Option Nat)))) (seats4 : (List ((Option Nat) × (Option Nat)))) (t19 : Int) (t27 : Int) (at8 : Int) : Option (((List ((Option Nat) × (Option Nat))) × Int) ⊕ (List ((Option Nat) × (Option Nat)))) := (((gt [(gt row0 t19).1, (gt row0 t19).2] t27)).bind fun n24 => (if ((nth nd0 n24).1) = true then (f_soft_ranked.j2 row0 seats4 t19 t27 at8 (1 : Int)) else (f_soft_ranked.j2 row0 seats4 t19 t27 at8 (0 : Int))))
noncomputable def f_soft_ranked.s2c (nd0 : (List WayC)) (row0 : (List ((Option Nat) × (Option Nat)))) (t19 : Int) (seats4 : (List ((Option Nat) × (Option Nat)))) (t27 : Int) : Option (((List ((Option Nat) × (Option Nat))) × Int) ⊕ (List ((Option Nat) × (Option Nat)))) := (if (decide (t27 < (2 : Int))) = true then (if 0 ≤ t27 ∧ t27 < 2 then (if ((gt [(gt row0 t19).1, (gt row0 t19).2] t27).isNone) = true then (some (Sum.inl (seats4, (IntKind.i64.wrap (t27 + (1 : Int)))))) else (((gt [(gt row0 t19).1, (gt row0 t19).2] t27)).bind fun n31 => (if (!((nth nd0 n31).2.1).isNone) = true then (((gt [(gt row0 t19).1, (gt row0 t19).2] t27)).bind fun n38 => (((nth nd0 n38).2.1).bind fun n45 => (f_soft_ranked.j1 nd0 row0 seats4 t19 t27 ((nth nd0 n45).2.2.2)))) else (f_soft_ranked.j1 nd0 row0 seats4 t19 t27 (0 : Int))))) else none) else (some (Sum.inr seats4)))
noncomputable def f_soft_ranked.s2 (nd0 : (List WayC)) (row0 : (List ((Option Nat) × (Option Nat)))) (t19 : Int) (s : ((List ((Option Nat) × (Option Nat))) × Int)) : Option (((List ((Option Nat) × (Option Nat))) × Int) ⊕ (List ((Option Nat) × (Option Nat)))) := f_soft_ranked.s2c nd0 row0 t19 s.1 s.2
noncomputable def f_soft_ranked.s1c (nd0 : (List WayC)) (row0 : (List ((Option Nat) × (Option Nat)))) (n1 : Int) (seats4 : (List ((Option Nat) × (Option Nat)))) (t19 : Int) : Option (((List ((Option Nat) × (Option Nat))) × Int) ⊕ (List ((Option Nat) × (Option Nat)))) := (if (decide (t19 < n1)) = true then (if 0 ≤ t19 ∧ t19 < (64 : Int) then ((loop (f_soft_ranked.s2 nd0 row0 t19) (seats4, (0 : Int))).bind (fun q52 => (some (Sum.inl (q52, (IntKind.i64.wrap (t19 + (1 : Int)))))))) else none) else (some (Sum.inr seats4)))
noncomputable def f_soft_ranked.s1 (nd0 : (List WayC)) (row0 : (List ((Option Nat) × (Option Nat)))) (n1 : Int) (s : ((List ((Option Nat) × (Option Nat))) × Int)) : Option (((List ((Option Nat) × (Option Nat))) × Int) ⊕ (List ((Option Nat) × (Option Nat)))) := f_soft_ranked.s1c nd0 row0 n1 s.1 s.2
noncomputable def f_soft_ranked.s4c (q53 : (List ((Option Nat) × (Option Nat)))) (t58 : Int) (nd : (List WayC)) (rank10 : Int) (t63 : Int) : Option (((List WayC) × Int × Int) ⊕ ((List WayC) × Int)) := (if (decide (t63 < (2 : Int))) = true then (if 0 ≤ t63 ∧ t63 < 2 then (if (!(gt [(gt q53 t58).1, (gt q53 t58).2] t63).isNone) = true then (((gt [(gt q53 t58).1, (gt q53 t58).2] t63)).bind fun n68 => (some (Sum.inl ((setR nd n68 rank10), (IntKind.i64.wrap (rank10 + (1 : Int))), (IntKind.i64.wrap (t63 + (1 : Int))))))) else (some (Sum.inl (nd, rank10, (IntKind.i64.wrap (t63 + (1 : Int))))))) else none) else (some (Sum.inr (nd, rank10))))
noncomputable def f_soft_ranked.s4 (q53 : (List ((Option Nat) × (Option Nat)))) (t58 : Int) (s : ((List WayC) × Int × Int)) : Option (((List WayC) × Int × Int) ⊕ ((List WayC) × Int)) := f_soft_ranked.s4c q53 t58 s.1 s.2.1 s.2.2
noncomputable def f_soft_ranked.s3c (q53 : (List ((Option Nat) × (Option Nat)))) (nd : (List WayC)) (rank10 : Int) (t58 : Int) : Option (((List WayC) × Int × Int) ⊕ (List WayC)) := (if (decide (t58 < (q53.length : Int))) = true then (if 0 ≤ t58 ∧ t58 < (q53.length : Int) then ((loop (f_soft_ranked.s4 q53 t58) (nd, rank10, (0 : Int))).bind (fun q70 => (some (Sum.inl (q70.1, q70.2, (IntKind.i64.wrap (t58 + (1 : Int)))))))) else none) else (some (Sum.inr nd)))
noncomputable def f_soft_ranked.s3 (q53 : (List ((Option Nat) × (Option Nat)))) (s : ((List WayC) × Int × Int)) : Option (((List WayC) × Int × Int) ⊕ (List WayC)) := f_soft_ranked.s3c q53 s.1 s.2.1 s.2.2
noncomputable def f_soft_ranked (nd0 : (List WayC)) (row0 : (List ((Option Nat) × (Option Nat)))) (n1 : Int) : Option (List WayC) := (if 0 ≤ (IntKind.i64.wrap ((2 : Int) * n1)) ∧ (IntKind.i64.wrap ((2 : Int) * n1)) ≤ (IntKind.i64.wrap ((2 : Int) * n1)) ∧ (IntKind.i64.wrap ((2 : Int) * n1)) * 16 ≤ 281474976710656 then ((loop (f_soft_ranked.s1 nd0 row0 n1) ((List.replicate ((IntKind.i64.wrap ((2 : Int) * n1))).toNat ((none : Option Nat), (none : Option Nat))), (0 : Int))).bind (fun q53 => ((loop (f_soft_ranked.s3 q53) (nd0, (0 : Int), (0 : Int))).bind (fun q71 => (some q71))))) else none)
theorem f_soft_ranked_c {S : Nat → Prop} {w0 w : World} {ow : List Res} (bs : List Nat) (nd0 : List WayC) (vrow0 : Value) (row0 : List ((Option Nat) × (Option Nat))) (hrow0 : RdS (Ek.pair (Ek.wp bs) (Ek.wp bs)) S w0 (aslv vrow0 64) row0) (n1 : Int) (hp : Hp S w0 w (Res.ar 92 bs nd0 :: ow)) {r : (List WayC)} (h : f_soft_ranked nd0 row0 n1 = some r) :
   Calls Try.prog 64 #[vrow0, .int .i64 n1] w (fun e w' => e = .returned (.tuple #[]) ∧ Hp S w0 w' (Res.ar 92 bs r :: ow)) := by
  unfold f_soft_ranked at h
  refine enter (n := 76) (args := [vrow0, .int .i64 n1]) Try.func64 rfl rfl (Nat.le_of_ble_eq_true rfl) fun a hf => ?_
  replace hf : Fr 76 a [(0, vrow0), (1, .int .i64 n1)] := hf
  refine wp_mono (Q := fun e a w => (e = .ret ∨ e = .normal) ∧ Fr 76 a [] ∧ Hp S w0 w (Res.ar 92 bs r :: ow)) ?_ ?_
  rotate_left
  ·
   rintro e a w ⟨rfl | rfl, hf, hp⟩
   · exact ret0 hf rfl ⟨rfl, hp⟩
   · exact ret0n hf rfl ⟨rfl, hp⟩
  refine wp_seq ?_
  refine wp_reg ?_
  refine st_move hf rfl rfl (by decide) ?_
  clear hf; intro a ha hf; clear ha
  refine st_imul hf (by decide) rfl rfl rfl ?_
  clear hf; intro a ha hf; clear ha
  obtain ⟨hc2, h⟩ := chk h
  refine st_make (E := (Ek.pair (Ek.wp bs) (Ek.wp bs))) hf (by decide) (elt87 bs) Try.underlying122 (by decide) hp rfl rfl rfl hc2.1 hc2.2.1 hc2.2.2 ?_
  clear hf; intro a w v3 hf hp0; clear hp; have hp := hp0; clear hp0
  replace hp : Hp _ _ _ (Res.sl (Ek.pair (Ek.wp bs) (Ek.wp bs)) 87 v3 (List.replicate ((IntKind.i64.wrap ((2 : Int) * n1))).toNat ((none : Option Nat), (none : Option Nat))) :: Res.ar 92 bs nd0 :: ow) := hp
  refine st_assign hf rfl rfl (by decide) ?_
  clear hf; intro a ha hf; clear ha
  refine st_nil hf ?_
  refine th_n ?_
  refine wp_seq ?_
  refine wp_seq ?_
  refine wp_reg ?_
  refine st_move hf rfl rfl (by decide) ?_
  clear hf; intro a ha hf; clear ha
  refine st_move hf rfl rfl (by decide) ?_
  clear hf; intro a ha hf; clear ha
  refine st_nil hf ?_
  refine th_n ?_
  refine wp_block ?_
  obtain ⟨q53, hl, h⟩ := bnd h
  refine wp_loop_pure (f := (f_soft_ranked.s1 nd0 row0 n1)) (s := ((List.replicate ((IntKind.i64.wrap ((2 : Int) * n1))).toNat ((none : Option Nat), (none : Option Nat))), (0 : Int))) (fun s a w => ∃ (v5 : Value), Fr 76 a [(0, vrow0), (4, v5), (18, .int .i64 n1), (19, .int .i64 s.2)] ∧ Hp S w0 w (Res.sl (Ek.pair (Ek.wp bs) (Ek.wp bs)) 87 v5 s.1 :: Res.ar 92 bs nd0 :: ow)) (fun q e a w => e = .exit 0 ∧ ∃ (v7 : Value), Fr 76 a [(4, v7)] ∧ Hp S w0 w (Res.sl (Ek.pair (Ek.wp bs) (Ek.wp bs)) 87 v7 q :: Res.ar 92 bs nd0 :: ow)) ?_ hl ⟨_, hf.sub ⟨rfl, rfl, rfl, rfl, trivial⟩, hp⟩ ?_
  ·
   clear hl hf hp
   intro s x a w h hI
   obtain ⟨seats4, t19⟩ := s
   obtain ⟨v5, hf, hp⟩ : ∃ (v5 : Value), Fr 76 a [(0, vrow0), (4, v5), (18, .int .i64 n1), (19, .int .i64 t19)] ∧ Hp S w0 w (Res.sl (Ek.pair (Ek.wp bs) (Ek.wp bs)) 87 v5 seats4 :: Res.ar 92 bs nd0 :: ow) := hI
   replace h : f_soft_ranked.s1c nd0 row0 n1 seats4 t19 = some x := h
   unfold f_soft_ranked.s1c at h
   refine wp_seq ?_
   refine wp_reg ?_
   refine st_ilss hf (by decide) rfl rfl rfl ?_
   clear hf; intro a ha hf; clear ha
   refine st_nil hf ?_
   refine th_n ?_
   refine wp_seq ?_
   refine wp_if hf rfl (fun hb => ?_) (fun hb => ?_)
   ·
    replace h := ifT h hb
    refine wp_skip ?_
    refine th_n ?_
    refine wp_seq ?_
    refine wp_block ?_
    refine wp_seq ?_
    refine wp_reg ?_
    refine st_move hf rfl rfl (by decide) ?_
    clear hf; intro a ha hf; clear ha
    refine st_assign hf rfl rfl (by decide) ?_
    clear hf; intro a ha hf; clear ha
    refine st_nil hf ?_
    refine th_n ?_
    refine wp_seq ?_
    refine wp_reg ?_
    refine st_move hf rfl rfl (by decide) ?_
    clear hf; intro a ha hf; clear ha
    refine st_move hf rfl rfl (by decide) ?_
    clear hf; intro a ha hf; clear ha
    refine st_nilA (E := (Ek.pair (Ek.wp bs) (Ek.wp bs))) (N := 64) hf (by decide) rfl rfl (hrow0.sl hp) ?_
    clear hf; intro a ha hf; clear ha
    obtain ⟨hc9, h⟩ := chk h
    refine st_iaA (E := (Ek.pair (Ek.wp bs) (Ek.wp bs))) (N := 64) hf (by decide) Try.underlying89 (by kernel_rfl) rfl rfl rfl (hrow0.sl hp) rfl hc9.1 hc9.2 ?_
    clear hf; intro a ha hf; clear ha
    have hc10 := aslv_ix hrow0 hc9
    refine st_ldQA (F := (Ek.pair (Ek.wp bs) (Ek.wp bs))) (yv := (gt row0 t19)) (m := 2) hf (by decide) (by kernel_rfl) rfl rfl rfl (Part.whole (hrow0.sl hp) hc10.1 hc10.2) ?_
    clear hf; intro a cs11 hr12 ha hf; clear ha
    obtain ⟨_, _, rfl, ⟨v13, rfl, y14⟩, ⟨v15, rfl, y16⟩⟩ := hr12
    replace hf : Fr _ _ ((26, .agg #[v13, v15]) :: _) := hf
    refine st_move hf rfl rfl (by decide) ?_
    clear hf; intro a ha hf; clear ha
    refine st_nil hf ?_
    refine th_n ?_
    refine wp_block ?_
    obtain ⟨q52, hl, h⟩ := bnd h
    refine wp_loop_pure (f := (f_soft_ranked.s2 nd0 row0 t19)) (s := (seats4, (0 : Int))) (fun s a w => ∃ (v17 : Value), Fr 76 a [(0, vrow0), (4, v17), (18, .int .i64 n1), (19, .int .i64 t19), (26, .agg #[v13, v15]), (27, .int .i64 s.2)] ∧ Hp S w0 w (Res.sl (Ek.pair (Ek.wp bs) (Ek.wp bs)) 87 v17 s.1 :: Res.ar 92 bs nd0 :: ow)) (fun q e a w => e = .exit 2 ∧ ∃ (v19 : Value), Fr 76 a [(0, vrow0), (4, v19), (18, .int .i64 n1), (19, .int .i64 t19)] ∧ Hp S w0 w (Res.sl (Ek.pair (Ek.wp bs) (Ek.wp bs)) 87 v19 q :: Res.ar 92 bs nd0 :: ow)) ?_ hl ⟨_, hf.sub ⟨rfl, rfl, rfl, rfl, rfl, rfl, trivial⟩, hp⟩ ?_
    ·
     clear hl hf hp
     intro s x a w h hI
     obtain ⟨seats4, t27⟩ := s
     obtain ⟨v17, hf, hp⟩ : ∃ (v17 : Value), Fr 76 a [(0, vrow0), (4, v17), (18, .int .i64 n1), (19, .int .i64 t19), (26, .agg #[v13, v15]), (27, .int .i64 t27)] ∧ Hp S w0 w (Res.sl (Ek.pair (Ek.wp bs) (Ek.wp bs)) 87 v17 seats4 :: Res.ar 92 bs nd0 :: ow) := hI
     replace h : f_soft_ranked.s2c nd0 row0 t19 seats4 t27 = some x := h
     unfold f_soft_ranked.s2c at h
     refine wp_seq ?_
     refine wp_reg ?_
     refine st_ilss hf (by decide) rfl rfl rfl ?_
     clear hf; intro a ha hf; clear ha
     refine st_nil hf ?_
     refine th_n ?_
     refine wp_seq ?_
     refine wp_if hf rfl (fun hb => ?_) (fun hb => ?_)
     ·
      replace h := ifT h hb
      refine wp_skip ?_
      refine th_n ?_
      refine wp_seq ?_
      refine wp_block ?_
      refine wp_seq ?_
      refine wp_reg ?_
      obtain ⟨hc21, h⟩ := chk h
      refine st_idx2 hf (by decide) Try.underlying88 pl86 (by kernel_rfl) rfl rfl rfl hc21 ?_
      clear hf; intro a ha hf; clear ha
      refine st_assign hf rfl rfl (by decide) ?_
      clear hf; intro a ha hf; clear ha
      refine st_nil hf ?_
      refine th_n ?_
      refine wp_seq ?_
      refine wp_seq ?_
      refine wp_reg ?_
      refine st_move hf rfl rfl (by decide) ?_
      clear hf; intro a ha hf; clear ha
      refine st_wnilE hf (by decide) Try.underlying86 rfl rfl rfl (WP.sel y14 y16 hc21) ?_
      clear hf; intro a ha hf; clear ha
      refine st_nil hf ?_
      refine th_n ?_
      refine wp_if hf rfl (fun hb => ?_) (fun hb => ?_)
      ·
       replace h := ifT h hb
       refine wp_exit ?_
       refine th_e ?_
       refine ib_same ?_
       refine th_n ?_
       refine wp_reg ?_
       refine st_iadd hf (by decide) rfl rfl rfl ?_
       clear hf; intro a ha hf; clear ha
       refine st_move hf rfl rfl (by decide) ?_
       clear hf; intro a ha hf; clear ha
       refine st_nil hf ?_
       obtain rfl := Option.some.inj h
       exact rnd_l ⟨_, hf.sub ⟨rfl, rfl, rfl, rfl, rfl, rfl, trivial⟩, hp⟩
      replace h := ifF h hb
      refine wp_skip ?_
      refine th_n ?_
      refine wp_seq ?_
      refine wp_reg ?_
      refine st_assign hf rfl rfl (by decide) ?_
      clear hf; intro a ha hf; clear ha
      refine st_nil hf ?_
      refine th_n ?_
      refine wp_seq_cut (fun a w => ∃ (at8 : Int), f_soft_ranked.j1 nd0 row0 seats4 t19 t27 at8 = some x ∧ Fr 76 a [(0, vrow0), (4, v17), (7, (gtv [v13, v15] t27)), (8, .int .i64 at8), (18, .int .i64 n1), (19, .int .i64 t19), (26, .agg #[v13, v15]), (27, .int .i64 t27)] ∧ Hp S w0 w (Res.ar 92 bs nd0 :: Res.sl (Ek.pair (Ek.wp bs) (Ek.wp bs)) 87 v17 seats4 :: ow)) ?_ ?_
      ·
       refine wp_seq ?_
       refine wp_reg ?_
       refine st_move hf rfl rfl (by decide) ?_
       clear hf; intro a ha hf; clear ha
       obtain ⟨n31, hx32, h⟩ := bnd h
       refine st_nilE hf (by decide) rfl rfl (WP.ptr (WP.sel y14 y16 hc21) hx32) ?_
       clear hf; intro a ha hf; clear ha
       refine st_faP (off := 1) (sz := 1) hf (by decide) (by kernel_rfl) (by decide) rfl rfl (WP.isP (WP.sel y14 y16 hc21) hx32) ?_
       clear hf; intro a ha hf; clear ha
       obtain ⟨v33, bb34, y35, y36, ho37⟩ := RdA.at (hp.ara (i := 1) rfl) (WP.sel y14 y16 hc21) hx32
       refine st_ldO (u := v33) hf (by decide) pl86 rfl rfl ho37 rfl ?_
       clear hf; intro a ha hf; clear ha
       refine st_wnilN hf (by decide) Try.underlying86 rfl rfl rfl y35 ?_
       clear hf; intro a ha hf; clear ha
       refine st_nil hf ?_
       refine th_n ?_
       refine wp_if hf rfl (fun hb => ?_) (fun hb => ?_)
       ·
        replace h := ifT h hb
        refine wp_reg ?_
        refine st_move hf rfl rfl (by decide) ?_
        clear hf; intro a ha hf; clear ha
        obtain ⟨n38, hx39, h⟩ := bnd h
        refine st_nilE hf (by decide) rfl rfl (WP.ptr (WP.sel y14 y16 hc21) hx39) ?_
        clear hf; intro a ha hf; clear ha
        refine st_faP (off := 1) (sz := 1) hf (by decide) (by kernel_rfl) (by decide) rfl rfl (WP.isP (WP.sel y14 y16 hc21) hx39) ?_
        clear hf; intro a ha hf; clear ha
        obtain ⟨v40, bb41, y42, y43, ho44⟩ := RdA.at (hp.ara (i := 1) rfl) (WP.sel y14 y16 hc21) hx39
        refine st_ldO (u := v40) hf (by decide) pl86 rfl rfl ho44 rfl ?_
        clear hf; intro a ha hf; clear ha
        obtain ⟨n45, hx46, h⟩ := bnd h
        refine st_nilE hf (by decide) rfl rfl (WP.ptr y42 hx46) ?_
        clear hf; intro a ha hf; clear ha
        refine st_faP (off := 3) (sz := 1) hf (by decide) (by kernel_rfl) (by decide) rfl rfl (WP.isP y42 hx46) ?_
        clear hf; intro a ha hf; clear ha
        obtain ⟨v47, bb48, y49, y50, ho51⟩ := RdA.at (hp.ara (i := 1) rfl) y42 hx46
        refine st_ldO (u := .int .i64 ((nth nd0 n45).2.2.2)) hf (by decide) pl3 rfl rfl ho51 rfl ?_
        clear hf; intro a ha hf; clear ha
        refine st_assign hf rfl rfl (by decide) ?_
        clear hf; intro a ha hf; clear ha
        refine st_nil hf ?_
        have hp : Hp _ _ _ (_ :: Res.sl (Ek.pair (Ek.wp bs) (Ek.wp bs)) 87 v17 seats4 :: ow) := Hp.sel (pre := [Res.sl (Ek.pair (Ek.wp bs) (Ek.wp bs)) 87 v17 seats4, Res.ar 92 bs nd0]) (tail := ow) (rs' := [Res.ar 92 bs nd0, Res.sl (Ek.pair (Ek.wp bs) (Ek.wp bs)) 87 v17 seats4]) hp [1, 0] (by decide) (by simp) rfl
        refine th_n ?_
        exact ⟨_, h, hf.sub ⟨rfl, rfl, rfl, rfl, rfl, rfl, rfl, rfl, trivial⟩, hp⟩
       replace h := ifF h hb
       refine wp_skip ?_
       have hp : Hp _ _ _ (_ :: _ :: ow) := Hp.sel (pre := [Res.sl (Ek.pair (Ek.wp bs) (Ek.wp bs)) 87 v17 seats4, Res.ar 92 bs nd0]) (tail := ow) (rs' := [Res.ar 92 bs nd0, Res.sl (Ek.pair (Ek.wp bs) (Ek.wp bs)) 87 v17 seats4]) hp [1, 0] (by decide) (by simp) rfl
       refine th_n ?_
       exact ⟨_, h, hf.sub ⟨rfl, rfl, rfl, rfl, rfl, rfl, rfl, rfl, trivial⟩, hp⟩
      rintro a w ⟨at8, h, hf, hp⟩
      unfold f_soft_ranked.j1 at h
      refine wp_seq ?_
      refine wp_reg ?_
      refine st_assign hf rfl rfl (by decide) ?_
      clear hf; intro a ha hf; clear ha
      refine st_nil hf ?_
      refine th_n ?_
      refine wp_seq_cut (fun a w => ∃ (k9 : Int), f_soft_ranked.j2 row0 seats4 t19 t27 at8 k9 = some x ∧ Fr 76 a [(0, vrow0), (4, v17), (7, (gtv [v13, v15] t27)), (8, .int .i64 at8), (9, .int .i64 k9), (18, .int .i64 n1), (19, .int .i64 t19), (26, .agg #[v13, v15]), (27, .int .i64 t27)] ∧ Hp S w0 w (Res.ar 92 bs nd0 :: Res.sl (Ek.pair (Ek.wp bs) (Ek.wp bs)) 87 v17 seats4 :: ow)) ?_ ?_
      ·
       refine wp_seq ?_
       refine wp_reg ?_
       refine st_move hf rfl rfl (by decide) ?_
       clear hf; intro a ha hf; clear ha
       obtain ⟨n24, hx25, h⟩ := bnd h
       refine st_nilE hf (by decide) rfl rfl (WP.ptr (WP.sel y14 y16 hc21) hx25) ?_
       clear hf; intro a ha hf; clear ha
       refine st_faP (off := 0) (sz := 1) hf (by decide) (by kernel_rfl) (by decide) rfl rfl (WP.isP (WP.sel y14 y16 hc21) hx25) ?_
       clear hf; intro a ha hf; clear ha
       obtain ⟨v26, bb27, y28, y29, ho30⟩ := RdA.at (hp.ara (i := 0) rfl) (WP.sel y14 y16 hc21) hx25
       refine st_ldO (u := .bool ((nth nd0 n24).1)) hf (by decide) pl4 rfl rfl ho30 rfl ?_
       clear hf; intro a ha hf; clear ha
       refine st_nil hf ?_
       refine th_n ?_
       refine wp_if hf rfl (fun hb => ?_) (fun hb => ?_)
       ·
        replace h := ifT h hb
        refine wp_reg ?_
        refine st_assign hf rfl rfl (by decide) ?_
        clear hf; intro a ha hf; clear ha
        refine st_nil hf ?_
        refine th_n ?_
        exact ⟨_, h, hf.sub ⟨rfl, rfl, rfl, rfl, rfl, rfl, rfl, rfl, rfl, trivial⟩, hp⟩
       replace h := ifF h hb
       refine wp_skip ?_
       refine th_n ?_
       exact ⟨_, h, hf.sub ⟨rfl, rfl, rfl, rfl, rfl, rfl, rfl, rfl, rfl, trivial⟩, hp⟩
      rintro a w ⟨k9, h, hf, hp⟩
      unfold f_soft_ranked.j2 at h
      refine wp_reg ?_
      refine st_move hf rfl rfl (by decide) ?_
      clear hf; intro a ha hf; clear ha
      refine st_move hf rfl rfl (by decide) ?_
      clear hf; intro a ha hf; clear ha
      refine st_move hf rfl rfl (by decide) ?_
      clear hf; intro a ha hf; clear ha
      refine st_move hf rfl rfl (by decide) ?_
      clear hf; intro a ha hf; clear ha
      obtain ⟨hc22, h⟩ := chk h
      refine st_index (E := (Ek.pair (Ek.wp bs) (Ek.wp bs))) hf (by decide) Try.underlying122 (elt87 bs) rfl rfl rfl (hp.sl (i := 1) rfl) hc22.1 hc22.2 ?_
      clear hf; intro a ha hf; clear ha
      obtain ⟨hc23, h⟩ := chk h
      refine st_iaP (sz := 1) hf (by decide) Try.underlying87 (by kernel_rfl) rfl rfl rfl (Sl.isP (hp.sl (i := 1) rfl) hc22.1 hc22.2) hc23.1 hc23.2 ?_
      clear hf; intro a ha hf; clear ha
      refine st_stQ (E := (Ek.pair (Ek.wp bs) (Ek.wp bs))) (F := (Ek.wp bs)) (o := (k9).toNat * 1) (Sub.two (F := (Ek.wp bs)) hc23) hf (by kernel_rfl) hp (i := 1) rfl rfl rfl rfl (wp_cells (WP.sel y14 y16 hc21)) hc22.1 hc22.2 ?_
      clear hf; intro a w hf hp0; clear hp; have hp := hp0; clear hp0
      replace hp : Hp _ _ _ (_ :: Res.sl (Ek.pair (Ek.wp bs) (Ek.wp bs)) 87 v17 (seats4.set (at8).toNat (pput (gt seats4 at8) k9 (gt [(gt row0 t19).1, (gt row0 t19).2] t27))) :: ow) := hp
      refine st_nil hf ?_
      refine ib_n ?_
      refine th_n ?_
      refine wp_reg ?_
      refine st_iadd hf (by decide) rfl rfl rfl ?_
      clear hf; intro a ha hf; clear ha
      refine st_move hf rfl rfl (by decide) ?_
      clear hf; intro a ha hf; clear ha
      refine st_nil hf ?_
      obtain rfl := Option.some.inj h
      have hp : Hp _ _ _ (_ :: _ :: ow) := Hp.sel (pre := [Res.ar 92 bs nd0, Res.sl (Ek.pair (Ek.wp bs) (Ek.wp bs)) 87 v17 (seats4.set (at8).toNat (pput (gt seats4 at8) k9 (gt [(gt row0 t19).1, (gt row0 t19).2] t27)))]) (tail := ow) (rs' := [Res.sl (Ek.pair (Ek.wp bs) (Ek.wp bs)) 87 v17 (seats4.set (at8).toNat (pput (gt seats4 at8) k9 (gt [(gt row0 t19).1, (gt row0 t19).2] t27))), Res.ar 92 bs nd0]) hp [1, 0] (by decide) (by simp) rfl
      exact rnd_l ⟨_, hf.sub ⟨rfl, rfl, rfl, rfl, rfl, rfl, trivial⟩, hp⟩
     replace h := ifF h hb
     refine wp_exit ?_
     refine th_e ?_
     obtain rfl := Option.some.inj h
     exact rnd_r (by simp) ⟨rfl, _, hf.sub ⟨rfl, rfl, rfl, rfl, trivial⟩, hp⟩
    clear hl hf hp
    intro e a w hne hO
    obtain ⟨rfl, v19, hf, hp⟩ := hO
    refine ib_same ?_
    refine ib_n ?_
    refine th_n ?_
    refine wp_reg ?_
    refine st_iadd hf (by decide) rfl rfl rfl ?_
    clear hf; intro a ha hf; clear ha
    refine st_move hf rfl rfl (by decide) ?_
    clear hf; intro a ha hf; clear ha
    refine st_nil hf ?_
    obtain rfl := Option.some.inj h
    exact rnd_l ⟨_, hf.sub ⟨rfl, rfl, rfl, rfl, trivial⟩, hp⟩
   replace h := ifF h hb
   refine wp_exit ?_
   refine th_e ?_
   obtain rfl := Option.some.inj h
   exact rnd_r (by simp) ⟨rfl, _, hf.sub ⟨rfl, trivial⟩, hp⟩
  clear hl hf hp
  intro e a w hne hO
  obtain ⟨rfl, v7, hf, hp⟩ := hO
  refine ib_same ?_
  refine th_n ?_
  refine wp_seq ?_
  refine wp_reg ?_
  refine st_assign hf rfl rfl (by decide) ?_
  clear hf; intro a ha hf; clear ha
  refine st_nil hf ?_
  refine th_n ?_
  refine wp_seq ?_
  refine wp_reg ?_
  refine st_move hf rfl rfl (by decide) ?_
  clear hf; intro a ha hf; clear ha
  refine st_len (E := (Ek.pair (Ek.wp bs) (Ek.wp bs))) hf (by decide) Try.underlying122 rfl rfl (hp.sl (i := 0) rfl) ?_
  clear hf; intro a ha hf; clear ha
  refine st_move hf rfl rfl (by decide) ?_
  clear hf; intro a ha hf; clear ha
  refine st_nil hf ?_
  refine th_n ?_
  refine wp_block ?_
  obtain ⟨q71, hl, h⟩ := bnd h
  have hp : Hp _ _ _ (_ :: Res.sl (Ek.pair (Ek.wp bs) (Ek.wp bs)) 87 v7 q53 :: ow) := Hp.sel (pre := [Res.sl (Ek.pair (Ek.wp bs) (Ek.wp bs)) 87 v7 q53, Res.ar 92 bs nd0]) (tail := ow) (rs' := [Res.ar 92 bs nd0, Res.sl (Ek.pair (Ek.wp bs) (Ek.wp bs)) 87 v7 q53]) hp [1, 0] (by decide) (by simp) rfl
  refine wp_loop_pure (f := (f_soft_ranked.s3 q53)) (s := (nd0, (0 : Int), (0 : Int))) (fun s a w => Fr 76 a [(10, .int .i64 s.2.1), (56, v7), (57, .int .i64 (q53.length : Int)), (58, .int .i64 s.2.2)] ∧ Hp S w0 w (Res.ar 92 bs s.1 :: Res.sl (Ek.pair (Ek.wp bs) (Ek.wp bs)) 87 v7 q53 :: ow)) (fun q e a w => e = .exit 4 ∧ Fr 76 a [] ∧ Hp S w0 w (Res.ar 92 bs q :: ow)) ?_ hl ⟨hf.sub ⟨rfl, rfl, rfl, rfl, trivial⟩, hp⟩ ?_
  ·
   clear hl hf hp
   intro s x a w h hI
   obtain ⟨nd, rank10, t58⟩ := s
   obtain ⟨hf, hp⟩ : Fr 76 a [(10, .int .i64 rank10), (56, v7), (57, .int .i64 (q53.length : Int)), (58, .int .i64 t58)] ∧ Hp S w0 w (Res.ar 92 bs nd :: Res.sl (Ek.pair (Ek.wp bs) (Ek.wp bs)) 87 v7 q53 :: ow) := hI
   replace h : f_soft_ranked.s3c q53 nd rank10 t58 = some x := h
   unfold f_soft_ranked.s3c at h
   refine wp_seq ?_
   refine wp_reg ?_
   refine st_ilss hf (by decide) rfl rfl rfl ?_
   clear hf; intro a ha hf; clear ha
   refine st_nil hf ?_
   refine th_n ?_
   refine wp_seq ?_
   refine wp_if hf rfl (fun hb => ?_) (fun hb => ?_)
   ·
    replace h := ifT h hb
    refine wp_skip ?_
    refine th_n ?_
    refine wp_seq ?_
    refine wp_block ?_
    refine wp_seq ?_
    refine wp_reg ?_
    obtain ⟨hc56, h⟩ := chk h
    refine st_index (E := (Ek.pair (Ek.wp bs) (Ek.wp bs))) hf (by decide) Try.underlying122 (elt87 bs) rfl rfl rfl (hp.sl (i := 1) rfl) hc56.1 hc56.2 ?_
    clear hf; intro a ha hf; clear ha
    refine st_ldQA (F := (Ek.pair (Ek.wp bs) (Ek.wp bs))) (yv := (gt q53 t58)) (m := 2) hf (by decide) (by kernel_rfl) rfl rfl rfl (Part.whole (hp.sl (i := 1) rfl) hc56.1 hc56.2) ?_
    clear hf; intro a cs57 hr58 ha hf; clear ha
    obtain ⟨_, _, rfl, ⟨v59, rfl, y60⟩, ⟨v61, rfl, y62⟩⟩ := hr58
    replace hf : Fr _ _ ((61, .agg #[v59, v61]) :: _) := hf
    refine st_alloc (cs := [.pointer none, .pointer none]) (zv := .agg #[.pointer none, .pointer none]) hf (by decide) (by kernel_rfl) rfl hp rfl ?_
    clear hf; intro a w v63 hf hp0; clear hp; have hp := hp0; clear hp0
    replace hp : Hp _ _ _ (Res.obj 87 v63 [.pointer none, .pointer none] :: Res.ar 92 bs nd :: _ :: ow) := hp
    refine st_stO (us := [v59, v61]) hf hp (i := 0) rfl rfl rfl rfl rfl (wp_ones y60 y62) (by kernel_rfl) (Nat.le_of_ble_eq_true rfl) ?_
    clear hf; intro a w hf hp0; clear hp; have hp := hp0; clear hp0
    replace hp : Hp _ _ _ (Res.obj 87 v63 [v59, v61] :: _ :: _ :: ow) := hp
    refine st_nil hf ?_
    refine th_n ?_
    refine wp_seq ?_
    refine wp_reg ?_
    refine st_ldOA (m := 2) (us := [v59, v61]) hf (by decide) (by kernel_rfl) rfl rfl (hp.ob (i := 0) rfl) rfl rfl ?_
    clear hf; intro a ha hf; clear ha
    refine st_move hf rfl rfl (by decide) ?_
    clear hf; intro a ha hf; clear ha
    refine st_nil hf ?_
    refine th_n ?_
    refine wp_block ?_
    obtain ⟨q70, hl, h⟩ := bnd h
    have hp : Hp _ _ _ (_ :: _ :: ow) := Hp.sel (pre := [Res.obj 87 v63 [v59, v61], Res.ar 92 bs nd, Res.sl (Ek.pair (Ek.wp bs) (Ek.wp bs)) 87 v7 q53]) (tail := ow) (rs' := [Res.ar 92 bs nd, Res.sl (Ek.pair (Ek.wp bs) (Ek.wp bs)) 87 v7 q53]) hp [1, 2] (by decide) (by simp) rfl
    refine wp_loop_pure (f := (f_soft_ranked.s4 q53 t58)) (s := (nd, rank10, (0 : Int))) (fun s a w => Fr 76 a [(10, .int .i64 s.2.1), (56, v7), (57, .int .i64 (q53.length : Int)), (58, .int .i64 t58), (62, .agg #[v59, v61]), (63, .int .i64 s.2.2)] ∧ Hp S w0 w (Res.ar 92 bs s.1 :: Res.sl (Ek.pair (Ek.wp bs) (Ek.wp bs)) 87 v7 q53 :: ow)) (fun q e a w => e = .exit 6 ∧ Fr 76 a [(10, .int .i64 q.2), (56, v7), (57, .int .i64 (q53.length : Int)), (58, .int .i64 t58)] ∧ Hp S w0 w (Res.ar 92 bs q.1 :: Res.sl (Ek.pair (Ek.wp bs) (Ek.wp bs)) 87 v7 q53 :: ow)) ?_ hl ⟨hf.sub ⟨rfl, rfl, rfl, rfl, rfl, rfl, trivial⟩, hp⟩ ?_
    ·
     clear hl hf hp
     intro s x a w h hI
     obtain ⟨nd, rank10, t63⟩ := s
     obtain ⟨hf, hp⟩ : Fr 76 a [(10, .int .i64 rank10), (56, v7), (57, .int .i64 (q53.length : Int)), (58, .int .i64 t58), (62, .agg #[v59, v61]), (63, .int .i64 t63)] ∧ Hp S w0 w (Res.ar 92 bs nd :: Res.sl (Ek.pair (Ek.wp bs) (Ek.wp bs)) 87 v7 q53 :: ow) := hI
     replace h : f_soft_ranked.s4c q53 t58 nd rank10 t63 = some x := h
     unfold f_soft_ranked.s4c at h
     refine wp_seq ?_
     refine wp_reg ?_
     refine st_ilss hf (by decide) rfl rfl rfl ?_
     clear hf; intro a ha hf; clear ha
     refine st_nil hf ?_
     refine th_n ?_
     refine wp_seq ?_
     refine wp_if hf rfl (fun hb => ?_) (fun hb => ?_)
     ·
      replace h := ifT h hb
      refine wp_skip ?_
      refine th_n ?_
      refine wp_seq ?_
      refine wp_block ?_
      refine wp_seq ?_
      refine wp_reg ?_
      obtain ⟨hc67, h⟩ := chk h
      refine st_idx2 hf (by decide) Try.underlying87 pl86 (by kernel_rfl) rfl rfl rfl hc67 ?_
      clear hf; intro a ha hf; clear ha
      refine st_assign hf rfl rfl (by decide) ?_
      clear hf; intro a ha hf; clear ha
      refine st_nil hf ?_
      refine th_n ?_
      refine wp_seq ?_
      refine wp_reg ?_
      refine st_move hf rfl rfl (by decide) ?_
      clear hf; intro a ha hf; clear ha
      refine st_wnilN hf (by decide) Try.underlying86 rfl rfl rfl (WP.sel y60 y62 hc67) ?_
      clear hf; intro a ha hf; clear ha
      refine st_nil hf ?_
      refine th_n ?_
      refine wp_if hf rfl (fun hb => ?_) (fun hb => ?_)
      ·
       replace h := ifT h hb
       refine wp_seq ?_
       refine wp_reg ?_
       refine st_move hf rfl rfl (by decide) ?_
       clear hf; intro a ha hf; clear ha
       refine st_move hf rfl rfl (by decide) ?_
       clear hf; intro a ha hf; clear ha
       obtain ⟨n68, hx69, h⟩ := bnd h
       refine st_nilE hf (by decide) rfl rfl (WP.ptr (WP.sel y60 y62 hc67) hx69) ?_
       clear hf; intro a ha hf; clear ha
       refine st_faP (off := 3) (sz := 1) hf (by decide) (by kernel_rfl) (by decide) rfl rfl (WP.isP (WP.sel y60 y62 hc67) hx69) ?_
       clear hf; intro a ha hf; clear ha
       refine st_stRank hf hp (m := 0) rfl (WP.sel y60 y62 hc67) hx69 (by kernel_rfl) rfl rfl rfl ?_
       clear hf; intro a w hf hp0; clear hp; have hp := hp0; clear hp0
       replace hp : Hp _ _ _ (Res.ar 92 bs (setR nd n68 rank10) :: _ :: ow) := hp
       refine st_nil hf ?_
       refine th_n ?_
       refine wp_reg ?_
       refine st_move hf rfl rfl (by decide) ?_
       clear hf; intro a ha hf; clear ha
       refine st_iadd hf (by decide) rfl rfl rfl ?_
       clear hf; intro a ha hf; clear ha
       refine st_assign hf rfl rfl (by decide) ?_
       clear hf; intro a ha hf; clear ha
       refine st_nil hf ?_
       refine ib_n ?_
       refine th_n ?_
       refine wp_reg ?_
       refine st_iadd hf (by decide) rfl rfl rfl ?_
       clear hf; intro a ha hf; clear ha
       refine st_move hf rfl rfl (by decide) ?_
       clear hf; intro a ha hf; clear ha
       refine st_nil hf ?_
       obtain rfl := Option.some.inj h
       exact rnd_l ⟨hf.sub ⟨rfl, rfl, rfl, rfl, rfl, rfl, trivial⟩, hp⟩
      replace h := ifF h hb
      refine wp_skip ?_
      refine ib_n ?_
      refine th_n ?_
      refine wp_reg ?_
      refine st_iadd hf (by decide) rfl rfl rfl ?_
      clear hf; intro a ha hf; clear ha
      refine st_move hf rfl rfl (by decide) ?_
      clear hf; intro a ha hf; clear ha
      refine st_nil hf ?_
      obtain rfl := Option.some.inj h
      exact rnd_l ⟨hf.sub ⟨rfl, rfl, rfl, rfl, rfl, rfl, trivial⟩, hp⟩
     replace h := ifF h hb
     refine wp_exit ?_
     refine th_e ?_
     obtain rfl := Option.some.inj h
     exact rnd_r (by simp) ⟨rfl, hf.sub ⟨rfl, rfl, rfl, rfl, trivial⟩, hp⟩
    clear hl hf hp
    intro e a w hne hO
    obtain ⟨rfl, hf, hp⟩ := hO
    refine ib_same ?_
    refine ib_n ?_
    refine th_n ?_
    refine wp_reg ?_
    refine st_iadd hf (by decide) rfl rfl rfl ?_
    clear hf; intro a ha hf; clear ha
    refine st_move hf rfl rfl (by decide) ?_
    clear hf; intro a ha hf; clear ha
    refine st_nil hf ?_
    obtain rfl := Option.some.inj h
    exact rnd_l ⟨hf.sub ⟨rfl, rfl, rfl, rfl, trivial⟩, hp⟩
   replace h := ifF h hb
   refine wp_exit ?_
   refine th_e ?_
   obtain rfl := Option.some.inj h
   have hp : Hp _ _ _ (Res.ar 92 bs nd :: ow) := Hp.sel (pre := [Res.ar 92 bs nd, Res.sl (Ek.pair (Ek.wp bs) (Ek.wp bs)) 87 v7 q53]) (tail := ow) (rs' := [Res.ar 92 bs nd]) hp [0] (by decide) (by simp) rfl
   exact rnd_r (by simp) ⟨rfl, hf.sub trivial, hp⟩
  clear hl hf hp
  intro e a w hne hO
  obtain ⟨rfl, hf, hp⟩ := hO
  refine ib_same ?_
  obtain rfl := Option.some.inj h
  exact ⟨(.inr rfl), ⟨hf.sub trivial, hp⟩⟩

end Go.Proofs.Ytcooefnbolobaaa
