/- The functions foghorn foghornlaw03.PlaneWhole: what each answers, as a plain function, and that its call answers it; printed by gen.py. -/
import Derived.Test.YteifkccomfdciaaProg
import Derived.Test.YteifkccomfdciaaGlU
import Derived.KernelRfl
import Derived.Test.YteifkccomfdciaaG8p2
set_option linter.unusedVariables false
set_option linter.unusedSimpArgs false
set_option maxRecDepth 100000
set_option maxHeartbeats 4000000
namespace Go.Proofs.Yteifkccomfdciaa
open GL
noncomputable def f_foghornlaw03_PlaneWhole (ax0_Re : Int) (ax0_Im : Int) (bx1_Re : Int) (bx1_Im : Int) (xx2_Depth : Int) (xx2_Class : Int) (xx2_Z_0 : Fl) (xx2_Z_1 : Fl) : Option Bool := ((f_foghornlaw03_own ax0_Re ax0_Im).bind fun q19 => ((f_foghornlaw03_own bx1_Re bx1_Im).bind fun q21 => ((f_plane_Gauss_Times q19.1 q19.2 q21.1 q21.2).bind fun q23 => ((f_foghornref03_Times ax0_Re ax0_Im bx1_Re bx1_Im).bind fun q27 => ((f_foghornlaw03_own ax0_Re ax0_Im).bind fun q31 => ((f_plane_Gauss_Norm q31.1 q31.2).bind fun q33 => ((f_foghornref03_Norm1 ax0_Re ax0_Im).bind fun q35 => ((f_foghornlaw03_ref q23.1.1 q23.1.2).bind fun q49 => (if ((((!((q49.1 == q27.1.1) && ((q49.2 == q27.1.2) && true))) || (q23.2 != q27.2)) || (q33.1 != q35.1)) || (q33.2 != q35.2)) = true then (some false) else ((f_foghornlaw03_own ax0_Re ax0_Im).bind fun q69 => ((f_foghornlaw03_own bx1_Re bx1_Im).bind fun q71 => ((f_plane_Gauss_By q69.1 q69.2 q71.1 q71.2).bind fun q73 => ((f_foghornref03_By ax0_Re ax0_Im bx1_Re bx1_Im).bind fun q79 => ((f_foghornlaw03_own ax0_Re ax0_Im).bind fun q97 => ((f_foghornlaw03_own bx1_Re bx1_Im).bind fun q99 => ((f_plane_Gcd q97.1 q97.2 q99.1 q99.2).bind fun q101 => ((f_foghornref03_Gcd ax0_Re ax0_Im bx1_Re bx1_Im).bind fun q105 => ((f_foghornlaw03_ref q73.1.1 q73.1.2).bind fun q145 => ((if (!((q145.1 == q79.1.1) && ((q145.2 == q79.1.2) && true))) = true then (some true) else ((f_foghornlaw03_ref q73.2.1.1 q73.2.1.2).bind fun q149 => (some (!((q149.1 == q79.2.1.1) && ((q149.2 == q79.2.1.2) && true)))))).bind fun z151 => ((if (z151 || (q73.2.2 != q79.2.2)) = true then (some true) else ((f_foghornlaw03_ref q101.1.1 q101.1.2).bind fun q156 => (some (!((q156.1 == q105.1.1) && ((q156.2 == q105.1.2) && true)))))).bind fun z158 => (if (z158 || (q101.2 != q105.2)) = true then (some false) else ((f_foghornlaw03_own ax0_Re ax0_Im).bind fun q173 => ((f_plane_Gauss_Class q173.1 q173.2 xx2_Depth).bind fun q175 => ((f_foghornref03_Class ax0_Re ax0_Im xx2_Depth).bind fun q177 => ((f_plane_First xx2_Class xx2_Depth).bind fun q179 => ((f_foghornref03_First xx2_Class xx2_Depth).bind fun q183 => ((if ((q175.1 != q177.1) || (q175.2 != q177.2)) = true then (some true) else ((f_foghornlaw03_ref q179.1.1 q179.1.2).bind fun q203 => (some (!((q203.1 == q183.1.1) && ((q203.2 == q183.1.2) && true)))))).bind fun z205 => (if (z205 || (q179.2 != q183.2)) = true then (some false) else ((f_foghornlaw03_own ax0_Re ax0_Im).bind fun q208 => ((f_plane_Gauss_Depth q208.1 q208.2).bind fun q210 => ((f_foghornref03_Depth ax0_Re ax0_Im).bind fun q212 => ((f_foghornlaw03_number xx2_Z_0 xx2_Z_1).bind fun q214 => ((f_plane_Whole q214).bind fun q220 => ((f_foghornlaw03_number xx2_Z_0 xx2_Z_1).bind fun q224 => ((f_foghornref03_Whole q224).bind fun q230 => ((if ((q210.1 == q212.1) && (q210.2 == q212.2)) = true then ((f_foghornlaw03_ref q220.1.1 q220.1.2).bind fun q256 => (some ((q256.1 == q230.1.1) && ((q256.2 == q230.1.2) && true)))) else (some false)).bind fun z258 => ((if (z258 && (q220.2 == q230.2)) = true then ((f_foghornlaw03_own ax0_Re ax0_Im).bind fun q263 => ((f_plane_Gauss_Number q263.1 q263.2).bind fun q265 => (some (ceq q265 ((fofi ax0_Re), (fofi ax0_Im)))))) else (some false)).bind fun z271 => ((if z271 = true then ((f_foghornlaw03_awake).bind fun q274 => (some q274)) else (some false)).bind fun z276 => (some z276)))))))))))))))))))))))))))))))))))))))
theorem f_foghornlaw03_PlaneWhole_c {S : Nat → Prop} {w0 w : World} {ow : List Res} (hp : Hp S w0 w ow) (ax0_Re : Int) (ax0_Im : Int) (bx1_Re : Int) (bx1_Im : Int) (xx2_Depth : Int) (xx2_Class : Int) (bxx2_Z_0 : Nat) (xx2_Z_0 : Fl) (hxx2_Z_0 : xx2_Z_0.rep bxx2_Z_0) (bxx2_Z_1 : Nat) (xx2_Z_1 : Fl) (hxx2_Z_1 : xx2_Z_1.rep bxx2_Z_1) {r : Bool} (h : f_foghornlaw03_PlaneWhole ax0_Re ax0_Im bx1_Re bx1_Im xx2_Depth xx2_Class xx2_Z_0 xx2_Z_1 = some r) :
   Calls Try.prog 10 #[.agg #[.int .i64 ax0_Re, .int .i64 ax0_Im], .agg #[.int .i64 bx1_Re, .int .i64 bx1_Im], .agg #[.int .i64 xx2_Depth, .int .u32 xx2_Class, .float .f64 bxx2_Z_0, .float .f64 bxx2_Z_1]] w (fun e w' => e = .returned (.bool r) ∧ Hp S w0 w' (ow)) := by
  unfold f_foghornlaw03_PlaneWhole at h
  refine enter (n := 239) (args := [.agg #[.int .i64 ax0_Re, .int .i64 ax0_Im], .agg #[.int .i64 bx1_Re, .int .i64 bx1_Im], .agg #[.int .i64 xx2_Depth, .int .u32 xx2_Class, .float .f64 bxx2_Z_0, .float .f64 bxx2_Z_1]]) Try.func10 rfl rfl (Nat.le_of_ble_eq_true rfl) fun a hf => ?_
  replace hf : Fr 239 a [(0, .agg #[.int .i64 ax0_Re, .int .i64 ax0_Im]), (1, .agg #[.int .i64 bx1_Re, .int .i64 bx1_Im]), (2, .agg #[.int .i64 xx2_Depth, .int .u32 xx2_Class, .float .f64 bxx2_Z_0, .float .f64 bxx2_Z_1])] := hf
  refine wp_mono (Q := fun e a w => e = .ret ∧ Fr 239 a [(6, .bool r)] ∧ Hp S w0 w (ow)) ?_ ?_
  rotate_left
  ·
   rintro e a w ⟨rfl, hf, hp⟩
   exact ret1 hf rfl rfl ⟨rfl, hp⟩
  refine wp_seq ?_
  refine wp_reg ?_
  refine st_boxO (cs := [.int .i64 ax0_Re, .int .i64 ax0_Im]) hf (by decide) hp rfl rfl rfl ?_
  clear hf; intro a w v1 hf hp0; clear hp; have hp := hp0; clear hp0
  replace hp : Hp _ _ _ (Res.obj 74 v1 [.int .i64 ax0_Re, .int .i64 ax0_Im] :: ow) := hp
  refine st_boxO (cs := [.int .i64 bx1_Re, .int .i64 bx1_Im]) hf (by decide) hp rfl rfl rfl ?_
  clear hf; intro a w v3 hf hp0; clear hp; have hp := hp0; clear hp0
  replace hp : Hp _ _ _ (Res.obj 74 v3 [.int .i64 bx1_Re, .int .i64 bx1_Im] :: _ :: ow) := hp
  refine st_boxO (cs := [.int .i64 xx2_Depth, .int .u32 xx2_Class, .float .f64 bxx2_Z_0, .float .f64 bxx2_Z_1]) hf (by decide) hp rfl rfl rfl ?_
  clear hf; intro a w v5 hf hp0; clear hp; have hp := hp0; clear hp0
  replace hp : Hp _ _ _ (Res.obj 76 v5 [.int .i64 xx2_Depth, .int .u32 xx2_Class, .float .f64 bxx2_Z_0, .float .f64 bxx2_Z_1] :: _ :: _ :: ow) := hp
  refine st_assign hf rfl rfl (by decide) ?_
  clear hf; intro a ha hf; clear ha
  refine st_nil hf ?_
  refine th_n ?_
  refine wp_seq ?_
  obtain ⟨S7, hp8, rd9, up10, bk11⟩ := Hp.lendO hp (i := 2) rfl
  obtain ⟨S12, hp13, rd14, up15, bk16⟩ := Hp.lendO hp8 (i := 1) rfl
  have rl17 := ((rd9.now hp8).mono up15)
  have rl18 := rd14
  obtain ⟨q19, hcall20, h⟩ := bnd h
  obtain ⟨q21, hcall22, h⟩ := bnd h
  obtain ⟨q23, hcall24, h⟩ := bnd h
  refine wp_cutN (fun a w => ∃ (v25 : Value), Fr 239 a [(3, optr v1 0), (4, optr v3 0), (5, optr v5 0), (7, optr v25 0), (8, .int .i64 q23.2)] ∧ Hp S w0 w (Res.obj 74 v1 [.int .i64 ax0_Re, .int .i64 ax0_Im] :: Res.obj 74 v3 [.int .i64 bx1_Re, .int .i64 bx1_Im] :: Res.obj 56 v25 [.int .i64 q23.1.1, .int .i64 q23.1.2] :: Res.obj 76 v5 [.int .i64 xx2_Depth, .int .u32 xx2_Class, .float .f64 bxx2_Z_0, .float .f64 bxx2_Z_1] :: ow)) ?_ ?_
  ·
   have hp := hp13.same (Same.drew w)
   refine dr_begin' _ (fun w' => ∃ l, Hp S12 w w' l) [] (by kernel_rfl) ?_
   refine dr_takeK 0 (.agg #[.int .i64 ax0_Re, .int .i64 ax0_Im]) rfl hf rfl (fun w ⟨_, hp⟩ => ?_) ⟨_, hp⟩ ?_
   · exact st_ldOA (m := 2) (us := [.int .i64 ax0_Re, .int .i64 ax0_Im]) hf (by decide) (by kernel_rfl) rfl rfl (rl17.ob hp) rfl rfl tk
   clear hf; intro a hf
   refine dr_takeK 2 (.agg #[.int .i64 bx1_Re, .int .i64 bx1_Im]) rfl hf rfl (fun w ⟨_, hp⟩ => ?_) ⟨_, hp⟩ ?_
   · exact st_ldOA (m := 2) (us := [.int .i64 bx1_Re, .int .i64 bx1_Im]) hf (by decide) (by kernel_rfl) rfl rfl (rl18.ob hp) rfl rfl tk
   clear hf; intro a hf
   refine dr_two 1 8 rfl rfl (by kernel_rfl) ?_ ?_
   ·
    refine st_call hf (by decide) Try.func40 rfl rfl rfl rfl rfl (f_foghornlaw03_own_c hp _ _ hcall20) ?_
    rintro _ w ⟨rfl, hp0⟩
    clear hp; have hp := hp0; clear hp0
    replace hp : Hp _ _ _ (_ :: ow) := hp
    refine ⟨_, rfl, ?_⟩
    clear hf; intro a hf
    refine nx hf (fun _ _ => ⟨_, hp⟩) ?_
    refine dr_two 3 8 rfl rfl (by kernel_rfl) ?_ ?_
    ·
     refine st_call hf (by decide) Try.func40 rfl rfl rfl rfl rfl (f_foghornlaw03_own_c hp _ _ hcall22) ?_
     rintro _ w ⟨rfl, hp0⟩
     clear hp; have hp := hp0; clear hp0
     replace hp : Hp _ _ _ (_ :: ow) := hp
     refine ⟨_, rfl, ?_⟩
     clear hf; intro a hf
     refine nx hf (fun _ _ => ⟨_, hp⟩) ?_
     refine dr_two 4 8 rfl rfl (by kernel_rfl) ?_ ?_
     ·
      refine st_call hf (by decide) Try.func31 rfl rfl rfl rfl rfl (f_plane_Gauss_Times_c hp _ _ _ _ hcall24) ?_
      rintro _ w ⟨rfl, hp0⟩
      clear hp; have hp := hp0; clear hp0
      replace hp : Hp _ _ _ (_ :: ow) := hp
      refine ⟨_, rfl, ?_⟩
      clear hf; intro a hf
      refine nx hf (fun _ _ => ⟨_, hp⟩) ?_
      refine dr_takeK 5 (.tuple #[.agg #[.int .i64 q23.1.1, .int .i64 q23.1.2], .int .i64 q23.2]) rfl hf rfl (fun w ⟨_, hp⟩ => ?_) ⟨_, hp⟩ ?_
      · exact st_move hf rfl rfl (by decide) tk
      clear hf; intro a hf
      refine dr_takeK 6 (.agg #[.int .i64 q23.1.1, .int .i64 q23.1.2]) rfl hf rfl (fun w ⟨_, hp⟩ => ?_) ⟨_, hp⟩ ?_
      · exact st_extract hf (by decide) rfl rfl rfl tk
      clear hf; intro a hf
      refine dr_takeK 7 (.int .i64 q23.2) rfl hf rfl (fun w ⟨_, hp⟩ => ?_) ⟨_, hp⟩ ?_
      · exact st_extract hf (by decide) rfl rfl rfl tk
      clear hf; intro a hf
      refine dr_one 8 rfl (by kernel_rfl) ?_
      refine st_alloc (cs := [.int .i64 (0 : Int), .int .i64 (0 : Int)]) (zv := .agg #[.int .i64 (0 : Int), .int .i64 (0 : Int)]) hf (by decide) (by kernel_rfl) rfl hp rfl ?_
      clear hf; intro a w v25 hf hp0; clear hp; have hp := hp0; clear hp0
      replace hp : Hp _ _ _ (Res.obj 56 v25 [.int .i64 (0 : Int), .int .i64 (0 : Int)] :: _ :: ow) := hp
      refine nx hf (fun _ _ => ⟨_, hp⟩) ?_
      refine dr_one 9 rfl (by kernel_rfl) ?_
      refine st_stO (us := [.int .i64 q23.1.1, .int .i64 q23.1.2]) hf hp (i := 0) rfl rfl rfl rfl rfl (by rfl) (by kernel_rfl) (Nat.le_of_ble_eq_true rfl) ?_
      clear hf; intro a w hf hp0; clear hp; have hp := hp0; clear hp0
      replace hp : Hp _ _ _ (Res.obj 56 v25 [.int .i64 q23.1.1, .int .i64 q23.1.2] :: _ :: ow) := hp
      refine nx hf (fun _ _ => ⟨_, hp⟩) ?_
      refine dr_takeK 10 (.int .i64 q23.2) rfl hf rfl (fun w ⟨_, hp⟩ => ?_) ⟨_, hp⟩ ?_
      · exact st_assign hf rfl rfl (by decide) tk
      clear hf; intro a hf
      refine dr_end (by kernel_rfl) ?_ _
      have hp := bk16 _ _ hp
      have hp := bk11 _ _ hp
      exact ⟨v25, hf.sub ⟨rfl, rfl, rfl, rfl, rfl, trivial⟩, hp⟩
     ·
      refine st_alloc (cs := [.int .i64 (0 : Int), .int .i64 (0 : Int)]) (zv := .agg #[.int .i64 (0 : Int), .int .i64 (0 : Int)]) hf (by decide) (by kernel_rfl) rfl hp rfl ?_
      clear hf; intro a w v25 hf hp0; clear hp; have hp := hp0; clear hp0
      replace hp : Hp _ _ _ (Res.obj 56 v25 [.int .i64 (0 : Int), .int .i64 (0 : Int)] :: _ :: ow) := hp
      refine nx hf (fun _ _ => ⟨_, hp⟩) ?_
      refine dr_one 4 rfl (by kernel_rfl) ?_
      refine st_call hf (by decide) Try.func31 rfl rfl rfl rfl rfl (f_plane_Gauss_Times_c hp _ _ _ _ hcall24) ?_
      rintro _ w ⟨rfl, hp0⟩
      clear hp; have hp := hp0; clear hp0
      replace hp : Hp _ _ _ (_ :: _ :: ow) := hp
      refine ⟨_, rfl, ?_⟩
      clear hf; intro a hf
      refine nx hf (fun _ _ => ⟨_, hp⟩) ?_
      refine dr_takeK 5 (.tuple #[.agg #[.int .i64 q23.1.1, .int .i64 q23.1.2], .int .i64 q23.2]) rfl hf rfl (fun w ⟨_, hp⟩ => ?_) ⟨_, hp⟩ ?_
      · exact st_move hf rfl rfl (by decide) tk
      clear hf; intro a hf
      refine dr_takeK 6 (.agg #[.int .i64 q23.1.1, .int .i64 q23.1.2]) rfl hf rfl (fun w ⟨_, hp⟩ => ?_) ⟨_, hp⟩ ?_
      · exact st_extract hf (by decide) rfl rfl rfl tk
      clear hf; intro a hf
      refine dr_takeK 7 (.int .i64 q23.2) rfl hf rfl (fun w ⟨_, hp⟩ => ?_) ⟨_, hp⟩ ?_
      · exact st_extract hf (by decide) rfl rfl rfl tk
      clear hf; intro a hf
      refine dr_one 9 rfl (by kernel_rfl) ?_
      refine st_stO (us := [.int .i64 q23.1.1, .int .i64 q23.1.2]) hf hp (i := 0) rfl rfl rfl rfl rfl (by rfl) (by kernel_rfl) (Nat.le_of_ble_eq_true rfl) ?_
      clear hf; intro a w hf hp0; clear hp; have hp := hp0; clear hp0
      replace hp : Hp _ _ _ (Res.obj 56 v25 [.int .i64 q23.1.1, .int .i64 q23.1.2] :: _ :: ow) := hp
      refine nx hf (fun _ _ => ⟨_, hp⟩) ?_
      refine dr_takeK 10 (.int .i64 q23.2) rfl hf rfl (fun w ⟨_, hp⟩ => ?_) ⟨_, hp⟩ ?_
      · exact st_assign hf rfl rfl (by decide) tk
      clear hf; intro a hf
      refine dr_end (by kernel_rfl) ?_ _
      have hp := bk16 _ _ hp
      have hp := bk11 _ _ hp
      exact ⟨v25, hf.sub ⟨rfl, rfl, rfl, rfl, rfl, trivial⟩, hp⟩
    ·
     refine st_alloc (cs := [.int .i64 (0 : Int), .int .i64 (0 : Int)]) (zv := .agg #[.int .i64 (0 : Int), .int .i64 (0 : Int)]) hf (by decide) (by kernel_rfl) rfl hp rfl ?_
     clear hf; intro a w v25 hf hp0; clear hp; have hp := hp0; clear hp0
     replace hp : Hp _ _ _ (Res.obj 56 v25 [.int .i64 (0 : Int), .int .i64 (0 : Int)] :: _ :: ow) := hp
     refine nx hf (fun _ _ => ⟨_, hp⟩) ?_
     refine dr_one 3 rfl (by kernel_rfl) ?_
     refine st_call hf (by decide) Try.func40 rfl rfl rfl rfl rfl (f_foghornlaw03_own_c hp _ _ hcall22) ?_
     rintro _ w ⟨rfl, hp0⟩
     clear hp; have hp := hp0; clear hp0
     replace hp : Hp _ _ _ (_ :: _ :: ow) := hp
     refine ⟨_, rfl, ?_⟩
     clear hf; intro a hf
     refine nx hf (fun _ _ => ⟨_, hp⟩) ?_
     refine dr_one 4 rfl (by kernel_rfl) ?_
     refine st_call hf (by decide) Try.func31 rfl rfl rfl rfl rfl (f_plane_Gauss_Times_c hp _ _ _ _ hcall24) ?_
     rintro _ w ⟨rfl, hp0⟩
     clear hp; have hp := hp0; clear hp0
     replace hp : Hp _ _ _ (_ :: _ :: ow) := hp
     refine ⟨_, rfl, ?_⟩
     clear hf; intro a hf
     refine nx hf (fun _ _ => ⟨_, hp⟩) ?_
     refine dr_takeK 5 (.tuple #[.agg #[.int .i64 q23.1.1, .int .i64 q23.1.2], .int .i64 q23.2]) rfl hf rfl (fun w ⟨_, hp⟩ => ?_) ⟨_, hp⟩ ?_
     · exact st_move hf rfl rfl (by decide) tk
     clear hf; intro a hf
     refine dr_takeK 6 (.agg #[.int .i64 q23.1.1, .int .i64 q23.1.2]) rfl hf rfl (fun w ⟨_, hp⟩ => ?_) ⟨_, hp⟩ ?_
     · exact st_extract hf (by decide) rfl rfl rfl tk
     clear hf; intro a hf
     refine dr_takeK 7 (.int .i64 q23.2) rfl hf rfl (fun w ⟨_, hp⟩ => ?_) ⟨_, hp⟩ ?_
     · exact st_extract hf (by decide) rfl rfl rfl tk
     clear hf; intro a hf
     refine dr_one 9 rfl (by kernel_rfl) ?_
     refine st_stO (us := [.int .i64 q23.1.1, .int .i64 q23.1.2]) hf hp (i := 0) rfl rfl rfl rfl rfl (by rfl) (by kernel_rfl) (Nat.le_of_ble_eq_true rfl) ?_
     clear hf; intro a w hf hp0; clear hp; have hp := hp0; clear hp0
     replace hp : Hp _ _ _ (Res.obj 56 v25 [.int .i64 q23.1.1, .int .i64 q23.1.2] :: _ :: ow) := hp
     refine nx hf (fun _ _ => ⟨_, hp⟩) ?_
     refine dr_takeK 10 (.int .i64 q23.2) rfl hf rfl (fun w ⟨_, hp⟩ => ?_) ⟨_, hp⟩ ?_
     · exact st_assign hf rfl rfl (by decide) tk
     clear hf; intro a hf
     refine dr_end (by kernel_rfl) ?_ _
     have hp := bk16 _ _ hp
     have hp := bk11 _ _ hp
     exact ⟨v25, hf.sub ⟨rfl, rfl, rfl, rfl, rfl, trivial⟩, hp⟩
   ·
    refine st_alloc (cs := [.int .i64 (0 : Int), .int .i64 (0 : Int)]) (zv := .agg #[.int .i64 (0 : Int), .int .i64 (0 : Int)]) hf (by decide) (by kernel_rfl) rfl hp rfl ?_
    clear hf; intro a w v25 hf hp0; clear hp; have hp := hp0; clear hp0
    replace hp : Hp _ _ _ (Res.obj 56 v25 [.int .i64 (0 : Int), .int .i64 (0 : Int)] :: _ :: ow) := hp
    refine nx hf (fun _ _ => ⟨_, hp⟩) ?_
    refine dr_one 1 rfl (by kernel_rfl) ?_
    refine st_call hf (by decide) Try.func40 rfl rfl rfl rfl rfl (f_foghornlaw03_own_c hp _ _ hcall20) ?_
    rintro _ w ⟨rfl, hp0⟩
    clear hp; have hp := hp0; clear hp0
    replace hp : Hp _ _ _ (_ :: _ :: ow) := hp
    refine ⟨_, rfl, ?_⟩
    clear hf; intro a hf
    refine nx hf (fun _ _ => ⟨_, hp⟩) ?_
    refine dr_one 3 rfl (by kernel_rfl) ?_
    refine st_call hf (by decide) Try.func40 rfl rfl rfl rfl rfl (f_foghornlaw03_own_c hp _ _ hcall22) ?_
    rintro _ w ⟨rfl, hp0⟩
    clear hp; have hp := hp0; clear hp0
    replace hp : Hp _ _ _ (_ :: _ :: ow) := hp
    refine ⟨_, rfl, ?_⟩
    clear hf; intro a hf
    refine nx hf (fun _ _ => ⟨_, hp⟩) ?_
    refine dr_one 4 rfl (by kernel_rfl) ?_
    refine st_call hf (by decide) Try.func31 rfl rfl rfl rfl rfl (f_plane_Gauss_Times_c hp _ _ _ _ hcall24) ?_
    rintro _ w ⟨rfl, hp0⟩
    clear hp; have hp := hp0; clear hp0
    replace hp : Hp _ _ _ (_ :: _ :: ow) := hp
    refine ⟨_, rfl, ?_⟩
    clear hf; intro a hf
    refine nx hf (fun _ _ => ⟨_, hp⟩) ?_
    refine dr_takeK 5 (.tuple #[.agg #[.int .i64 q23.1.1, .int .i64 q23.1.2], .int .i64 q23.2]) rfl hf rfl (fun w ⟨_, hp⟩ => ?_) ⟨_, hp⟩ ?_
    · exact st_move hf rfl rfl (by decide) tk
    clear hf; intro a hf
    refine dr_takeK 6 (.agg #[.int .i64 q23.1.1, .int .i64 q23.1.2]) rfl hf rfl (fun w ⟨_, hp⟩ => ?_) ⟨_, hp⟩ ?_
    · exact st_extract hf (by decide) rfl rfl rfl tk
    clear hf; intro a hf
    refine dr_takeK 7 (.int .i64 q23.2) rfl hf rfl (fun w ⟨_, hp⟩ => ?_) ⟨_, hp⟩ ?_
    · exact st_extract hf (by decide) rfl rfl rfl tk
    clear hf; intro a hf
    refine dr_one 9 rfl (by kernel_rfl) ?_
    refine st_stO (us := [.int .i64 q23.1.1, .int .i64 q23.1.2]) hf hp (i := 0) rfl rfl rfl rfl rfl (by rfl) (by kernel_rfl) (Nat.le_of_ble_eq_true rfl) ?_
    clear hf; intro a w hf hp0; clear hp; have hp := hp0; clear hp0
    replace hp : Hp _ _ _ (Res.obj 56 v25 [.int .i64 q23.1.1, .int .i64 q23.1.2] :: _ :: ow) := hp
    refine nx hf (fun _ _ => ⟨_, hp⟩) ?_
    refine dr_takeK 10 (.int .i64 q23.2) rfl hf rfl (fun w ⟨_, hp⟩ => ?_) ⟨_, hp⟩ ?_
    · exact st_assign hf rfl rfl (by decide) tk
    clear hf; intro a hf
    refine dr_end (by kernel_rfl) ?_ _
    have hp := bk16 _ _ hp
    have hp := bk11 _ _ hp
    exact ⟨v25, hf.sub ⟨rfl, rfl, rfl, rfl, rfl, trivial⟩, hp⟩
  rintro a w ⟨v25, hf, hp⟩
  refine th_n ?_
  refine wp_seq ?_
  refine wp_reg ?_
  refine st_ldOA (m := 2) (us := [.int .i64 ax0_Re, .int .i64 ax0_Im]) hf (by decide) (by kernel_rfl) rfl rfl (hp.ob (i := 0) rfl) rfl rfl ?_
  clear hf; intro a ha hf; clear ha
  refine st_ldOA (m := 2) (us := [.int .i64 bx1_Re, .int .i64 bx1_Im]) hf (by decide) (by kernel_rfl) rfl rfl (hp.ob (i := 1) rfl) rfl rfl ?_
  clear hf; intro a ha hf; clear ha
  obtain ⟨q27, hcall28, h⟩ := bnd h
  refine st_call hf (by decide) Try.func41 rfl rfl rfl rfl rfl (f_foghornref03_Times_c hp _ _ _ _ hcall28) ?_
  rintro _ w ⟨rfl, hp0⟩
  clear hp; have hp := hp0; clear hp0
  replace hp : Hp _ _ _ (Res.obj 74 v1 [.int .i64 ax0_Re, .int .i64 ax0_Im] :: Res.obj 74 v3 [.int .i64 bx1_Re, .int .i64 bx1_Im] :: _ :: _ :: ow) := hp
  refine ⟨_, rfl, ?_⟩
  clear hf; intro a hf
  refine st_move hf rfl rfl (by decide) ?_
  clear hf; intro a ha hf; clear ha
  refine st_extract hf (by decide) rfl rfl rfl ?_
  clear hf; intro a ha hf; clear ha
  refine st_extract hf (by decide) rfl rfl rfl ?_
  clear hf; intro a ha hf; clear ha
  refine st_alloc (cs := [.int .i64 (0 : Int), .int .i64 (0 : Int)]) (zv := .agg #[.int .i64 (0 : Int), .int .i64 (0 : Int)]) hf (by decide) (by kernel_rfl) rfl hp rfl ?_
  clear hf; intro a w v29 hf hp0; clear hp; have hp := hp0; clear hp0
  replace hp : Hp _ _ _ (Res.obj 74 v29 [.int .i64 (0 : Int), .int .i64 (0 : Int)] :: _ :: _ :: _ :: _ :: ow) := hp
  refine st_stO (us := [.int .i64 q27.1.1, .int .i64 q27.1.2]) hf hp (i := 0) rfl rfl rfl rfl rfl (by rfl) (by kernel_rfl) (Nat.le_of_ble_eq_true rfl) ?_
  clear hf; intro a w hf hp0; clear hp; have hp := hp0; clear hp0
  replace hp : Hp _ _ _ (Res.obj 74 v29 [.int .i64 q27.1.1, .int .i64 q27.1.2] :: _ :: _ :: _ :: _ :: ow) := hp
  refine st_assign hf rfl rfl (by decide) ?_
  clear hf; intro a ha hf; clear ha
  refine st_nil hf ?_
  refine th_n ?_
  refine wp_seq ?_
  refine wp_reg ?_
  refine st_ldOA (m := 2) (us := [.int .i64 ax0_Re, .int .i64 ax0_Im]) hf (by decide) (by kernel_rfl) rfl rfl (hp.ob (i := 1) rfl) rfl rfl ?_
  clear hf; intro a ha hf; clear ha
  obtain ⟨q31, hcall32, h⟩ := bnd h
  refine st_call hf (by decide) Try.func40 rfl rfl rfl rfl rfl (f_foghornlaw03_own_c hp _ _ hcall32) ?_
  rintro _ w ⟨rfl, hp0⟩
  clear hp; have hp := hp0; clear hp0
  replace hp : Hp _ _ _ (_ :: _ :: _ :: _ :: _ :: ow) := hp
  refine ⟨_, rfl, ?_⟩
  clear hf; intro a hf
  obtain ⟨q33, hcall34, h⟩ := bnd h
  refine st_call hf (by decide) Try.func35 rfl rfl rfl rfl rfl (f_plane_Gauss_Norm_c hp _ _ hcall34) ?_
  rintro _ w ⟨rfl, hp0⟩
  clear hp; have hp := hp0; clear hp0
  replace hp : Hp _ _ _ (_ :: _ :: _ :: _ :: _ :: ow) := hp
  refine ⟨_, rfl, ?_⟩
  clear hf; intro a hf
  refine st_move hf rfl rfl (by decide) ?_
  clear hf; intro a ha hf; clear ha
  refine st_extract hf (by decide) rfl rfl rfl ?_
  clear hf; intro a ha hf; clear ha
  refine st_extract hf (by decide) rfl rfl rfl ?_
  clear hf; intro a ha hf; clear ha
  refine st_assign hf rfl rfl (by decide) ?_
  clear hf; intro a ha hf; clear ha
  refine st_assign hf rfl rfl (by decide) ?_
  clear hf; intro a ha hf; clear ha
  refine st_nil hf ?_
  refine th_n ?_
  refine wp_seq ?_
  refine wp_reg ?_
  refine st_ldOA (m := 2) (us := [.int .i64 ax0_Re, .int .i64 ax0_Im]) hf (by decide) (by kernel_rfl) rfl rfl (hp.ob (i := 1) rfl) rfl rfl ?_
  clear hf; intro a ha hf; clear ha
  obtain ⟨q35, hcall36, h⟩ := bnd h
  refine st_call hf (by decide) Try.func42 rfl rfl rfl rfl rfl (f_foghornref03_Norm1_c hp _ _ hcall36) ?_
  rintro _ w ⟨rfl, hp0⟩
  clear hp; have hp := hp0; clear hp0
  replace hp : Hp _ _ _ (_ :: _ :: _ :: _ :: _ :: ow) := hp
  refine ⟨_, rfl, ?_⟩
  clear hf; intro a hf
  refine st_move hf rfl rfl (by decide) ?_
  clear hf; intro a ha hf; clear ha
  refine st_extract hf (by decide) rfl rfl rfl ?_
  clear hf; intro a ha hf; clear ha
  refine st_extract hf (by decide) rfl rfl rfl ?_
  clear hf; intro a ha hf; clear ha
  refine st_assign hf rfl rfl (by decide) ?_
  clear hf; intro a ha hf; clear ha
  refine st_assign hf rfl rfl (by decide) ?_
  clear hf; intro a ha hf; clear ha
  refine st_nil hf ?_
  refine th_n ?_
  refine wp_seq ?_
  refine wp_seq ?_
  obtain ⟨S37, hp38, rd39, up40, bk41⟩ := Hp.lendO hp (i := 3) rfl
  obtain ⟨S42, hp43, rd44, up45, bk46⟩ := Hp.lendO hp38 (i := 0) rfl
  have rl47 := ((rd39.now hp38).mono up45)
  have rl48 := rd44
  obtain ⟨q49, hcall50, h⟩ := bnd h
  refine wp_cutN (fun a w => Fr 239 a [(3, optr v1 0), (4, optr v3 0), (5, optr v5 0), (72, .bool ((((!((q49.1 == q27.1.1) && ((q49.2 == q27.1.2) && true))) || (q23.2 != q27.2)) || (q33.1 != q35.1)) || (q33.2 != q35.2)))] ∧ Hp S w0 w (Res.obj 56 v25 [.int .i64 q23.1.1, .int .i64 q23.1.2] :: Res.obj 74 v29 [.int .i64 q27.1.1, .int .i64 q27.1.2] :: Res.obj 74 v1 [.int .i64 ax0_Re, .int .i64 ax0_Im] :: Res.obj 74 v3 [.int .i64 bx1_Re, .int .i64 bx1_Im] :: Res.obj 76 v5 [.int .i64 xx2_Depth, .int .u32 xx2_Class, .float .f64 bxx2_Z_0, .float .f64 bxx2_Z_1] :: ow)) ?_ ?_
  ·
   have hp := hp43.same (Same.drew w)
   rcases Bool.eq_false_or_eq_true (!((q49.1 == q27.1.1) && ((q49.2 == q27.1.2) && true))) with hb52 | hb52
   ·
    have hb54 : ((!((q49.1 == q27.1.1) && ((q49.2 == q27.1.2) && true))) || (q23.2 != q27.2)) = true := by rw [hb52]; rfl
    skip
    have hb56 : (((!((q49.1 == q27.1.1) && ((q49.2 == q27.1.2) && true))) || (q23.2 != q27.2)) || (q33.1 != q35.1)) = true := by rw [hb54]; rfl
    skip
    refine dr_begin' _ (fun w' => ∃ l, Hp S42 w w' l) [] (by kernel_rfl) ?_
    refine dr_takeK 0 (.agg #[.int .i64 q23.1.1, .int .i64 q23.1.2]) rfl hf rfl (fun w ⟨_, hp⟩ => ?_) ⟨_, hp⟩ ?_
    · exact st_ldOA (m := 2) (us := [.int .i64 q23.1.1, .int .i64 q23.1.2]) hf (by decide) (by kernel_rfl) rfl rfl (rl47.ob hp) rfl rfl tk
    clear hf; intro a hf
    refine dr_takeK 2 (.agg #[.int .i64 q27.1.1, .int .i64 q27.1.2]) rfl hf rfl (fun w ⟨_, hp⟩ => ?_) ⟨_, hp⟩ ?_
    · exact st_ldOA (m := 2) (us := [.int .i64 q27.1.1, .int .i64 q27.1.2]) hf (by decide) (by kernel_rfl) rfl rfl (rl48.ob hp) rfl rfl tk
    clear hf; intro a hf
    refine dr_one 1 rfl (by kernel_rfl) ?_
    refine st_call hf (by decide) Try.func43 rfl rfl rfl rfl rfl (f_foghornlaw03_ref_c hp _ _ hcall50) ?_
    rintro _ w ⟨rfl, hp0⟩
    clear hp; have hp := hp0; clear hp0
    replace hp : Hp _ _ _ (_ :: _ :: _ :: ow) := hp
    refine ⟨_, rfl, ?_⟩
    clear hf; intro a hf
    refine nx hf (fun _ _ => ⟨_, hp⟩) ?_
    refine dr_takeK 3 (.bool (!((q49.1 == q27.1.1) && ((q49.2 == q27.1.2) && true)))) rfl hf rfl (fun w ⟨_, hp⟩ => ?_) ⟨_, hp⟩ ?_
    · exact st_neA (xs := [.int .i64 q49.1, .int .i64 q49.2]) (ys := [.int .i64 q27.1.1, .int .i64 q27.1.2]) hf (by decide) (by kernel_rfl) (by kernel_rfl) (by kernel_rfl) (by kernel_rfl) rfl rfl rfl (b := (!((q49.1 == q27.1.1) && ((q49.2 == q27.1.2) && true)))) rfl tk
    clear hf; intro a hf
    refine dr_takeK 4 (.bool (!((q49.1 == q27.1.1) && ((q49.2 == q27.1.2) && true)))) rfl hf rfl (fun w ⟨_, hp⟩ => ?_) ⟨_, hp⟩ ?_
    · exact st_move hf rfl rfl (by decide) tk
    clear hf; intro a hf
    refine dr_outK 5 rfl hf rfl (wantN hf rfl rfl hb52) ⟨_, hp⟩ ?_
    clear hf; intro a hf
    refine dr_outK 6 rfl hf rfl (wantN hf rfl rfl hb52) ⟨_, hp⟩ ?_
    clear hf; intro a hf
    refine dr_outK 7 rfl hf rfl (wantN hf rfl rfl hb52) ⟨_, hp⟩ ?_
    clear hf; intro a hf
    refine dr_takeK 8 (.bool ((!((q49.1 == q27.1.1) && ((q49.2 == q27.1.2) && true))) || (q23.2 != q27.2))) rfl hf rfl (fun w ⟨_, hp⟩ => ?_) ⟨_, hp⟩ ?_
    · exact st_pick (v := .bool ((!((q49.1 == q27.1.1) && ((q49.2 == q27.1.2) && true))) || (q23.2 != q27.2))) hf rfl rfl (fun _ => by rw [show ((!((q49.1 == q27.1.1) && ((q49.2 == q27.1.2) && true))) || (q23.2 != q27.2)) = true from by rw [hb52]; rfl]; rfl) (fun hb' => absurd (hb52.symm.trans hb') (by decide)) (by decide) tk
    clear hf; intro a hf
    refine dr_takeK 9 (.bool ((!((q49.1 == q27.1.1) && ((q49.2 == q27.1.2) && true))) || (q23.2 != q27.2))) rfl hf rfl (fun w ⟨_, hp⟩ => ?_) ⟨_, hp⟩ ?_
    · exact st_move hf rfl rfl (by decide) tk
    clear hf; intro a hf
    refine dr_outK 10 rfl hf rfl (wantN hf rfl rfl hb54) ⟨_, hp⟩ ?_
    clear hf; intro a hf
    refine dr_outK 11 rfl hf rfl (wantN hf rfl rfl hb54) ⟨_, hp⟩ ?_
    clear hf; intro a hf
    refine dr_outK 12 rfl hf rfl (wantN hf rfl rfl hb54) ⟨_, hp⟩ ?_
    clear hf; intro a hf
    refine dr_takeK 13 (.bool (((!((q49.1 == q27.1.1) && ((q49.2 == q27.1.2) && true))) || (q23.2 != q27.2)) || (q33.1 != q35.1))) rfl hf rfl (fun w ⟨_, hp⟩ => ?_) ⟨_, hp⟩ ?_
    · exact st_pick (v := .bool (((!((q49.1 == q27.1.1) && ((q49.2 == q27.1.2) && true))) || (q23.2 != q27.2)) || (q33.1 != q35.1))) hf rfl rfl (fun _ => by rw [show (((!((q49.1 == q27.1.1) && ((q49.2 == q27.1.2) && true))) || (q23.2 != q27.2)) || (q33.1 != q35.1)) = true from by rw [hb54]; rfl]; rfl) (fun hb' => absurd (hb54.symm.trans hb') (by decide)) (by decide) tk
    clear hf; intro a hf
    refine dr_takeK 14 (.bool (((!((q49.1 == q27.1.1) && ((q49.2 == q27.1.2) && true))) || (q23.2 != q27.2)) || (q33.1 != q35.1))) rfl hf rfl (fun w ⟨_, hp⟩ => ?_) ⟨_, hp⟩ ?_
    · exact st_move hf rfl rfl (by decide) tk
    clear hf; intro a hf
    refine dr_outK 15 rfl hf rfl (wantN hf rfl rfl hb56) ⟨_, hp⟩ ?_
    clear hf; intro a hf
    refine dr_outK 16 rfl hf rfl (wantN hf rfl rfl hb56) ⟨_, hp⟩ ?_
    clear hf; intro a hf
    refine dr_outK 17 rfl hf rfl (wantN hf rfl rfl hb56) ⟨_, hp⟩ ?_
    clear hf; intro a hf
    refine dr_takeK 18 (.bool ((((!((q49.1 == q27.1.1) && ((q49.2 == q27.1.2) && true))) || (q23.2 != q27.2)) || (q33.1 != q35.1)) || (q33.2 != q35.2))) rfl hf rfl (fun w ⟨_, hp⟩ => ?_) ⟨_, hp⟩ ?_
    · exact st_pick (v := .bool ((((!((q49.1 == q27.1.1) && ((q49.2 == q27.1.2) && true))) || (q23.2 != q27.2)) || (q33.1 != q35.1)) || (q33.2 != q35.2))) hf rfl rfl (fun _ => by rw [show ((((!((q49.1 == q27.1.1) && ((q49.2 == q27.1.2) && true))) || (q23.2 != q27.2)) || (q33.1 != q35.1)) || (q33.2 != q35.2)) = true from by rw [hb56]; rfl]; rfl) (fun hb' => absurd (hb56.symm.trans hb') (by decide)) (by decide) tk
    clear hf; intro a hf
    refine dr_end (by kernel_rfl) ?_ _
    have hp := bk46 _ _ hp
    have hp := bk41 _ _ hp
    exact ⟨hf.sub ⟨rfl, rfl, rfl, rfl, trivial⟩, hp⟩
   skip
   rcases Bool.eq_false_or_eq_true ((!((q49.1 == q27.1.1) && ((q49.2 == q27.1.2) && true))) || (q23.2 != q27.2)) with hb54 | hb54
   ·
    have hb56 : (((!((q49.1 == q27.1.1) && ((q49.2 == q27.1.2) && true))) || (q23.2 != q27.2)) || (q33.1 != q35.1)) = true := by rw [hb54]; rfl
    skip
    refine dr_begin' _ (fun w' => ∃ l, Hp S42 w w' l) [] (by kernel_rfl) ?_
    refine dr_takeK 0 (.agg #[.int .i64 q23.1.1, .int .i64 q23.1.2]) rfl hf rfl (fun w ⟨_, hp⟩ => ?_) ⟨_, hp⟩ ?_
    · exact st_ldOA (m := 2) (us := [.int .i64 q23.1.1, .int .i64 q23.1.2]) hf (by decide) (by kernel_rfl) rfl rfl (rl47.ob hp) rfl rfl tk
    clear hf; intro a hf
    refine dr_takeK 2 (.agg #[.int .i64 q27.1.1, .int .i64 q27.1.2]) rfl hf rfl (fun w ⟨_, hp⟩ => ?_) ⟨_, hp⟩ ?_
    · exact st_ldOA (m := 2) (us := [.int .i64 q27.1.1, .int .i64 q27.1.2]) hf (by decide) (by kernel_rfl) rfl rfl (rl48.ob hp) rfl rfl tk
    clear hf; intro a hf
    refine dr_one 1 rfl (by kernel_rfl) ?_
    refine st_call hf (by decide) Try.func43 rfl rfl rfl rfl rfl (f_foghornlaw03_ref_c hp _ _ hcall50) ?_
    rintro _ w ⟨rfl, hp0⟩
    clear hp; have hp := hp0; clear hp0
    replace hp : Hp _ _ _ (_ :: _ :: _ :: ow) := hp
    refine ⟨_, rfl, ?_⟩
    clear hf; intro a hf
    refine nx hf (fun _ _ => ⟨_, hp⟩) ?_
    refine dr_takeK 3 (.bool (!((q49.1 == q27.1.1) && ((q49.2 == q27.1.2) && true)))) rfl hf rfl (fun w ⟨_, hp⟩ => ?_) ⟨_, hp⟩ ?_
    · exact st_neA (xs := [.int .i64 q49.1, .int .i64 q49.2]) (ys := [.int .i64 q27.1.1, .int .i64 q27.1.2]) hf (by decide) (by kernel_rfl) (by kernel_rfl) (by kernel_rfl) (by kernel_rfl) rfl rfl rfl (b := (!((q49.1 == q27.1.1) && ((q49.2 == q27.1.2) && true)))) rfl tk
    clear hf; intro a hf
    refine dr_takeK 4 (.bool (!((q49.1 == q27.1.1) && ((q49.2 == q27.1.2) && true)))) rfl hf rfl (fun w ⟨_, hp⟩ => ?_) ⟨_, hp⟩ ?_
    · exact st_move hf rfl rfl (by decide) tk
    clear hf; intro a hf
    refine dr_takeK 5 (.int .i64 q23.2) rfl hf (wantY hf rfl rfl hb52) (fun w ⟨_, hp⟩ => ?_) ⟨_, hp⟩ ?_
    · exact st_move hf (wantY hf rfl rfl hb52) rfl (by decide) tk
    clear hf; intro a hf
    refine dr_takeK 6 (.int .i64 q27.2) rfl hf (wantY hf rfl rfl hb52) (fun w ⟨_, hp⟩ => ?_) ⟨_, hp⟩ ?_
    · exact st_move hf (wantY hf rfl rfl hb52) rfl (by decide) tk
    clear hf; intro a hf
    refine dr_takeK 7 (.bool (q23.2 != q27.2)) rfl hf (wantY hf rfl rfl hb52) (fun w ⟨_, hp⟩ => ?_) ⟨_, hp⟩ ?_
    · exact st_ineq hf (by decide) (wantY hf rfl rfl hb52) rfl rfl tk
    clear hf; intro a hf
    refine dr_takeK 8 (.bool ((!((q49.1 == q27.1.1) && ((q49.2 == q27.1.2) && true))) || (q23.2 != q27.2))) rfl hf rfl (fun w ⟨_, hp⟩ => ?_) ⟨_, hp⟩ ?_
    · exact st_pick (v := .bool ((!((q49.1 == q27.1.1) && ((q49.2 == q27.1.2) && true))) || (q23.2 != q27.2))) hf rfl rfl (fun hb' => absurd (hb52.symm.trans hb') (by decide)) (fun _ => by rw [show ((!((q49.1 == q27.1.1) && ((q49.2 == q27.1.2) && true))) || (q23.2 != q27.2)) = (q23.2 != q27.2) from by rw [hb52]; rfl]; rfl) (by decide) tk
    clear hf; intro a hf
    refine dr_takeK 9 (.bool ((!((q49.1 == q27.1.1) && ((q49.2 == q27.1.2) && true))) || (q23.2 != q27.2))) rfl hf rfl (fun w ⟨_, hp⟩ => ?_) ⟨_, hp⟩ ?_
    · exact st_move hf rfl rfl (by decide) tk
    clear hf; intro a hf
    refine dr_outK 10 rfl hf rfl (wantN hf rfl rfl hb54) ⟨_, hp⟩ ?_
    clear hf; intro a hf
    refine dr_outK 11 rfl hf rfl (wantN hf rfl rfl hb54) ⟨_, hp⟩ ?_
    clear hf; intro a hf
    refine dr_outK 12 rfl hf rfl (wantN hf rfl rfl hb54) ⟨_, hp⟩ ?_
    clear hf; intro a hf
    refine dr_takeK 13 (.bool (((!((q49.1 == q27.1.1) && ((q49.2 == q27.1.2) && true))) || (q23.2 != q27.2)) || (q33.1 != q35.1))) rfl hf rfl (fun w ⟨_, hp⟩ => ?_) ⟨_, hp⟩ ?_
    · exact st_pick (v := .bool (((!((q49.1 == q27.1.1) && ((q49.2 == q27.1.2) && true))) || (q23.2 != q27.2)) || (q33.1 != q35.1))) hf rfl rfl (fun _ => by rw [show (((!((q49.1 == q27.1.1) && ((q49.2 == q27.1.2) && true))) || (q23.2 != q27.2)) || (q33.1 != q35.1)) = true from by rw [hb54]; rfl]; rfl) (fun hb' => absurd (hb54.symm.trans hb') (by decide)) (by decide) tk
    clear hf; intro a hf
    refine dr_takeK 14 (.bool (((!((q49.1 == q27.1.1) && ((q49.2 == q27.1.2) && true))) || (q23.2 != q27.2)) || (q33.1 != q35.1))) rfl hf rfl (fun w ⟨_, hp⟩ => ?_) ⟨_, hp⟩ ?_
    · exact st_move hf rfl rfl (by decide) tk
    clear hf; intro a hf
    refine dr_outK 15 rfl hf rfl (wantN hf rfl rfl hb56) ⟨_, hp⟩ ?_
    clear hf; intro a hf
    refine dr_outK 16 rfl hf rfl (wantN hf rfl rfl hb56) ⟨_, hp⟩ ?_
    clear hf; intro a hf
    refine dr_outK 17 rfl hf rfl (wantN hf rfl rfl hb56) ⟨_, hp⟩ ?_
    clear hf; intro a hf
    refine dr_takeK 18 (.bool ((((!((q49.1 == q27.1.1) && ((q49.2 == q27.1.2) && true))) || (q23.2 != q27.2)) || (q33.1 != q35.1)) || (q33.2 != q35.2))) rfl hf rfl (fun w ⟨_, hp⟩ => ?_) ⟨_, hp⟩ ?_
    · exact st_pick (v := .bool ((((!((q49.1 == q27.1.1) && ((q49.2 == q27.1.2) && true))) || (q23.2 != q27.2)) || (q33.1 != q35.1)) || (q33.2 != q35.2))) hf rfl rfl (fun _ => by rw [show ((((!((q49.1 == q27.1.1) && ((q49.2 == q27.1.2) && true))) || (q23.2 != q27.2)) || (q33.1 != q35.1)) || (q33.2 != q35.2)) = true from by rw [hb56]; rfl]; rfl) (fun hb' => absurd (hb56.symm.trans hb') (by decide)) (by decide) tk
    clear hf; intro a hf
    refine dr_end (by kernel_rfl) ?_ _
    have hp := bk46 _ _ hp
    have hp := bk41 _ _ hp
    exact ⟨hf.sub ⟨rfl, rfl, rfl, rfl, trivial⟩, hp⟩
   skip
   rcases Bool.eq_false_or_eq_true (((!((q49.1 == q27.1.1) && ((q49.2 == q27.1.2) && true))) || (q23.2 != q27.2)) || (q33.1 != q35.1)) with hb56 | hb56
   ·
    refine dr_begin' _ (fun w' => ∃ l, Hp S42 w w' l) [] (by kernel_rfl) ?_
    refine dr_takeK 0 (.agg #[.int .i64 q23.1.1, .int .i64 q23.1.2]) rfl hf rfl (fun w ⟨_, hp⟩ => ?_) ⟨_, hp⟩ ?_
    · exact st_ldOA (m := 2) (us := [.int .i64 q23.1.1, .int .i64 q23.1.2]) hf (by decide) (by kernel_rfl) rfl rfl (rl47.ob hp) rfl rfl tk
    clear hf; intro a hf
    refine dr_takeK 2 (.agg #[.int .i64 q27.1.1, .int .i64 q27.1.2]) rfl hf rfl (fun w ⟨_, hp⟩ => ?_) ⟨_, hp⟩ ?_
    · exact st_ldOA (m := 2) (us := [.int .i64 q27.1.1, .int .i64 q27.1.2]) hf (by decide) (by kernel_rfl) rfl rfl (rl48.ob hp) rfl rfl tk
    clear hf; intro a hf
    refine dr_one 1 rfl (by kernel_rfl) ?_
    refine st_call hf (by decide) Try.func43 rfl rfl rfl rfl rfl (f_foghornlaw03_ref_c hp _ _ hcall50) ?_
    rintro _ w ⟨rfl, hp0⟩
    clear hp; have hp := hp0; clear hp0
    replace hp : Hp _ _ _ (_ :: _ :: _ :: ow) := hp
    refine ⟨_, rfl, ?_⟩
    clear hf; intro a hf
    refine nx hf (fun _ _ => ⟨_, hp⟩) ?_
    refine dr_takeK 3 (.bool (!((q49.1 == q27.1.1) && ((q49.2 == q27.1.2) && true)))) rfl hf rfl (fun w ⟨_, hp⟩ => ?_) ⟨_, hp⟩ ?_
    · exact st_neA (xs := [.int .i64 q49.1, .int .i64 q49.2]) (ys := [.int .i64 q27.1.1, .int .i64 q27.1.2]) hf (by decide) (by kernel_rfl) (by kernel_rfl) (by kernel_rfl) (by kernel_rfl) rfl rfl rfl (b := (!((q49.1 == q27.1.1) && ((q49.2 == q27.1.2) && true)))) rfl tk
    clear hf; intro a hf
    refine dr_takeK 4 (.bool (!((q49.1 == q27.1.1) && ((q49.2 == q27.1.2) && true)))) rfl hf rfl (fun w ⟨_, hp⟩ => ?_) ⟨_, hp⟩ ?_
    · exact st_move hf rfl rfl (by decide) tk
    clear hf; intro a hf
    refine dr_takeK 5 (.int .i64 q23.2) rfl hf (wantY hf rfl rfl hb52) (fun w ⟨_, hp⟩ => ?_) ⟨_, hp⟩ ?_
    · exact st_move hf (wantY hf rfl rfl hb52) rfl (by decide) tk
    clear hf; intro a hf
    refine dr_takeK 6 (.int .i64 q27.2) rfl hf (wantY hf rfl rfl hb52) (fun w ⟨_, hp⟩ => ?_) ⟨_, hp⟩ ?_
    · exact st_move hf (wantY hf rfl rfl hb52) rfl (by decide) tk
    clear hf; intro a hf
    refine dr_takeK 7 (.bool (q23.2 != q27.2)) rfl hf (wantY hf rfl rfl hb52) (fun w ⟨_, hp⟩ => ?_) ⟨_, hp⟩ ?_
    · exact st_ineq hf (by decide) (wantY hf rfl rfl hb52) rfl rfl tk
    clear hf; intro a hf
    refine dr_takeK 8 (.bool ((!((q49.1 == q27.1.1) && ((q49.2 == q27.1.2) && true))) || (q23.2 != q27.2))) rfl hf rfl (fun w ⟨_, hp⟩ => ?_) ⟨_, hp⟩ ?_
    · exact st_pick (v := .bool ((!((q49.1 == q27.1.1) && ((q49.2 == q27.1.2) && true))) || (q23.2 != q27.2))) hf rfl rfl (fun hb' => absurd (hb52.symm.trans hb') (by decide)) (fun _ => by rw [show ((!((q49.1 == q27.1.1) && ((q49.2 == q27.1.2) && true))) || (q23.2 != q27.2)) = (q23.2 != q27.2) from by rw [hb52]; rfl]; rfl) (by decide) tk
    clear hf; intro a hf
    refine dr_takeK 9 (.bool ((!((q49.1 == q27.1.1) && ((q49.2 == q27.1.2) && true))) || (q23.2 != q27.2))) rfl hf rfl (fun w ⟨_, hp⟩ => ?_) ⟨_, hp⟩ ?_
    · exact st_move hf rfl rfl (by decide) tk
    clear hf; intro a hf
    refine dr_takeK 10 (.int .i64 q33.1) rfl hf (wantY hf rfl rfl hb54) (fun w ⟨_, hp⟩ => ?_) ⟨_, hp⟩ ?_
    · exact st_move hf (wantY hf rfl rfl hb54) rfl (by decide) tk
    clear hf; intro a hf
    refine dr_takeK 11 (.int .i64 q35.1) rfl hf (wantY hf rfl rfl hb54) (fun w ⟨_, hp⟩ => ?_) ⟨_, hp⟩ ?_
    · exact st_move hf (wantY hf rfl rfl hb54) rfl (by decide) tk
    clear hf; intro a hf
    refine dr_takeK 12 (.bool (q33.1 != q35.1)) rfl hf (wantY hf rfl rfl hb54) (fun w ⟨_, hp⟩ => ?_) ⟨_, hp⟩ ?_
    · exact st_ineq hf (by decide) (wantY hf rfl rfl hb54) rfl rfl tk
    clear hf; intro a hf
    refine dr_takeK 13 (.bool (((!((q49.1 == q27.1.1) && ((q49.2 == q27.1.2) && true))) || (q23.2 != q27.2)) || (q33.1 != q35.1))) rfl hf rfl (fun w ⟨_, hp⟩ => ?_) ⟨_, hp⟩ ?_
    · exact st_pick (v := .bool (((!((q49.1 == q27.1.1) && ((q49.2 == q27.1.2) && true))) || (q23.2 != q27.2)) || (q33.1 != q35.1))) hf rfl rfl (fun hb' => absurd (hb54.symm.trans hb') (by decide)) (fun _ => by rw [show (((!((q49.1 == q27.1.1) && ((q49.2 == q27.1.2) && true))) || (q23.2 != q27.2)) || (q33.1 != q35.1)) = (q33.1 != q35.1) from by rw [hb54]; rfl]; rfl) (by decide) tk
    clear hf; intro a hf
    refine dr_takeK 14 (.bool (((!((q49.1 == q27.1.1) && ((q49.2 == q27.1.2) && true))) || (q23.2 != q27.2)) || (q33.1 != q35.1))) rfl hf rfl (fun w ⟨_, hp⟩ => ?_) ⟨_, hp⟩ ?_
    · exact st_move hf rfl rfl (by decide) tk
    clear hf; intro a hf
    refine dr_outK 15 rfl hf rfl (wantN hf rfl rfl hb56) ⟨_, hp⟩ ?_
    clear hf; intro a hf
    refine dr_outK 16 rfl hf rfl (wantN hf rfl rfl hb56) ⟨_, hp⟩ ?_
    clear hf; intro a hf
    refine dr_outK 17 rfl hf rfl (wantN hf rfl rfl hb56) ⟨_, hp⟩ ?_
    clear hf; intro a hf
    refine dr_takeK 18 (.bool ((((!((q49.1 == q27.1.1) && ((q49.2 == q27.1.2) && true))) || (q23.2 != q27.2)) || (q33.1 != q35.1)) || (q33.2 != q35.2))) rfl hf rfl (fun w ⟨_, hp⟩ => ?_) ⟨_, hp⟩ ?_
    · exact st_pick (v := .bool ((((!((q49.1 == q27.1.1) && ((q49.2 == q27.1.2) && true))) || (q23.2 != q27.2)) || (q33.1 != q35.1)) || (q33.2 != q35.2))) hf rfl rfl (fun _ => by rw [show ((((!((q49.1 == q27.1.1) && ((q49.2 == q27.1.2) && true))) || (q23.2 != q27.2)) || (q33.1 != q35.1)) || (q33.2 != q35.2)) = true from by rw [hb56]; rfl]; rfl) (fun hb' => absurd (hb56.symm.trans hb') (by decide)) (by decide) tk
    clear hf; intro a hf
    refine dr_end (by kernel_rfl) ?_ _
    have hp := bk46 _ _ hp
    have hp := bk41 _ _ hp
    exact ⟨hf.sub ⟨rfl, rfl, rfl, rfl, trivial⟩, hp⟩
   skip
   refine dr_begin' _ (fun w' => ∃ l, Hp S42 w w' l) [] (by kernel_rfl) ?_
   refine dr_takeK 0 (.agg #[.int .i64 q23.1.1, .int .i64 q23.1.2]) rfl hf rfl (fun w ⟨_, hp⟩ => ?_) ⟨_, hp⟩ ?_
   · exact st_ldOA (m := 2) (us := [.int .i64 q23.1.1, .int .i64 q23.1.2]) hf (by decide) (by kernel_rfl) rfl rfl (rl47.ob hp) rfl rfl tk
   clear hf; intro a hf
   refine dr_takeK 2 (.agg #[.int .i64 q27.1.1, .int .i64 q27.1.2]) rfl hf rfl (fun w ⟨_, hp⟩ => ?_) ⟨_, hp⟩ ?_
   · exact st_ldOA (m := 2) (us := [.int .i64 q27.1.1, .int .i64 q27.1.2]) hf (by decide) (by kernel_rfl) rfl rfl (rl48.ob hp) rfl rfl tk
   clear hf; intro a hf
   refine dr_one 1 rfl (by kernel_rfl) ?_
   refine st_call hf (by decide) Try.func43 rfl rfl rfl rfl rfl (f_foghornlaw03_ref_c hp _ _ hcall50) ?_
   rintro _ w ⟨rfl, hp0⟩
   clear hp; have hp := hp0; clear hp0
   replace hp : Hp _ _ _ (_ :: _ :: _ :: ow) := hp
   refine ⟨_, rfl, ?_⟩
   clear hf; intro a hf
   refine nx hf (fun _ _ => ⟨_, hp⟩) ?_
   refine dr_takeK 3 (.bool (!((q49.1 == q27.1.1) && ((q49.2 == q27.1.2) && true)))) rfl hf rfl (fun w ⟨_, hp⟩ => ?_) ⟨_, hp⟩ ?_
   · exact st_neA (xs := [.int .i64 q49.1, .int .i64 q49.2]) (ys := [.int .i64 q27.1.1, .int .i64 q27.1.2]) hf (by decide) (by kernel_rfl) (by kernel_rfl) (by kernel_rfl) (by kernel_rfl) rfl rfl rfl (b := (!((q49.1 == q27.1.1) && ((q49.2 == q27.1.2) && true)))) rfl tk
   clear hf; intro a hf
   refine dr_takeK 4 (.bool (!((q49.1 == q27.1.1) && ((q49.2 == q27.1.2) && true)))) rfl hf rfl (fun w ⟨_, hp⟩ => ?_) ⟨_, hp⟩ ?_
   · exact st_move hf rfl rfl (by decide) tk
   clear hf; intro a hf
   refine dr_takeK 5 (.int .i64 q23.2) rfl hf (wantY hf rfl rfl hb52) (fun w ⟨_, hp⟩ => ?_) ⟨_, hp⟩ ?_
   · exact st_move hf (wantY hf rfl rfl hb52) rfl (by decide) tk
   clear hf; intro a hf
   refine dr_takeK 6 (.int .i64 q27.2) rfl hf (wantY hf rfl rfl hb52) (fun w ⟨_, hp⟩ => ?_) ⟨_, hp⟩ ?_
   · exact st_move hf (wantY hf rfl rfl hb52) rfl (by decide) tk
   clear hf; intro a hf
   refine dr_takeK 7 (.bool (q23.2 != q27.2)) rfl hf (wantY hf rfl rfl hb52) (fun w ⟨_, hp⟩ => ?_) ⟨_, hp⟩ ?_
   · exact st_ineq hf (by decide) (wantY hf rfl rfl hb52) rfl rfl tk
   clear hf; intro a hf
   refine dr_takeK 8 (.bool ((!((q49.1 == q27.1.1) && ((q49.2 == q27.1.2) && true))) || (q23.2 != q27.2))) rfl hf rfl (fun w ⟨_, hp⟩ => ?_) ⟨_, hp⟩ ?_
   · exact st_pick (v := .bool ((!((q49.1 == q27.1.1) && ((q49.2 == q27.1.2) && true))) || (q23.2 != q27.2))) hf rfl rfl (fun hb' => absurd (hb52.symm.trans hb') (by decide)) (fun _ => by rw [show ((!((q49.1 == q27.1.1) && ((q49.2 == q27.1.2) && true))) || (q23.2 != q27.2)) = (q23.2 != q27.2) from by rw [hb52]; rfl]; rfl) (by decide) tk
   clear hf; intro a hf
   refine dr_takeK 9 (.bool ((!((q49.1 == q27.1.1) && ((q49.2 == q27.1.2) && true))) || (q23.2 != q27.2))) rfl hf rfl (fun w ⟨_, hp⟩ => ?_) ⟨_, hp⟩ ?_
   · exact st_move hf rfl rfl (by decide) tk
   clear hf; intro a hf
   refine dr_takeK 10 (.int .i64 q33.1) rfl hf (wantY hf rfl rfl hb54) (fun w ⟨_, hp⟩ => ?_) ⟨_, hp⟩ ?_
   · exact st_move hf (wantY hf rfl rfl hb54) rfl (by decide) tk
   clear hf; intro a hf
   refine dr_takeK 11 (.int .i64 q35.1) rfl hf (wantY hf rfl rfl hb54) (fun w ⟨_, hp⟩ => ?_) ⟨_, hp⟩ ?_
   · exact st_move hf (wantY hf rfl rfl hb54) rfl (by decide) tk
   clear hf; intro a hf
   refine dr_takeK 12 (.bool (q33.1 != q35.1)) rfl hf (wantY hf rfl rfl hb54) (fun w ⟨_, hp⟩ => ?_) ⟨_, hp⟩ ?_
   · exact st_ineq hf (by decide) (wantY hf rfl rfl hb54) rfl rfl tk
   clear hf; intro a hf
   refine dr_takeK 13 (.bool (((!((q49.1 == q27.1.1) && ((q49.2 == q27.1.2) && true))) || (q23.2 != q27.2)) || (q33.1 != q35.1))) rfl hf rfl (fun w ⟨_, hp⟩ => ?_) ⟨_, hp⟩ ?_
   · exact st_pick (v := .bool (((!((q49.1 == q27.1.1) && ((q49.2 == q27.1.2) && true))) || (q23.2 != q27.2)) || (q33.1 != q35.1))) hf rfl rfl (fun hb' => absurd (hb54.symm.trans hb') (by decide)) (fun _ => by rw [show (((!((q49.1 == q27.1.1) && ((q49.2 == q27.1.2) && true))) || (q23.2 != q27.2)) || (q33.1 != q35.1)) = (q33.1 != q35.1) from by rw [hb54]; rfl]; rfl) (by decide) tk
   clear hf; intro a hf
   refine dr_takeK 14 (.bool (((!((q49.1 == q27.1.1) && ((q49.2 == q27.1.2) && true))) || (q23.2 != q27.2)) || (q33.1 != q35.1))) rfl hf rfl (fun w ⟨_, hp⟩ => ?_) ⟨_, hp⟩ ?_
   · exact st_move hf rfl rfl (by decide) tk
   clear hf; intro a hf
   refine dr_takeK 15 (.int .i64 q33.2) rfl hf (wantY hf rfl rfl hb56) (fun w ⟨_, hp⟩ => ?_) ⟨_, hp⟩ ?_
   · exact st_move hf (wantY hf rfl rfl hb56) rfl (by decide) tk
   clear hf; intro a hf
   refine dr_takeK 16 (.int .i64 q35.2) rfl hf (wantY hf rfl rfl hb56) (fun w ⟨_, hp⟩ => ?_) ⟨_, hp⟩ ?_
   · exact st_move hf (wantY hf rfl rfl hb56) rfl (by decide) tk
   clear hf; intro a hf
   refine dr_takeK 17 (.bool (q33.2 != q35.2)) rfl hf (wantY hf rfl rfl hb56) (fun w ⟨_, hp⟩ => ?_) ⟨_, hp⟩ ?_
   · exact st_ineq hf (by decide) (wantY hf rfl rfl hb56) rfl rfl tk
   clear hf; intro a hf
   refine dr_takeK 18 (.bool ((((!((q49.1 == q27.1.1) && ((q49.2 == q27.1.2) && true))) || (q23.2 != q27.2)) || (q33.1 != q35.1)) || (q33.2 != q35.2))) rfl hf rfl (fun w ⟨_, hp⟩ => ?_) ⟨_, hp⟩ ?_
   · exact st_pick (v := .bool ((((!((q49.1 == q27.1.1) && ((q49.2 == q27.1.2) && true))) || (q23.2 != q27.2)) || (q33.1 != q35.1)) || (q33.2 != q35.2))) hf rfl rfl (fun hb' => absurd (hb56.symm.trans hb') (by decide)) (fun _ => by rw [show ((((!((q49.1 == q27.1.1) && ((q49.2 == q27.1.2) && true))) || (q23.2 != q27.2)) || (q33.1 != q35.1)) || (q33.2 != q35.2)) = (q33.2 != q35.2) from by rw [hb56]; rfl]; rfl) (by decide) tk
   clear hf; intro a hf
   refine dr_end (by kernel_rfl) ?_ _
   have hp := bk46 _ _ hp
   have hp := bk41 _ _ hp
   exact ⟨hf.sub ⟨rfl, rfl, rfl, rfl, trivial⟩, hp⟩
  rintro a w ⟨hf, hp⟩
  refine th_n ?_
  refine wp_if hf rfl (fun hb => ?_) (fun hb => ?_)
  ·
   replace h := ifT h hb
   refine wp_seq ?_
   refine wp_reg ?_
   refine st_assign hf rfl rfl (by decide) ?_
   clear hf; intro a ha hf; clear ha
   refine st_nil hf ?_
   refine th_n ?_
   refine wp_ret ?_
   refine th_r ?_
   obtain rfl := Option.some.inj h
   have hp : Hp _ _ _ (ow) := Hp.sel (pre := [Res.obj 56 v25 [.int .i64 q23.1.1, .int .i64 q23.1.2], Res.obj 74 v29 [.int .i64 q27.1.1, .int .i64 q27.1.2], Res.obj 74 v1 [.int .i64 ax0_Re, .int .i64 ax0_Im], Res.obj 74 v3 [.int .i64 bx1_Re, .int .i64 bx1_Im], Res.obj 76 v5 [.int .i64 xx2_Depth, .int .u32 xx2_Class, .float .f64 bxx2_Z_0, .float .f64 bxx2_Z_1]]) (tail := ow) (rs' := []) hp [] (by decide) (by simp) rfl
   exact ⟨rfl, ⟨hf.sub ⟨rfl, trivial⟩, hp⟩⟩
  replace h := ifF h hb
  refine wp_skip ?_
  refine th_n ?_
  refine wp_seq ?_
  obtain ⟨S57, hp58, rd59, up60, bk61⟩ := Hp.lendO hp (i := 2) rfl
  obtain ⟨S62, hp63, rd64, up65, bk66⟩ := Hp.lendO hp58 (i := 2) rfl
  have rl67 := ((rd59.now hp58).mono up65)
  have rl68 := rd64
  obtain ⟨q69, hcall70, h⟩ := bnd h
  obtain ⟨q71, hcall72, h⟩ := bnd h
  obtain ⟨q73, hcall74, h⟩ := bnd h
  refine wp_cutN (fun a w => ∃ (v75 : Value) (v77 : Value), Fr 239 a [(3, optr v1 0), (4, optr v3 0), (5, optr v5 0), (8, .int .i64 q73.2.2), (15, optr v75 0), (16, optr v77 0)] ∧ Hp S w0 w (Res.obj 74 v1 [.int .i64 ax0_Re, .int .i64 ax0_Im] :: Res.obj 74 v3 [.int .i64 bx1_Re, .int .i64 bx1_Im] :: Res.obj 56 v77 [.int .i64 q73.2.1.1, .int .i64 q73.2.1.2] :: Res.obj 56 v75 [.int .i64 q73.1.1, .int .i64 q73.1.2] :: Res.obj 56 v25 [.int .i64 q23.1.1, .int .i64 q23.1.2] :: Res.obj 74 v29 [.int .i64 q27.1.1, .int .i64 q27.1.2] :: Res.obj 76 v5 [.int .i64 xx2_Depth, .int .u32 xx2_Class, .float .f64 bxx2_Z_0, .float .f64 bxx2_Z_1] :: ow)) ?_ ?_
  ·
   have hp := hp63.same (Same.drew w)
   refine dr_begin' _ (fun w' => ∃ l, Hp S62 w w' l) [] (by kernel_rfl) ?_
   refine dr_takeK 0 (.agg #[.int .i64 ax0_Re, .int .i64 ax0_Im]) rfl hf rfl (fun w ⟨_, hp⟩ => ?_) ⟨_, hp⟩ ?_
   · exact st_ldOA (m := 2) (us := [.int .i64 ax0_Re, .int .i64 ax0_Im]) hf (by decide) (by kernel_rfl) rfl rfl (rl67.ob hp) rfl rfl tk
   clear hf; intro a hf
   refine dr_takeK 2 (.agg #[.int .i64 bx1_Re, .int .i64 bx1_Im]) rfl hf rfl (fun w ⟨_, hp⟩ => ?_) ⟨_, hp⟩ ?_
   · exact st_ldOA (m := 2) (us := [.int .i64 bx1_Re, .int .i64 bx1_Im]) hf (by decide) (by kernel_rfl) rfl rfl (rl68.ob hp) rfl rfl tk
   clear hf; intro a hf
   refine dr_three 1 9 10 rfl rfl rfl (by kernel_rfl) ?_ ?_ ?_
   ·
    refine st_call hf (by decide) Try.func40 rfl rfl rfl rfl rfl (f_foghornlaw03_own_c hp _ _ hcall70) ?_
    rintro _ w ⟨rfl, hp0⟩
    clear hp; have hp := hp0; clear hp0
    replace hp : Hp _ _ _ (Res.obj 56 v25 [.int .i64 q23.1.1, .int .i64 q23.1.2] :: Res.obj 74 v29 [.int .i64 q27.1.1, .int .i64 q27.1.2] :: _ :: ow) := hp
    refine ⟨_, rfl, ?_⟩
    clear hf; intro a hf
    refine nx hf (fun _ _ => ⟨_, hp⟩) ?_
    refine dr_three 3 9 10 rfl rfl rfl (by kernel_rfl) ?_ ?_ ?_
    ·
     refine st_call hf (by decide) Try.func40 rfl rfl rfl rfl rfl (f_foghornlaw03_own_c hp _ _ hcall72) ?_
     rintro _ w ⟨rfl, hp0⟩
     clear hp; have hp := hp0; clear hp0
     replace hp : Hp _ _ _ (_ :: _ :: _ :: ow) := hp
     refine ⟨_, rfl, ?_⟩
     clear hf; intro a hf
     refine nx hf (fun _ _ => ⟨_, hp⟩) ?_
     refine dr_three 4 9 10 rfl rfl rfl (by kernel_rfl) ?_ ?_ ?_
     ·
      refine st_call hf (by decide) Try.func34 rfl rfl rfl rfl rfl (f_plane_Gauss_By_c hp _ _ _ _ hcall74) ?_
      rintro _ w ⟨rfl, hp0⟩
      clear hp; have hp := hp0; clear hp0
      replace hp : Hp _ _ _ (_ :: _ :: _ :: ow) := hp
      refine ⟨_, rfl, ?_⟩
      clear hf; intro a hf
      refine nx hf (fun _ _ => ⟨_, hp⟩) ?_
      refine dr_takeK 5 (.tuple #[.agg #[.int .i64 q73.1.1, .int .i64 q73.1.2], .agg #[.int .i64 q73.2.1.1, .int .i64 q73.2.1.2], .int .i64 q73.2.2]) rfl hf rfl (fun w ⟨_, hp⟩ => ?_) ⟨_, hp⟩ ?_
      · exact st_move hf rfl rfl (by decide) tk
      clear hf; intro a hf
      refine dr_takeK 6 (.agg #[.int .i64 q73.1.1, .int .i64 q73.1.2]) rfl hf rfl (fun w ⟨_, hp⟩ => ?_) ⟨_, hp⟩ ?_
      · exact st_extract hf (by decide) rfl rfl rfl tk
      clear hf; intro a hf
      refine dr_takeK 7 (.agg #[.int .i64 q73.2.1.1, .int .i64 q73.2.1.2]) rfl hf rfl (fun w ⟨_, hp⟩ => ?_) ⟨_, hp⟩ ?_
      · exact st_extract hf (by decide) rfl rfl rfl tk
      clear hf; intro a hf
      refine dr_takeK 8 (.int .i64 q73.2.2) rfl hf rfl (fun w ⟨_, hp⟩ => ?_) ⟨_, hp⟩ ?_
      · exact st_extract hf (by decide) rfl rfl rfl tk
      clear hf; intro a hf
      refine dr_two 9 10 rfl rfl (by kernel_rfl) ?_ ?_
      ·
       refine st_alloc (cs := [.int .i64 (0 : Int), .int .i64 (0 : Int)]) (zv := .agg #[.int .i64 (0 : Int), .int .i64 (0 : Int)]) hf (by decide) (by kernel_rfl) rfl hp rfl ?_
       clear hf; intro a w v75 hf hp0; clear hp; have hp := hp0; clear hp0
       replace hp : Hp _ _ _ (Res.obj 56 v75 [.int .i64 (0 : Int), .int .i64 (0 : Int)] :: _ :: _ :: _ :: ow) := hp
       refine nx hf (fun _ _ => ⟨_, hp⟩) ?_
       refine dr_one 10 rfl (by kernel_rfl) ?_
       refine st_alloc (cs := [.int .i64 (0 : Int), .int .i64 (0 : Int)]) (zv := .agg #[.int .i64 (0 : Int), .int .i64 (0 : Int)]) hf (by decide) (by kernel_rfl) rfl hp rfl ?_
       clear hf; intro a w v77 hf hp0; clear hp; have hp := hp0; clear hp0
       replace hp : Hp _ _ _ (Res.obj 56 v77 [.int .i64 (0 : Int), .int .i64 (0 : Int)] :: _ :: _ :: _ :: _ :: ow) := hp
       refine nx hf (fun _ _ => ⟨_, hp⟩) ?_
       refine dr_one 11 rfl (by kernel_rfl) ?_
       refine st_stO (us := [.int .i64 q73.1.1, .int .i64 q73.1.2]) hf hp (i := 1) rfl rfl rfl rfl rfl (by rfl) (by kernel_rfl) (Nat.le_of_ble_eq_true rfl) ?_
       clear hf; intro a w hf hp0; clear hp; have hp := hp0; clear hp0
       replace hp : Hp _ _ _ (_ :: Res.obj 56 v75 [.int .i64 q73.1.1, .int .i64 q73.1.2] :: _ :: _ :: _ :: ow) := hp
       refine nx hf (fun _ _ => ⟨_, hp⟩) ?_
       refine dr_one 12 rfl (by kernel_rfl) ?_
       refine st_stO (us := [.int .i64 q73.2.1.1, .int .i64 q73.2.1.2]) hf hp (i := 0) rfl rfl rfl rfl rfl (by rfl) (by kernel_rfl) (Nat.le_of_ble_eq_true rfl) ?_
       clear hf; intro a w hf hp0; clear hp; have hp := hp0; clear hp0
       replace hp : Hp _ _ _ (Res.obj 56 v77 [.int .i64 q73.2.1.1, .int .i64 q73.2.1.2] :: _ :: _ :: _ :: _ :: ow) := hp
       refine nx hf (fun _ _ => ⟨_, hp⟩) ?_
       refine dr_takeK 13 (.int .i64 q73.2.2) rfl hf rfl (fun w ⟨_, hp⟩ => ?_) ⟨_, hp⟩ ?_
       · exact st_assign hf rfl rfl (by decide) tk
       clear hf; intro a hf
       refine dr_end (by kernel_rfl) ?_ _
       have hp := bk66 _ _ hp
       have hp := bk61 _ _ hp
       exact ⟨v75, v77, hf.sub ⟨rfl, rfl, rfl, rfl, rfl, rfl, trivial⟩, hp⟩
      ·
       refine st_alloc (cs := [.int .i64 (0 : Int), .int .i64 (0 : Int)]) (zv := .agg #[.int .i64 (0 : Int), .int .i64 (0 : Int)]) hf (by decide) (by kernel_rfl) rfl hp rfl ?_
       clear hf; intro a w v77 hf hp0; clear hp; have hp := hp0; clear hp0
       replace hp : Hp _ _ _ (Res.obj 56 v77 [.int .i64 (0 : Int), .int .i64 (0 : Int)] :: _ :: _ :: _ :: ow) := hp
       refine nx hf (fun _ _ => ⟨_, hp⟩) ?_
       refine dr_one 9 rfl (by kernel_rfl) ?_
       refine st_alloc (cs := [.int .i64 (0 : Int), .int .i64 (0 : Int)]) (zv := .agg #[.int .i64 (0 : Int), .int .i64 (0 : Int)]) hf (by decide) (by kernel_rfl) rfl hp rfl ?_
       clear hf; intro a w v75 hf hp0; clear hp; have hp := hp0; clear hp0
       replace hp : Hp _ _ _ (Res.obj 56 v75 [.int .i64 (0 : Int), .int .i64 (0 : Int)] :: _ :: _ :: _ :: _ :: ow) := hp
       refine nx hf (fun _ _ => ⟨_, hp⟩) ?_
       refine dr_one 11 rfl (by kernel_rfl) ?_
       refine st_stO (us := [.int .i64 q73.1.1, .int .i64 q73.1.2]) hf hp (i := 0) rfl rfl rfl rfl rfl (by rfl) (by kernel_rfl) (Nat.le_of_ble_eq_true rfl) ?_
       clear hf; intro a w hf hp0; clear hp; have hp := hp0; clear hp0
       replace hp : Hp _ _ _ (Res.obj 56 v75 [.int .i64 q73.1.1, .int .i64 q73.1.2] :: _ :: _ :: _ :: _ :: ow) := hp
       refine nx hf (fun _ _ => ⟨_, hp⟩) ?_
       refine dr_one 12 rfl (by kernel_rfl) ?_
       refine st_stO (us := [.int .i64 q73.2.1.1, .int .i64 q73.2.1.2]) hf hp (i := 1) rfl rfl rfl rfl rfl (by rfl) (by kernel_rfl) (Nat.le_of_ble_eq_true rfl) ?_
       clear hf; intro a w hf hp0; clear hp; have hp := hp0; clear hp0
       replace hp : Hp _ _ _ (_ :: Res.obj 56 v77 [.int .i64 q73.2.1.1, .int .i64 q73.2.1.2] :: _ :: _ :: _ :: ow) := hp
       refine nx hf (fun _ _ => ⟨_, hp⟩) ?_
       refine dr_takeK 13 (.int .i64 q73.2.2) rfl hf rfl (fun w ⟨_, hp⟩ => ?_) ⟨_, hp⟩ ?_
       · exact st_assign hf rfl rfl (by decide) tk
       clear hf; intro a hf
       refine dr_end (by kernel_rfl) ?_ _
       have hp : Hp _ _ _ (_ :: _ :: _ :: _ :: _ :: ow) := Hp.sel (pre := [Res.obj 56 v75 [.int .i64 q73.1.1, .int .i64 q73.1.2], Res.obj 56 v77 [.int .i64 q73.2.1.1, .int .i64 q73.2.1.2], Res.obj 56 v25 [.int .i64 q23.1.1, .int .i64 q23.1.2], Res.obj 74 v29 [.int .i64 q27.1.1, .int .i64 q27.1.2], Res.obj 76 v5 [.int .i64 xx2_Depth, .int .u32 xx2_Class, .float .f64 bxx2_Z_0, .float .f64 bxx2_Z_1]]) (tail := ow) (rs' := [Res.obj 56 v77 [.int .i64 q73.2.1.1, .int .i64 q73.2.1.2], Res.obj 56 v75 [.int .i64 q73.1.1, .int .i64 q73.1.2], Res.obj 56 v25 [.int .i64 q23.1.1, .int .i64 q23.1.2], Res.obj 74 v29 [.int .i64 q27.1.1, .int .i64 q27.1.2], Res.obj 76 v5 [.int .i64 xx2_Depth, .int .u32 xx2_Class, .float .f64 bxx2_Z_0, .float .f64 bxx2_Z_1]]) hp [1, 0, 2, 3, 4] (by decide) (by simp) rfl
       have hp := bk66 _ _ hp
       have hp := bk61 _ _ hp
       exact ⟨v75, v77, hf.sub ⟨rfl, rfl, rfl, rfl, rfl, rfl, trivial⟩, hp⟩
     ·
      refine st_alloc (cs := [.int .i64 (0 : Int), .int .i64 (0 : Int)]) (zv := .agg #[.int .i64 (0 : Int), .int .i64 (0 : Int)]) hf (by decide) (by kernel_rfl) rfl hp rfl ?_
      clear hf; intro a w v75 hf hp0; clear hp; have hp := hp0; clear hp0
      replace hp : Hp _ _ _ (Res.obj 56 v75 [.int .i64 (0 : Int), .int .i64 (0 : Int)] :: _ :: _ :: _ :: ow) := hp
      refine nx hf (fun _ _ => ⟨_, hp⟩) ?_
      refine dr_two 4 10 rfl rfl (by kernel_rfl) ?_ ?_
      ·
       refine st_call hf (by decide) Try.func34 rfl rfl rfl rfl rfl (f_plane_Gauss_By_c hp _ _ _ _ hcall74) ?_
       rintro _ w ⟨rfl, hp0⟩
       clear hp; have hp := hp0; clear hp0
       replace hp : Hp _ _ _ (_ :: _ :: _ :: _ :: ow) := hp
       refine ⟨_, rfl, ?_⟩
       clear hf; intro a hf
       refine nx hf (fun _ _ => ⟨_, hp⟩) ?_
       refine dr_takeK 5 (.tuple #[.agg #[.int .i64 q73.1.1, .int .i64 q73.1.2], .agg #[.int .i64 q73.2.1.1, .int .i64 q73.2.1.2], .int .i64 q73.2.2]) rfl hf rfl (fun w ⟨_, hp⟩ => ?_) ⟨_, hp⟩ ?_
       · exact st_move hf rfl rfl (by decide) tk
       clear hf; intro a hf
       refine dr_takeK 6 (.agg #[.int .i64 q73.1.1, .int .i64 q73.1.2]) rfl hf rfl (fun w ⟨_, hp⟩ => ?_) ⟨_, hp⟩ ?_
       · exact st_extract hf (by decide) rfl rfl rfl tk
       clear hf; intro a hf
       refine dr_takeK 7 (.agg #[.int .i64 q73.2.1.1, .int .i64 q73.2.1.2]) rfl hf rfl (fun w ⟨_, hp⟩ => ?_) ⟨_, hp⟩ ?_
       · exact st_extract hf (by decide) rfl rfl rfl tk
       clear hf; intro a hf
       refine dr_takeK 8 (.int .i64 q73.2.2) rfl hf rfl (fun w ⟨_, hp⟩ => ?_) ⟨_, hp⟩ ?_
       · exact st_extract hf (by decide) rfl rfl rfl tk
       clear hf; intro a hf
       refine dr_one 10 rfl (by kernel_rfl) ?_
       refine st_alloc (cs := [.int .i64 (0 : Int), .int .i64 (0 : Int)]) (zv := .agg #[.int .i64 (0 : Int), .int .i64 (0 : Int)]) hf (by decide) (by kernel_rfl) rfl hp rfl ?_
       clear hf; intro a w v77 hf hp0; clear hp; have hp := hp0; clear hp0
       replace hp : Hp _ _ _ (Res.obj 56 v77 [.int .i64 (0 : Int), .int .i64 (0 : Int)] :: _ :: _ :: _ :: _ :: ow) := hp
       refine nx hf (fun _ _ => ⟨_, hp⟩) ?_
       refine dr_one 11 rfl (by kernel_rfl) ?_
       refine st_stO (us := [.int .i64 q73.1.1, .int .i64 q73.1.2]) hf hp (i := 1) rfl rfl rfl rfl rfl (by rfl) (by kernel_rfl) (Nat.le_of_ble_eq_true rfl) ?_
       clear hf; intro a w hf hp0; clear hp; have hp := hp0; clear hp0
       replace hp : Hp _ _ _ (_ :: Res.obj 56 v75 [.int .i64 q73.1.1, .int .i64 q73.1.2] :: _ :: _ :: _ :: ow) := hp
       refine nx hf (fun _ _ => ⟨_, hp⟩) ?_
       refine dr_one 12 rfl (by kernel_rfl) ?_
       refine st_stO (us := [.int .i64 q73.2.1.1, .int .i64 q73.2.1.2]) hf hp (i := 0) rfl rfl rfl rfl rfl (by rfl) (by kernel_rfl) (Nat.le_of_ble_eq_true rfl) ?_
       clear hf; intro a w hf hp0; clear hp; have hp := hp0; clear hp0
       replace hp : Hp _ _ _ (Res.obj 56 v77 [.int .i64 q73.2.1.1, .int .i64 q73.2.1.2] :: _ :: _ :: _ :: _ :: ow) := hp
       refine nx hf (fun _ _ => ⟨_, hp⟩) ?_
       refine dr_takeK 13 (.int .i64 q73.2.2) rfl hf rfl (fun w ⟨_, hp⟩ => ?_) ⟨_, hp⟩ ?_
       · exact st_assign hf rfl rfl (by decide) tk
       clear hf; intro a hf
       refine dr_end (by kernel_rfl) ?_ _
       have hp := bk66 _ _ hp
       have hp := bk61 _ _ hp
       exact ⟨v75, v77, hf.sub ⟨rfl, rfl, rfl, rfl, rfl, rfl, trivial⟩, hp⟩
      ·
       refine st_alloc (cs := [.int .i64 (0 : Int), .int .i64 (0 : Int)]) (zv := .agg #[.int .i64 (0 : Int), .int .i64 (0 : Int)]) hf (by decide) (by kernel_rfl) rfl hp rfl ?_
       clear hf; intro a w v77 hf hp0; clear hp; have hp := hp0; clear hp0
       replace hp : Hp _ _ _ (Res.obj 56 v77 [.int .i64 (0 : Int), .int .i64 (0 : Int)] :: Res.obj 56 v75 [.int .i64 (0 : Int), .int .i64 (0 : Int)] :: _ :: _ :: _ :: ow) := hp
       refine nx hf (fun _ _ => ⟨_, hp⟩) ?_
       refine dr_one 4 rfl (by kernel_rfl) ?_
       refine st_call hf (by decide) Try.func34 rfl rfl rfl rfl rfl (f_plane_Gauss_By_c hp _ _ _ _ hcall74) ?_
       rintro _ w ⟨rfl, hp0⟩
       clear hp; have hp := hp0; clear hp0
       replace hp : Hp _ _ _ (_ :: _ :: _ :: _ :: _ :: ow) := hp
       refine ⟨_, rfl, ?_⟩
       clear hf; intro a hf
       refine nx hf (fun _ _ => ⟨_, hp⟩) ?_
       refine dr_takeK 5 (.tuple #[.agg #[.int .i64 q73.1.1, .int .i64 q73.1.2], .agg #[.int .i64 q73.2.1.1, .int .i64 q73.2.1.2], .int .i64 q73.2.2]) rfl hf rfl (fun w ⟨_, hp⟩ => ?_) ⟨_, hp⟩ ?_
       · exact st_move hf rfl rfl (by decide) tk
       clear hf; intro a hf
       refine dr_takeK 6 (.agg #[.int .i64 q73.1.1, .int .i64 q73.1.2]) rfl hf rfl (fun w ⟨_, hp⟩ => ?_) ⟨_, hp⟩ ?_
       · exact st_extract hf (by decide) rfl rfl rfl tk
       clear hf; intro a hf
       refine dr_takeK 7 (.agg #[.int .i64 q73.2.1.1, .int .i64 q73.2.1.2]) rfl hf rfl (fun w ⟨_, hp⟩ => ?_) ⟨_, hp⟩ ?_
       · exact st_extract hf (by decide) rfl rfl rfl tk
       clear hf; intro a hf
       refine dr_takeK 8 (.int .i64 q73.2.2) rfl hf rfl (fun w ⟨_, hp⟩ => ?_) ⟨_, hp⟩ ?_
       · exact st_extract hf (by decide) rfl rfl rfl tk
       clear hf; intro a hf
       refine dr_one 11 rfl (by kernel_rfl) ?_
       refine st_stO (us := [.int .i64 q73.1.1, .int .i64 q73.1.2]) hf hp (i := 1) rfl rfl rfl rfl rfl (by rfl) (by kernel_rfl) (Nat.le_of_ble_eq_true rfl) ?_
       clear hf; intro a w hf hp0; clear hp; have hp := hp0; clear hp0
       replace hp : Hp _ _ _ (_ :: Res.obj 56 v75 [.int .i64 q73.1.1, .int .i64 q73.1.2] :: _ :: _ :: _ :: ow) := hp
       refine nx hf (fun _ _ => ⟨_, hp⟩) ?_
       refine dr_one 12 rfl (by kernel_rfl) ?_
       refine st_stO (us := [.int .i64 q73.2.1.1, .int .i64 q73.2.1.2]) hf hp (i := 0) rfl rfl rfl rfl rfl (by rfl) (by kernel_rfl) (Nat.le_of_ble_eq_true rfl) ?_
       clear hf; intro a w hf hp0; clear hp; have hp := hp0; clear hp0
       replace hp : Hp _ _ _ (Res.obj 56 v77 [.int .i64 q73.2.1.1, .int .i64 q73.2.1.2] :: _ :: _ :: _ :: _ :: ow) := hp
       refine nx hf (fun _ _ => ⟨_, hp⟩) ?_
       refine dr_takeK 13 (.int .i64 q73.2.2) rfl hf rfl (fun w ⟨_, hp⟩ => ?_) ⟨_, hp⟩ ?_
       · exact st_assign hf rfl rfl (by decide) tk
       clear hf; intro a hf
       refine dr_end (by kernel_rfl) ?_ _
       have hp := bk66 _ _ hp
       have hp := bk61 _ _ hp
       exact ⟨v75, v77, hf.sub ⟨rfl, rfl, rfl, rfl, rfl, rfl, trivial⟩, hp⟩
     ·
      refine st_alloc (cs := [.int .i64 (0 : Int), .int .i64 (0 : Int)]) (zv := .agg #[.int .i64 (0 : Int), .int .i64 (0 : Int)]) hf (by decide) (by kernel_rfl) rfl hp rfl ?_
      clear hf; intro a w v77 hf hp0; clear hp; have hp := hp0; clear hp0
      replace hp : Hp _ _ _ (Res.obj 56 v77 [.int .i64 (0 : Int), .int .i64 (0 : Int)] :: _ :: _ :: _ :: ow) := hp
      refine nx hf (fun _ _ => ⟨_, hp⟩) ?_
      refine dr_two 4 9 rfl rfl (by kernel_rfl) ?_ ?_
      ·
       refine st_call hf (by decide) Try.func34 rfl rfl rfl rfl rfl (f_plane_Gauss_By_c hp _ _ _ _ hcall74) ?_
       rintro _ w ⟨rfl, hp0⟩
       clear hp; have hp := hp0; clear hp0
       replace hp : Hp _ _ _ (_ :: _ :: _ :: _ :: ow) := hp
       refine ⟨_, rfl, ?_⟩
       clear hf; intro a hf
       refine nx hf (fun _ _ => ⟨_, hp⟩) ?_
       refine dr_takeK 5 (.tuple #[.agg #[.int .i64 q73.1.1, .int .i64 q73.1.2], .agg #[.int .i64 q73.2.1.1, .int .i64 q73.2.1.2], .int .i64 q73.2.2]) rfl hf rfl (fun w ⟨_, hp⟩ => ?_) ⟨_, hp⟩ ?_
       · exact st_move hf rfl rfl (by decide) tk
       clear hf; intro a hf
       refine dr_takeK 6 (.agg #[.int .i64 q73.1.1, .int .i64 q73.1.2]) rfl hf rfl (fun w ⟨_, hp⟩ => ?_) ⟨_, hp⟩ ?_
       · exact st_extract hf (by decide) rfl rfl rfl tk
       clear hf; intro a hf
       refine dr_takeK 7 (.agg #[.int .i64 q73.2.1.1, .int .i64 q73.2.1.2]) rfl hf rfl (fun w ⟨_, hp⟩ => ?_) ⟨_, hp⟩ ?_
       · exact st_extract hf (by decide) rfl rfl rfl tk
       clear hf; intro a hf
       refine dr_takeK 8 (.int .i64 q73.2.2) rfl hf rfl (fun w ⟨_, hp⟩ => ?_) ⟨_, hp⟩ ?_
       · exact st_extract hf (by decide) rfl rfl rfl tk
       clear hf; intro a hf
       refine dr_one 9 rfl (by kernel_rfl) ?_
       refine st_alloc (cs := [.int .i64 (0 : Int), .int .i64 (0 : Int)]) (zv := .agg #[.int .i64 (0 : Int), .int .i64 (0 : Int)]) hf (by decide) (by kernel_rfl) rfl hp rfl ?_
       clear hf; intro a w v75 hf hp0; clear hp; have hp := hp0; clear hp0
       replace hp : Hp _ _ _ (Res.obj 56 v75 [.int .i64 (0 : Int), .int .i64 (0 : Int)] :: _ :: _ :: _ :: _ :: ow) := hp
       refine nx hf (fun _ _ => ⟨_, hp⟩) ?_
       refine dr_one 11 rfl (by kernel_rfl) ?_
       refine st_stO (us := [.int .i64 q73.1.1, .int .i64 q73.1.2]) hf hp (i := 0) rfl rfl rfl rfl rfl (by rfl) (by kernel_rfl) (Nat.le_of_ble_eq_true rfl) ?_
       clear hf; intro a w hf hp0; clear hp; have hp := hp0; clear hp0
       replace hp : Hp _ _ _ (Res.obj 56 v75 [.int .i64 q73.1.1, .int .i64 q73.1.2] :: _ :: _ :: _ :: _ :: ow) := hp
       refine nx hf (fun _ _ => ⟨_, hp⟩) ?_
       refine dr_one 12 rfl (by kernel_rfl) ?_
       refine st_stO (us := [.int .i64 q73.2.1.1, .int .i64 q73.2.1.2]) hf hp (i := 1) rfl rfl rfl rfl rfl (by rfl) (by kernel_rfl) (Nat.le_of_ble_eq_true rfl) ?_
       clear hf; intro a w hf hp0; clear hp; have hp := hp0; clear hp0
       replace hp : Hp _ _ _ (_ :: Res.obj 56 v77 [.int .i64 q73.2.1.1, .int .i64 q73.2.1.2] :: _ :: _ :: _ :: ow) := hp
       refine nx hf (fun _ _ => ⟨_, hp⟩) ?_
       refine dr_takeK 13 (.int .i64 q73.2.2) rfl hf rfl (fun w ⟨_, hp⟩ => ?_) ⟨_, hp⟩ ?_
       · exact st_assign hf rfl rfl (by decide) tk
       clear hf; intro a hf
       refine dr_end (by kernel_rfl) ?_ _
       have hp : Hp _ _ _ (_ :: _ :: _ :: _ :: _ :: ow) := Hp.sel (pre := [Res.obj 56 v75 [.int .i64 q73.1.1, .int .i64 q73.1.2], Res.obj 56 v77 [.int .i64 q73.2.1.1, .int .i64 q73.2.1.2], Res.obj 56 v25 [.int .i64 q23.1.1, .int .i64 q23.1.2], Res.obj 74 v29 [.int .i64 q27.1.1, .int .i64 q27.1.2], Res.obj 76 v5 [.int .i64 xx2_Depth, .int .u32 xx2_Class, .float .f64 bxx2_Z_0, .float .f64 bxx2_Z_1]]) (tail := ow) (rs' := [Res.obj 56 v77 [.int .i64 q73.2.1.1, .int .i64 q73.2.1.2], Res.obj 56 v75 [.int .i64 q73.1.1, .int .i64 q73.1.2], Res.obj 56 v25 [.int .i64 q23.1.1, .int .i64 q23.1.2], Res.obj 74 v29 [.int .i64 q27.1.1, .int .i64 q27.1.2], Res.obj 76 v5 [.int .i64 xx2_Depth, .int .u32 xx2_Class, .float .f64 bxx2_Z_0, .float .f64 bxx2_Z_1]]) hp [1, 0, 2, 3, 4] (by decide) (by simp) rfl
       have hp := bk66 _ _ hp
       have hp := bk61 _ _ hp
       exact ⟨v75, v77, hf.sub ⟨rfl, rfl, rfl, rfl, rfl, rfl, trivial⟩, hp⟩
      ·
       refine st_alloc (cs := [.int .i64 (0 : Int), .int .i64 (0 : Int)]) (zv := .agg #[.int .i64 (0 : Int), .int .i64 (0 : Int)]) hf (by decide) (by kernel_rfl) rfl hp rfl ?_
       clear hf; intro a w v75 hf hp0; clear hp; have hp := hp0; clear hp0
       replace hp : Hp _ _ _ (Res.obj 56 v75 [.int .i64 (0 : Int), .int .i64 (0 : Int)] :: Res.obj 56 v77 [.int .i64 (0 : Int), .int .i64 (0 : Int)] :: _ :: _ :: _ :: ow) := hp
       refine nx hf (fun _ _ => ⟨_, hp⟩) ?_
       refine dr_one 4 rfl (by kernel_rfl) ?_
       refine st_call hf (by decide) Try.func34 rfl rfl rfl rfl rfl (f_plane_Gauss_By_c hp _ _ _ _ hcall74) ?_
       rintro _ w ⟨rfl, hp0⟩
       clear hp; have hp := hp0; clear hp0
       replace hp : Hp _ _ _ (_ :: _ :: _ :: _ :: _ :: ow) := hp
       refine ⟨_, rfl, ?_⟩
       clear hf; intro a hf
       refine nx hf (fun _ _ => ⟨_, hp⟩) ?_
       refine dr_takeK 5 (.tuple #[.agg #[.int .i64 q73.1.1, .int .i64 q73.1.2], .agg #[.int .i64 q73.2.1.1, .int .i64 q73.2.1.2], .int .i64 q73.2.2]) rfl hf rfl (fun w ⟨_, hp⟩ => ?_) ⟨_, hp⟩ ?_
       · exact st_move hf rfl rfl (by decide) tk
       clear hf; intro a hf
       refine dr_takeK 6 (.agg #[.int .i64 q73.1.1, .int .i64 q73.1.2]) rfl hf rfl (fun w ⟨_, hp⟩ => ?_) ⟨_, hp⟩ ?_
       · exact st_extract hf (by decide) rfl rfl rfl tk
       clear hf; intro a hf
       refine dr_takeK 7 (.agg #[.int .i64 q73.2.1.1, .int .i64 q73.2.1.2]) rfl hf rfl (fun w ⟨_, hp⟩ => ?_) ⟨_, hp⟩ ?_
       · exact st_extract hf (by decide) rfl rfl rfl tk
       clear hf; intro a hf
       refine dr_takeK 8 (.int .i64 q73.2.2) rfl hf rfl (fun w ⟨_, hp⟩ => ?_) ⟨_, hp⟩ ?_
       · exact st_extract hf (by decide) rfl rfl rfl tk
       clear hf; intro a hf
       refine dr_one 11 rfl (by kernel_rfl) ?_
       refine st_stO (us := [.int .i64 q73.1.1, .int .i64 q73.1.2]) hf hp (i := 0) rfl rfl rfl rfl rfl (by rfl) (by kernel_rfl) (Nat.le_of_ble_eq_true rfl) ?_
       clear hf; intro a w hf hp0; clear hp; have hp := hp0; clear hp0
       replace hp : Hp _ _ _ (Res.obj 56 v75 [.int .i64 q73.1.1, .int .i64 q73.1.2] :: _ :: _ :: _ :: _ :: ow) := hp
       refine nx hf (fun _ _ => ⟨_, hp⟩) ?_
       refine dr_one 12 rfl (by kernel_rfl) ?_
       refine st_stO (us := [.int .i64 q73.2.1.1, .int .i64 q73.2.1.2]) hf hp (i := 1) rfl rfl rfl rfl rfl (by rfl) (by kernel_rfl) (Nat.le_of_ble_eq_true rfl) ?_
       clear hf; intro a w hf hp0; clear hp; have hp := hp0; clear hp0
       replace hp : Hp _ _ _ (_ :: Res.obj 56 v77 [.int .i64 q73.2.1.1, .int .i64 q73.2.1.2] :: _ :: _ :: _ :: ow) := hp
       refine nx hf (fun _ _ => ⟨_, hp⟩) ?_
       refine dr_takeK 13 (.int .i64 q73.2.2) rfl hf rfl (fun w ⟨_, hp⟩ => ?_) ⟨_, hp⟩ ?_
       · exact st_assign hf rfl rfl (by decide) tk
       clear hf; intro a hf
       refine dr_end (by kernel_rfl) ?_ _
       have hp : Hp _ _ _ (_ :: _ :: _ :: _ :: _ :: ow) := Hp.sel (pre := [Res.obj 56 v75 [.int .i64 q73.1.1, .int .i64 q73.1.2], Res.obj 56 v77 [.int .i64 q73.2.1.1, .int .i64 q73.2.1.2], Res.obj 56 v25 [.int .i64 q23.1.1, .int .i64 q23.1.2], Res.obj 74 v29 [.int .i64 q27.1.1, .int .i64 q27.1.2], Res.obj 76 v5 [.int .i64 xx2_Depth, .int .u32 xx2_Class, .float .f64 bxx2_Z_0, .float .f64 bxx2_Z_1]]) (tail := ow) (rs' := [Res.obj 56 v77 [.int .i64 q73.2.1.1, .int .i64 q73.2.1.2], Res.obj 56 v75 [.int .i64 q73.1.1, .int .i64 q73.1.2], Res.obj 56 v25 [.int .i64 q23.1.1, .int .i64 q23.1.2], Res.obj 74 v29 [.int .i64 q27.1.1, .int .i64 q27.1.2], Res.obj 76 v5 [.int .i64 xx2_Depth, .int .u32 xx2_Class, .float .f64 bxx2_Z_0, .float .f64 bxx2_Z_1]]) hp [1, 0, 2, 3, 4] (by decide) (by simp) rfl
       have hp := bk66 _ _ hp
       have hp := bk61 _ _ hp
       exact ⟨v75, v77, hf.sub ⟨rfl, rfl, rfl, rfl, rfl, rfl, trivial⟩, hp⟩
    ·
     refine st_alloc (cs := [.int .i64 (0 : Int), .int .i64 (0 : Int)]) (zv := .agg #[.int .i64 (0 : Int), .int .i64 (0 : Int)]) hf (by decide) (by kernel_rfl) rfl hp rfl ?_
     clear hf; intro a w v75 hf hp0; clear hp; have hp := hp0; clear hp0
     replace hp : Hp _ _ _ (Res.obj 56 v75 [.int .i64 (0 : Int), .int .i64 (0 : Int)] :: _ :: _ :: _ :: ow) := hp
     refine nx hf (fun _ _ => ⟨_, hp⟩) ?_
     refine dr_two 3 10 rfl rfl (by kernel_rfl) ?_ ?_
     ·
      refine st_call hf (by decide) Try.func40 rfl rfl rfl rfl rfl (f_foghornlaw03_own_c hp _ _ hcall72) ?_
      rintro _ w ⟨rfl, hp0⟩
      clear hp; have hp := hp0; clear hp0
      replace hp : Hp _ _ _ (_ :: _ :: _ :: _ :: ow) := hp
      refine ⟨_, rfl, ?_⟩
      clear hf; intro a hf
      refine nx hf (fun _ _ => ⟨_, hp⟩) ?_
      refine dr_two 4 10 rfl rfl (by kernel_rfl) ?_ ?_
      ·
       refine st_call hf (by decide) Try.func34 rfl rfl rfl rfl rfl (f_plane_Gauss_By_c hp _ _ _ _ hcall74) ?_
       rintro _ w ⟨rfl, hp0⟩
       clear hp; have hp := hp0; clear hp0
       replace hp : Hp _ _ _ (_ :: _ :: _ :: _ :: ow) := hp
       refine ⟨_, rfl, ?_⟩
       clear hf; intro a hf
       refine nx hf (fun _ _ => ⟨_, hp⟩) ?_
       refine dr_takeK 5 (.tuple #[.agg #[.int .i64 q73.1.1, .int .i64 q73.1.2], .agg #[.int .i64 q73.2.1.1, .int .i64 q73.2.1.2], .int .i64 q73.2.2]) rfl hf rfl (fun w ⟨_, hp⟩ => ?_) ⟨_, hp⟩ ?_
       · exact st_move hf rfl rfl (by decide) tk
       clear hf; intro a hf
       refine dr_takeK 6 (.agg #[.int .i64 q73.1.1, .int .i64 q73.1.2]) rfl hf rfl (fun w ⟨_, hp⟩ => ?_) ⟨_, hp⟩ ?_
       · exact st_extract hf (by decide) rfl rfl rfl tk
       clear hf; intro a hf
       refine dr_takeK 7 (.agg #[.int .i64 q73.2.1.1, .int .i64 q73.2.1.2]) rfl hf rfl (fun w ⟨_, hp⟩ => ?_) ⟨_, hp⟩ ?_
       · exact st_extract hf (by decide) rfl rfl rfl tk
       clear hf; intro a hf
       refine dr_takeK 8 (.int .i64 q73.2.2) rfl hf rfl (fun w ⟨_, hp⟩ => ?_) ⟨_, hp⟩ ?_
       · exact st_extract hf (by decide) rfl rfl rfl tk
       clear hf; intro a hf
       refine dr_one 10 rfl (by kernel_rfl) ?_
       refine st_alloc (cs := [.int .i64 (0 : Int), .int .i64 (0 : Int)]) (zv := .agg #[.int .i64 (0 : Int), .int .i64 (0 : Int)]) hf (by decide) (by kernel_rfl) rfl hp rfl ?_
       clear hf; intro a w v77 hf hp0; clear hp; have hp := hp0; clear hp0
       replace hp : Hp _ _ _ (Res.obj 56 v77 [.int .i64 (0 : Int), .int .i64 (0 : Int)] :: _ :: _ :: _ :: _ :: ow) := hp
       refine nx hf (fun _ _ => ⟨_, hp⟩) ?_
       refine dr_one 11 rfl (by kernel_rfl) ?_
       refine st_stO (us := [.int .i64 q73.1.1, .int .i64 q73.1.2]) hf hp (i := 1) rfl rfl rfl rfl rfl (by rfl) (by kernel_rfl) (Nat.le_of_ble_eq_true rfl) ?_
       clear hf; intro a w hf hp0; clear hp; have hp := hp0; clear hp0
       replace hp : Hp _ _ _ (_ :: Res.obj 56 v75 [.int .i64 q73.1.1, .int .i64 q73.1.2] :: _ :: _ :: _ :: ow) := hp
       refine nx hf (fun _ _ => ⟨_, hp⟩) ?_
       refine dr_one 12 rfl (by kernel_rfl) ?_
       refine st_stO (us := [.int .i64 q73.2.1.1, .int .i64 q73.2.1.2]) hf hp (i := 0) rfl rfl rfl rfl rfl (by rfl) (by kernel_rfl) (Nat.le_of_ble_eq_true rfl) ?_
       clear hf; intro a w hf hp0; clear hp; have hp := hp0; clear hp0
       replace hp : Hp _ _ _ (Res.obj 56 v77 [.int .i64 q73.2.1.1, .int .i64 q73.2.1.2] :: _ :: _ :: _ :: _ :: ow) := hp
       refine nx hf (fun _ _ => ⟨_, hp⟩) ?_
       refine dr_takeK 13 (.int .i64 q73.2.2) rfl hf rfl (fun w ⟨_, hp⟩ => ?_) ⟨_, hp⟩ ?_
       · exact st_assign hf rfl rfl (by decide) tk
       clear hf; intro a hf
       refine dr_end (by kernel_rfl) ?_ _
       have hp := bk66 _ _ hp
       have hp := bk61 _ _ hp
       exact ⟨v75, v77, hf.sub ⟨rfl, rfl, rfl, rfl, rfl, rfl, trivial⟩, hp⟩
      ·
       refine st_alloc (cs := [.int .i64 (0 : Int), .int .i64 (0 : Int)]) (zv := .agg #[.int .i64 (0 : Int), .int .i64 (0 : Int)]) hf (by decide) (by kernel_rfl) rfl hp rfl ?_
       clear hf; intro a w v77 hf hp0; clear hp; have hp := hp0; clear hp0
       replace hp : Hp _ _ _ (Res.obj 56 v77 [.int .i64 (0 : Int), .int .i64 (0 : Int)] :: Res.obj 56 v75 [.int .i64 (0 : Int), .int .i64 (0 : Int)] :: _ :: _ :: _ :: ow) := hp
       refine nx hf (fun _ _ => ⟨_, hp⟩) ?_
       refine dr_one 4 rfl (by kernel_rfl) ?_
       refine st_call hf (by decide) Try.func34 rfl rfl rfl rfl rfl (f_plane_Gauss_By_c hp _ _ _ _ hcall74) ?_
       rintro _ w ⟨rfl, hp0⟩
       clear hp; have hp := hp0; clear hp0
       replace hp : Hp _ _ _ (_ :: _ :: _ :: _ :: _ :: ow) := hp
       refine ⟨_, rfl, ?_⟩
       clear hf; intro a hf
       refine nx hf (fun _ _ => ⟨_, hp⟩) ?_
       refine dr_takeK 5 (.tuple #[.agg #[.int .i64 q73.1.1, .int .i64 q73.1.2], .agg #[.int .i64 q73.2.1.1, .int .i64 q73.2.1.2], .int .i64 q73.2.2]) rfl hf rfl (fun w ⟨_, hp⟩ => ?_) ⟨_, hp⟩ ?_
       · exact st_move hf rfl rfl (by decide) tk
       clear hf; intro a hf
       refine dr_takeK 6 (.agg #[.int .i64 q73.1.1, .int .i64 q73.1.2]) rfl hf rfl (fun w ⟨_, hp⟩ => ?_) ⟨_, hp⟩ ?_
       · exact st_extract hf (by decide) rfl rfl rfl tk
       clear hf; intro a hf
       refine dr_takeK 7 (.agg #[.int .i64 q73.2.1.1, .int .i64 q73.2.1.2]) rfl hf rfl (fun w ⟨_, hp⟩ => ?_) ⟨_, hp⟩ ?_
       · exact st_extract hf (by decide) rfl rfl rfl tk
       clear hf; intro a hf
       refine dr_takeK 8 (.int .i64 q73.2.2) rfl hf rfl (fun w ⟨_, hp⟩ => ?_) ⟨_, hp⟩ ?_
       · exact st_extract hf (by decide) rfl rfl rfl tk
       clear hf; intro a hf
       refine dr_one 11 rfl (by kernel_rfl) ?_
       refine st_stO (us := [.int .i64 q73.1.1, .int .i64 q73.1.2]) hf hp (i := 1) rfl rfl rfl rfl rfl (by rfl) (by kernel_rfl) (Nat.le_of_ble_eq_true rfl) ?_
       clear hf; intro a w hf hp0; clear hp; have hp := hp0; clear hp0
       replace hp : Hp _ _ _ (_ :: Res.obj 56 v75 [.int .i64 q73.1.1, .int .i64 q73.1.2] :: _ :: _ :: _ :: ow) := hp
       refine nx hf (fun _ _ => ⟨_, hp⟩) ?_
       refine dr_one 12 rfl (by kernel_rfl) ?_
       refine st_stO (us := [.int .i64 q73.2.1.1, .int .i64 q73.2.1.2]) hf hp (i := 0) rfl rfl rfl rfl rfl (by rfl) (by kernel_rfl) (Nat.le_of_ble_eq_true rfl) ?_
       clear hf; intro a w hf hp0; clear hp; have hp := hp0; clear hp0
       replace hp : Hp _ _ _ (Res.obj 56 v77 [.int .i64 q73.2.1.1, .int .i64 q73.2.1.2] :: _ :: _ :: _ :: _ :: ow) := hp
       refine nx hf (fun _ _ => ⟨_, hp⟩) ?_
       refine dr_takeK 13 (.int .i64 q73.2.2) rfl hf rfl (fun w ⟨_, hp⟩ => ?_) ⟨_, hp⟩ ?_
       · exact st_assign hf rfl rfl (by decide) tk
       clear hf; intro a hf
       refine dr_end (by kernel_rfl) ?_ _
       have hp := bk66 _ _ hp
       have hp := bk61 _ _ hp
       exact ⟨v75, v77, hf.sub ⟨rfl, rfl, rfl, rfl, rfl, rfl, trivial⟩, hp⟩
     ·
      refine st_alloc (cs := [.int .i64 (0 : Int), .int .i64 (0 : Int)]) (zv := .agg #[.int .i64 (0 : Int), .int .i64 (0 : Int)]) hf (by decide) (by kernel_rfl) rfl hp rfl ?_
      clear hf; intro a w v77 hf hp0; clear hp; have hp := hp0; clear hp0
      replace hp : Hp _ _ _ (Res.obj 56 v77 [.int .i64 (0 : Int), .int .i64 (0 : Int)] :: Res.obj 56 v75 [.int .i64 (0 : Int), .int .i64 (0 : Int)] :: _ :: _ :: _ :: ow) := hp
      refine nx hf (fun _ _ => ⟨_, hp⟩) ?_
      refine dr_one 3 rfl (by kernel_rfl) ?_
      refine st_call hf (by decide) Try.func40 rfl rfl rfl rfl rfl (f_foghornlaw03_own_c hp _ _ hcall72) ?_
      rintro _ w ⟨rfl, hp0⟩
      clear hp; have hp := hp0; clear hp0
      replace hp : Hp _ _ _ (_ :: _ :: _ :: _ :: _ :: ow) := hp
      refine ⟨_, rfl, ?_⟩
      clear hf; intro a hf
      refine nx hf (fun _ _ => ⟨_, hp⟩) ?_
      refine dr_one 4 rfl (by kernel_rfl) ?_
      refine st_call hf (by decide) Try.func34 rfl rfl rfl rfl rfl (f_plane_Gauss_By_c hp _ _ _ _ hcall74) ?_
      rintro _ w ⟨rfl, hp0⟩
      clear hp; have hp := hp0; clear hp0
      replace hp : Hp _ _ _ (_ :: _ :: _ :: _ :: _ :: ow) := hp
      refine ⟨_, rfl, ?_⟩
      clear hf; intro a hf
      refine nx hf (fun _ _ => ⟨_, hp⟩) ?_
      refine dr_takeK 5 (.tuple #[.agg #[.int .i64 q73.1.1, .int .i64 q73.1.2], .agg #[.int .i64 q73.2.1.1, .int .i64 q73.2.1.2], .int .i64 q73.2.2]) rfl hf rfl (fun w ⟨_, hp⟩ => ?_) ⟨_, hp⟩ ?_
      · exact st_move hf rfl rfl (by decide) tk
      clear hf; intro a hf
      refine dr_takeK 6 (.agg #[.int .i64 q73.1.1, .int .i64 q73.1.2]) rfl hf rfl (fun w ⟨_, hp⟩ => ?_) ⟨_, hp⟩ ?_
      · exact st_extract hf (by decide) rfl rfl rfl tk
      clear hf; intro a hf
      refine dr_takeK 7 (.agg #[.int .i64 q73.2.1.1, .int .i64 q73.2.1.2]) rfl hf rfl (fun w ⟨_, hp⟩ => ?_) ⟨_, hp⟩ ?_
      · exact st_extract hf (by decide) rfl rfl rfl tk
      clear hf; intro a hf
      refine dr_takeK 8 (.int .i64 q73.2.2) rfl hf rfl (fun w ⟨_, hp⟩ => ?_) ⟨_, hp⟩ ?_
      · exact st_extract hf (by decide) rfl rfl rfl tk
      clear hf; intro a hf
      refine dr_one 11 rfl (by kernel_rfl) ?_
      refine st_stO (us := [.int .i64 q73.1.1, .int .i64 q73.1.2]) hf hp (i := 1) rfl rfl rfl rfl rfl (by rfl) (by kernel_rfl) (Nat.le_of_ble_eq_true rfl) ?_
      clear hf; intro a w hf hp0; clear hp; have hp := hp0; clear hp0
      replace hp : Hp _ _ _ (_ :: Res.obj 56 v75 [.int .i64 q73.1.1, .int .i64 q73.1.2] :: _ :: _ :: _ :: ow) := hp
      refine nx hf (fun _ _ => ⟨_, hp⟩) ?_
      refine dr_one 12 rfl (by kernel_rfl) ?_
      refine st_stO (us := [.int .i64 q73.2.1.1, .int .i64 q73.2.1.2]) hf hp (i := 0) rfl rfl rfl rfl rfl (by rfl) (by kernel_rfl) (Nat.le_of_ble_eq_true rfl) ?_
      clear hf; intro a w hf hp0; clear hp; have hp := hp0; clear hp0
      replace hp : Hp _ _ _ (Res.obj 56 v77 [.int .i64 q73.2.1.1, .int .i64 q73.2.1.2] :: _ :: _ :: _ :: _ :: ow) := hp
      refine nx hf (fun _ _ => ⟨_, hp⟩) ?_
      refine dr_takeK 13 (.int .i64 q73.2.2) rfl hf rfl (fun w ⟨_, hp⟩ => ?_) ⟨_, hp⟩ ?_
      · exact st_assign hf rfl rfl (by decide) tk
      clear hf; intro a hf
      refine dr_end (by kernel_rfl) ?_ _
      have hp := bk66 _ _ hp
      have hp := bk61 _ _ hp
      exact ⟨v75, v77, hf.sub ⟨rfl, rfl, rfl, rfl, rfl, rfl, trivial⟩, hp⟩
    ·
     refine st_alloc (cs := [.int .i64 (0 : Int), .int .i64 (0 : Int)]) (zv := .agg #[.int .i64 (0 : Int), .int .i64 (0 : Int)]) hf (by decide) (by kernel_rfl) rfl hp rfl ?_
     clear hf; intro a w v77 hf hp0; clear hp; have hp := hp0; clear hp0
     replace hp : Hp _ _ _ (Res.obj 56 v77 [.int .i64 (0 : Int), .int .i64 (0 : Int)] :: _ :: _ :: _ :: ow) := hp
     refine nx hf (fun _ _ => ⟨_, hp⟩) ?_
     refine dr_two 3 9 rfl rfl (by kernel_rfl) ?_ ?_
     ·
      refine st_call hf (by decide) Try.func40 rfl rfl rfl rfl rfl (f_foghornlaw03_own_c hp _ _ hcall72) ?_
      rintro _ w ⟨rfl, hp0⟩
      clear hp; have hp := hp0; clear hp0
      replace hp : Hp _ _ _ (_ :: _ :: _ :: _ :: ow) := hp
      refine ⟨_, rfl, ?_⟩
      clear hf; intro a hf
      refine nx hf (fun _ _ => ⟨_, hp⟩) ?_
      refine dr_two 4 9 rfl rfl (by kernel_rfl) ?_ ?_
      ·
       refine st_call hf (by decide) Try.func34 rfl rfl rfl rfl rfl (f_plane_Gauss_By_c hp _ _ _ _ hcall74) ?_
       rintro _ w ⟨rfl, hp0⟩
       clear hp; have hp := hp0; clear hp0
       replace hp : Hp _ _ _ (_ :: _ :: _ :: _ :: ow) := hp
       refine ⟨_, rfl, ?_⟩
       clear hf; intro a hf
       refine nx hf (fun _ _ => ⟨_, hp⟩) ?_
       refine dr_takeK 5 (.tuple #[.agg #[.int .i64 q73.1.1, .int .i64 q73.1.2], .agg #[.int .i64 q73.2.1.1, .int .i64 q73.2.1.2], .int .i64 q73.2.2]) rfl hf rfl (fun w ⟨_, hp⟩ => ?_) ⟨_, hp⟩ ?_
       · exact st_move hf rfl rfl (by decide) tk
       clear hf; intro a hf
       refine dr_takeK 6 (.agg #[.int .i64 q73.1.1, .int .i64 q73.1.2]) rfl hf rfl (fun w ⟨_, hp⟩ => ?_) ⟨_, hp⟩ ?_
       · exact st_extract hf (by decide) rfl rfl rfl tk
       clear hf; intro a hf
       refine dr_takeK 7 (.agg #[.int .i64 q73.2.1.1, .int .i64 q73.2.1.2]) rfl hf rfl (fun w ⟨_, hp⟩ => ?_) ⟨_, hp⟩ ?_
       · exact st_extract hf (by decide) rfl rfl rfl tk
       clear hf; intro a hf
       refine dr_takeK 8 (.int .i64 q73.2.2) rfl hf rfl (fun w ⟨_, hp⟩ => ?_) ⟨_, hp⟩ ?_
       · exact st_extract hf (by decide) rfl rfl rfl tk
       clear hf; intro a hf
       refine dr_one 9 rfl (by kernel_rfl) ?_
       refine st_alloc (cs := [.int .i64 (0 : Int), .int .i64 (0 : Int)]) (zv := .agg #[.int .i64 (0 : Int), .int .i64 (0 : Int)]) hf (by decide) (by kernel_rfl) rfl hp rfl ?_
       clear hf; intro a w v75 hf hp0; clear hp; have hp := hp0; clear hp0
       replace hp : Hp _ _ _ (Res.obj 56 v75 [.int .i64 (0 : Int), .int .i64 (0 : Int)] :: _ :: _ :: _ :: _ :: ow) := hp
       refine nx hf (fun _ _ => ⟨_, hp⟩) ?_
       refine dr_one 11 rfl (by kernel_rfl) ?_
       refine st_stO (us := [.int .i64 q73.1.1, .int .i64 q73.1.2]) hf hp (i := 0) rfl rfl rfl rfl rfl (by rfl) (by kernel_rfl) (Nat.le_of_ble_eq_true rfl) ?_
       clear hf; intro a w hf hp0; clear hp; have hp := hp0; clear hp0
       replace hp : Hp _ _ _ (Res.obj 56 v75 [.int .i64 q73.1.1, .int .i64 q73.1.2] :: _ :: _ :: _ :: _ :: ow) := hp
       refine nx hf (fun _ _ => ⟨_, hp⟩) ?_
       refine dr_one 12 rfl (by kernel_rfl) ?_
       refine st_stO (us := [.int .i64 q73.2.1.1, .int .i64 q73.2.1.2]) hf hp (i := 1) rfl rfl rfl rfl rfl (by rfl) (by kernel_rfl) (Nat.le_of_ble_eq_true rfl) ?_
       clear hf; intro a w hf hp0; clear hp; have hp := hp0; clear hp0
       replace hp : Hp _ _ _ (_ :: Res.obj 56 v77 [.int .i64 q73.2.1.1, .int .i64 q73.2.1.2] :: _ :: _ :: _ :: ow) := hp
       refine nx hf (fun _ _ => ⟨_, hp⟩) ?_
       refine dr_takeK 13 (.int .i64 q73.2.2) rfl hf rfl (fun w ⟨_, hp⟩ => ?_) ⟨_, hp⟩ ?_
       · exact st_assign hf rfl rfl (by decide) tk
       clear hf; intro a hf
       refine dr_end (by kernel_rfl) ?_ _
       have hp : Hp _ _ _ (_ :: _ :: _ :: _ :: _ :: ow) := Hp.sel (pre := [Res.obj 56 v75 [.int .i64 q73.1.1, .int .i64 q73.1.2], Res.obj 56 v77 [.int .i64 q73.2.1.1, .int .i64 q73.2.1.2], Res.obj 56 v25 [.int .i64 q23.1.1, .int .i64 q23.1.2], Res.obj 74 v29 [.int .i64 q27.1.1, .int .i64 q27.1.2], Res.obj 76 v5 [.int .i64 xx2_Depth, .int .u32 xx2_Class, .float .f64 bxx2_Z_0, .float .f64 bxx2_Z_1]]) (tail := ow) (rs' := [Res.obj 56 v77 [.int .i64 q73.2.1.1, .int .i64 q73.2.1.2], Res.obj 56 v75 [.int .i64 q73.1.1, .int .i64 q73.1.2], Res.obj 56 v25 [.int .i64 q23.1.1, .int .i64 q23.1.2], Res.obj 74 v29 [.int .i64 q27.1.1, .int .i64 q27.1.2], Res.obj 76 v5 [.int .i64 xx2_Depth, .int .u32 xx2_Class, .float .f64 bxx2_Z_0, .float .f64 bxx2_Z_1]]) hp [1, 0, 2, 3, 4] (by decide) (by simp) rfl
       have hp := bk66 _ _ hp
       have hp := bk61 _ _ hp
       exact ⟨v75, v77, hf.sub ⟨rfl, rfl, rfl, rfl, rfl, rfl, trivial⟩, hp⟩
      ·
       refine st_alloc (cs := [.int .i64 (0 : Int), .int .i64 (0 : Int)]) (zv := .agg #[.int .i64 (0 : Int), .int .i64 (0 : Int)]) hf (by decide) (by kernel_rfl) rfl hp rfl ?_
       clear hf; intro a w v75 hf hp0; clear hp; have hp := hp0; clear hp0
       replace hp : Hp _ _ _ (Res.obj 56 v75 [.int .i64 (0 : Int), .int .i64 (0 : Int)] :: Res.obj 56 v77 [.int .i64 (0 : Int), .int .i64 (0 : Int)] :: _ :: _ :: _ :: ow) := hp
       refine nx hf (fun _ _ => ⟨_, hp⟩) ?_
       refine dr_one 4 rfl (by kernel_rfl) ?_
       refine st_call hf (by decide) Try.func34 rfl rfl rfl rfl rfl (f_plane_Gauss_By_c hp _ _ _ _ hcall74) ?_
       rintro _ w ⟨rfl, hp0⟩
       clear hp; have hp := hp0; clear hp0
       replace hp : Hp _ _ _ (_ :: _ :: _ :: _ :: _ :: ow) := hp
       refine ⟨_, rfl, ?_⟩
       clear hf; intro a hf
       refine nx hf (fun _ _ => ⟨_, hp⟩) ?_
       refine dr_takeK 5 (.tuple #[.agg #[.int .i64 q73.1.1, .int .i64 q73.1.2], .agg #[.int .i64 q73.2.1.1, .int .i64 q73.2.1.2], .int .i64 q73.2.2]) rfl hf rfl (fun w ⟨_, hp⟩ => ?_) ⟨_, hp⟩ ?_
       · exact st_move hf rfl rfl (by decide) tk
       clear hf; intro a hf
       refine dr_takeK 6 (.agg #[.int .i64 q73.1.1, .int .i64 q73.1.2]) rfl hf rfl (fun w ⟨_, hp⟩ => ?_) ⟨_, hp⟩ ?_
       · exact st_extract hf (by decide) rfl rfl rfl tk
       clear hf; intro a hf
       refine dr_takeK 7 (.agg #[.int .i64 q73.2.1.1, .int .i64 q73.2.1.2]) rfl hf rfl (fun w ⟨_, hp⟩ => ?_) ⟨_, hp⟩ ?_
       · exact st_extract hf (by decide) rfl rfl rfl tk
       clear hf; intro a hf
       refine dr_takeK 8 (.int .i64 q73.2.2) rfl hf rfl (fun w ⟨_, hp⟩ => ?_) ⟨_, hp⟩ ?_
       · exact st_extract hf (by decide) rfl rfl rfl tk
       clear hf; intro a hf
       refine dr_one 11 rfl (by kernel_rfl) ?_
       refine st_stO (us := [.int .i64 q73.1.1, .int .i64 q73.1.2]) hf hp (i := 0) rfl rfl rfl rfl rfl (by rfl) (by kernel_rfl) (Nat.le_of_ble_eq_true rfl) ?_
       clear hf; intro a w hf hp0; clear hp; have hp := hp0; clear hp0
       replace hp : Hp _ _ _ (Res.obj 56 v75 [.int .i64 q73.1.1, .int .i64 q73.1.2] :: _ :: _ :: _ :: _ :: ow) := hp
       refine nx hf (fun _ _ => ⟨_, hp⟩) ?_
       refine dr_one 12 rfl (by kernel_rfl) ?_
       refine st_stO (us := [.int .i64 q73.2.1.1, .int .i64 q73.2.1.2]) hf hp (i := 1) rfl rfl rfl rfl rfl (by rfl) (by kernel_rfl) (Nat.le_of_ble_eq_true rfl) ?_
       clear hf; intro a w hf hp0; clear hp; have hp := hp0; clear hp0
       replace hp : Hp _ _ _ (_ :: Res.obj 56 v77 [.int .i64 q73.2.1.1, .int .i64 q73.2.1.2] :: _ :: _ :: _ :: ow) := hp
       refine nx hf (fun _ _ => ⟨_, hp⟩) ?_
       refine dr_takeK 13 (.int .i64 q73.2.2) rfl hf rfl (fun w ⟨_, hp⟩ => ?_) ⟨_, hp⟩ ?_
       · exact st_assign hf rfl rfl (by decide) tk
       clear hf; intro a hf
       refine dr_end (by kernel_rfl) ?_ _
       have hp : Hp _ _ _ (_ :: _ :: _ :: _ :: _ :: ow) := Hp.sel (pre := [Res.obj 56 v75 [.int .i64 q73.1.1, .int .i64 q73.1.2], Res.obj 56 v77 [.int .i64 q73.2.1.1, .int .i64 q73.2.1.2], Res.obj 56 v25 [.int .i64 q23.1.1, .int .i64 q23.1.2], Res.obj 74 v29 [.int .i64 q27.1.1, .int .i64 q27.1.2], Res.obj 76 v5 [.int .i64 xx2_Depth, .int .u32 xx2_Class, .float .f64 bxx2_Z_0, .float .f64 bxx2_Z_1]]) (tail := ow) (rs' := [Res.obj 56 v77 [.int .i64 q73.2.1.1, .int .i64 q73.2.1.2], Res.obj 56 v75 [.int .i64 q73.1.1, .int .i64 q73.1.2], Res.obj 56 v25 [.int .i64 q23.1.1, .int .i64 q23.1.2], Res.obj 74 v29 [.int .i64 q27.1.1, .int .i64 q27.1.2], Res.obj 76 v5 [.int .i64 xx2_Depth, .int .u32 xx2_Class, .float .f64 bxx2_Z_0, .float .f64 bxx2_Z_1]]) hp [1, 0, 2, 3, 4] (by decide) (by simp) rfl
       have hp := bk66 _ _ hp
       have hp := bk61 _ _ hp
       exact ⟨v75, v77, hf.sub ⟨rfl, rfl, rfl, rfl, rfl, rfl, trivial⟩, hp⟩
     ·
      refine st_alloc (cs := [.int .i64 (0 : Int), .int .i64 (0 : Int)]) (zv := .agg #[.int .i64 (0 : Int), .int .i64 (0 : Int)]) hf (by decide) (by kernel_rfl) rfl hp rfl ?_
      clear hf; intro a w v75 hf hp0; clear hp; have hp := hp0; clear hp0
      replace hp : Hp _ _ _ (Res.obj 56 v75 [.int .i64 (0 : Int), .int .i64 (0 : Int)] :: Res.obj 56 v77 [.int .i64 (0 : Int), .int .i64 (0 : Int)] :: _ :: _ :: _ :: ow) := hp
      refine nx hf (fun _ _ => ⟨_, hp⟩) ?_
      refine dr_one 3 rfl (by kernel_rfl) ?_
      refine st_call hf (by decide) Try.func40 rfl rfl rfl rfl rfl (f_foghornlaw03_own_c hp _ _ hcall72) ?_
      rintro _ w ⟨rfl, hp0⟩
      clear hp; have hp := hp0; clear hp0
      replace hp : Hp _ _ _ (_ :: _ :: _ :: _ :: _ :: ow) := hp
      refine ⟨_, rfl, ?_⟩
      clear hf; intro a hf
      refine nx hf (fun _ _ => ⟨_, hp⟩) ?_
      refine dr_one 4 rfl (by kernel_rfl) ?_
      refine st_call hf (by decide) Try.func34 rfl rfl rfl rfl rfl (f_plane_Gauss_By_c hp _ _ _ _ hcall74) ?_
      rintro _ w ⟨rfl, hp0⟩
      clear hp; have hp := hp0; clear hp0
      replace hp : Hp _ _ _ (_ :: _ :: _ :: _ :: _ :: ow) := hp
      refine ⟨_, rfl, ?_⟩
      clear hf; intro a hf
      refine nx hf (fun _ _ => ⟨_, hp⟩) ?_
      refine dr_takeK 5 (.tuple #[.agg #[.int .i64 q73.1.1, .int .i64 q73.1.2], .agg #[.int .i64 q73.2.1.1, .int .i64 q73.2.1.2], .int .i64 q73.2.2]) rfl hf rfl (fun w ⟨_, hp⟩ => ?_) ⟨_, hp⟩ ?_
      · exact st_move hf rfl rfl (by decide) tk
      clear hf; intro a hf
      refine dr_takeK 6 (.agg #[.int .i64 q73.1.1, .int .i64 q73.1.2]) rfl hf rfl (fun w ⟨_, hp⟩ => ?_) ⟨_, hp⟩ ?_
      · exact st_extract hf (by decide) rfl rfl rfl tk
      clear hf; intro a hf
      refine dr_takeK 7 (.agg #[.int .i64 q73.2.1.1, .int .i64 q73.2.1.2]) rfl hf rfl (fun w ⟨_, hp⟩ => ?_) ⟨_, hp⟩ ?_
      · exact st_extract hf (by decide) rfl rfl rfl tk
      clear hf; intro a hf
      refine dr_takeK 8 (.int .i64 q73.2.2) rfl hf rfl (fun w ⟨_, hp⟩ => ?_) ⟨_, hp⟩ ?_
      · exact st_extract hf (by decide) rfl rfl rfl tk
      clear hf; intro a hf
      refine dr_one 11 rfl (by kernel_rfl) ?_
      refine st_stO (us := [.int .i64 q73.1.1, .int .i64 q73.1.2]) hf hp (i := 0) rfl rfl rfl rfl rfl (by rfl) (by kernel_rfl) (Nat.le_of_ble_eq_true rfl) ?_
      clear hf; intro a w hf hp0; clear hp; have hp := hp0; clear hp0
      replace hp : Hp _ _ _ (Res.obj 56 v75 [.int .i64 q73.1.1, .int .i64 q73.1.2] :: _ :: _ :: _ :: _ :: ow) := hp
      refine nx hf (fun _ _ => ⟨_, hp⟩) ?_
      refine dr_one 12 rfl (by kernel_rfl) ?_
      refine st_stO (us := [.int .i64 q73.2.1.1, .int .i64 q73.2.1.2]) hf hp (i := 1) rfl rfl rfl rfl rfl (by rfl) (by kernel_rfl) (Nat.le_of_ble_eq_true rfl) ?_
      clear hf; intro a w hf hp0; clear hp; have hp := hp0; clear hp0
      replace hp : Hp _ _ _ (_ :: Res.obj 56 v77 [.int .i64 q73.2.1.1, .int .i64 q73.2.1.2] :: _ :: _ :: _ :: ow) := hp
      refine nx hf (fun _ _ => ⟨_, hp⟩) ?_
      refine dr_takeK 13 (.int .i64 q73.2.2) rfl hf rfl (fun w ⟨_, hp⟩ => ?_) ⟨_, hp⟩ ?_
      · exact st_assign hf rfl rfl (by decide) tk
      clear hf; intro a hf
      refine dr_end (by kernel_rfl) ?_ _
      have hp : Hp _ _ _ (_ :: _ :: _ :: _ :: _ :: ow) := Hp.sel (pre := [Res.obj 56 v75 [.int .i64 q73.1.1, .int .i64 q73.1.2], Res.obj 56 v77 [.int .i64 q73.2.1.1, .int .i64 q73.2.1.2], Res.obj 56 v25 [.int .i64 q23.1.1, .int .i64 q23.1.2], Res.obj 74 v29 [.int .i64 q27.1.1, .int .i64 q27.1.2], Res.obj 76 v5 [.int .i64 xx2_Depth, .int .u32 xx2_Class, .float .f64 bxx2_Z_0, .float .f64 bxx2_Z_1]]) (tail := ow) (rs' := [Res.obj 56 v77 [.int .i64 q73.2.1.1, .int .i64 q73.2.1.2], Res.obj 56 v75 [.int .i64 q73.1.1, .int .i64 q73.1.2], Res.obj 56 v25 [.int .i64 q23.1.1, .int .i64 q23.1.2], Res.obj 74 v29 [.int .i64 q27.1.1, .int .i64 q27.1.2], Res.obj 76 v5 [.int .i64 xx2_Depth, .int .u32 xx2_Class, .float .f64 bxx2_Z_0, .float .f64 bxx2_Z_1]]) hp [1, 0, 2, 3, 4] (by decide) (by simp) rfl
      have hp := bk66 _ _ hp
      have hp := bk61 _ _ hp
      exact ⟨v75, v77, hf.sub ⟨rfl, rfl, rfl, rfl, rfl, rfl, trivial⟩, hp⟩
   ·
    refine st_alloc (cs := [.int .i64 (0 : Int), .int .i64 (0 : Int)]) (zv := .agg #[.int .i64 (0 : Int), .int .i64 (0 : Int)]) hf (by decide) (by kernel_rfl) rfl hp rfl ?_
    clear hf; intro a w v75 hf hp0; clear hp; have hp := hp0; clear hp0
    replace hp : Hp _ _ _ (Res.obj 56 v75 [.int .i64 (0 : Int), .int .i64 (0 : Int)] :: _ :: _ :: _ :: ow) := hp
    refine nx hf (fun _ _ => ⟨_, hp⟩) ?_
    refine dr_two 1 10 rfl rfl (by kernel_rfl) ?_ ?_
    ·
     refine st_call hf (by decide) Try.func40 rfl rfl rfl rfl rfl (f_foghornlaw03_own_c hp _ _ hcall70) ?_
     rintro _ w ⟨rfl, hp0⟩
     clear hp; have hp := hp0; clear hp0
     replace hp : Hp _ _ _ (_ :: _ :: _ :: _ :: ow) := hp
     refine ⟨_, rfl, ?_⟩
     clear hf; intro a hf
     refine nx hf (fun _ _ => ⟨_, hp⟩) ?_
     refine dr_two 3 10 rfl rfl (by kernel_rfl) ?_ ?_
     ·
      refine st_call hf (by decide) Try.func40 rfl rfl rfl rfl rfl (f_foghornlaw03_own_c hp _ _ hcall72) ?_
      rintro _ w ⟨rfl, hp0⟩
      clear hp; have hp := hp0; clear hp0
      replace hp : Hp _ _ _ (_ :: _ :: _ :: _ :: ow) := hp
      refine ⟨_, rfl, ?_⟩
      clear hf; intro a hf
      refine nx hf (fun _ _ => ⟨_, hp⟩) ?_
      refine dr_two 4 10 rfl rfl (by kernel_rfl) ?_ ?_
      ·
       refine st_call hf (by decide) Try.func34 rfl rfl rfl rfl rfl (f_plane_Gauss_By_c hp _ _ _ _ hcall74) ?_
       rintro _ w ⟨rfl, hp0⟩
       clear hp; have hp := hp0; clear hp0
       replace hp : Hp _ _ _ (_ :: _ :: _ :: _ :: ow) := hp
       refine ⟨_, rfl, ?_⟩
       clear hf; intro a hf
       refine nx hf (fun _ _ => ⟨_, hp⟩) ?_
       refine dr_takeK 5 (.tuple #[.agg #[.int .i64 q73.1.1, .int .i64 q73.1.2], .agg #[.int .i64 q73.2.1.1, .int .i64 q73.2.1.2], .int .i64 q73.2.2]) rfl hf rfl (fun w ⟨_, hp⟩ => ?_) ⟨_, hp⟩ ?_
       · exact st_move hf rfl rfl (by decide) tk
       clear hf; intro a hf
       refine dr_takeK 6 (.agg #[.int .i64 q73.1.1, .int .i64 q73.1.2]) rfl hf rfl (fun w ⟨_, hp⟩ => ?_) ⟨_, hp⟩ ?_
       · exact st_extract hf (by decide) rfl rfl rfl tk
       clear hf; intro a hf
       refine dr_takeK 7 (.agg #[.int .i64 q73.2.1.1, .int .i64 q73.2.1.2]) rfl hf rfl (fun w ⟨_, hp⟩ => ?_) ⟨_, hp⟩ ?_
       · exact st_extract hf (by decide) rfl rfl rfl tk
       clear hf; intro a hf
       refine dr_takeK 8 (.int .i64 q73.2.2) rfl hf rfl (fun w ⟨_, hp⟩ => ?_) ⟨_, hp⟩ ?_
       · exact st_extract hf (by decide) rfl rfl rfl tk
       clear hf; intro a hf
       refine dr_one 10 rfl (by kernel_rfl) ?_
       refine st_alloc (cs := [.int .i64 (0 : Int), .int .i64 (0 : Int)]) (zv := .agg #[.int .i64 (0 : Int), .int .i64 (0 : Int)]) hf (by decide) (by kernel_rfl) rfl hp rfl ?_
       clear hf; intro a w v77 hf hp0; clear hp; have hp := hp0; clear hp0
       replace hp : Hp _ _ _ (Res.obj 56 v77 [.int .i64 (0 : Int), .int .i64 (0 : Int)] :: _ :: _ :: _ :: _ :: ow) := hp
       refine nx hf (fun _ _ => ⟨_, hp⟩) ?_
       refine dr_one 11 rfl (by kernel_rfl) ?_
       refine st_stO (us := [.int .i64 q73.1.1, .int .i64 q73.1.2]) hf hp (i := 1) rfl rfl rfl rfl rfl (by rfl) (by kernel_rfl) (Nat.le_of_ble_eq_true rfl) ?_
       clear hf; intro a w hf hp0; clear hp; have hp := hp0; clear hp0
       replace hp : Hp _ _ _ (_ :: Res.obj 56 v75 [.int .i64 q73.1.1, .int .i64 q73.1.2] :: _ :: _ :: _ :: ow) := hp
       refine nx hf (fun _ _ => ⟨_, hp⟩) ?_
       refine dr_one 12 rfl (by kernel_rfl) ?_
       refine st_stO (us := [.int .i64 q73.2.1.1, .int .i64 q73.2.1.2]) hf hp (i := 0) rfl rfl rfl rfl rfl (by rfl) (by kernel_rfl) (Nat.le_of_ble_eq_true rfl) ?_
       clear hf; intro a w hf hp0; clear hp; have hp := hp0; clear hp0
       replace hp : Hp _ _ _ (Res.obj 56 v77 [.int .i64 q73.2.1.1, .int .i64 q73.2.1.2] :: _ :: _ :: _ :: _ :: ow) := hp
       refine nx hf (fun _ _ => ⟨_, hp⟩) ?_
       refine dr_takeK 13 (.int .i64 q73.2.2) rfl hf rfl (fun w ⟨_, hp⟩ => ?_) ⟨_, hp⟩ ?_
       · exact st_assign hf rfl rfl (by decide) tk
       clear hf; intro a hf
       refine dr_end (by kernel_rfl) ?_ _
       have hp := bk66 _ _ hp
       have hp := bk61 _ _ hp
       exact ⟨v75, v77, hf.sub ⟨rfl, rfl, rfl, rfl, rfl, rfl, trivial⟩, hp⟩
      ·
       refine st_alloc (cs := [.int .i64 (0 : Int), .int .i64 (0 : Int)]) (zv := .agg #[.int .i64 (0 : Int), .int .i64 (0 : Int)]) hf (by decide) (by kernel_rfl) rfl hp rfl ?_
       clear hf; intro a w v77 hf hp0; clear hp; have hp := hp0; clear hp0
       replace hp : Hp _ _ _ (Res.obj 56 v77 [.int .i64 (0 : Int), .int .i64 (0 : Int)] :: Res.obj 56 v75 [.int .i64 (0 : Int), .int .i64 (0 : Int)] :: _ :: _ :: _ :: ow) := hp
       refine nx hf (fun _ _ => ⟨_, hp⟩) ?_
       refine dr_one 4 rfl (by kernel_rfl) ?_
       refine st_call hf (by decide) Try.func34 rfl rfl rfl rfl rfl (f_plane_Gauss_By_c hp _ _ _ _ hcall74) ?_
       rintro _ w ⟨rfl, hp0⟩
       clear hp; have hp := hp0; clear hp0
       replace hp : Hp _ _ _ (_ :: _ :: _ :: _ :: _ :: ow) := hp
       refine ⟨_, rfl, ?_⟩
       clear hf; intro a hf
       refine nx hf (fun _ _ => ⟨_, hp⟩) ?_
       refine dr_takeK 5 (.tuple #[.agg #[.int .i64 q73.1.1, .int .i64 q73.1.2], .agg #[.int .i64 q73.2.1.1, .int .i64 q73.2.1.2], .int .i64 q73.2.2]) rfl hf rfl (fun w ⟨_, hp⟩ => ?_) ⟨_, hp⟩ ?_
       · exact st_move hf rfl rfl (by decide) tk
       clear hf; intro a hf
       refine dr_takeK 6 (.agg #[.int .i64 q73.1.1, .int .i64 q73.1.2]) rfl hf rfl (fun w ⟨_, hp⟩ => ?_) ⟨_, hp⟩ ?_
       · exact st_extract hf (by decide) rfl rfl rfl tk
       clear hf; intro a hf
       refine dr_takeK 7 (.agg #[.int .i64 q73.2.1.1, .int .i64 q73.2.1.2]) rfl hf rfl (fun w ⟨_, hp⟩ => ?_) ⟨_, hp⟩ ?_
       · exact st_extract hf (by decide) rfl rfl rfl tk
       clear hf; intro a hf
       refine dr_takeK 8 (.int .i64 q73.2.2) rfl hf rfl (fun w ⟨_, hp⟩ => ?_) ⟨_, hp⟩ ?_
       · exact st_extract hf (by decide) rfl rfl rfl tk
       clear hf; intro a hf
       refine dr_one 11 rfl (by kernel_rfl) ?_
       refine st_stO (us := [.int .i64 q73.1.1, .int .i64 q73.1.2]) hf hp (i := 1) rfl rfl rfl rfl rfl (by rfl) (by kernel_rfl) (Nat.le_of_ble_eq_true rfl) ?_
       clear hf; intro a w hf hp0; clear hp; have hp := hp0; clear hp0
       replace hp : Hp _ _ _ (_ :: Res.obj 56 v75 [.int .i64 q73.1.1, .int .i64 q73.1.2] :: _ :: _ :: _ :: ow) := hp
       refine nx hf (fun _ _ => ⟨_, hp⟩) ?_
       refine dr_one 12 rfl (by kernel_rfl) ?_
       refine st_stO (us := [.int .i64 q73.2.1.1, .int .i64 q73.2.1.2]) hf hp (i := 0) rfl rfl rfl rfl rfl (by rfl) (by kernel_rfl) (Nat.le_of_ble_eq_true rfl) ?_
       clear hf; intro a w hf hp0; clear hp; have hp := hp0; clear hp0
       replace hp : Hp _ _ _ (Res.obj 56 v77 [.int .i64 q73.2.1.1, .int .i64 q73.2.1.2] :: _ :: _ :: _ :: _ :: ow) := hp
       refine nx hf (fun _ _ => ⟨_, hp⟩) ?_
       refine dr_takeK 13 (.int .i64 q73.2.2) rfl hf rfl (fun w ⟨_, hp⟩ => ?_) ⟨_, hp⟩ ?_
       · exact st_assign hf rfl rfl (by decide) tk
       clear hf; intro a hf
       refine dr_end (by kernel_rfl) ?_ _
       have hp := bk66 _ _ hp
       have hp := bk61 _ _ hp
       exact ⟨v75, v77, hf.sub ⟨rfl, rfl, rfl, rfl, rfl, rfl, trivial⟩, hp⟩
     ·
      refine st_alloc (cs := [.int .i64 (0 : Int), .int .i64 (0 : Int)]) (zv := .agg #[.int .i64 (0 : Int), .int .i64 (0 : Int)]) hf (by decide) (by kernel_rfl) rfl hp rfl ?_
      clear hf; intro a w v77 hf hp0; clear hp; have hp := hp0; clear hp0
      replace hp : Hp _ _ _ (Res.obj 56 v77 [.int .i64 (0 : Int), .int .i64 (0 : Int)] :: Res.obj 56 v75 [.int .i64 (0 : Int), .int .i64 (0 : Int)] :: _ :: _ :: _ :: ow) := hp
      refine nx hf (fun _ _ => ⟨_, hp⟩) ?_
      refine dr_one 3 rfl (by kernel_rfl) ?_
      refine st_call hf (by decide) Try.func40 rfl rfl rfl rfl rfl (f_foghornlaw03_own_c hp _ _ hcall72) ?_
      rintro _ w ⟨rfl, hp0⟩
      clear hp; have hp := hp0; clear hp0
      replace hp : Hp _ _ _ (_ :: _ :: _ :: _ :: _ :: ow) := hp
      refine ⟨_, rfl, ?_⟩
      clear hf; intro a hf
      refine nx hf (fun _ _ => ⟨_, hp⟩) ?_
      refine dr_one 4 rfl (by kernel_rfl) ?_
      refine st_call hf (by decide) Try.func34 rfl rfl rfl rfl rfl (f_plane_Gauss_By_c hp _ _ _ _ hcall74) ?_
      rintro _ w ⟨rfl, hp0⟩
      clear hp; have hp := hp0; clear hp0
      replace hp : Hp _ _ _ (_ :: _ :: _ :: _ :: _ :: ow) := hp
      refine ⟨_, rfl, ?_⟩
      clear hf; intro a hf
      refine nx hf (fun _ _ => ⟨_, hp⟩) ?_
      refine dr_takeK 5 (.tuple #[.agg #[.int .i64 q73.1.1, .int .i64 q73.1.2], .agg #[.int .i64 q73.2.1.1, .int .i64 q73.2.1.2], .int .i64 q73.2.2]) rfl hf rfl (fun w ⟨_, hp⟩ => ?_) ⟨_, hp⟩ ?_
      · exact st_move hf rfl rfl (by decide) tk
      clear hf; intro a hf
      refine dr_takeK 6 (.agg #[.int .i64 q73.1.1, .int .i64 q73.1.2]) rfl hf rfl (fun w ⟨_, hp⟩ => ?_) ⟨_, hp⟩ ?_
      · exact st_extract hf (by decide) rfl rfl rfl tk
      clear hf; intro a hf
      refine dr_takeK 7 (.agg #[.int .i64 q73.2.1.1, .int .i64 q73.2.1.2]) rfl hf rfl (fun w ⟨_, hp⟩ => ?_) ⟨_, hp⟩ ?_
      · exact st_extract hf (by decide) rfl rfl rfl tk
      clear hf; intro a hf
      refine dr_takeK 8 (.int .i64 q73.2.2) rfl hf rfl (fun w ⟨_, hp⟩ => ?_) ⟨_, hp⟩ ?_
      · exact st_extract hf (by decide) rfl rfl rfl tk
      clear hf; intro a hf
      refine dr_one 11 rfl (by kernel_rfl) ?_
      refine st_stO (us := [.int .i64 q73.1.1, .int .i64 q73.1.2]) hf hp (i := 1) rfl rfl rfl rfl rfl (by rfl) (by kernel_rfl) (Nat.le_of_ble_eq_true rfl) ?_
      clear hf; intro a w hf hp0; clear hp; have hp := hp0; clear hp0
      replace hp : Hp _ _ _ (_ :: Res.obj 56 v75 [.int .i64 q73.1.1, .int .i64 q73.1.2] :: _ :: _ :: _ :: ow) := hp
      refine nx hf (fun _ _ => ⟨_, hp⟩) ?_
      refine dr_one 12 rfl (by kernel_rfl) ?_
      refine st_stO (us := [.int .i64 q73.2.1.1, .int .i64 q73.2.1.2]) hf hp (i := 0) rfl rfl rfl rfl rfl (by rfl) (by kernel_rfl) (Nat.le_of_ble_eq_true rfl) ?_
      clear hf; intro a w hf hp0; clear hp; have hp := hp0; clear hp0
      replace hp : Hp _ _ _ (Res.obj 56 v77 [.int .i64 q73.2.1.1, .int .i64 q73.2.1.2] :: _ :: _ :: _ :: _ :: ow) := hp
      refine nx hf (fun _ _ => ⟨_, hp⟩) ?_
      refine dr_takeK 13 (.int .i64 q73.2.2) rfl hf rfl (fun w ⟨_, hp⟩ => ?_) ⟨_, hp⟩ ?_
      · exact st_assign hf rfl rfl (by decide) tk
      clear hf; intro a hf
      refine dr_end (by kernel_rfl) ?_ _
      have hp := bk66 _ _ hp
      have hp := bk61 _ _ hp
      exact ⟨v75, v77, hf.sub ⟨rfl, rfl, rfl, rfl, rfl, rfl, trivial⟩, hp⟩
    ·
     refine st_alloc (cs := [.int .i64 (0 : Int), .int .i64 (0 : Int)]) (zv := .agg #[.int .i64 (0 : Int), .int .i64 (0 : Int)]) hf (by decide) (by kernel_rfl) rfl hp rfl ?_
     clear hf; intro a w v77 hf hp0; clear hp; have hp := hp0; clear hp0
     replace hp : Hp _ _ _ (Res.obj 56 v77 [.int .i64 (0 : Int), .int .i64 (0 : Int)] :: Res.obj 56 v75 [.int .i64 (0 : Int), .int .i64 (0 : Int)] :: _ :: _ :: _ :: ow) := hp
     refine nx hf (fun _ _ => ⟨_, hp⟩) ?_
     refine dr_one 1 rfl (by kernel_rfl) ?_
     refine st_call hf (by decide) Try.func40 rfl rfl rfl rfl rfl (f_foghornlaw03_own_c hp _ _ hcall70) ?_
     rintro _ w ⟨rfl, hp0⟩
     clear hp; have hp := hp0; clear hp0
     replace hp : Hp _ _ _ (_ :: _ :: _ :: _ :: _ :: ow) := hp
     refine ⟨_, rfl, ?_⟩
     clear hf; intro a hf
     refine nx hf (fun _ _ => ⟨_, hp⟩) ?_
     refine dr_one 3 rfl (by kernel_rfl) ?_
     refine st_call hf (by decide) Try.func40 rfl rfl rfl rfl rfl (f_foghornlaw03_own_c hp _ _ hcall72) ?_
     rintro _ w ⟨rfl, hp0⟩
     clear hp; have hp := hp0; clear hp0
     replace hp : Hp _ _ _ (_ :: _ :: _ :: _ :: _ :: ow) := hp
     refine ⟨_, rfl, ?_⟩
     clear hf; intro a hf
     refine nx hf (fun _ _ => ⟨_, hp⟩) ?_
     refine dr_one 4 rfl (by kernel_rfl) ?_
     refine st_call hf (by decide) Try.func34 rfl rfl rfl rfl rfl (f_plane_Gauss_By_c hp _ _ _ _ hcall74) ?_
     rintro _ w ⟨rfl, hp0⟩
     clear hp; have hp := hp0; clear hp0
     replace hp : Hp _ _ _ (_ :: _ :: _ :: _ :: _ :: ow) := hp
     refine ⟨_, rfl, ?_⟩
     clear hf; intro a hf
     refine nx hf (fun _ _ => ⟨_, hp⟩) ?_
     refine dr_takeK 5 (.tuple #[.agg #[.int .i64 q73.1.1, .int .i64 q73.1.2], .agg #[.int .i64 q73.2.1.1, .int .i64 q73.2.1.2], .int .i64 q73.2.2]) rfl hf rfl (fun w ⟨_, hp⟩ => ?_) ⟨_, hp⟩ ?_
     · exact st_move hf rfl rfl (by decide) tk
     clear hf; intro a hf
     refine dr_takeK 6 (.agg #[.int .i64 q73.1.1, .int .i64 q73.1.2]) rfl hf rfl (fun w ⟨_, hp⟩ => ?_) ⟨_, hp⟩ ?_
     · exact st_extract hf (by decide) rfl rfl rfl tk
     clear hf; intro a hf
     refine dr_takeK 7 (.agg #[.int .i64 q73.2.1.1, .int .i64 q73.2.1.2]) rfl hf rfl (fun w ⟨_, hp⟩ => ?_) ⟨_, hp⟩ ?_
     · exact st_extract hf (by decide) rfl rfl rfl tk
     clear hf; intro a hf
     refine dr_takeK 8 (.int .i64 q73.2.2) rfl hf rfl (fun w ⟨_, hp⟩ => ?_) ⟨_, hp⟩ ?_
     · exact st_extract hf (by decide) rfl rfl rfl tk
     clear hf; intro a hf
     refine dr_one 11 rfl (by kernel_rfl) ?_
     refine st_stO (us := [.int .i64 q73.1.1, .int .i64 q73.1.2]) hf hp (i := 1) rfl rfl rfl rfl rfl (by rfl) (by kernel_rfl) (Nat.le_of_ble_eq_true rfl) ?_
     clear hf; intro a w hf hp0; clear hp; have hp := hp0; clear hp0
     replace hp : Hp _ _ _ (_ :: Res.obj 56 v75 [.int .i64 q73.1.1, .int .i64 q73.1.2] :: _ :: _ :: _ :: ow) := hp
     refine nx hf (fun _ _ => ⟨_, hp⟩) ?_
     refine dr_one 12 rfl (by kernel_rfl) ?_
     refine st_stO (us := [.int .i64 q73.2.1.1, .int .i64 q73.2.1.2]) hf hp (i := 0) rfl rfl rfl rfl rfl (by rfl) (by kernel_rfl) (Nat.le_of_ble_eq_true rfl) ?_
     clear hf; intro a w hf hp0; clear hp; have hp := hp0; clear hp0
     replace hp : Hp _ _ _ (Res.obj 56 v77 [.int .i64 q73.2.1.1, .int .i64 q73.2.1.2] :: _ :: _ :: _ :: _ :: ow) := hp
     refine nx hf (fun _ _ => ⟨_, hp⟩) ?_
     refine dr_takeK 13 (.int .i64 q73.2.2) rfl hf rfl (fun w ⟨_, hp⟩ => ?_) ⟨_, hp⟩ ?_
     · exact st_assign hf rfl rfl (by decide) tk
     clear hf; intro a hf
     refine dr_end (by kernel_rfl) ?_ _
     have hp := bk66 _ _ hp
     have hp := bk61 _ _ hp
     exact ⟨v75, v77, hf.sub ⟨rfl, rfl, rfl, rfl, rfl, rfl, trivial⟩, hp⟩
   ·
    refine st_alloc (cs := [.int .i64 (0 : Int), .int .i64 (0 : Int)]) (zv := .agg #[.int .i64 (0 : Int), .int .i64 (0 : Int)]) hf (by decide) (by kernel_rfl) rfl hp rfl ?_
    clear hf; intro a w v77 hf hp0; clear hp; have hp := hp0; clear hp0
    replace hp : Hp _ _ _ (Res.obj 56 v77 [.int .i64 (0 : Int), .int .i64 (0 : Int)] :: _ :: _ :: _ :: ow) := hp
    refine nx hf (fun _ _ => ⟨_, hp⟩) ?_
    refine dr_two 1 9 rfl rfl (by kernel_rfl) ?_ ?_
    ·
     refine st_call hf (by decide) Try.func40 rfl rfl rfl rfl rfl (f_foghornlaw03_own_c hp _ _ hcall70) ?_
     rintro _ w ⟨rfl, hp0⟩
     clear hp; have hp := hp0; clear hp0
     replace hp : Hp _ _ _ (_ :: _ :: _ :: _ :: ow) := hp
     refine ⟨_, rfl, ?_⟩
     clear hf; intro a hf
     refine nx hf (fun _ _ => ⟨_, hp⟩) ?_
     refine dr_two 3 9 rfl rfl (by kernel_rfl) ?_ ?_
     ·
      refine st_call hf (by decide) Try.func40 rfl rfl rfl rfl rfl (f_foghornlaw03_own_c hp _ _ hcall72) ?_
      rintro _ w ⟨rfl, hp0⟩
      clear hp; have hp := hp0; clear hp0
      replace hp : Hp _ _ _ (_ :: _ :: _ :: _ :: ow) := hp
      refine ⟨_, rfl, ?_⟩
      clear hf; intro a hf
      refine nx hf (fun _ _ => ⟨_, hp⟩) ?_
      refine dr_two 4 9 rfl rfl (by kernel_rfl) ?_ ?_
      ·
       refine st_call hf (by decide) Try.func34 rfl rfl rfl rfl rfl (f_plane_Gauss_By_c hp _ _ _ _ hcall74) ?_
       rintro _ w ⟨rfl, hp0⟩
       clear hp; have hp := hp0; clear hp0
       replace hp : Hp _ _ _ (_ :: _ :: _ :: _ :: ow) := hp
       refine ⟨_, rfl, ?_⟩
       clear hf; intro a hf
       refine nx hf (fun _ _ => ⟨_, hp⟩) ?_
       refine dr_takeK 5 (.tuple #[.agg #[.int .i64 q73.1.1, .int .i64 q73.1.2], .agg #[.int .i64 q73.2.1.1, .int .i64 q73.2.1.2], .int .i64 q73.2.2]) rfl hf rfl (fun w ⟨_, hp⟩ => ?_) ⟨_, hp⟩ ?_
       · exact st_move hf rfl rfl (by decide) tk
       clear hf; intro a hf
       refine dr_takeK 6 (.agg #[.int .i64 q73.1.1, .int .i64 q73.1.2]) rfl hf rfl (fun w ⟨_, hp⟩ => ?_) ⟨_, hp⟩ ?_
       · exact st_extract hf (by decide) rfl rfl rfl tk
       clear hf; intro a hf
       refine dr_takeK 7 (.agg #[.int .i64 q73.2.1.1, .int .i64 q73.2.1.2]) rfl hf rfl (fun w ⟨_, hp⟩ => ?_) ⟨_, hp⟩ ?_
       · exact st_extract hf (by decide) rfl rfl rfl tk
       clear hf; intro a hf
       refine dr_takeK 8 (.int .i64 q73.2.2) rfl hf rfl (fun w ⟨_, hp⟩ => ?_) ⟨_, hp⟩ ?_
       · exact st_extract hf (by decide) rfl rfl rfl tk
       clear hf; intro a hf
       refine dr_one 9 rfl (by kernel_rfl) ?_
       refine st_alloc (cs := [.int .i64 (0 : Int), .int .i64 (0 : Int)]) (zv := .agg #[.int .i64 (0 : Int), .int .i64 (0 : Int)]) hf (by decide) (by kernel_rfl) rfl hp rfl ?_
       clear hf; intro a w v75 hf hp0; clear hp; have hp := hp0; clear hp0
       replace hp : Hp _ _ _ (Res.obj 56 v75 [.int .i64 (0 : Int), .int .i64 (0 : Int)] :: _ :: _ :: _ :: _ :: ow) := hp
       refine nx hf (fun _ _ => ⟨_, hp⟩) ?_
       refine dr_one 11 rfl (by kernel_rfl) ?_
       refine st_stO (us := [.int .i64 q73.1.1, .int .i64 q73.1.2]) hf hp (i := 0) rfl rfl rfl rfl rfl (by rfl) (by kernel_rfl) (Nat.le_of_ble_eq_true rfl) ?_
       clear hf; intro a w hf hp0; clear hp; have hp := hp0; clear hp0
       replace hp : Hp _ _ _ (Res.obj 56 v75 [.int .i64 q73.1.1, .int .i64 q73.1.2] :: _ :: _ :: _ :: _ :: ow) := hp
       refine nx hf (fun _ _ => ⟨_, hp⟩) ?_
       refine dr_one 12 rfl (by kernel_rfl) ?_
       refine st_stO (us := [.int .i64 q73.2.1.1, .int .i64 q73.2.1.2]) hf hp (i := 1) rfl rfl rfl rfl rfl (by rfl) (by kernel_rfl) (Nat.le_of_ble_eq_true rfl) ?_
       clear hf; intro a w hf hp0; clear hp; have hp := hp0; clear hp0
       replace hp : Hp _ _ _ (_ :: Res.obj 56 v77 [.int .i64 q73.2.1.1, .int .i64 q73.2.1.2] :: _ :: _ :: _ :: ow) := hp
       refine nx hf (fun _ _ => ⟨_, hp⟩) ?_
       refine dr_takeK 13 (.int .i64 q73.2.2) rfl hf rfl (fun w ⟨_, hp⟩ => ?_) ⟨_, hp⟩ ?_
       · exact st_assign hf rfl rfl (by decide) tk
       clear hf; intro a hf
       refine dr_end (by kernel_rfl) ?_ _
       have hp : Hp _ _ _ (_ :: _ :: _ :: _ :: _ :: ow) := Hp.sel (pre := [Res.obj 56 v75 [.int .i64 q73.1.1, .int .i64 q73.1.2], Res.obj 56 v77 [.int .i64 q73.2.1.1, .int .i64 q73.2.1.2], Res.obj 56 v25 [.int .i64 q23.1.1, .int .i64 q23.1.2], Res.obj 74 v29 [.int .i64 q27.1.1, .int .i64 q27.1.2], Res.obj 76 v5 [.int .i64 xx2_Depth, .int .u32 xx2_Class, .float .f64 bxx2_Z_0, .float .f64 bxx2_Z_1]]) (tail := ow) (rs' := [Res.obj 56 v77 [.int .i64 q73.2.1.1, .int .i64 q73.2.1.2], Res.obj 56 v75 [.int .i64 q73.1.1, .int .i64 q73.1.2], Res.obj 56 v25 [.int .i64 q23.1.1, .int .i64 q23.1.2], Res.obj 74 v29 [.int .i64 q27.1.1, .int .i64 q27.1.2], Res.obj 76 v5 [.int .i64 xx2_Depth, .int .u32 xx2_Class, .float .f64 bxx2_Z_0, .float .f64 bxx2_Z_1]]) hp [1, 0, 2, 3, 4] (by decide) (by simp) rfl
       have hp := bk66 _ _ hp
       have hp := bk61 _ _ hp
       exact ⟨v75, v77, hf.sub ⟨rfl, rfl, rfl, rfl, rfl, rfl, trivial⟩, hp⟩
      ·
       refine st_alloc (cs := [.int .i64 (0 : Int), .int .i64 (0 : Int)]) (zv := .agg #[.int .i64 (0 : Int), .int .i64 (0 : Int)]) hf (by decide) (by kernel_rfl) rfl hp rfl ?_
       clear hf; intro a w v75 hf hp0; clear hp; have hp := hp0; clear hp0
       replace hp : Hp _ _ _ (Res.obj 56 v75 [.int .i64 (0 : Int), .int .i64 (0 : Int)] :: Res.obj 56 v77 [.int .i64 (0 : Int), .int .i64 (0 : Int)] :: _ :: _ :: _ :: ow) := hp
       refine nx hf (fun _ _ => ⟨_, hp⟩) ?_
       refine dr_one 4 rfl (by kernel_rfl) ?_
       refine st_call hf (by decide) Try.func34 rfl rfl rfl rfl rfl (f_plane_Gauss_By_c hp _ _ _ _ hcall74) ?_
       rintro _ w ⟨rfl, hp0⟩
       clear hp; have hp := hp0; clear hp0
       replace hp : Hp _ _ _ (_ :: _ :: _ :: _ :: _ :: ow) := hp
       refine ⟨_, rfl, ?_⟩
       clear hf; intro a hf
       refine nx hf (fun _ _ => ⟨_, hp⟩) ?_
       refine dr_takeK 5 (.tuple #[.agg #[.int .i64 q73.1.1, .int .i64 q73.1.2], .agg #[.int .i64 q73.2.1.1, .int .i64 q73.2.1.2], .int .i64 q73.2.2]) rfl hf rfl (fun w ⟨_, hp⟩ => ?_) ⟨_, hp⟩ ?_
       · exact st_move hf rfl rfl (by decide) tk
       clear hf; intro a hf
       refine dr_takeK 6 (.agg #[.int .i64 q73.1.1, .int .i64 q73.1.2]) rfl hf rfl (fun w ⟨_, hp⟩ => ?_) ⟨_, hp⟩ ?_
       · exact st_extract hf (by decide) rfl rfl rfl tk
       clear hf; intro a hf
       refine dr_takeK 7 (.agg #[.int .i64 q73.2.1.1, .int .i64 q73.2.1.2]) rfl hf rfl (fun w ⟨_, hp⟩ => ?_) ⟨_, hp⟩ ?_
       · exact st_extract hf (by decide) rfl rfl rfl tk
       clear hf; intro a hf
       refine dr_takeK 8 (.int .i64 q73.2.2) rfl hf rfl (fun w ⟨_, hp⟩ => ?_) ⟨_, hp⟩ ?_
       · exact st_extract hf (by decide) rfl rfl rfl tk
       clear hf; intro a hf
       refine dr_one 11 rfl (by kernel_rfl) ?_
       refine st_stO (us := [.int .i64 q73.1.1, .int .i64 q73.1.2]) hf hp (i := 0) rfl rfl rfl rfl rfl (by rfl) (by kernel_rfl) (Nat.le_of_ble_eq_true rfl) ?_
       clear hf; intro a w hf hp0; clear hp; have hp := hp0; clear hp0
       replace hp : Hp _ _ _ (Res.obj 56 v75 [.int .i64 q73.1.1, .int .i64 q73.1.2] :: _ :: _ :: _ :: _ :: ow) := hp
       refine nx hf (fun _ _ => ⟨_, hp⟩) ?_
       refine dr_one 12 rfl (by kernel_rfl) ?_
       refine st_stO (us := [.int .i64 q73.2.1.1, .int .i64 q73.2.1.2]) hf hp (i := 1) rfl rfl rfl rfl rfl (by rfl) (by kernel_rfl) (Nat.le_of_ble_eq_true rfl) ?_
       clear hf; intro a w hf hp0; clear hp; have hp := hp0; clear hp0
       replace hp : Hp _ _ _ (_ :: Res.obj 56 v77 [.int .i64 q73.2.1.1, .int .i64 q73.2.1.2] :: _ :: _ :: _ :: ow) := hp
       refine nx hf (fun _ _ => ⟨_, hp⟩) ?_
       refine dr_takeK 13 (.int .i64 q73.2.2) rfl hf rfl (fun w ⟨_, hp⟩ => ?_) ⟨_, hp⟩ ?_
       · exact st_assign hf rfl rfl (by decide) tk
       clear hf; intro a hf
       refine dr_end (by kernel_rfl) ?_ _
       have hp : Hp _ _ _ (_ :: _ :: _ :: _ :: _ :: ow) := Hp.sel (pre := [Res.obj 56 v75 [.int .i64 q73.1.1, .int .i64 q73.1.2], Res.obj 56 v77 [.int .i64 q73.2.1.1, .int .i64 q73.2.1.2], Res.obj 56 v25 [.int .i64 q23.1.1, .int .i64 q23.1.2], Res.obj 74 v29 [.int .i64 q27.1.1, .int .i64 q27.1.2], Res.obj 76 v5 [.int .i64 xx2_Depth, .int .u32 xx2_Class, .float .f64 bxx2_Z_0, .float .f64 bxx2_Z_1]]) (tail := ow) (rs' := [Res.obj 56 v77 [.int .i64 q73.2.1.1, .int .i64 q73.2.1.2], Res.obj 56 v75 [.int .i64 q73.1.1, .int .i64 q73.1.2], Res.obj 56 v25 [.int .i64 q23.1.1, .int .i64 q23.1.2], Res.obj 74 v29 [.int .i64 q27.1.1, .int .i64 q27.1.2], Res.obj 76 v5 [.int .i64 xx2_Depth, .int .u32 xx2_Class, .float .f64 bxx2_Z_0, .float .f64 bxx2_Z_1]]) hp [1, 0, 2, 3, 4] (by decide) (by simp) rfl
       have hp := bk66 _ _ hp
       have hp := bk61 _ _ hp
       exact ⟨v75, v77, hf.sub ⟨rfl, rfl, rfl, rfl, rfl, rfl, trivial⟩, hp⟩
     ·
      refine st_alloc (cs := [.int .i64 (0 : Int), .int .i64 (0 : Int)]) (zv := .agg #[.int .i64 (0 : Int), .int .i64 (0 : Int)]) hf (by decide) (by kernel_rfl) rfl hp rfl ?_
      clear hf; intro a w v75 hf hp0; clear hp; have hp := hp0; clear hp0
      replace hp : Hp _ _ _ (Res.obj 56 v75 [.int .i64 (0 : Int), .int .i64 (0 : Int)] :: Res.obj 56 v77 [.int .i64 (0 : Int), .int .i64 (0 : Int)] :: _ :: _ :: _ :: ow) := hp
      refine nx hf (fun _ _ => ⟨_, hp⟩) ?_
      refine dr_one 3 rfl (by kernel_rfl) ?_
      refine st_call hf (by decide) Try.func40 rfl rfl rfl rfl rfl (f_foghornlaw03_own_c hp _ _ hcall72) ?_
      rintro _ w ⟨rfl, hp0⟩
      clear hp; have hp := hp0; clear hp0
      replace hp : Hp _ _ _ (_ :: _ :: _ :: _ :: _ :: ow) := hp
      refine ⟨_, rfl, ?_⟩
      clear hf; intro a hf
      refine nx hf (fun _ _ => ⟨_, hp⟩) ?_
      refine dr_one 4 rfl (by kernel_rfl) ?_
      refine st_call hf (by decide) Try.func34 rfl rfl rfl rfl rfl (f_plane_Gauss_By_c hp _ _ _ _ hcall74) ?_
      rintro _ w ⟨rfl, hp0⟩
      clear hp; have hp := hp0; clear hp0
      replace hp : Hp _ _ _ (_ :: _ :: _ :: _ :: _ :: ow) := hp
      refine ⟨_, rfl, ?_⟩
      clear hf; intro a hf
      refine nx hf (fun _ _ => ⟨_, hp⟩) ?_
      refine dr_takeK 5 (.tuple #[.agg #[.int .i64 q73.1.1, .int .i64 q73.1.2], .agg #[.int .i64 q73.2.1.1, .int .i64 q73.2.1.2], .int .i64 q73.2.2]) rfl hf rfl (fun w ⟨_, hp⟩ => ?_) ⟨_, hp⟩ ?_
      · exact st_move hf rfl rfl (by decide) tk
      clear hf; intro a hf
      refine dr_takeK 6 (.agg #[.int .i64 q73.1.1, .int .i64 q73.1.2]) rfl hf rfl (fun w ⟨_, hp⟩ => ?_) ⟨_, hp⟩ ?_
      · exact st_extract hf (by decide) rfl rfl rfl tk
      clear hf; intro a hf
      refine dr_takeK 7 (.agg #[.int .i64 q73.2.1.1, .int .i64 q73.2.1.2]) rfl hf rfl (fun w ⟨_, hp⟩ => ?_) ⟨_, hp⟩ ?_
      · exact st_extract hf (by decide) rfl rfl rfl tk
      clear hf; intro a hf
      refine dr_takeK 8 (.int .i64 q73.2.2) rfl hf rfl (fun w ⟨_, hp⟩ => ?_) ⟨_, hp⟩ ?_
      · exact st_extract hf (by decide) rfl rfl rfl tk
      clear hf; intro a hf
      refine dr_one 11 rfl (by kernel_rfl) ?_
      refine st_stO (us := [.int .i64 q73.1.1, .int .i64 q73.1.2]) hf hp (i := 0) rfl rfl rfl rfl rfl (by rfl) (by kernel_rfl) (Nat.le_of_ble_eq_true rfl) ?_
      clear hf; intro a w hf hp0; clear hp; have hp := hp0; clear hp0
      replace hp : Hp _ _ _ (Res.obj 56 v75 [.int .i64 q73.1.1, .int .i64 q73.1.2] :: _ :: _ :: _ :: _ :: ow) := hp
      refine nx hf (fun _ _ => ⟨_, hp⟩) ?_
      refine dr_one 12 rfl (by kernel_rfl) ?_
      refine st_stO (us := [.int .i64 q73.2.1.1, .int .i64 q73.2.1.2]) hf hp (i := 1) rfl rfl rfl rfl rfl (by rfl) (by kernel_rfl) (Nat.le_of_ble_eq_true rfl) ?_
      clear hf; intro a w hf hp0; clear hp; have hp := hp0; clear hp0
      replace hp : Hp _ _ _ (_ :: Res.obj 56 v77 [.int .i64 q73.2.1.1, .int .i64 q73.2.1.2] :: _ :: _ :: _ :: ow) := hp
      refine nx hf (fun _ _ => ⟨_, hp⟩) ?_
      refine dr_takeK 13 (.int .i64 q73.2.2) rfl hf rfl (fun w ⟨_, hp⟩ => ?_) ⟨_, hp⟩ ?_
      · exact st_assign hf rfl rfl (by decide) tk
      clear hf; intro a hf
      refine dr_end (by kernel_rfl) ?_ _
      have hp : Hp _ _ _ (_ :: _ :: _ :: _ :: _ :: ow) := Hp.sel (pre := [Res.obj 56 v75 [.int .i64 q73.1.1, .int .i64 q73.1.2], Res.obj 56 v77 [.int .i64 q73.2.1.1, .int .i64 q73.2.1.2], Res.obj 56 v25 [.int .i64 q23.1.1, .int .i64 q23.1.2], Res.obj 74 v29 [.int .i64 q27.1.1, .int .i64 q27.1.2], Res.obj 76 v5 [.int .i64 xx2_Depth, .int .u32 xx2_Class, .float .f64 bxx2_Z_0, .float .f64 bxx2_Z_1]]) (tail := ow) (rs' := [Res.obj 56 v77 [.int .i64 q73.2.1.1, .int .i64 q73.2.1.2], Res.obj 56 v75 [.int .i64 q73.1.1, .int .i64 q73.1.2], Res.obj 56 v25 [.int .i64 q23.1.1, .int .i64 q23.1.2], Res.obj 74 v29 [.int .i64 q27.1.1, .int .i64 q27.1.2], Res.obj 76 v5 [.int .i64 xx2_Depth, .int .u32 xx2_Class, .float .f64 bxx2_Z_0, .float .f64 bxx2_Z_1]]) hp [1, 0, 2, 3, 4] (by decide) (by simp) rfl
      have hp := bk66 _ _ hp
      have hp := bk61 _ _ hp
      exact ⟨v75, v77, hf.sub ⟨rfl, rfl, rfl, rfl, rfl, rfl, trivial⟩, hp⟩
    ·
     refine st_alloc (cs := [.int .i64 (0 : Int), .int .i64 (0 : Int)]) (zv := .agg #[.int .i64 (0 : Int), .int .i64 (0 : Int)]) hf (by decide) (by kernel_rfl) rfl hp rfl ?_
     clear hf; intro a w v75 hf hp0; clear hp; have hp := hp0; clear hp0
     replace hp : Hp _ _ _ (Res.obj 56 v75 [.int .i64 (0 : Int), .int .i64 (0 : Int)] :: Res.obj 56 v77 [.int .i64 (0 : Int), .int .i64 (0 : Int)] :: _ :: _ :: _ :: ow) := hp
     refine nx hf (fun _ _ => ⟨_, hp⟩) ?_
     refine dr_one 1 rfl (by kernel_rfl) ?_
     refine st_call hf (by decide) Try.func40 rfl rfl rfl rfl rfl (f_foghornlaw03_own_c hp _ _ hcall70) ?_
     rintro _ w ⟨rfl, hp0⟩
     clear hp; have hp := hp0; clear hp0
     replace hp : Hp _ _ _ (_ :: _ :: _ :: _ :: _ :: ow) := hp
     refine ⟨_, rfl, ?_⟩
     clear hf; intro a hf
     refine nx hf (fun _ _ => ⟨_, hp⟩) ?_
     refine dr_one 3 rfl (by kernel_rfl) ?_
     refine st_call hf (by decide) Try.func40 rfl rfl rfl rfl rfl (f_foghornlaw03_own_c hp _ _ hcall72) ?_
     rintro _ w ⟨rfl, hp0⟩
     clear hp; have hp := hp0; clear hp0
     replace hp : Hp _ _ _ (_ :: _ :: _ :: _ :: _ :: ow) := hp
     refine ⟨_, rfl, ?_⟩
     clear hf; intro a hf
     refine nx hf (fun _ _ => ⟨_, hp⟩) ?_
     refine dr_one 4 rfl (by kernel_rfl) ?_
     refine st_call hf (by decide) Try.func34 rfl rfl rfl rfl rfl (f_plane_Gauss_By_c hp _ _ _ _ hcall74) ?_
     rintro _ w ⟨rfl, hp0⟩
     clear hp; have hp := hp0; clear hp0
     replace hp : Hp _ _ _ (_ :: _ :: _ :: _ :: _ :: ow) := hp
     refine ⟨_, rfl, ?_⟩
     clear hf; intro a hf
     refine nx hf (fun _ _ => ⟨_, hp⟩) ?_
     refine dr_takeK 5 (.tuple #[.agg #[.int .i64 q73.1.1, .int .i64 q73.1.2], .agg #[.int .i64 q73.2.1.1, .int .i64 q73.2.1.2], .int .i64 q73.2.2]) rfl hf rfl (fun w ⟨_, hp⟩ => ?_) ⟨_, hp⟩ ?_
     · exact st_move hf rfl rfl (by decide) tk
     clear hf; intro a hf
     refine dr_takeK 6 (.agg #[.int .i64 q73.1.1, .int .i64 q73.1.2]) rfl hf rfl (fun w ⟨_, hp⟩ => ?_) ⟨_, hp⟩ ?_
     · exact st_extract hf (by decide) rfl rfl rfl tk
     clear hf; intro a hf
     refine dr_takeK 7 (.agg #[.int .i64 q73.2.1.1, .int .i64 q73.2.1.2]) rfl hf rfl (fun w ⟨_, hp⟩ => ?_) ⟨_, hp⟩ ?_
     · exact st_extract hf (by decide) rfl rfl rfl tk
     clear hf; intro a hf
     refine dr_takeK 8 (.int .i64 q73.2.2) rfl hf rfl (fun w ⟨_, hp⟩ => ?_) ⟨_, hp⟩ ?_
     · exact st_extract hf (by decide) rfl rfl rfl tk
     clear hf; intro a hf
     refine dr_one 11 rfl (by kernel_rfl) ?_
     refine st_stO (us := [.int .i64 q73.1.1, .int .i64 q73.1.2]) hf hp (i := 0) rfl rfl rfl rfl rfl (by rfl) (by kernel_rfl) (Nat.le_of_ble_eq_true rfl) ?_
     clear hf; intro a w hf hp0; clear hp; have hp := hp0; clear hp0
     replace hp : Hp _ _ _ (Res.obj 56 v75 [.int .i64 q73.1.1, .int .i64 q73.1.2] :: _ :: _ :: _ :: _ :: ow) := hp
     refine nx hf (fun _ _ => ⟨_, hp⟩) ?_
     refine dr_one 12 rfl (by kernel_rfl) ?_
     refine st_stO (us := [.int .i64 q73.2.1.1, .int .i64 q73.2.1.2]) hf hp (i := 1) rfl rfl rfl rfl rfl (by rfl) (by kernel_rfl) (Nat.le_of_ble_eq_true rfl) ?_
     clear hf; intro a w hf hp0; clear hp; have hp := hp0; clear hp0
     replace hp : Hp _ _ _ (_ :: Res.obj 56 v77 [.int .i64 q73.2.1.1, .int .i64 q73.2.1.2] :: _ :: _ :: _ :: ow) := hp
     refine nx hf (fun _ _ => ⟨_, hp⟩) ?_
     refine dr_takeK 13 (.int .i64 q73.2.2) rfl hf rfl (fun w ⟨_, hp⟩ => ?_) ⟨_, hp⟩ ?_
     · exact st_assign hf rfl rfl (by decide) tk
     clear hf; intro a hf
     refine dr_end (by kernel_rfl) ?_ _
     have hp : Hp _ _ _ (_ :: _ :: _ :: _ :: _ :: ow) := Hp.sel (pre := [Res.obj 56 v75 [.int .i64 q73.1.1, .int .i64 q73.1.2], Res.obj 56 v77 [.int .i64 q73.2.1.1, .int .i64 q73.2.1.2], Res.obj 56 v25 [.int .i64 q23.1.1, .int .i64 q23.1.2], Res.obj 74 v29 [.int .i64 q27.1.1, .int .i64 q27.1.2], Res.obj 76 v5 [.int .i64 xx2_Depth, .int .u32 xx2_Class, .float .f64 bxx2_Z_0, .float .f64 bxx2_Z_1]]) (tail := ow) (rs' := [Res.obj 56 v77 [.int .i64 q73.2.1.1, .int .i64 q73.2.1.2], Res.obj 56 v75 [.int .i64 q73.1.1, .int .i64 q73.1.2], Res.obj 56 v25 [.int .i64 q23.1.1, .int .i64 q23.1.2], Res.obj 74 v29 [.int .i64 q27.1.1, .int .i64 q27.1.2], Res.obj 76 v5 [.int .i64 xx2_Depth, .int .u32 xx2_Class, .float .f64 bxx2_Z_0, .float .f64 bxx2_Z_1]]) hp [1, 0, 2, 3, 4] (by decide) (by simp) rfl
     have hp := bk66 _ _ hp
     have hp := bk61 _ _ hp
     exact ⟨v75, v77, hf.sub ⟨rfl, rfl, rfl, rfl, rfl, rfl, trivial⟩, hp⟩
  rintro a w ⟨v75, v77, hf, hp⟩
  refine th_n ?_
  refine wp_seq ?_
  refine wp_reg ?_
  refine st_ldOA (m := 2) (us := [.int .i64 ax0_Re, .int .i64 ax0_Im]) hf (by decide) (by kernel_rfl) rfl rfl (hp.ob (i := 0) rfl) rfl rfl ?_
  clear hf; intro a ha hf; clear ha
  refine st_ldOA (m := 2) (us := [.int .i64 bx1_Re, .int .i64 bx1_Im]) hf (by decide) (by kernel_rfl) rfl rfl (hp.ob (i := 1) rfl) rfl rfl ?_
  clear hf; intro a ha hf; clear ha
  obtain ⟨q79, hcall80, h⟩ := bnd h
  refine st_call hf (by decide) Try.func44 rfl rfl rfl rfl rfl (f_foghornref03_By_c hp _ _ _ _ hcall80) ?_
  rintro _ w ⟨rfl, hp0⟩
  clear hp; have hp := hp0; clear hp0
  replace hp : Hp _ _ _ (Res.obj 74 v1 [.int .i64 ax0_Re, .int .i64 ax0_Im] :: Res.obj 74 v3 [.int .i64 bx1_Re, .int .i64 bx1_Im] :: _ :: _ :: _ :: _ :: _ :: ow) := hp
  refine ⟨_, rfl, ?_⟩
  clear hf; intro a hf
  refine st_move hf rfl rfl (by decide) ?_
  clear hf; intro a ha hf; clear ha
  refine st_extract hf (by decide) rfl rfl rfl ?_
  clear hf; intro a ha hf; clear ha
  refine st_extract hf (by decide) rfl rfl rfl ?_
  clear hf; intro a ha hf; clear ha
  refine st_extract hf (by decide) rfl rfl rfl ?_
  clear hf; intro a ha hf; clear ha
  refine st_alloc (cs := [.int .i64 (0 : Int), .int .i64 (0 : Int)]) (zv := .agg #[.int .i64 (0 : Int), .int .i64 (0 : Int)]) hf (by decide) (by kernel_rfl) rfl hp rfl ?_
  clear hf; intro a w v81 hf hp0; clear hp; have hp := hp0; clear hp0
  replace hp : Hp _ _ _ (Res.obj 74 v81 [.int .i64 (0 : Int), .int .i64 (0 : Int)] :: _ :: _ :: _ :: _ :: _ :: _ :: _ :: ow) := hp
  refine st_alloc (cs := [.int .i64 (0 : Int), .int .i64 (0 : Int)]) (zv := .agg #[.int .i64 (0 : Int), .int .i64 (0 : Int)]) hf (by decide) (by kernel_rfl) rfl hp rfl ?_
  clear hf; intro a w v83 hf hp0; clear hp; have hp := hp0; clear hp0
  replace hp : Hp _ _ _ (Res.obj 74 v83 [.int .i64 (0 : Int), .int .i64 (0 : Int)] :: _ :: _ :: _ :: _ :: _ :: _ :: _ :: _ :: ow) := hp
  refine st_stO (us := [.int .i64 q79.1.1, .int .i64 q79.1.2]) hf hp (i := 1) rfl rfl rfl rfl rfl (by rfl) (by kernel_rfl) (Nat.le_of_ble_eq_true rfl) ?_
  clear hf; intro a w hf hp0; clear hp; have hp := hp0; clear hp0
  replace hp : Hp _ _ _ (_ :: Res.obj 74 v81 [.int .i64 q79.1.1, .int .i64 q79.1.2] :: _ :: _ :: _ :: _ :: _ :: _ :: _ :: ow) := hp
  refine st_stO (us := [.int .i64 q79.2.1.1, .int .i64 q79.2.1.2]) hf hp (i := 0) rfl rfl rfl rfl rfl (by rfl) (by kernel_rfl) (Nat.le_of_ble_eq_true rfl) ?_
  clear hf; intro a w hf hp0; clear hp; have hp := hp0; clear hp0
  replace hp : Hp _ _ _ (Res.obj 74 v83 [.int .i64 q79.2.1.1, .int .i64 q79.2.1.2] :: _ :: _ :: _ :: _ :: _ :: _ :: _ :: _ :: ow) := hp
  refine st_assign hf rfl rfl (by decide) ?_
  clear hf; intro a ha hf; clear ha
  refine st_nil hf ?_
  refine th_n ?_
  refine wp_seq ?_
  obtain ⟨S85, hp86, rd87, up88, bk89⟩ := Hp.lendO hp (i := 2) rfl
  obtain ⟨S90, hp91, rd92, up93, bk94⟩ := Hp.lendO hp86 (i := 2) rfl
  have rl95 := ((rd87.now hp86).mono up93)
  have rl96 := rd92
  obtain ⟨q97, hcall98, h⟩ := bnd h
  obtain ⟨q99, hcall100, h⟩ := bnd h
  obtain ⟨q101, hcall102, h⟩ := bnd h
  refine wp_cutN (fun a w => ∃ (v103 : Value), Fr 239 a [(3, optr v1 0), (4, optr v3 0), (5, optr v5 0), (8, .int .i64 q73.2.2), (10, .int .i64 q79.2.2), (12, .int .i64 q101.2), (15, optr v75 0), (16, optr v77 0), (17, optr v81 0), (18, optr v83 0), (19, optr v103 0)] ∧ Hp S w0 w (Res.obj 74 v1 [.int .i64 ax0_Re, .int .i64 ax0_Im] :: Res.obj 74 v3 [.int .i64 bx1_Re, .int .i64 bx1_Im] :: Res.obj 56 v103 [.int .i64 q101.1.1, .int .i64 q101.1.2] :: Res.obj 74 v83 [.int .i64 q79.2.1.1, .int .i64 q79.2.1.2] :: Res.obj 74 v81 [.int .i64 q79.1.1, .int .i64 q79.1.2] :: Res.obj 56 v77 [.int .i64 q73.2.1.1, .int .i64 q73.2.1.2] :: Res.obj 56 v75 [.int .i64 q73.1.1, .int .i64 q73.1.2] :: Res.obj 56 v25 [.int .i64 q23.1.1, .int .i64 q23.1.2] :: Res.obj 74 v29 [.int .i64 q27.1.1, .int .i64 q27.1.2] :: Res.obj 76 v5 [.int .i64 xx2_Depth, .int .u32 xx2_Class, .float .f64 bxx2_Z_0, .float .f64 bxx2_Z_1] :: ow)) ?_ ?_
  ·
   have hp := hp91.same (Same.drew w)
   refine dr_begin' _ (fun w' => ∃ l, Hp S90 w w' l) [] (by kernel_rfl) ?_
   refine dr_takeK 0 (.agg #[.int .i64 ax0_Re, .int .i64 ax0_Im]) rfl hf rfl (fun w ⟨_, hp⟩ => ?_) ⟨_, hp⟩ ?_
   · exact st_ldOA (m := 2) (us := [.int .i64 ax0_Re, .int .i64 ax0_Im]) hf (by decide) (by kernel_rfl) rfl rfl (rl95.ob hp) rfl rfl tk
   clear hf; intro a hf
   refine dr_takeK 2 (.agg #[.int .i64 bx1_Re, .int .i64 bx1_Im]) rfl hf rfl (fun w ⟨_, hp⟩ => ?_) ⟨_, hp⟩ ?_
   · exact st_ldOA (m := 2) (us := [.int .i64 bx1_Re, .int .i64 bx1_Im]) hf (by decide) (by kernel_rfl) rfl rfl (rl96.ob hp) rfl rfl tk
   clear hf; intro a hf
   refine dr_two 1 8 rfl rfl (by kernel_rfl) ?_ ?_
   ·
    refine st_call hf (by decide) Try.func40 rfl rfl rfl rfl rfl (f_foghornlaw03_own_c hp _ _ hcall98) ?_
    rintro _ w ⟨rfl, hp0⟩
    clear hp; have hp := hp0; clear hp0
    replace hp : Hp _ _ _ (_ :: _ :: _ :: _ :: _ :: _ :: _ :: ow) := hp
    refine ⟨_, rfl, ?_⟩
    clear hf; intro a hf
    refine nx hf (fun _ _ => ⟨_, hp⟩) ?_
    refine dr_two 3 8 rfl rfl (by kernel_rfl) ?_ ?_
    ·
     refine st_call hf (by decide) Try.func40 rfl rfl rfl rfl rfl (f_foghornlaw03_own_c hp _ _ hcall100) ?_
     rintro _ w ⟨rfl, hp0⟩
     clear hp; have hp := hp0; clear hp0
     replace hp : Hp _ _ _ (_ :: _ :: _ :: _ :: _ :: _ :: _ :: ow) := hp
     refine ⟨_, rfl, ?_⟩
     clear hf; intro a hf
     refine nx hf (fun _ _ => ⟨_, hp⟩) ?_
     refine dr_two 4 8 rfl rfl (by kernel_rfl) ?_ ?_
     ·
      refine st_call hf (by decide) Try.func32 rfl rfl rfl rfl rfl (f_plane_Gcd_c hp _ _ _ _ hcall102) ?_
      rintro _ w ⟨rfl, hp0⟩
      clear hp; have hp := hp0; clear hp0
      replace hp : Hp _ _ _ (_ :: _ :: _ :: _ :: _ :: _ :: _ :: ow) := hp
      refine ⟨_, rfl, ?_⟩
      clear hf; intro a hf
      refine nx hf (fun _ _ => ⟨_, hp⟩) ?_
      refine dr_takeK 5 (.tuple #[.agg #[.int .i64 q101.1.1, .int .i64 q101.1.2], .int .i64 q101.2]) rfl hf rfl (fun w ⟨_, hp⟩ => ?_) ⟨_, hp⟩ ?_
      · exact st_move hf rfl rfl (by decide) tk
      clear hf; intro a hf
      refine dr_takeK 6 (.agg #[.int .i64 q101.1.1, .int .i64 q101.1.2]) rfl hf rfl (fun w ⟨_, hp⟩ => ?_) ⟨_, hp⟩ ?_
      · exact st_extract hf (by decide) rfl rfl rfl tk
      clear hf; intro a hf
      refine dr_takeK 7 (.int .i64 q101.2) rfl hf rfl (fun w ⟨_, hp⟩ => ?_) ⟨_, hp⟩ ?_
      · exact st_extract hf (by decide) rfl rfl rfl tk
      clear hf; intro a hf
      refine dr_one 8 rfl (by kernel_rfl) ?_
      refine st_alloc (cs := [.int .i64 (0 : Int), .int .i64 (0 : Int)]) (zv := .agg #[.int .i64 (0 : Int), .int .i64 (0 : Int)]) hf (by decide) (by kernel_rfl) rfl hp rfl ?_
      clear hf; intro a w v103 hf hp0; clear hp; have hp := hp0; clear hp0
      replace hp : Hp _ _ _ (Res.obj 56 v103 [.int .i64 (0 : Int), .int .i64 (0 : Int)] :: _ :: _ :: _ :: _ :: _ :: _ :: _ :: ow) := hp
      refine nx hf (fun _ _ => ⟨_, hp⟩) ?_
      refine dr_one 9 rfl (by kernel_rfl) ?_
      refine st_stO (us := [.int .i64 q101.1.1, .int .i64 q101.1.2]) hf hp (i := 0) rfl rfl rfl rfl rfl (by rfl) (by kernel_rfl) (Nat.le_of_ble_eq_true rfl) ?_
      clear hf; intro a w hf hp0; clear hp; have hp := hp0; clear hp0
      replace hp : Hp _ _ _ (Res.obj 56 v103 [.int .i64 q101.1.1, .int .i64 q101.1.2] :: _ :: _ :: _ :: _ :: _ :: _ :: _ :: ow) := hp
      refine nx hf (fun _ _ => ⟨_, hp⟩) ?_
      refine dr_takeK 10 (.int .i64 q101.2) rfl hf rfl (fun w ⟨_, hp⟩ => ?_) ⟨_, hp⟩ ?_
      · exact st_assign hf rfl rfl (by decide) tk
      clear hf; intro a hf
      refine dr_end (by kernel_rfl) ?_ _
      have hp := bk94 _ _ hp
      have hp := bk89 _ _ hp
      exact ⟨v103, hf.sub ⟨rfl, rfl, rfl, rfl, rfl, rfl, rfl, rfl, rfl, rfl, rfl, trivial⟩, hp⟩
     ·
      refine st_alloc (cs := [.int .i64 (0 : Int), .int .i64 (0 : Int)]) (zv := .agg #[.int .i64 (0 : Int), .int .i64 (0 : Int)]) hf (by decide) (by kernel_rfl) rfl hp rfl ?_
      clear hf; intro a w v103 hf hp0; clear hp; have hp := hp0; clear hp0
      replace hp : Hp _ _ _ (Res.obj 56 v103 [.int .i64 (0 : Int), .int .i64 (0 : Int)] :: _ :: _ :: _ :: _ :: _ :: _ :: _ :: ow) := hp
      refine nx hf (fun _ _ => ⟨_, hp⟩) ?_
      refine dr_one 4 rfl (by kernel_rfl) ?_
      refine st_call hf (by decide) Try.func32 rfl rfl rfl rfl rfl (f_plane_Gcd_c hp _ _ _ _ hcall102) ?_
      rintro _ w ⟨rfl, hp0⟩
      clear hp; have hp := hp0; clear hp0
      replace hp : Hp _ _ _ (_ :: _ :: _ :: _ :: _ :: _ :: _ :: _ :: ow) := hp
      refine ⟨_, rfl, ?_⟩
      clear hf; intro a hf
      refine nx hf (fun _ _ => ⟨_, hp⟩) ?_
      refine dr_takeK 5 (.tuple #[.agg #[.int .i64 q101.1.1, .int .i64 q101.1.2], .int .i64 q101.2]) rfl hf rfl (fun w ⟨_, hp⟩ => ?_) ⟨_, hp⟩ ?_
      · exact st_move hf rfl rfl (by decide) tk
      clear hf; intro a hf
      refine dr_takeK 6 (.agg #[.int .i64 q101.1.1, .int .i64 q101.1.2]) rfl hf rfl (fun w ⟨_, hp⟩ => ?_) ⟨_, hp⟩ ?_
      · exact st_extract hf (by decide) rfl rfl rfl tk
      clear hf; intro a hf
      refine dr_takeK 7 (.int .i64 q101.2) rfl hf rfl (fun w ⟨_, hp⟩ => ?_) ⟨_, hp⟩ ?_
      · exact st_extract hf (by decide) rfl rfl rfl tk
      clear hf; intro a hf
      refine dr_one 9 rfl (by kernel_rfl) ?_
      refine st_stO (us := [.int .i64 q101.1.1, .int .i64 q101.1.2]) hf hp (i := 0) rfl rfl rfl rfl rfl (by rfl) (by kernel_rfl) (Nat.le_of_ble_eq_true rfl) ?_
      clear hf; intro a w hf hp0; clear hp; have hp := hp0; clear hp0
      replace hp : Hp _ _ _ (Res.obj 56 v103 [.int .i64 q101.1.1, .int .i64 q101.1.2] :: _ :: _ :: _ :: _ :: _ :: _ :: _ :: ow) := hp
      refine nx hf (fun _ _ => ⟨_, hp⟩) ?_
      refine dr_takeK 10 (.int .i64 q101.2) rfl hf rfl (fun w ⟨_, hp⟩ => ?_) ⟨_, hp⟩ ?_
      · exact st_assign hf rfl rfl (by decide) tk
      clear hf; intro a hf
      refine dr_end (by kernel_rfl) ?_ _
      have hp := bk94 _ _ hp
      have hp := bk89 _ _ hp
      exact ⟨v103, hf.sub ⟨rfl, rfl, rfl, rfl, rfl, rfl, rfl, rfl, rfl, rfl, rfl, trivial⟩, hp⟩
    ·
     refine st_alloc (cs := [.int .i64 (0 : Int), .int .i64 (0 : Int)]) (zv := .agg #[.int .i64 (0 : Int), .int .i64 (0 : Int)]) hf (by decide) (by kernel_rfl) rfl hp rfl ?_
     clear hf; intro a w v103 hf hp0; clear hp; have hp := hp0; clear hp0
     replace hp : Hp _ _ _ (Res.obj 56 v103 [.int .i64 (0 : Int), .int .i64 (0 : Int)] :: _ :: _ :: _ :: _ :: _ :: _ :: _ :: ow) := hp
     refine nx hf (fun _ _ => ⟨_, hp⟩) ?_
     refine dr_one 3 rfl (by kernel_rfl) ?_
     refine st_call hf (by decide) Try.func40 rfl rfl rfl rfl rfl (f_foghornlaw03_own_c hp _ _ hcall100) ?_
     rintro _ w ⟨rfl, hp0⟩
     clear hp; have hp := hp0; clear hp0
     replace hp : Hp _ _ _ (_ :: _ :: _ :: _ :: _ :: _ :: _ :: _ :: ow) := hp
     refine ⟨_, rfl, ?_⟩
     clear hf; intro a hf
     refine nx hf (fun _ _ => ⟨_, hp⟩) ?_
     refine dr_one 4 rfl (by kernel_rfl) ?_
     refine st_call hf (by decide) Try.func32 rfl rfl rfl rfl rfl (f_plane_Gcd_c hp _ _ _ _ hcall102) ?_
     rintro _ w ⟨rfl, hp0⟩
     clear hp; have hp := hp0; clear hp0
     replace hp : Hp _ _ _ (_ :: _ :: _ :: _ :: _ :: _ :: _ :: _ :: ow) := hp
     refine ⟨_, rfl, ?_⟩
     clear hf; intro a hf
     refine nx hf (fun _ _ => ⟨_, hp⟩) ?_
     refine dr_takeK 5 (.tuple #[.agg #[.int .i64 q101.1.1, .int .i64 q101.1.2], .int .i64 q101.2]) rfl hf rfl (fun w ⟨_, hp⟩ => ?_) ⟨_, hp⟩ ?_
     · exact st_move hf rfl rfl (by decide) tk
     clear hf; intro a hf
     refine dr_takeK 6 (.agg #[.int .i64 q101.1.1, .int .i64 q101.1.2]) rfl hf rfl (fun w ⟨_, hp⟩ => ?_) ⟨_, hp⟩ ?_
     · exact st_extract hf (by decide) rfl rfl rfl tk
     clear hf; intro a hf
     refine dr_takeK 7 (.int .i64 q101.2) rfl hf rfl (fun w ⟨_, hp⟩ => ?_) ⟨_, hp⟩ ?_
     · exact st_extract hf (by decide) rfl rfl rfl tk
     clear hf; intro a hf
     refine dr_one 9 rfl (by kernel_rfl) ?_
     refine st_stO (us := [.int .i64 q101.1.1, .int .i64 q101.1.2]) hf hp (i := 0) rfl rfl rfl rfl rfl (by rfl) (by kernel_rfl) (Nat.le_of_ble_eq_true rfl) ?_
     clear hf; intro a w hf hp0; clear hp; have hp := hp0; clear hp0
     replace hp : Hp _ _ _ (Res.obj 56 v103 [.int .i64 q101.1.1, .int .i64 q101.1.2] :: _ :: _ :: _ :: _ :: _ :: _ :: _ :: ow) := hp
     refine nx hf (fun _ _ => ⟨_, hp⟩) ?_
     refine dr_takeK 10 (.int .i64 q101.2) rfl hf rfl (fun w ⟨_, hp⟩ => ?_) ⟨_, hp⟩ ?_
     · exact st_assign hf rfl rfl (by decide) tk
     clear hf; intro a hf
     refine dr_end (by kernel_rfl) ?_ _
     have hp := bk94 _ _ hp
     have hp := bk89 _ _ hp
     exact ⟨v103, hf.sub ⟨rfl, rfl, rfl, rfl, rfl, rfl, rfl, rfl, rfl, rfl, rfl, trivial⟩, hp⟩
   ·
    refine st_alloc (cs := [.int .i64 (0 : Int), .int .i64 (0 : Int)]) (zv := .agg #[.int .i64 (0 : Int), .int .i64 (0 : Int)]) hf (by decide) (by kernel_rfl) rfl hp rfl ?_
    clear hf; intro a w v103 hf hp0; clear hp; have hp := hp0; clear hp0
    replace hp : Hp _ _ _ (Res.obj 56 v103 [.int .i64 (0 : Int), .int .i64 (0 : Int)] :: _ :: _ :: _ :: _ :: _ :: _ :: _ :: ow) := hp
    refine nx hf (fun _ _ => ⟨_, hp⟩) ?_
    refine dr_one 1 rfl (by kernel_rfl) ?_
    refine st_call hf (by decide) Try.func40 rfl rfl rfl rfl rfl (f_foghornlaw03_own_c hp _ _ hcall98) ?_
    rintro _ w ⟨rfl, hp0⟩
    clear hp; have hp := hp0; clear hp0
    replace hp : Hp _ _ _ (_ :: _ :: _ :: _ :: _ :: _ :: _ :: _ :: ow) := hp
    refine ⟨_, rfl, ?_⟩
    clear hf; intro a hf
    refine nx hf (fun _ _ => ⟨_, hp⟩) ?_
    refine dr_one 3 rfl (by kernel_rfl) ?_
    refine st_call hf (by decide) Try.func40 rfl rfl rfl rfl rfl (f_foghornlaw03_own_c hp _ _ hcall100) ?_
    rintro _ w ⟨rfl, hp0⟩
    clear hp; have hp := hp0; clear hp0
    replace hp : Hp _ _ _ (_ :: _ :: _ :: _ :: _ :: _ :: _ :: _ :: ow) := hp
    refine ⟨_, rfl, ?_⟩
    clear hf; intro a hf
    refine nx hf (fun _ _ => ⟨_, hp⟩) ?_
    refine dr_one 4 rfl (by kernel_rfl) ?_
    refine st_call hf (by decide) Try.func32 rfl rfl rfl rfl rfl (f_plane_Gcd_c hp _ _ _ _ hcall102) ?_
    rintro _ w ⟨rfl, hp0⟩
    clear hp; have hp := hp0; clear hp0
    replace hp : Hp _ _ _ (_ :: _ :: _ :: _ :: _ :: _ :: _ :: _ :: ow) := hp
    refine ⟨_, rfl, ?_⟩
    clear hf; intro a hf
    refine nx hf (fun _ _ => ⟨_, hp⟩) ?_
    refine dr_takeK 5 (.tuple #[.agg #[.int .i64 q101.1.1, .int .i64 q101.1.2], .int .i64 q101.2]) rfl hf rfl (fun w ⟨_, hp⟩ => ?_) ⟨_, hp⟩ ?_
    · exact st_move hf rfl rfl (by decide) tk
    clear hf; intro a hf
    refine dr_takeK 6 (.agg #[.int .i64 q101.1.1, .int .i64 q101.1.2]) rfl hf rfl (fun w ⟨_, hp⟩ => ?_) ⟨_, hp⟩ ?_
    · exact st_extract hf (by decide) rfl rfl rfl tk
    clear hf; intro a hf
    refine dr_takeK 7 (.int .i64 q101.2) rfl hf rfl (fun w ⟨_, hp⟩ => ?_) ⟨_, hp⟩ ?_
    · exact st_extract hf (by decide) rfl rfl rfl tk
    clear hf; intro a hf
    refine dr_one 9 rfl (by kernel_rfl) ?_
    refine st_stO (us := [.int .i64 q101.1.1, .int .i64 q101.1.2]) hf hp (i := 0) rfl rfl rfl rfl rfl (by rfl) (by kernel_rfl) (Nat.le_of_ble_eq_true rfl) ?_
    clear hf; intro a w hf hp0; clear hp; have hp := hp0; clear hp0
    replace hp : Hp _ _ _ (Res.obj 56 v103 [.int .i64 q101.1.1, .int .i64 q101.1.2] :: _ :: _ :: _ :: _ :: _ :: _ :: _ :: ow) := hp
    refine nx hf (fun _ _ => ⟨_, hp⟩) ?_
    refine dr_takeK 10 (.int .i64 q101.2) rfl hf rfl (fun w ⟨_, hp⟩ => ?_) ⟨_, hp⟩ ?_
    · exact st_assign hf rfl rfl (by decide) tk
    clear hf; intro a hf
    refine dr_end (by kernel_rfl) ?_ _
    have hp := bk94 _ _ hp
    have hp := bk89 _ _ hp
    exact ⟨v103, hf.sub ⟨rfl, rfl, rfl, rfl, rfl, rfl, rfl, rfl, rfl, rfl, rfl, trivial⟩, hp⟩
  rintro a w ⟨v103, hf, hp⟩
  refine th_n ?_
  refine wp_seq ?_
  refine wp_reg ?_
  refine st_ldOA (m := 2) (us := [.int .i64 ax0_Re, .int .i64 ax0_Im]) hf (by decide) (by kernel_rfl) rfl rfl (hp.ob (i := 0) rfl) rfl rfl ?_
  clear hf; intro a ha hf; clear ha
  refine st_ldOA (m := 2) (us := [.int .i64 bx1_Re, .int .i64 bx1_Im]) hf (by decide) (by kernel_rfl) rfl rfl (hp.ob (i := 1) rfl) rfl rfl ?_
  clear hf; intro a ha hf; clear ha
  obtain ⟨q105, hcall106, h⟩ := bnd h
  refine st_call hf (by decide) Try.func45 rfl rfl rfl rfl rfl (f_foghornref03_Gcd_c hp _ _ _ _ hcall106) ?_
  rintro _ w ⟨rfl, hp0⟩
  clear hp; have hp := hp0; clear hp0
  replace hp : Hp _ _ _ (Res.obj 74 v1 [.int .i64 ax0_Re, .int .i64 ax0_Im] :: Res.obj 74 v3 [.int .i64 bx1_Re, .int .i64 bx1_Im] :: _ :: _ :: _ :: _ :: _ :: _ :: _ :: _ :: ow) := hp
  refine ⟨_, rfl, ?_⟩
  clear hf; intro a hf
  refine st_move hf rfl rfl (by decide) ?_
  clear hf; intro a ha hf; clear ha
  refine st_extract hf (by decide) rfl rfl rfl ?_
  clear hf; intro a ha hf; clear ha
  refine st_extract hf (by decide) rfl rfl rfl ?_
  clear hf; intro a ha hf; clear ha
  refine st_alloc (cs := [.int .i64 (0 : Int), .int .i64 (0 : Int)]) (zv := .agg #[.int .i64 (0 : Int), .int .i64 (0 : Int)]) hf (by decide) (by kernel_rfl) rfl hp rfl ?_
  clear hf; intro a w v107 hf hp0; clear hp; have hp := hp0; clear hp0
  replace hp : Hp _ _ _ (Res.obj 74 v107 [.int .i64 (0 : Int), .int .i64 (0 : Int)] :: _ :: _ :: _ :: _ :: _ :: _ :: _ :: _ :: _ :: _ :: ow) := hp
  refine st_stO (us := [.int .i64 q105.1.1, .int .i64 q105.1.2]) hf hp (i := 0) rfl rfl rfl rfl rfl (by rfl) (by kernel_rfl) (Nat.le_of_ble_eq_true rfl) ?_
  clear hf; intro a w hf hp0; clear hp; have hp := hp0; clear hp0
  replace hp : Hp _ _ _ (Res.obj 74 v107 [.int .i64 q105.1.1, .int .i64 q105.1.2] :: _ :: _ :: _ :: _ :: _ :: _ :: _ :: _ :: _ :: _ :: ow) := hp
  refine st_assign hf rfl rfl (by decide) ?_
  clear hf; intro a ha hf; clear ha
  refine st_nil hf ?_
  refine th_n ?_
  refine wp_seq ?_
  refine wp_seq ?_
  obtain ⟨S109, hp110, rd111, up112, bk113⟩ := Hp.lendO hp (i := 7) rfl
  obtain ⟨S114, hp115, rd116, up117, bk118⟩ := Hp.lendO hp110 (i := 5) rfl
  obtain ⟨S119, hp120, rd121, up122, bk123⟩ := Hp.lendO hp115 (i := 5) rfl
  obtain ⟨S124, hp125, rd126, up127, bk128⟩ := Hp.lendO hp120 (i := 4) rfl
  obtain ⟨S129, hp130, rd131, up132, bk133⟩ := Hp.lendO hp125 (i := 3) rfl
  obtain ⟨S134, hp135, rd136, up137, bk138⟩ := Hp.lendO hp130 (i := 0) rfl
  have rl139 := ((((((((((rd111.now hp110).mono up117).now hp115).mono up122).now hp120).mono up127).now hp125).mono up132).now hp130).mono up137)
  have rl140 := ((((((rd121.now hp120).mono up127).now hp125).mono up132).now hp130).mono up137)
  have rl141 := ((((((((rd116.now hp115).mono up122).now hp120).mono up127).now hp125).mono up132).now hp130).mono up137)
  have rl142 := ((((rd126.now hp125).mono up132).now hp130).mono up137)
  have rl143 := ((rd131.now hp130).mono up137)
  have rl144 := rd136
  obtain ⟨q145, hcall146, h⟩ := bnd h
  obtain ⟨z151, hz147, h⟩ := bnd h
  obtain ⟨z158, hz154, h⟩ := bnd h
  refine wp_cutN (fun a w => Fr 239 a [(3, optr v1 0), (5, optr v5 0), (128, .bool (z158 || (q101.2 != q105.2)))] ∧ Hp S w0 w (Res.obj 56 v75 [.int .i64 q73.1.1, .int .i64 q73.1.2] :: Res.obj 74 v81 [.int .i64 q79.1.1, .int .i64 q79.1.2] :: Res.obj 56 v77 [.int .i64 q73.2.1.1, .int .i64 q73.2.1.2] :: Res.obj 74 v83 [.int .i64 q79.2.1.1, .int .i64 q79.2.1.2] :: Res.obj 56 v103 [.int .i64 q101.1.1, .int .i64 q101.1.2] :: Res.obj 74 v107 [.int .i64 q105.1.1, .int .i64 q105.1.2] :: Res.obj 74 v1 [.int .i64 ax0_Re, .int .i64 ax0_Im] :: Res.obj 74 v3 [.int .i64 bx1_Re, .int .i64 bx1_Im] :: Res.obj 56 v25 [.int .i64 q23.1.1, .int .i64 q23.1.2] :: Res.obj 74 v29 [.int .i64 q27.1.1, .int .i64 q27.1.2] :: Res.obj 76 v5 [.int .i64 xx2_Depth, .int .u32 xx2_Class, .float .f64 bxx2_Z_0, .float .f64 bxx2_Z_1] :: ow)) ?_ ?_
  ·
   have hp := hp135.same (Same.drew w)
   rcases Bool.eq_false_or_eq_true (!((q145.1 == q79.1.1) && ((q145.2 == q79.1.2) && true))) with hb148 | hb148
   ·
    replace hz147 := ifT hz147 hb148
    replace hz147 := Option.some.inj hz147
    have hb153 : z151 = true := hz147.symm
    skip
    have hb155 : (z151 || (q73.2.2 != q79.2.2)) = true := by rw [hb153]; rfl
    skip
    replace hz154 := ifT hz154 hb155
    replace hz154 := Option.some.inj hz154
    have hb160 : z158 = true := hz154.symm
    skip
    refine dr_begin' _ (fun w' => ∃ l, Hp S134 w w' l) [] (by kernel_rfl) ?_
    refine dr_takeK 0 (.agg #[.int .i64 q73.1.1, .int .i64 q73.1.2]) rfl hf rfl (fun w ⟨_, hp⟩ => ?_) ⟨_, hp⟩ ?_
    · exact st_ldOA (m := 2) (us := [.int .i64 q73.1.1, .int .i64 q73.1.2]) hf (by decide) (by kernel_rfl) rfl rfl (rl139.ob hp) rfl rfl tk
    clear hf; intro a hf
    refine dr_takeK 2 (.agg #[.int .i64 q79.1.1, .int .i64 q79.1.2]) rfl hf rfl (fun w ⟨_, hp⟩ => ?_) ⟨_, hp⟩ ?_
    · exact st_ldOA (m := 2) (us := [.int .i64 q79.1.1, .int .i64 q79.1.2]) hf (by decide) (by kernel_rfl) rfl rfl (rl141.ob hp) rfl rfl tk
    clear hf; intro a hf
    refine dr_one 1 rfl (by kernel_rfl) ?_
    refine st_call hf (by decide) Try.func43 rfl rfl rfl rfl rfl (f_foghornlaw03_ref_c hp _ _ hcall146) ?_
    rintro _ w ⟨rfl, hp0⟩
    clear hp; have hp := hp0; clear hp0
    replace hp : Hp _ _ _ (_ :: _ :: _ :: _ :: _ :: ow) := hp
    refine ⟨_, rfl, ?_⟩
    clear hf; intro a hf
    refine nx hf (fun _ _ => ⟨_, hp⟩) ?_
    refine dr_takeK 3 (.bool (!((q145.1 == q79.1.1) && ((q145.2 == q79.1.2) && true)))) rfl hf rfl (fun w ⟨_, hp⟩ => ?_) ⟨_, hp⟩ ?_
    · exact st_neA (xs := [.int .i64 q145.1, .int .i64 q145.2]) (ys := [.int .i64 q79.1.1, .int .i64 q79.1.2]) hf (by decide) (by kernel_rfl) (by kernel_rfl) (by kernel_rfl) (by kernel_rfl) rfl rfl rfl (b := (!((q145.1 == q79.1.1) && ((q145.2 == q79.1.2) && true)))) rfl tk
    clear hf; intro a hf
    refine dr_takeK 4 (.bool (!((q145.1 == q79.1.1) && ((q145.2 == q79.1.2) && true)))) rfl hf rfl (fun w ⟨_, hp⟩ => ?_) ⟨_, hp⟩ ?_
    · exact st_move hf rfl rfl (by decide) tk
    clear hf; intro a hf
    refine dr_outK 5 rfl hf rfl (wantN hf rfl rfl hb148) ⟨_, hp⟩ ?_
    clear hf; intro a hf
    refine dr_outK 6 rfl hf rfl (wantN hf rfl rfl hb148) ⟨_, hp⟩ ?_
    clear hf; intro a hf
    refine dr_outK 7 rfl hf rfl (wantN hf rfl rfl hb148) ⟨_, hp⟩ ?_
    clear hf; intro a hf
    refine dr_outK 8 rfl hf rfl (wantN hf rfl rfl hb148) ⟨_, hp⟩ ?_
    clear hf; intro a hf
    refine dr_takeK 9 (.bool z151) rfl hf rfl (fun w ⟨_, hp⟩ => ?_) ⟨_, hp⟩ ?_
    · exact st_pick (v := .bool z151) hf rfl rfl (fun _ => by rw [← hz147]; rfl) (fun hb' => absurd (hb148.symm.trans hb') (by decide)) (by decide) tk
    clear hf; intro a hf
    refine dr_takeK 10 (.bool z151) rfl hf rfl (fun w ⟨_, hp⟩ => ?_) ⟨_, hp⟩ ?_
    · exact st_move hf rfl rfl (by decide) tk
    clear hf; intro a hf
    refine dr_outK 11 rfl hf rfl (wantN hf rfl rfl hb153) ⟨_, hp⟩ ?_
    clear hf; intro a hf
    refine dr_outK 12 rfl hf rfl (wantN hf rfl rfl hb153) ⟨_, hp⟩ ?_
    clear hf; intro a hf
    refine dr_outK 13 rfl hf rfl (wantN hf rfl rfl hb153) ⟨_, hp⟩ ?_
    clear hf; intro a hf
    refine dr_takeK 14 (.bool (z151 || (q73.2.2 != q79.2.2))) rfl hf rfl (fun w ⟨_, hp⟩ => ?_) ⟨_, hp⟩ ?_
    · exact st_pick (v := .bool (z151 || (q73.2.2 != q79.2.2))) hf rfl rfl (fun _ => by rw [show (z151 || (q73.2.2 != q79.2.2)) = true from by rw [hb153]; rfl]; rfl) (fun hb' => absurd (hb153.symm.trans hb') (by decide)) (by decide) tk
    clear hf; intro a hf
    refine dr_takeK 15 (.bool (z151 || (q73.2.2 != q79.2.2))) rfl hf rfl (fun w ⟨_, hp⟩ => ?_) ⟨_, hp⟩ ?_
    · exact st_move hf rfl rfl (by decide) tk
    clear hf; intro a hf
    refine dr_outK 16 rfl hf rfl (wantN hf rfl rfl hb155) ⟨_, hp⟩ ?_
    clear hf; intro a hf
    refine dr_outK 17 rfl hf rfl (wantN hf rfl rfl hb155) ⟨_, hp⟩ ?_
    clear hf; intro a hf
    refine dr_outK 18 rfl hf rfl (wantN hf rfl rfl hb155) ⟨_, hp⟩ ?_
    clear hf; intro a hf
    refine dr_outK 19 rfl hf rfl (wantN hf rfl rfl hb155) ⟨_, hp⟩ ?_
    clear hf; intro a hf
    refine dr_takeK 20 (.bool z158) rfl hf rfl (fun w ⟨_, hp⟩ => ?_) ⟨_, hp⟩ ?_
    · exact st_pick (v := .bool z158) hf rfl rfl (fun _ => by rw [← hz154]; rfl) (fun hb' => absurd (hb155.symm.trans hb') (by decide)) (by decide) tk
    clear hf; intro a hf
    refine dr_takeK 21 (.bool z158) rfl hf rfl (fun w ⟨_, hp⟩ => ?_) ⟨_, hp⟩ ?_
    · exact st_move hf rfl rfl (by decide) tk
    clear hf; intro a hf
    refine dr_outK 22 rfl hf rfl (wantN hf rfl rfl hb160) ⟨_, hp⟩ ?_
    clear hf; intro a hf
    refine dr_outK 23 rfl hf rfl (wantN hf rfl rfl hb160) ⟨_, hp⟩ ?_
    clear hf; intro a hf
    refine dr_outK 24 rfl hf rfl (wantN hf rfl rfl hb160) ⟨_, hp⟩ ?_
    clear hf; intro a hf
    refine dr_takeK 25 (.bool (z158 || (q101.2 != q105.2))) rfl hf rfl (fun w ⟨_, hp⟩ => ?_) ⟨_, hp⟩ ?_
    · exact st_pick (v := .bool (z158 || (q101.2 != q105.2))) hf rfl rfl (fun _ => by rw [show (z158 || (q101.2 != q105.2)) = true from by rw [hb160]; rfl]; rfl) (fun hb' => absurd (hb160.symm.trans hb') (by decide)) (by decide) tk
    clear hf; intro a hf
    refine dr_end (by kernel_rfl) ?_ _
    have hp := bk138 _ _ hp
    have hp := bk133 _ _ hp
    have hp := bk128 _ _ hp
    have hp := bk123 _ _ hp
    have hp := bk118 _ _ hp
    have hp := bk113 _ _ hp
    exact ⟨hf.sub ⟨rfl, rfl, rfl, trivial⟩, hp⟩
   skip
   replace hz147 := ifF hz147 hb148
   obtain ⟨q149, hcall150, hz147⟩ := bnd hz147
   replace hz147 := Option.some.inj hz147
   rcases Bool.eq_false_or_eq_true z151 with hb153 | hb153
   ·
    have hb155 : (z151 || (q73.2.2 != q79.2.2)) = true := by rw [hb153]; rfl
    skip
    replace hz154 := ifT hz154 hb155
    replace hz154 := Option.some.inj hz154
    have hb160 : z158 = true := hz154.symm
    skip
    refine dr_begin' _ (fun w' => ∃ l, Hp S134 w w' l) [] (by kernel_rfl) ?_
    refine dr_takeK 0 (.agg #[.int .i64 q73.1.1, .int .i64 q73.1.2]) rfl hf rfl (fun w ⟨_, hp⟩ => ?_) ⟨_, hp⟩ ?_
    · exact st_ldOA (m := 2) (us := [.int .i64 q73.1.1, .int .i64 q73.1.2]) hf (by decide) (by kernel_rfl) rfl rfl (rl139.ob hp) rfl rfl tk
    clear hf; intro a hf
    refine dr_takeK 2 (.agg #[.int .i64 q79.1.1, .int .i64 q79.1.2]) rfl hf rfl (fun w ⟨_, hp⟩ => ?_) ⟨_, hp⟩ ?_
    · exact st_ldOA (m := 2) (us := [.int .i64 q79.1.1, .int .i64 q79.1.2]) hf (by decide) (by kernel_rfl) rfl rfl (rl141.ob hp) rfl rfl tk
    clear hf; intro a hf
    refine dr_one 1 rfl (by kernel_rfl) ?_
    refine st_call hf (by decide) Try.func43 rfl rfl rfl rfl rfl (f_foghornlaw03_ref_c hp _ _ hcall146) ?_
    rintro _ w ⟨rfl, hp0⟩
    clear hp; have hp := hp0; clear hp0
    replace hp : Hp _ _ _ (_ :: _ :: _ :: _ :: _ :: ow) := hp
    refine ⟨_, rfl, ?_⟩
    clear hf; intro a hf
    refine nx hf (fun _ _ => ⟨_, hp⟩) ?_
    refine dr_takeK 3 (.bool (!((q145.1 == q79.1.1) && ((q145.2 == q79.1.2) && true)))) rfl hf rfl (fun w ⟨_, hp⟩ => ?_) ⟨_, hp⟩ ?_
    · exact st_neA (xs := [.int .i64 q145.1, .int .i64 q145.2]) (ys := [.int .i64 q79.1.1, .int .i64 q79.1.2]) hf (by decide) (by kernel_rfl) (by kernel_rfl) (by kernel_rfl) (by kernel_rfl) rfl rfl rfl (b := (!((q145.1 == q79.1.1) && ((q145.2 == q79.1.2) && true)))) rfl tk
    clear hf; intro a hf
    refine dr_takeK 4 (.bool (!((q145.1 == q79.1.1) && ((q145.2 == q79.1.2) && true)))) rfl hf rfl (fun w ⟨_, hp⟩ => ?_) ⟨_, hp⟩ ?_
    · exact st_move hf rfl rfl (by decide) tk
    clear hf; intro a hf
    refine dr_takeK 5 (.agg #[.int .i64 q73.2.1.1, .int .i64 q73.2.1.2]) rfl hf (wantY hf rfl rfl hb148) (fun w ⟨_, hp⟩ => ?_) ⟨_, hp⟩ ?_
    · exact st_ldOA (m := 2) (us := [.int .i64 q73.2.1.1, .int .i64 q73.2.1.2]) hf (by decide) (by kernel_rfl) (wantY hf rfl rfl hb148) rfl (rl140.ob hp) rfl rfl tk
    clear hf; intro a hf
    refine dr_takeK 7 (.agg #[.int .i64 q79.2.1.1, .int .i64 q79.2.1.2]) rfl hf (wantY hf rfl rfl hb148) (fun w ⟨_, hp⟩ => ?_) ⟨_, hp⟩ ?_
    · exact st_ldOA (m := 2) (us := [.int .i64 q79.2.1.1, .int .i64 q79.2.1.2]) hf (by decide) (by kernel_rfl) (wantY hf rfl rfl hb148) rfl (rl142.ob hp) rfl rfl tk
    clear hf; intro a hf
    refine dr_one 6 rfl (by kernel_rfl) ?_
    refine st_call hf (by decide) Try.func43 rfl rfl (wantY hf rfl rfl hb148) rfl rfl (f_foghornlaw03_ref_c hp _ _ hcall150) ?_
    rintro _ w ⟨rfl, hp0⟩
    clear hp; have hp := hp0; clear hp0
    replace hp : Hp _ _ _ (_ :: _ :: _ :: _ :: _ :: ow) := hp
    refine ⟨_, rfl, ?_⟩
    clear hf; intro a hf
    refine nx hf (fun _ _ => ⟨_, hp⟩) ?_
    refine dr_takeK 8 (.bool (!((q149.1 == q79.2.1.1) && ((q149.2 == q79.2.1.2) && true)))) rfl hf (wantY hf rfl rfl hb148) (fun w ⟨_, hp⟩ => ?_) ⟨_, hp⟩ ?_
    · exact st_neA (xs := [.int .i64 q149.1, .int .i64 q149.2]) (ys := [.int .i64 q79.2.1.1, .int .i64 q79.2.1.2]) hf (by decide) (by kernel_rfl) (by kernel_rfl) (by kernel_rfl) (by kernel_rfl) (wantY hf rfl rfl hb148) rfl rfl (b := (!((q149.1 == q79.2.1.1) && ((q149.2 == q79.2.1.2) && true)))) rfl tk
    clear hf; intro a hf
    refine dr_takeK 9 (.bool z151) rfl hf rfl (fun w ⟨_, hp⟩ => ?_) ⟨_, hp⟩ ?_
    · exact st_pick (v := .bool z151) hf rfl rfl (fun hb' => absurd (hb148.symm.trans hb') (by decide)) (fun _ => by rw [← hz147]; rfl) (by decide) tk
    clear hf; intro a hf
    refine dr_takeK 10 (.bool z151) rfl hf rfl (fun w ⟨_, hp⟩ => ?_) ⟨_, hp⟩ ?_
    · exact st_move hf rfl rfl (by decide) tk
    clear hf; intro a hf
    refine dr_outK 11 rfl hf rfl (wantN hf rfl rfl hb153) ⟨_, hp⟩ ?_
    clear hf; intro a hf
    refine dr_outK 12 rfl hf rfl (wantN hf rfl rfl hb153) ⟨_, hp⟩ ?_
    clear hf; intro a hf
    refine dr_outK 13 rfl hf rfl (wantN hf rfl rfl hb153) ⟨_, hp⟩ ?_
    clear hf; intro a hf
    refine dr_takeK 14 (.bool (z151 || (q73.2.2 != q79.2.2))) rfl hf rfl (fun w ⟨_, hp⟩ => ?_) ⟨_, hp⟩ ?_
    · exact st_pick (v := .bool (z151 || (q73.2.2 != q79.2.2))) hf rfl rfl (fun _ => by rw [show (z151 || (q73.2.2 != q79.2.2)) = true from by rw [hb153]; rfl]; rfl) (fun hb' => absurd (hb153.symm.trans hb') (by decide)) (by decide) tk
    clear hf; intro a hf
    refine dr_takeK 15 (.bool (z151 || (q73.2.2 != q79.2.2))) rfl hf rfl (fun w ⟨_, hp⟩ => ?_) ⟨_, hp⟩ ?_
    · exact st_move hf rfl rfl (by decide) tk
    clear hf; intro a hf
    refine dr_outK 16 rfl hf rfl (wantN hf rfl rfl hb155) ⟨_, hp⟩ ?_
    clear hf; intro a hf
    refine dr_outK 17 rfl hf rfl (wantN hf rfl rfl hb155) ⟨_, hp⟩ ?_
    clear hf; intro a hf
    refine dr_outK 18 rfl hf rfl (wantN hf rfl rfl hb155) ⟨_, hp⟩ ?_
    clear hf; intro a hf
    refine dr_outK 19 rfl hf rfl (wantN hf rfl rfl hb155) ⟨_, hp⟩ ?_
    clear hf; intro a hf
    refine dr_takeK 20 (.bool z158) rfl hf rfl (fun w ⟨_, hp⟩ => ?_) ⟨_, hp⟩ ?_
    · exact st_pick (v := .bool z158) hf rfl rfl (fun _ => by rw [← hz154]; rfl) (fun hb' => absurd (hb155.symm.trans hb') (by decide)) (by decide) tk
    clear hf; intro a hf
    refine dr_takeK 21 (.bool z158) rfl hf rfl (fun w ⟨_, hp⟩ => ?_) ⟨_, hp⟩ ?_
    · exact st_move hf rfl rfl (by decide) tk
    clear hf; intro a hf
    refine dr_outK 22 rfl hf rfl (wantN hf rfl rfl hb160) ⟨_, hp⟩ ?_
    clear hf; intro a hf
    refine dr_outK 23 rfl hf rfl (wantN hf rfl rfl hb160) ⟨_, hp⟩ ?_
    clear hf; intro a hf
    refine dr_outK 24 rfl hf rfl (wantN hf rfl rfl hb160) ⟨_, hp⟩ ?_
    clear hf; intro a hf
    refine dr_takeK 25 (.bool (z158 || (q101.2 != q105.2))) rfl hf rfl (fun w ⟨_, hp⟩ => ?_) ⟨_, hp⟩ ?_
    · exact st_pick (v := .bool (z158 || (q101.2 != q105.2))) hf rfl rfl (fun _ => by rw [show (z158 || (q101.2 != q105.2)) = true from by rw [hb160]; rfl]; rfl) (fun hb' => absurd (hb160.symm.trans hb') (by decide)) (by decide) tk
    clear hf; intro a hf
    refine dr_end (by kernel_rfl) ?_ _
    have hp := bk138 _ _ hp
    have hp := bk133 _ _ hp
    have hp := bk128 _ _ hp
    have hp := bk123 _ _ hp
    have hp := bk118 _ _ hp
    have hp := bk113 _ _ hp
    exact ⟨hf.sub ⟨rfl, rfl, rfl, trivial⟩, hp⟩
   skip
   rcases Bool.eq_false_or_eq_true (z151 || (q73.2.2 != q79.2.2)) with hb155 | hb155
   ·
    replace hz154 := ifT hz154 hb155
    replace hz154 := Option.some.inj hz154
    have hb160 : z158 = true := hz154.symm
    skip
    refine dr_begin' _ (fun w' => ∃ l, Hp S134 w w' l) [] (by kernel_rfl) ?_
    refine dr_takeK 0 (.agg #[.int .i64 q73.1.1, .int .i64 q73.1.2]) rfl hf rfl (fun w ⟨_, hp⟩ => ?_) ⟨_, hp⟩ ?_
    · exact st_ldOA (m := 2) (us := [.int .i64 q73.1.1, .int .i64 q73.1.2]) hf (by decide) (by kernel_rfl) rfl rfl (rl139.ob hp) rfl rfl tk
    clear hf; intro a hf
    refine dr_takeK 2 (.agg #[.int .i64 q79.1.1, .int .i64 q79.1.2]) rfl hf rfl (fun w ⟨_, hp⟩ => ?_) ⟨_, hp⟩ ?_
    · exact st_ldOA (m := 2) (us := [.int .i64 q79.1.1, .int .i64 q79.1.2]) hf (by decide) (by kernel_rfl) rfl rfl (rl141.ob hp) rfl rfl tk
    clear hf; intro a hf
    refine dr_one 1 rfl (by kernel_rfl) ?_
    refine st_call hf (by decide) Try.func43 rfl rfl rfl rfl rfl (f_foghornlaw03_ref_c hp _ _ hcall146) ?_
    rintro _ w ⟨rfl, hp0⟩
    clear hp; have hp := hp0; clear hp0
    replace hp : Hp _ _ _ (_ :: _ :: _ :: _ :: _ :: ow) := hp
    refine ⟨_, rfl, ?_⟩
    clear hf; intro a hf
    refine nx hf (fun _ _ => ⟨_, hp⟩) ?_
    refine dr_takeK 3 (.bool (!((q145.1 == q79.1.1) && ((q145.2 == q79.1.2) && true)))) rfl hf rfl (fun w ⟨_, hp⟩ => ?_) ⟨_, hp⟩ ?_
    · exact st_neA (xs := [.int .i64 q145.1, .int .i64 q145.2]) (ys := [.int .i64 q79.1.1, .int .i64 q79.1.2]) hf (by decide) (by kernel_rfl) (by kernel_rfl) (by kernel_rfl) (by kernel_rfl) rfl rfl rfl (b := (!((q145.1 == q79.1.1) && ((q145.2 == q79.1.2) && true)))) rfl tk
    clear hf; intro a hf
    refine dr_takeK 4 (.bool (!((q145.1 == q79.1.1) && ((q145.2 == q79.1.2) && true)))) rfl hf rfl (fun w ⟨_, hp⟩ => ?_) ⟨_, hp⟩ ?_
    · exact st_move hf rfl rfl (by decide) tk
    clear hf; intro a hf
    refine dr_takeK 5 (.agg #[.int .i64 q73.2.1.1, .int .i64 q73.2.1.2]) rfl hf (wantY hf rfl rfl hb148) (fun w ⟨_, hp⟩ => ?_) ⟨_, hp⟩ ?_
    · exact st_ldOA (m := 2) (us := [.int .i64 q73.2.1.1, .int .i64 q73.2.1.2]) hf (by decide) (by kernel_rfl) (wantY hf rfl rfl hb148) rfl (rl140.ob hp) rfl rfl tk
    clear hf; intro a hf
    refine dr_takeK 7 (.agg #[.int .i64 q79.2.1.1, .int .i64 q79.2.1.2]) rfl hf (wantY hf rfl rfl hb148) (fun w ⟨_, hp⟩ => ?_) ⟨_, hp⟩ ?_
    · exact st_ldOA (m := 2) (us := [.int .i64 q79.2.1.1, .int .i64 q79.2.1.2]) hf (by decide) (by kernel_rfl) (wantY hf rfl rfl hb148) rfl (rl142.ob hp) rfl rfl tk
    clear hf; intro a hf
    refine dr_one 6 rfl (by kernel_rfl) ?_
    refine st_call hf (by decide) Try.func43 rfl rfl (wantY hf rfl rfl hb148) rfl rfl (f_foghornlaw03_ref_c hp _ _ hcall150) ?_
    rintro _ w ⟨rfl, hp0⟩
    clear hp; have hp := hp0; clear hp0
    replace hp : Hp _ _ _ (_ :: _ :: _ :: _ :: _ :: ow) := hp
    refine ⟨_, rfl, ?_⟩
    clear hf; intro a hf
    refine nx hf (fun _ _ => ⟨_, hp⟩) ?_
    refine dr_takeK 8 (.bool (!((q149.1 == q79.2.1.1) && ((q149.2 == q79.2.1.2) && true)))) rfl hf (wantY hf rfl rfl hb148) (fun w ⟨_, hp⟩ => ?_) ⟨_, hp⟩ ?_
    · exact st_neA (xs := [.int .i64 q149.1, .int .i64 q149.2]) (ys := [.int .i64 q79.2.1.1, .int .i64 q79.2.1.2]) hf (by decide) (by kernel_rfl) (by kernel_rfl) (by kernel_rfl) (by kernel_rfl) (wantY hf rfl rfl hb148) rfl rfl (b := (!((q149.1 == q79.2.1.1) && ((q149.2 == q79.2.1.2) && true)))) rfl tk
    clear hf; intro a hf
    refine dr_takeK 9 (.bool z151) rfl hf rfl (fun w ⟨_, hp⟩ => ?_) ⟨_, hp⟩ ?_
    · exact st_pick (v := .bool z151) hf rfl rfl (fun hb' => absurd (hb148.symm.trans hb') (by decide)) (fun _ => by rw [← hz147]; rfl) (by decide) tk
    clear hf; intro a hf
    refine dr_takeK 10 (.bool z151) rfl hf rfl (fun w ⟨_, hp⟩ => ?_) ⟨_, hp⟩ ?_
    · exact st_move hf rfl rfl (by decide) tk
    clear hf; intro a hf
    refine dr_takeK 11 (.int .i64 q73.2.2) rfl hf (wantY hf rfl rfl hb153) (fun w ⟨_, hp⟩ => ?_) ⟨_, hp⟩ ?_
    · exact st_move hf (wantY hf rfl rfl hb153) rfl (by decide) tk
    clear hf; intro a hf
    refine dr_takeK 12 (.int .i64 q79.2.2) rfl hf (wantY hf rfl rfl hb153) (fun w ⟨_, hp⟩ => ?_) ⟨_, hp⟩ ?_
    · exact st_move hf (wantY hf rfl rfl hb153) rfl (by decide) tk
    clear hf; intro a hf
    refine dr_takeK 13 (.bool (q73.2.2 != q79.2.2)) rfl hf (wantY hf rfl rfl hb153) (fun w ⟨_, hp⟩ => ?_) ⟨_, hp⟩ ?_
    · exact st_ineq hf (by decide) (wantY hf rfl rfl hb153) rfl rfl tk
    clear hf; intro a hf
    refine dr_takeK 14 (.bool (z151 || (q73.2.2 != q79.2.2))) rfl hf rfl (fun w ⟨_, hp⟩ => ?_) ⟨_, hp⟩ ?_
    · exact st_pick (v := .bool (z151 || (q73.2.2 != q79.2.2))) hf rfl rfl (fun hb' => absurd (hb153.symm.trans hb') (by decide)) (fun _ => by rw [show (z151 || (q73.2.2 != q79.2.2)) = (q73.2.2 != q79.2.2) from by rw [hb153]; rfl]; rfl) (by decide) tk
    clear hf; intro a hf
    refine dr_takeK 15 (.bool (z151 || (q73.2.2 != q79.2.2))) rfl hf rfl (fun w ⟨_, hp⟩ => ?_) ⟨_, hp⟩ ?_
    · exact st_move hf rfl rfl (by decide) tk
    clear hf; intro a hf
    refine dr_outK 16 rfl hf rfl (wantN hf rfl rfl hb155) ⟨_, hp⟩ ?_
    clear hf; intro a hf
    refine dr_outK 17 rfl hf rfl (wantN hf rfl rfl hb155) ⟨_, hp⟩ ?_
    clear hf; intro a hf
    refine dr_outK 18 rfl hf rfl (wantN hf rfl rfl hb155) ⟨_, hp⟩ ?_
    clear hf; intro a hf
    refine dr_outK 19 rfl hf rfl (wantN hf rfl rfl hb155) ⟨_, hp⟩ ?_
    clear hf; intro a hf
    refine dr_takeK 20 (.bool z158) rfl hf rfl (fun w ⟨_, hp⟩ => ?_) ⟨_, hp⟩ ?_
    · exact st_pick (v := .bool z158) hf rfl rfl (fun _ => by rw [← hz154]; rfl) (fun hb' => absurd (hb155.symm.trans hb') (by decide)) (by decide) tk
    clear hf; intro a hf
    refine dr_takeK 21 (.bool z158) rfl hf rfl (fun w ⟨_, hp⟩ => ?_) ⟨_, hp⟩ ?_
    · exact st_move hf rfl rfl (by decide) tk
    clear hf; intro a hf
    refine dr_outK 22 rfl hf rfl (wantN hf rfl rfl hb160) ⟨_, hp⟩ ?_
    clear hf; intro a hf
    refine dr_outK 23 rfl hf rfl (wantN hf rfl rfl hb160) ⟨_, hp⟩ ?_
    clear hf; intro a hf
    refine dr_outK 24 rfl hf rfl (wantN hf rfl rfl hb160) ⟨_, hp⟩ ?_
    clear hf; intro a hf
    refine dr_takeK 25 (.bool (z158 || (q101.2 != q105.2))) rfl hf rfl (fun w ⟨_, hp⟩ => ?_) ⟨_, hp⟩ ?_
    · exact st_pick (v := .bool (z158 || (q101.2 != q105.2))) hf rfl rfl (fun _ => by rw [show (z158 || (q101.2 != q105.2)) = true from by rw [hb160]; rfl]; rfl) (fun hb' => absurd (hb160.symm.trans hb') (by decide)) (by decide) tk
    clear hf; intro a hf
    refine dr_end (by kernel_rfl) ?_ _
    have hp := bk138 _ _ hp
    have hp := bk133 _ _ hp
    have hp := bk128 _ _ hp
    have hp := bk123 _ _ hp
    have hp := bk118 _ _ hp
    have hp := bk113 _ _ hp
    exact ⟨hf.sub ⟨rfl, rfl, rfl, trivial⟩, hp⟩
   skip
   replace hz154 := ifF hz154 hb155
   obtain ⟨q156, hcall157, hz154⟩ := bnd hz154
   replace hz154 := Option.some.inj hz154
   rcases Bool.eq_false_or_eq_true z158 with hb160 | hb160
   ·
    refine dr_begin' _ (fun w' => ∃ l, Hp S134 w w' l) [] (by kernel_rfl) ?_
    refine dr_takeK 0 (.agg #[.int .i64 q73.1.1, .int .i64 q73.1.2]) rfl hf rfl (fun w ⟨_, hp⟩ => ?_) ⟨_, hp⟩ ?_
    · exact st_ldOA (m := 2) (us := [.int .i64 q73.1.1, .int .i64 q73.1.2]) hf (by decide) (by kernel_rfl) rfl rfl (rl139.ob hp) rfl rfl tk
    clear hf; intro a hf
    refine dr_takeK 2 (.agg #[.int .i64 q79.1.1, .int .i64 q79.1.2]) rfl hf rfl (fun w ⟨_, hp⟩ => ?_) ⟨_, hp⟩ ?_
    · exact st_ldOA (m := 2) (us := [.int .i64 q79.1.1, .int .i64 q79.1.2]) hf (by decide) (by kernel_rfl) rfl rfl (rl141.ob hp) rfl rfl tk
    clear hf; intro a hf
    refine dr_one 1 rfl (by kernel_rfl) ?_
    refine st_call hf (by decide) Try.func43 rfl rfl rfl rfl rfl (f_foghornlaw03_ref_c hp _ _ hcall146) ?_
    rintro _ w ⟨rfl, hp0⟩
    clear hp; have hp := hp0; clear hp0
    replace hp : Hp _ _ _ (_ :: _ :: _ :: _ :: _ :: ow) := hp
    refine ⟨_, rfl, ?_⟩
    clear hf; intro a hf
    refine nx hf (fun _ _ => ⟨_, hp⟩) ?_
    refine dr_takeK 3 (.bool (!((q145.1 == q79.1.1) && ((q145.2 == q79.1.2) && true)))) rfl hf rfl (fun w ⟨_, hp⟩ => ?_) ⟨_, hp⟩ ?_
    · exact st_neA (xs := [.int .i64 q145.1, .int .i64 q145.2]) (ys := [.int .i64 q79.1.1, .int .i64 q79.1.2]) hf (by decide) (by kernel_rfl) (by kernel_rfl) (by kernel_rfl) (by kernel_rfl) rfl rfl rfl (b := (!((q145.1 == q79.1.1) && ((q145.2 == q79.1.2) && true)))) rfl tk
    clear hf; intro a hf
    refine dr_takeK 4 (.bool (!((q145.1 == q79.1.1) && ((q145.2 == q79.1.2) && true)))) rfl hf rfl (fun w ⟨_, hp⟩ => ?_) ⟨_, hp⟩ ?_
    · exact st_move hf rfl rfl (by decide) tk
    clear hf; intro a hf
    refine dr_takeK 5 (.agg #[.int .i64 q73.2.1.1, .int .i64 q73.2.1.2]) rfl hf (wantY hf rfl rfl hb148) (fun w ⟨_, hp⟩ => ?_) ⟨_, hp⟩ ?_
    · exact st_ldOA (m := 2) (us := [.int .i64 q73.2.1.1, .int .i64 q73.2.1.2]) hf (by decide) (by kernel_rfl) (wantY hf rfl rfl hb148) rfl (rl140.ob hp) rfl rfl tk
    clear hf; intro a hf
    refine dr_takeK 7 (.agg #[.int .i64 q79.2.1.1, .int .i64 q79.2.1.2]) rfl hf (wantY hf rfl rfl hb148) (fun w ⟨_, hp⟩ => ?_) ⟨_, hp⟩ ?_
    · exact st_ldOA (m := 2) (us := [.int .i64 q79.2.1.1, .int .i64 q79.2.1.2]) hf (by decide) (by kernel_rfl) (wantY hf rfl rfl hb148) rfl (rl142.ob hp) rfl rfl tk
    clear hf; intro a hf
    refine dr_one 6 rfl (by kernel_rfl) ?_
    refine st_call hf (by decide) Try.func43 rfl rfl (wantY hf rfl rfl hb148) rfl rfl (f_foghornlaw03_ref_c hp _ _ hcall150) ?_
    rintro _ w ⟨rfl, hp0⟩
    clear hp; have hp := hp0; clear hp0
    replace hp : Hp _ _ _ (_ :: _ :: _ :: _ :: _ :: ow) := hp
    refine ⟨_, rfl, ?_⟩
    clear hf; intro a hf
    refine nx hf (fun _ _ => ⟨_, hp⟩) ?_
    refine dr_takeK 8 (.bool (!((q149.1 == q79.2.1.1) && ((q149.2 == q79.2.1.2) && true)))) rfl hf (wantY hf rfl rfl hb148) (fun w ⟨_, hp⟩ => ?_) ⟨_, hp⟩ ?_
    · exact st_neA (xs := [.int .i64 q149.1, .int .i64 q149.2]) (ys := [.int .i64 q79.2.1.1, .int .i64 q79.2.1.2]) hf (by decide) (by kernel_rfl) (by kernel_rfl) (by kernel_rfl) (by kernel_rfl) (wantY hf rfl rfl hb148) rfl rfl (b := (!((q149.1 == q79.2.1.1) && ((q149.2 == q79.2.1.2) && true)))) rfl tk
    clear hf; intro a hf
    refine dr_takeK 9 (.bool z151) rfl hf rfl (fun w ⟨_, hp⟩ => ?_) ⟨_, hp⟩ ?_
    · exact st_pick (v := .bool z151) hf rfl rfl (fun hb' => absurd (hb148.symm.trans hb') (by decide)) (fun _ => by rw [← hz147]; rfl) (by decide) tk
    clear hf; intro a hf
    refine dr_takeK 10 (.bool z151) rfl hf rfl (fun w ⟨_, hp⟩ => ?_) ⟨_, hp⟩ ?_
    · exact st_move hf rfl rfl (by decide) tk
    clear hf; intro a hf
    refine dr_takeK 11 (.int .i64 q73.2.2) rfl hf (wantY hf rfl rfl hb153) (fun w ⟨_, hp⟩ => ?_) ⟨_, hp⟩ ?_
    · exact st_move hf (wantY hf rfl rfl hb153) rfl (by decide) tk
    clear hf; intro a hf
    refine dr_takeK 12 (.int .i64 q79.2.2) rfl hf (wantY hf rfl rfl hb153) (fun w ⟨_, hp⟩ => ?_) ⟨_, hp⟩ ?_
    · exact st_move hf (wantY hf rfl rfl hb153) rfl (by decide) tk
    clear hf; intro a hf
    refine dr_takeK 13 (.bool (q73.2.2 != q79.2.2)) rfl hf (wantY hf rfl rfl hb153) (fun w ⟨_, hp⟩ => ?_) ⟨_, hp⟩ ?_
    · exact st_ineq hf (by decide) (wantY hf rfl rfl hb153) rfl rfl tk
    clear hf; intro a hf
    refine dr_takeK 14 (.bool (z151 || (q73.2.2 != q79.2.2))) rfl hf rfl (fun w ⟨_, hp⟩ => ?_) ⟨_, hp⟩ ?_
    · exact st_pick (v := .bool (z151 || (q73.2.2 != q79.2.2))) hf rfl rfl (fun hb' => absurd (hb153.symm.trans hb') (by decide)) (fun _ => by rw [show (z151 || (q73.2.2 != q79.2.2)) = (q73.2.2 != q79.2.2) from by rw [hb153]; rfl]; rfl) (by decide) tk
    clear hf; intro a hf
    refine dr_takeK 15 (.bool (z151 || (q73.2.2 != q79.2.2))) rfl hf rfl (fun w ⟨_, hp⟩ => ?_) ⟨_, hp⟩ ?_
    · exact st_move hf rfl rfl (by decide) tk
    clear hf; intro a hf
    refine dr_takeK 16 (.agg #[.int .i64 q101.1.1, .int .i64 q101.1.2]) rfl hf (wantY hf rfl rfl hb155) (fun w ⟨_, hp⟩ => ?_) ⟨_, hp⟩ ?_
    · exact st_ldOA (m := 2) (us := [.int .i64 q101.1.1, .int .i64 q101.1.2]) hf (by decide) (by kernel_rfl) (wantY hf rfl rfl hb155) rfl (rl143.ob hp) rfl rfl tk
    clear hf; intro a hf
    refine dr_takeK 18 (.agg #[.int .i64 q105.1.1, .int .i64 q105.1.2]) rfl hf (wantY hf rfl rfl hb155) (fun w ⟨_, hp⟩ => ?_) ⟨_, hp⟩ ?_
    · exact st_ldOA (m := 2) (us := [.int .i64 q105.1.1, .int .i64 q105.1.2]) hf (by decide) (by kernel_rfl) (wantY hf rfl rfl hb155) rfl (rl144.ob hp) rfl rfl tk
    clear hf; intro a hf
    refine dr_one 17 rfl (by kernel_rfl) ?_
    refine st_call hf (by decide) Try.func43 rfl rfl (wantY hf rfl rfl hb155) rfl rfl (f_foghornlaw03_ref_c hp _ _ hcall157) ?_
    rintro _ w ⟨rfl, hp0⟩
    clear hp; have hp := hp0; clear hp0
    replace hp : Hp _ _ _ (_ :: _ :: _ :: _ :: _ :: ow) := hp
    refine ⟨_, rfl, ?_⟩
    clear hf; intro a hf
    refine nx hf (fun _ _ => ⟨_, hp⟩) ?_
    refine dr_takeK 19 (.bool (!((q156.1 == q105.1.1) && ((q156.2 == q105.1.2) && true)))) rfl hf (wantY hf rfl rfl hb155) (fun w ⟨_, hp⟩ => ?_) ⟨_, hp⟩ ?_
    · exact st_neA (xs := [.int .i64 q156.1, .int .i64 q156.2]) (ys := [.int .i64 q105.1.1, .int .i64 q105.1.2]) hf (by decide) (by kernel_rfl) (by kernel_rfl) (by kernel_rfl) (by kernel_rfl) (wantY hf rfl rfl hb155) rfl rfl (b := (!((q156.1 == q105.1.1) && ((q156.2 == q105.1.2) && true)))) rfl tk
    clear hf; intro a hf
    refine dr_takeK 20 (.bool z158) rfl hf rfl (fun w ⟨_, hp⟩ => ?_) ⟨_, hp⟩ ?_
    · exact st_pick (v := .bool z158) hf rfl rfl (fun hb' => absurd (hb155.symm.trans hb') (by decide)) (fun _ => by rw [← hz154]; rfl) (by decide) tk
    clear hf; intro a hf
    refine dr_takeK 21 (.bool z158) rfl hf rfl (fun w ⟨_, hp⟩ => ?_) ⟨_, hp⟩ ?_
    · exact st_move hf rfl rfl (by decide) tk
    clear hf; intro a hf
    refine dr_outK 22 rfl hf rfl (wantN hf rfl rfl hb160) ⟨_, hp⟩ ?_
    clear hf; intro a hf
    refine dr_outK 23 rfl hf rfl (wantN hf rfl rfl hb160) ⟨_, hp⟩ ?_
    clear hf; intro a hf
    refine dr_outK 24 rfl hf rfl (wantN hf rfl rfl hb160) ⟨_, hp⟩ ?_
    clear hf; intro a hf
    refine dr_takeK 25 (.bool (z158 || (q101.2 != q105.2))) rfl hf rfl (fun w ⟨_, hp⟩ => ?_) ⟨_, hp⟩ ?_
    · exact st_pick (v := .bool (z158 || (q101.2 != q105.2))) hf rfl rfl (fun _ => by rw [show (z158 || (q101.2 != q105.2)) = true from by rw [hb160]; rfl]; rfl) (fun hb' => absurd (hb160.symm.trans hb') (by decide)) (by decide) tk
    clear hf; intro a hf
    refine dr_end (by kernel_rfl) ?_ _
    have hp := bk138 _ _ hp
    have hp := bk133 _ _ hp
    have hp := bk128 _ _ hp
    have hp := bk123 _ _ hp
    have hp := bk118 _ _ hp
    have hp := bk113 _ _ hp
    exact ⟨hf.sub ⟨rfl, rfl, rfl, trivial⟩, hp⟩
   skip
   refine dr_begin' _ (fun w' => ∃ l, Hp S134 w w' l) [] (by kernel_rfl) ?_
   refine dr_takeK 0 (.agg #[.int .i64 q73.1.1, .int .i64 q73.1.2]) rfl hf rfl (fun w ⟨_, hp⟩ => ?_) ⟨_, hp⟩ ?_
   · exact st_ldOA (m := 2) (us := [.int .i64 q73.1.1, .int .i64 q73.1.2]) hf (by decide) (by kernel_rfl) rfl rfl (rl139.ob hp) rfl rfl tk
   clear hf; intro a hf
   refine dr_takeK 2 (.agg #[.int .i64 q79.1.1, .int .i64 q79.1.2]) rfl hf rfl (fun w ⟨_, hp⟩ => ?_) ⟨_, hp⟩ ?_
   · exact st_ldOA (m := 2) (us := [.int .i64 q79.1.1, .int .i64 q79.1.2]) hf (by decide) (by kernel_rfl) rfl rfl (rl141.ob hp) rfl rfl tk
   clear hf; intro a hf
   refine dr_one 1 rfl (by kernel_rfl) ?_
   refine st_call hf (by decide) Try.func43 rfl rfl rfl rfl rfl (f_foghornlaw03_ref_c hp _ _ hcall146) ?_
   rintro _ w ⟨rfl, hp0⟩
   clear hp; have hp := hp0; clear hp0
   replace hp : Hp _ _ _ (_ :: _ :: _ :: _ :: _ :: ow) := hp
   refine ⟨_, rfl, ?_⟩
   clear hf; intro a hf
   refine nx hf (fun _ _ => ⟨_, hp⟩) ?_
   refine dr_takeK 3 (.bool (!((q145.1 == q79.1.1) && ((q145.2 == q79.1.2) && true)))) rfl hf rfl (fun w ⟨_, hp⟩ => ?_) ⟨_, hp⟩ ?_
   · exact st_neA (xs := [.int .i64 q145.1, .int .i64 q145.2]) (ys := [.int .i64 q79.1.1, .int .i64 q79.1.2]) hf (by decide) (by kernel_rfl) (by kernel_rfl) (by kernel_rfl) (by kernel_rfl) rfl rfl rfl (b := (!((q145.1 == q79.1.1) && ((q145.2 == q79.1.2) && true)))) rfl tk
   clear hf; intro a hf
   refine dr_takeK 4 (.bool (!((q145.1 == q79.1.1) && ((q145.2 == q79.1.2) && true)))) rfl hf rfl (fun w ⟨_, hp⟩ => ?_) ⟨_, hp⟩ ?_
   · exact st_move hf rfl rfl (by decide) tk
   clear hf; intro a hf
   refine dr_takeK 5 (.agg #[.int .i64 q73.2.1.1, .int .i64 q73.2.1.2]) rfl hf (wantY hf rfl rfl hb148) (fun w ⟨_, hp⟩ => ?_) ⟨_, hp⟩ ?_
   · exact st_ldOA (m := 2) (us := [.int .i64 q73.2.1.1, .int .i64 q73.2.1.2]) hf (by decide) (by kernel_rfl) (wantY hf rfl rfl hb148) rfl (rl140.ob hp) rfl rfl tk
   clear hf; intro a hf
   refine dr_takeK 7 (.agg #[.int .i64 q79.2.1.1, .int .i64 q79.2.1.2]) rfl hf (wantY hf rfl rfl hb148) (fun w ⟨_, hp⟩ => ?_) ⟨_, hp⟩ ?_
   · exact st_ldOA (m := 2) (us := [.int .i64 q79.2.1.1, .int .i64 q79.2.1.2]) hf (by decide) (by kernel_rfl) (wantY hf rfl rfl hb148) rfl (rl142.ob hp) rfl rfl tk
   clear hf; intro a hf
   refine dr_one 6 rfl (by kernel_rfl) ?_
   refine st_call hf (by decide) Try.func43 rfl rfl (wantY hf rfl rfl hb148) rfl rfl (f_foghornlaw03_ref_c hp _ _ hcall150) ?_
   rintro _ w ⟨rfl, hp0⟩
   clear hp; have hp := hp0; clear hp0
   replace hp : Hp _ _ _ (_ :: _ :: _ :: _ :: _ :: ow) := hp
   refine ⟨_, rfl, ?_⟩
   clear hf; intro a hf
   refine nx hf (fun _ _ => ⟨_, hp⟩) ?_
   refine dr_takeK 8 (.bool (!((q149.1 == q79.2.1.1) && ((q149.2 == q79.2.1.2) && true)))) rfl hf (wantY hf rfl rfl hb148) (fun w ⟨_, hp⟩ => ?_) ⟨_, hp⟩ ?_
   · exact st_neA (xs := [.int .i64 q149.1, .int .i64 q149.2]) (ys := [.int .i64 q79.2.1.1, .int .i64 q79.2.1.2]) hf (by decide) (by kernel_rfl) (by kernel_rfl) (by kernel_rfl) (by kernel_rfl) (wantY hf rfl rfl hb148) rfl rfl (b := (!((q149.1 == q79.2.1.1) && ((q149.2 == q79.2.1.2) && true)))) rfl tk
   clear hf; intro a hf
   refine dr_takeK 9 (.bool z151) rfl hf rfl (fun w ⟨_, hp⟩ => ?_) ⟨_, hp⟩ ?_
   · exact st_pick (v := .bool z151) hf rfl rfl (fun hb' => absurd (hb148.symm.trans hb') (by decide)) (fun _ => by rw [← hz147]; rfl) (by decide) tk
   clear hf; intro a hf
   refine dr_takeK 10 (.bool z151) rfl hf rfl (fun w ⟨_, hp⟩ => ?_) ⟨_, hp⟩ ?_
   · exact st_move hf rfl rfl (by decide) tk
   clear hf; intro a hf
   refine dr_takeK 11 (.int .i64 q73.2.2) rfl hf (wantY hf rfl rfl hb153) (fun w ⟨_, hp⟩ => ?_) ⟨_, hp⟩ ?_
   · exact st_move hf (wantY hf rfl rfl hb153) rfl (by decide) tk
   clear hf; intro a hf
   refine dr_takeK 12 (.int .i64 q79.2.2) rfl hf (wantY hf rfl rfl hb153) (fun w ⟨_, hp⟩ => ?_) ⟨_, hp⟩ ?_
   · exact st_move hf (wantY hf rfl rfl hb153) rfl (by decide) tk
   clear hf; intro a hf
   refine dr_takeK 13 (.bool (q73.2.2 != q79.2.2)) rfl hf (wantY hf rfl rfl hb153) (fun w ⟨_, hp⟩ => ?_) ⟨_, hp⟩ ?_
   · exact st_ineq hf (by decide) (wantY hf rfl rfl hb153) rfl rfl tk
   clear hf; intro a hf
   refine dr_takeK 14 (.bool (z151 || (q73.2.2 != q79.2.2))) rfl hf rfl (fun w ⟨_, hp⟩ => ?_) ⟨_, hp⟩ ?_
   · exact st_pick (v := .bool (z151 || (q73.2.2 != q79.2.2))) hf rfl rfl (fun hb' => absurd (hb153.symm.trans hb') (by decide)) (fun _ => by rw [show (z151 || (q73.2.2 != q79.2.2)) = (q73.2.2 != q79.2.2) from by rw [hb153]; rfl]; rfl) (by decide) tk
   clear hf; intro a hf
   refine dr_takeK 15 (.bool (z151 || (q73.2.2 != q79.2.2))) rfl hf rfl (fun w ⟨_, hp⟩ => ?_) ⟨_, hp⟩ ?_
   · exact st_move hf rfl rfl (by decide) tk
   clear hf; intro a hf
   refine dr_takeK 16 (.agg #[.int .i64 q101.1.1, .int .i64 q101.1.2]) rfl hf (wantY hf rfl rfl hb155) (fun w ⟨_, hp⟩ => ?_) ⟨_, hp⟩ ?_
   · exact st_ldOA (m := 2) (us := [.int .i64 q101.1.1, .int .i64 q101.1.2]) hf (by decide) (by kernel_rfl) (wantY hf rfl rfl hb155) rfl (rl143.ob hp) rfl rfl tk
   clear hf; intro a hf
   refine dr_takeK 18 (.agg #[.int .i64 q105.1.1, .int .i64 q105.1.2]) rfl hf (wantY hf rfl rfl hb155) (fun w ⟨_, hp⟩ => ?_) ⟨_, hp⟩ ?_
   · exact st_ldOA (m := 2) (us := [.int .i64 q105.1.1, .int .i64 q105.1.2]) hf (by decide) (by kernel_rfl) (wantY hf rfl rfl hb155) rfl (rl144.ob hp) rfl rfl tk
   clear hf; intro a hf
   refine dr_one 17 rfl (by kernel_rfl) ?_
   refine st_call hf (by decide) Try.func43 rfl rfl (wantY hf rfl rfl hb155) rfl rfl (f_foghornlaw03_ref_c hp _ _ hcall157) ?_
   rintro _ w ⟨rfl, hp0⟩
   clear hp; have hp := hp0; clear hp0
   replace hp : Hp _ _ _ (_ :: _ :: _ :: _ :: _ :: ow) := hp
   refine ⟨_, rfl, ?_⟩
   clear hf; intro a hf
   refine nx hf (fun _ _ => ⟨_, hp⟩) ?_
   refine dr_takeK 19 (.bool (!((q156.1 == q105.1.1) && ((q156.2 == q105.1.2) && true)))) rfl hf (wantY hf rfl rfl hb155) (fun w ⟨_, hp⟩ => ?_) ⟨_, hp⟩ ?_
   · exact st_neA (xs := [.int .i64 q156.1, .int .i64 q156.2]) (ys := [.int .i64 q105.1.1, .int .i64 q105.1.2]) hf (by decide) (by kernel_rfl) (by kernel_rfl) (by kernel_rfl) (by kernel_rfl) (wantY hf rfl rfl hb155) rfl rfl (b := (!((q156.1 == q105.1.1) && ((q156.2 == q105.1.2) && true)))) rfl tk
   clear hf; intro a hf
   refine dr_takeK 20 (.bool z158) rfl hf rfl (fun w ⟨_, hp⟩ => ?_) ⟨_, hp⟩ ?_
   · exact st_pick (v := .bool z158) hf rfl rfl (fun hb' => absurd (hb155.symm.trans hb') (by decide)) (fun _ => by rw [← hz154]; rfl) (by decide) tk
   clear hf; intro a hf
   refine dr_takeK 21 (.bool z158) rfl hf rfl (fun w ⟨_, hp⟩ => ?_) ⟨_, hp⟩ ?_
   · exact st_move hf rfl rfl (by decide) tk
   clear hf; intro a hf
   refine dr_takeK 22 (.int .i64 q101.2) rfl hf (wantY hf rfl rfl hb160) (fun w ⟨_, hp⟩ => ?_) ⟨_, hp⟩ ?_
   · exact st_move hf (wantY hf rfl rfl hb160) rfl (by decide) tk
   clear hf; intro a hf
   refine dr_takeK 23 (.int .i64 q105.2) rfl hf (wantY hf rfl rfl hb160) (fun w ⟨_, hp⟩ => ?_) ⟨_, hp⟩ ?_
   · exact st_move hf (wantY hf rfl rfl hb160) rfl (by decide) tk
   clear hf; intro a hf
   refine dr_takeK 24 (.bool (q101.2 != q105.2)) rfl hf (wantY hf rfl rfl hb160) (fun w ⟨_, hp⟩ => ?_) ⟨_, hp⟩ ?_
   · exact st_ineq hf (by decide) (wantY hf rfl rfl hb160) rfl rfl tk
   clear hf; intro a hf
   refine dr_takeK 25 (.bool (z158 || (q101.2 != q105.2))) rfl hf rfl (fun w ⟨_, hp⟩ => ?_) ⟨_, hp⟩ ?_
   · exact st_pick (v := .bool (z158 || (q101.2 != q105.2))) hf rfl rfl (fun hb' => absurd (hb160.symm.trans hb') (by decide)) (fun _ => by rw [show (z158 || (q101.2 != q105.2)) = (q101.2 != q105.2) from by rw [hb160]; rfl]; rfl) (by decide) tk
   clear hf; intro a hf
   refine dr_end (by kernel_rfl) ?_ _
   have hp := bk138 _ _ hp
   have hp := bk133 _ _ hp
   have hp := bk128 _ _ hp
   have hp := bk123 _ _ hp
   have hp := bk118 _ _ hp
   have hp := bk113 _ _ hp
   exact ⟨hf.sub ⟨rfl, rfl, rfl, trivial⟩, hp⟩
  rintro a w ⟨hf, hp⟩
  refine th_n ?_
  refine wp_if hf rfl (fun hb => ?_) (fun hb => ?_)
  ·
   replace h := ifT h hb
   refine wp_seq ?_
   refine wp_reg ?_
   refine st_assign hf rfl rfl (by decide) ?_
   clear hf; intro a ha hf; clear ha
   refine st_nil hf ?_
   refine th_n ?_
   refine wp_ret ?_
   refine th_r ?_
   obtain rfl := Option.some.inj h
   have hp : Hp _ _ _ (ow) := Hp.sel (pre := [Res.obj 56 v75 [.int .i64 q73.1.1, .int .i64 q73.1.2], Res.obj 74 v81 [.int .i64 q79.1.1, .int .i64 q79.1.2], Res.obj 56 v77 [.int .i64 q73.2.1.1, .int .i64 q73.2.1.2], Res.obj 74 v83 [.int .i64 q79.2.1.1, .int .i64 q79.2.1.2], Res.obj 56 v103 [.int .i64 q101.1.1, .int .i64 q101.1.2], Res.obj 74 v107 [.int .i64 q105.1.1, .int .i64 q105.1.2], Res.obj 74 v1 [.int .i64 ax0_Re, .int .i64 ax0_Im], Res.obj 74 v3 [.int .i64 bx1_Re, .int .i64 bx1_Im], Res.obj 56 v25 [.int .i64 q23.1.1, .int .i64 q23.1.2], Res.obj 74 v29 [.int .i64 q27.1.1, .int .i64 q27.1.2], Res.obj 76 v5 [.int .i64 xx2_Depth, .int .u32 xx2_Class, .float .f64 bxx2_Z_0, .float .f64 bxx2_Z_1]]) (tail := ow) (rs' := []) hp [] (by decide) (by simp) rfl
   exact ⟨rfl, ⟨hf.sub ⟨rfl, trivial⟩, hp⟩⟩
  replace h := ifF h hb
  refine wp_skip ?_
  refine th_n ?_
  refine wp_seq ?_
  obtain ⟨S161, hp162, rd163, up164, bk165⟩ := Hp.lendO hp (i := 6) rfl
  obtain ⟨S166, hp167, rd168, up169, bk170⟩ := Hp.lendO hp162 (i := 9) rfl
  have rl171 := ((rd163.now hp162).mono up169)
  have rl172 := rd168
  obtain ⟨q173, hcall174, h⟩ := bnd h
  obtain ⟨q175, hcall176, h⟩ := bnd h
  refine wp_cutN (fun a w => Fr 239 a [(3, optr v1 0), (5, optr v5 0), (8, .int .i64 q175.2), (21, .int .u32 q175.1)] ∧ Hp S w0 w (Res.obj 74 v1 [.int .i64 ax0_Re, .int .i64 ax0_Im] :: Res.obj 76 v5 [.int .i64 xx2_Depth, .int .u32 xx2_Class, .float .f64 bxx2_Z_0, .float .f64 bxx2_Z_1] :: Res.obj 56 v75 [.int .i64 q73.1.1, .int .i64 q73.1.2] :: Res.obj 74 v81 [.int .i64 q79.1.1, .int .i64 q79.1.2] :: Res.obj 56 v77 [.int .i64 q73.2.1.1, .int .i64 q73.2.1.2] :: Res.obj 74 v83 [.int .i64 q79.2.1.1, .int .i64 q79.2.1.2] :: Res.obj 56 v103 [.int .i64 q101.1.1, .int .i64 q101.1.2] :: Res.obj 74 v107 [.int .i64 q105.1.1, .int .i64 q105.1.2] :: Res.obj 74 v3 [.int .i64 bx1_Re, .int .i64 bx1_Im] :: Res.obj 56 v25 [.int .i64 q23.1.1, .int .i64 q23.1.2] :: Res.obj 74 v29 [.int .i64 q27.1.1, .int .i64 q27.1.2] :: ow)) ?_ ?_
  ·
   have hp := hp167.same (Same.drew w)
   refine dr_begin' _ (fun w' => ∃ l, Hp S166 w w' l) [] (by kernel_rfl) ?_
   refine dr_takeK 0 (.agg #[.int .i64 ax0_Re, .int .i64 ax0_Im]) rfl hf rfl (fun w ⟨_, hp⟩ => ?_) ⟨_, hp⟩ ?_
   · exact st_ldOA (m := 2) (us := [.int .i64 ax0_Re, .int .i64 ax0_Im]) hf (by decide) (by kernel_rfl) rfl rfl (rl171.ob hp) rfl rfl tk
   clear hf; intro a hf
   refine dr_takeK 2 (optr v5 0) rfl hf rfl (fun w ⟨_, hp⟩ => ?_) ⟨_, hp⟩ ?_
   · exact st_fa (o' := 0) hf (by decide) (off := 0) (sz := 1) (by kernel_rfl) (by decide) rfl rfl (rl172.ob hp) rfl tk
   clear hf; intro a hf
   refine dr_takeK 3 (.int .i64 xx2_Depth) rfl hf rfl (fun w ⟨_, hp⟩ => ?_) ⟨_, hp⟩ ?_
   · exact st_ldO (u := .int .i64 xx2_Depth) hf (by decide) pl3 rfl rfl (rl172.ob hp) rfl tk
   clear hf; intro a hf
   refine dr_one 1 rfl (by kernel_rfl) ?_
   refine st_call hf (by decide) Try.func40 rfl rfl rfl rfl rfl (f_foghornlaw03_own_c hp _ _ hcall174) ?_
   rintro _ w ⟨rfl, hp0⟩
   clear hp; have hp := hp0; clear hp0
   replace hp : Hp _ _ _ (Res.obj 56 v75 [.int .i64 q73.1.1, .int .i64 q73.1.2] :: Res.obj 74 v81 [.int .i64 q79.1.1, .int .i64 q79.1.2] :: Res.obj 56 v77 [.int .i64 q73.2.1.1, .int .i64 q73.2.1.2] :: Res.obj 74 v83 [.int .i64 q79.2.1.1, .int .i64 q79.2.1.2] :: Res.obj 56 v103 [.int .i64 q101.1.1, .int .i64 q101.1.2] :: Res.obj 74 v107 [.int .i64 q105.1.1, .int .i64 q105.1.2] :: _ :: _ :: _ :: ow) := hp
   refine ⟨_, rfl, ?_⟩
   clear hf; intro a hf
   refine nx hf (fun _ _ => ⟨_, hp⟩) ?_
   refine dr_one 4 rfl (by kernel_rfl) ?_
   refine st_call hf (by decide) Try.func36 rfl rfl rfl rfl rfl (f_plane_Gauss_Class_c hp _ _ _ hcall176) ?_
   rintro _ w ⟨rfl, hp0⟩
   clear hp; have hp := hp0; clear hp0
   replace hp : Hp _ _ _ (_ :: _ :: _ :: _ :: _ :: _ :: _ :: _ :: _ :: ow) := hp
   refine ⟨_, rfl, ?_⟩
   clear hf; intro a hf
   refine nx hf (fun _ _ => ⟨_, hp⟩) ?_
   refine dr_takeK 5 (.tuple #[.int .u32 q175.1, .int .i64 q175.2]) rfl hf rfl (fun w ⟨_, hp⟩ => ?_) ⟨_, hp⟩ ?_
   · exact st_move hf rfl rfl (by decide) tk
   clear hf; intro a hf
   refine dr_takeK 6 (.int .u32 q175.1) rfl hf rfl (fun w ⟨_, hp⟩ => ?_) ⟨_, hp⟩ ?_
   · exact st_extract hf (by decide) rfl rfl rfl tk
   clear hf; intro a hf
   refine dr_takeK 7 (.int .i64 q175.2) rfl hf rfl (fun w ⟨_, hp⟩ => ?_) ⟨_, hp⟩ ?_
   · exact st_extract hf (by decide) rfl rfl rfl tk
   clear hf; intro a hf
   refine dr_takeK 8 (.int .u32 q175.1) rfl hf rfl (fun w ⟨_, hp⟩ => ?_) ⟨_, hp⟩ ?_
   · exact st_assign hf rfl rfl (by decide) tk
   clear hf; intro a hf
   refine dr_takeK 9 (.int .i64 q175.2) rfl hf rfl (fun w ⟨_, hp⟩ => ?_) ⟨_, hp⟩ ?_
   · exact st_assign hf rfl rfl (by decide) tk
   clear hf; intro a hf
   refine dr_end (by kernel_rfl) ?_ _
   have hp := bk170 _ _ hp
   have hp := bk165 _ _ hp
   exact ⟨hf.sub ⟨rfl, rfl, rfl, rfl, trivial⟩, hp⟩
  rintro a w ⟨hf, hp⟩
  refine th_n ?_
  refine wp_seq ?_
  refine wp_reg ?_
  refine st_ldOA (m := 2) (us := [.int .i64 ax0_Re, .int .i64 ax0_Im]) hf (by decide) (by kernel_rfl) rfl rfl (hp.ob (i := 0) rfl) rfl rfl ?_
  clear hf; intro a ha hf; clear ha
  refine st_fa (o' := 0) hf (by decide) (off := 0) (sz := 1) (by kernel_rfl) (by decide) rfl rfl (hp.ob (i := 1) rfl) rfl ?_
  clear hf; intro a ha hf; clear ha
  refine st_ldO (u := .int .i64 xx2_Depth) hf (by decide) pl3 rfl rfl (hp.ob (i := 1) rfl) rfl ?_
  clear hf; intro a ha hf; clear ha
  obtain ⟨q177, hcall178, h⟩ := bnd h
  refine st_call hf (by decide) Try.func46 rfl rfl rfl rfl rfl (f_foghornref03_Class_c hp _ _ _ hcall178) ?_
  rintro _ w ⟨rfl, hp0⟩
  clear hp; have hp := hp0; clear hp0
  replace hp : Hp _ _ _ (Res.obj 74 v1 [.int .i64 ax0_Re, .int .i64 ax0_Im] :: Res.obj 76 v5 [.int .i64 xx2_Depth, .int .u32 xx2_Class, .float .f64 bxx2_Z_0, .float .f64 bxx2_Z_1] :: _ :: _ :: _ :: _ :: _ :: _ :: _ :: _ :: _ :: ow) := hp
  refine ⟨_, rfl, ?_⟩
  clear hf; intro a hf
  refine st_move hf rfl rfl (by decide) ?_
  clear hf; intro a ha hf; clear ha
  refine st_extract hf (by decide) rfl rfl rfl ?_
  clear hf; intro a ha hf; clear ha
  refine st_extract hf (by decide) rfl rfl rfl ?_
  clear hf; intro a ha hf; clear ha
  refine st_assign hf rfl rfl (by decide) ?_
  clear hf; intro a ha hf; clear ha
  refine st_assign hf rfl rfl (by decide) ?_
  clear hf; intro a ha hf; clear ha
  refine st_nil hf ?_
  refine th_n ?_
  refine wp_seq ?_
  refine wp_reg ?_
  refine st_fa (o' := 1) hf (by decide) (off := 1) (sz := 1) (by kernel_rfl) (by decide) rfl rfl (hp.ob (i := 1) rfl) rfl ?_
  clear hf; intro a ha hf; clear ha
  refine st_ldO (u := .int .u32 xx2_Class) hf (by decide) pl66 rfl rfl (hp.ob (i := 1) rfl) rfl ?_
  clear hf; intro a ha hf; clear ha
  refine st_fa (o' := 0) hf (by decide) (off := 0) (sz := 1) (by kernel_rfl) (by decide) rfl rfl (hp.ob (i := 1) rfl) rfl ?_
  clear hf; intro a ha hf; clear ha
  refine st_ldO (u := .int .i64 xx2_Depth) hf (by decide) pl3 rfl rfl (hp.ob (i := 1) rfl) rfl ?_
  clear hf; intro a ha hf; clear ha
  obtain ⟨q179, hcall180, h⟩ := bnd h
  refine st_call hf (by decide) Try.func37 rfl rfl rfl rfl rfl (f_plane_First_c hp _ _ hcall180) ?_
  rintro _ w ⟨rfl, hp0⟩
  clear hp; have hp := hp0; clear hp0
  replace hp : Hp _ _ _ (_ :: _ :: _ :: _ :: _ :: _ :: _ :: _ :: _ :: _ :: _ :: ow) := hp
  refine ⟨_, rfl, ?_⟩
  clear hf; intro a hf
  refine st_move hf rfl rfl (by decide) ?_
  clear hf; intro a ha hf; clear ha
  refine st_extract hf (by decide) rfl rfl rfl ?_
  clear hf; intro a ha hf; clear ha
  refine st_extract hf (by decide) rfl rfl rfl ?_
  clear hf; intro a ha hf; clear ha
  refine st_alloc (cs := [.int .i64 (0 : Int), .int .i64 (0 : Int)]) (zv := .agg #[.int .i64 (0 : Int), .int .i64 (0 : Int)]) hf (by decide) (by kernel_rfl) rfl hp rfl ?_
  clear hf; intro a w v181 hf hp0; clear hp; have hp := hp0; clear hp0
  replace hp : Hp _ _ _ (Res.obj 56 v181 [.int .i64 (0 : Int), .int .i64 (0 : Int)] :: _ :: _ :: _ :: _ :: _ :: _ :: _ :: _ :: _ :: _ :: _ :: ow) := hp
  refine st_stO (us := [.int .i64 q179.1.1, .int .i64 q179.1.2]) hf hp (i := 0) rfl rfl rfl rfl rfl (by rfl) (by kernel_rfl) (Nat.le_of_ble_eq_true rfl) ?_
  clear hf; intro a w hf hp0; clear hp; have hp := hp0; clear hp0
  replace hp : Hp _ _ _ (Res.obj 56 v181 [.int .i64 q179.1.1, .int .i64 q179.1.2] :: _ :: _ :: _ :: _ :: _ :: _ :: _ :: _ :: _ :: _ :: _ :: ow) := hp
  refine st_assign hf rfl rfl (by decide) ?_
  clear hf; intro a ha hf; clear ha
  refine st_nil hf ?_
  refine th_n ?_
  refine wp_seq ?_
  refine wp_reg ?_
  refine st_fa (o' := 1) hf (by decide) (off := 1) (sz := 1) (by kernel_rfl) (by decide) rfl rfl (hp.ob (i := 2) rfl) rfl ?_
  clear hf; intro a ha hf; clear ha
  refine st_ldO (u := .int .u32 xx2_Class) hf (by decide) pl66 rfl rfl (hp.ob (i := 2) rfl) rfl ?_
  clear hf; intro a ha hf; clear ha
  refine st_fa (o' := 0) hf (by decide) (off := 0) (sz := 1) (by kernel_rfl) (by decide) rfl rfl (hp.ob (i := 2) rfl) rfl ?_
  clear hf; intro a ha hf; clear ha
  refine st_ldO (u := .int .i64 xx2_Depth) hf (by decide) pl3 rfl rfl (hp.ob (i := 2) rfl) rfl ?_
  clear hf; intro a ha hf; clear ha
  obtain ⟨q183, hcall184, h⟩ := bnd h
  refine st_call hf (by decide) Try.func47 rfl rfl rfl rfl rfl (f_foghornref03_First_c hp _ _ hcall184) ?_
  rintro _ w ⟨rfl, hp0⟩
  clear hp; have hp := hp0; clear hp0
  replace hp : Hp _ _ _ (_ :: _ :: _ :: _ :: _ :: _ :: _ :: _ :: _ :: _ :: _ :: _ :: ow) := hp
  refine ⟨_, rfl, ?_⟩
  clear hf; intro a hf
  refine st_move hf rfl rfl (by decide) ?_
  clear hf; intro a ha hf; clear ha
  refine st_extract hf (by decide) rfl rfl rfl ?_
  clear hf; intro a ha hf; clear ha
  refine st_extract hf (by decide) rfl rfl rfl ?_
  clear hf; intro a ha hf; clear ha
  refine st_alloc (cs := [.int .i64 (0 : Int), .int .i64 (0 : Int)]) (zv := .agg #[.int .i64 (0 : Int), .int .i64 (0 : Int)]) hf (by decide) (by kernel_rfl) rfl hp rfl ?_
  clear hf; intro a w v185 hf hp0; clear hp; have hp := hp0; clear hp0
  replace hp : Hp _ _ _ (Res.obj 74 v185 [.int .i64 (0 : Int), .int .i64 (0 : Int)] :: _ :: _ :: _ :: _ :: _ :: _ :: _ :: _ :: _ :: _ :: _ :: _ :: ow) := hp
  refine st_stO (us := [.int .i64 q183.1.1, .int .i64 q183.1.2]) hf hp (i := 0) rfl rfl rfl rfl rfl (by rfl) (by kernel_rfl) (Nat.le_of_ble_eq_true rfl) ?_
  clear hf; intro a w hf hp0; clear hp; have hp := hp0; clear hp0
  replace hp : Hp _ _ _ (Res.obj 74 v185 [.int .i64 q183.1.1, .int .i64 q183.1.2] :: _ :: _ :: _ :: _ :: _ :: _ :: _ :: _ :: _ :: _ :: _ :: _ :: ow) := hp
  refine st_assign hf rfl rfl (by decide) ?_
  clear hf; intro a ha hf; clear ha
  refine st_nil hf ?_
  refine th_n ?_
  refine wp_seq ?_
  refine wp_seq ?_
  obtain ⟨S187, hp188, rd189, up190, bk191⟩ := Hp.lendO hp (i := 1) rfl
  obtain ⟨S192, hp193, rd194, up195, bk196⟩ := Hp.lendO hp188 (i := 0) rfl
  have rl197 := ((rd189.now hp188).mono up195)
  have rl198 := rd194
  obtain ⟨z205, hz201, h⟩ := bnd h
  refine wp_cutN (fun a w => Fr 239 a [(3, optr v1 0), (5, optr v5 0), (178, .bool (z205 || (q179.2 != q183.2)))] ∧ Hp S w0 w (Res.obj 56 v181 [.int .i64 q179.1.1, .int .i64 q179.1.2] :: Res.obj 74 v185 [.int .i64 q183.1.1, .int .i64 q183.1.2] :: Res.obj 74 v1 [.int .i64 ax0_Re, .int .i64 ax0_Im] :: Res.obj 76 v5 [.int .i64 xx2_Depth, .int .u32 xx2_Class, .float .f64 bxx2_Z_0, .float .f64 bxx2_Z_1] :: Res.obj 56 v75 [.int .i64 q73.1.1, .int .i64 q73.1.2] :: Res.obj 74 v81 [.int .i64 q79.1.1, .int .i64 q79.1.2] :: Res.obj 56 v77 [.int .i64 q73.2.1.1, .int .i64 q73.2.1.2] :: Res.obj 74 v83 [.int .i64 q79.2.1.1, .int .i64 q79.2.1.2] :: Res.obj 56 v103 [.int .i64 q101.1.1, .int .i64 q101.1.2] :: Res.obj 74 v107 [.int .i64 q105.1.1, .int .i64 q105.1.2] :: Res.obj 74 v3 [.int .i64 bx1_Re, .int .i64 bx1_Im] :: Res.obj 56 v25 [.int .i64 q23.1.1, .int .i64 q23.1.2] :: Res.obj 74 v29 [.int .i64 q27.1.1, .int .i64 q27.1.2] :: ow)) ?_ ?_
  ·
   have hp := hp193.same (Same.drew w)
   rcases Bool.eq_false_or_eq_true (q175.1 != q177.1) with hb200 | hb200
   ·
    have hb202 : ((q175.1 != q177.1) || (q175.2 != q177.2)) = true := by rw [hb200]; rfl
    skip
    replace hz201 := ifT hz201 hb202
    replace hz201 := Option.some.inj hz201
    have hb207 : z205 = true := hz201.symm
    skip
    refine dr_begin' _ (fun w' => ∃ l, Hp S192 w w' l) [] (by kernel_rfl) ?_
    refine dr_takeK 0 (.int .u32 q175.1) rfl hf rfl (fun w ⟨_, hp⟩ => ?_) ⟨_, hp⟩ ?_
    · exact st_move hf rfl rfl (by decide) tk
    clear hf; intro a hf
    refine dr_takeK 1 (.int .u32 q177.1) rfl hf rfl (fun w ⟨_, hp⟩ => ?_) ⟨_, hp⟩ ?_
    · exact st_move hf rfl rfl (by decide) tk
    clear hf; intro a hf
    refine dr_takeK 2 (.bool (q175.1 != q177.1)) rfl hf rfl (fun w ⟨_, hp⟩ => ?_) ⟨_, hp⟩ ?_
    · exact st_ineq hf (by decide) rfl rfl rfl tk
    clear hf; intro a hf
    refine dr_takeK 3 (.bool (q175.1 != q177.1)) rfl hf rfl (fun w ⟨_, hp⟩ => ?_) ⟨_, hp⟩ ?_
    · exact st_move hf rfl rfl (by decide) tk
    clear hf; intro a hf
    refine dr_outK 4 rfl hf rfl (wantN hf rfl rfl hb200) ⟨_, hp⟩ ?_
    clear hf; intro a hf
    refine dr_outK 5 rfl hf rfl (wantN hf rfl rfl hb200) ⟨_, hp⟩ ?_
    clear hf; intro a hf
    refine dr_outK 6 rfl hf rfl (wantN hf rfl rfl hb200) ⟨_, hp⟩ ?_
    clear hf; intro a hf
    refine dr_takeK 7 (.bool ((q175.1 != q177.1) || (q175.2 != q177.2))) rfl hf rfl (fun w ⟨_, hp⟩ => ?_) ⟨_, hp⟩ ?_
    · exact st_pick (v := .bool ((q175.1 != q177.1) || (q175.2 != q177.2))) hf rfl rfl (fun _ => by rw [show ((q175.1 != q177.1) || (q175.2 != q177.2)) = true from by rw [hb200]; rfl]; rfl) (fun hb' => absurd (hb200.symm.trans hb') (by decide)) (by decide) tk
    clear hf; intro a hf
    refine dr_takeK 8 (.bool ((q175.1 != q177.1) || (q175.2 != q177.2))) rfl hf rfl (fun w ⟨_, hp⟩ => ?_) ⟨_, hp⟩ ?_
    · exact st_move hf rfl rfl (by decide) tk
    clear hf; intro a hf
    refine dr_outK 9 rfl hf rfl (wantN hf rfl rfl hb202) ⟨_, hp⟩ ?_
    clear hf; intro a hf
    refine dr_outK 10 rfl hf rfl (wantN hf rfl rfl hb202) ⟨_, hp⟩ ?_
    clear hf; intro a hf
    refine dr_outK 11 rfl hf rfl (wantN hf rfl rfl hb202) ⟨_, hp⟩ ?_
    clear hf; intro a hf
    refine dr_outK 12 rfl hf rfl (wantN hf rfl rfl hb202) ⟨_, hp⟩ ?_
    clear hf; intro a hf
    refine dr_takeK 13 (.bool z205) rfl hf rfl (fun w ⟨_, hp⟩ => ?_) ⟨_, hp⟩ ?_
    · exact st_pick (v := .bool z205) hf rfl rfl (fun _ => by rw [← hz201]; rfl) (fun hb' => absurd (hb202.symm.trans hb') (by decide)) (by decide) tk
    clear hf; intro a hf
    refine dr_takeK 14 (.bool z205) rfl hf rfl (fun w ⟨_, hp⟩ => ?_) ⟨_, hp⟩ ?_
    · exact st_move hf rfl rfl (by decide) tk
    clear hf; intro a hf
    refine dr_outK 15 rfl hf rfl (wantN hf rfl rfl hb207) ⟨_, hp⟩ ?_
    clear hf; intro a hf
    refine dr_outK 16 rfl hf rfl (wantN hf rfl rfl hb207) ⟨_, hp⟩ ?_
    clear hf; intro a hf
    refine dr_outK 17 rfl hf rfl (wantN hf rfl rfl hb207) ⟨_, hp⟩ ?_
    clear hf; intro a hf
    refine dr_takeK 18 (.bool (z205 || (q179.2 != q183.2))) rfl hf rfl (fun w ⟨_, hp⟩ => ?_) ⟨_, hp⟩ ?_
    · exact st_pick (v := .bool (z205 || (q179.2 != q183.2))) hf rfl rfl (fun _ => by rw [show (z205 || (q179.2 != q183.2)) = true from by rw [hb207]; rfl]; rfl) (fun hb' => absurd (hb207.symm.trans hb') (by decide)) (by decide) tk
    clear hf; intro a hf
    refine dr_end (by kernel_rfl) ?_ _
    have hp := bk196 _ _ hp
    have hp := bk191 _ _ hp
    exact ⟨hf.sub ⟨rfl, rfl, rfl, trivial⟩, hp⟩
   skip
   rcases Bool.eq_false_or_eq_true ((q175.1 != q177.1) || (q175.2 != q177.2)) with hb202 | hb202
   ·
    replace hz201 := ifT hz201 hb202
    replace hz201 := Option.some.inj hz201
    have hb207 : z205 = true := hz201.symm
    skip
    refine dr_begin' _ (fun w' => ∃ l, Hp S192 w w' l) [] (by kernel_rfl) ?_
    refine dr_takeK 0 (.int .u32 q175.1) rfl hf rfl (fun w ⟨_, hp⟩ => ?_) ⟨_, hp⟩ ?_
    · exact st_move hf rfl rfl (by decide) tk
    clear hf; intro a hf
    refine dr_takeK 1 (.int .u32 q177.1) rfl hf rfl (fun w ⟨_, hp⟩ => ?_) ⟨_, hp⟩ ?_
    · exact st_move hf rfl rfl (by decide) tk
    clear hf; intro a hf
    refine dr_takeK 2 (.bool (q175.1 != q177.1)) rfl hf rfl (fun w ⟨_, hp⟩ => ?_) ⟨_, hp⟩ ?_
    · exact st_ineq hf (by decide) rfl rfl rfl tk
    clear hf; intro a hf
    refine dr_takeK 3 (.bool (q175.1 != q177.1)) rfl hf rfl (fun w ⟨_, hp⟩ => ?_) ⟨_, hp⟩ ?_
    · exact st_move hf rfl rfl (by decide) tk
    clear hf; intro a hf
    refine dr_takeK 4 (.int .i64 q175.2) rfl hf (wantY hf rfl rfl hb200) (fun w ⟨_, hp⟩ => ?_) ⟨_, hp⟩ ?_
    · exact st_move hf (wantY hf rfl rfl hb200) rfl (by decide) tk
    clear hf; intro a hf
    refine dr_takeK 5 (.int .i64 q177.2) rfl hf (wantY hf rfl rfl hb200) (fun w ⟨_, hp⟩ => ?_) ⟨_, hp⟩ ?_
    · exact st_move hf (wantY hf rfl rfl hb200) rfl (by decide) tk
    clear hf; intro a hf
    refine dr_takeK 6 (.bool (q175.2 != q177.2)) rfl hf (wantY hf rfl rfl hb200) (fun w ⟨_, hp⟩ => ?_) ⟨_, hp⟩ ?_
    · exact st_ineq hf (by decide) (wantY hf rfl rfl hb200) rfl rfl tk
    clear hf; intro a hf
    refine dr_takeK 7 (.bool ((q175.1 != q177.1) || (q175.2 != q177.2))) rfl hf rfl (fun w ⟨_, hp⟩ => ?_) ⟨_, hp⟩ ?_
    · exact st_pick (v := .bool ((q175.1 != q177.1) || (q175.2 != q177.2))) hf rfl rfl (fun hb' => absurd (hb200.symm.trans hb') (by decide)) (fun _ => by rw [show ((q175.1 != q177.1) || (q175.2 != q177.2)) = (q175.2 != q177.2) from by rw [hb200]; rfl]; rfl) (by decide) tk
    clear hf; intro a hf
    refine dr_takeK 8 (.bool ((q175.1 != q177.1) || (q175.2 != q177.2))) rfl hf rfl (fun w ⟨_, hp⟩ => ?_) ⟨_, hp⟩ ?_
    · exact st_move hf rfl rfl (by decide) tk
    clear hf; intro a hf
    refine dr_outK 9 rfl hf rfl (wantN hf rfl rfl hb202) ⟨_, hp⟩ ?_
    clear hf; intro a hf
    refine dr_outK 10 rfl hf rfl (wantN hf rfl rfl hb202) ⟨_, hp⟩ ?_
    clear hf; intro a hf
    refine dr_outK 11 rfl hf rfl (wantN hf rfl rfl hb202) ⟨_, hp⟩ ?_
    clear hf; intro a hf
    refine dr_outK 12 rfl hf rfl (wantN hf rfl rfl hb202) ⟨_, hp⟩ ?_
    clear hf; intro a hf
    refine dr_takeK 13 (.bool z205) rfl hf rfl (fun w ⟨_, hp⟩ => ?_) ⟨_, hp⟩ ?_
    · exact st_pick (v := .bool z205) hf rfl rfl (fun _ => by rw [← hz201]; rfl) (fun hb' => absurd (hb202.symm.trans hb') (by decide)) (by decide) tk
    clear hf; intro a hf
    refine dr_takeK 14 (.bool z205) rfl hf rfl (fun w ⟨_, hp⟩ => ?_) ⟨_, hp⟩ ?_
    · exact st_move hf rfl rfl (by decide) tk
    clear hf; intro a hf
    refine dr_outK 15 rfl hf rfl (wantN hf rfl rfl hb207) ⟨_, hp⟩ ?_
    clear hf; intro a hf
    refine dr_outK 16 rfl hf rfl (wantN hf rfl rfl hb207) ⟨_, hp⟩ ?_
    clear hf; intro a hf
    refine dr_outK 17 rfl hf rfl (wantN hf rfl rfl hb207) ⟨_, hp⟩ ?_
    clear hf; intro a hf
    refine dr_takeK 18 (.bool (z205 || (q179.2 != q183.2))) rfl hf rfl (fun w ⟨_, hp⟩ => ?_) ⟨_, hp⟩ ?_
    · exact st_pick (v := .bool (z205 || (q179.2 != q183.2))) hf rfl rfl (fun _ => by rw [show (z205 || (q179.2 != q183.2)) = true from by rw [hb207]; rfl]; rfl) (fun hb' => absurd (hb207.symm.trans hb') (by decide)) (by decide) tk
    clear hf; intro a hf
    refine dr_end (by kernel_rfl) ?_ _
    have hp := bk196 _ _ hp
    have hp := bk191 _ _ hp
    exact ⟨hf.sub ⟨rfl, rfl, rfl, trivial⟩, hp⟩
   skip
   replace hz201 := ifF hz201 hb202
   obtain ⟨q203, hcall204, hz201⟩ := bnd hz201
   replace hz201 := Option.some.inj hz201
   rcases Bool.eq_false_or_eq_true z205 with hb207 | hb207
   ·
    refine dr_begin' _ (fun w' => ∃ l, Hp S192 w w' l) [] (by kernel_rfl) ?_
    refine dr_takeK 0 (.int .u32 q175.1) rfl hf rfl (fun w ⟨_, hp⟩ => ?_) ⟨_, hp⟩ ?_
    · exact st_move hf rfl rfl (by decide) tk
    clear hf; intro a hf
    refine dr_takeK 1 (.int .u32 q177.1) rfl hf rfl (fun w ⟨_, hp⟩ => ?_) ⟨_, hp⟩ ?_
    · exact st_move hf rfl rfl (by decide) tk
    clear hf; intro a hf
    refine dr_takeK 2 (.bool (q175.1 != q177.1)) rfl hf rfl (fun w ⟨_, hp⟩ => ?_) ⟨_, hp⟩ ?_
    · exact st_ineq hf (by decide) rfl rfl rfl tk
    clear hf; intro a hf
    refine dr_takeK 3 (.bool (q175.1 != q177.1)) rfl hf rfl (fun w ⟨_, hp⟩ => ?_) ⟨_, hp⟩ ?_
    · exact st_move hf rfl rfl (by decide) tk
    clear hf; intro a hf
    refine dr_takeK 4 (.int .i64 q175.2) rfl hf (wantY hf rfl rfl hb200) (fun w ⟨_, hp⟩ => ?_) ⟨_, hp⟩ ?_
    · exact st_move hf (wantY hf rfl rfl hb200) rfl (by decide) tk
    clear hf; intro a hf
    refine dr_takeK 5 (.int .i64 q177.2) rfl hf (wantY hf rfl rfl hb200) (fun w ⟨_, hp⟩ => ?_) ⟨_, hp⟩ ?_
    · exact st_move hf (wantY hf rfl rfl hb200) rfl (by decide) tk
    clear hf; intro a hf
    refine dr_takeK 6 (.bool (q175.2 != q177.2)) rfl hf (wantY hf rfl rfl hb200) (fun w ⟨_, hp⟩ => ?_) ⟨_, hp⟩ ?_
    · exact st_ineq hf (by decide) (wantY hf rfl rfl hb200) rfl rfl tk
    clear hf; intro a hf
    refine dr_takeK 7 (.bool ((q175.1 != q177.1) || (q175.2 != q177.2))) rfl hf rfl (fun w ⟨_, hp⟩ => ?_) ⟨_, hp⟩ ?_
    · exact st_pick (v := .bool ((q175.1 != q177.1) || (q175.2 != q177.2))) hf rfl rfl (fun hb' => absurd (hb200.symm.trans hb') (by decide)) (fun _ => by rw [show ((q175.1 != q177.1) || (q175.2 != q177.2)) = (q175.2 != q177.2) from by rw [hb200]; rfl]; rfl) (by decide) tk
    clear hf; intro a hf
    refine dr_takeK 8 (.bool ((q175.1 != q177.1) || (q175.2 != q177.2))) rfl hf rfl (fun w ⟨_, hp⟩ => ?_) ⟨_, hp⟩ ?_
    · exact st_move hf rfl rfl (by decide) tk
    clear hf; intro a hf
    refine dr_takeK 9 (.agg #[.int .i64 q179.1.1, .int .i64 q179.1.2]) rfl hf (wantY hf rfl rfl hb202) (fun w ⟨_, hp⟩ => ?_) ⟨_, hp⟩ ?_
    · exact st_ldOA (m := 2) (us := [.int .i64 q179.1.1, .int .i64 q179.1.2]) hf (by decide) (by kernel_rfl) (wantY hf rfl rfl hb202) rfl (rl197.ob hp) rfl rfl tk
    clear hf; intro a hf
    refine dr_takeK 11 (.agg #[.int .i64 q183.1.1, .int .i64 q183.1.2]) rfl hf (wantY hf rfl rfl hb202) (fun w ⟨_, hp⟩ => ?_) ⟨_, hp⟩ ?_
    · exact st_ldOA (m := 2) (us := [.int .i64 q183.1.1, .int .i64 q183.1.2]) hf (by decide) (by kernel_rfl) (wantY hf rfl rfl hb202) rfl (rl198.ob hp) rfl rfl tk
    clear hf; intro a hf
    refine dr_one 10 rfl (by kernel_rfl) ?_
    refine st_call hf (by decide) Try.func43 rfl rfl (wantY hf rfl rfl hb202) rfl rfl (f_foghornlaw03_ref_c hp _ _ hcall204) ?_
    rintro _ w ⟨rfl, hp0⟩
    clear hp; have hp := hp0; clear hp0
    replace hp : Hp _ _ _ (_ :: _ :: _ :: _ :: _ :: _ :: _ :: _ :: _ :: _ :: _ :: ow) := hp
    refine ⟨_, rfl, ?_⟩
    clear hf; intro a hf
    refine nx hf (fun _ _ => ⟨_, hp⟩) ?_
    refine dr_takeK 12 (.bool (!((q203.1 == q183.1.1) && ((q203.2 == q183.1.2) && true)))) rfl hf (wantY hf rfl rfl hb202) (fun w ⟨_, hp⟩ => ?_) ⟨_, hp⟩ ?_
    · exact st_neA (xs := [.int .i64 q203.1, .int .i64 q203.2]) (ys := [.int .i64 q183.1.1, .int .i64 q183.1.2]) hf (by decide) (by kernel_rfl) (by kernel_rfl) (by kernel_rfl) (by kernel_rfl) (wantY hf rfl rfl hb202) rfl rfl (b := (!((q203.1 == q183.1.1) && ((q203.2 == q183.1.2) && true)))) rfl tk
    clear hf; intro a hf
    refine dr_takeK 13 (.bool z205) rfl hf rfl (fun w ⟨_, hp⟩ => ?_) ⟨_, hp⟩ ?_
    · exact st_pick (v := .bool z205) hf rfl rfl (fun hb' => absurd (hb202.symm.trans hb') (by decide)) (fun _ => by rw [← hz201]; rfl) (by decide) tk
    clear hf; intro a hf
    refine dr_takeK 14 (.bool z205) rfl hf rfl (fun w ⟨_, hp⟩ => ?_) ⟨_, hp⟩ ?_
    · exact st_move hf rfl rfl (by decide) tk
    clear hf; intro a hf
    refine dr_outK 15 rfl hf rfl (wantN hf rfl rfl hb207) ⟨_, hp⟩ ?_
    clear hf; intro a hf
    refine dr_outK 16 rfl hf rfl (wantN hf rfl rfl hb207) ⟨_, hp⟩ ?_
    clear hf; intro a hf
    refine dr_outK 17 rfl hf rfl (wantN hf rfl rfl hb207) ⟨_, hp⟩ ?_
    clear hf; intro a hf
    refine dr_takeK 18 (.bool (z205 || (q179.2 != q183.2))) rfl hf rfl (fun w ⟨_, hp⟩ => ?_) ⟨_, hp⟩ ?_
    · exact st_pick (v := .bool (z205 || (q179.2 != q183.2))) hf rfl rfl (fun _ => by rw [show (z205 || (q179.2 != q183.2)) = true from by rw [hb207]; rfl]; rfl) (fun hb' => absurd (hb207.symm.trans hb') (by decide)) (by decide) tk
    clear hf; intro a hf
    refine dr_end (by kernel_rfl) ?_ _
    have hp := bk196 _ _ hp
    have hp := bk191 _ _ hp
    exact ⟨hf.sub ⟨rfl, rfl, rfl, trivial⟩, hp⟩
   skip
   refine dr_begin' _ (fun w' => ∃ l, Hp S192 w w' l) [] (by kernel_rfl) ?_
   refine dr_takeK 0 (.int .u32 q175.1) rfl hf rfl (fun w ⟨_, hp⟩ => ?_) ⟨_, hp⟩ ?_
   · exact st_move hf rfl rfl (by decide) tk
   clear hf; intro a hf
   refine dr_takeK 1 (.int .u32 q177.1) rfl hf rfl (fun w ⟨_, hp⟩ => ?_) ⟨_, hp⟩ ?_
   · exact st_move hf rfl rfl (by decide) tk
   clear hf; intro a hf
   refine dr_takeK 2 (.bool (q175.1 != q177.1)) rfl hf rfl (fun w ⟨_, hp⟩ => ?_) ⟨_, hp⟩ ?_
   · exact st_ineq hf (by decide) rfl rfl rfl tk
   clear hf; intro a hf
   refine dr_takeK 3 (.bool (q175.1 != q177.1)) rfl hf rfl (fun w ⟨_, hp⟩ => ?_) ⟨_, hp⟩ ?_
   · exact st_move hf rfl rfl (by decide) tk
   clear hf; intro a hf
   refine dr_takeK 4 (.int .i64 q175.2) rfl hf (wantY hf rfl rfl hb200) (fun w ⟨_, hp⟩ => ?_) ⟨_, hp⟩ ?_
   · exact st_move hf (wantY hf rfl rfl hb200) rfl (by decide) tk
   clear hf; intro a hf
   refine dr_takeK 5 (.int .i64 q177.2) rfl hf (wantY hf rfl rfl hb200) (fun w ⟨_, hp⟩ => ?_) ⟨_, hp⟩ ?_
   · exact st_move hf (wantY hf rfl rfl hb200) rfl (by decide) tk
   clear hf; intro a hf
   refine dr_takeK 6 (.bool (q175.2 != q177.2)) rfl hf (wantY hf rfl rfl hb200) (fun w ⟨_, hp⟩ => ?_) ⟨_, hp⟩ ?_
   · exact st_ineq hf (by decide) (wantY hf rfl rfl hb200) rfl rfl tk
   clear hf; intro a hf
   refine dr_takeK 7 (.bool ((q175.1 != q177.1) || (q175.2 != q177.2))) rfl hf rfl (fun w ⟨_, hp⟩ => ?_) ⟨_, hp⟩ ?_
   · exact st_pick (v := .bool ((q175.1 != q177.1) || (q175.2 != q177.2))) hf rfl rfl (fun hb' => absurd (hb200.symm.trans hb') (by decide)) (fun _ => by rw [show ((q175.1 != q177.1) || (q175.2 != q177.2)) = (q175.2 != q177.2) from by rw [hb200]; rfl]; rfl) (by decide) tk
   clear hf; intro a hf
   refine dr_takeK 8 (.bool ((q175.1 != q177.1) || (q175.2 != q177.2))) rfl hf rfl (fun w ⟨_, hp⟩ => ?_) ⟨_, hp⟩ ?_
   · exact st_move hf rfl rfl (by decide) tk
   clear hf; intro a hf
   refine dr_takeK 9 (.agg #[.int .i64 q179.1.1, .int .i64 q179.1.2]) rfl hf (wantY hf rfl rfl hb202) (fun w ⟨_, hp⟩ => ?_) ⟨_, hp⟩ ?_
   · exact st_ldOA (m := 2) (us := [.int .i64 q179.1.1, .int .i64 q179.1.2]) hf (by decide) (by kernel_rfl) (wantY hf rfl rfl hb202) rfl (rl197.ob hp) rfl rfl tk
   clear hf; intro a hf
   refine dr_takeK 11 (.agg #[.int .i64 q183.1.1, .int .i64 q183.1.2]) rfl hf (wantY hf rfl rfl hb202) (fun w ⟨_, hp⟩ => ?_) ⟨_, hp⟩ ?_
   · exact st_ldOA (m := 2) (us := [.int .i64 q183.1.1, .int .i64 q183.1.2]) hf (by decide) (by kernel_rfl) (wantY hf rfl rfl hb202) rfl (rl198.ob hp) rfl rfl tk
   clear hf; intro a hf
   refine dr_one 10 rfl (by kernel_rfl) ?_
   refine st_call hf (by decide) Try.func43 rfl rfl (wantY hf rfl rfl hb202) rfl rfl (f_foghornlaw03_ref_c hp _ _ hcall204) ?_
   rintro _ w ⟨rfl, hp0⟩
   clear hp; have hp := hp0; clear hp0
   replace hp : Hp _ _ _ (_ :: _ :: _ :: _ :: _ :: _ :: _ :: _ :: _ :: _ :: _ :: ow) := hp
   refine ⟨_, rfl, ?_⟩
   clear hf; intro a hf
   refine nx hf (fun _ _ => ⟨_, hp⟩) ?_
   refine dr_takeK 12 (.bool (!((q203.1 == q183.1.1) && ((q203.2 == q183.1.2) && true)))) rfl hf (wantY hf rfl rfl hb202) (fun w ⟨_, hp⟩ => ?_) ⟨_, hp⟩ ?_
   · exact st_neA (xs := [.int .i64 q203.1, .int .i64 q203.2]) (ys := [.int .i64 q183.1.1, .int .i64 q183.1.2]) hf (by decide) (by kernel_rfl) (by kernel_rfl) (by kernel_rfl) (by kernel_rfl) (wantY hf rfl rfl hb202) rfl rfl (b := (!((q203.1 == q183.1.1) && ((q203.2 == q183.1.2) && true)))) rfl tk
   clear hf; intro a hf
   refine dr_takeK 13 (.bool z205) rfl hf rfl (fun w ⟨_, hp⟩ => ?_) ⟨_, hp⟩ ?_
   · exact st_pick (v := .bool z205) hf rfl rfl (fun hb' => absurd (hb202.symm.trans hb') (by decide)) (fun _ => by rw [← hz201]; rfl) (by decide) tk
   clear hf; intro a hf
   refine dr_takeK 14 (.bool z205) rfl hf rfl (fun w ⟨_, hp⟩ => ?_) ⟨_, hp⟩ ?_
   · exact st_move hf rfl rfl (by decide) tk
   clear hf; intro a hf
   refine dr_takeK 15 (.int .i64 q179.2) rfl hf (wantY hf rfl rfl hb207) (fun w ⟨_, hp⟩ => ?_) ⟨_, hp⟩ ?_
   · exact st_move hf (wantY hf rfl rfl hb207) rfl (by decide) tk
   clear hf; intro a hf
   refine dr_takeK 16 (.int .i64 q183.2) rfl hf (wantY hf rfl rfl hb207) (fun w ⟨_, hp⟩ => ?_) ⟨_, hp⟩ ?_
   · exact st_move hf (wantY hf rfl rfl hb207) rfl (by decide) tk
   clear hf; intro a hf
   refine dr_takeK 17 (.bool (q179.2 != q183.2)) rfl hf (wantY hf rfl rfl hb207) (fun w ⟨_, hp⟩ => ?_) ⟨_, hp⟩ ?_
   · exact st_ineq hf (by decide) (wantY hf rfl rfl hb207) rfl rfl tk
   clear hf; intro a hf
   refine dr_takeK 18 (.bool (z205 || (q179.2 != q183.2))) rfl hf rfl (fun w ⟨_, hp⟩ => ?_) ⟨_, hp⟩ ?_
   · exact st_pick (v := .bool (z205 || (q179.2 != q183.2))) hf rfl rfl (fun hb' => absurd (hb207.symm.trans hb') (by decide)) (fun _ => by rw [show (z205 || (q179.2 != q183.2)) = (q179.2 != q183.2) from by rw [hb207]; rfl]; rfl) (by decide) tk
   clear hf; intro a hf
   refine dr_end (by kernel_rfl) ?_ _
   have hp := bk196 _ _ hp
   have hp := bk191 _ _ hp
   exact ⟨hf.sub ⟨rfl, rfl, rfl, trivial⟩, hp⟩
  rintro a w ⟨hf, hp⟩
  refine th_n ?_
  refine wp_if hf rfl (fun hb => ?_) (fun hb => ?_)
  ·
   replace h := ifT h hb
   refine wp_seq ?_
   refine wp_reg ?_
   refine st_assign hf rfl rfl (by decide) ?_
   clear hf; intro a ha hf; clear ha
   refine st_nil hf ?_
   refine th_n ?_
   refine wp_ret ?_
   refine th_r ?_
   obtain rfl := Option.some.inj h
   have hp : Hp _ _ _ (ow) := Hp.sel (pre := [Res.obj 56 v181 [.int .i64 q179.1.1, .int .i64 q179.1.2], Res.obj 74 v185 [.int .i64 q183.1.1, .int .i64 q183.1.2], Res.obj 74 v1 [.int .i64 ax0_Re, .int .i64 ax0_Im], Res.obj 76 v5 [.int .i64 xx2_Depth, .int .u32 xx2_Class, .float .f64 bxx2_Z_0, .float .f64 bxx2_Z_1], Res.obj 56 v75 [.int .i64 q73.1.1, .int .i64 q73.1.2], Res.obj 74 v81 [.int .i64 q79.1.1, .int .i64 q79.1.2], Res.obj 56 v77 [.int .i64 q73.2.1.1, .int .i64 q73.2.1.2], Res.obj 74 v83 [.int .i64 q79.2.1.1, .int .i64 q79.2.1.2], Res.obj 56 v103 [.int .i64 q101.1.1, .int .i64 q101.1.2], Res.obj 74 v107 [.int .i64 q105.1.1, .int .i64 q105.1.2], Res.obj 74 v3 [.int .i64 bx1_Re, .int .i64 bx1_Im], Res.obj 56 v25 [.int .i64 q23.1.1, .int .i64 q23.1.2], Res.obj 74 v29 [.int .i64 q27.1.1, .int .i64 q27.1.2]]) (tail := ow) (rs' := []) hp [] (by decide) (by simp) rfl
   exact ⟨rfl, ⟨hf.sub ⟨rfl, trivial⟩, hp⟩⟩
  replace h := ifF h hb
  refine wp_skip ?_
  refine th_n ?_
  refine wp_seq ?_
  refine wp_reg ?_
  refine st_ldOA (m := 2) (us := [.int .i64 ax0_Re, .int .i64 ax0_Im]) hf (by decide) (by kernel_rfl) rfl rfl (hp.ob (i := 2) rfl) rfl rfl ?_
  clear hf; intro a ha hf; clear ha
  obtain ⟨q208, hcall209, h⟩ := bnd h
  refine st_call hf (by decide) Try.func40 rfl rfl rfl rfl rfl (f_foghornlaw03_own_c hp _ _ hcall209) ?_
  rintro _ w ⟨rfl, hp0⟩
  clear hp; have hp := hp0; clear hp0
  replace hp : Hp _ _ _ (Res.obj 56 v181 [.int .i64 q179.1.1, .int .i64 q179.1.2] :: Res.obj 74 v185 [.int .i64 q183.1.1, .int .i64 q183.1.2] :: _ :: _ :: _ :: _ :: _ :: _ :: _ :: _ :: _ :: _ :: _ :: ow) := hp
  refine ⟨_, rfl, ?_⟩
  clear hf; intro a hf
  obtain ⟨q210, hcall211, h⟩ := bnd h
  refine st_call hf (by decide) Try.func38 rfl rfl rfl rfl rfl (f_plane_Gauss_Depth_c hp _ _ hcall211) ?_
  rintro _ w ⟨rfl, hp0⟩
  clear hp; have hp := hp0; clear hp0
  replace hp : Hp _ _ _ (_ :: _ :: _ :: _ :: _ :: _ :: _ :: _ :: _ :: _ :: _ :: _ :: _ :: ow) := hp
  refine ⟨_, rfl, ?_⟩
  clear hf; intro a hf
  refine st_move hf rfl rfl (by decide) ?_
  clear hf; intro a ha hf; clear ha
  refine st_extract hf (by decide) rfl rfl rfl ?_
  clear hf; intro a ha hf; clear ha
  refine st_extract hf (by decide) rfl rfl rfl ?_
  clear hf; intro a ha hf; clear ha
  refine st_assign hf rfl rfl (by decide) ?_
  clear hf; intro a ha hf; clear ha
  refine st_assign hf rfl rfl (by decide) ?_
  clear hf; intro a ha hf; clear ha
  refine st_nil hf ?_
  refine th_n ?_
  refine wp_seq ?_
  refine wp_reg ?_
  refine st_ldOA (m := 2) (us := [.int .i64 ax0_Re, .int .i64 ax0_Im]) hf (by decide) (by kernel_rfl) rfl rfl (hp.ob (i := 2) rfl) rfl rfl ?_
  clear hf; intro a ha hf; clear ha
  obtain ⟨q212, hcall213, h⟩ := bnd h
  refine st_call hf (by decide) Try.func48 rfl rfl rfl rfl rfl (f_foghornref03_Depth_c hp _ _ hcall213) ?_
  rintro _ w ⟨rfl, hp0⟩
  clear hp; have hp := hp0; clear hp0
  replace hp : Hp _ _ _ (_ :: _ :: _ :: _ :: _ :: _ :: _ :: _ :: _ :: _ :: _ :: _ :: _ :: ow) := hp
  refine ⟨_, rfl, ?_⟩
  clear hf; intro a hf
  refine st_move hf rfl rfl (by decide) ?_
  clear hf; intro a ha hf; clear ha
  refine st_extract hf (by decide) rfl rfl rfl ?_
  clear hf; intro a ha hf; clear ha
  refine st_extract hf (by decide) rfl rfl rfl ?_
  clear hf; intro a ha hf; clear ha
  refine st_assign hf rfl rfl (by decide) ?_
  clear hf; intro a ha hf; clear ha
  refine st_assign hf rfl rfl (by decide) ?_
  clear hf; intro a ha hf; clear ha
  refine st_nil hf ?_
  refine th_n ?_
  refine wp_seq ?_
  refine wp_reg ?_
  refine st_fa (o' := 2) hf (by decide) (off := 2) (sz := 2) (by kernel_rfl) (by decide) rfl rfl (hp.ob (i := 3) rfl) rfl ?_
  clear hf; intro a ha hf; clear ha
  refine st_ldOA (m := 2) (us := [.float .f64 bxx2_Z_0, .float .f64 bxx2_Z_1]) hf (by decide) (by kernel_rfl) rfl rfl (hp.ob (i := 3) rfl) rfl rfl ?_
  clear hf; intro a ha hf; clear ha
  obtain ⟨q214, hcall215, h⟩ := bnd h
  refine st_call hf (by decide) Try.func11 rfl rfl rfl rfl rfl (f_foghornlaw03_number_c hp _ _ (show Fl.rep bxx2_Z_0 xx2_Z_0 from hxx2_Z_0) _ _ (show Fl.rep bxx2_Z_1 xx2_Z_1 from hxx2_Z_1) hcall215) ?_
  rintro _ w ⟨v216, v217, rfl, y218, y219, hp0⟩
  clear hp; have hp := hp0; clear hp0
  replace hp : Hp _ _ _ (_ :: _ :: _ :: _ :: _ :: _ :: _ :: _ :: _ :: _ :: _ :: _ :: _ :: ow) := hp
  refine ⟨_, rfl, ?_⟩
  clear hf; intro a hf
  obtain ⟨q220, hcall221, h⟩ := bnd h
  refine st_call hf (by decide) Try.func39 rfl rfl rfl rfl rfl (f_plane_Whole_c hp _ _ _ (show Fl.rep v216 (q214).1 from y218) (show Fl.rep v217 (q214).2 from y219) hcall221) ?_
  rintro _ w ⟨rfl, hp0⟩
  clear hp; have hp := hp0; clear hp0
  replace hp : Hp _ _ _ (_ :: _ :: _ :: _ :: _ :: _ :: _ :: _ :: _ :: _ :: _ :: _ :: _ :: ow) := hp
  refine ⟨_, rfl, ?_⟩
  clear hf; intro a hf
  refine st_move hf rfl rfl (by decide) ?_
  clear hf; intro a ha hf; clear ha
  refine st_extract hf (by decide) rfl rfl rfl ?_
  clear hf; intro a ha hf; clear ha
  refine st_extract hf (by decide) rfl rfl rfl ?_
  clear hf; intro a ha hf; clear ha
  refine st_alloc (cs := [.int .i64 (0 : Int), .int .i64 (0 : Int)]) (zv := .agg #[.int .i64 (0 : Int), .int .i64 (0 : Int)]) hf (by decide) (by kernel_rfl) rfl hp rfl ?_
  clear hf; intro a w v222 hf hp0; clear hp; have hp := hp0; clear hp0
  replace hp : Hp _ _ _ (Res.obj 56 v222 [.int .i64 (0 : Int), .int .i64 (0 : Int)] :: _ :: _ :: _ :: _ :: _ :: _ :: _ :: _ :: _ :: _ :: _ :: _ :: _ :: ow) := hp
  refine st_stO (us := [.int .i64 q220.1.1, .int .i64 q220.1.2]) hf hp (i := 0) rfl rfl rfl rfl rfl (by rfl) (by kernel_rfl) (Nat.le_of_ble_eq_true rfl) ?_
  clear hf; intro a w hf hp0; clear hp; have hp := hp0; clear hp0
  replace hp : Hp _ _ _ (Res.obj 56 v222 [.int .i64 q220.1.1, .int .i64 q220.1.2] :: _ :: _ :: _ :: _ :: _ :: _ :: _ :: _ :: _ :: _ :: _ :: _ :: _ :: ow) := hp
  refine st_assign hf rfl rfl (by decide) ?_
  clear hf; intro a ha hf; clear ha
  refine st_nil hf ?_
  refine th_n ?_
  refine wp_seq ?_
  refine wp_reg ?_
  refine st_fa (o' := 2) hf (by decide) (off := 2) (sz := 2) (by kernel_rfl) (by decide) rfl rfl (hp.ob (i := 4) rfl) rfl ?_
  clear hf; intro a ha hf; clear ha
  refine st_ldOA (m := 2) (us := [.float .f64 bxx2_Z_0, .float .f64 bxx2_Z_1]) hf (by decide) (by kernel_rfl) rfl rfl (hp.ob (i := 4) rfl) rfl rfl ?_
  clear hf; intro a ha hf; clear ha
  obtain ⟨q224, hcall225, h⟩ := bnd h
  refine st_call hf (by decide) Try.func11 rfl rfl rfl rfl rfl (f_foghornlaw03_number_c hp _ _ (show Fl.rep bxx2_Z_0 xx2_Z_0 from hxx2_Z_0) _ _ (show Fl.rep bxx2_Z_1 xx2_Z_1 from hxx2_Z_1) hcall225) ?_
  rintro _ w ⟨v226, v227, rfl, y228, y229, hp0⟩
  clear hp; have hp := hp0; clear hp0
  replace hp : Hp _ _ _ (_ :: _ :: _ :: _ :: _ :: _ :: _ :: _ :: _ :: _ :: _ :: _ :: _ :: _ :: ow) := hp
  refine ⟨_, rfl, ?_⟩
  clear hf; intro a hf
  obtain ⟨q230, hcall231, h⟩ := bnd h
  refine st_call hf (by decide) Try.func49 rfl rfl rfl rfl rfl (f_foghornref03_Whole_c hp _ _ _ (show Fl.rep v226 (q224).1 from y228) (show Fl.rep v227 (q224).2 from y229) hcall231) ?_
  rintro _ w ⟨rfl, hp0⟩
  clear hp; have hp := hp0; clear hp0
  replace hp : Hp _ _ _ (_ :: _ :: _ :: _ :: _ :: _ :: _ :: _ :: _ :: _ :: _ :: _ :: _ :: _ :: ow) := hp
  refine ⟨_, rfl, ?_⟩
  clear hf; intro a hf
  refine st_move hf rfl rfl (by decide) ?_
  clear hf; intro a ha hf; clear ha
  refine st_extract hf (by decide) rfl rfl rfl ?_
  clear hf; intro a ha hf; clear ha
  refine st_extract hf (by decide) rfl rfl rfl ?_
  clear hf; intro a ha hf; clear ha
  refine st_alloc (cs := [.int .i64 (0 : Int), .int .i64 (0 : Int)]) (zv := .agg #[.int .i64 (0 : Int), .int .i64 (0 : Int)]) hf (by decide) (by kernel_rfl) rfl hp rfl ?_
  clear hf; intro a w v232 hf hp0; clear hp; have hp := hp0; clear hp0
  replace hp : Hp _ _ _ (Res.obj 74 v232 [.int .i64 (0 : Int), .int .i64 (0 : Int)] :: _ :: _ :: _ :: _ :: _ :: _ :: _ :: _ :: _ :: _ :: _ :: _ :: _ :: _ :: ow) := hp
  refine st_stO (us := [.int .i64 q230.1.1, .int .i64 q230.1.2]) hf hp (i := 0) rfl rfl rfl rfl rfl (by rfl) (by kernel_rfl) (Nat.le_of_ble_eq_true rfl) ?_
  clear hf; intro a w hf hp0; clear hp; have hp := hp0; clear hp0
  replace hp : Hp _ _ _ (Res.obj 74 v232 [.int .i64 q230.1.1, .int .i64 q230.1.2] :: _ :: _ :: _ :: _ :: _ :: _ :: _ :: _ :: _ :: _ :: _ :: _ :: _ :: _ :: ow) := hp
  refine st_assign hf rfl rfl (by decide) ?_
  clear hf; intro a ha hf; clear ha
  refine st_nil hf ?_
  refine th_n ?_
  refine wp_seq ?_
  obtain ⟨S234, hp235, rd236, up237, bk238⟩ := Hp.lendO hp (i := 1) rfl
  obtain ⟨S239, hp240, rd241, up242, bk243⟩ := Hp.lendO hp235 (i := 0) rfl
  obtain ⟨S244, hp245, rd246, up247, bk248⟩ := Hp.lendO hp240 (i := 2) rfl
  have rl249 := rd246
  have rl250 := ((((rd236.now hp235).mono up242).now hp240).mono up247)
  have rl251 := ((rd241.now hp240).mono up247)
  obtain ⟨z258, hz254, h⟩ := bnd h
  obtain ⟨z271, hz261, h⟩ := bnd h
  obtain ⟨z276, hz272, h⟩ := bnd h
  refine wp_cutN (fun a w => Fr 239 a [(6, .bool z276)] ∧ Hp S w0 w (Res.obj 56 v222 [.int .i64 q220.1.1, .int .i64 q220.1.2] :: Res.obj 74 v232 [.int .i64 q230.1.1, .int .i64 q230.1.2] :: Res.obj 74 v1 [.int .i64 ax0_Re, .int .i64 ax0_Im] :: Res.obj 56 v181 [.int .i64 q179.1.1, .int .i64 q179.1.2] :: Res.obj 74 v185 [.int .i64 q183.1.1, .int .i64 q183.1.2] :: Res.obj 76 v5 [.int .i64 xx2_Depth, .int .u32 xx2_Class, .float .f64 bxx2_Z_0, .float .f64 bxx2_Z_1] :: Res.obj 56 v75 [.int .i64 q73.1.1, .int .i64 q73.1.2] :: Res.obj 74 v81 [.int .i64 q79.1.1, .int .i64 q79.1.2] :: Res.obj 56 v77 [.int .i64 q73.2.1.1, .int .i64 q73.2.1.2] :: Res.obj 74 v83 [.int .i64 q79.2.1.1, .int .i64 q79.2.1.2] :: Res.obj 56 v103 [.int .i64 q101.1.1, .int .i64 q101.1.2] :: Res.obj 74 v107 [.int .i64 q105.1.1, .int .i64 q105.1.2] :: Res.obj 74 v3 [.int .i64 bx1_Re, .int .i64 bx1_Im] :: Res.obj 56 v25 [.int .i64 q23.1.1, .int .i64 q23.1.2] :: Res.obj 74 v29 [.int .i64 q27.1.1, .int .i64 q27.1.2] :: ow)) ?_ ?_
  ·
   have hp := hp245.same (Same.drew w)
   rcases Bool.eq_false_or_eq_true (q210.1 == q212.1) with hb253 | hb253
   ·
    rcases Bool.eq_false_or_eq_true ((q210.1 == q212.1) && (q210.2 == q212.2)) with hb255 | hb255
    ·
     replace hz254 := ifT hz254 hb255
     obtain ⟨q256, hcall257, hz254⟩ := bnd hz254
     replace hz254 := Option.some.inj hz254
     rcases Bool.eq_false_or_eq_true z258 with hb260 | hb260
     ·
      rcases Bool.eq_false_or_eq_true (z258 && (q220.2 == q230.2)) with hb262 | hb262
      ·
       replace hz261 := ifT hz261 hb262
       obtain ⟨q263, hcall264, hz261⟩ := bnd hz261
       obtain ⟨q265, hcall266, hz261⟩ := bnd hz261
       replace hz261 := Option.some.inj hz261
       rcases Bool.eq_false_or_eq_true z271 with hb273 | hb273
       ·
        replace hz272 := ifT hz272 hb273
        obtain ⟨q274, hcall275, hz272⟩ := bnd hz272
        replace hz272 := Option.some.inj hz272
        refine dr_begin' _ (fun w' => ∃ l, Hp S244 w w' l) [] (by kernel_rfl) ?_
        refine dr_takeK 0 (.int .i64 q210.1) rfl hf rfl (fun w ⟨_, hp⟩ => ?_) ⟨_, hp⟩ ?_
        · exact st_move hf rfl rfl (by decide) tk
        clear hf; intro a hf
        refine dr_takeK 1 (.int .i64 q212.1) rfl hf rfl (fun w ⟨_, hp⟩ => ?_) ⟨_, hp⟩ ?_
        · exact st_move hf rfl rfl (by decide) tk
        clear hf; intro a hf
        refine dr_takeK 2 (.bool (q210.1 == q212.1)) rfl hf rfl (fun w ⟨_, hp⟩ => ?_) ⟨_, hp⟩ ?_
        · exact st_ieql hf (by decide) rfl rfl rfl tk
        clear hf; intro a hf
        refine dr_takeK 3 (.bool (q210.1 == q212.1)) rfl hf rfl (fun w ⟨_, hp⟩ => ?_) ⟨_, hp⟩ ?_
        · exact st_move hf rfl rfl (by decide) tk
        clear hf; intro a hf
        refine dr_takeK 4 (.int .i64 q210.2) rfl hf (wantY hf rfl rfl hb253) (fun w ⟨_, hp⟩ => ?_) ⟨_, hp⟩ ?_
        · exact st_move hf (wantY hf rfl rfl hb253) rfl (by decide) tk
        clear hf; intro a hf
        refine dr_takeK 5 (.int .i64 q212.2) rfl hf (wantY hf rfl rfl hb253) (fun w ⟨_, hp⟩ => ?_) ⟨_, hp⟩ ?_
        · exact st_move hf (wantY hf rfl rfl hb253) rfl (by decide) tk
        clear hf; intro a hf
        refine dr_takeK 6 (.bool (q210.2 == q212.2)) rfl hf (wantY hf rfl rfl hb253) (fun w ⟨_, hp⟩ => ?_) ⟨_, hp⟩ ?_
        · exact st_ieql hf (by decide) (wantY hf rfl rfl hb253) rfl rfl tk
        clear hf; intro a hf
        refine dr_takeK 7 (.bool ((q210.1 == q212.1) && (q210.2 == q212.2))) rfl hf rfl (fun w ⟨_, hp⟩ => ?_) ⟨_, hp⟩ ?_
        · exact st_pick (v := .bool ((q210.1 == q212.1) && (q210.2 == q212.2))) hf rfl rfl (fun _ => by rw [show ((q210.1 == q212.1) && (q210.2 == q212.2)) = (q210.2 == q212.2) from by rw [hb253]; rfl]; rfl) (fun hb' => absurd (hb253.symm.trans hb') (by decide)) (by decide) tk
        clear hf; intro a hf
        refine dr_takeK 8 (.bool ((q210.1 == q212.1) && (q210.2 == q212.2))) rfl hf rfl (fun w ⟨_, hp⟩ => ?_) ⟨_, hp⟩ ?_
        · exact st_move hf rfl rfl (by decide) tk
        clear hf; intro a hf
        refine dr_takeK 9 (.agg #[.int .i64 q220.1.1, .int .i64 q220.1.2]) rfl hf (wantY hf rfl rfl hb255) (fun w ⟨_, hp⟩ => ?_) ⟨_, hp⟩ ?_
        · exact st_ldOA (m := 2) (us := [.int .i64 q220.1.1, .int .i64 q220.1.2]) hf (by decide) (by kernel_rfl) (wantY hf rfl rfl hb255) rfl (rl250.ob hp) rfl rfl tk
        clear hf; intro a hf
        refine dr_takeK 11 (.agg #[.int .i64 q230.1.1, .int .i64 q230.1.2]) rfl hf (wantY hf rfl rfl hb255) (fun w ⟨_, hp⟩ => ?_) ⟨_, hp⟩ ?_
        · exact st_ldOA (m := 2) (us := [.int .i64 q230.1.1, .int .i64 q230.1.2]) hf (by decide) (by kernel_rfl) (wantY hf rfl rfl hb255) rfl (rl251.ob hp) rfl rfl tk
        clear hf; intro a hf
        refine dr_one 10 rfl (by kernel_rfl) ?_
        refine st_call hf (by decide) Try.func43 rfl rfl (wantY hf rfl rfl hb255) rfl rfl (f_foghornlaw03_ref_c hp _ _ hcall257) ?_
        rintro _ w ⟨rfl, hp0⟩
        clear hp; have hp := hp0; clear hp0
        replace hp : Hp _ _ _ (_ :: _ :: _ :: _ :: _ :: _ :: _ :: _ :: _ :: _ :: _ :: _ :: ow) := hp
        refine ⟨_, rfl, ?_⟩
        clear hf; intro a hf
        refine nx hf (fun _ _ => ⟨_, hp⟩) ?_
        refine dr_takeK 12 (.bool ((q256.1 == q230.1.1) && ((q256.2 == q230.1.2) && true))) rfl hf (wantY hf rfl rfl hb255) (fun w ⟨_, hp⟩ => ?_) ⟨_, hp⟩ ?_
        · exact st_eqA (xs := [.int .i64 q256.1, .int .i64 q256.2]) (ys := [.int .i64 q230.1.1, .int .i64 q230.1.2]) hf (by decide) (by kernel_rfl) (by kernel_rfl) (by kernel_rfl) (by kernel_rfl) (wantY hf rfl rfl hb255) rfl rfl (b := ((q256.1 == q230.1.1) && ((q256.2 == q230.1.2) && true))) rfl tk
        clear hf; intro a hf
        refine dr_takeK 13 (.bool z258) rfl hf rfl (fun w ⟨_, hp⟩ => ?_) ⟨_, hp⟩ ?_
        · exact st_pick (v := .bool z258) hf rfl rfl (fun _ => by rw [← hz254]; rfl) (fun hb' => absurd (hb255.symm.trans hb') (by decide)) (by decide) tk
        clear hf; intro a hf
        refine dr_takeK 14 (.bool z258) rfl hf rfl (fun w ⟨_, hp⟩ => ?_) ⟨_, hp⟩ ?_
        · exact st_move hf rfl rfl (by decide) tk
        clear hf; intro a hf
        refine dr_takeK 15 (.int .i64 q220.2) rfl hf (wantY hf rfl rfl hb260) (fun w ⟨_, hp⟩ => ?_) ⟨_, hp⟩ ?_
        · exact st_move hf (wantY hf rfl rfl hb260) rfl (by decide) tk
        clear hf; intro a hf
        refine dr_takeK 16 (.int .i64 q230.2) rfl hf (wantY hf rfl rfl hb260) (fun w ⟨_, hp⟩ => ?_) ⟨_, hp⟩ ?_
        · exact st_move hf (wantY hf rfl rfl hb260) rfl (by decide) tk
        clear hf; intro a hf
        refine dr_takeK 17 (.bool (q220.2 == q230.2)) rfl hf (wantY hf rfl rfl hb260) (fun w ⟨_, hp⟩ => ?_) ⟨_, hp⟩ ?_
        · exact st_ieql hf (by decide) (wantY hf rfl rfl hb260) rfl rfl tk
        clear hf; intro a hf
        refine dr_takeK 18 (.bool (z258 && (q220.2 == q230.2))) rfl hf rfl (fun w ⟨_, hp⟩ => ?_) ⟨_, hp⟩ ?_
        · exact st_pick (v := .bool (z258 && (q220.2 == q230.2))) hf rfl rfl (fun _ => by rw [show (z258 && (q220.2 == q230.2)) = (q220.2 == q230.2) from by rw [hb260]; rfl]; rfl) (fun hb' => absurd (hb260.symm.trans hb') (by decide)) (by decide) tk
        clear hf; intro a hf
        refine dr_takeK 19 (.bool (z258 && (q220.2 == q230.2))) rfl hf rfl (fun w ⟨_, hp⟩ => ?_) ⟨_, hp⟩ ?_
        · exact st_move hf rfl rfl (by decide) tk
        clear hf; intro a hf
        refine dr_takeK 20 (.agg #[.int .i64 ax0_Re, .int .i64 ax0_Im]) rfl hf (wantY hf rfl rfl hb262) (fun w ⟨_, hp⟩ => ?_) ⟨_, hp⟩ ?_
        · exact st_ldOA (m := 2) (us := [.int .i64 ax0_Re, .int .i64 ax0_Im]) hf (by decide) (by kernel_rfl) (wantY hf rfl rfl hb262) rfl (rl249.ob hp) rfl rfl tk
        clear hf; intro a hf
        refine dr_takeK 23 (optr v1 0) rfl hf (wantY hf rfl rfl hb262) (fun w ⟨_, hp⟩ => ?_) ⟨_, hp⟩ ?_
        · exact st_fa (o' := 0) hf (by decide) (off := 0) (sz := 1) (by kernel_rfl) (by decide) (wantY hf rfl rfl hb262) rfl (rl249.ob hp) rfl tk
        clear hf; intro a hf
        refine dr_takeK 24 (.int .i64 ax0_Re) rfl hf (wantY hf rfl rfl hb262) (fun w ⟨_, hp⟩ => ?_) ⟨_, hp⟩ ?_
        · exact st_ldO (u := .int .i64 ax0_Re) hf (by decide) pl2 (wantY hf rfl rfl hb262) rfl (rl249.ob hp) rfl tk
        clear hf; intro a hf
        refine dr_takeK 25 (.float .f64 (FloatKind.f64.nearest ax0_Re)) rfl hf (wantY hf rfl rfl hb262) (fun w ⟨_, hp⟩ => ?_) ⟨_, hp⟩ ?_
        · exact st_conv_if Try.underlying2 Try.underlying22 hf (by decide) (wantY hf rfl rfl hb262) rfl tk
        clear hf; intro a hf
        refine dr_takeK 26 (optr v1 1) rfl hf (wantY hf rfl rfl hb262) (fun w ⟨_, hp⟩ => ?_) ⟨_, hp⟩ ?_
        · exact st_fa (o' := 1) hf (by decide) (off := 1) (sz := 1) (by kernel_rfl) (by decide) (wantY hf rfl rfl hb262) rfl (rl249.ob hp) rfl tk
        clear hf; intro a hf
        refine dr_takeK 27 (.int .i64 ax0_Im) rfl hf (wantY hf rfl rfl hb262) (fun w ⟨_, hp⟩ => ?_) ⟨_, hp⟩ ?_
        · exact st_ldO (u := .int .i64 ax0_Im) hf (by decide) pl2 (wantY hf rfl rfl hb262) rfl (rl249.ob hp) rfl tk
        clear hf; intro a hf
        refine dr_takeK 28 (.float .f64 (FloatKind.f64.nearest ax0_Im)) rfl hf (wantY hf rfl rfl hb262) (fun w ⟨_, hp⟩ => ?_) ⟨_, hp⟩ ?_
        · exact st_conv_if Try.underlying2 Try.underlying22 hf (by decide) (wantY hf rfl rfl hb262) rfl tk
        clear hf; intro a hf
        refine dr_takeK 29 (.complex .f64 (FloatKind.f64.nearest ax0_Re) (FloatKind.f64.nearest ax0_Im)) rfl hf (wantY hf rfl rfl hb262) (fun w ⟨_, hp⟩ => ?_) ⟨_, hp⟩ ?_
        · exact st_complex hf (by decide) (wantY hf rfl rfl hb262) rfl rfl tk
        clear hf; intro a hf
        refine dr_one 21 rfl (by kernel_rfl) ?_
        refine st_call hf (by decide) Try.func40 rfl rfl (wantY hf rfl rfl hb262) rfl rfl (f_foghornlaw03_own_c hp _ _ hcall264) ?_
        rintro _ w ⟨rfl, hp0⟩
        clear hp; have hp := hp0; clear hp0
        replace hp : Hp _ _ _ (_ :: _ :: _ :: _ :: _ :: _ :: _ :: _ :: _ :: _ :: _ :: _ :: ow) := hp
        refine ⟨_, rfl, ?_⟩
        clear hf; intro a hf
        refine nx hf (fun _ _ => ⟨_, hp⟩) ?_
        refine dr_one 22 rfl (by kernel_rfl) ?_
        refine st_call hf (by decide) Try.func50 rfl rfl (wantY hf rfl rfl hb262) rfl rfl (f_plane_Gauss_Number_c hp _ _ hcall266) ?_
        rintro _ w ⟨v267, v268, rfl, y269, y270, hp0⟩
        clear hp; have hp := hp0; clear hp0
        replace hp : Hp _ _ _ (_ :: _ :: _ :: _ :: _ :: _ :: _ :: _ :: _ :: _ :: _ :: _ :: ow) := hp
        refine ⟨_, rfl, ?_⟩
        clear hf; intro a hf
        refine nx hf (fun _ _ => ⟨_, hp⟩) ?_
        refine dr_takeK 30 (.bool (ceq q265 ((fofi ax0_Re), (fofi ax0_Im)))) rfl hf (wantY hf rfl rfl hb262) (fun w ⟨_, hp⟩ => ?_) ⟨_, hp⟩ ?_
        · exact st_ccmp (r_ceq (x := q265) (y := ((fofi ax0_Re), (fofi ax0_Im))) y269 y270 rfl rfl) hf (by decide) (wantY hf rfl rfl hb262) rfl rfl tk
        clear hf; intro a hf
        refine dr_takeK 31 (.bool z271) rfl hf rfl (fun w ⟨_, hp⟩ => ?_) ⟨_, hp⟩ ?_
        · exact st_pick (v := .bool z271) hf rfl rfl (fun _ => by rw [← hz261]; rfl) (fun hb' => absurd (hb262.symm.trans hb') (by decide)) (by decide) tk
        clear hf; intro a hf
        refine dr_takeK 32 (.bool z271) rfl hf rfl (fun w ⟨_, hp⟩ => ?_) ⟨_, hp⟩ ?_
        · exact st_move hf rfl rfl (by decide) tk
        clear hf; intro a hf
        refine dr_one 33 rfl (by kernel_rfl) ?_
        refine st_call hf (by decide) Try.func24 rfl rfl (wantY hf rfl rfl hb273) rfl rfl (f_foghornlaw03_awake_c hp  hcall275) ?_
        rintro _ w ⟨rfl, hp0⟩
        clear hp; have hp := hp0; clear hp0
        replace hp : Hp _ _ _ (_ :: _ :: _ :: _ :: _ :: _ :: _ :: _ :: _ :: _ :: _ :: _ :: ow) := hp
        refine ⟨_, rfl, ?_⟩
        clear hf; intro a hf
        refine nx hf (fun _ _ => ⟨_, hp⟩) ?_
        refine dr_takeK 34 (.bool z276) rfl hf rfl (fun w ⟨_, hp⟩ => ?_) ⟨_, hp⟩ ?_
        · exact st_pick (v := .bool z276) hf rfl rfl (fun _ => by rw [← hz272]; rfl) (fun hb' => absurd (hb273.symm.trans hb') (by decide)) (by decide) tk
        clear hf; intro a hf
        refine dr_takeK 35 (.bool z276) rfl hf rfl (fun w ⟨_, hp⟩ => ?_) ⟨_, hp⟩ ?_
        · exact st_assign hf rfl rfl (by decide) tk
        clear hf; intro a hf
        refine dr_end (by kernel_rfl) ?_ _
        have hp := bk248 _ _ hp
        have hp := bk243 _ _ hp
        have hp := bk238 _ _ hp
        exact ⟨hf.sub ⟨rfl, trivial⟩, hp⟩
       skip
       replace hz272 := ifF hz272 hb273
       replace hz272 := Option.some.inj hz272
       refine dr_begin' _ (fun w' => ∃ l, Hp S244 w w' l) [] (by kernel_rfl) ?_
       refine dr_takeK 0 (.int .i64 q210.1) rfl hf rfl (fun w ⟨_, hp⟩ => ?_) ⟨_, hp⟩ ?_
       · exact st_move hf rfl rfl (by decide) tk
       clear hf; intro a hf
       refine dr_takeK 1 (.int .i64 q212.1) rfl hf rfl (fun w ⟨_, hp⟩ => ?_) ⟨_, hp⟩ ?_
       · exact st_move hf rfl rfl (by decide) tk
       clear hf; intro a hf
       refine dr_takeK 2 (.bool (q210.1 == q212.1)) rfl hf rfl (fun w ⟨_, hp⟩ => ?_) ⟨_, hp⟩ ?_
       · exact st_ieql hf (by decide) rfl rfl rfl tk
       clear hf; intro a hf
       refine dr_takeK 3 (.bool (q210.1 == q212.1)) rfl hf rfl (fun w ⟨_, hp⟩ => ?_) ⟨_, hp⟩ ?_
       · exact st_move hf rfl rfl (by decide) tk
       clear hf; intro a hf
       refine dr_takeK 4 (.int .i64 q210.2) rfl hf (wantY hf rfl rfl hb253) (fun w ⟨_, hp⟩ => ?_) ⟨_, hp⟩ ?_
       · exact st_move hf (wantY hf rfl rfl hb253) rfl (by decide) tk
       clear hf; intro a hf
       refine dr_takeK 5 (.int .i64 q212.2) rfl hf (wantY hf rfl rfl hb253) (fun w ⟨_, hp⟩ => ?_) ⟨_, hp⟩ ?_
       · exact st_move hf (wantY hf rfl rfl hb253) rfl (by decide) tk
       clear hf; intro a hf
       refine dr_takeK 6 (.bool (q210.2 == q212.2)) rfl hf (wantY hf rfl rfl hb253) (fun w ⟨_, hp⟩ => ?_) ⟨_, hp⟩ ?_
       · exact st_ieql hf (by decide) (wantY hf rfl rfl hb253) rfl rfl tk
       clear hf; intro a hf
       refine dr_takeK 7 (.bool ((q210.1 == q212.1) && (q210.2 == q212.2))) rfl hf rfl (fun w ⟨_, hp⟩ => ?_) ⟨_, hp⟩ ?_
       · exact st_pick (v := .bool ((q210.1 == q212.1) && (q210.2 == q212.2))) hf rfl rfl (fun _ => by rw [show ((q210.1 == q212.1) && (q210.2 == q212.2)) = (q210.2 == q212.2) from by rw [hb253]; rfl]; rfl) (fun hb' => absurd (hb253.symm.trans hb') (by decide)) (by decide) tk
       clear hf; intro a hf
       refine dr_takeK 8 (.bool ((q210.1 == q212.1) && (q210.2 == q212.2))) rfl hf rfl (fun w ⟨_, hp⟩ => ?_) ⟨_, hp⟩ ?_
       · exact st_move hf rfl rfl (by decide) tk
       clear hf; intro a hf
       refine dr_takeK 9 (.agg #[.int .i64 q220.1.1, .int .i64 q220.1.2]) rfl hf (wantY hf rfl rfl hb255) (fun w ⟨_, hp⟩ => ?_) ⟨_, hp⟩ ?_
       · exact st_ldOA (m := 2) (us := [.int .i64 q220.1.1, .int .i64 q220.1.2]) hf (by decide) (by kernel_rfl) (wantY hf rfl rfl hb255) rfl (rl250.ob hp) rfl rfl tk
       clear hf; intro a hf
       refine dr_takeK 11 (.agg #[.int .i64 q230.1.1, .int .i64 q230.1.2]) rfl hf (wantY hf rfl rfl hb255) (fun w ⟨_, hp⟩ => ?_) ⟨_, hp⟩ ?_
       · exact st_ldOA (m := 2) (us := [.int .i64 q230.1.1, .int .i64 q230.1.2]) hf (by decide) (by kernel_rfl) (wantY hf rfl rfl hb255) rfl (rl251.ob hp) rfl rfl tk
       clear hf; intro a hf
       refine dr_one 10 rfl (by kernel_rfl) ?_
       refine st_call hf (by decide) Try.func43 rfl rfl (wantY hf rfl rfl hb255) rfl rfl (f_foghornlaw03_ref_c hp _ _ hcall257) ?_
       rintro _ w ⟨rfl, hp0⟩
       clear hp; have hp := hp0; clear hp0
       replace hp : Hp _ _ _ (_ :: _ :: _ :: _ :: _ :: _ :: _ :: _ :: _ :: _ :: _ :: _ :: ow) := hp
       refine ⟨_, rfl, ?_⟩
       clear hf; intro a hf
       refine nx hf (fun _ _ => ⟨_, hp⟩) ?_
       refine dr_takeK 12 (.bool ((q256.1 == q230.1.1) && ((q256.2 == q230.1.2) && true))) rfl hf (wantY hf rfl rfl hb255) (fun w ⟨_, hp⟩ => ?_) ⟨_, hp⟩ ?_
       · exact st_eqA (xs := [.int .i64 q256.1, .int .i64 q256.2]) (ys := [.int .i64 q230.1.1, .int .i64 q230.1.2]) hf (by decide) (by kernel_rfl) (by kernel_rfl) (by kernel_rfl) (by kernel_rfl) (wantY hf rfl rfl hb255) rfl rfl (b := ((q256.1 == q230.1.1) && ((q256.2 == q230.1.2) && true))) rfl tk
       clear hf; intro a hf
       refine dr_takeK 13 (.bool z258) rfl hf rfl (fun w ⟨_, hp⟩ => ?_) ⟨_, hp⟩ ?_
       · exact st_pick (v := .bool z258) hf rfl rfl (fun _ => by rw [← hz254]; rfl) (fun hb' => absurd (hb255.symm.trans hb') (by decide)) (by decide) tk
       clear hf; intro a hf
       refine dr_takeK 14 (.bool z258) rfl hf rfl (fun w ⟨_, hp⟩ => ?_) ⟨_, hp⟩ ?_
       · exact st_move hf rfl rfl (by decide) tk
       clear hf; intro a hf
       refine dr_takeK 15 (.int .i64 q220.2) rfl hf (wantY hf rfl rfl hb260) (fun w ⟨_, hp⟩ => ?_) ⟨_, hp⟩ ?_
       · exact st_move hf (wantY hf rfl rfl hb260) rfl (by decide) tk
       clear hf; intro a hf
       refine dr_takeK 16 (.int .i64 q230.2) rfl hf (wantY hf rfl rfl hb260) (fun w ⟨_, hp⟩ => ?_) ⟨_, hp⟩ ?_
       · exact st_move hf (wantY hf rfl rfl hb260) rfl (by decide) tk
       clear hf; intro a hf
       refine dr_takeK 17 (.bool (q220.2 == q230.2)) rfl hf (wantY hf rfl rfl hb260) (fun w ⟨_, hp⟩ => ?_) ⟨_, hp⟩ ?_
       · exact st_ieql hf (by decide) (wantY hf rfl rfl hb260) rfl rfl tk
       clear hf; intro a hf
       refine dr_takeK 18 (.bool (z258 && (q220.2 == q230.2))) rfl hf rfl (fun w ⟨_, hp⟩ => ?_) ⟨_, hp⟩ ?_
       · exact st_pick (v := .bool (z258 && (q220.2 == q230.2))) hf rfl rfl (fun _ => by rw [show (z258 && (q220.2 == q230.2)) = (q220.2 == q230.2) from by rw [hb260]; rfl]; rfl) (fun hb' => absurd (hb260.symm.trans hb') (by decide)) (by decide) tk
       clear hf; intro a hf
       refine dr_takeK 19 (.bool (z258 && (q220.2 == q230.2))) rfl hf rfl (fun w ⟨_, hp⟩ => ?_) ⟨_, hp⟩ ?_
       · exact st_move hf rfl rfl (by decide) tk
       clear hf; intro a hf
       refine dr_takeK 20 (.agg #[.int .i64 ax0_Re, .int .i64 ax0_Im]) rfl hf (wantY hf rfl rfl hb262) (fun w ⟨_, hp⟩ => ?_) ⟨_, hp⟩ ?_
       · exact st_ldOA (m := 2) (us := [.int .i64 ax0_Re, .int .i64 ax0_Im]) hf (by decide) (by kernel_rfl) (wantY hf rfl rfl hb262) rfl (rl249.ob hp) rfl rfl tk
       clear hf; intro a hf
       refine dr_takeK 23 (optr v1 0) rfl hf (wantY hf rfl rfl hb262) (fun w ⟨_, hp⟩ => ?_) ⟨_, hp⟩ ?_
       · exact st_fa (o' := 0) hf (by decide) (off := 0) (sz := 1) (by kernel_rfl) (by decide) (wantY hf rfl rfl hb262) rfl (rl249.ob hp) rfl tk
       clear hf; intro a hf
       refine dr_takeK 24 (.int .i64 ax0_Re) rfl hf (wantY hf rfl rfl hb262) (fun w ⟨_, hp⟩ => ?_) ⟨_, hp⟩ ?_
       · exact st_ldO (u := .int .i64 ax0_Re) hf (by decide) pl2 (wantY hf rfl rfl hb262) rfl (rl249.ob hp) rfl tk
       clear hf; intro a hf
       refine dr_takeK 25 (.float .f64 (FloatKind.f64.nearest ax0_Re)) rfl hf (wantY hf rfl rfl hb262) (fun w ⟨_, hp⟩ => ?_) ⟨_, hp⟩ ?_
       · exact st_conv_if Try.underlying2 Try.underlying22 hf (by decide) (wantY hf rfl rfl hb262) rfl tk
       clear hf; intro a hf
       refine dr_takeK 26 (optr v1 1) rfl hf (wantY hf rfl rfl hb262) (fun w ⟨_, hp⟩ => ?_) ⟨_, hp⟩ ?_
       · exact st_fa (o' := 1) hf (by decide) (off := 1) (sz := 1) (by kernel_rfl) (by decide) (wantY hf rfl rfl hb262) rfl (rl249.ob hp) rfl tk
       clear hf; intro a hf
       refine dr_takeK 27 (.int .i64 ax0_Im) rfl hf (wantY hf rfl rfl hb262) (fun w ⟨_, hp⟩ => ?_) ⟨_, hp⟩ ?_
       · exact st_ldO (u := .int .i64 ax0_Im) hf (by decide) pl2 (wantY hf rfl rfl hb262) rfl (rl249.ob hp) rfl tk
       clear hf; intro a hf
       refine dr_takeK 28 (.float .f64 (FloatKind.f64.nearest ax0_Im)) rfl hf (wantY hf rfl rfl hb262) (fun w ⟨_, hp⟩ => ?_) ⟨_, hp⟩ ?_
       · exact st_conv_if Try.underlying2 Try.underlying22 hf (by decide) (wantY hf rfl rfl hb262) rfl tk
       clear hf; intro a hf
       refine dr_takeK 29 (.complex .f64 (FloatKind.f64.nearest ax0_Re) (FloatKind.f64.nearest ax0_Im)) rfl hf (wantY hf rfl rfl hb262) (fun w ⟨_, hp⟩ => ?_) ⟨_, hp⟩ ?_
       · exact st_complex hf (by decide) (wantY hf rfl rfl hb262) rfl rfl tk
       clear hf; intro a hf
       refine dr_one 21 rfl (by kernel_rfl) ?_
       refine st_call hf (by decide) Try.func40 rfl rfl (wantY hf rfl rfl hb262) rfl rfl (f_foghornlaw03_own_c hp _ _ hcall264) ?_
       rintro _ w ⟨rfl, hp0⟩
       clear hp; have hp := hp0; clear hp0
       replace hp : Hp _ _ _ (_ :: _ :: _ :: _ :: _ :: _ :: _ :: _ :: _ :: _ :: _ :: _ :: ow) := hp
       refine ⟨_, rfl, ?_⟩
       clear hf; intro a hf
       refine nx hf (fun _ _ => ⟨_, hp⟩) ?_
       refine dr_one 22 rfl (by kernel_rfl) ?_
       refine st_call hf (by decide) Try.func50 rfl rfl (wantY hf rfl rfl hb262) rfl rfl (f_plane_Gauss_Number_c hp _ _ hcall266) ?_
       rintro _ w ⟨v267, v268, rfl, y269, y270, hp0⟩
       clear hp; have hp := hp0; clear hp0
       replace hp : Hp _ _ _ (_ :: _ :: _ :: _ :: _ :: _ :: _ :: _ :: _ :: _ :: _ :: _ :: ow) := hp
       refine ⟨_, rfl, ?_⟩
       clear hf; intro a hf
       refine nx hf (fun _ _ => ⟨_, hp⟩) ?_
       refine dr_takeK 30 (.bool (ceq q265 ((fofi ax0_Re), (fofi ax0_Im)))) rfl hf (wantY hf rfl rfl hb262) (fun w ⟨_, hp⟩ => ?_) ⟨_, hp⟩ ?_
       · exact st_ccmp (r_ceq (x := q265) (y := ((fofi ax0_Re), (fofi ax0_Im))) y269 y270 rfl rfl) hf (by decide) (wantY hf rfl rfl hb262) rfl rfl tk
       clear hf; intro a hf
       refine dr_takeK 31 (.bool z271) rfl hf rfl (fun w ⟨_, hp⟩ => ?_) ⟨_, hp⟩ ?_
       · exact st_pick (v := .bool z271) hf rfl rfl (fun _ => by rw [← hz261]; rfl) (fun hb' => absurd (hb262.symm.trans hb') (by decide)) (by decide) tk
       clear hf; intro a hf
       refine dr_takeK 32 (.bool z271) rfl hf rfl (fun w ⟨_, hp⟩ => ?_) ⟨_, hp⟩ ?_
       · exact st_move hf rfl rfl (by decide) tk
       clear hf; intro a hf
       refine dr_outK 33 rfl hf rfl (wantN hf rfl rfl hb273) ⟨_, hp⟩ ?_
       clear hf; intro a hf
       refine dr_takeK 34 (.bool z276) rfl hf rfl (fun w ⟨_, hp⟩ => ?_) ⟨_, hp⟩ ?_
       · exact st_pick (v := .bool z276) hf rfl rfl (fun hb' => absurd (hb273.symm.trans hb') (by decide)) (fun _ => by rw [← hz272]; rfl) (by decide) tk
       clear hf; intro a hf
       refine dr_takeK 35 (.bool z276) rfl hf rfl (fun w ⟨_, hp⟩ => ?_) ⟨_, hp⟩ ?_
       · exact st_assign hf rfl rfl (by decide) tk
       clear hf; intro a hf
       refine dr_end (by kernel_rfl) ?_ _
       have hp := bk248 _ _ hp
       have hp := bk243 _ _ hp
       have hp := bk238 _ _ hp
       exact ⟨hf.sub ⟨rfl, trivial⟩, hp⟩
      skip
      replace hz261 := ifF hz261 hb262
      replace hz261 := Option.some.inj hz261
      have hb273 : z271 = false := hz261.symm
      skip
      replace hz272 := ifF hz272 hb273
      replace hz272 := Option.some.inj hz272
      refine dr_begin' _ (fun w' => ∃ l, Hp S244 w w' l) [] (by kernel_rfl) ?_
      refine dr_takeK 0 (.int .i64 q210.1) rfl hf rfl (fun w ⟨_, hp⟩ => ?_) ⟨_, hp⟩ ?_
      · exact st_move hf rfl rfl (by decide) tk
      clear hf; intro a hf
      refine dr_takeK 1 (.int .i64 q212.1) rfl hf rfl (fun w ⟨_, hp⟩ => ?_) ⟨_, hp⟩ ?_
      · exact st_move hf rfl rfl (by decide) tk
      clear hf; intro a hf
      refine dr_takeK 2 (.bool (q210.1 == q212.1)) rfl hf rfl (fun w ⟨_, hp⟩ => ?_) ⟨_, hp⟩ ?_
      · exact st_ieql hf (by decide) rfl rfl rfl tk
      clear hf; intro a hf
      refine dr_takeK 3 (.bool (q210.1 == q212.1)) rfl hf rfl (fun w ⟨_, hp⟩ => ?_) ⟨_, hp⟩ ?_
      · exact st_move hf rfl rfl (by decide) tk
      clear hf; intro a hf
      refine dr_takeK 4 (.int .i64 q210.2) rfl hf (wantY hf rfl rfl hb253) (fun w ⟨_, hp⟩ => ?_) ⟨_, hp⟩ ?_
      · exact st_move hf (wantY hf rfl rfl hb253) rfl (by decide) tk
      clear hf; intro a hf
      refine dr_takeK 5 (.int .i64 q212.2) rfl hf (wantY hf rfl rfl hb253) (fun w ⟨_, hp⟩ => ?_) ⟨_, hp⟩ ?_
      · exact st_move hf (wantY hf rfl rfl hb253) rfl (by decide) tk
      clear hf; intro a hf
      refine dr_takeK 6 (.bool (q210.2 == q212.2)) rfl hf (wantY hf rfl rfl hb253) (fun w ⟨_, hp⟩ => ?_) ⟨_, hp⟩ ?_
      · exact st_ieql hf (by decide) (wantY hf rfl rfl hb253) rfl rfl tk
      clear hf; intro a hf
      refine dr_takeK 7 (.bool ((q210.1 == q212.1) && (q210.2 == q212.2))) rfl hf rfl (fun w ⟨_, hp⟩ => ?_) ⟨_, hp⟩ ?_
      · exact st_pick (v := .bool ((q210.1 == q212.1) && (q210.2 == q212.2))) hf rfl rfl (fun _ => by rw [show ((q210.1 == q212.1) && (q210.2 == q212.2)) = (q210.2 == q212.2) from by rw [hb253]; rfl]; rfl) (fun hb' => absurd (hb253.symm.trans hb') (by decide)) (by decide) tk
      clear hf; intro a hf
      refine dr_takeK 8 (.bool ((q210.1 == q212.1) && (q210.2 == q212.2))) rfl hf rfl (fun w ⟨_, hp⟩ => ?_) ⟨_, hp⟩ ?_
      · exact st_move hf rfl rfl (by decide) tk
      clear hf; intro a hf
      refine dr_takeK 9 (.agg #[.int .i64 q220.1.1, .int .i64 q220.1.2]) rfl hf (wantY hf rfl rfl hb255) (fun w ⟨_, hp⟩ => ?_) ⟨_, hp⟩ ?_
      · exact st_ldOA (m := 2) (us := [.int .i64 q220.1.1, .int .i64 q220.1.2]) hf (by decide) (by kernel_rfl) (wantY hf rfl rfl hb255) rfl (rl250.ob hp) rfl rfl tk
      clear hf; intro a hf
      refine dr_takeK 11 (.agg #[.int .i64 q230.1.1, .int .i64 q230.1.2]) rfl hf (wantY hf rfl rfl hb255) (fun w ⟨_, hp⟩ => ?_) ⟨_, hp⟩ ?_
      · exact st_ldOA (m := 2) (us := [.int .i64 q230.1.1, .int .i64 q230.1.2]) hf (by decide) (by kernel_rfl) (wantY hf rfl rfl hb255) rfl (rl251.ob hp) rfl rfl tk
      clear hf; intro a hf
      refine dr_one 10 rfl (by kernel_rfl) ?_
      refine st_call hf (by decide) Try.func43 rfl rfl (wantY hf rfl rfl hb255) rfl rfl (f_foghornlaw03_ref_c hp _ _ hcall257) ?_
      rintro _ w ⟨rfl, hp0⟩
      clear hp; have hp := hp0; clear hp0
      replace hp : Hp _ _ _ (_ :: _ :: _ :: _ :: _ :: _ :: _ :: _ :: _ :: _ :: _ :: _ :: ow) := hp
      refine ⟨_, rfl, ?_⟩
      clear hf; intro a hf
      refine nx hf (fun _ _ => ⟨_, hp⟩) ?_
      refine dr_takeK 12 (.bool ((q256.1 == q230.1.1) && ((q256.2 == q230.1.2) && true))) rfl hf (wantY hf rfl rfl hb255) (fun w ⟨_, hp⟩ => ?_) ⟨_, hp⟩ ?_
      · exact st_eqA (xs := [.int .i64 q256.1, .int .i64 q256.2]) (ys := [.int .i64 q230.1.1, .int .i64 q230.1.2]) hf (by decide) (by kernel_rfl) (by kernel_rfl) (by kernel_rfl) (by kernel_rfl) (wantY hf rfl rfl hb255) rfl rfl (b := ((q256.1 == q230.1.1) && ((q256.2 == q230.1.2) && true))) rfl tk
      clear hf; intro a hf
      refine dr_takeK 13 (.bool z258) rfl hf rfl (fun w ⟨_, hp⟩ => ?_) ⟨_, hp⟩ ?_
      · exact st_pick (v := .bool z258) hf rfl rfl (fun _ => by rw [← hz254]; rfl) (fun hb' => absurd (hb255.symm.trans hb') (by decide)) (by decide) tk
      clear hf; intro a hf
      refine dr_takeK 14 (.bool z258) rfl hf rfl (fun w ⟨_, hp⟩ => ?_) ⟨_, hp⟩ ?_
      · exact st_move hf rfl rfl (by decide) tk
      clear hf; intro a hf
      refine dr_takeK 15 (.int .i64 q220.2) rfl hf (wantY hf rfl rfl hb260) (fun w ⟨_, hp⟩ => ?_) ⟨_, hp⟩ ?_
      · exact st_move hf (wantY hf rfl rfl hb260) rfl (by decide) tk
      clear hf; intro a hf
      refine dr_takeK 16 (.int .i64 q230.2) rfl hf (wantY hf rfl rfl hb260) (fun w ⟨_, hp⟩ => ?_) ⟨_, hp⟩ ?_
      · exact st_move hf (wantY hf rfl rfl hb260) rfl (by decide) tk
      clear hf; intro a hf
      refine dr_takeK 17 (.bool (q220.2 == q230.2)) rfl hf (wantY hf rfl rfl hb260) (fun w ⟨_, hp⟩ => ?_) ⟨_, hp⟩ ?_
      · exact st_ieql hf (by decide) (wantY hf rfl rfl hb260) rfl rfl tk
      clear hf; intro a hf
      refine dr_takeK 18 (.bool (z258 && (q220.2 == q230.2))) rfl hf rfl (fun w ⟨_, hp⟩ => ?_) ⟨_, hp⟩ ?_
      · exact st_pick (v := .bool (z258 && (q220.2 == q230.2))) hf rfl rfl (fun _ => by rw [show (z258 && (q220.2 == q230.2)) = (q220.2 == q230.2) from by rw [hb260]; rfl]; rfl) (fun hb' => absurd (hb260.symm.trans hb') (by decide)) (by decide) tk
      clear hf; intro a hf
      refine dr_takeK 19 (.bool (z258 && (q220.2 == q230.2))) rfl hf rfl (fun w ⟨_, hp⟩ => ?_) ⟨_, hp⟩ ?_
      · exact st_move hf rfl rfl (by decide) tk
      clear hf; intro a hf
      refine dr_outK 20 rfl hf rfl (wantN hf rfl rfl hb262) ⟨_, hp⟩ ?_
      clear hf; intro a hf
      refine dr_outK 21 rfl hf rfl (wantN hf rfl rfl hb262) ⟨_, hp⟩ ?_
      clear hf; intro a hf
      refine dr_outK 22 rfl hf rfl (wantN hf rfl rfl hb262) ⟨_, hp⟩ ?_
      clear hf; intro a hf
      refine dr_outK 23 rfl hf rfl (wantN hf rfl rfl hb262) ⟨_, hp⟩ ?_
      clear hf; intro a hf
      refine dr_outK 24 rfl hf rfl (wantN hf rfl rfl hb262) ⟨_, hp⟩ ?_
      clear hf; intro a hf
      refine dr_outK 25 rfl hf rfl (wantN hf rfl rfl hb262) ⟨_, hp⟩ ?_
      clear hf; intro a hf
      refine dr_outK 26 rfl hf rfl (wantN hf rfl rfl hb262) ⟨_, hp⟩ ?_
      clear hf; intro a hf
      refine dr_outK 27 rfl hf rfl (wantN hf rfl rfl hb262) ⟨_, hp⟩ ?_
      clear hf; intro a hf
      refine dr_outK 28 rfl hf rfl (wantN hf rfl rfl hb262) ⟨_, hp⟩ ?_
      clear hf; intro a hf
      refine dr_outK 29 rfl hf rfl (wantN hf rfl rfl hb262) ⟨_, hp⟩ ?_
      clear hf; intro a hf
      refine dr_outK 30 rfl hf rfl (wantN hf rfl rfl hb262) ⟨_, hp⟩ ?_
      clear hf; intro a hf
      refine dr_takeK 31 (.bool z271) rfl hf rfl (fun w ⟨_, hp⟩ => ?_) ⟨_, hp⟩ ?_
      · exact st_pick (v := .bool z271) hf rfl rfl (fun hb' => absurd (hb262.symm.trans hb') (by decide)) (fun _ => by rw [← hz261]; rfl) (by decide) tk
      clear hf; intro a hf
      refine dr_takeK 32 (.bool z271) rfl hf rfl (fun w ⟨_, hp⟩ => ?_) ⟨_, hp⟩ ?_
      · exact st_move hf rfl rfl (by decide) tk
      clear hf; intro a hf
      refine dr_outK 33 rfl hf rfl (wantN hf rfl rfl hb273) ⟨_, hp⟩ ?_
      clear hf; intro a hf
      refine dr_takeK 34 (.bool z276) rfl hf rfl (fun w ⟨_, hp⟩ => ?_) ⟨_, hp⟩ ?_
      · exact st_pick (v := .bool z276) hf rfl rfl (fun hb' => absurd (hb273.symm.trans hb') (by decide)) (fun _ => by rw [← hz272]; rfl) (by decide) tk
      clear hf; intro a hf
      refine dr_takeK 35 (.bool z276) rfl hf rfl (fun w ⟨_, hp⟩ => ?_) ⟨_, hp⟩ ?_
      · exact st_assign hf rfl rfl (by decide) tk
      clear hf; intro a hf
      refine dr_end (by kernel_rfl) ?_ _
      have hp := bk248 _ _ hp
      have hp := bk243 _ _ hp
      have hp := bk238 _ _ hp
      exact ⟨hf.sub ⟨rfl, trivial⟩, hp⟩
     skip
     have hb262 : (z258 && (q220.2 == q230.2)) = false := by rw [hb260]; rfl
     skip
     replace hz261 := ifF hz261 hb262
     replace hz261 := Option.some.inj hz261
     have hb273 : z271 = false := hz261.symm
     skip
     replace hz272 := ifF hz272 hb273
     replace hz272 := Option.some.inj hz272
     refine dr_begin' _ (fun w' => ∃ l, Hp S244 w w' l) [] (by kernel_rfl) ?_
     refine dr_takeK 0 (.int .i64 q210.1) rfl hf rfl (fun w ⟨_, hp⟩ => ?_) ⟨_, hp⟩ ?_
     · exact st_move hf rfl rfl (by decide) tk
     clear hf; intro a hf
     refine dr_takeK 1 (.int .i64 q212.1) rfl hf rfl (fun w ⟨_, hp⟩ => ?_) ⟨_, hp⟩ ?_
     · exact st_move hf rfl rfl (by decide) tk
     clear hf; intro a hf
     refine dr_takeK 2 (.bool (q210.1 == q212.1)) rfl hf rfl (fun w ⟨_, hp⟩ => ?_) ⟨_, hp⟩ ?_
     · exact st_ieql hf (by decide) rfl rfl rfl tk
     clear hf; intro a hf
     refine dr_takeK 3 (.bool (q210.1 == q212.1)) rfl hf rfl (fun w ⟨_, hp⟩ => ?_) ⟨_, hp⟩ ?_
     · exact st_move hf rfl rfl (by decide) tk
     clear hf; intro a hf
     refine dr_takeK 4 (.int .i64 q210.2) rfl hf (wantY hf rfl rfl hb253) (fun w ⟨_, hp⟩ => ?_) ⟨_, hp⟩ ?_
     · exact st_move hf (wantY hf rfl rfl hb253) rfl (by decide) tk
     clear hf; intro a hf
     refine dr_takeK 5 (.int .i64 q212.2) rfl hf (wantY hf rfl rfl hb253) (fun w ⟨_, hp⟩ => ?_) ⟨_, hp⟩ ?_
     · exact st_move hf (wantY hf rfl rfl hb253) rfl (by decide) tk
     clear hf; intro a hf
     refine dr_takeK 6 (.bool (q210.2 == q212.2)) rfl hf (wantY hf rfl rfl hb253) (fun w ⟨_, hp⟩ => ?_) ⟨_, hp⟩ ?_
     · exact st_ieql hf (by decide) (wantY hf rfl rfl hb253) rfl rfl tk
     clear hf; intro a hf
     refine dr_takeK 7 (.bool ((q210.1 == q212.1) && (q210.2 == q212.2))) rfl hf rfl (fun w ⟨_, hp⟩ => ?_) ⟨_, hp⟩ ?_
     · exact st_pick (v := .bool ((q210.1 == q212.1) && (q210.2 == q212.2))) hf rfl rfl (fun _ => by rw [show ((q210.1 == q212.1) && (q210.2 == q212.2)) = (q210.2 == q212.2) from by rw [hb253]; rfl]; rfl) (fun hb' => absurd (hb253.symm.trans hb') (by decide)) (by decide) tk
     clear hf; intro a hf
     refine dr_takeK 8 (.bool ((q210.1 == q212.1) && (q210.2 == q212.2))) rfl hf rfl (fun w ⟨_, hp⟩ => ?_) ⟨_, hp⟩ ?_
     · exact st_move hf rfl rfl (by decide) tk
     clear hf; intro a hf
     refine dr_takeK 9 (.agg #[.int .i64 q220.1.1, .int .i64 q220.1.2]) rfl hf (wantY hf rfl rfl hb255) (fun w ⟨_, hp⟩ => ?_) ⟨_, hp⟩ ?_
     · exact st_ldOA (m := 2) (us := [.int .i64 q220.1.1, .int .i64 q220.1.2]) hf (by decide) (by kernel_rfl) (wantY hf rfl rfl hb255) rfl (rl250.ob hp) rfl rfl tk
     clear hf; intro a hf
     refine dr_takeK 11 (.agg #[.int .i64 q230.1.1, .int .i64 q230.1.2]) rfl hf (wantY hf rfl rfl hb255) (fun w ⟨_, hp⟩ => ?_) ⟨_, hp⟩ ?_
     · exact st_ldOA (m := 2) (us := [.int .i64 q230.1.1, .int .i64 q230.1.2]) hf (by decide) (by kernel_rfl) (wantY hf rfl rfl hb255) rfl (rl251.ob hp) rfl rfl tk
     clear hf; intro a hf
     refine dr_one 10 rfl (by kernel_rfl) ?_
     refine st_call hf (by decide) Try.func43 rfl rfl (wantY hf rfl rfl hb255) rfl rfl (f_foghornlaw03_ref_c hp _ _ hcall257) ?_
     rintro _ w ⟨rfl, hp0⟩
     clear hp; have hp := hp0; clear hp0
     replace hp : Hp _ _ _ (_ :: _ :: _ :: _ :: _ :: _ :: _ :: _ :: _ :: _ :: _ :: _ :: ow) := hp
     refine ⟨_, rfl, ?_⟩
     clear hf; intro a hf
     refine nx hf (fun _ _ => ⟨_, hp⟩) ?_
     refine dr_takeK 12 (.bool ((q256.1 == q230.1.1) && ((q256.2 == q230.1.2) && true))) rfl hf (wantY hf rfl rfl hb255) (fun w ⟨_, hp⟩ => ?_) ⟨_, hp⟩ ?_
     · exact st_eqA (xs := [.int .i64 q256.1, .int .i64 q256.2]) (ys := [.int .i64 q230.1.1, .int .i64 q230.1.2]) hf (by decide) (by kernel_rfl) (by kernel_rfl) (by kernel_rfl) (by kernel_rfl) (wantY hf rfl rfl hb255) rfl rfl (b := ((q256.1 == q230.1.1) && ((q256.2 == q230.1.2) && true))) rfl tk
     clear hf; intro a hf
     refine dr_takeK 13 (.bool z258) rfl hf rfl (fun w ⟨_, hp⟩ => ?_) ⟨_, hp⟩ ?_
     · exact st_pick (v := .bool z258) hf rfl rfl (fun _ => by rw [← hz254]; rfl) (fun hb' => absurd (hb255.symm.trans hb') (by decide)) (by decide) tk
     clear hf; intro a hf
     refine dr_takeK 14 (.bool z258) rfl hf rfl (fun w ⟨_, hp⟩ => ?_) ⟨_, hp⟩ ?_
     · exact st_move hf rfl rfl (by decide) tk
     clear hf; intro a hf
     refine dr_outK 15 rfl hf rfl (wantN hf rfl rfl hb260) ⟨_, hp⟩ ?_
     clear hf; intro a hf
     refine dr_outK 16 rfl hf rfl (wantN hf rfl rfl hb260) ⟨_, hp⟩ ?_
     clear hf; intro a hf
     refine dr_outK 17 rfl hf rfl (wantN hf rfl rfl hb260) ⟨_, hp⟩ ?_
     clear hf; intro a hf
     refine dr_takeK 18 (.bool (z258 && (q220.2 == q230.2))) rfl hf rfl (fun w ⟨_, hp⟩ => ?_) ⟨_, hp⟩ ?_
     · exact st_pick (v := .bool (z258 && (q220.2 == q230.2))) hf rfl rfl (fun hb' => absurd (hb260.symm.trans hb') (by decide)) (fun _ => by rw [show (z258 && (q220.2 == q230.2)) = false from by rw [hb260]; rfl]; rfl) (by decide) tk
     clear hf; intro a hf
     refine dr_takeK 19 (.bool (z258 && (q220.2 == q230.2))) rfl hf rfl (fun w ⟨_, hp⟩ => ?_) ⟨_, hp⟩ ?_
     · exact st_move hf rfl rfl (by decide) tk
     clear hf; intro a hf
     refine dr_outK 20 rfl hf rfl (wantN hf rfl rfl hb262) ⟨_, hp⟩ ?_
     clear hf; intro a hf
     refine dr_outK 21 rfl hf rfl (wantN hf rfl rfl hb262) ⟨_, hp⟩ ?_
     clear hf; intro a hf
     refine dr_outK 22 rfl hf rfl (wantN hf rfl rfl hb262) ⟨_, hp⟩ ?_
     clear hf; intro a hf
     refine dr_outK 23 rfl hf rfl (wantN hf rfl rfl hb262) ⟨_, hp⟩ ?_
     clear hf; intro a hf
     refine dr_outK 24 rfl hf rfl (wantN hf rfl rfl hb262) ⟨_, hp⟩ ?_
     clear hf; intro a hf
     refine dr_outK 25 rfl hf rfl (wantN hf rfl rfl hb262) ⟨_, hp⟩ ?_
     clear hf; intro a hf
     refine dr_outK 26 rfl hf rfl (wantN hf rfl rfl hb262) ⟨_, hp⟩ ?_
     clear hf; intro a hf
     refine dr_outK 27 rfl hf rfl (wantN hf rfl rfl hb262) ⟨_, hp⟩ ?_
     clear hf; intro a hf
     refine dr_outK 28 rfl hf rfl (wantN hf rfl rfl hb262) ⟨_, hp⟩ ?_
     clear hf; intro a hf
     refine dr_outK 29 rfl hf rfl (wantN hf rfl rfl hb262) ⟨_, hp⟩ ?_
     clear hf; intro a hf
     refine dr_outK 30 rfl hf rfl (wantN hf rfl rfl hb262) ⟨_, hp⟩ ?_
     clear hf; intro a hf
     refine dr_takeK 31 (.bool z271) rfl hf rfl (fun w ⟨_, hp⟩ => ?_) ⟨_, hp⟩ ?_
     · exact st_pick (v := .bool z271) hf rfl rfl (fun hb' => absurd (hb262.symm.trans hb') (by decide)) (fun _ => by rw [← hz261]; rfl) (by decide) tk
     clear hf; intro a hf
     refine dr_takeK 32 (.bool z271) rfl hf rfl (fun w ⟨_, hp⟩ => ?_) ⟨_, hp⟩ ?_
     · exact st_move hf rfl rfl (by decide) tk
     clear hf; intro a hf
     refine dr_outK 33 rfl hf rfl (wantN hf rfl rfl hb273) ⟨_, hp⟩ ?_
     clear hf; intro a hf
     refine dr_takeK 34 (.bool z276) rfl hf rfl (fun w ⟨_, hp⟩ => ?_) ⟨_, hp⟩ ?_
     · exact st_pick (v := .bool z276) hf rfl rfl (fun hb' => absurd (hb273.symm.trans hb') (by decide)) (fun _ => by rw [← hz272]; rfl) (by decide) tk
     clear hf; intro a hf
     refine dr_takeK 35 (.bool z276) rfl hf rfl (fun w ⟨_, hp⟩ => ?_) ⟨_, hp⟩ ?_
     · exact st_assign hf rfl rfl (by decide) tk
     clear hf; intro a hf
     refine dr_end (by kernel_rfl) ?_ _
     have hp := bk248 _ _ hp
     have hp := bk243 _ _ hp
     have hp := bk238 _ _ hp
     exact ⟨hf.sub ⟨rfl, trivial⟩, hp⟩
    skip
    replace hz254 := ifF hz254 hb255
    replace hz254 := Option.some.inj hz254
    have hb260 : z258 = false := hz254.symm
    skip
    have hb262 : (z258 && (q220.2 == q230.2)) = false := by rw [hb260]; rfl
    skip
    replace hz261 := ifF hz261 hb262
    replace hz261 := Option.some.inj hz261
    have hb273 : z271 = false := hz261.symm
    skip
    replace hz272 := ifF hz272 hb273
    replace hz272 := Option.some.inj hz272
    refine dr_begin' _ (fun w' => ∃ l, Hp S244 w w' l) [] (by kernel_rfl) ?_
    refine dr_takeK 0 (.int .i64 q210.1) rfl hf rfl (fun w ⟨_, hp⟩ => ?_) ⟨_, hp⟩ ?_
    · exact st_move hf rfl rfl (by decide) tk
    clear hf; intro a hf
    refine dr_takeK 1 (.int .i64 q212.1) rfl hf rfl (fun w ⟨_, hp⟩ => ?_) ⟨_, hp⟩ ?_
    · exact st_move hf rfl rfl (by decide) tk
    clear hf; intro a hf
    refine dr_takeK 2 (.bool (q210.1 == q212.1)) rfl hf rfl (fun w ⟨_, hp⟩ => ?_) ⟨_, hp⟩ ?_
    · exact st_ieql hf (by decide) rfl rfl rfl tk
    clear hf; intro a hf
    refine dr_takeK 3 (.bool (q210.1 == q212.1)) rfl hf rfl (fun w ⟨_, hp⟩ => ?_) ⟨_, hp⟩ ?_
    · exact st_move hf rfl rfl (by decide) tk
    clear hf; intro a hf
    refine dr_takeK 4 (.int .i64 q210.2) rfl hf (wantY hf rfl rfl hb253) (fun w ⟨_, hp⟩ => ?_) ⟨_, hp⟩ ?_
    · exact st_move hf (wantY hf rfl rfl hb253) rfl (by decide) tk
    clear hf; intro a hf
    refine dr_takeK 5 (.int .i64 q212.2) rfl hf (wantY hf rfl rfl hb253) (fun w ⟨_, hp⟩ => ?_) ⟨_, hp⟩ ?_
    · exact st_move hf (wantY hf rfl rfl hb253) rfl (by decide) tk
    clear hf; intro a hf
    refine dr_takeK 6 (.bool (q210.2 == q212.2)) rfl hf (wantY hf rfl rfl hb253) (fun w ⟨_, hp⟩ => ?_) ⟨_, hp⟩ ?_
    · exact st_ieql hf (by decide) (wantY hf rfl rfl hb253) rfl rfl tk
    clear hf; intro a hf
    refine dr_takeK 7 (.bool ((q210.1 == q212.1) && (q210.2 == q212.2))) rfl hf rfl (fun w ⟨_, hp⟩ => ?_) ⟨_, hp⟩ ?_
    · exact st_pick (v := .bool ((q210.1 == q212.1) && (q210.2 == q212.2))) hf rfl rfl (fun _ => by rw [show ((q210.1 == q212.1) && (q210.2 == q212.2)) = (q210.2 == q212.2) from by rw [hb253]; rfl]; rfl) (fun hb' => absurd (hb253.symm.trans hb') (by decide)) (by decide) tk
    clear hf; intro a hf
    refine dr_takeK 8 (.bool ((q210.1 == q212.1) && (q210.2 == q212.2))) rfl hf rfl (fun w ⟨_, hp⟩ => ?_) ⟨_, hp⟩ ?_
    · exact st_move hf rfl rfl (by decide) tk
    clear hf; intro a hf
    refine dr_outK 9 rfl hf rfl (wantN hf rfl rfl hb255) ⟨_, hp⟩ ?_
    clear hf; intro a hf
    refine dr_outK 10 rfl hf rfl (wantN hf rfl rfl hb255) ⟨_, hp⟩ ?_
    clear hf; intro a hf
    refine dr_outK 11 rfl hf rfl (wantN hf rfl rfl hb255) ⟨_, hp⟩ ?_
    clear hf; intro a hf
    refine dr_outK 12 rfl hf rfl (wantN hf rfl rfl hb255) ⟨_, hp⟩ ?_
    clear hf; intro a hf
    refine dr_takeK 13 (.bool z258) rfl hf rfl (fun w ⟨_, hp⟩ => ?_) ⟨_, hp⟩ ?_
    · exact st_pick (v := .bool z258) hf rfl rfl (fun hb' => absurd (hb255.symm.trans hb') (by decide)) (fun _ => by rw [← hz254]; rfl) (by decide) tk
    clear hf; intro a hf
    refine dr_takeK 14 (.bool z258) rfl hf rfl (fun w ⟨_, hp⟩ => ?_) ⟨_, hp⟩ ?_
    · exact st_move hf rfl rfl (by decide) tk
    clear hf; intro a hf
    refine dr_outK 15 rfl hf rfl (wantN hf rfl rfl hb260) ⟨_, hp⟩ ?_
    clear hf; intro a hf
    refine dr_outK 16 rfl hf rfl (wantN hf rfl rfl hb260) ⟨_, hp⟩ ?_
    clear hf; intro a hf
    refine dr_outK 17 rfl hf rfl (wantN hf rfl rfl hb260) ⟨_, hp⟩ ?_
    clear hf; intro a hf
    refine dr_takeK 18 (.bool (z258 && (q220.2 == q230.2))) rfl hf rfl (fun w ⟨_, hp⟩ => ?_) ⟨_, hp⟩ ?_
    · exact st_pick (v := .bool (z258 && (q220.2 == q230.2))) hf rfl rfl (fun hb' => absurd (hb260.symm.trans hb') (by decide)) (fun _ => by rw [show (z258 && (q220.2 == q230.2)) = false from by rw [hb260]; rfl]; rfl) (by decide) tk
    clear hf; intro a hf
    refine dr_takeK 19 (.bool (z258 && (q220.2 == q230.2))) rfl hf rfl (fun w ⟨_, hp⟩ => ?_) ⟨_, hp⟩ ?_
    · exact st_move hf rfl rfl (by decide) tk
    clear hf; intro a hf
    refine dr_outK 20 rfl hf rfl (wantN hf rfl rfl hb262) ⟨_, hp⟩ ?_
    clear hf; intro a hf
    refine dr_outK 21 rfl hf rfl (wantN hf rfl rfl hb262) ⟨_, hp⟩ ?_
    clear hf; intro a hf
    refine dr_outK 22 rfl hf rfl (wantN hf rfl rfl hb262) ⟨_, hp⟩ ?_
    clear hf; intro a hf
    refine dr_outK 23 rfl hf rfl (wantN hf rfl rfl hb262) ⟨_, hp⟩ ?_
    clear hf; intro a hf
    refine dr_outK 24 rfl hf rfl (wantN hf rfl rfl hb262) ⟨_, hp⟩ ?_
    clear hf; intro a hf
    refine dr_outK 25 rfl hf rfl (wantN hf rfl rfl hb262) ⟨_, hp⟩ ?_
    clear hf; intro a hf
    refine dr_outK 26 rfl hf rfl (wantN hf rfl rfl hb262) ⟨_, hp⟩ ?_
    clear hf; intro a hf
    refine dr_outK 27 rfl hf rfl (wantN hf rfl rfl hb262) ⟨_, hp⟩ ?_
    clear hf; intro a hf
    refine dr_outK 28 rfl hf rfl (wantN hf rfl rfl hb262) ⟨_, hp⟩ ?_
    clear hf; intro a hf
    refine dr_outK 29 rfl hf rfl (wantN hf rfl rfl hb262) ⟨_, hp⟩ ?_
    clear hf; intro a hf
    refine dr_outK 30 rfl hf rfl (wantN hf rfl rfl hb262) ⟨_, hp⟩ ?_
    clear hf; intro a hf
    refine dr_takeK 31 (.bool z271) rfl hf rfl (fun w ⟨_, hp⟩ => ?_) ⟨_, hp⟩ ?_
    · exact st_pick (v := .bool z271) hf rfl rfl (fun hb' => absurd (hb262.symm.trans hb') (by decide)) (fun _ => by rw [← hz261]; rfl) (by decide) tk
    clear hf; intro a hf
    refine dr_takeK 32 (.bool z271) rfl hf rfl (fun w ⟨_, hp⟩ => ?_) ⟨_, hp⟩ ?_
    · exact st_move hf rfl rfl (by decide) tk
    clear hf; intro a hf
    refine dr_outK 33 rfl hf rfl (wantN hf rfl rfl hb273) ⟨_, hp⟩ ?_
    clear hf; intro a hf
    refine dr_takeK 34 (.bool z276) rfl hf rfl (fun w ⟨_, hp⟩ => ?_) ⟨_, hp⟩ ?_
    · exact st_pick (v := .bool z276) hf rfl rfl (fun hb' => absurd (hb273.symm.trans hb') (by decide)) (fun _ => by rw [← hz272]; rfl) (by decide) tk
    clear hf; intro a hf
    refine dr_takeK 35 (.bool z276) rfl hf rfl (fun w ⟨_, hp⟩ => ?_) ⟨_, hp⟩ ?_
    · exact st_assign hf rfl rfl (by decide) tk
    clear hf; intro a hf
    refine dr_end (by kernel_rfl) ?_ _
    have hp := bk248 _ _ hp
    have hp := bk243 _ _ hp
    have hp := bk238 _ _ hp
    exact ⟨hf.sub ⟨rfl, trivial⟩, hp⟩
   skip
   have hb255 : ((q210.1 == q212.1) && (q210.2 == q212.2)) = false := by rw [hb253]; rfl
   skip
   replace hz254 := ifF hz254 hb255
   replace hz254 := Option.some.inj hz254
   have hb260 : z258 = false := hz254.symm
   skip
   have hb262 : (z258 && (q220.2 == q230.2)) = false := by rw [hb260]; rfl
   skip
   replace hz261 := ifF hz261 hb262
   replace hz261 := Option.some.inj hz261
   have hb273 : z271 = false := hz261.symm
   skip
   replace hz272 := ifF hz272 hb273
   replace hz272 := Option.some.inj hz272
   refine dr_begin' _ (fun w' => ∃ l, Hp S244 w w' l) [] (by kernel_rfl) ?_
   refine dr_takeK 0 (.int .i64 q210.1) rfl hf rfl (fun w ⟨_, hp⟩ => ?_) ⟨_, hp⟩ ?_
   · exact st_move hf rfl rfl (by decide) tk
   clear hf; intro a hf
   refine dr_takeK 1 (.int .i64 q212.1) rfl hf rfl (fun w ⟨_, hp⟩ => ?_) ⟨_, hp⟩ ?_
   · exact st_move hf rfl rfl (by decide) tk
   clear hf; intro a hf
   refine dr_takeK 2 (.bool (q210.1 == q212.1)) rfl hf rfl (fun w ⟨_, hp⟩ => ?_) ⟨_, hp⟩ ?_
   · exact st_ieql hf (by decide) rfl rfl rfl tk
   clear hf; intro a hf
   refine dr_takeK 3 (.bool (q210.1 == q212.1)) rfl hf rfl (fun w ⟨_, hp⟩ => ?_) ⟨_, hp⟩ ?_
   · exact st_move hf rfl rfl (by decide) tk
   clear hf; intro a hf
   refine dr_outK 4 rfl hf rfl (wantN hf rfl rfl hb253) ⟨_, hp⟩ ?_
   clear hf; intro a hf
   refine dr_outK 5 rfl hf rfl (wantN hf rfl rfl hb253) ⟨_, hp⟩ ?_
   clear hf; intro a hf
   refine dr_outK 6 rfl hf rfl (wantN hf rfl rfl hb253) ⟨_, hp⟩ ?_
   clear hf; intro a hf
   refine dr_takeK 7 (.bool ((q210.1 == q212.1) && (q210.2 == q212.2))) rfl hf rfl (fun w ⟨_, hp⟩ => ?_) ⟨_, hp⟩ ?_
   · exact st_pick (v := .bool ((q210.1 == q212.1) && (q210.2 == q212.2))) hf rfl rfl (fun hb' => absurd (hb253.symm.trans hb') (by decide)) (fun _ => by rw [show ((q210.1 == q212.1) && (q210.2 == q212.2)) = false from by rw [hb253]; rfl]; rfl) (by decide) tk
   clear hf; intro a hf
   refine dr_takeK 8 (.bool ((q210.1 == q212.1) && (q210.2 == q212.2))) rfl hf rfl (fun w ⟨_, hp⟩ => ?_) ⟨_, hp⟩ ?_
   · exact st_move hf rfl rfl (by decide) tk
   clear hf; intro a hf
   refine dr_outK 9 rfl hf rfl (wantN hf rfl rfl hb255) ⟨_, hp⟩ ?_
   clear hf; intro a hf
   refine dr_outK 10 rfl hf rfl (wantN hf rfl rfl hb255) ⟨_, hp⟩ ?_
   clear hf; intro a hf
   refine dr_outK 11 rfl hf rfl (wantN hf rfl rfl hb255) ⟨_, hp⟩ ?_
   clear hf; intro a hf
   refine dr_outK 12 rfl hf rfl (wantN hf rfl rfl hb255) ⟨_, hp⟩ ?_
   clear hf; intro a hf
   refine dr_takeK 13 (.bool z258) rfl hf rfl (fun w ⟨_, hp⟩ => ?_) ⟨_, hp⟩ ?_
   · exact st_pick (v := .bool z258) hf rfl rfl (fun hb' => absurd (hb255.symm.trans hb') (by decide)) (fun _ => by rw [← hz254]; rfl) (by decide) tk
   clear hf; intro a hf
   refine dr_takeK 14 (.bool z258) rfl hf rfl (fun w ⟨_, hp⟩ => ?_) ⟨_, hp⟩ ?_
   · exact st_move hf rfl rfl (by decide) tk
   clear hf; intro a hf
   refine dr_outK 15 rfl hf rfl (wantN hf rfl rfl hb260) ⟨_, hp⟩ ?_
   clear hf; intro a hf
   refine dr_outK 16 rfl hf rfl (wantN hf rfl rfl hb260) ⟨_, hp⟩ ?_
   clear hf; intro a hf
   refine dr_outK 17 rfl hf rfl (wantN hf rfl rfl hb260) ⟨_, hp⟩ ?_
   clear hf; intro a hf
   refine dr_takeK 18 (.bool (z258 && (q220.2 == q230.2))) rfl hf rfl (fun w ⟨_, hp⟩ => ?_) ⟨_, hp⟩ ?_
   · exact st_pick (v := .bool (z258 && (q220.2 == q230.2))) hf rfl rfl (fun hb' => absurd (hb260.symm.trans hb') (by decide)) (fun _ => by rw [show (z258 && (q220.2 == q230.2)) = false from by rw [hb260]; rfl]; rfl) (by decide) tk
   clear hf; intro a hf
   refine dr_takeK 19 (.bool (z258 && (q220.2 == q230.2))) rfl hf rfl (fun w ⟨_, hp⟩ => ?_) ⟨_, hp⟩ ?_
   · exact st_move hf rfl rfl (by decide) tk
   clear hf; intro a hf
   refine dr_outK 20 rfl hf rfl (wantN hf rfl rfl hb262) ⟨_, hp⟩ ?_
   clear hf; intro a hf
   refine dr_outK 21 rfl hf rfl (wantN hf rfl rfl hb262) ⟨_, hp⟩ ?_
   clear hf; intro a hf
   refine dr_outK 22 rfl hf rfl (wantN hf rfl rfl hb262) ⟨_, hp⟩ ?_
   clear hf; intro a hf
   refine dr_outK 23 rfl hf rfl (wantN hf rfl rfl hb262) ⟨_, hp⟩ ?_
   clear hf; intro a hf
   refine dr_outK 24 rfl hf rfl (wantN hf rfl rfl hb262) ⟨_, hp⟩ ?_
   clear hf; intro a hf
   refine dr_outK 25 rfl hf rfl (wantN hf rfl rfl hb262) ⟨_, hp⟩ ?_
   clear hf; intro a hf
   refine dr_outK 26 rfl hf rfl (wantN hf rfl rfl hb262) ⟨_, hp⟩ ?_
   clear hf; intro a hf
   refine dr_outK 27 rfl hf rfl (wantN hf rfl rfl hb262) ⟨_, hp⟩ ?_
   clear hf; intro a hf
   refine dr_outK 28 rfl hf rfl (wantN hf rfl rfl hb262) ⟨_, hp⟩ ?_
   clear hf; intro a hf
   refine dr_outK 29 rfl hf rfl (wantN hf rfl rfl hb262) ⟨_, hp⟩ ?_
   clear hf; intro a hf
   refine dr_outK 30 rfl hf rfl (wantN hf rfl rfl hb262) ⟨_, hp⟩ ?_
   clear hf; intro a hf
   refine dr_takeK 31 (.bool z271) rfl hf rfl (fun w ⟨_, hp⟩ => ?_) ⟨_, hp⟩ ?_
   · exact st_pick (v := .bool z271) hf rfl rfl (fun hb' => absurd (hb262.symm.trans hb') (by decide)) (fun _ => by rw [← hz261]; rfl) (by decide) tk
   clear hf; intro a hf
   refine dr_takeK 32 (.bool z271) rfl hf rfl (fun w ⟨_, hp⟩ => ?_) ⟨_, hp⟩ ?_
   · exact st_move hf rfl rfl (by decide) tk
   clear hf; intro a hf
   refine dr_outK 33 rfl hf rfl (wantN hf rfl rfl hb273) ⟨_, hp⟩ ?_
   clear hf; intro a hf
   refine dr_takeK 34 (.bool z276) rfl hf rfl (fun w ⟨_, hp⟩ => ?_) ⟨_, hp⟩ ?_
   · exact st_pick (v := .bool z276) hf rfl rfl (fun hb' => absurd (hb273.symm.trans hb') (by decide)) (fun _ => by rw [← hz272]; rfl) (by decide) tk
   clear hf; intro a hf
   refine dr_takeK 35 (.bool z276) rfl hf rfl (fun w ⟨_, hp⟩ => ?_) ⟨_, hp⟩ ?_
   · exact st_assign hf rfl rfl (by decide) tk
   clear hf; intro a hf
   refine dr_end (by kernel_rfl) ?_ _
   have hp := bk248 _ _ hp
   have hp := bk243 _ _ hp
   have hp := bk238 _ _ hp
   exact ⟨hf.sub ⟨rfl, trivial⟩, hp⟩
  rintro a w ⟨hf, hp⟩
  refine th_n ?_
  refine wp_ret ?_
  obtain rfl := Option.some.inj h
  have hp : Hp _ _ _ (ow) := Hp.sel (pre := [Res.obj 56 v222 [.int .i64 q220.1.1, .int .i64 q220.1.2], Res.obj 74 v232 [.int .i64 q230.1.1, .int .i64 q230.1.2], Res.obj 74 v1 [.int .i64 ax0_Re, .int .i64 ax0_Im], Res.obj 56 v181 [.int .i64 q179.1.1, .int .i64 q179.1.2], Res.obj 74 v185 [.int .i64 q183.1.1, .int .i64 q183.1.2], Res.obj 76 v5 [.int .i64 xx2_Depth, .int .u32 xx2_Class, .float .f64 bxx2_Z_0, .float .f64 bxx2_Z_1], Res.obj 56 v75 [.int .i64 q73.1.1, .int .i64 q73.1.2], Res.obj 74 v81 [.int .i64 q79.1.1, .int .i64 q79.1.2], Res.obj 56 v77 [.int .i64 q73.2.1.1, .int .i64 q73.2.1.2], Res.obj 74 v83 [.int .i64 q79.2.1.1, .int .i64 q79.2.1.2], Res.obj 56 v103 [.int .i64 q101.1.1, .int .i64 q101.1.2], Res.obj 74 v107 [.int .i64 q105.1.1, .int .i64 q105.1.2], Res.obj 74 v3 [.int .i64 bx1_Re, .int .i64 bx1_Im], Res.obj 56 v25 [.int .i64 q23.1.1, .int .i64 q23.1.2], Res.obj 74 v29 [.int .i64 q27.1.1, .int .i64 q27.1.2]]) (tail := ow) (rs' := []) hp [] (by decide) (by simp) rfl
  exact ⟨rfl, ⟨hf.sub ⟨rfl, trivial⟩, hp⟩⟩

end Go.Proofs.Yteifkccomfdciaa
