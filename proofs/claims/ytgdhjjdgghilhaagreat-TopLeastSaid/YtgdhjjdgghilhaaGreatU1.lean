/- Closed values -/
import Derived.Test.YtgdhjjdgghilhaaGreatG1
import Derived.Test.YtgdhjjdgghilhaaGreatGlW
set_option linter.unusedVariables false
set_option linter.unusedSimpArgs false
set_option maxRecDepth 8000
set_option exponentiation.threshold 3000
namespace Go.Proofs.YtgdhjjdgghilhaaGreat
open GL Go

def Le {α : Type} (a b : Option α) : Prop := ∀ r, a = some r → b = some r
theorem Le.refl {α : Type} (a : Option α) : Le a a := fun _ h => h
theorem Le.bind {α β : Type} {a b : Option α} {f g : α → Option β} (h : Le a b) (k : ∀ x, Le (f x) (g x)) : Le (a.bind f) (b.bind g) := by
  intro r e
  cases ha : a with
  | none => rw [ha] at e; cases e
  | some x => rw [ha] at e; rw [h x ha]; exact k x r e
theorem Le.ite {α : Type} {c : Prop} [Decidable c] {a b a' b' : Option α} (h : Le a a') (k : Le b b') : Le (if c then a else b) (if c then a' else b') := by
  split
  · exact h
  · exact k
theorem Le.sm {α β γ : Type} {x : α ⊕ β} {f f' : α → Option γ} {g g' : β → Option γ} (h : ∀ a, Le (f a) (f' a)) (k : ∀ b, Le (g b) (g' b)) : Le (GL.sm x f g) (GL.sm x f' g') := by
  cases x with
  | inl a => exact h a
  | inr b => exact k b
def loopT {S R : Type} (f : S → Option (S ⊕ R)) (s : S) : Option R := loopN f 300 s
theorem Le.loopN {S R : Type} {f g : S → Option (S ⊕ R)} (h : ∀ s, Le (f s) (g s)) : ∀ (k : Nat) (s : S), Le (GL.loopN f k s) (GL.loopN g k s)
  | 0, s => Le.refl _
  | k + 1, s => by
    intro r e
    unfold GL.loopN at e ⊢
    cases hf : f s with
    | none => rw [hf] at e; cases e
    | some x =>
      rw [hf] at e
      rw [h s x hf]
      cases x with
      | inl s' => exact Le.loopN h k s' r e
      | inr r' => exact e
theorem Le.loop {S R : Type} {f g : S → Option (S ⊕ R)} (h : ∀ s, Le (f s) (g s)) (s : S) : Le (loopT f s) (GL.loop g s) := by
  intro r e
  exact loop_iff.2 ⟨_, Le.loopN h _ s r e⟩
def LeC (a b : Option ((Int × Int × CG) × Bool)) : Prop := ∀ r, a = some r → ∃ q, b = some q ∧ q.1.1 = r.1.1 ∧ q.1.2.1 = r.1.2.1 ∧ q.2 = r.2 ∧ ∀ x, Le (r.1.2.2 x) (q.1.2.2 x)
theorem LeC.mk {n m : Int} {t : Bool} {c d : CG} (h : ∀ x, Le (c x) (d x)) : LeC (some ((n, m, c), t)) (some ((n, m, d), t)) := fun r e => by
  cases e
  exact ⟨_, rfl, rfl, rfl, rfl, h⟩
theorem LeC.ite {c : Prop} [Decidable c] {a b a' b' : Option ((Int × Int × CG) × Bool)} (h : LeC a a') (k : LeC b b') : LeC (if c then a else b) (if c then a' else b') := by
  split
  · exact h
  · exact k
theorem Le.bindC {β : Type} {a b : Option ((Int × Int × CG) × Bool)} {f g : ((Int × Int × CG) × Bool) → Option β} (h : LeC a b) (k : ∀ x y, y.1.1 = x.1.1 → y.1.2.1 = x.1.2.1 → y.2 = x.2 → (∀ z, Le (x.1.2.2 z) (y.1.2.2 z)) → Le (f x) (g y)) : Le (a.bind f) (b.bind g) := by
  intro r e
  cases ha : a with
  | none => rw [ha] at e; cases e
  | some x =>
    rw [ha] at e
    obtain ⟨q, hb, h1, h2, h3, h4⟩ := h x ha
    rw [hb]
    exact k x q h1 h2 h3 h4 r e
noncomputable def t_bits_Ungray (n0 : Int) : Option (Int × Int) := (if ((decide (n0 < (0 : Int))) || (decide ((65536 : Int) ≤ n0))) = true then (some ((0 : Int), (1 : Int))) else ((loopT f_bits_Ungray.s1 (n0, (1 : Int))).bind (fun q4 => (some (q4, (0 : Int))))))
theorem t_bits_Ungray_le (n0 : Int) : Le (t_bits_Ungray n0) (f_bits_Ungray n0) := by
  unfold t_bits_Ungray f_bits_Ungray
  repeat (first | with_reducible exact Le.refl _ | refine Le.bind ?_ (fun _ => ?_) | refine Le.ite ?_ ?_ | refine Le.sm (fun _ => ?_) (fun _ => ?_) | refine Le.loop (fun _ => ?_) _)
noncomputable def t_points_square_1 (word0 : Int) (t1 : Int) : Option Fl := ((t_bits_Ungray word0).bind fun q1 => (some (fofi (IntKind.i64.wrap ((IntKind.i64.wrap ((2 : Int) * q1.1)) - t1)))))
theorem t_points_square_1_le (word0 : Int) (t1 : Int) : Le (t_points_square_1 word0 t1) (f_points_square_1 word0 t1) := by
  unfold t_points_square_1 f_points_square_1
  repeat (first | with_reducible apply t_bits_Ungray_le | with_reducible exact Le.refl _ | refine Le.bind ?_ (fun _ => ?_) | refine Le.ite ?_ ?_ | refine Le.sm (fun _ => ?_) (fun _ => ?_) | refine Le.loop (fun _ => ?_) _)
noncomputable def t_points_square_2 (label0 : Int) (t1 : Int) (t700 : Int) : Option (Fl × Fl) := (if 0 ≤ (IntKind.i64.wrap ((t1).tdiv (2 : Int))) then ((t_points_square_1 (ishr .i64 label0 (IntKind.i64.wrap ((t1).tdiv (2 : Int)))) t700).bind fun q2 => (if 0 ≤ (IntKind.i64.wrap ((t1).tdiv (2 : Int))) then ((t_points_square_1 (iand .i64 label0 (IntKind.i64.wrap ((ishl .i64 (1 : Int) (IntKind.i64.wrap ((t1).tdiv (2 : Int)))) - (1 : Int)))) t700).bind fun q7 => (some (q2, q7))) else none)) else none)
theorem t_points_square_2_le (label0 : Int) (t1 : Int) (t700 : Int) : Le (t_points_square_2 label0 t1 t700) (f_points_square_2 label0 t1 t700) := by
  unfold t_points_square_2 f_points_square_2
  repeat (first | with_reducible apply t_points_square_1_le | with_reducible exact Le.refl _ | refine Le.bind ?_ (fun _ => ?_) | refine Le.ite ?_ ?_ | refine Le.sm (fun _ => ?_) (fun _ => ?_) | refine Le.loop (fun _ => ?_) _)
noncomputable def t_points_square (n0 : Int) (edge1 : Int) : Option (Int × Int × CG) := (some (n0, edge1, (fun lab : Int => t_points_square_2 lab n0 edge1)))
noncomputable def t_points_cross_1 (label0 : Int) (t1 : Int) (t2 : Int) : Option (Fl × Fl) := ((loopT (f_points_cross_1.s1 t1 t2) (label0, (IntKind.i64.wrap (0 - t1)))).bind (fun q1 => (some q1)))
theorem t_points_cross_1_le (label0 : Int) (t1 : Int) (t2 : Int) : Le (t_points_cross_1 label0 t1 t2) (f_points_cross_1 label0 t1 t2) := by
  unfold t_points_cross_1 f_points_cross_1
  repeat (first | with_reducible exact Le.refl _ | refine Le.bind ?_ (fun _ => ?_) | refine Le.ite ?_ ?_ | refine Le.sm (fun _ => ?_) (fun _ => ?_) | refine Le.loop (fun _ => ?_) _)
noncomputable def t_points_cross (n0 : Int) (edge1 : Int) (most2 : Int) : Option (Int × Int × CG) := (some (n0, edge1, (fun lab : Int => t_points_cross_1 lab edge1 most2)))
noncomputable def t_points_of (size0 : Int) : Option ((Int × Int × CG) × Bool) := (if (size0 == (4 : Int)) = true then ((t_points_square (2 : Int) (1 : Int)).bind fun q3 => (some ((q3.1, q3.2.1, q3.2.2), true))) else (if (size0 == (16 : Int)) = true then ((t_points_square (4 : Int) (3 : Int)).bind fun q7 => (some ((q7.1, q7.2.1, q7.2.2), true))) else (if (size0 == (32 : Int)) = true then ((t_points_cross (5 : Int) (5 : Int) (3 : Int)).bind fun q11 => (some ((q11.1, q11.2.1, q11.2.2), true))) else (if (size0 == (64 : Int)) = true then ((t_points_square (6 : Int) (7 : Int)).bind fun q15 => (some ((q15.1, q15.2.1, q15.2.2), true))) else (if (size0 == (128 : Int)) = true then ((t_points_cross (7 : Int) (11 : Int) (7 : Int)).bind fun q19 => (some ((q19.1, q19.2.1, q19.2.2), true))) else (if (size0 == (256 : Int)) = true then ((t_points_square (8 : Int) (15 : Int)).bind fun q23 => (some ((q23.1, q23.2.1, q23.2.2), true))) else (some (((0 : Int), (0 : Int), (fun _ => none)), false))))))))
theorem t_points_of_le (size0 : Int) : LeC (t_points_of size0) (f_points_of size0) := by
  unfold t_points_of f_points_of
  refine LeC.ite (LeC.mk fun x => t_points_square_2_le x 2 1) ?_
  refine LeC.ite (LeC.mk fun x => t_points_square_2_le x 4 3) ?_
  refine LeC.ite (LeC.mk fun x => t_points_cross_1_le x 5 3) ?_
  refine LeC.ite (LeC.mk fun x => t_points_square_2_le x 6 7) ?_
  refine LeC.ite (LeC.mk fun x => t_points_cross_1_le x 11 7) ?_
  exact LeC.ite (LeC.mk fun x => t_points_square_2_le x 8 15) (LeC.mk fun x => Le.refl _)
noncomputable def t_points_Edge (size0 : Int) : Option (Int × Int) := ((t_points_of size0).bind fun q1 => (if (!q1.2) = true then (some ((0 : Int), (1 : Int))) else (some (q1.1.2.1, (0 : Int)))))
theorem t_points_Edge_le (size0 : Int) : Le (t_points_Edge size0) (f_points_Edge size0) :=
  Le.bindC (t_points_of_le _) (fun x y h1 h2 h3 h4 => by rw [h2, h3]; exact Le.refl _)
noncomputable def t_feedback_taps (l0 : (List (Fl × Fl))) : Option Bool := ((loopT (f_feedback_taps.s1 l0) ((Fl.bits 0), (0 : Int))).bind (fun q29 => sm q29 (fun q30 => (some (((decide ((0 : Int) < (l0.length : Int))) && (decide ((l0.length : Int) ≤ (64 : Int)))) && (fle q30 (Fl.bits 4616189618054758400))))) (fun q31 => (some q31))))
theorem t_feedback_taps_le (l0 : (List (Fl × Fl))) : Le (t_feedback_taps l0) (f_feedback_taps l0) := by
  unfold t_feedback_taps f_feedback_taps
  repeat (first | with_reducible exact Le.refl _ | refine Le.bind ?_ (fun _ => ?_) | refine Le.ite ?_ ?_ | refine Le.sm (fun _ => ?_) (fun _ => ?_) | refine Le.loop (fun _ => ?_) _)
noncomputable def t_feedback_turned (zx0 : (Fl × Fl)) (n1 : Int) : Option (Fl × Fl) := ((loopT (f_feedback_turned.s1 n1) (zx0, (0 : Int))).bind (fun q9 => (some q9)))
theorem t_feedback_turned_le (zx0 : (Fl × Fl)) (n1 : Int) : Le (t_feedback_turned zx0 n1) (f_feedback_turned zx0 n1) := by
  unfold t_feedback_turned f_feedback_turned
  repeat (first | with_reducible exact Le.refl _ | refine Le.bind ?_ (fun _ => ?_) | refine Le.ite ?_ ?_ | refine Le.sm (fun _ => ?_) (fun _ => ?_) | refine Le.loop (fun _ => ?_) _)
noncomputable def t_feedback_first.s1c (hx0 : (Fl × Fl)) (t7 : Int) : Option (Int ⊕ (Unit ⊕ (Fl × Int × Bool))) := (if (decide (t7 < (4 : Int))) = true then ((t_feedback_turned hx0 t7).bind fun q1 => (if ((feq q1.2 (Fl.bits 0)) && (((feq q1.1 (Fl.bits 4607182418800017408)) || (feq q1.1 (Fl.bits 4602678819172646912))) || (feq q1.1 (Fl.bits 4598175219545276416)))) = true then (some (Sum.inr (Sum.inr (q1.1, t7, true)))) else (some (Sum.inl (IntKind.i64.wrap (t7 + (1 : Int))))))) else (some (Sum.inr (Sum.inl ()))))
theorem t_feedback_first.s1c_le (hx0 : (Fl × Fl)) (t7 : Int) : Le (t_feedback_first.s1c hx0 t7) (f_feedback_first.s1c hx0 t7) := by
  unfold t_feedback_first.s1c f_feedback_first.s1c
  repeat (first | with_reducible apply t_feedback_turned_le | with_reducible exact Le.refl _ | refine Le.bind ?_ (fun _ => ?_) | refine Le.ite ?_ ?_ | refine Le.sm (fun _ => ?_) (fun _ => ?_) | refine Le.loop (fun _ => ?_) _)
noncomputable def t_feedback_first.s1 (hx0 : (Fl × Fl)) (s : Int) : Option (Int ⊕ (Unit ⊕ (Fl × Int × Bool))) := t_feedback_first.s1c hx0 s
theorem t_feedback_first.s1_le (hx0 : (Fl × Fl)) (s : Int) : Le (t_feedback_first.s1 hx0 s) (f_feedback_first.s1 hx0 s) := by
  unfold t_feedback_first.s1 f_feedback_first.s1
  repeat (first | with_reducible apply t_feedback_first.s1c_le | with_reducible exact Le.refl _ | refine Le.bind ?_ (fun _ => ?_) | refine Le.ite ?_ ?_ | refine Le.sm (fun _ => ?_) (fun _ => ?_) | refine Le.loop (fun _ => ?_) _)
noncomputable def t_feedback_first (hx0 : (Fl × Fl)) : Option (Fl × Int × Bool) := ((loopT (t_feedback_first.s1 hx0) (0 : Int)).bind (fun q13 => sm q13 (fun q14 => (some ((Fl.bits 0), (0 : Int), false))) (fun q15 => (some (q15.1, q15.2.1, q15.2.2)))))
theorem t_feedback_first_le (hx0 : (Fl × Fl)) : Le (t_feedback_first hx0) (f_feedback_first hx0) := by
  unfold t_feedback_first f_feedback_first
  repeat (first | with_reducible apply t_feedback_first.s1_le | with_reducible exact Le.refl _ | refine Le.bind ?_ (fun _ => ?_) | refine Le.ite ?_ ?_ | refine Le.sm (fun _ => ?_) (fun _ => ?_) | refine Le.loop (fun _ => ?_) _)
noncomputable def t_feedback_Check (l0 : (List (Fl × Fl))) : Option Int := ((t_feedback_taps l0).bind fun q1 => (if (!q1) = true then (some (8 : Int)) else (if 0 ≤ (0 : Int) ∧ (0 : Int) < (l0.length : Int) then ((t_feedback_first (gt l0 (0 : Int))).bind fun q8 => (if (!q8.2.2) = true then (some (110 : Int)) else (some (0 : Int)))) else none)))
theorem t_feedback_Check_le (l0 : (List (Fl × Fl))) : Le (t_feedback_Check l0) (f_feedback_Check l0) := by
  unfold t_feedback_Check f_feedback_Check
  repeat (first | with_reducible apply t_feedback_taps_le | with_reducible apply t_feedback_first_le | with_reducible exact Le.refl _ | refine Le.bind ?_ (fun _ => ?_) | refine Le.ite ?_ ?_ | refine Le.sm (fun _ => ?_) (fun _ => ?_) | refine Le.loop (fun _ => ?_) _)
noncomputable def t_feedback_New (hx1 : (List (Fl × Fl))) : Option ((Int × (List (Fl × Fl)) × (List (Fl × Fl)) × Int × Int × Fl × Int × Bool × Bool × (Fl × Fl)) × Int) := ((t_points_Edge (4 : Int)).bind fun q1 => (if (q1.2 != (0 : Int)) = true then none else ((t_feedback_Check hx1).bind fun q3 => (if (q3 != (0 : Int)) = true then none else (if 0 < hx1.length then ((some (([((4 : Int), (List.replicate 64 (Fl.bits 0, Fl.bits 0)), (List.replicate 64 (Fl.bits 0, Fl.bits 0)), (hx1.length : Int), (0 : Int), (Fl.bits 0), (0 : Int), false, false, (Fl.bits 0, Fl.bits 0))]).set ((0 : Int)).toNat ((gt ([((4 : Int), (List.replicate 64 (Fl.bits 0, Fl.bits 0)), (List.replicate 64 (Fl.bits 0, Fl.bits 0)), (hx1.length : Int), (0 : Int), (Fl.bits 0), (0 : Int), false, false, (Fl.bits 0, Fl.bits 0))]) (0 : Int)).1, (cpy ((gt ([((4 : Int), (List.replicate 64 (Fl.bits 0, Fl.bits 0)), (List.replicate 64 (Fl.bits 0, Fl.bits 0)), (hx1.length : Int), (0 : Int), (Fl.bits 0), (0 : Int), false, false, (Fl.bits 0, Fl.bits 0))]) (0 : Int)).2.1) 0 hx1), (gt ([((4 : Int), (List.replicate 64 (Fl.bits 0, Fl.bits 0)), (List.replicate 64 (Fl.bits 0, Fl.bits 0)), (hx1.length : Int), (0 : Int), (Fl.bits 0), (0 : Int), false, false, (Fl.bits 0, Fl.bits 0))]) (0 : Int)).2.2.1, (gt ([((4 : Int), (List.replicate 64 (Fl.bits 0, Fl.bits 0)), (List.replicate 64 (Fl.bits 0, Fl.bits 0)), (hx1.length : Int), (0 : Int), (Fl.bits 0), (0 : Int), false, false, (Fl.bits 0, Fl.bits 0))]) (0 : Int)).2.2.2.1, (gt ([((4 : Int), (List.replicate 64 (Fl.bits 0, Fl.bits 0)), (List.replicate 64 (Fl.bits 0, Fl.bits 0)), (hx1.length : Int), (0 : Int), (Fl.bits 0), (0 : Int), false, false, (Fl.bits 0, Fl.bits 0))]) (0 : Int)).2.2.2.2.1, (gt ([((4 : Int), (List.replicate 64 (Fl.bits 0, Fl.bits 0)), (List.replicate 64 (Fl.bits 0, Fl.bits 0)), (hx1.length : Int), (0 : Int), (Fl.bits 0), (0 : Int), false, false, (Fl.bits 0, Fl.bits 0))]) (0 : Int)).2.2.2.2.2.1, (gt ([((4 : Int), (List.replicate 64 (Fl.bits 0, Fl.bits 0)), (List.replicate 64 (Fl.bits 0, Fl.bits 0)), (hx1.length : Int), (0 : Int), (Fl.bits 0), (0 : Int), false, false, (Fl.bits 0, Fl.bits 0))]) (0 : Int)).2.2.2.2.2.2.1, (gt ([((4 : Int), (List.replicate 64 (Fl.bits 0, Fl.bits 0)), (List.replicate 64 (Fl.bits 0, Fl.bits 0)), (hx1.length : Int), (0 : Int), (Fl.bits 0), (0 : Int), false, false, (Fl.bits 0, Fl.bits 0))]) (0 : Int)).2.2.2.2.2.2.2.1, (gt ([((4 : Int), (List.replicate 64 (Fl.bits 0, Fl.bits 0)), (List.replicate 64 (Fl.bits 0, Fl.bits 0)), (hx1.length : Int), (0 : Int), (Fl.bits 0), (0 : Int), false, false, (Fl.bits 0, Fl.bits 0))]) (0 : Int)).2.2.2.2.2.2.2.2.1, (gt ([((4 : Int), (List.replicate 64 (Fl.bits 0, Fl.bits 0)), (List.replicate 64 (Fl.bits 0, Fl.bits 0)), (hx1.length : Int), (0 : Int), (Fl.bits 0), (0 : Int), false, false, (Fl.bits 0, Fl.bits 0))]) (0 : Int)).2.2.2.2.2.2.2.2.2))).bind fun q8 => (if 0 ≤ (0 : Int) ∧ (0 : Int) < (hx1.length : Int) then ((t_feedback_first (gt hx1 (0 : Int))).bind fun q16 => ((some (q8.set ((0 : Int)).toNat ((gt q8 (0 : Int)).1, (gt q8 (0 : Int)).2.1, (gt q8 (0 : Int)).2.2.1, (gt q8 (0 : Int)).2.2.2.1, (gt q8 (0 : Int)).2.2.2.2.1, q16.1, (gt q8 (0 : Int)).2.2.2.2.2.2.1, (gt q8 (0 : Int)).2.2.2.2.2.2.2.1, (gt q8 (0 : Int)).2.2.2.2.2.2.2.2.1, (gt q8 (0 : Int)).2.2.2.2.2.2.2.2.2))).bind fun q20 => ((some (q20.set ((0 : Int)).toNat ((gt q20 (0 : Int)).1, (gt q20 (0 : Int)).2.1, (gt q20 (0 : Int)).2.2.1, (gt q20 (0 : Int)).2.2.2.1, (gt q20 (0 : Int)).2.2.2.2.1, (gt q20 (0 : Int)).2.2.2.2.2.1, q16.2.1, (gt q20 (0 : Int)).2.2.2.2.2.2.2.1, (gt q20 (0 : Int)).2.2.2.2.2.2.2.2.1, (gt q20 (0 : Int)).2.2.2.2.2.2.2.2.2))).bind fun q23 => (some ((gt q23 (0 : Int)), (0 : Int)))))) else none)) else none)))))
theorem t_feedback_New_le (hx1 : (List (Fl × Fl))) : Le (t_feedback_New hx1) (f_feedback_New hx1) := by
  unfold t_feedback_New f_feedback_New
  repeat (first | with_reducible apply t_points_Edge_le | with_reducible apply t_feedback_Check_le | with_reducible apply t_feedback_first_le | with_reducible exact Le.refl _ | refine Le.bind ?_ (fun _ => ?_) | refine Le.ite ?_ ?_ | refine Le.sm (fun _ => ?_) (fun _ => ?_) | refine Le.loop (fun _ => ?_) _)
noncomputable def t_grid_Check (l0 : (List ((Fl × Fl) × Bool))) : Option (Int × Int) := (if (decide ((65536 : Int) < (l0.length : Int))) = true then (some ((0 : Int), (1 : Int))) else ((loopT (f_grid_Check.s1 l0) (0 : Int)).bind (fun q12 => sm q12 (fun q13 => (some ((0 : Int), (0 : Int)))) (fun q14 => (some (q14.1, q14.2))))))
theorem t_grid_Check_le (l0 : (List ((Fl × Fl) × Bool))) : Le (t_grid_Check l0) (f_grid_Check l0) := by
  unfold t_grid_Check f_grid_Check
  repeat (first | with_reducible exact Le.refl _ | refine Le.bind ?_ (fun _ => ?_) | refine Le.ite ?_ ?_ | refine Le.sm (fun _ => ?_) (fun _ => ?_) | refine Le.loop (fun _ => ?_) _)
noncomputable def t_points_All (size0 : Int) : Option ((List (Fl × Fl)) × Int) := ((t_points_of size0).bind fun q1 => (if (!q1.2) = true then (some ([], (1 : Int))) else (if 0 ≤ size0 ∧ size0 ≤ size0 ∧ size0 * 16 ≤ 281474976710656 then ((loopT (f_points_All.s1 size0 q1) ((List.replicate (size0).toNat (Fl.bits 0, Fl.bits 0)), (0 : Int))).bind (fun q27 => (some (q27, (0 : Int))))) else none)))
theorem t_points_All_le (size0 : Int) : Le (t_points_All size0) (f_points_All size0) :=
  Le.bindC (t_points_of_le _) (fun x y h1 h2 h3 h4 => by
    rw [h3]
    exact Le.ite (Le.refl _) (Le.ite (Le.bind (Le.loop (fun s => Le.ite (Le.bind (h4 _) (fun _ => Le.refl _)) (Le.refl _)) _) (fun _ => Le.refl _)) (Le.refl _)))
noncomputable def t_points_Label (size0 : Int) (zx1 : (Fl × Fl)) : Option (Int × Int) := ((t_points_All size0).bind fun q1 => (if (q1.2 != (0 : Int)) = true then (some ((0 : Int), q1.2)) else ((loopT (f_points_Label.s1 zx1 q1) (0 : Int)).bind (fun q10 => sm q10 (fun q11 => (some ((0 : Int), (6 : Int)))) (fun q12 => (some (q12.1, q12.2)))))))
theorem t_points_Label_le (size0 : Int) (zx1 : (Fl × Fl)) : Le (t_points_Label size0 zx1) (f_points_Label size0 zx1) := by
  unfold t_points_Label f_points_Label
  repeat (first | with_reducible apply t_points_All_le | with_reducible exact Le.refl _ | refine Le.bind ?_ (fun _ => ?_) | refine Le.ite ?_ ?_ | refine Le.sm (fun _ => ?_) (fun _ => ?_) | refine Le.loop (fun _ => ?_) _)
noncomputable def t_slice_axes (edge1 : Int) (zx2 : (Fl × Fl)) : Option (Int × (Fl × Fl) × Bool) := ((f_slice_Axis zx2.1 edge1).bind fun q3 => ((f_slice_Axis zx2.2 edge1).bind fun q5 => ((t_points_Label (4 : Int) ((fofi q3.1), (fofi q5.1))).bind fun q7 => (some (q7.1, ((fofi q3.1), (fofi q5.1)), false)))))
theorem t_slice_axes_le (edge1 : Int) (zx2 : (Fl × Fl)) : Le (t_slice_axes edge1 zx2) (f_slice_axes edge1 zx2) := by
  unfold t_slice_axes f_slice_axes
  repeat (first | with_reducible apply t_points_Label_le | with_reducible exact Le.refl _ | refine Le.bind ?_ (fun _ => ?_) | refine Le.ite ?_ ?_ | refine Le.sm (fun _ => ?_) (fun _ => ?_) | refine Le.loop (fun _ => ?_) _)
noncomputable def t_slice_decide (edge1 : Int) (zx2 : (Fl × Fl)) : Option (Int × (Fl × Fl) × Bool) := ((f_slice_nan zx2).bind fun q3 => ((if q3 = true then (some true) else ((f_math_IsInf zx2.1 (0 : Int)).bind fun q8 => (some q8))).bind fun z7 => ((if z7 = true then (some true) else ((f_math_IsInf zx2.2 (0 : Int)).bind fun q13 => (some q13))).bind fun z12 => (if z12 = true then (some ((0 : Int), (Fl.bits 0, Fl.bits 0), true)) else ((f_slice_ways).bind fun q15 => ((t_slice_axes edge1 zx2).bind fun q19 => (some (q19.1, q19.2.1, q19.2.2))))))))
theorem t_slice_decide_le (edge1 : Int) (zx2 : (Fl × Fl)) : Le (t_slice_decide edge1 zx2) (f_slice_decide edge1 zx2) := by
  unfold t_slice_decide f_slice_decide
  repeat (first | with_reducible apply t_slice_axes_le | with_reducible exact Le.refl _ | refine Le.bind ?_ (fun _ => ?_) | refine Le.ite ?_ ?_ | refine Le.sm (fun _ => ?_) (fun _ => ?_) | refine Le.loop (fun _ => ?_) _)
noncomputable def t_slice_Decide (zx1 : (Fl × Fl)) : Option ((Int × (Fl × Fl) × Bool) × Int) := ((t_points_Edge (4 : Int)).bind fun q3 => (if (q3.2 != (0 : Int)) = true then (some (((0 : Int), (Fl.bits 0, Fl.bits 0), false), (1 : Int))) else ((t_slice_decide q3.1 zx1).bind fun q5 => (some ((q5.1, q5.2.1, q5.2.2), (0 : Int))))))
theorem t_slice_Decide_le (zx1 : (Fl × Fl)) : Le (t_slice_Decide zx1) (f_slice_Decide zx1) := by
  unfold t_slice_Decide f_slice_Decide
  repeat (first | with_reducible apply t_points_Edge_le | with_reducible apply t_slice_decide_le | with_reducible exact Le.refl _ | refine Le.bind ?_ (fun _ => ?_) | refine Le.ite ?_ ?_ | refine Le.sm (fun _ => ?_) (fun _ => ?_) | refine Le.loop (fun _ => ?_) _)
noncomputable def t_feedback_Loop_Step (l0 : (List (Int × (List (Fl × Fl)) × (List (Fl × Fl)) × Int × Int × Fl × Int × Bool × Bool × (Fl × Fl)))) (il0 : Int) (sx1_V : (Fl × Fl)) (sx1_Lost : Bool) : Option ((Int × (Fl × Fl) × Bool) × Int × (List (Int × (List (Fl × Fl)) × (List (Fl × Fl)) × Int × Int × Fl × Int × Bool × Bool × (Fl × Fl)))) := ((t_grid_Check ([(sx1_V, sx1_Lost)])).bind fun q8 => (if (q8.2 != (0 : Int)) = true then (some (((0 : Int), (Fl.bits 0, Fl.bits 0), false), q8.2, l0)) else (if (((gt l0 il0).2.2.2.2.2.2.2.2.1) || sx1_Lost) = true then ((some (l0.set (il0).toNat ((gt l0 il0).1, (gt l0 il0).2.1, (gt l0 il0).2.2.1, (gt l0 il0).2.2.2.1, (gt l0 il0).2.2.2.2.1, (gt l0 il0).2.2.2.2.2.1, (gt l0 il0).2.2.2.2.2.2.1, (gt l0 il0).2.2.2.2.2.2.2.1, true, (gt l0 il0).2.2.2.2.2.2.2.2.2))).bind fun q17 => (some (((0 : Int), (Fl.bits 0, Fl.bits 0), true), (0 : Int), q17))) else ((loopT (f_feedback_Loop_Step.s1 l0 il0) (sx1_V.1, sx1_V.2, (1 : Int))).bind (fun q62 => ((t_feedback_turned (q62.1, q62.2) ((gt l0 il0).2.2.2.2.2.2.1)).bind fun q63 => ((farithS .quo q63.1 ((gt l0 il0).2.2.2.2.2.1)).bind fun q80 => ((farithS .quo q63.2 ((gt l0 il0).2.2.2.2.2.1)).bind fun q87 => ((some (l0.set (il0).toNat ((gt l0 il0).1, (gt l0 il0).2.1, (gt l0 il0).2.2.1, (gt l0 il0).2.2.2.1, (gt l0 il0).2.2.2.2.1, (gt l0 il0).2.2.2.2.2.1, (gt l0 il0).2.2.2.2.2.2.1, (gt l0 il0).2.2.2.2.2.2.2.1, (gt l0 il0).2.2.2.2.2.2.2.2.1, (q80, q87)))).bind fun q89 => ((some (q89.set (il0).toNat ((gt q89 il0).1, (gt q89 il0).2.1, (gt q89 il0).2.2.1, (gt q89 il0).2.2.2.1, (gt q89 il0).2.2.2.2.1, (gt q89 il0).2.2.2.2.2.1, (gt q89 il0).2.2.2.2.2.2.1, true, (gt q89 il0).2.2.2.2.2.2.2.2.1, (gt q89 il0).2.2.2.2.2.2.2.2.2))).bind fun q92 => (if (gt q92 il0).1 = (4 : Int) then ((t_slice_Decide ((gt q92 il0).2.2.2.2.2.2.2.2.2)).bind fun q107 => (if 0 ≤ (gt q92 il0).2.2.2.2.1 ∧ (gt q92 il0).2.2.2.2.1 < (64 : Int) then ((some (q92.set (il0).toNat ((gt q92 il0).1, (gt q92 il0).2.1, (((gt q92 il0).2.2.1).set ((gt q92 il0).2.2.2.2.1).toNat q107.1.2.1), (gt q92 il0).2.2.2.1, (gt q92 il0).2.2.2.2.1, (gt q92 il0).2.2.2.2.2.1, (gt q92 il0).2.2.2.2.2.2.1, (gt q92 il0).2.2.2.2.2.2.2.1, (gt q92 il0).2.2.2.2.2.2.2.2.1, (gt q92 il0).2.2.2.2.2.2.2.2.2))).bind fun q128 => ((some (q128.set (il0).toNat ((gt q128 il0).1, (gt q128 il0).2.1, (gt q128 il0).2.2.1, (gt q128 il0).2.2.2.1, (((IntKind.i64.wrap ((gt q128 il0).2.2.2.2.1 + (1 : Int)))).tmod (64 : Int)), (gt q128 il0).2.2.2.2.2.1, (gt q128 il0).2.2.2.2.2.2.1, (gt q128 il0).2.2.2.2.2.2.2.1, (gt q128 il0).2.2.2.2.2.2.2.2.1, (gt q128 il0).2.2.2.2.2.2.2.2.2))).bind fun q131 => (some ((q107.1.1, q107.1.2.1, q107.1.2.2), q107.2, q131)))) else none)) else none)))))))))))
theorem t_feedback_Loop_Step_le (l0 : (List (Int × (List (Fl × Fl)) × (List (Fl × Fl)) × Int × Int × Fl × Int × Bool × Bool × (Fl × Fl)))) (il0 : Int) (sx1_V : (Fl × Fl)) (sx1_Lost : Bool) : Le (t_feedback_Loop_Step l0 il0 sx1_V sx1_Lost) (f_feedback_Loop_Step l0 il0 sx1_V sx1_Lost) := by
  unfold t_feedback_Loop_Step f_feedback_Loop_Step
  repeat (first | with_reducible apply t_grid_Check_le | with_reducible apply t_feedback_turned_le | with_reducible apply t_slice_Decide_le | with_reducible exact Le.refl _ | refine Le.bind ?_ (fun _ => ?_) | refine Le.ite ?_ ?_ | refine Le.sm (fun _ => ?_) (fun _ => ?_) | refine Le.loop (fun _ => ?_) _)
noncomputable def t_feedback_run.s1c (row2 : (List ((Fl × Fl) × Bool))) (l9 : (List (Int × (List (Fl × Fl)) × (List (Fl × Fl)) × Int × Int × Fl × Int × Bool × Bool × (Fl × Fl)))) (out13 : (List (Int × (Fl × Fl) × Bool))) (far14 : (List (Fl × Fl))) (t45 : Int) : Option (((List (Int × (List (Fl × Fl)) × (List (Fl × Fl)) × Int × Int × Fl × Int × Bool × Bool × (Fl × Fl))) × (List (Int × (Fl × Fl) × Bool)) × (List (Fl × Fl)) × Int) ⊕ ((List (Int × (Fl × Fl) × Bool)) × (List (Fl × Fl)))) := (if (decide (t45 < (row2.length : Int))) = true then (if 0 ≤ t45 ∧ t45 < (row2.length : Int) then ((t_feedback_Loop_Step l9 (0 : Int) ((gt row2 t45).1) ((gt row2 t45).2)).bind fun q37 => (if (!q37.1.2.2) = true then ((farithS .sub ((gt q37.2.2 (0 : Int)).2.2.2.2.2.2.2.2.2.1) q37.1.2.1.1).bind fun q76 => ((farithS .sub ((gt q37.2.2 (0 : Int)).2.2.2.2.2.2.2.2.2.2) q37.1.2.1.2).bind fun q83 => (f_feedback_run.j1 out13 far14 t45 q37 (q76, q83)))) else (f_feedback_run.j1 out13 far14 t45 q37 (Fl.bits 0, Fl.bits 0)))) else none) else (some (Sum.inr (out13, far14))))
theorem t_feedback_run.s1c_le (row2 : (List ((Fl × Fl) × Bool))) (l9 : (List (Int × (List (Fl × Fl)) × (List (Fl × Fl)) × Int × Int × Fl × Int × Bool × Bool × (Fl × Fl)))) (out13 : (List (Int × (Fl × Fl) × Bool))) (far14 : (List (Fl × Fl))) (t45 : Int) : Le (t_feedback_run.s1c row2 l9 out13 far14 t45) (f_feedback_run.s1c row2 l9 out13 far14 t45) := by
  unfold t_feedback_run.s1c f_feedback_run.s1c
  repeat (first | with_reducible apply t_feedback_Loop_Step_le | with_reducible exact Le.refl _ | refine Le.bind ?_ (fun _ => ?_) | refine Le.ite ?_ ?_ | refine Le.sm (fun _ => ?_) (fun _ => ?_) | refine Le.loop (fun _ => ?_) _)
noncomputable def t_feedback_run.s1 (row2 : (List ((Fl × Fl) × Bool))) (s : ((List (Int × (List (Fl × Fl)) × (List (Fl × Fl)) × Int × Int × Fl × Int × Bool × Bool × (Fl × Fl))) × (List (Int × (Fl × Fl) × Bool)) × (List (Fl × Fl)) × Int)) : Option (((List (Int × (List (Fl × Fl)) × (List (Fl × Fl)) × Int × Int × Fl × Int × Bool × Bool × (Fl × Fl))) × (List (Int × (Fl × Fl) × Bool)) × (List (Fl × Fl)) × Int) ⊕ ((List (Int × (Fl × Fl) × Bool)) × (List (Fl × Fl)))) := t_feedback_run.s1c row2 s.1 s.2.1 s.2.2.1 s.2.2.2
theorem t_feedback_run.s1_le (row2 : (List ((Fl × Fl) × Bool))) (s : ((List (Int × (List (Fl × Fl)) × (List (Fl × Fl)) × Int × Int × Fl × Int × Bool × Bool × (Fl × Fl))) × (List (Int × (Fl × Fl) × Bool)) × (List (Fl × Fl)) × Int)) : Le (t_feedback_run.s1 row2 s) (f_feedback_run.s1 row2 s) := by
  unfold t_feedback_run.s1 f_feedback_run.s1
  repeat (first | with_reducible apply t_feedback_run.s1c_le | with_reducible exact Le.refl _ | refine Le.bind ?_ (fun _ => ?_) | refine Le.ite ?_ ?_ | refine Le.sm (fun _ => ?_) (fun _ => ?_) | refine Le.loop (fun _ => ?_) _)
noncomputable def t_feedback_run (hx1 : (List (Fl × Fl))) (row2 : (List ((Fl × Fl) × Bool))) : Option ((List (Int × (Fl × Fl) × Bool)) × (List (Fl × Fl)) × Int) := ((t_feedback_New hx1).bind fun q1 => (if (q1.2 != (0 : Int)) = true then (some ([], [], q1.2)) else ((t_grid_Check row2).bind fun q7 => (if (q7.2 != (0 : Int)) = true then (some ([], [], q7.2)) else (if 0 ≤ (0 : Int) ∧ (0 : Int) ≤ (row2.length : Int) ∧ (row2.length : Int) * 32 ≤ 281474976710656 then (if 0 ≤ (0 : Int) ∧ (0 : Int) ≤ (row2.length : Int) ∧ (row2.length : Int) * 16 ≤ 281474976710656 then ((loopT (t_feedback_run.s1 row2) ([q1.1], (List.replicate ((0 : Int)).toNat ((0 : Int), (Fl.bits 0, Fl.bits 0), false)), (List.replicate ((0 : Int)).toNat (Fl.bits 0, Fl.bits 0)), (0 : Int))).bind (fun q85 => (some (q85.1, q85.2, (0 : Int))))) else none) else none)))))
theorem t_feedback_run_le (hx1 : (List (Fl × Fl))) (row2 : (List ((Fl × Fl) × Bool))) : Le (t_feedback_run hx1 row2) (f_feedback_run hx1 row2) := by
  unfold t_feedback_run f_feedback_run
  repeat (first | with_reducible apply t_feedback_New_le | with_reducible apply t_grid_Check_le | with_reducible apply t_feedback_run.s1_le | with_reducible exact Le.refl _ | refine Le.bind ?_ (fun _ => ?_) | refine Le.ite ?_ ?_ | refine Le.sm (fun _ => ?_) (fun _ => ?_) | refine Le.loop (fun _ => ?_) _)
noncomputable def t_feedback_Run (hx1 : (List (Fl × Fl))) (row2 : (List ((Fl × Fl) × Bool))) : Option ((List (Int × (Fl × Fl) × Bool)) × Int) := ((t_feedback_run hx1 row2).bind fun q1 => (some (q1.1, q1.2.2)))
theorem t_feedback_Run_le (hx1 : (List (Fl × Fl))) (row2 : (List ((Fl × Fl) × Bool))) : Le (t_feedback_Run hx1 row2) (f_feedback_Run hx1 row2) := by
  unfold t_feedback_Run f_feedback_Run
  repeat (first | with_reducible apply t_feedback_run_le | with_reducible exact Le.refl _ | refine Le.bind ?_ (fun _ => ?_) | refine Le.ite ?_ ?_ | refine Le.sm (fun _ => ?_) (fun _ => ?_) | refine Le.loop (fun _ => ?_) _)
noncomputable def t_points_At (size0 : Int) (label1 : Int) : Option ((Fl × Fl) × Int) := ((t_points_of size0).bind fun q1 => (if (((!q1.2) || (decide (label1 < (0 : Int)))) || (decide (size0 ≤ label1))) = true then (some ((Fl.bits 0, Fl.bits 0), (1 : Int))) else ((q1.1.2.2 label1).bind fun q11 => (some (q11, (0 : Int))))))
theorem t_points_At_le (size0 : Int) (label1 : Int) : Le (t_points_At size0 label1) (f_points_At size0 label1) :=
  Le.bindC (t_points_of_le _) (fun x y h1 h2 h3 h4 => by
    rw [h3]
    exact Le.ite (Le.refl _) (Le.bind (h4 _) (fun _ => Le.refl _)))
noncomputable def t_foghorntop_awake  : Option Bool := ((t_feedback_Run ([(Fl.bits 4607182418800017408, Fl.bits 0)]) ([((Fl.bits 4607182418800017408, Fl.bits 4607182418800017408), false), ((Fl.bits 0, Fl.bits 0), true)])).bind fun q5 => ((t_points_At (4 : Int) (0 : Int)).bind fun q19 => ((t_points_Label (4 : Int) q19.1).bind fun q25 => ((if (((((q5.2 == (0 : Int)) && (q19.2 == (0 : Int))) && (q25.2 == (0 : Int))) && (q25.1 == (0 : Int))) && ((q5.1.length : Int) == (2 : Int))) = true then (if 0 ≤ (0 : Int) ∧ (0 : Int) < (q5.1.length : Int) then (some (ceq ((gt q5.1 (0 : Int)).2.1) (Fl.bits 4607182418800017408, Fl.bits 4607182418800017408))) else none) else (some false)).bind fun z37 => ((if z37 = true then (if 0 ≤ (0 : Int) ∧ (0 : Int) < (q5.1.length : Int) then (some (!((gt q5.1 (0 : Int)).2.2))) else none) else (some false)).bind fun z45 => ((if z45 = true then (if 0 ≤ (1 : Int) ∧ (1 : Int) < (q5.1.length : Int) then (some ((gt q5.1 (1 : Int)).2.2)) else none) else (some false)).bind fun z49 => (some z49)))))))
theorem t_foghorntop_awake_le  : Le (t_foghorntop_awake) (f_foghorntop_awake) := by
  unfold t_foghorntop_awake f_foghorntop_awake
  repeat (first | with_reducible apply t_feedback_Run_le | with_reducible apply t_points_At_le | with_reducible apply t_points_Label_le | with_reducible exact Le.refl _ | refine Le.bind ?_ (fun _ => ?_) | refine Le.ite ?_ ?_ | refine Le.sm (fun _ => ?_) (fun _ => ?_) | refine Le.loop (fun _ => ?_) _)
noncomputable def t_points_Bits (size0 : Int) : Option (Int × Int) := ((t_points_of size0).bind fun q1 => (if (!q1.2) = true then (some ((0 : Int), (1 : Int))) else (some (q1.1.1, (0 : Int)))))
theorem t_points_Bits_le (size0 : Int) : Le (t_points_Bits size0) (f_points_Bits size0) :=
  Le.bindC (t_points_of_le _) (fun x y h1 h2 h3 h4 => by rw [h1, h3]; exact Le.refl _)
noncomputable def t_points_Energy (size0 : Int) : Option (Int × Int) := ((t_points_All size0).bind fun q1 => ((loopT (f_points_Energy.s1 q1) ((0 : Int), (0 : Int))).bind (fun q18 => (some (q18, q1.2)))))
theorem t_points_Energy_le (size0 : Int) : Le (t_points_Energy size0) (f_points_Energy size0) := by
  unfold t_points_Energy f_points_Energy
  repeat (first | with_reducible apply t_points_All_le | with_reducible exact Le.refl _ | refine Le.bind ?_ (fun _ => ?_) | refine Le.ite ?_ ?_ | refine Le.sm (fun _ => ?_) (fun _ => ?_) | refine Le.loop (fun _ => ?_) _)
noncomputable def t_load_energies.s2c (q10 : (List Int)) (l1 : (List Int)) (t20 : Int) : Option (((List Int) × Int) ⊕ (List Int)) := (if (decide (t20 < (q10.length : Int))) = true then (if 0 ≤ t20 ∧ t20 < (q10.length : Int) then ((t_points_Bits (gt q10 t20)).bind fun q17 => ((t_points_Energy (gt q10 t20)).bind fun q19 => (if (gt q10 t20) ≠ 0 then (if 0 ≤ q17.1 ∧ q17.1 < (9 : Int) then (some (Sum.inl ((l1.set (q17.1).toNat (IntKind.i64.wrap ((q19.1).tdiv (gt q10 t20)))), (IntKind.i64.wrap (t20 + (1 : Int)))))) else none) else none))) else none) else (some (Sum.inr l1)))
theorem t_load_energies.s2c_le (q10 : (List Int)) (l1 : (List Int)) (t20 : Int) : Le (t_load_energies.s2c q10 l1 t20) (f_load_energies.s2c q10 l1 t20) := by
  unfold t_load_energies.s2c f_load_energies.s2c
  repeat (first | with_reducible apply t_points_Bits_le | with_reducible apply t_points_Energy_le | with_reducible exact Le.refl _ | refine Le.bind ?_ (fun _ => ?_) | refine Le.ite ?_ ?_ | refine Le.sm (fun _ => ?_) (fun _ => ?_) | refine Le.loop (fun _ => ?_) _)
noncomputable def t_load_energies.s2 (q10 : (List Int)) (s : ((List Int) × Int)) : Option (((List Int) × Int) ⊕ (List Int)) := t_load_energies.s2c q10 s.1 s.2
theorem t_load_energies.s2_le (q10 : (List Int)) (s : ((List Int) × Int)) : Le (t_load_energies.s2 q10 s) (f_load_energies.s2 q10 s) := by
  unfold t_load_energies.s2 f_load_energies.s2
  repeat (first | with_reducible apply t_load_energies.s2c_le | with_reducible exact Le.refl _ | refine Le.bind ?_ (fun _ => ?_) | refine Le.ite ?_ ?_ | refine Le.sm (fun _ => ?_) (fun _ => ?_) | refine Le.loop (fun _ => ?_) _)
noncomputable def t_load_energies  : Option (List Int) := ((loopT f_load_energies.s1 ((List.replicate 9 (0 : Int)), (0 : Int))).bind (fun q9 => ((f_points_Sizes).bind fun q10 => ((loopT (t_load_energies.s2 q10) (q9, (0 : Int))).bind (fun q24 => (some q24))))))
theorem t_load_energies_le  : Le (t_load_energies) (f_load_energies) := by
  unfold t_load_energies f_load_energies
  repeat (first | with_reducible apply t_load_energies.s2_le | with_reducible exact Le.refl _ | refine Le.bind ?_ (fun _ => ?_) | refine Le.ite ?_ ?_ | refine Le.sm (fun _ => ?_) (fun _ => ?_) | refine Le.loop (fun _ => ?_) _)
theorem awake_ok : f_foghorntop_awake = some true := t_foghorntop_awake_le _ (by decide +kernel)
def EN : List Int := [0, -1, 2, -1, 10, 20, 42, 82, 170]
set_option maxHeartbeats 0 in
theorem t_energies : t_load_energies = some [0, -1, 2, -1, 10, 20, 42, 82, 170] := by decide +kernel
theorem energies_ok : f_load_energies = some EN := t_load_energies_le _ t_energies

end Go.Proofs.YtgdhjjdgghilhaaGreat
