/- Own library, part G: loops as plain functions; control; calls. -/
import Derived.Test.YtgdhjjdgghilhaaGreatGlE
set_option linter.unusedVariables false
set_option linter.unusedSimpArgs false
namespace GL
open Go

def loopN {S R : Type} (f : S → Option (S ⊕ R)) : Nat → S → Option R
  | 0, _ => none
  | k + 1, s => match f s with
    | none => none
    | some (.inl s') => loopN f k s'
    | some (.inr r) => some r

theorem loopN_mono {S R : Type} (f : S → Option (S ⊕ R)) : ∀ (k : Nat) (s : S) (r : R), loopN f k s = some r → ∀ m, k ≤ m → loopN f m s = some r
  | 0, s, r, h, m, _ => by simp [loopN] at h
  | k + 1, s, r, h, 0, hm => by omega
  | k + 1, s, r, h, m + 1, hm => by
    simp only [loopN] at h ⊢
    split at h
    · cases h
    · exact loopN_mono f k _ r h m (by omega)
    · exact h

open Classical in
noncomputable def loop {S R : Type} (f : S → Option (S ⊕ R)) (s : S) : Option R :=
  if h : ∃ k r, loopN f k s = some r then some (Classical.choose (Classical.choose_spec h)) else none

theorem loop_iff {S R : Type} {f : S → Option (S ⊕ R)} {s : S} {r : R} : loop f s = some r ↔ ∃ k, loopN f k s = some r := by
  unfold loop
  constructor
  · intro h
    split at h
    · rename_i hk
      have := Classical.choose_spec (Classical.choose_spec hk)
      obtain rfl := Option.some.inj h
      exact ⟨_, this⟩
    · cases h
  · rintro ⟨k, hk⟩
    have hex : ∃ k r, loopN f k s = some r := ⟨k, r, hk⟩
    rw [dif_pos hex]
    have h2 := Classical.choose_spec (Classical.choose_spec hex)
    have h3 := loopN_mono f _ _ _ h2 (max (Classical.choose hex) k) (Nat.le_max_left _ _)
    have h4 := loopN_mono f _ _ _ hk (max (Classical.choose hex) k) (Nat.le_max_right _ _)
    rw [h3] at h4
    exact h4

theorem loop_step {S R : Type} {f : S → Option (S ⊕ R)} {s s' : S} (h : f s = some (.inl s')) : loop f s = loop f s' := by
  have key : ∀ r, loop f s = some r ↔ loop f s' = some r := by
    intro r
    rw [loop_iff, loop_iff]
    constructor
    · rintro ⟨k, hk⟩
      cases k with
      | zero => simp [loopN] at hk
      | succ k => simp only [loopN, h] at hk; exact ⟨k, hk⟩
    · rintro ⟨k, hk⟩
      exact ⟨k + 1, by simp only [loopN, h]; exact hk⟩
  exact Option.ext key
theorem loop_done {S R : Type} {f : S → Option (S ⊕ R)} {s : S} {r : R} (h : f s = some (.inr r)) : loop f s = some r :=
  loop_iff.2 ⟨1, by simp [loopN, h]⟩

theorem loop_inv {S R : Type} {f : S → Option (S ⊕ R)} (I : S → Prop) (μ : S → Nat) (O : R → Prop)
    (h : ∀ s, I s → (∃ s', f s = some (.inl s') ∧ I s' ∧ μ s' < μ s) ∨ (∃ r, f s = some (.inr r) ∧ O r)) (s : S) (hs : I s) : ∃ r, loop f s = some r ∧ O r := by
  generalize hm : μ s = m
  induction m using Nat.strongRecOn generalizing s with
  | _ m ih =>
    rcases h s hs with ⟨s', h1, h2, h3⟩ | ⟨r, h1, h2⟩
    · obtain ⟨r, h4, h5⟩ := ih (μ s') (hm ▸ h3) s' h2 rfl
      exact ⟨r, (loop_step h1).trans h4, h5⟩
    · exact ⟨r, loop_done h1, h2⟩

variable {P : Program} {Q : Exit → Act → World → Prop} {a : Act} {w : World}

def LoopWp (P : Program) (c : Code) (Q : Exit → Act → World → Prop) (a : Act) (w : World) : Prop :=
  ∀ (b : Frame) (k : List Item) (cs : List Frame),
    ∃ e a' w', Q e a' w' ∧ Arrives P (lone (b.at a (.code c :: .inLoop c :: k)) cs w) b k cs e a' w'

theorem LoopWp.wp {c : Code} (h : LoopWp P c Q a w) : (Code.loop c).wp P Q a w :=
  fun b k cs => let ⟨e, a', w', q, r⟩ := h b k cs; ⟨e, a', w', q, .of_steps (.one step_loop) r⟩

theorem LoopWp.round {c : Code} (h : c.wp P (Exit.then (LoopWp P c Q) Q) a w) : LoopWp P c Q a w := by
  intro b k cs
  obtain ⟨e, a₁, w₁, hq, harr⟩ := h b (.inLoop c :: k) cs
  cases e with
  | normal =>
    obtain ⟨e₂, a₂, w₂, hq₂, harr₂⟩ := hq b k cs
    exact ⟨e₂, a₂, w₂, hq₂, .of_steps (Steps.trans harr (.one step_inLoop)) harr₂⟩
  | exit id => exact ⟨_, a₁, w₁, hq, .pass (x := .inLoop c) rfl (fun _ _ => .inl (by simp)) harr⟩
  | goto l => exact ⟨_, a₁, w₁, hq, .pass (x := .inLoop c) rfl (fun _ _ => .inl (by simp)) harr⟩
  | ret => exact ⟨_, a₁, w₁, hq, .pass (x := .inLoop c) rfl (fun _ _ => .inl (by simp)) harr⟩
  | panic ch => exact ⟨_, a₁, w₁, hq, .pass (x := .inLoop c) rfl (fun _ _ => .inl (by simp)) harr⟩
  | outgrown => exact ⟨_, a₁, w₁, hq, .pass (x := .inLoop c) rfl (fun _ _ => .inl (by simp)) harr⟩

def Rnd {St R : Type} (I : St → Act → World → Prop) (O : R → Exit → Act → World → Prop) (x : St ⊕ R) : Exit → Act → World → Prop :=
  fun e a w => match x with
    | .inl s' => e = .normal ∧ I s' a w
    | .inr r => e ≠ .normal ∧ O r e a w

theorem wp_loop_pure {St R : Type} {c : Code} {f : St → Option (St ⊕ R)} (I : St → Act → World → Prop) (O : R → Exit → Act → World → Prop)
    (body : ∀ s x a w, f s = some x → I s a w → c.wp P (Rnd I O x) a w)
    {s : St} {r : R} (hl : loop f s = some r) (hI : I s a w) (hQ : ∀ e a w, e ≠ .normal → O r e a w → Q e a w) : (Code.loop c).wp P Q a w := by
  obtain ⟨k, hk⟩ := loop_iff.1 hl
  refine LoopWp.wp ?_
  clear hl
  induction k generalizing s a w with
  | zero => simp [loopN] at hk
  | succ k ih =>
    cases hf : f s with
    | none => simp [loopN, hf] at hk
    | some x =>
      refine LoopWp.round (wp_mono (body s x a w hf hI) ?_)
      intro e a' w' hr
      cases x with
      | inl s' =>
        obtain ⟨rfl, hI'⟩ := hr
        simp only [loopN, hf] at hk
        exact ih hI' hk
      | inr r' =>
        simp only [loopN, hf, Option.some.injEq] at hk
        subst hk
        obtain ⟨hne, ho⟩ := hr
        cases e <;> first | exact absurd rfl hne | exact hQ _ _ _ hne ho

variable {n : Nat} {L : List (Nat × Value)} {ops : Array Oper} {rest : List Oper} {d : Nat} {ty : TypeId} {pos : String} {af : Array Edge} {g : Option (Nat × Bool)}

theorem wp_reg {id : Nat} {l : List Oper} (h : wpList P l.toArray Q l a w) : (Code.region id l.toArray false).wp P Q a w := wp_region_lit h
theorem wp_if {c : Operand} {x y : Code} {b : Bool} (hf : Fr n a L) (hc : evL L c = some (.bool b)) (ht : b = true → x.wp P Q a w) (he : b = false → y.wp P Q a w) :
    (Code.cond c x y).wp P Q a w := wp_cond_split (hf.ev hc) ht he

def evs (L : List (Nat × Value)) : List Operand → Option (List Value)
  | [] => some []
  | x :: t => match evL L x, evs L t with
    | some v, some vs => some (v :: vs)
    | _, _ => none

theorem Fr.evs (hf : Fr n a L) : ∀ {l : List Operand} {vs : List Value}, GL.evs L l = some vs → l.toArray.map a.eval = vs.toArray
  | [], vs, h => by simp [GL.evs] at h; subst h; simp
  | x :: t, vs, h => by
    simp only [GL.evs] at h
    split at h
    · rename_i v us h1 h2
      obtain rfl := Option.some.inj h
      have := hf.evs h2
      simp only [List.map_toArray, List.map_cons, hf.ev h1] at this ⊢
      have e : t.map a.eval = us := by simpa using this
      rw [e]
    · cases h

theorem run_callFunc {f : FuncId} {fn : Func} {c : Code} (hfn : P.funcs[f]? = some fn) (hnm : (fn.name == "runtime.NumGoroutine") = false) (hb : fn.body = some c) (args : Array Value) (w : World) :
    (callFunc f args).run P w = .ok (.enter f args) w := by
  simp only [beq_eq_false_iff_ne] at hnm
  simp [callFunc, Sem.run_bind, program, Sem.run, Result.andThen, hfn, hnm, hb, pure]

theorem st_call {f : FuncId} {fn : Func} {c : Code} {x : Operand} {l : List Operand} {vs cap : List Value} {R : Ending → World → Prop} {tys : Array TypeId}
    (hf : Fr n a L) (hd : d < n) (hfn : P.funcs[f]? = some fn) (hnm : (fn.name == "runtime.NumGoroutine") = false) (hb : fn.body = some c)
    (hw : Region.wanted ⟨some d, .call ⟨.value x, l.toArray, tys⟩, ty, pos, af, g⟩ (yielded ops a.tmps) = true)
    (hx : evL L x = some (.func (.func f) #[] cap.toArray)) (hl : evs L l = some vs)
    (hc : Calls P f (vs ++ cap).toArray w R)
    (h : ∀ e w', R e w' → ∃ v, e = .returned v ∧ ∀ a', Fr n a' ((d, v) :: L) → wpList P ops Q rest a' w') :
    wpList P ops Q (⟨some d, .call ⟨.value x, l.toArray, tys⟩, ty, pos, af, g⟩ :: rest) a w := by
  unfold wpList
  rw [if_pos hw]
  refine .inl ?_
  unfold Oper.wp
  have hrun : (execOp a.eval ⟨some d, .call ⟨.value x, l.toArray, tys⟩, ty, pos, af, g⟩).run P w = .ok (.enter f (vs ++ cap).toArray) w := by
    have hm := hf.evs hl
    simp only [execOp, resolve, hf.ev hx, hm, Deferred.ofValue, Sem.run_bind]
    simp [Sem.run, pure, Result.andThen, invoke, run_callFunc (P := P) hfn hnm hb]
  rw [hrun, Oper.upon_enter]
  refine Calls.mono hc fun e w' hr => ?_
  obtain ⟨v, rfl, k⟩ := h e w' hr
  exact k _ (hf.put hd v)

theorem enter {f : FuncId} {fn : Func} {c : Code} {args : List Value} {R : Ending → World → Prop} (hf : P.funcs[f]? = some fn) (hb : fn.body = some c) (hn : fn.ntmps = n) (hl : args.length ≤ n)
    (h : ∀ a, Fr n a (frame0 0 args) → c.wp P (bodyPost P fn R) a w) : Calls P f args.toArray w R := by
  refine calls_of_wp hf hb ?_
  subst hn
  exact h _ (Fr.start args _ hl)

theorem ret1 {fn : Func} {R : Ending → World → Prop} {t : Nat} {v : Value} (hf : Fr n a L) (hr : fn.results = #[.tmp t]) (hl : lk L t = some v) (h : R (.returned v) w) : bodyPost P fn R .ret a w := by
  have := hf.slots t v hl
  refine bodyPost_ret (v := v) ?_ hf.defers h
  simp [results, hr, Array.getD_eq_getD_getElem?, this]

theorem ret2 {fn : Func} {R : Ending → World → Prop} {t0 t1 : Nat} {v0 v1 : Value} (hf : Fr n a L) (hr : fn.results = #[.tmp t0, .tmp t1]) (h0 : lk L t0 = some v0) (h1 : lk L t1 = some v1)
    (h : R (.returned (.tuple #[v0, v1])) w) : bodyPost P fn R .ret a w := by
  have e0 := hf.slots _ _ h0
  have e1 := hf.slots _ _ h1
  refine bodyPost_ret (v := .tuple #[v0, v1]) ?_ hf.defers h
  simp [results, hr, Array.getD_eq_getD_getElem?, e0, e1]

theorem ret3 {fn : Func} {R : Ending → World → Prop} {t0 t1 t2 : Nat} {v0 v1 v2 : Value} (hf : Fr n a L) (hr : fn.results = #[.tmp t0, .tmp t1, .tmp t2]) (h0 : lk L t0 = some v0) (h1 : lk L t1 = some v1) (h2 : lk L t2 = some v2)
    (h : R (.returned (.tuple #[v0, v1, v2])) w) : bodyPost P fn R .ret a w := by
  have e0 := hf.slots _ _ h0
  have e1 := hf.slots _ _ h1
  have e2 := hf.slots _ _ h2
  refine bodyPost_ret (v := .tuple #[v0, v1, v2]) ?_ hf.defers h
  simp [results, hr, Array.getD_eq_getD_getElem?, e0, e1, e2]

theorem ret4 {fn : Func} {R : Ending → World → Prop} {t0 t1 t2 t3 : Nat} {v0 v1 v2 v3 : Value} (hf : Fr n a L) (hr : fn.results = #[.tmp t0, .tmp t1, .tmp t2, .tmp t3]) (h0 : lk L t0 = some v0) (h1 : lk L t1 = some v1) (h2 : lk L t2 = some v2) (h3 : lk L t3 = some v3)
    (h : R (.returned (.tuple #[v0, v1, v2, v3])) w) : bodyPost P fn R .ret a w := by
  have e0 := hf.slots _ _ h0
  have e1 := hf.slots _ _ h1
  have e2 := hf.slots _ _ h2
  have e3 := hf.slots _ _ h3
  refine bodyPost_ret (v := .tuple #[v0, v1, v2, v3]) ?_ hf.defers h
  simp [results, hr, Array.getD_eq_getD_getElem?, e0, e1, e2, e3]

section moves
variable {next : Act → World → Prop} {id id' : Nat} {k : Exit} {α β : Type} {r : β}
theorem th_n (h : next a w) : Exit.then next Q .normal a w := h
theorem th_e (h : Q (.exit id) a w) : Exit.then next Q (.exit id) a w := h
theorem th_r (h : Q .ret a w) : Exit.then next Q .ret a w := h
theorem ib_n (h : Q .normal a w) : Exit.inBlock id Q .normal a w := h
theorem ib_r (h : Q .ret a w) : Exit.inBlock id Q .ret a w := h
theorem ib_same (h : Q .normal a w) : Exit.inBlock id Q (.exit id) a w := by simpa [Exit.inBlock] using h
theorem chk {c : Prop} [Decidable c] {x : Option β} (h : (if c then x else none) = some r) : c ∧ x = some r := by
  split at h
  · exact ⟨‹c›, h⟩
  · cases h
theorem ifT {b : Bool} {x y : Option β} (h : (if b = true then x else y) = some r) (hb : b = true) : x = some r := by rwa [if_pos hb] at h
theorem ifF {b : Bool} {x y : Option β} (h : (if b = true then x else y) = some r) (hb : b = false) : y = some r := by
  rw [hb, if_neg (by decide)] at h; exact h
theorem bnd {x : Option α} {f : α → Option β} (h : x.bind f = some r) : ∃ t, x = some t ∧ f t = some r := Option.bind_eq_some_iff.1 h

theorem wpList_append {l l' : List Oper} : ∀ {a : Act} {w : World}, wpList P ops (Exit.then (wpList P ops Q l') Q) l a w → wpList P ops Q (l ++ l') a w := by
  induction l with
  | nil => intro a w h; exact h
  | cons o l ih =>
    intro a w h
    simp only [List.cons_append]
    unfold wpList at h ⊢
    split
    · rename_i hw
      rw [if_pos hw] at h
      rcases h with h | ⟨h1, h2⟩
      · refine .inl ?_
        unfold Oper.wp at *
        generalize (execOp a.eval o).run P w = r at *
        cases r with
        | ok nx w' =>
          cases nx <;> simp only [Oper.upon] at h ⊢ <;>
            first
              | exact ih h
              | exact Calls.mono h (fun e w'' he => by cases e <;> first | exact ih he | exact he)
              | exact Rows.mono h (fun _ _ he => ih he)
        | halt x w' => cases x <;> simp only [Oper.upon] at h ⊢ <;> exact h
      · exact .inr ⟨h1, h2⟩
    · rename_i hw; rw [if_neg hw] at h; exact ih h

theorem wpList_mono {Q' : Exit → Act → World → Prop} (hq : ∀ e a w, Q e a w → Q' e a w) : ∀ (l : List Oper) (a : Act) (w : World), wpList P ops Q l a w → wpList P ops Q' l a w := by
  have hlo : LetsOut Q → LetsOut Q' := fun ⟨a, w, h⟩ => ⟨a, w, hq _ _ _ h⟩
  intro l
  induction l with
  | nil => intro a w h; exact hq _ _ _ h
  | cons o l ih =>
    intro a w h
    unfold wpList at h ⊢
    split
    · rename_i hw
      rw [if_pos hw] at h
      rcases h with h | ⟨h1, h2⟩
      · refine .inl ?_
        unfold Oper.wp at *
        generalize (execOp a.eval o).run P w = r at *
        cases r with
        | ok nx w' =>
          cases nx <;> simp only [Oper.upon] at h ⊢ <;>
            first
              | exact ih _ _ h
              | exact Calls.mono h (fun e w'' he => by cases e <;> first | exact ih _ _ he | exact hq _ _ _ he | exact hlo he)
              | exact Rows.mono h (fun _ _ he => ih _ _ he)
        | halt x w' => cases x <;> simp only [Oper.upon] at h ⊢ <;> first | exact hq _ _ _ h | exact h
      · exact .inr ⟨h1, hlo h2⟩
    · rename_i hw; rw [if_neg hw] at h; exact ih _ _ h

theorem wpList_cut (m : Nat) (M : Act → World → Prop) {l : List Oper} (h1 : wpList P ops (Exit.then M Q) (l.take m) a w) (h2 : ∀ a w, M a w → wpList P ops Q (l.drop m) a w) : wpList P ops Q l a w := by
  rw [← List.take_append_drop m l]
  exact wpList_append (wpList_mono (fun e a w h => by cases e <;> first | exact h2 _ _ h | exact h) _ _ _ h1)

theorem wp_seq_cut (M : Act → World → Prop) {x y : Code} (h1 : x.wp P (Exit.then M Q) a w) (h2 : ∀ a w, M a w → y.wp P Q a w) : (Code.seq x y).wp P Q a w :=
  wp_seq (wp_mono h1 fun e a w h => by cases e <;> first | exact h2 _ _ h | exact h)

theorem rnd_l {St R : Type} {I : St → Act → World → Prop} {O : R → Exit → Act → World → Prop} {s : St} (h : I s a w) : Rnd I O (.inl s) .normal a w := ⟨rfl, h⟩
theorem rnd_r {St R : Type} {I : St → Act → World → Prop} {O : R → Exit → Act → World → Prop} {r : R} {e : Exit} (hne : e ≠ .normal) (h : O r e a w) : Rnd I O (.inr r) e a w := ⟨hne, h⟩
end moves
end GL
