/- Own library, part I: regions that draw their order: operations that leave the world alone are taken first; the others come in the one order that is left. -/
import Derived.Test.YtgdhjjdgghilhaaGreatGlH
set_option linter.unusedVariables false
set_option linter.unusedSimpArgs false
namespace GL
open Go

variable {P : Program} {ops : Array Oper} {Q : Exit → Act → World → Prop} {md : Region.Mode} {C : World → Prop} {Nk : List Nat}

def anyP (P : Program) (md : Region.Mode) (ops : Array Oper) (Q : Exit → Act → World → Prop) (C : World → Prop) (Nk : List Nat) : Nat → Array Bool → Act → World → Prop
  | 0, listed, a, w => Region.ready md ops listed = [] ∧ Q .normal a w
  | m + 1, listed, a, w =>
    (Region.ready md ops listed = [] → Q .normal a w) ∧
    ∀ i ∈ Region.ready md ops listed, wpOp P ops Q i (fun a' w' => (Nk.contains i = false → C w → C w') ∧ anyP P md ops Q C Nk m (listed.setIfInBounds i true) a' w') a w

theorem anyP_any : ∀ (m : Nat) (listed : Array Bool) (a : Act) (w : World), anyP P md ops Q C Nk m listed a w → wpAny P md ops Q m listed a w
  | 0, _, _, _, h => h
  | m + 1, _, _, _, h => ⟨h.1, fun i hi => wpOp_mono (fun a' w' h' => anyP_any m _ a' w' h'.2) (h.2 i hi)⟩

def waitAll (md : Region.Mode) (ops : Array Oper) (Nk : List Nat) (i : Nat) : Bool :=
  Nk.all fun j => match ops[j]? with
    | some oj => oj.after.any fun e => Region.binds md e && e.on == i
    | none => false

theorem anyP_first {i : Nat} {oi : Oper} {v : Value} (hi : ops[i]? = some oi) (hF : waitAll md ops Nk i = true) (hsel : ∀ (j : Nat) (o : Oper) cs b, ops[j]? = some o → o.op ≠ .select cs b)
    (hQ : ∀ c a w, Q (.panic c) (a.put oi.dst v) w → Q (.panic c) a w) :
    ∀ (m : Nat) (listed : Array Bool) (a : Act) (w : World),
      (∀ j oj, ops[j]? = some oj → j ≠ i → listed.getD j true = false → (∀ e ∈ oj.after, Region.binds md e = true → e.on ≠ i) → oi.apart ops oj = true) →
      i ∈ Region.ready md ops listed → YieldsIf P ops C oi v a → C w →
      anyP P md ops Q C Nk m (listed.setIfInBounds i true) (a.put oi.dst v) w → anyP P md ops Q C Nk (m + 1) listed a w := by
  intro m
  induction m with
  | zero =>
    intro listed a w _ hr hy hC H
    refine ⟨fun h => (by rw [h] at hr; cases hr), fun j hj => ?_⟩
    by_cases hji : j = i
    · subst hji; exact hy.wpOp hi hC ⟨fun _ h => h, H⟩
    · have := ready_mono hj hji
      rw [H.1] at this
      cases this
  | succ m ih =>
    intro listed a w hfree hr hy hC H
    refine ⟨fun h => (by rw [h] at hr; cases hr), fun j hj => ?_⟩
    by_cases hji : j = i
    · subst hji; exact hy.wpOp hi hC ⟨fun _ h => h, H⟩
    · have h1 := H.2 j (ready_mono hj hji)
      obtain ⟨hjun, oj, hoj, hall⟩ := mem_ready.1 hj
      have hiun := (mem_ready.1 hr).1
      have hnot : ∀ e ∈ oj.after, Region.binds md e = true → e.on ≠ i := fun e he hb heq => by
        have h1 := hall e he hb
        rw [heq] at h1
        rcases Nat.lt_or_ge i listed.size with h' | h'
        · simp [h'] at hiun h1; rw [hiun] at h1; cases h1
        · simp [Array.getElem?_eq_none h'] at h1
      have hkeep : Nk.contains j = false := by
        cases hc : Nk.contains j with
        | false => rfl
        | true =>
          have hm : j ∈ Nk := by simpa using hc
          have := List.all_eq_true.1 hF j hm
          simp only [hoj] at this
          obtain ⟨e, he, hb⟩ := Array.any_eq_true'.1 this
          simp only [Bool.and_eq_true, beq_iff_eq] at hb
          exact absurd hb.2 (hnot e he hb.1)
      have h2 := wpOp_putIf hoj (hfree j oj hoj hji hjun hnot) (fun cs b => hsel i oi cs b hi) (fun cs b => hsel j oj cs b hoj) hQ hy h1
      have hfree' : ∀ k ok, ops[k]? = some ok → k ≠ i → (listed.setIfInBounds j true).getD k true = false →
          (∀ e ∈ ok.after, Region.binds md e = true → e.on ≠ i) → oi.apart ops ok = true := fun k ok hk hki hun hno => by
        refine hfree k ok hk hki ?_ hno
        by_cases hjk : j = k
        · subst hjk; exact hjun
        · rw [getD_set_ne true hjk] at hun; exact hun
      refine wpOp_mono (fun a' w' h3 => ?_) h2
      obtain ⟨h31, h32, h33⟩ := h3
      exact ⟨h32, ih (listed.setIfInBounds j true) a' w' hfree' (ready_mono hr (Ne.symm hji)) h31 (h32 hkeep hC) (by rw [Array.setIfInBounds_comm _ _ hji]; exact h33)⟩

abbrev noQ : Exit → Act → World → Prop := fun _ _ _ => False

theorem dr_begin {id : Nat} {l : List Oper} {a : Act} {w : World} (M : Act → World → Prop) (C : World → Prop) (Nk : List Nat) (hm : P.follows .mixedOrders = true)
    (h : anyP P .any l.toArray (Exit.then M noQ) C Nk l.length (Array.replicate l.length false) a { w with drawn := w.drawn + 1 }) (h2 : ∀ a w, M a w → Q .normal a w) :
    (Code.region id l.toArray true).wp P Q a w := by
  refine wp_mono (Q := Exit.then M noQ) (wp_region_any hm ?_) fun e a w h => by cases e <;> first | exact h2 _ _ h | exact h.elim
  have := anyP_any _ _ _ _ h
  simpa using this

variable {n : Nat} {a : Act} {L : List (Nat × Value)} {w : World} {M : Act → World → Prop} {m : Nat} {listed : Array Bool}

def freeOp : Op → Bool
  | .move _ | .assign _ | .pick _ _ _ | .binOp _ _ _ _ _ | .unOp _ _ _ | .convert _ _ _ | .load _ _ | .fieldAddr _ _ _ | .field _ _ _ | .indexAddr _ _ _ | .index _ _ _ | .slice _ _ _ _ _ | .extract _ _ | .build _ _ | .makeFunc _ _ _ => true
  | .call ⟨.builtin b, _, _⟩ => match b with | .len | .min | .max | .real | .imag | .complex => true | _ => false
  | _ => false

theorem run_v {α : Type} (s : Sem Value) {nx : Next} {w w' : World} (h : (do pure (.value (← s)) : Sem Next).run P w = .ok nx w') : ∃ v, nx = .value v := by
  rw [Sem.run_bind] at h
  cases hs : s.run P w with
  | ok v w1 => rw [hs] at h; simp [Result.andThen, Sem.run, pure] at h; exact ⟨v, h.1.symm⟩
  | halt x w1 => rw [hs] at h; simp [Result.andThen] at h

theorem freeOp_value {ρ : Operand → Value} {o : Oper} (hf : freeOp o.op = true) {nx : Next} {w w' : World} (h : (execOp ρ o).run P w = .ok nx w') : ∃ v, nx = .value v := by
  obtain ⟨dst, op, ty, pos, af, g⟩ := o
  cases op <;> simp only [freeOp, Bool.false_eq_true] at hf <;> simp only [execOp] at h
  case move x => simp [Sem.run, pure] at h; exact ⟨_, h.1.symm⟩
  case assign x => simp [Sem.run, pure] at h; exact ⟨_, h.1.symm⟩
  case pick c x y =>
    rw [Sem.run_bind] at h
    cases hs : (asBool (ρ c)).run P w with
    | ok b w1 => rw [hs] at h; simp [Result.andThen, Sem.run, pure] at h; exact ⟨_, h.1.symm⟩
    | halt z w1 => rw [hs] at h; simp [Result.andThen] at h
  case call c =>
    obtain ⟨cal, args, tys⟩ := c
    cases cal with
    | builtin b =>
      cases b <;> simp only [Bool.false_eq_true] at hf <;>
        · simp only [resolve, Sem.run_bind] at h
          simp only [Sem.run, pure, Result.andThen_ok, invoke, builtin] at h
          exact run_v (α := Value) _ h
    | value f => simp at hf
    | invoke r n => simp at hf
  all_goals exact run_v (α := Value) _ h

theorem run_of_wp {o : Oper} {v : Value} {d : Nat} (hf : Fr n a L) (hdst : o.dst = some d) (hd : d < n) (hfo : freeOp o.op = true)
    (hw : Region.wanted o (yielded ops a.tmps) = true)
    (h : wpList P ops (Exit.then (fun a' w' => a' = a.put (some d) v ∧ w' = w) noQ) [o] a w) : (execOp a.eval o).run P w = .ok (.value v) w := by
  unfold wpList at h
  rw [if_pos hw] at h
  rcases h with h | ⟨_, a', w', h⟩
  · unfold Oper.wp at h
    cases hr : (execOp a.eval o).run P w with
    | ok nx w' =>
      obtain ⟨u, rfl⟩ := freeOp_value hfo hr
      rw [hr] at h
      simp only [Oper.upon, hdst, wpList] at h
      obtain ⟨h1, h2⟩ := h
      have := congrArg (fun x : Act => x.tmps[d]?) h1
      have e : u = v := by simpa [Act.put, hf.size, hd] using this
      rw [e, h2]
    | halt x w' => rw [hr] at h; cases x <;> simp only [Oper.upon] at h <;> exact h.elim
  · exact h.elim

theorem dr_take (i : Nat) {oi : Oper} (v : Value) {d : Nat} (hi : ops[i]? = some oi) (hF : waitAll md ops Nk i = true) (hs : Region.noSelect ops = true)
    (hf : Region.free md ops listed i = true) (hr : (Region.ready md ops listed).contains i = true) (hfo : freeOp oi.op = true) (hdst : oi.dst = some d)
    (hfr : Fr n a L) (hd : d < n) (hw : Region.wanted oi (yielded ops a.tmps) = true)
    (hy : ∀ w, C w → wpList P ops (Exit.then (fun a' w' => a' = a.put (some d) v ∧ w' = w) noQ) [oi] a w) (hC : C w)
    (h : ∀ a', Fr n a' ((d, v) :: L) → anyP P md ops (Exit.then M noQ) C Nk m (listed.setIfInBounds i true) a' w) : anyP P md ops (Exit.then M noQ) C Nk (m + 1) listed a w := by
  refine anyP_first (v := v) hi hF (Region.noSelect_spec hs) (fun _ _ _ h => h.elim) m listed a w (Region.free_spec hi hf) (by simpa using hr) (.inl ⟨hw, fun w hCw => ?_⟩) hC ?_
  · exact run_of_wp hfr hdst hd hfo hw (hy w hCw)
  · rw [hdst]; exact h _ (hfr.put hd v)

theorem dr_out (i : Nat) {oi : Oper} {d : Nat} (hi : ops[i]? = some oi) (hF : waitAll md ops Nk i = true) (hs : Region.noSelect ops = true)
    (hf : Region.free md ops listed i = true) (hr : (Region.ready md ops listed).contains i = true) (hdst : oi.dst = some d)
    (hfr : Fr n a L) (hd : d < n) (hn : lk L d = none) (hw : Region.wanted oi (yielded ops a.tmps) = false) (hC : C w)
    (h : ∀ a', Fr n a' L → anyP P md ops (Exit.then M noQ) C Nk m (listed.setIfInBounds i true) a' w) : anyP P md ops (Exit.then M noQ) C Nk (m + 1) listed a w := by
  refine anyP_first (v := undef) hi hF (Region.noSelect_spec hs) (fun _ _ _ h => h.elim) m listed a w (Region.free_spec hi hf) (by simpa using hr) (.inr ⟨hw, rfl⟩) hC ?_
  rw [hdst]
  refine h _ ?_
  have h1 := hfr.put hd undef
  refine ⟨h1.size, h1.defers, fun i v hl => h1.slots i v ?_⟩
  by_cases hi : d = i
  · subst hi; rw [hn] at hl; cases hl
  · rw [lk_cons_ne _ _ hi]; exact hl

theorem dr_one (i : Nat) {oi : Oper} (hi : ops[i]? = some oi) (hr : Region.ready md ops listed = [i])
    (h : wpList P ops (Exit.then (fun a' w' => (Nk.contains i = false → C w → C w') ∧ anyP P md ops (Exit.then M noQ) C Nk m (listed.setIfInBounds i true) a' w') noQ) [oi] a w) :
    anyP P md ops (Exit.then M noQ) C Nk (m + 1) listed a w := by
  refine ⟨fun h0 => (by rw [hr] at h0; cases h0), fun j hj => ?_⟩
  rw [hr] at hj
  obtain rfl : j = i := by simpa using hj
  unfold wpOp
  simp only [hi]
  unfold wpList at h
  have hlo : LetsOut (Exit.then (fun a' w' => (Nk.contains j = false → C w → C w') ∧ anyP P md ops (Exit.then M noQ) C Nk m (listed.setIfInBounds j true) a' w') noQ) → LetsOut (Exit.then M noQ) :=
    fun ⟨_, _, h⟩ => h.elim
  split at h
  · rename_i hw
    rw [if_pos hw]
    rcases h with h | ⟨h1, h2⟩
    · refine .inl ?_
      unfold Oper.wp at *
      generalize (execOp a.eval oi).run P w = r at *
      cases r with
      | ok nx w' =>
        cases nx <;> simp only [Oper.upon] at h ⊢ <;>
          first
            | exact h
            | exact Calls.mono h (fun e w'' he => by cases e <;> first | exact he | exact hlo he)
            | exact Rows.mono h (fun _ _ he => he)
      | halt x w' => cases x <;> simp only [Oper.upon] at h ⊢ <;> exact h
    · exact .inr ⟨h1, hlo h2⟩
  · rename_i hw; rw [if_neg hw]; exact h

theorem dr_end (hr : Region.ready md ops listed = []) (h : M a w) : ∀ m, anyP P md ops (Exit.then M noQ) C Nk m listed a w
  | 0 => ⟨hr, h⟩
  | m + 1 => ⟨fun _ => h, by rw [hr]; simp⟩
end GL
namespace GL
open Go
theorem wp_cutN {P : Program} {Q : Exit → Act → World → Prop} {a : Act} {w : World} {c : Code} (M : Act → World → Prop) (h : c.wp P (Exit.then M noQ) a w) (h2 : ∀ a w, M a w → Q .normal a w) : c.wp P Q a w :=
  wp_mono (Q := Exit.then M noQ) h fun e a w h => by cases e <;> first | exact h2 _ _ h | exact h.elim
theorem dr_begin' {P : Program} {id : Nat} {l : List Oper} {a : Act} {w : World} (M : Act → World → Prop) (C : World → Prop) (Nk : List Nat) (hm : P.follows .mixedOrders = true)
    (h : anyP P .any l.toArray (Exit.then M noQ) C Nk l.length (Array.replicate l.length false) a { w with drawn := w.drawn + 1 }) :
    (Code.region id l.toArray true).wp P (Exit.then M noQ) a w := dr_begin M C Nk hm h fun _ _ h => h
end GL
