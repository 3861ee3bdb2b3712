/- Own library, part P: regions that draw, with late writes; pointers that may be nil. -/
import Derived.Test.YtgdhjjdgghilhaaGreatGlO
set_option linter.unusedVariables false
set_option linter.unusedSimpArgs false
namespace GL
open Go

variable {P : Program} {ops : Array Oper} {Q : Exit → Act → World → Prop} {md : Region.Mode} {C : World → Prop} {Nk : List Nat}

def anc (md : Region.Mode) (ops : Array Oper) : Nat → Nat → Nat → Bool
  | 0, _, _ => false
  | f + 1, j, i => match ops[j]? with
    | some oj => oj.after.any fun e => Region.binds md e && (e.on == i || anc md ops f e.on i)
    | none => false
def Closed (md : Region.Mode) (ops : Array Oper) (listed : Array Bool) : Prop :=
  ∀ (k : Nat) (o : Oper), ops[k]? = some o → listed.getD k false = true → ∀ e ∈ o.after, Region.binds md e = true → listed.getD e.on false = true
def closedB (md : Region.Mode) (ops : Array Oper) (listed : Array Bool) : Bool := (List.range ops.size).all fun k => match ops[k]? with
  | some o => !(listed.getD k false) || o.after.all fun e => !Region.binds md e || listed.getD e.on false
  | none => true
theorem closed_of {listed : Array Bool} (h : closedB md ops listed = true) : Closed md ops listed := by
  intro k o ho hl e he hb
  have hk : k < ops.size := (Array.getElem?_eq_some_iff.1 ho).1
  have h1 := List.all_eq_true.1 h k (List.mem_range.2 hk)
  simp only [ho, hl, Bool.not_true, Bool.false_or] at h1
  have h2 := (Array.all_eq_true_iff_forall_mem.1 h1) e he
  simpa [hb] using h2
theorem Closed.put {listed : Array Bool} {j : Nat} (h : Closed md ops listed) (hj : j ∈ Region.ready md ops listed) : Closed md ops (listed.setIfInBounds j true) := by
  intro k o ho hl e he hb
  by_cases hjk : j = k
  · subst hjk
    obtain ⟨_, o', ho', hall⟩ := mem_ready.1 hj
    rw [ho] at ho'
    obtain rfl := Option.some.inj ho'
    exact getD_set_true (hall e he hb)
  · rw [getD_set_ne false hjk] at hl
    exact getD_set_true (h k o ho hl e he hb)
theorem Closed.anc {listed : Array Bool} {i : Nat} (h : Closed md ops listed) : ∀ (f j : Nat) (o : Oper), ops[j]? = some o → (∀ e ∈ o.after, Region.binds md e = true → listed.getD e.on false = true) →
    anc md ops f j i = true → listed.getD i false = true
  | 0, _, _, _, _, h0 => by simp [GL.anc] at h0
  | f + 1, j, o, ho, hall, ha => by
    simp only [GL.anc, ho] at ha
    obtain ⟨e, he, hb⟩ := Array.any_eq_true'.1 ha
    simp only [Bool.and_eq_true, Bool.or_eq_true, beq_iff_eq] at hb
    have hl := hall e he hb.1
    rcases hb.2 with h2 | h2
    · rw [← h2]; exact hl
    · cases hoe : ops[e.on]? with
      | none =>
        cases f with
        | zero => simp [GL.anc] at h2
        | succ f => simp [GL.anc, hoe] at h2
      | some oe => exact Closed.anc h f e.on oe hoe (h e.on oe hoe hl) h2

theorem anyP_first2 {i : Nat} {oi : Oper} {v : Value} (hi : ops[i]? = some oi) (hF : Nk.all (fun j => anc md ops ops.size j i) = true) (hsel : ∀ (j : Nat) (o : Oper) cs b, ops[j]? = some o → o.op ≠ .select cs b)
    (hQ : ∀ c a w, Q (.panic c) (a.put oi.dst v) w → Q (.panic c) a w) :
    ∀ (m : Nat) (listed : Array Bool) (a : Act) (w : World), Closed md ops listed →
      (∀ j oj, ops[j]? = some oj → j ≠ i → listed.getD j true = false → (∀ e ∈ oj.after, Region.binds md e = true → e.on ≠ i) → oi.apart ops oj = true) →
      i ∈ Region.ready md ops listed → YieldsIf P ops C oi v a → C w →
      anyP P md ops Q C Nk m (listed.setIfInBounds i true) (a.put oi.dst v) w → anyP P md ops Q C Nk (m + 1) listed a w := by
  intro m
  induction m with
  | zero =>
    intro listed a w _ _ hr hy hC H
    refine ⟨fun h => (by rw [h] at hr; cases hr), fun j hj => ?_⟩
    by_cases hji : j = i
    · subst hji; exact hy.wpOp hi hC ⟨fun _ h => h, H⟩
    · have := ready_mono hj hji
      rw [H.1] at this
      cases this
  | succ m ih =>
    intro listed a w hcl hfree hr hy hC H
    refine ⟨fun h => (by rw [h] at hr; cases hr), fun j hj => ?_⟩
    by_cases hji : j = i
    · subst hji; exact hy.wpOp hi hC ⟨fun _ h => h, H⟩
    · have h1 := H.2 j (ready_mono hj hji)
      obtain ⟨hjun, oj, hoj, hall⟩ := mem_ready.1 hj
      have hiun := (mem_ready.1 hr).1
      have hno : listed.getD i false ≠ true := fun h1 => by
        rcases Nat.lt_or_ge i listed.size with h' | h'
        · simp [h'] at hiun h1; rw [hiun] at h1; cases h1
        · simp [Array.getElem?_eq_none h'] at h1
      have hnot : ∀ e ∈ oj.after, Region.binds md e = true → e.on ≠ i := fun e he hb heq => hno (heq ▸ hall e he hb)
      have hkeep : Nk.contains j = false := by
        cases hc : Nk.contains j with
        | false => rfl
        | true =>
          have hm : j ∈ Nk := by simpa using hc
          exact absurd (hcl.anc _ j oj hoj hall (List.all_eq_true.1 hF j hm)) hno
      have h2 := wpOp_putIf hoj (hfree j oj hoj hji hjun hnot) (fun cs b => hsel i oi cs b hi) (fun cs b => hsel j oj cs b hoj) hQ hy h1
      have hfree' : ∀ k ok, ops[k]? = some ok → k ≠ i → (listed.setIfInBounds j true).getD k true = false →
          (∀ e ∈ ok.after, Region.binds md e = true → e.on ≠ i) → oi.apart ops ok = true := fun k ok hk hki hun hno => by
        refine hfree k ok hk hki ?_ hno
        by_cases hjk : j = k
        · subst hjk; exact hjun
        · rw [getD_set_ne true hjk] at hun; exact hun
      refine wpOp_mono (fun a' w' h3 => ?_) h2
      obtain ⟨h31, h32, h33⟩ := h3
      exact ⟨h32, ih (listed.setIfInBounds j true) a' w' (hcl.put hj) hfree' (ready_mono hr (Ne.symm hji)) h31 (h32 hkeep hC) (by rw [Array.setIfInBounds_comm _ _ hji]; exact h33)⟩

theorem anyP_firstP {i : Nat} {oi : Oper} {v : Value} (hi : ops[i]? = some oi) (hsel : ∀ (j : Nat) (o : Oper) cs b, ops[j]? = some o → o.op ≠ .select cs b)
    (hQ : ∀ c a w, Q (.panic c) (a.put oi.dst v) w → Q (.panic c) a w) :
    ∀ (m : Nat) (listed : Array Bool) (a : Act) (w : World),
      (∀ j oj, ops[j]? = some oj → j ≠ i → listed.getD j true = false → (∀ e ∈ oj.after, Region.binds md e = true → e.on ≠ i) → oi.apart ops oj = true) →
      i ∈ Region.ready md ops listed → YieldsIf P ops (fun _ => True) oi v a →
      anyP P md ops Q C Nk m (listed.setIfInBounds i true) (a.put oi.dst v) w → anyP P md ops Q C Nk (m + 1) listed a w := by
  intro m
  induction m with
  | zero =>
    intro listed a w _ hr hy H
    refine ⟨fun h => (by rw [h] at hr; cases hr), fun j hj => ?_⟩
    by_cases hji : j = i
    · subst hji; exact hy.wpOp hi trivial ⟨fun _ h => h, H⟩
    · have := ready_mono hj hji
      rw [H.1] at this
      cases this
  | succ m ih =>
    intro listed a w hfree hr hy H
    refine ⟨fun h => (by rw [h] at hr; cases hr), fun j hj => ?_⟩
    by_cases hji : j = i
    · subst hji; exact hy.wpOp hi trivial ⟨fun _ h => h, H⟩
    · have h1 := H.2 j (ready_mono hj hji)
      obtain ⟨hjun, oj, hoj, hall⟩ := mem_ready.1 hj
      have hiun := (mem_ready.1 hr).1
      have hnot : ∀ e ∈ oj.after, Region.binds md e = true → e.on ≠ i := fun e he hb heq => by
        have h1 := hall e he hb
        rw [heq] at h1
        rcases Nat.lt_or_ge i listed.size with h' | h'
        · simp [h'] at hiun h1; rw [hiun] at h1; cases h1
        · simp [Array.getElem?_eq_none h'] at h1
      have h2 := wpOp_putIf hoj (hfree j oj hoj hji hjun hnot) (fun cs b => hsel i oi cs b hi) (fun cs b => hsel j oj cs b hoj) hQ hy h1
      have hfree' : ∀ k ok, ops[k]? = some ok → k ≠ i → (listed.setIfInBounds j true).getD k true = false →
          (∀ e ∈ ok.after, Region.binds md e = true → e.on ≠ i) → oi.apart ops ok = true := fun k ok hk hki hun hno => by
        refine hfree k ok hk hki ?_ hno
        by_cases hjk : j = k
        · subst hjk; exact hjun
        · rw [getD_set_ne true hjk] at hun; exact hun
      refine wpOp_mono (fun a' w' h3 => ?_) h2
      obtain ⟨h31, h32, h33⟩ := h3
      exact ⟨h32, ih (listed.setIfInBounds j true) a' w' hfree' (ready_mono hr (Ne.symm hji)) h31 (by rw [Array.setIfInBounds_comm _ _ hji]; exact h33)⟩

variable {n : Nat} {a : Act} {L : List (Nat × Value)} {w : World} {M : Act → World → Prop} {m : Nat} {listed : Array Bool}

theorem dr_take2 (i : Nat) {oi : Oper} (v : Value) {d : Nat} (hi : ops[i]? = some oi) (hF : Nk.all (fun j => anc md ops ops.size j i) = true) (hcl : closedB md ops listed = true) (hs : Region.noSelect ops = true)
    (hf : Region.free md ops listed i = true) (hr : (Region.ready md ops listed).contains i = true) (hfo : freeOp oi.op = true) (hdst : oi.dst = some d)
    (hfr : Fr n a L) (hd : d < n) (hw : Region.wanted oi (yielded ops a.tmps) = true)
    (hy : ∀ w, C w → wpList P ops (Exit.then (fun a' w' => a' = a.put (some d) v ∧ w' = w) noQ) [oi] a w) (hC : C w)
    (h : ∀ a', Fr n a' ((d, v) :: L) → anyP P md ops (Exit.then M noQ) C Nk m (listed.setIfInBounds i true) a' w) : anyP P md ops (Exit.then M noQ) C Nk (m + 1) listed a w := by
  refine anyP_first2 (v := v) hi hF (Region.noSelect_spec hs) (fun _ _ _ h => h.elim) m listed a w (closed_of hcl) (Region.free_spec hi hf) (by simpa using hr) (.inl ⟨hw, fun w hCw => ?_⟩) hC ?_
  · exact run_of_wp hfr hdst hd hfo hw (hy w hCw)
  · rw [hdst]; exact h _ (hfr.put hd v)

theorem dr_takeP (i : Nat) {oi : Oper} (v : Value) {d : Nat} (hi : ops[i]? = some oi) (hs : Region.noSelect ops = true)
    (hf : Region.free md ops listed i = true) (hr : (Region.ready md ops listed).contains i = true) (hfo : freeOp oi.op = true) (hdst : oi.dst = some d)
    (hfr : Fr n a L) (hd : d < n) (hw : Region.wanted oi (yielded ops a.tmps) = true)
    (hy : ∀ w, wpList P ops (Exit.then (fun a' w' => a' = a.put (some d) v ∧ w' = w) noQ) [oi] a w)
    (h : ∀ a', Fr n a' ((d, v) :: L) → anyP P md ops (Exit.then M noQ) C Nk m (listed.setIfInBounds i true) a' w) : anyP P md ops (Exit.then M noQ) C Nk (m + 1) listed a w := by
  refine anyP_firstP (v := v) hi (Region.noSelect_spec hs) (fun _ _ _ h => h.elim) m listed a w (Region.free_spec hi hf) (by simpa using hr) (.inl ⟨hw, fun w _ => ?_⟩) ?_
  · exact run_of_wp hfr hdst hd hfo hw (hy w)
  · rw [hdst]; exact h _ (hfr.put hd v)

theorem dr_outP (i : Nat) {oi : Oper} {d : Nat} (hi : ops[i]? = some oi) (hs : Region.noSelect ops = true)
    (hf : Region.free md ops listed i = true) (hr : (Region.ready md ops listed).contains i = true) (hdst : oi.dst = some d)
    (hfr : Fr n a L) (hd : d < n) (hw : Region.wanted oi (yielded ops a.tmps) = false)
    (h : ∀ a', Fr n a' ((d, undef) :: L) → anyP P md ops (Exit.then M noQ) C Nk m (listed.setIfInBounds i true) a' w) : anyP P md ops (Exit.then M noQ) C Nk (m + 1) listed a w := by
  refine anyP_firstP (v := undef) hi (Region.noSelect_spec hs) (fun _ _ _ h => h.elim) m listed a w (Region.free_spec hi hf) (by simpa using hr) (.inr ⟨hw, rfl⟩) ?_
  rw [hdst]
  exact h _ (hfr.put hd undef)

theorem dr_two (i j : Nat) {oi oj : Oper} (hi : ops[i]? = some oi) (hj : ops[j]? = some oj) (hr : Region.ready md ops listed = [i, j])
    (h1 : wpList P ops (Exit.then (fun a' w' => (Nk.contains i = false → C w → C w') ∧ anyP P md ops (Exit.then M noQ) C Nk m (listed.setIfInBounds i true) a' w') noQ) [oi] a w)
    (h2 : wpList P ops (Exit.then (fun a' w' => (Nk.contains j = false → C w → C w') ∧ anyP P md ops (Exit.then M noQ) C Nk m (listed.setIfInBounds j true) a' w') noQ) [oj] a w) :
    anyP P md ops (Exit.then M noQ) C Nk (m + 1) listed a w := by
  have key : ∀ (k : Nat) (ok : Oper), ops[k]? = some ok →
      wpList P ops (Exit.then (fun a' w' => (Nk.contains k = false → C w → C w') ∧ anyP P md ops (Exit.then M noQ) C Nk m (listed.setIfInBounds k true) a' w') noQ) [ok] a w →
      wpOp P ops (Exit.then M noQ) k (fun a' w' => (Nk.contains k = false → C w → C w') ∧ anyP P md ops (Exit.then M noQ) C Nk m (listed.setIfInBounds k true) a' w') a w := by
    intro k ok hk h
    unfold wpOp
    simp only [hk]
    unfold wpList at h
    have hlo : LetsOut (Exit.then (fun a' w' => (Nk.contains k = false → C w → C w') ∧ anyP P md ops (Exit.then M noQ) C Nk m (listed.setIfInBounds k true) a' w') noQ) → LetsOut (Exit.then M noQ) :=
      fun ⟨_, _, h⟩ => h.elim
    split at h
    · rename_i hw
      rw [if_pos hw]
      rcases h with h | ⟨h1, h2⟩
      · refine .inl ?_
        unfold Oper.wp at *
        generalize (execOp a.eval ok).run P w = r at *
        cases r with
        | ok nx w' =>
          cases nx <;> simp only [Oper.upon] at h ⊢ <;>
            first
              | exact h
              | exact Calls.mono h (fun e w'' he => by cases e <;> first | exact he | exact hlo he)
              | exact Rows.mono h (fun _ _ he => he)
        | halt x w' => cases x <;> simp only [Oper.upon] at h ⊢ <;> exact h
      · exact .inr ⟨h1, hlo h2⟩
    · rename_i hw; rw [if_neg hw]; exact h
  refine ⟨fun h0 => (by rw [hr] at h0; cases h0), fun k hk => ?_⟩
  rw [hr] at hk
  simp only [List.mem_cons, List.not_mem_nil, or_false] at hk
  rcases hk with rfl | rfl
  · exact key _ oi hi h1
  · exact key _ oj hj h2
end GL
