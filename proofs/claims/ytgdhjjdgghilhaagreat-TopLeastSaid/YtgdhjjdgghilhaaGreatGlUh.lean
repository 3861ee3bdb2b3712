/- Own library, part Uh: walks in the frames of rounds; a range over slices.Backward. -/
import Derived.Test.YtgdhjjdgghilhaaGreatGlUg
import Derived.RangeFuncLeaves
import Derived.RangeFuncRecord
import Derived.RangeFuncSeq
import Derived.LoopNIn
import Derived.TacticsIn
import Derived.Orders
set_option linter.unusedVariables false
set_option linter.unusedSimpArgs false
namespace GL
open Go
variable {P : Program} {Q : Exit → Act → World → Prop} {a : Act} {w : World} {ops : Array Oper}

inductive WF : Fence → Prop
  | wide : WF Fence.wide
  | round (k : Nat) : WF (Fence.wide.inRound k)
theorem WF.fn {F : Fence} (h : WF F) (f : FuncId) : F.fn f := by cases h <;> exact trivial
theorem WF.depth {F : Fence} (h : WF F) {n : Nat} : F.depth.isSome = true → 1 ≤ n := by cases h <;> exact fun h => by cases h
theorem WF.calls {F : Fence} (h : WF F) {n : Nat} {f : FuncId} {args : Array Value} {R : Ending → World → Prop} (hc : Calls P f args w R) : CallsIn F n P f args w R := by
  cases h
  · exact callsIn_wide.2 hc
  · obtain ⟨_, h⟩ := callsIn_wide (n := n).2 hc
    exact ⟨trivial, h⟩
theorem WF.rows {F : Fence} (h : WF F) {n : Nat} {row : String} {args : Array Value} {R : Value → World → Prop} (hc : Rows P row args w R) : RowsIn F n P row args w R := by
  cases h
  · exact fun c cs _ => let ⟨v, w', r, s⟩ := hc c cs; ⟨v, w', r, stepsIn_wide.2 s⟩
  · exact fun c cs _ => let ⟨v, w', r, s⟩ := hc c cs; ⟨v, w', r, (stepsIn_wide (P := P)).2 s⟩
def notDefer : Op → Bool
  | .defer _ => false
  | _ => true
def dd (ds : List Deferred) (a : Act) : Act := { a with defers := a.defers ++ ds }
def DQ (ds : List Deferred) (Q : Exit → Act → World → Prop) : Exit → Act → World → Prop := fun e a w => ∃ pre, a.defers = pre ++ ds ∧ Q e { a with defers := pre } w
theorem dd_eval (ds : List Deferred) (a : Act) : (dd ds a).eval = a.eval := by funext x; cases x <;> rfl
theorem dd_put (ds : List Deferred) (a : Act) (d : Option Tmp) (v : Value) : (dd ds a).put d v = dd ds (a.put d v) := by cases d <;> rfl
theorem DQ.mk {ds : List Deferred} {e : Exit} (h : Q e a w) : DQ ds Q e (dd ds a) w := ⟨a.defers, rfl, h⟩
theorem ops_in {F : Fence} (hF : WF F) {n : Nat} (ds : List Deferred) (hq : ¬ LetsOut Q) (hd : ops.toList.all (fun o => notDefer o.op) = true) :
    ∀ (is : List Nat) (a : Act) (w : World), wpOps P ops Q is a w → wpOpsIn F n P ops (DQ ds Q) is (dd ds a) w
  | [], a, w, h => DQ.mk h
  | i :: is, a, w, h => by
    unfold wpOps at h
    unfold wpOpsIn
    cases ho : ops[i]? with
    | none => rw [ho] at h; exact ops_in hF ds hq hd is a w h
    | some o =>
      rw [ho] at h
      have hnd : ∀ c, o.op ≠ .defer c := by
        intro c hc
        have hm : o ∈ ops.toList := by
          have := Array.mem_of_getElem? ho
          exact Array.mem_toList_iff.2 this
        have := List.all_eq_true.1 hd o hm
        rw [hc] at this
        cases this
      have hy : (dd ds a).tmps = a.tmps := rfl
      simp only [hy] at h ⊢
      split at h
      · rename_i hw
        rw [if_pos hw]
        rcases h with h | h
        · refine ⟨fun f _ => hF.fn f, ?_⟩
          rw [Oper.semAt_eq _ _ _ hnd, dd_eval]
          unfold Oper.wp at h
          have next : ∀ (v : Value) w', wpOps P ops Q is (a.put o.dst v) w' → wpOpsIn F n P ops (DQ ds Q) is ((dd ds a).put o.dst v) w' := fun v w' hn => by
            rw [dd_put]; exact ops_in hF ds hq hd is _ _ hn
          cases hr : (execOp a.eval o).run P w with
          | ok nx w' =>
            rw [hr] at h
            cases nx with
            | value v => exact next _ _ h
            | skip => exact next _ _ h
            | defer d => 
              have h2 := ops_in (n := n) hF ds hq hd is _ _ h
              have e : dd ds (({ a with defers := d :: a.defers } : Act).put o.dst undef) = ({ dd ds a with defers := d :: (dd ds a).defers } : Act).put o.dst undef := by
                cases o.dst <;> rfl
              rw [e] at h2; exact h2
            | enter f args =>
              refine ⟨hF.depth, hF.calls (Calls.mono h fun e w'' he => ?_)⟩
              cases e with
              | returned v => exact next _ _ he
              | panicked ch => exact DQ.mk he
              | outgrown => exact absurd he hq
            | row r args => exact ⟨hF.depth, hF.rows (Rows.mono h fun v w'' he => next _ _ he)⟩
            | _ => exact h.elim
          | halt x w' =>
            rw [hr] at h
            cases x with
            | panic v => exact DQ.mk (ds := ds) h
            | _ => exact h.elim
        · exact absurd h.2 hq
      · rename_i hw
        rw [if_neg hw]
        refine ⟨fun f _ => hF.fn f, ?_⟩
        rw [dd_put]; exact ops_in hF ds hq hd is _ _ h
theorem dd_nil (a : Act) : dd [] a = a := by cases a; simp [dd]
theorem DQ.nil {e : Exit} (h : DQ [] Q e a w) : Q e a w := by
  obtain ⟨pre, h1, h2⟩ := h
  rw [List.append_nil] at h1
  cases a
  simp only at h1
  subst h1
  exact h2
theorem letsOut_then {K : Act → World → Prop} (h : ¬ LetsOut Q) : ¬ LetsOut (Exit.then K Q) := h
theorem letsOut_block {id : Nat} (h : ¬ LetsOut Q) : ¬ LetsOut (Exit.inBlock id Q) := fun ⟨a, w, hq⟩ => h ⟨a, w, hq⟩
variable {F : Fence} {n : Nat}
theorem wi_regD {id : Nat} {l : List Oper} (hF : WF F) (ds : List Deferred) (hq : ¬ LetsOut Q) (hd : l.all (fun o => notDefer o.op) = true) (h : wpList P l.toArray Q l a w) : (Code.region id l.toArray false).wpIn F n P (DQ ds Q) (dd ds a) w := by
  have e : wpOps P l.toArray Q (List.range l.toArray.size) = wpList P l.toArray Q l := by
    have := wpOps_eq_wpList (P := P) (Q := Q) (ops := l.toArray) l 0 (fun j => by simp)
    rw [← this, List.range_eq_range']; simp
  refine wpIn_region (ops_in hF ds hq (by simpa using hd) _ _ _ ?_)
  rw [e]; exact h
theorem wi_reg {id : Nat} {l : List Oper} (hF : WF F) (hq : ¬ LetsOut Q) (hd : l.all (fun o => notDefer o.op) = true) (h : wpList P l.toArray Q l a w) : (Code.region id l.toArray false).wpIn F n P Q a w := by
  have := wi_regD (n := n) hF [] hq hd h (id := id)
  rw [dd_nil] at this
  exact wpIn_mono this fun e a w h => h.nil
theorem wi_if {L : List (Nat × Value)} {N : Nat} {c : Operand} {x y : Code} {b : Bool} (hf : Fr N a L) (hc : evL L c = some (.bool b)) (ht : b = true → x.wpIn F n P Q a w) (he : b = false → y.wpIn F n P Q a w) :
    (Code.cond c x y).wpIn F n P Q a w := wpIn_cond_split (hf.ev hc) ht he
theorem wi_loop_pure {St R : Type} {c : Code} {f : St → Option (St ⊕ R)} (I : St → Act → World → Prop) (O : R → Exit → Act → World → Prop)
    (body : ∀ s x a w, f s = some x → I s a w → c.wpIn F n P (Rnd I O x) a w)
    {s : St} {r : R} (hl : loop f s = some r) (hI : I s a w) (hQ : ∀ e a w, e ≠ .normal → O r e a w → Q e a w) : (Code.loop c).wpIn F n P Q a w := by
  obtain ⟨k, hk⟩ := loop_iff.1 hl
  refine wpIn_loop_rounds k ?_
  clear hl
  induction k generalizing s a w with
  | zero => simp [loopN] at hk
  | succ k ih =>
    cases hf : f s with
    | none => simp [loopN, hf] at hk
    | some x =>
      rw [roundsIn_succ]
      refine wpIn_mono (body s x a w hf hI) ?_
      intro e a' w' hr
      cases x with
      | inl s' =>
        obtain ⟨rfl, hI'⟩ := hr
        simp only [loopN, hf] at hk
        exact ih hI' hk
      | inr r' =>
        simp only [loopN, hf, Option.some.injEq] at hk
        subst hk
        obtain ⟨hne, ho⟩ := hr
        cases e <;> first | exact absurd rfl hne | exact hQ _ _ _ hne ho
theorem letsOut_rnd {St R : Type} {I : St → Act → World → Prop} {O : R → Exit → Act → World → Prop} {x : St ⊕ R} (h : ∀ r, ¬ LetsOut (O r)) : ¬ LetsOut (Rnd I O x) := by
  rintro ⟨a, w, hq⟩
  cases x with
  | inl s => exact absurd hq.1 (by simp)
  | inr r => exact h r ⟨a, w, hq.2⟩
theorem wi_cutN {c : Code} (M : Act → World → Prop) (h : c.wpIn F n P (Exit.then M noQ) a w) (h2 : ∀ a w, M a w → Q .normal a w) : c.wpIn F n P Q a w :=
  wpIn_mono (Q := Exit.then M noQ) h fun e a w h => by cases e <;> first | exact h2 _ _ h | exact h.elim
theorem wi_begin' {id : Nat} {l : List Oper} (M : Act → World → Prop) (C : World → Prop) (Nk : List Nat) (hF : WF F) (hd : l.all (fun o => notDefer o.op) = true) (hm : P.follows .mixedOrders = true)
    (h : anyP P .any l.toArray (Exit.then M noQ) C Nk l.length (Array.replicate l.length false) a { w with drawn := w.drawn + 1 }) :
    (Code.region id l.toArray true).wpIn F n P (Exit.then M noQ) a w := by
  refine wpIn_mono (Q := DQ [] (Exit.then M noQ)) (wpIn_region_draw fun t => ?_) fun e a w h => h.nil
  have h2 := anyP_any _ _ _ _ h
  have h3 := wpAny_sound (P := P) (md := .any) l.toArray.size t (Array.replicate l.toArray.size false) a { w with drawn := w.drawn + 1 } (by simpa using h2)
  have h4 := ops_in (n := n) hF [] (Q := Exit.then M noQ) (fun ⟨_, _, h⟩ => h) (by simpa using hd) _ _ _ h3
  rw [dd_nil] at h4
  have e : Region.schedule (P.follows .mixedOrders) l.toArray t = Region.linearise.go .any l.toArray l.toArray.size t (Array.replicate l.toArray.size false) [] := by
    simp only [Region.schedule, hm, Bool.true_or, if_true]
    rfl
  rw [e]
  exact h4
theorem list_in {F : Fence} (hF : WF F) {n : Nat} {M : Act → World → Prop} {l2 : List Oper} (h2 : ∀ a w, M a w → wpListIn F n P ops Q l2 a w) :
    ∀ (l : List Oper) (a : Act) (w : World), l.all (fun o => notDefer o.op) = true → wpList P ops (Exit.then M noQ) l a w → wpListIn F n P ops Q (l ++ l2) a w
  | [], a, w, _, h => h2 a w h
  | o :: l, a, w, hd, h => by
    rw [List.all_cons, Bool.and_eq_true] at hd
    have hnd : ∀ c, o.op ≠ .defer c := by
      intro c hc
      have := hd.1
      rw [hc] at this
      cases this
    unfold wpList at h
    show wpListIn F n P ops Q (o :: (l ++ l2)) a w
    unfold wpListIn
    split at h
    · rename_i hw
      rw [if_pos hw]
      rcases h with h | h
      · refine ⟨fun f _ => hF.fn f, ?_⟩
        rw [Oper.semAt_eq _ _ _ hnd]
        unfold Oper.wp at h
        have next : ∀ a' w', wpList P ops (Exit.then M noQ) l a' w' → wpListIn F n P ops Q (l ++ l2) a' w' := fun a' w' hn => list_in hF h2 l a' w' hd.2 hn
        cases hr : (execOp a.eval o).run P w with
        | ok nx w' =>
          rw [hr] at h
          cases nx with
          | value v => exact next _ _ h
          | skip => exact next _ _ h
          | defer d => exact next _ _ h
          | enter f args =>
            refine ⟨hF.depth, hF.calls (Calls.mono h fun e w'' he => ?_)⟩
            cases e with
            | returned v => exact next _ _ he
            | panicked ch => exact he.elim
            | outgrown => obtain ⟨_, _, he⟩ := he; exact he.elim
          | row r args => exact ⟨hF.depth, hF.rows (Rows.mono h fun v w'' he => next _ _ he)⟩
          | _ => exact h.elim
        | halt x w' =>
          rw [hr] at h
          cases x <;> exact h.elim
      · obtain ⟨_, _, _, he⟩ := h; exact he.elim
    · rename_i hw
      rw [if_neg hw]
      exact ⟨fun f _ => hF.fn f, list_in hF h2 l _ _ hd.2 h⟩
theorem list_cut {F : Fence} (hF : WF F) {n : Nat} {L : List Oper} (k : Nat) (M : Act → World → Prop) (hd : (L.take k).all (fun o => notDefer o.op) = true)
    (h1 : wpList P ops (Exit.then M noQ) (L.take k) a w) (h2 : ∀ a w, M a w → wpListIn F n P ops Q (L.drop k) a w) : wpListIn F n P ops Q L a w := by
  have := list_in hF h2 (L.take k) a w hd h1
  rwa [List.take_append_drop] at this
theorem wi_regL {F : Fence} {n : Nat} {id : Nat} {l : List Oper} (h : wpListIn F n P l.toArray Q l a w) : (Code.region id l.toArray false).wpIn F n P Q a w := wpIn_region_lit h
theorem st_yield {F : Fence} (hF : WF F) {n N l : Nat} {L : List (Nat × Value)} {rest : List Oper} {d : Nat} {ty : TypeId} {pos : String} {af : Array Edge} {gd : Option (Nat × Bool)} {x : Operand} {args : List Operand} {vs : List Value} {tys : Array TypeId} {R : Ending → World → Prop}
    (hf : Fr N a L) (hd : d < N) (hw : Region.wanted ⟨some d, .call ⟨.value x, args.toArray, tys⟩, ty, pos, af, gd⟩ (yielded ops a.tmps) = true)
    (hx : evL L x = some (.func (.yield l) #[] #[])) (hl : evs L args = some vs) (hy : YieldAt F (n - 1) P l vs.toArray w R)
    (h : ∀ e w', R e w' → ∃ v, e = .returned v ∧ ∀ a', Fr N a' ((d, v) :: L) → wpListIn F n P ops Q rest a' w') :
    wpListIn F n P ops Q (⟨some d, .call ⟨.value x, args.toArray, tys⟩, ty, pos, af, gd⟩ :: rest) a w := by
  obtain ⟨fn, tmps, c1, c2, h1, h2⟩ := hy
  unfold wpListIn
  rw [if_pos hw]
  refine ⟨fun _ _ => hF.fn _, ?_⟩
  rw [Oper.semAt_eq _ _ _ (by intro c h; cases h)]
  have hm := hf.evs hl
  have hr : (execOp a.eval ⟨some d, .call ⟨.value x, args.toArray, tys⟩, ty, pos, af, gd⟩).run P w = .ok (.round l fn tmps c1 c2) w := by
    simp only [execOp, resolve, hf.ev hx, hm, Deferred.ofValue, Sem.run_bind]
    simp [Sem.run, pure, Result.andThen, invoke]
    exact h1
  rw [hr]
  refine ⟨hF.depth, RoundIn.mono h2 fun e w' he => ?_⟩
  obtain ⟨v, rfl, k⟩ := h e w' he
  exact k _ (hf.put hd v)
variable {S : Nat → Prop} {w0 w' : World} {rs ow : List Res}
def Res.raw (b : Nat) (o : Obj) : Res where
  own := fun fp w => (∀ k, fp k ↔ k = b) ∧ w.heap[b]? = some o
  loc := fun fp w w' ⟨h1, h2⟩ hk => ⟨h1, (hk b ((h1 b).2 rfl)).trans h2⟩
  bd := fun fp w k ⟨h1, h2⟩ hk => by rw [(h1 k).1 hk]; exact (Array.getElem?_eq_some_iff.1 h2).1
theorem Hp.rawAt {b : Nat} {o : Obj} (hp : Hp S w0 w rs) {i : Nat} (hi : rs[i]? = some (Res.raw b o)) : w.heap[b]? = some o := by
  obtain ⟨fp, h, _⟩ := hp.take hi
  exact h.2
theorem Hp.rawPut {b : Nat} {o : Obj} (o' : Obj) (hp : Hp S w0 w rs) {i : Nat} (hi : rs[i]? = some (Res.raw b o)) : Hp S w0 (w.putObj b o') (rs.set i (Res.raw b o')) := by
  obtain ⟨fp, ⟨h1, h2⟩, _, K⟩ := hp.take hi
  have hb : b < w.heap.size := (Array.getElem?_eq_some_iff.1 h2).1
  refine K _ _ fp ⟨rfl, rfl, rfl, by simp, fun k _ hk => World.putObj_heap_other fun e => hk ((h1 k).2 e)⟩ ⟨h1, World.putObj_heap_same hb⟩ fun k hk => .inl hk
theorem Hp.rawNew (o : Obj) (hp : Hp S w0 w rs) : Hp S w0 (w.alloc o) (Res.raw w.heap.size o :: rs) :=
  hp.push (Same.alloc w _) (fp := fun k => k = w.heap.size) ⟨fun _ => Iff.rfl, World.alloc_heap_new w o⟩ (fun k hk => by omega)
theorem set_mid (hd tl : List Res) (x y : Res) : (hd ++ x :: tl).set hd.length y = hd ++ y :: tl := by
  induction hd with
  | nil => rfl
  | cons a l ih => simp only [List.cons_append, List.length_cons, List.set_cons_succ, ih]
theorem get_mid (hd tl : List Res) (x : Res) : (hd ++ x :: tl)[hd.length]? = some x := by
  rw [List.getElem?_append_right (Nat.le_refl _), Nat.sub_self]; rfl
def rb {σ : Type} (gs : σ → Int → Int → Option σ) (xs : List Int) : Nat → σ → Option σ
  | 0, x => some x
  | m + 1, x => (gs x (m : Int) (gt xs (m : Int))).bind (rb gs xs m)
def IterB (P : Program) (gf : Nat) (ub v : Value) (xs : List Int) : Prop :=
  ∀ (l : Nat) (J : Nat → World → Prop) (W : World), (∀ m W, J m W → RdO (fun _ => True) W ub [v] ∧ Sl (Ek.int .i64) W v xs) →
    (∀ m W, J (m + 1) W → m < xs.length → YieldAt Fence.wide 0 P l #[.int .i64 (m : Int), .int .i64 (gt xs (m : Int))] W fun e W' => e = .returned (.bool true) ∧ J m W') →
    J xs.length W → CallsIn Fence.wide 0 P gf #[.func (.yield l) #[] #[], optr ub 0] W fun e W' => (∃ v, e = .returned v) ∧ J 0 W'
theorem zip2 (T : Array Value) (p1 p2 : Tmp) (u1 u2 : Value) : ((#[p1, p2] : Array Tmp).zip #[u1, u2]).foldl (fun tmps (t, a) => tmps.setIfInBounds t a) T = (T.setIfInBounds p1 u1).setIfInBounds p2 u2 := by
  simp [Array.zip]
theorem wi_rangeB {N : Nat} {L : List (Nat × Value)} {g : Operand} {p1 p2 : Tmp} {assign body : Code} {gf : Nat} {ub v : Value} {xs : List Int} {σ γ : Type} {hd : σ → γ → List Res} {g0 : γ} {gs : σ → Int → Int → Option σ} {x0 r : σ} {L2 : Int → Int → List (Nat × Value)}
    (hf : Fr N a L) (hg : evL L g = some (.func (.func gf) #[] #[optr ub 0])) (eg : ∀ args w, (callFunc gf args).run P w = .ok (.enter gf args) w) (hp1 : p1 < N) (hp2 : p2 < N) (hit : IterB P gf ub v xs)
    (hp : Hp S w0 w (hd x0 g0 ++ ow)) (hrd : ∀ x g W tl, Hp S w0 W (hd x g ++ tl) → RdO (fun _ => True) W ub [v] ∧ Sl (Ek.int .i64) W v xs) (hl : rb gs xs xs.length x0 = some r)
    (hassign : ∀ (k : Nat) (a : Act) (W : World) (i x : Int) (K : Act → World → Prop), Fr N a ((p2, .int .i64 x) :: (p1, .int .i64 i) :: L) → (∀ a', Fr N a' (L2 i x) → K a' W) → assign.wpIn (Fence.wide.inRound k) 0 P (Exit.then K noQ) a W)
    (hbody : ∀ (k : Nat) (a : Act) (W : World) (ow : List Res) (x : σ) (g : γ) (x' : σ) (i y : Int), gs x i y = some x' → Fr N a (L2 i y) → Hp S w0 W (hd x g ++ ow) → body.wpIn (Fence.wide.inRound k) 0 P (fun e _ W' => e = .normal ∧ ∃ g', Hp S w0 W' (hd x' g' ++ ow)) a W)
    (hQ : ∀ D l o W g, Hp S w0 W (hd r g ++ Res.raw l o :: Res.raw D (.deferred (some [])) :: ow) → Q .normal (dd [{ target := .collected D, args := #[] }] a) W) :
    (Code.rangeFunc g #[p1, p2] assign body).wpIn Fence.wide 0 P Q a w := by
  refine wpIn_rangeFunc ?_
  intro fn hfn
  have hge : a.eval g = .func (.func gf) #[] #[optr ub 0] := hf.ev hg
  obtain ⟨rec, hrec⟩ : ∃ rec : LoopState → Loop, rec = fun st => { state := st, pending := none, fn, tmps := a.tmps, params := #[p1, p2], assign, body, defers := w.heap.size } := ⟨_, rfl⟩
  obtain ⟨W1, hW1⟩ : ∃ W1, (w.alloc (.deferred (some []))).alloc (.loop (rec .ready)) = W1 := ⟨_, rfl⟩
  have hpD := hp.rawNew (.deferred (some []))
  have hpL := hpD.rawNew (.loop (rec .ready))
  rw [hW1, World.size_alloc] at hpL
  have hp1' : Hp S w0 W1 (hd x0 g0 ++ Res.raw (w.heap.size + 1) (.loop (rec .ready)) :: Res.raw w.heap.size (.deferred (some [])) :: ow) := by
    have e : (Res.raw (w.heap.size + 1) (.loop (rec .ready)) :: Res.raw w.heap.size (.deferred (some [])) :: (hd x0 g0 ++ ow)).Perm (hd x0 g0 ++ Res.raw (w.heap.size + 1) (.loop (rec .ready)) :: Res.raw w.heap.size (.deferred (some [])) :: ow) := by
      refine List.Perm.trans ?_ (List.perm_middle.symm)
      exact List.Perm.cons _ (List.perm_middle.symm)
    exact hpL.perm e
  refine ⟨w.heap.size + 1, [{ target := .collected w.heap.size, args := #[] }], W1, { target := .fn (.func gf) #[optr ub 0], args := #[.func (.yield (w.heap.size + 1)) #[] #[]] }, W1, gf,
    #[.func (.yield (w.heap.size + 1)) #[] #[], optr ub 0], W1, ?_, ?_, fun _ _ => trivial, ?_, (fun h => by cases h), ?_⟩
  · rw [← hW1, hrec]; exact run_enterLoop_outer _ _ _ _ _
  · simp only [resolve, hge]
    simp [go_sem]
  · simp [invoke, go_sem, eg]
  refine CallsIn.mono (hit (w.heap.size + 1) (fun m W => ∃ x g, rb gs xs m x = some r ∧ Hp S w0 W (hd x g ++ Res.raw (w.heap.size + 1) (.loop (rec .ready)) :: Res.raw w.heap.size (.deferred (some [])) :: ow)) W1
    (fun m W ⟨x, g, _, h⟩ => hrd x g W _ h) ?_ ⟨x0, g0, hl, hp1'⟩) ?_
  · rintro m W ⟨x, g, hx, hp⟩ hm
    simp only [rb] at hx
    obtain ⟨x', hx1, hx2⟩ := Option.bind_eq_some_iff.1 hx
    have hl := hp.rawAt (get_mid _ _ _)
    have hy := run_yield (P := P) (args := #[.int .i64 (m : Int), .int .i64 (gt xs (m : Int))]) hl (by rw [hrec]; rfl)
    rw [hrec] at hy
    refine ⟨fn, _, assign, body, hy, roundIn_of_wpIn trivial (hassign _ _ W m (gt xs (m : Int)) _ ?_ fun a' hf' => ⟨_, run_beginRound hl (by rw [hrec]), ?_⟩)⟩
    · have h2 := (hf.put hp1 (.int .i64 (m : Int))).put hp2 (.int .i64 (gt xs (m : Int)))
      have e := zip2 a.tmps p1 p2 (.int .i64 (m : Int)) (.int .i64 (gt xs (m : Int)))
      refine ⟨?_, rfl, ?_⟩
      · exact (congrArg Array.size e).trans h2.size
      · intro i v hv
        exact (congrArg (·[i]?) e).trans (h2.slots i v hv)
    · have hpb := hp.rawPut (.loop { rec .ready with state := .busy }) (get_mid _ _ _)
      rw [set_mid] at hpb
      refine wpIn_mono (hbody _ a' _ _ x g x' _ _ hx1 hf' hpb) ?_
      rintro e a3 W3 ⟨rfl, g', hp3⟩
      have hl3 := hp3.rawAt (get_mid _ _ _)
      have hr3 := run_endRound (P := P) none hl3
      have hp4 := hp3.rawPut (.loop { { rec .ready with state := .busy } with state := if (none : Option Code).isNone then .ready else .done, pending := none }) (get_mid _ _ _)
      rw [set_mid] at hp4
      have e4 : ({ { rec .ready with state := .busy } with state := if (none : Option Code).isNone then .ready else .done, pending := none } : Loop) = rec .ready := by rw [hrec]; rfl
      rw [e4] at hp4 hr3
      exact ⟨_, _, hr3, rfl, x', g', hx2, hp4⟩
  · rintro e W2 ⟨⟨v, rfl⟩, x, g, hx, hp⟩
    simp only [rb] at hx
    obtain rfl := Option.some.inj hx
    have hl := hp.rawAt (get_mid _ _ _)
    have hr := run_endLoop (P := P) hl (by rw [hrec]; simp)
    have hp2 := hp.rawPut (.loop { rec .ready with state := .exhausted }) (get_mid _ _ _)
    rw [set_mid] at hp2
    have hpend : (rec .ready).pending = none := by rw [hrec]
    refine ⟨_, _, hr, ?_⟩
    have := hQ _ _ _ _ _ hp2
    have ed : ({ a with defers := [{ target := .collected w.heap.size, args := #[] }] ++ a.defers } : Act) = dd [{ target := .collected w.heap.size, args := #[] }] a := by
      unfold dd; rw [hf.defers]; rfl
    rw [ed]
    split
    · exact this
    · rename_i c hc
      rw [hpend] at hc
      cases hc
theorem enterI {N : Nat} {f : FuncId} {fn : Func} {c : Code} {args : List Value} {R : Ending → World → Prop} (hf : P.funcs[f]? = some fn) (hb : fn.body = some c) (hn : fn.ntmps = N) (hl : args.length ≤ N)
    (h : ∀ a, Fr N a (frame0 0 args) → c.wpIn Fence.wide 0 P (bodyPost P fn R) a w) : CallsIn Fence.wide 0 P f args.toArray w R := by
  refine callsIn_of_wp hf hb trivial ?_ rfl
  subst hn
  exact h _ (Fr.start args _ hl)
theorem enterM {N : Nat} {f : FuncId} {fn : Func} {c : Code} {args : List Value} {R : Ending → World → Prop} (hf : P.funcs[f]? = some fn) (hb : fn.body = some c) (hn : fn.ntmps = N) (hl : args.length ≤ N)
    (h : ∀ a, Fr N a (frame0 0 args) → c.wp P (bodyPostM Fence.wide 0 P fn R) a w) : Calls P f args.toArray w R := by
  refine (callsIn_wide (n := 0)).1 (callsIn_of_wp_marks hf hb trivial (wpIn_wide.2 ?_) rfl)
  subst hn
  exact h _ (Fr.start args _ hl)
theorem wrp64 {x : Int} (h0 : -9223372036854775808 ≤ x) (h1 : x < 9223372036854775808) : IntKind.i64.wrap x = x := by
  simp [IntKind.wrap, IntKind.bits, IntKind.signed, IntKind.min, IntKind.max]
  omega
theorem letsOut_fin {A : Act → World → Prop} : ¬ LetsOut (fun e a w => e = .normal ∧ A a w) := by rintro ⟨_, _, h, _⟩; cases h
theorem letsOut_ex {k : Nat} {A : Act → World → Prop} : ¬ LetsOut (fun e a w => e = .exit k ∧ A a w) := by rintro ⟨_, _, h, _⟩; cases h
theorem wp_tail {id : Nat} {l : List Oper} (ds : List Deferred) {T : Act → World → Prop} (hd : l.all (fun o => notDefer o.op) = true) (h : wpList P l.toArray (fun e a w => e = .normal ∧ T a w) l a w) (h2 : ∀ a w, T a w → Q .ret (dd ds a) w) :
    (Code.seq (Code.region id l.toArray false) Code.ret).wp P Q (dd ds a) w := by
  refine (wpIn_wide (n := 0)).1 (wpIn_seq (wpIn_mono (wi_regD WF.wide ds letsOut_fin hd h) ?_))
  rintro e a3 w3 ⟨pre, h3, rfl, h4⟩
  refine wpIn_ret ?_
  have := h2 _ _ h4
  have e : dd ds { a3 with defers := pre } = a3 := by
    cases a3
    simp only at h3
    simp [dd, h3]
  rw [e] at this
  exact this
theorem retM1 {N t D : Nat} {L : List (Nat × Value)} {v : Value} {fn : Func} {R : Ending → World → Prop} {a0 : Act} (hf : Fr N a0 L) (hr : fn.results = #[.tmp t]) (hl : lk L t = some v) (hD : w.heap[D]? = some (.deferred (some []))) (h : R (.returned v) (w.putObj D (.deferred none))) :
    bodyPostM Fence.wide 0 P fn R .ret (dd [{ target := .collected D, args := #[] }] a0) w := by
  have ed : (dd [{ target := .collected D, args := #[] }] a0).defers = [{ target := .collected D, args := #[] }] := by
    unfold dd; rw [hf.defers]; rfl
  show LeavesInM Fence.wide 0 P fn a0.tmps R (dd [{ target := .collected D, args := #[] }] a0).defers .returning w
  rw [ed]
  refine ⟨by simp, .inl ⟨D, _, rfl, run_takeDeferred hD, ?_⟩⟩
  have hv : a0.tmps.getD t undef = v := by
    have := hf.slots t v hl
    simp [Array.getD_eq_getD_getElem?, this]
  refine ⟨v, ?_, h⟩
  rw [← hv]
  exact results_tmp hr _ _ _
end GL
