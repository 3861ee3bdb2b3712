/- Own library, part R: pointers that may be nil; an object with an array of rings (slices of bytes with a place). -/
import Derived.Test.YtcooefnbolobaaaGlP
import Derived.Laws.Pointers
import Derived.Laws.IdiomStrings
import Derived.Laws.Strings3
set_option linter.unusedVariables false
set_option linter.unusedSimpArgs false
namespace GL
open Go

variable {S S' : Nat → Prop} {w w' w0 w1 : World} {rs l l' : List Res} {v u : Value} {vs : List Value} {T Ts Tb : TypeId} {P : Program}

structure PtrK (σ : Type) where
  R : Value → σ → Res
  sh : ∀ {fp : Nat → Prop} {w : World} {v : Value} {s : σ}, (R v s).own fp w → RdO (fun _ => True) w v []
variable {σ : Type} {K : PtrK σ} {o : Option σ} {s : σ}

def Res.opt (K : PtrK σ) (v : Value) : Option σ → Res
  | none => Res.fact (v = .pointer none)
  | some s => K.R v s

def NilB (v : Value) (b : Bool) : Prop := (b = true → v = .pointer none) ∧ (b = false → ∃ a, v = .pointer (some a))
theorem Hp.nilB (hp : Hp S w0 w rs) {i : Nat} (hi : rs[i]? = some (Res.opt K v o)) : NilB v o.isNone := by
  obtain ⟨fp, h, _⟩ := hp.take hi
  cases o with
  | none => exact ⟨fun _ => h.1, fun h => by cases h⟩
  | some s =>
    obtain ⟨g, h1, _⟩ := K.sh h
    exact ⟨fun h => (by cases h), fun _ => ⟨_, h1⟩⟩
theorem Hp.shK (hp : Hp S w0 w rs) {i : Nat} (hi : rs[i]? = some (K.R v s)) : RdO (fun _ => True) w v [] := by
  obtain ⟨fp, h, _⟩ := hp.take hi
  exact K.sh h
theorem Hp.optNil (hp : Hp S w0 w rs) (K : PtrK σ) : Hp S w0 w (Res.opt K (.pointer none) none :: rs) := Hp.fact rfl hp

section ops
variable {n : Nat} {a : Act} {L : List (Nat × Value)} {ops : Array Oper} {Q : Exit → Act → World → Prop}
  {rest : List Oper} {d : Nat} {ty : TypeId} {pos : String} {af : Array Edge} {g : Option (Nat × Bool)}
  {t t' e : TypeId} {x y z : Operand} {k k' : IntKind} {p q : Int} {b : Bool}

theorem st_peql (hf : Fr n a L) (hd : d < n) (ht : P.underlying t = some (.pointer e))
    (hw : Region.wanted ⟨some d, .binOp .eql t x y t', ty, pos, af, g⟩ (yielded ops a.tmps) = true)
    (hx : evL L x = some v) (hy : evL L y = some (.pointer none)) (hn : NilB v b)
    (h : ∀ a', a' = a.put (some d) (.bool b) → Fr n a' ((d, .bool b) :: L) → wpList P ops Q rest a' w) :
    wpList P ops Q (⟨some d, .binOp .eql t x y t', ty, pos, af, g⟩ :: rest) a w := by
  have hv : v = .pointer none ∧ b = true ∨ (∃ a, v = .pointer (some a)) ∧ b = false := by
    cases b with
    | true => exact .inl ⟨hn.1 rfl, rfl⟩
    | false => exact .inr ⟨hn.2 rfl, rfl⟩
  refine st_run hf hw rfl hd (execBin .eql _ _ (.inr ?_) (hf.ev hx) (hf.ev hy) ?_) h
  · rcases hv with ⟨rfl, _⟩ | ⟨⟨_, rfl⟩, _⟩ <;> trivial
  · have hpt : P.pointee t = e := by simp [Program.pointee, ht]
    have ht' : P.underlying t = some (.pointer (P.pointee t)) := by rw [hpt]; exact ht
    rcases hv with ⟨rfl, rfl⟩ | ⟨⟨_, rfl⟩, rfl⟩ <;> simp [binOp, run_equal_pointer_nil w t _ ht', Sem.run_bind, Result.andThen]

theorem run_nilV {cs : List Value} (hfr : Fr n a L) (hx : evL L x = some v) (hs : RdO (fun _ => True) w1 v cs) (w : World) :
    (execOp a.eval ⟨some d, .nilCheck x, ty, pos, af, g⟩).run P w = .ok (.value (optr v 0)) w := by
  obtain ⟨b, rfl, _, _⟩ := hs
  simp [execOp, hfr.ev hx, optr, Addr.add_lit, Sem.run, pure]
theorem st_nilV {cs : List Value} (hf : Fr n a L) (hd : d < n) (hw : Region.wanted ⟨some d, .nilCheck x, ty, pos, af, g⟩ (yielded ops a.tmps) = true)
    (hx : evL L x = some v) (hs : RdO (fun _ => True) w1 v cs)
    (h : ∀ a', a' = a.put (some d) (optr v 0) → Fr n a' ((d, optr v 0) :: L) → wpList P ops Q rest a' w) :
    wpList P ops Q (⟨some d, .nilCheck x, ty, pos, af, g⟩ :: rest) a w :=
  st_run hf hw rfl hd (run_nilV hf hx hs w) h
theorem dr_nilV {md : Region.Mode} {C : World → Prop} {Nk : List Nat} {M : Act → World → Prop} {m : Nat} {listed : Array Bool} (i : Nat) {cs : List Value}
    (hi : ops[i]? = some ⟨some d, .nilCheck x, ty, pos, af, g⟩) (hs : Region.noSelect ops = true)
    (hf : Region.free md ops listed i = true) (hr : (Region.ready md ops listed).contains i = true)
    (hfr : Fr n a L) (hd : d < n) (hw : Region.wanted ⟨some d, .nilCheck x, ty, pos, af, g⟩ (yielded ops a.tmps) = true)
    (hx : evL L x = some v) (hsh : RdO (fun _ => True) w1 v cs)
    (h : ∀ a', Fr n a' ((d, optr v 0) :: L) → anyP P md ops (Exit.then M noQ) C Nk m (listed.setIfInBounds i true) a' w) : anyP P md ops (Exit.then M noQ) C Nk (m + 1) listed a w := by
  refine anyP_firstP (v := optr v 0) hi (Region.noSelect_spec hs) (fun _ _ _ h => h.elim) m listed a w (Region.free_spec hi hf) (by simpa using hr) (.inl ⟨hw, fun w _ => run_nilV hfr hx hsh w⟩) ?_
  exact h _ (hfr.put hd _)
end ops

/-! ### Looms -/
abbrev LoomS := List (List Int × Int) × Int × Int × Int
def ringCells : List Value → List (List Int × Int) → List Value
  | u :: us, r :: rs => u :: .int .i64 r.2 :: ringCells us rs
  | _, _ => []
theorem ringCells_len : ∀ {vs : List Value} {rs : List (List Int × Int)}, vs.length = rs.length → (ringCells vs rs).length = 2 * rs.length
  | [], [], _ => rfl
  | u :: us, r :: rs, h => by
    have := ringCells_len (vs := us) (rs := rs) (by simpa using h)
    simp only [ringCells, List.length_cons, this]; omega
theorem ringCells_get0 : ∀ {vs : List Value} {rs : List (List Int × Int)} {i : Nat} {u : Value}, vs.length = rs.length → vs[i]? = some u → (ringCells vs rs)[2 * i]? = some u
  | u :: us, r :: rs, 0, _, h, hi => by simpa [ringCells] using hi
  | u :: us, r :: rs, i + 1, _, h, hi => by
    have := ringCells_get0 (vs := us) (rs := rs) (i := i) (by simpa using h) (by simpa using hi)
    rw [show 2 * (i + 1) = 2 * i + 2 by omega]
    simpa [ringCells] using this
  | [], _, _, _, _, hi => by simp at hi
theorem ringCells_get1 : ∀ {vs : List Value} {rs : List (List Int × Int)} {i : Nat} {r : List Int × Int}, vs.length = rs.length → rs[i]? = some r → (ringCells vs rs)[2 * i + 1]? = some (.int .i64 r.2)
  | u :: us, r :: rs, 0, _, h, hi => by simp at hi; subst hi; simp [ringCells]
  | u :: us, r :: rs, i + 1, _, h, hi => by
    have := ringCells_get1 (vs := us) (rs := rs) (i := i) (by simpa using h) (by simpa using hi)
    rw [show 2 * (i + 1) + 1 = 2 * i + 1 + 2 by omega]
    simpa [ringCells] using this
  | _, [], _, _, _, hi => by simp at hi
theorem ringCells_set0 : ∀ {vs : List Value} {rs : List (List Int × Int)} {i : Nat} (u : Value) (xs : List Int) {r : List Int × Int}, vs.length = rs.length → rs[i]? = some r →
    (ringCells vs rs).take (2 * i) ++ [u] ++ (ringCells vs rs).drop (2 * i + 1) = ringCells (vs.set i u) (rs.set i (xs, r.2))
  | v :: us, r :: rs, 0, u, xs, _, h, hi => by simp at hi; subst hi; simp [ringCells]
  | v :: us, r :: rs, i + 1, u, xs, _, h, hi => by
    have := ringCells_set0 (vs := us) (rs := rs) (i := i) u xs (by simpa using h) (by simpa using hi)
    rw [show 2 * (i + 1) = 2 * i + 2 by omega, show 2 * i + 2 + 1 = 2 * i + 1 + 2 by omega]
    simpa [ringCells] using this
  | [], [], _, _, _, _, _, hi => by simp at hi
theorem ringCells_set1 : ∀ {vs : List Value} {rs : List (List Int × Int)} {i : Nat} (p : Int) {r : List Int × Int}, vs.length = rs.length → rs[i]? = some r →
    (ringCells vs rs).take (2 * i + 1) ++ [.int .i64 p] ++ (ringCells vs rs).drop (2 * i + 1 + 1) = ringCells vs (rs.set i (r.1, p))
  | v :: us, r :: rs, 0, p, _, h, hi => by simp at hi; subst hi; simp [ringCells]
  | v :: us, r :: rs, i + 1, p, _, h, hi => by
    have := ringCells_set1 (vs := us) (rs := rs) (i := i) p (by simpa using h) (by simpa using hi)
    rw [show 2 * (i + 1) + 1 = 2 * i + 1 + 2 by omega, show 2 * i + 1 + 2 + 1 = 2 * i + 1 + 1 + 2 by omega]
    simpa [ringCells] using this
  | [], [], _, _, _, _, hi => by simp at hi

def loomCells (vs : List Value) (s : LoomS) : List Value := ringCells vs s.1 ++ [.int .i64 s.2.1, .int .i64 s.2.2.1, .int .i64 s.2.2.2]
def Res.loomX (T Tb : TypeId) (v : Value) (vs : List Value) (s : LoomS) : Res :=
  Res.star (Res.fact (vs.length = 64 ∧ s.1.length = 64) :: Res.obj T v (loomCells vs s) :: List.zipWith (fun u r => Res.sl (Ek.int .u8) Tb u r.1) vs s.1)
def Res.loom (T Tb : TypeId) (v : Value) (s : LoomS) : Res := Res.ex fun vs => Res.loomX T Tb v vs s

variable {st : LoomS}
/-- A loom that may be read. -/
structure RdL (S : Nat → Prop) (w : World) (v : Value) (vs : List Value) (s : LoomS) : Prop where
  ob : RdO S w v (loomCells vs s)
  lv : vs.length = 64
  ls : s.1.length = 64
  row : ∀ (k : Nat) (u : Value) (r : List Int × Int), vs[k]? = some u → s.1[k]? = some r → RdS (Ek.int .u8) S w u r.1
theorem RdL.mono (h : RdL S w v vs st) (hs : ∀ k, S k → S' k) : RdL S' w v vs st := ⟨h.ob.mono hs, h.lv, h.ls, fun k u r a b => (h.row k u r a b).mono hs⟩
theorem RdL.now (h : RdL S w0 v vs st) (hp : Hp S w0 w rs) : RdL S w v vs st := ⟨h.ob.now hp, h.lv, h.ls, fun k u r a b => (h.row k u r a b).now hp⟩
theorem RdL.any (h : RdL S w v vs st) : RdL (fun _ => True) w v vs st := h.mono fun _ _ => trivial
theorem RdL.obx (h : RdL S w0 v vs st) (hp : Hp S w0 w rs) : RdL (fun _ => True) w v vs st := (h.now hp).any
theorem loom_rd {fp : Nat → Prop} (h : (Res.loomX T Tb v vs st).own fp w) (hs : ∀ k, fp k → S k) : RdL S w v vs st := by
  obtain ⟨f, h1, h2, h3⟩ := h
  have hl := (h1 0 _ rfl).1
  have hin : ∀ i k, i < (Res.fact (vs.length = 64 ∧ st.1.length = 64) :: Res.obj T v (loomCells vs st) :: List.zipWith (fun u r => Res.sl (Ek.int .u8) Tb u r.1) vs st.1).length → f i k → S k := fun i k hi hf => hs k ((h3 k).2 ⟨i, hi, hf⟩)
  refine ⟨obj_rd (h1 1 _ rfl) fun k => hin 1 k (by simp), hl.1, hl.2, fun k u r a b => ?_⟩
  have hv := (List.getElem?_eq_some_iff.1 a).1
  have e : (List.zipWith (fun u (r : List Int × Int) => Res.sl (Ek.int .u8) Tb u r.1) vs st.1)[k]? = some (Res.sl (Ek.int .u8) Tb u r.1) := by rw [List.getElem?_zipWith, a, b]
  exact OwnS.rd (h1 (k + 2) _ e) fun j => hin (k + 2) j (by simp [hl.1, hl.2]; omega)
def LoomK (T Tb : TypeId) : PtrK LoomS where
  R := fun v s => Res.loom T Tb v s
  sh := fun ⟨vs, h⟩ => by
    obtain ⟨g, h1, h2, _⟩ := (loom_rd (S := fun _ => True) h fun _ _ => trivial).ob
    exact ⟨g, h1, h2, fun j hj => by simp at hj⟩
theorem Hp.ldX (hp : Hp S w0 w rs) {i : Nat} (hi : rs[i]? = some (Res.loomX T Tb v vs st)) : RdL (fun _ => True) w v vs st := by
  obtain ⟨fp, h, _⟩ := hp.take hi
  exact loom_rd h fun _ _ => trivial
theorem Hp.shX (hp : Hp S w0 w rs) {i : Nat} (hi : rs[i]? = some (Res.loomX T Tb v vs st)) : RdO (fun _ => True) w v [] := by
  obtain ⟨g, h1, h2, _⟩ := (hp.ldX hi).ob
  exact ⟨g, h1, h2, fun j hj => by simp at hj⟩
theorem RdL.shO (h : RdL S w v vs st) : RdO (fun _ => True) w v [] := by
  obtain ⟨g, h1, h2, _⟩ := h.ob
  exact ⟨g, h1, trivial, fun j hj => by simp at hj⟩
theorem Hp.lendL (hp : Hp S w0 w rs) {i : Nat} (hi : rs[i]? = some (Res.loomX T Tb v vs st)) :
    ∃ S' : Nat → Prop, Hp S' w w (rs.eraseIdx i) ∧ RdL S' w v vs st ∧ (∀ k, S k → S' k) ∧
      ∀ (w' : World) (l : List Res), Hp S' w w' l → Hp S w0 w' (Res.loomX T Tb v vs st :: l) := by
  obtain ⟨S', h1, ⟨fp, h2, h3⟩, h4, h5⟩ := hp.lend hi
  exact ⟨S', h1, loom_rd h2 h3, h4, h5⟩

theorem RdL.cellAt (h : RdL (fun _ => True) w v vs st) {o : Nat} {u : Value} (hc : (loomCells vs st)[o]? = some u) : ∃ bb oo, optr v o = .pointer (some ⟨bb, oo, none⟩) ∧ w.cell? ⟨bb, oo, none⟩ = some u := by
  obtain ⟨g, rfl, _, h3⟩ := h.ob
  refine ⟨g, 0 + o, by simp [optr, Addr.add_lit], ?_⟩
  rw [h3 o (List.getElem?_eq_some_iff.1 hc).1, hc]
theorem loomCells_b (hv : vs.length = 64) (hs : st.1.length = 64) : (loomCells vs st)[128]? = some (.int .i64 st.2.1) ∧ (loomCells vs st)[129]? = some (.int .i64 st.2.2.1) ∧ (loomCells vs st)[130]? = some (.int .i64 st.2.2.2) := by
  have hl := ringCells_len (vs := vs) (rs := st.1) (by omega)
  unfold loomCells
  refine ⟨?_, ?_, ?_⟩ <;> rw [List.getElem?_append_right (by omega), hl, hs] <;> rfl
theorem RdL.ld1 (h : RdL (fun _ => True) w v vs st) : ∃ bb oo, optr v 128 = .pointer (some ⟨bb, oo, none⟩) ∧ w.cell? ⟨bb, oo, none⟩ = some (.int .i64 st.2.1) := h.cellAt (loomCells_b h.lv h.ls).1
theorem RdL.ld2 (h : RdL (fun _ => True) w v vs st) : ∃ bb oo, optr v 129 = .pointer (some ⟨bb, oo, none⟩) ∧ w.cell? ⟨bb, oo, none⟩ = some (.int .i64 st.2.2.1) := h.cellAt (loomCells_b h.lv h.ls).2.1
theorem RdL.ld3 (h : RdL (fun _ => True) w v vs st) : ∃ bb oo, optr v 130 = .pointer (some ⟨bb, oo, none⟩) ∧ w.cell? ⟨bb, oo, none⟩ = some (.int .i64 st.2.2.2) := h.cellAt (loomCells_b h.lv h.ls).2.2
theorem RdL.ldH (h : RdL (fun _ => True) w v vs st) {p : Int} (h0 : 0 ≤ p ∧ p < 64) : ∃ bb oo, optr v (0 + p.toNat * 2 + 0) = .pointer (some ⟨bb, oo, none⟩) ∧ w.cell? ⟨bb, oo, none⟩ = some (gtv vs p) := by
  have hl := ringCells_len (vs := vs) (rs := st.1) (by rw [h.lv, h.ls])
  refine h.cellAt ?_
  unfold loomCells
  rw [show 0 + p.toNat * 2 + 0 = 2 * p.toNat by omega, List.getElem?_append_left (by rw [hl, h.ls]; omega)]
  exact ringCells_get0 (by rw [h.lv, h.ls]) (gtv_of h0.1 (by rw [h.lv]; omega))
theorem RdL.ldA (h : RdL (fun _ => True) w v vs st) {p : Int} (h0 : 0 ≤ p ∧ p < 64) : ∃ bb oo, optr v (0 + p.toNat * 2 + 1) = .pointer (some ⟨bb, oo, none⟩) ∧ w.cell? ⟨bb, oo, none⟩ = some (.int .i64 (gt st.1 p).2) := by
  have hl := ringCells_len (vs := vs) (rs := st.1) (by rw [h.lv, h.ls])
  refine h.cellAt ?_
  unfold loomCells
  rw [show 0 + p.toNat * 2 + 1 = 2 * p.toNat + 1 by omega, List.getElem?_append_left (by rw [hl, h.ls]; omega)]
  exact ringCells_get1 (by rw [h.lv, h.ls]) (gt_of h0.1 (by rw [h.ls]; omega))
theorem RdL.rowP (h : RdL S w v vs st) {p : Int} (h0 : 0 ≤ p ∧ p < 64) : RdS (Ek.int .u8) S w (gtv vs p) (gt st.1 p).1 :=
  h.row p.toNat _ _ (gtv_of h0.1 (by rw [h.lv]; omega)) (gt_of h0.1 (by rw [h.ls]; omega))

/-! Opening and closing -/
theorem Hp.loomOpen (hp : Hp S w0 w (Res.loomX T Tb v vs st :: rs)) : (vs.length = 64 ∧ st.1.length = 64) ∧
    Hp S w0 w (Res.obj T v (loomCells vs st) :: (List.zipWith (fun u r => Res.sl (Ek.int .u8) Tb u r.1) vs st.1 ++ rs)) := by
  have h := hp.unstar
  exact ⟨h.factOut, by simpa using h.drop⟩
theorem Hp.loomClose (hl : vs.length = 64 ∧ st.1.length = 64) (hp : Hp S w0 w (Res.obj T v (loomCells vs st) :: (List.zipWith (fun u r => Res.sl (Ek.int .u8) Tb u r.1) vs st.1 ++ rs))) :
    Hp S w0 w (Res.loomX T Tb v vs st :: rs) := by
  have h := Hp.fact hl hp
  exact Hp.star (l := _ :: _ :: List.zipWith (fun u r => Res.sl (Ek.int .u8) Tb u r.1) vs st.1) (by simpa using h)
theorem Hp.loomIn (hp : Hp S w0 w (Res.loom T Tb v st :: rs)) : ∃ vs, Hp S w0 w (Res.loomX T Tb v vs st :: rs) := hp.exOpen
theorem Hp.loomOut (hp : Hp S w0 w (Res.loomX T Tb v vs st :: rs)) : Hp S w0 w (Res.loom T Tb v st :: rs) := Hp.exClose (R := fun vs => Res.loomX T Tb v vs st) hp
theorem Hp.loomNew {p q r : Int} (hp : Hp S w0 w (Res.obj T v (loomCells (List.replicate 64 (.slice none 0 0)) (List.replicate 64 ([], 0), p, q, r)) :: rs)) :
    Hp S w0 w (Res.loom T Tb v (List.replicate 64 ([], 0), p, q, r) :: rs) := by
  refine Hp.loomOut (vs := List.replicate 64 (.slice none 0 0)) (Hp.loomClose ⟨by simp, by simp⟩ ?_)
  have : ∀ m, Hp S w0 w (List.zipWith (fun u (r : List Int × Int) => Res.sl (Ek.int .u8) Tb u r.1) (List.replicate m (.slice none 0 0)) (List.replicate m ([], 0)) ++ (Res.obj T v (loomCells (List.replicate 64 (.slice none 0 0)) (List.replicate 64 ([], 0), p, q, r)) :: rs)) := by
    intro m
    induction m with
    | zero => simpa using hp
    | succ m ih => simpa [List.replicate_succ] using Hp.nil ih (Ek.int .u8) Tb
  exact (this 64).perm List.perm_middle

section ops
variable {n : Nat} {a : Act} {L : List (Nat × Value)} {ops : Array Oper} {Q : Exit → Act → World → Prop}
  {rest : List Oper} {d : Nat} {ty : TypeId} {pos : String} {af : Array Edge} {g : Option (Nat × Bool)}
  {t t' e : TypeId} {x y z : Operand} {k k' : IntKind} {p q : Int}

theorem splice_left {β : Type} (A B : List β) (u : β) {o : Nat} (h : o < A.length) : (A ++ B).take o ++ [u] ++ (A ++ B).drop (o + 1) = (A.take o ++ [u] ++ A.drop (o + 1)) ++ B := by
  rw [List.take_append_of_le_length (by omega), List.drop_append_of_le_length (by omega)]
  simp

/-- the turn is stored -/
theorem st_loomTurn (hf : Fr n a L) (hp : Hp S w0 w (Res.loomX T Tb v vs st :: rs)) (hsz : (P.info? e).map (·.size) = some 1)
    (hw : Region.wanted ⟨none, .store e x y, ty, pos, af, g⟩ (yielded ops a.tmps) = true)
    (hx : evL L x = some (optr v 130)) (hy : evL L y = some (.int .i64 p))
    (h : ∀ a' w', Fr n a' L → Hp S w0 w' (Res.loomX T Tb v vs (st.1, st.2.1, st.2.2.1, p) :: rs) → wpList P ops Q rest a' w') :
    wpList P ops Q (⟨none, .store e x y, ty, pos, af, g⟩ :: rest) a w := by
  obtain ⟨⟨l1, l2⟩, hp2⟩ := hp.loomOpen
  have hl := ringCells_len (vs := vs) (rs := st.1) (by omega)
  refine st_stO (us := [.int .i64 p]) hf hp2 (i := 0) rfl hw hx hy rfl rfl hsz (by simp [loomCells, hl, l2]) fun a' w' hf' hp3 => h a' w' hf' ?_
  refine Hp.loomClose ⟨l1, l2⟩ ?_
  simp only [List.set_cons_zero] at hp3
  have e1 : (loomCells vs st).take 130 ++ [.int .i64 p] ++ (loomCells vs st).drop (130 + [Value.int .i64 p].length) = loomCells vs (st.1, st.2.1, st.2.2.1, p) := by
    unfold loomCells
    have hl2 : (ringCells vs st.1).length = 128 := by rw [hl, l2]
    generalize ringCells vs st.1 = A at hl2 ⊢
    rw [List.take_append, List.drop_append]
    simp only [hl2, List.length_cons, List.length_nil]
    rw [List.take_of_length_le (by omega), List.drop_eq_nil_of_le (by omega)]
    simp
  rw [e1] at hp3
  exact hp3

/-- a ring's place is stored -/
theorem st_loomAt (hf : Fr n a L) (hp : Hp S w0 w (Res.loomX T Tb v vs st :: rs)) (hsz : (P.info? e).map (·.size) = some 1)
    (hw : Region.wanted ⟨none, .store e x y, ty, pos, af, g⟩ (yielded ops a.tmps) = true) {j : Int} (hj : 0 ≤ j ∧ j < 64)
    (hx : evL L x = some (optr v (0 + j.toNat * 2 + 1))) (hy : evL L y = some (.int .i64 p))
    (h : ∀ a' w', Fr n a' L → Hp S w0 w' (Res.loomX T Tb v vs (st.1.set j.toNat ((gt st.1 j).1, p), st.2) :: rs) → wpList P ops Q rest a' w') :
    wpList P ops Q (⟨none, .store e x y, ty, pos, af, g⟩ :: rest) a w := by
  obtain ⟨⟨l1, l2⟩, hp2⟩ := hp.loomOpen
  have hl := ringCells_len (vs := vs) (rs := st.1) (by omega)
  refine st_stO (us := [.int .i64 p]) hf hp2 (i := 0) rfl hw hx hy rfl rfl hsz (by simp [loomCells, hl, l2]; omega) fun a' w' hf' hp3 => h a' w' hf' ?_
  refine Hp.loomClose ⟨l1, by simpa using l2⟩ ?_
  simp only [List.set_cons_zero] at hp3
  have hg := gt_of hj.1 (show j < st.1.length by rw [l2]; omega)
  have e1 : (loomCells vs st).take (0 + j.toNat * 2 + 1) ++ [.int .i64 p] ++ (loomCells vs st).drop (0 + j.toNat * 2 + 1 + [Value.int .i64 p].length) = loomCells vs (st.1.set j.toNat ((gt st.1 j).1, p), st.2) := by
    rw [show 0 + j.toNat * 2 + 1 = 2 * j.toNat + 1 by omega]
    unfold loomCells
    rw [show [Value.int .i64 p].length = 1 from rfl, splice_left _ _ _ (by rw [hl, l2]; omega), ringCells_set1 p (by omega) hg]
  rw [e1] at hp3
  have e2 : List.zipWith (fun u (r : List Int × Int) => Res.sl (Ek.int .u8) Tb u r.1) vs (st.1.set j.toNat ((gt st.1 j).1, p)) = List.zipWith (fun u (r : List Int × Int) => Res.sl (Ek.int .u8) Tb u r.1) vs st.1 := by
    apply List.ext_getElem?
    intro i
    rw [List.getElem?_zipWith, List.getElem?_zipWith]
    by_cases hi : j.toNat = i
    · subst hi
      rw [List.getElem?_set_self (by rw [l2]; omega), hg]
      cases vs[j.toNat]? <;> rfl
    · rw [List.getElem?_set_ne hi]
  rw [← e2] at hp3
  exact hp3

/-- a ring's slice is stored -/
theorem st_loomHeld {u : Value} {xs : List Int} {m : Nat} (hf : Fr n a L) (hp : Hp S w0 w (Res.loomX T Tb v vs st :: Res.sl (Ek.int .u8) Tb u xs :: rs)) (hsh : Shape u m) (hsz : (P.info? e).map (·.size) = some 1)
    (hw : Region.wanted ⟨none, .store e x y, ty, pos, af, g⟩ (yielded ops a.tmps) = true) {j : Int} (hj : 0 ≤ j ∧ j < 64)
    (hx : evL L x = some (optr v (0 + j.toNat * 2 + 0))) (hy : evL L y = some u)
    (h : ∀ a' w', Fr n a' L → Hp S w0 w' (Res.loomX T Tb v (vs.set j.toNat u) (st.1.set j.toNat (xs, (gt st.1 j).2), st.2) :: rs) → wpList P ops Q rest a' w') :
    wpList P ops Q (⟨none, .store e x y, ty, pos, af, g⟩ :: rest) a w := by
  obtain ⟨⟨l1, l2⟩, hp2⟩ := hp.loomOpen
  have hl := ringCells_len (vs := vs) (rs := st.1) (by omega)
  obtain ⟨A, c, rfl⟩ := hsh
  refine st_stO (us := [.slice A m c]) hf hp2 (i := 0) rfl hw hx hy rfl rfl hsz (by simp [loomCells, hl, l2]; omega) fun a' w' hf' hp3 => h a' w' hf' ?_
  refine Hp.loomClose ⟨by simpa using l1, by simpa using l2⟩ ?_
  simp only [List.set_cons_zero] at hp3
  have hg := gt_of hj.1 (show j < st.1.length by rw [l2]; omega)
  have hv := gtv_of hj.1 (show j < vs.length by rw [l1]; omega)
  have e1 : (loomCells vs st).take (0 + j.toNat * 2 + 0) ++ [.slice A m c] ++ (loomCells vs st).drop (0 + j.toNat * 2 + 0 + [Value.slice A m c].length) = loomCells (vs.set j.toNat (.slice A m c)) (st.1.set j.toNat (xs, (gt st.1 j).2), st.2) := by
    rw [show 0 + j.toNat * 2 + 0 = 2 * j.toNat by omega]
    unfold loomCells
    rw [show [Value.slice A m c].length = 1 from rfl, splice_left _ _ _ (by rw [hl, l2]; omega), ringCells_set0 _ xs (by omega) hg]
  rw [e1] at hp3
  obtain ⟨A', B, k1, k2⟩ := zip_split (fun u (r : List Int × Int) => Res.sl (Ek.int .u8) Tb u r.1) j.toNat vs st.1 _ _ hv hg
  rw [k1] at hp3
  rw [show (st.1.set j.toNat (xs, (gt st.1 j).2), st.2).1 = st.1.set j.toNat (xs, (gt st.1 j).2) from rfl, k2]
  have hp4 : Hp S w0 w' (Res.sl (Ek.int .u8) Tb (gtv vs j) (gt st.1 j).1 :: (Res.obj T v (loomCells (vs.set j.toNat (.slice A m c)) (st.1.set j.toNat (xs, (gt st.1 j).2), st.2)) :: (A' ++ Res.sl (Ek.int .u8) Tb (.slice A m c) xs :: (B ++ rs)))) := by
    refine hp3.perm ?_
    simp only [List.append_assoc, List.cons_append]
    have q1 : (A' ++ Res.sl (Ek.int .u8) Tb (gtv vs j) (gt st.1 j).1 :: (B ++ Res.sl (Ek.int .u8) Tb (.slice A m c) xs :: rs)).Perm (Res.sl (Ek.int .u8) Tb (gtv vs j) (gt st.1 j).1 :: (A' ++ Res.sl (Ek.int .u8) Tb (.slice A m c) xs :: (B ++ rs))) :=
      List.perm_middle.trans (List.Perm.cons _ (List.Perm.append_left A' List.perm_middle))
    exact (List.Perm.cons _ q1).trans (List.Perm.swap _ _ _)
  simpa using hp4.drop

/-- a byte of a ring is stored -/
theorem st_loomByte {i : Int} {bytes : Nat} {z0 : Int} (hf : Fr n a L) (he : ElT P (Ek.int .u8) Tb bytes z0) (hp : Hp S w0 w (Res.loomX T Tb v vs st :: rs))
    (hw : Region.wanted ⟨none, .store Tb x y, ty, pos, af, g⟩ (yielded ops a.tmps) = true) {j : Int} (hj : 0 ≤ j ∧ j < 64)
    (hx : evL L x = some (eptr (gtv vs j) i 1)) (hy : evL L y = some (.int .u8 p)) (h0 : 0 ≤ i) (h1 : i < ((gt st.1 j).1.length : Int))
    (h : ∀ a' w', Fr n a' L → Hp S w0 w' (Res.loomX T Tb v vs (st.1.set j.toNat ((gt st.1 j).1.set i.toNat p, (gt st.1 j).2), st.2) :: rs) → wpList P ops Q rest a' w') :
    wpList P ops Q (⟨none, .store Tb x y, ty, pos, af, g⟩ :: rest) a w := by
  obtain ⟨⟨l1, l2⟩, hp2⟩ := hp.loomOpen
  have hg := gt_of hj.1 (show j < st.1.length by rw [l2]; omega)
  have hv := gtv_of hj.1 (show j < vs.length by rw [l1]; omega)
  obtain ⟨A', B, k1, k2⟩ := zip_split (fun u (r : List Int × Int) => Res.sl (Ek.int .u8) Tb u r.1) j.toNat vs st.1 _ _ hv hg
  rw [k1] at hp2
  have hp3 : Hp S w0 w (Res.sl (Ek.int .u8) Tb (gtv vs j) (gt st.1 j).1 :: (Res.obj T v (loomCells vs st) :: (A' ++ (B ++ rs)))) := by
    refine hp2.perm ?_
    simp only [List.append_assoc, List.cons_append]
    exact (List.Perm.cons _ List.perm_middle).trans (List.Perm.swap _ _ _)
  refine st_store (E := Ek.int .u8) (u := .int .u8 p) (x' := p) hf he hp3 (i := 0) rfl hw hx hy rfl h0 h1 fun a' w' hf' hp4 => h a' w' hf' ?_
  simp only [List.set_cons_zero] at hp4
  refine Hp.loomClose ⟨l1, by simpa using l2⟩ ?_
  have e4 : vs.set j.toNat (gtv vs j) = vs := by
    apply List.ext_getElem?
    intro i
    by_cases hi : j.toNat = i
    · subst hi; rw [List.getElem?_set_self (by omega), hv]
    · rw [List.getElem?_set_ne hi]
  have e5 := k2 (gtv vs j) ((gt st.1 j).1.set i.toNat p, (gt st.1 j).2)
  rw [e4] at e5
  rw [show (st.1.set j.toNat ((gt st.1 j).1.set i.toNat p, (gt st.1 j).2), st.2).1 = st.1.set j.toNat ((gt st.1 j).1.set i.toNat p, (gt st.1 j).2) from rfl, e5]
  have e6 : loomCells vs (st.1.set j.toNat ((gt st.1 j).1.set i.toNat p, (gt st.1 j).2), st.2) = loomCells vs st := by
    unfold loomCells
    have := ringCells_set0 (gtv vs j) ((gt st.1 j).1.set i.toNat p) (show vs.length = st.1.length by omega) hg
    rw [e4] at this
    rw [← this]
    have hc := ringCells_get0 (vs := vs) (rs := st.1) (by omega) hv
    have hcl := (List.getElem?_eq_some_iff.1 hc).1
    congr 1
    rw [List.append_assoc, List.singleton_append]
    have e7 : (ringCells vs st.1)[2 * j.toNat]'hcl = gtv vs j := by rw [List.getElem?_eq_getElem hcl] at hc; exact Option.some.inj hc
    rw [← e7, ← List.drop_eq_getElem_cons hcl, List.take_append_drop]
  rw [e6]
  refine hp4.perm ?_
  simp only [List.append_assoc, List.cons_append]
  exact (List.Perm.swap _ _ _).trans (List.Perm.cons _ List.perm_middle.symm)
end ops

theorem nilT : NilB (.pointer none) true := ⟨fun _ => rfl, fun h => by cases h⟩
theorem nilF (h : RdO (fun _ => True) w v []) : NilB v false := by
  obtain ⟨g, h1, _⟩ := h
  exact ⟨fun h => (by cases h), fun _ => ⟨_, h1⟩⟩
theorem RdO.eq0 {cs : List Value} (h : RdO S w v cs) : optr v 0 = v := by
  obtain ⟨g, rfl, _⟩ := h
  simp [optr, Addr.add_lit]
theorem Hp.optSome (hp : Hp S w0 w (Res.opt K v o :: rs)) (h : o = some s) : Hp S w0 w (K.R v s :: rs) := by subst h; exact hp

theorem Hp.optBack (hp : Hp S w0 w (Res.opt K v (some s) :: rs)) (h : o = some s) : Hp S w0 w (Res.opt K v o :: rs) := by subst h; exact hp
/-- A slice that is owned, and read alone. -/
def Res.rsl {α : Type} (E : Ek α) (v : Value) (xs : List α) : Res where
  own := fun fp w => RdS E fp w v xs ∧ ∀ k, fp k → k < w.heap.size
  loc := fun fp w w' h hk => ⟨h.1.loc hk, fun k hf => by
    have h1 := hk k hf
    rw [Array.getElem?_eq_getElem (h.2 k hf)] at h1
    exact (Array.getElem?_eq_some_iff.1 h1).1⟩
  bd := fun fp w k h hk => h.2 k hk
theorem Hp.rsl {α : Type} {E : Ek α} {xs : List α} (hp : Hp S w0 w rs) {i : Nat} (hi : rs[i]? = some (Res.rsl E v xs)) : Sl E w v xs := by
  obtain ⟨fp, h, _⟩ := hp.take hi
  exact h.1.any
theorem Hp.lendRS {α : Type} {E : Ek α} {xs : List α} (hp : Hp S w0 w rs) {i : Nat} (hi : rs[i]? = some (Res.rsl E v xs)) :
    ∃ S' : Nat → Prop, Hp S' w w (rs.eraseIdx i) ∧ RdS E S' w v xs ∧ (∀ k, S k → S' k) ∧
      ∀ (w' : World) (l : List Res), Hp S' w w' l → Hp S w0 w' (Res.rsl E v xs :: l) := by
  obtain ⟨S', h1, ⟨fp, h2, h3⟩, h4, h5⟩ := hp.lend hi
  exact ⟨S', h1, h2.1.mono h3, h4, h5⟩

theorem st_convSB {n : Nat} {a : Act} {L : List (Nat × Value)} {ops : Array Oper} {Q : Exit → Act → World → Prop} {rest : List Oper} {d : Nat} {ty : TypeId} {pos : String} {af : Array Edge} {g : Option (Nat × Bool)}
    {t t' e : TypeId} {x : Operand} {s : ByteArray}
    (hf : Fr n a L) (hd : d < n) (hs : P.underlying t = some .string) (hdt : P.underlying t' = some (.slice e)) (he : P.underlying e = some (.int .u8)) (hp : Hp S w0 w rs)
    (hw : Region.wanted ⟨some d, .convert t t' x, ty, pos, af, g⟩ (yielded ops a.tmps) = true)
    (hx : evL L x = some (.string s)) (hb : s.size ≤ 140737488355328)
    (h : ∀ a' w' v', Fr n a' ((d, v') :: L) → Hp S w0 w' (Res.rsl (Ek.int .u8) v' (sbytes s) :: rs) → wpList P ops Q rest a' w') :
    wpList P ops Q (⟨some d, .convert t t' x, ty, pos, af, g⟩ :: rest) a w := by
  have hrun := run_bytes_of_string (P := P) w t t' e s hs hdt he
  generalize hcap : grownCap w s.size 0 e = cap at hrun
  generalize ((bytesRow s cap).size, (bytesRow s cap).size + 1) = fr at hrun
  have hge : s.size ≤ cap := by rw [← hcap]; exact grownCap_ge w s.size 0 e
  have hle : cap ≤ maxLen := by rw [← hcap]; exact grownCap_le_maxLen w s.size 0 e (by simp only [maxLen]; omega)
  have hnew : (w.drew.alloc (.cells (bytesRow s cap) e fr)).heap[w.heap.size]? = some (.cells (bytesRow s cap) e fr) := heap_alloc_new w.drew _
  have hsame : Same w (w.drew.alloc (.cells (bytesRow s cap) e fr)) := ⟨rfl, rfl, rfl, by simp, fun k hk _ => heap_alloc_old w.drew _ k hk⟩
  refine st_run hf hw rfl hd (v := .slice (some ⟨w.heap.size, 0, none⟩) s.size cap) (w' := w.drew.alloc (.cells (bytesRow s cap) e fr)) ?_
    fun a' _ hf' => h a' _ _ hf' (hp.push hsame (fp := fun k => k = w.heap.size) ⟨⟨_, cap, by rw [sbytes_len], by rw [sbytes_len]; exact hge, hle, fun h0 => ⟨w.heap.size, 0, Go.Lib.byteCells s.data.toList, rfl, rfl, sbytes_rep s, ?_⟩⟩, fun k hk => ?_⟩ (fun k hk => by omega))
  · simp only [execOp, hf.ev hx, Sem.run_bind, hrun, Result.andThen]
    first | rfl | done
  · have := cells_of_take (m := s.size) hnew
    have e1 : (bytesRow s cap).toList.take s.size = Go.Lib.byteCells s.data.toList := by
      have hl : (s.data.toList.map fun b => Value.int .u8 (b.toNat : Int)).length = s.size := by simp only [List.length_map, Array.length_toList]; rfl
      simp only [bytesRow, Array.toList_append, Array.toList_map, Go.Lib.byteCells]
      rw [List.take_append_of_le_length (by rw [hl]; exact Nat.le_refl _), List.take_of_length_le (by rw [hl]; exact Nat.le_refl _)]
    rw [e1] at this
    exact this
  · rw [hk]; exact (Array.getElem?_eq_some_iff.1 hnew).1
end GL
