/- Own library, part N: objects of known cells (variables of struct and array types); results in cells; calls of a chosen function. -/
import Derived.Test.YtgdhjjdgghilhaaGreatGlM
import Derived.Scope
set_option linter.unusedVariables false
set_option linter.unusedSimpArgs false
namespace GL
open Go

variable {S S' : Nat → Prop} {w w' w0 : World} {v : Value} {T T' : TypeId} {rs : List Res} {P : Program} {cs us : List Value}

def optr (v : Value) (o : Nat) : Value :=
  match v with
  | .pointer (some a) => .pointer (some (a.add o))
  | _ => undef

def RdO (S : Nat → Prop) (w : World) (v : Value) (cs : List Value) : Prop := ∃ g, v = .pointer (some ⟨g, 0, none⟩) ∧ S g ∧ cellsAt w g 0 cs
theorem RdO.mono (h : RdO S w v cs) (hs : ∀ k, S k → S' k) : RdO S' w v cs := let ⟨g, h1, h2, h3⟩ := h; ⟨g, h1, hs _ h2, h3⟩
theorem RdO.now (h : RdO S w0 v cs) (hp : Hp S w0 w rs) : RdO S w v cs := by
  obtain ⟨g, h1, h2, h3⟩ := h
  exact ⟨g, h1, h2, fun j hj => (cell_same (hp.old g h2).2).trans (h3 j hj)⟩
theorem RdO.ob (h : RdO S w0 v cs) (hp : Hp S w0 w rs) : RdO (fun _ => True) w v cs := (h.now hp).mono fun _ _ => trivial

def Res.obj (T : TypeId) (v : Value) (cs : List Value) : Res where
  own := fun fp w => ∃ g, v = .pointer (some ⟨g, 0, none⟩) ∧ (∀ k, fp k ↔ k = g) ∧ w.heap[g]? = some (.cells cs.toArray T (0, 0))
  loc := by
    rintro fp w w' ⟨g, h1, h2, h3⟩ hk
    exact ⟨g, h1, h2, (hk g ((h2 g).2 rfl)).trans h3⟩
  bd := by
    rintro fp w k ⟨g, h1, h2, h3⟩ hk
    rw [(h2 k).1 hk]; exact (Array.getElem?_eq_some_iff.1 h3).1

theorem obj_rd {fp : Nat → Prop} (h : (Res.obj T v cs).own fp w) (hs : ∀ k, fp k → S k) : RdO S w v cs := by
  obtain ⟨g, h1, h2, h3⟩ := h
  refine ⟨g, h1, hs g ((h2 g).2 rfl), fun j hj => ?_⟩
  simp [World.cell?, h3]
theorem Hp.ob (hp : Hp S w0 w rs) {i : Nat} (hi : rs[i]? = some (Res.obj T v cs)) : RdO (fun _ => True) w v cs := by
  obtain ⟨fp, h, _⟩ := hp.take hi
  exact obj_rd h fun _ _ => trivial
theorem Hp.lendO (hp : Hp S w0 w rs) {i : Nat} (hi : rs[i]? = some (Res.obj T v cs)) :
    ∃ S' : Nat → Prop, Hp S' w w (rs.eraseIdx i) ∧ RdO S' w v cs ∧ (∀ k, S k → S' k) ∧
      ∀ (w' : World) (l : List Res), Hp S' w w' l → Hp S w0 w' (Res.obj T v cs :: l) := by
  obtain ⟨S', h1, ⟨fp, h2, h3⟩, h4, h5⟩ := hp.lend hi
  exact ⟨S', h1, obj_rd h2 h3, h4, h5⟩

section ops
variable {n : Nat} {a : Act} {L : List (Nat × Value)} {ops : Array Oper} {Q : Exit → Act → World → Prop}
  {rest : List Oper} {d : Nat} {ty : TypeId} {pos : String} {af : Array Edge} {g : Option (Nat × Bool)}
  {t t' e : TypeId} {x y z : Operand} {k k' : IntKind} {p q : Int} {u : Value} {i o o' : Nat}

theorem st_alloc {zv : Value} (hf : Fr n a L) (hd : d < n) (hz : (P.info? T).bind (·.zero) = some zv) (hc : zv.cells = cs.toArray) (hp : Hp S w0 w rs)
    (hw : Region.wanted ⟨some d, .alloc T, ty, pos, af, g⟩ (yielded ops a.tmps) = true)
    (h : ∀ a' w' v', Fr n a' ((d, optr v' 0) :: L) → Hp S w0 w' (Res.obj T v' cs :: rs) → wpList P ops Q rest a' w') :
    wpList P ops Q (⟨some d, .alloc T, ty, pos, af, g⟩ :: rest) a w := by
  obtain ⟨inf, hi, hz'⟩ := Option.bind_eq_some_iff.1 hz
  refine st_run hf hw rfl hd (v := optr (.pointer (some ⟨w.heap.size, 0, none⟩)) 0) (w' := w.alloc (.cells zv.cells T)) ?_
    fun a' _ hf' => h a' _ _ hf' (hp.push (Same.alloc w _) (fp := fun k => k = w.heap.size) ?_ (fun k hk => by omega))
  · simp [execOp, Instr.alloc, zeroValue, typeInfo, hi, hz', newVar, newRow, Result.andThen, optr, Addr.add_lit]
  · exact ⟨w.heap.size, rfl, fun _ => Iff.rfl, by rw [← hc]; exact heap_alloc_new w (.cells zv.cells T)⟩

theorem st_boxO (hf : Fr n a L) (hd : d < n) (hp : Hp S w0 w rs)
    (hw : Region.wanted ⟨some d, .box T x, ty, pos, af, g⟩ (yielded ops a.tmps) = true)
    (hx : evL L x = some u) (hc : u.cells = cs.toArray)
    (h : ∀ a' w' v', Fr n a' ((d, optr v' 0) :: L) → Hp S w0 w' (Res.obj T v' cs :: rs) → wpList P ops Q rest a' w') :
    wpList P ops Q (⟨some d, .box T x, ty, pos, af, g⟩ :: rest) a w := by
  refine st_run hf hw rfl hd (v := optr (.pointer (some ⟨w.heap.size, 0, none⟩)) 0) (w' := w.alloc (.cells u.cells T)) ?_
    fun a' _ hf' => h a' _ _ hf' (hp.push (Same.alloc w _) (fp := fun k => k = w.heap.size) ?_ (fun k hk => by omega))
  · simp [execOp, hf.ev hx, Instr.box, newVar, newRow, Result.andThen, optr, Addr.add_lit]
  · exact ⟨w.heap.size, rfl, fun _ => Iff.rfl, by rw [← hc]; exact heap_alloc_new w (.cells u.cells T)⟩

theorem st_stO (hf : Fr n a L) (hp : Hp S w0 w rs) (hi : rs[i]? = some (Res.obj T v cs))
    (hw : Region.wanted ⟨none, .store e x y, ty, pos, af, g⟩ (yielded ops a.tmps) = true)
    (hx : evL L x = some (optr v o)) (hy : evL L y = some u) (hu : u.cells.toList = us) (h1 : us.all (·.oneCell') = true) (hsz : (P.info? e).map (·.size) = some us.length) (ho : o + us.length ≤ cs.length)
    (h : ∀ a' w', Fr n a' L → Hp S w0 w' (rs.set i (Res.obj T v (cs.take o ++ us ++ cs.drop (o + us.length)))) → wpList P ops Q rest a' w') :
    wpList P ops Q (⟨none, .store e x y, ty, pos, af, g⟩ :: rest) a w := by
  obtain ⟨fp, hown, _, K⟩ := hp.take hi
  obtain ⟨b, rfl, h2, h3⟩ := hown
  have hrun := run_store_cells (P := P) (o := 0 + o) (T' := e) h3 (by simpa using ho) (fun v hv => List.all_eq_true.1 h1 v hv) hu hsz
  refine st_run0 (w' := w.setRow b ((cs.toArray).toList.take (0 + o) ++ us ++ (cs.toArray).toList.drop (0 + o + us.length)).toArray) hf hw rfl ?_ fun a' hf' => h a' _ hf' (K _ _ fp (chg_setRow w b _ ((h2 b).2 rfl)) ?_ (fun k hk => .inl hk))
  · simp only [execOp, hf.ev hx, hf.ev hy, optr, Addr.add_lit, Sem.run_bind, hrun, Result.andThen_ok]
    rfl
  · exact ⟨b, rfl, h2, by simpa using setRow_heap w b cs.toArray _ T _ h3⟩

theorem st_ldO (hf : Fr n a L) (hd : d < n) (hT : Plain P T)
    (hw : Region.wanted ⟨some d, .load T x, ty, pos, af, g⟩ (yielded ops a.tmps) = true)
    (hx : evL L x = some (optr v o)) (hb : RdO (fun _ => True) w v cs) (hc : cs[o]? = some u)
    (h : ∀ a', a' = a.put (some d) u → Fr n a' ((d, u) :: L) → wpList P ops Q rest a' w) :
    wpList P ops Q (⟨some d, .load T x, ty, pos, af, g⟩ :: rest) a w := by
  obtain ⟨b, rfl, _, h4⟩ := hb
  have ho := (List.getElem?_eq_some_iff.1 hc).1
  exact st_loadAt hf hd hT hw hx (by simp only [optr, Addr.add_lit]) ((h4 o ho).trans hc) h

def aggB (P : Program) (T : TypeId) : Option Nat :=
  match P.underlying T with
  | some (.struct _) | some (.array _ _) => (P.info? T).map (·.size)
  | _ => none
theorem agg_run {m : Nat} (h : aggB P T = some m) (w : World) : (isAgg T).run P w = .ok true w ∧ (Go.sizeOf T).run P w = .ok m w := by
  unfold aggB at h
  split at h
  · rename_i hu
    obtain ⟨inf, h1, h2⟩ := Option.map_eq_some_iff.1 h
    exact ⟨by simp [isAgg, run_underlying hu, Sem.run, pure], by simp [Go.sizeOf, typeInfo, h1, h2]⟩
  · rename_i hu
    obtain ⟨inf, h1, h2⟩ := Option.map_eq_some_iff.1 h
    exact ⟨by simp [isAgg, run_underlying hu, Sem.run, pure], by simp [Go.sizeOf, typeInfo, h1, h2]⟩
  · cases h
theorem run_load_agg {m b : Nat} (h : aggB P T = some m) (h4 : cellsAt w b 0 cs) (hc : (cs.drop o).take m = us) (hm : us.length = m) : (Instr.loadAt T (.pointer (some ⟨b, o, none⟩))).run P w = .ok (.agg us.toArray) w := by
  obtain ⟨k1, k2⟩ := agg_run h w
  have := run_loadCells_list (P := P) w (⟨b, o, none⟩ : Addr) us (fun j u hj => by
    rw [Addr.add_lit]
    have hjl := (List.getElem?_eq_some_iff.1 hj).1
    rw [← hc, List.getElem?_take_of_lt (by omega), List.getElem?_drop] at hj
    have := h4 (o + j) (List.getElem?_eq_some_iff.1 hj).1
    rw [Nat.zero_add] at this
    rw [this, hj])
  rw [hm] at this
  simp only [Instr.loadAt, Instr.sureAddr, loadVar, Sem.run_bind]
  simp [Sem.run, pure, Result.andThen] at this k1 k2 ⊢
  simp [k1, k2, this]

theorem st_ldOA {m : Nat} (hf : Fr n a L) (hd : d < n) (hT : aggB P T = some m)
    (hw : Region.wanted ⟨some d, .load T x, ty, pos, af, g⟩ (yielded ops a.tmps) = true)
    (hx : evL L x = some (optr v o)) (hb : RdO (fun _ => True) w v cs) (hc : (cs.drop o).take m = us) (hm : us.length = m)
    (h : ∀ a', a' = a.put (some d) (.agg us.toArray) → Fr n a' ((d, .agg us.toArray) :: L) → wpList P ops Q rest a' w) :
    wpList P ops Q (⟨some d, .load T x, ty, pos, af, g⟩ :: rest) a w := by
  obtain ⟨b, rfl, _, h4⟩ := hb
  refine st_run hf hw rfl hd (v := .agg us.toArray) (w' := w) ?_ h
  have := run_load_agg (P := P) (o := o) hT h4 hc hm
  simp only [execOp, hf.ev hx, optr, Addr.add_lit, Nat.zero_add, Sem.run_bind, this, Result.andThen_ok]
  rfl

def fieldB (P : Program) (s : TypeId) (f : Nat) : Option (Nat × Nat) :=
  match P.underlying s with
  | some (.struct fs) => (fs[f]?).bind fun fl => (P.info? fl.type).map fun i => (fl.offset, i.size)
  | _ => none
theorem st_fa {w1 : World} {s : TypeId} {f off sz : Nat} (hf : Fr n a L) (hd : d < n) (hs : fieldB P s f = some (off, sz)) (hsz : 0 < sz)
    (hw : Region.wanted ⟨some d, .fieldAddr s x f, ty, pos, af, g⟩ (yielded ops a.tmps) = true)
    (hx : evL L x = some (optr v o)) (hb : RdO (fun _ => True) w1 v cs) (ho : o + off = o')
    (h : ∀ a', a' = a.put (some d) (optr v o') → Fr n a' ((d, optr v o') :: L) → wpList P ops Q rest a' w) :
    wpList P ops Q (⟨some d, .fieldAddr s x f, ty, pos, af, g⟩ :: rest) a w := by
  obtain ⟨b, rfl, _, _⟩ := hb
  subst ho
  unfold fieldB at hs
  split at hs
  · rename_i fs hu
    obtain ⟨fl, h1, h2⟩ := Option.bind_eq_some_iff.1 hs
    obtain ⟨inf, h3, h4⟩ := Option.map_eq_some_iff.1 h2
    simp only [Prod.mk.injEq] at h4
    obtain ⟨rfl, rfl⟩ := h4
    refine st_run hf hw rfl hd (w' := w) ?_ h
    have hne : inf.size ≠ 0 := by omega
    simp [execOp, hf.ev hx, optr, Addr.add_lit, Instr.fieldAt, run_underlying hu, h1, Instr.sureAddr, fieldPlace, Go.sizeOf, typeInfo, h3, hne, Result.andThen]
  · cases hs

theorem st_buildA {parts : List (Nat × Operand)} {vals : List (Nat × Value)} {cells : List Value} (hf : Fr n a L) (hd : d < n)
    (hw : Region.wanted ⟨some d, .build T parts.toArray, ty, pos, af, g⟩ (yielded ops a.tmps) = true)
    (hv : parts.map (fun p => (p.1, a.eval p.2)) = vals)
    (hr : ∀ w : World, (Instr.build T vals.toArray).run P w = .ok (.agg cells.toArray) w)
    (h : ∀ a', a' = a.put (some d) (.agg cells.toArray) → Fr n a' ((d, .agg cells.toArray) :: L) → wpList P ops Q rest a' w) :
    wpList P ops Q (⟨some d, .build T parts.toArray, ty, pos, af, g⟩ :: rest) a w := by
  refine st_run hf hw rfl hd (w' := w) ?_ h
  subst hv
  have := hr w
  simp [execOp] at this ⊢
  simp [this, Result.andThen]

def rv1 (P : Program) (L : List (Nat × Value)) (w : World) : ResultVar → Value → Prop
  | .tmp t, v => lk L t = some v
  | .cell t T, v => ∃ u cs, lk L t = some (optr u 0) ∧ RdO (fun _ => True) w u cs ∧ ((Plain P T ∧ cs = [v]) ∨ (aggB P T = some cs.length ∧ v = .agg cs.toArray))
def rvRun (tmps : Array Value) : ResultVar → Sem Value
  | .tmp t => pure (tmps.getD t undef)
  | .cell a t => do loadVar t (← asAddr (tmps.getD a undef))
theorem run_rv {r : ResultVar} {v : Value} (hf : Fr n a L) (h : rv1 P L w r v) : (rvRun a.tmps r).run P w = .ok v w := by
  cases r with
  | tmp t =>
    have e := hf.slots _ _ h
    simp [rvRun, Array.getD_eq_getD_getElem?, e]
  | cell t T =>
    obtain ⟨u, cs, h1, ⟨b, rfl, _, h4⟩, h3⟩ := h
    have e := hf.slots _ _ h1
    have e2 : a.tmps.getD t undef = .pointer (some ⟨b, 0, none⟩) := by simp [Array.getD_eq_getD_getElem?, e, optr, Addr.add_lit]
    have key : (loadVar T ⟨b, 0, none⟩).run P w = .ok v w := by
      rcases h3 with ⟨hT, rfl⟩ | ⟨hT, rfl⟩
      · have := run_load_cell (P := P) hT (b := b) (o := 0) (u := v) (by simpa using h4 0 (by simp)) w rfl
        simpa [Instr.loadAt, Instr.sureAddr] using this
      · have := run_load_agg (P := P) (o := 0) hT h4 (us := cs) (by simp) rfl
        simpa [Instr.loadAt, Instr.sureAddr] using this
    simp [rvRun, e2, asAddr, key]
theorem results_rv (fn : Func) (tmps : Array Value) : results fn tmps = (do
    let vs ← fn.results.mapM (rvRun tmps)
    pure (if h : vs.size = 1 then vs[0] else .tuple vs)) := by
  unfold results
  congr
theorem retG1 {fn : Func} {R : Ending → World → Prop} {r0 : ResultVar} {v0 : Value} (hf : Fr n a L) (hr : fn.results = #[r0]) (h0 : rv1 P L w r0 v0)
    (h : R (.returned v0) w) : bodyPost P fn R .ret a w := by
  refine bodyPost_ret (v := v0) ?_ hf.defers h
  rw [results_rv, hr]
  simp [run_rv hf h0]
theorem retG2 {fn : Func} {R : Ending → World → Prop} {r0 r1 : ResultVar} {v0 v1 : Value} (hf : Fr n a L) (hr : fn.results = #[r0, r1]) (h0 : rv1 P L w r0 v0) (h1 : rv1 P L w r1 v1)
    (h : R (.returned (.tuple #[v0, v1])) w) : bodyPost P fn R .ret a w := by
  refine bodyPost_ret (v := .tuple #[v0, v1]) ?_ hf.defers h
  rw [results_rv, hr]
  simp [run_rv hf h0, run_rv hf h1]
end ops
end GL
namespace GL
open Go
variable {S S' : Nat → Prop} {w w' w0 : World} {v : Value} {T T' : TypeId} {rs : List Res} {P : Program}

theorem st_ldP {n : Nat} {a : Act} {L : List (Nat × Value)} {ops : Array Oper} {Q : Exit → Act → World → Prop} {rest : List Oper} {d : Nat} {ty : TypeId} {pos : String} {af : Array Edge} {g : Option (Nat × Bool)} {x : Operand} {u q : Value}
    (hf : Fr n a L) (hd : d < n) (hT : Plain P T) (hw : Region.wanted ⟨some d, .load T x, ty, pos, af, g⟩ (yielded ops a.tmps) = true)
    (hx : evL L x = some q) (hl : ∃ bb oo, q = .pointer (some ⟨bb, oo, none⟩) ∧ w.cell? ⟨bb, oo, none⟩ = some u)
    (h : ∀ a', a' = a.put (some d) u → Fr n a' ((d, u) :: L) → wpList P ops Q rest a' w) :
    wpList P ops Q (⟨some d, .load T x, ty, pos, af, g⟩ :: rest) a w := by
  obtain ⟨bb, oo, rfl, hc⟩ := hl
  exact st_loadAt hf hd hT hw hx rfl hc h
end GL
namespace GL
open Go
variable {α : Type} {E : Ek α} {S S' : Nat → Prop} {w w' w0 : World} {v : Value} {T T' : TypeId} {rs : List Res} {P : Program} {xs sp : List α}

def RdX (E : Ek α) (S : Nat → Prop) (w : World) (v : Value) (xs sp : List α) : Prop :=
  ∃ A cap, v = .slice A xs.length cap ∧ (xs ++ sp).length ≤ cap ∧ cap ≤ maxLen ∧
    (0 < (xs ++ sp).length → ∃ b o cs, A = some ⟨b, o, none⟩ ∧ S b ∧ E.reps cs (xs ++ sp) ∧ cellsAt w b o cs)
theorem RdX.mono (h : RdX E S w v xs sp) (hs : ∀ k, S k → S' k) : RdX E S' w v xs sp := by
  obtain ⟨A, cap, h1, h2, h3, h4⟩ := h
  exact ⟨A, cap, h1, h2, h3, fun h0 => let ⟨b, o, cs, e1, e2, e3, e4⟩ := h4 h0; ⟨b, o, cs, e1, hs _ e2, e3, e4⟩⟩
theorem RdX.now (h : RdX E S w0 v xs sp) (hp : Hp S w0 w rs) : RdX E S w v xs sp := by
  obtain ⟨A, cap, h1, h2, h3, h4⟩ := h
  exact ⟨A, cap, h1, h2, h3, fun h0 => let ⟨b, o, cs, e1, e2, e3, e4⟩ := h4 h0; ⟨b, o, cs, e1, e2, e3, fun j hj => (cell_same (hp.old b e2).2).trans (e4 j hj)⟩⟩
theorem RdX.take (h : RdX E S w v xs sp) {m : Nat} (hm : m ≤ (xs ++ sp).length) : RdS E S w (GL.cut v 0 m E.n) ((xs ++ sp).take m) := by
  obtain ⟨A, cap, rfl, h2, h3, h4⟩ := h
  have hl : ((xs ++ sp).take m).length = m := by rw [List.length_take]; omega
  refine ⟨if cap = 0 then A else A.map (·.add 0), cap, by simp [GL.cut, hl], by omega, h3, fun h0 => ?_⟩
  obtain ⟨b, o, cs, rfl, e2, e3, e4⟩ := h4 (by omega)
  refine ⟨b, o, cs.take (m * E.n), by simp [Addr.add_lit], e2, ?_, fun j hj => ?_⟩
  · have := reps_sub e3 0 m (by omega)
    simpa using this
  · have hjl : j < m * E.n := by simp at hj; omega
    rw [List.getElem?_take_of_lt hjl]
    exact e4 j (by simp at hj; omega)
theorem RdX.rd (h : RdX E S w v xs sp) : RdS E S w v xs := by
  have := h.take (m := xs.length) (by simp)
  rw [List.take_append_of_le_length (Nat.le_refl _), List.take_of_length_le (Nat.le_refl _)] at this
  obtain ⟨A, cap, rfl, h2, h3, h4⟩ := h
  refine ⟨A, cap, rfl, by simp at h2; omega, h3, fun h0 => ?_⟩
  obtain ⟨b, o, cs, rfl, e2, e3, e4⟩ := h4 (by simp; omega)
  refine ⟨b, o, cs.take (xs.length * E.n), rfl, e2, reps_take e3, fun j hj => ?_⟩
  have hjl : j < xs.length * E.n := by simp at hj; omega
  rw [List.getElem?_take_of_lt hjl]
  exact e4 j (by simp at hj; omega)
theorem RdX.shape (h : RdX E S w v xs sp) : ∃ A cap, v = .slice A xs.length cap ∧ (xs ++ sp).length ≤ cap := by
  obtain ⟨A, cap, h1, h2, _⟩ := h
  exact ⟨A, cap, h1, h2⟩
theorem OwnS.rdx {fp : Nat → Prop} (h : OwnS E T fp w v xs sp) (hs : ∀ k, fp k → S k) : RdX E S w v xs sp := by
  rcases h with ⟨rfl, rfl, rfl, _⟩ | ⟨g, o, cap, cur, rfl, h2, h3, h4, h5, h6, h7⟩
  · exact ⟨none, 0, rfl, by simp, by simp [maxLen], fun h => absurd h (by simp)⟩
  · exact ⟨_, cap, rfl, h4, h5, fun _ => ⟨g, o, _, rfl, hs g ((h2 g).2 rfl), h7, cells_of_dtake h3⟩⟩
end GL
namespace GL
open Go
end GL
namespace GL
open Go
end GL
namespace GL
@[irreducible] def mk0 {α : Type} (n : Int) (z : α) : List α := List.replicate n.toNat z
end GL
