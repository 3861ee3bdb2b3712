/- Own library, part D: slices of flat elements: what they say, and one lemma an operation. -/
import Derived.Test.YtgdhjjdgghilhaaGreatGlC
import Derived.ChangeKeysEq
set_option linter.unusedVariables false
set_option linter.unusedSimpArgs false
namespace GL
open Go

variable {α : Type} {E : Ek α} {S S' : Nat → Prop} {w w' w0 : World} {v : Value} {xs ys sp : List α} {T : TypeId} {rs : List Res} {P : Program}

def cellsAt (w : World) (b o : Nat) (cs : List Value) : Prop := ∀ j, j < cs.length → w.cell? ⟨b, o + j, none⟩ = cs[j]?

def RdS (E : Ek α) (S : Nat → Prop) (w : World) (v : Value) (xs : List α) : Prop :=
  ∃ A cap, v = .slice A xs.length cap ∧ xs.length ≤ cap ∧ cap ≤ maxLen ∧
    (0 < xs.length → ∃ b o cs, A = some ⟨b, o, none⟩ ∧ S b ∧ E.reps cs xs ∧ cellsAt w b o cs)

abbrev Sl (E : Ek α) (w : World) (v : Value) (xs : List α) : Prop := RdS E (fun _ => True) w v xs

theorem RdS.mono (h : RdS E S w v xs) (hs : ∀ k, S k → S' k) : RdS E S' w v xs := by
  obtain ⟨A, cap, h1, h2, h3, h4⟩ := h
  exact ⟨A, cap, h1, h2, h3, fun h0 => let ⟨b, o, cs, e1, e2, e3, e4⟩ := h4 h0; ⟨b, o, cs, e1, hs _ e2, e3, e4⟩⟩
theorem RdS.any (h : RdS E S w v xs) : Sl E w v xs := h.mono fun _ _ => trivial

theorem cell_same {k : Nat} {o : Nat} {w w' : World} (h : w'.heap[k]? = w.heap[k]?) : w'.cell? ⟨k, o, none⟩ = w.cell? ⟨k, o, none⟩ := World.cell?_of_block (w := w) h

theorem RdS.loc (h : RdS E S w v xs) (hs : ∀ k, S k → w'.heap[k]? = w.heap[k]?) : RdS E S w' v xs := by
  obtain ⟨A, cap, h1, h2, h3, h4⟩ := h
  exact ⟨A, cap, h1, h2, h3, fun h0 => let ⟨b, o, cs, e1, e2, e3, e4⟩ := h4 h0; ⟨b, o, cs, e1, e2, e3, fun j hj => (cell_same (hs b e2)).trans (e4 j hj)⟩⟩

theorem RdS.now (h : RdS E S w0 v xs) (hp : Hp S w0 w rs) : RdS E S w v xs := h.loc fun k hk => (hp.old k hk).2
theorem RdS.sl (h : RdS E S w0 v xs) (hp : Hp S w0 w rs) : Sl E w v xs := (h.now hp).any

theorem RdS.nil (E : Ek α) (S : Nat → Prop) (w : World) : RdS E S w (.slice none 0 0) [] := ⟨none, 0, rfl, by simp, by simp [maxLen], fun h => absurd h (by simp)⟩

def OwnS (E : Ek α) (T : TypeId) (fp : Nat → Prop) (w : World) (v : Value) (xs sp : List α) : Prop :=
  (v = .slice none 0 0 ∧ xs = [] ∧ sp = [] ∧ ∀ k, ¬ fp k) ∨
  ∃ g o cap cur, v = .slice (some ⟨g, o, none⟩) xs.length cap ∧ (∀ k, fp k ↔ k = g) ∧ w.heap[g]? = some (.cells cur T (0, 0)) ∧
    (xs ++ sp).length ≤ cap ∧ cap ≤ maxLen ∧ o + cap * E.n ≤ cur.size ∧ E.reps ((cur.toList.drop o).take ((xs ++ sp).length * E.n)) (xs ++ sp)

def Res.slx (E : Ek α) (T : TypeId) (v : Value) (xs sp : List α) : Res where
  own := fun fp w => OwnS E T fp w v xs sp
  loc := by
    intro fp w w' h hk
    rcases h with ⟨h1, h2, h3, h4⟩ | ⟨g, o, cap, cur, h1, h2, h3, h4⟩
    · exact .inl ⟨h1, h2, h3, h4⟩
    · exact .inr ⟨g, o, cap, cur, h1, h2, (hk g ((h2 g).2 rfl)).trans h3, h4⟩
  bd := by
    intro fp w k h hk
    rcases h with ⟨_, _, _, h4⟩ | ⟨g, o, cap, cur, _, h2, h3, _⟩
    · exact absurd hk (h4 k)
    · rw [(h2 k).1 hk]; exact (Array.getElem?_eq_some_iff.1 h3).1
abbrev Res.sl (E : Ek α) (T : TypeId) (v : Value) (xs : List α) : Res := Res.slx E T v xs []

theorem Hp.nil (hp : Hp S w0 w rs) (E : Ek α) (T : TypeId) : Hp S w0 w (Res.sl E T (.slice none 0 0) [] :: rs) :=
  hp.push0 (.inl ⟨rfl, rfl, rfl, fun _ h => h⟩)

theorem cells_of_dtake {cur : Array Value} {g o m : Nat} {w : World} {T : TypeId} {fr : Nat × Nat} (h : w.heap[g]? = some (.cells cur T fr)) : cellsAt w g o ((cur.toList.drop o).take m) := by
  intro j hj
  have : j < m := by simp at hj; omega
  simp [World.cell?, h, List.getElem?_take_of_lt this]

theorem OwnS.rd {fp : Nat → Prop} (h : OwnS E T fp w v xs sp) (hs : ∀ k, fp k → S k) : RdS E S w v xs := by
  rcases h with ⟨rfl, rfl, rfl, _⟩ | ⟨g, o, cap, cur, rfl, h2, h3, h4, h5, h6, h7⟩
  · exact RdS.nil E S w
  · simp only [List.length_append] at h4
    refine ⟨_, cap, rfl, by omega, h5, fun _ => ⟨g, o, _, rfl, hs g ((h2 g).2 rfl), reps_take h7, ?_⟩⟩
    rw [List.take_take, Nat.min_eq_left (Nat.mul_le_mul_right _ (by simp))]
    exact cells_of_dtake h3

theorem Hp.sl (hp : Hp S w0 w rs) {i : Nat} (hi : rs[i]? = some (Res.slx E T v xs sp)) : Sl E w v xs := by
  obtain ⟨fp, h, _⟩ := hp.take hi
  exact OwnS.rd h fun _ _ => trivial

theorem Hp.lendS (hp : Hp S w0 w rs) {i : Nat} (hi : rs[i]? = some (Res.slx E T v xs sp)) :
    ∃ S' : Nat → Prop, Hp S' w w (rs.eraseIdx i) ∧ RdS E S' w v xs ∧ (∀ k, S k → S' k) ∧
      ∀ (w' : World) (l : List Res), Hp S' w w' l → Hp S w0 w' (Res.slx E T v xs sp :: l) := by
  obtain ⟨S', h1, ⟨fp, h2, h3⟩, h4, h5⟩ := hp.lend hi
  exact ⟨S', h1, OwnS.rd h2 h3, h4, h5⟩

theorem Hp.forget (hp : Hp S w0 w rs) {i : Nat} (hi : rs[i]? = some (Res.slx E T v xs sp)) : Hp S w0 w (rs.set i (Res.sl E T v xs)) := by
  obtain ⟨fp, h, _, k⟩ := hp.take hi
  refine k w _ fp (Chg.refl _ w) ?_ (fun k hk => .inl hk)
  rcases h with ⟨rfl, rfl, rfl, h4⟩ | ⟨g, o, cap, cur, h1, h2, h3, h4, h5, h6, h7⟩
  · exact .inl ⟨rfl, rfl, rfl, h4⟩
  · refine .inr ⟨g, o, cap, cur, h1, h2, h3, by simp at h4 ⊢; omega, h5, h6, ?_⟩
    have := reps_take h7
    rw [List.take_take, Nat.min_eq_left (Nat.mul_le_mul_right _ (by simp))] at this
    simpa using this

structure ElT (P : Program) (E : Ek α) (T : TypeId) (bytes : Nat) (z0 : α) : Prop where
  out : ∃ i z, P.info? T = some i ∧ i.zero = some z ∧ i.size = E.n ∧ i.bytes = bytes ∧ E.rep z.cells.toList z0
theorem ElT.of {z : Value} {bytes : Nat} {z0 : α} (h : (P.info? T).map (fun i => (i.zero, i.size, i.bytes)) = some (some z, E.n, bytes)) (hz : E.rep z.cells.toList z0) : ElT P E T bytes z0 := by
  obtain ⟨i, h1, h2, h3, h4⟩ := info_parts h
  exact ⟨⟨i, z, h1, h2, h3, h4, hz⟩⟩

structure Plain (P : Program) (T : TypeId) : Prop where
  out : ∃ d, P.underlying T = some d ∧ (match d with | .struct _ | .array _ _ => False | _ => True)
theorem Plain.run (h : Plain P T) (w : World) : (isAgg T).run P w = .ok false w := by
  obtain ⟨d, h1, h2⟩ := h.out
  simp only [isAgg, Sem.run_bind, run_underlying h1, Result.andThen_ok]
  cases d <;> first | rfl | exact h2.elim

def gt [Inhabited α] (xs : List α) (i : Int) : α := xs.getD i.toNat default
theorem gt_of [Inhabited α] {xs : List α} {i : Int} (h0 : 0 ≤ i) (h1 : i < xs.length) : xs[i.toNat]? = some (gt xs i) := by
  unfold gt
  rw [List.getD_eq_getElem?_getD, List.getElem?_eq_getElem (by omega)]
  rfl

def eptr (v : Value) (i : Int) (sz : Nat) : Value :=
  match v with
  | .slice (some a) _ _ => .pointer (some (a.add (i.toNat * sz)))
  | _ => undef

theorem Sl.elem [Inhabited α] (h : Sl E w v xs) {i : Int} (h0 : 0 ≤ i) (h1 : i < xs.length) :
    ∃ b o cs, eptr v i E.n = .pointer (some ⟨b, o, none⟩) ∧ E.rep cs (gt xs i) ∧ cellsAt w b o cs := by
  obtain ⟨A, cap, rfl, _, _, h4⟩ := h
  obtain ⟨b, o, cs, rfl, _, e3, e4⟩ := h4 (by omega)
  have hr := e3.2 _ _ (gt_of h0 h1)
  refine ⟨b, o + i.toNat * E.n, _, by simp [eptr, Addr.add_lit], hr, fun j hj => ?_⟩
  have hn := E.len _ _ hr
  have hb : i.toNat * E.n + E.n ≤ cs.length := by
    rw [e3.1, ← Nat.succ_mul]; exact Nat.mul_le_mul_right _ (by omega)
  rw [Nat.add_assoc, e4 _ (by omega), List.getElem?_take_of_lt (by omega), List.getElem?_drop]

section ops
variable {n : Nat} {a : Act} {L : List (Nat × Value)} {ops : Array Oper} {Q : Exit → Act → World → Prop}
  {rest : List Oper} {d : Nat} {ty : TypeId} {pos : String} {af : Array Edge} {g : Option (Nat × Bool)}
  {t t' e : TypeId} {x y z : Operand} {k k' : IntKind} {p q : Int} {u : Value} {bytes : Nat} {z0 : α} {i : Nat}

theorem st_len {w1 : World} (hf : Fr n a L) (hd : d < n) (ht : P.underlying t = some (.slice e))
    (hw : Region.wanted ⟨some d, .call ⟨.builtin .len, #[x], #[t]⟩, ty, pos, af, g⟩ (yielded ops a.tmps) = true)
    (hx : evL L x = some v) (hs : Sl E w1 v xs)
    (h : ∀ a', a' = a.put (some d) (.int .i64 (xs.length : Int)) → Fr n a' ((d, .int .i64 (xs.length : Int)) :: L) → wpList P ops Q rest a' w) :
    wpList P ops Q (⟨some d, .call ⟨.builtin .len, #[x], #[t]⟩, ty, pos, af, g⟩ :: rest) a w := by
  obtain ⟨A, cap, rfl, _⟩ := hs
  exact st_run hf hw rfl hd (by simp [execOp, resolve, invoke, builtin, hf.ev hx, Builtin.len_, run_underlying ht, goInt, Result.andThen]) h

theorem st_index [Inhabited α] {w1 : World} (hf : Fr n a L) (hd : d < n) (ht : P.underlying t = some (.slice e)) (he : ElT P E e bytes z0)
    (hw : Region.wanted ⟨some d, .indexAddr t x y, ty, pos, af, g⟩ (yielded ops a.tmps) = true)
    (hx : evL L x = some v) (hy : evL L y = some (.int k p)) (hs : Sl E w1 v xs) (h0 : 0 ≤ p) (h1 : p < xs.length)
    (h : ∀ a', a' = a.put (some d) (eptr v p E.n) → Fr n a' ((d, eptr v p E.n) :: L) → wpList P ops Q rest a' w) :
    wpList P ops Q (⟨some d, .indexAddr t x y, ty, pos, af, g⟩ :: rest) a w := by
  obtain ⟨i, z, i1, i2, i3, i4, i5⟩ := he.out
  obtain ⟨A, cap, rfl, _, _, h4⟩ := hs
  obtain ⟨b, o, cs, rfl, _⟩ := h4 (by omega)
  refine st_run hf hw rfl hd (v := eptr _ p E.n) (w' := w) ?_ h
  simp [execOp, hf.ev hx, hf.ev hy, Instr.indexAt, asIntOf, run_underlying ht, Go.sizeOf, typeInfo, i1, i3, h0, h1, Result.andThen, eptr]

theorem run_load_cell {T : TypeId} (hT : Plain P T) {b o : Nat} {u : Value} (h : w.cell? ⟨b, o, none⟩ = some u) (w1 : World) (hw1 : w1 = w) :
    (Instr.loadAt T (.pointer (some ⟨b, o, none⟩))).run P w1 = .ok u w1 := by
  subst hw1
  simp only [Instr.loadAt, Instr.sureAddr, loadVar, Sem.run_bind]
  simp [Sem.run, pure, Result.andThen, hT.run w1, load, h]

theorem st_loadAt (hf : Fr n a L) (hd : d < n) (hT : Plain P T) {b o : Nat}
    (hw : Region.wanted ⟨some d, .load T x, ty, pos, af, g⟩ (yielded ops a.tmps) = true)
    (hx : evL L x = some v) (hv : v = .pointer (some ⟨b, o, none⟩)) (hc : w.cell? ⟨b, o, none⟩ = some u)
    (h : ∀ a', a' = a.put (some d) (u) → Fr n a' ((d, u) :: L) → wpList P ops Q rest a' w) :
    wpList P ops Q (⟨some d, .load T x, ty, pos, af, g⟩ :: rest) a w := by
  subst hv
  refine st_run hf hw rfl hd (v := u) (w' := w) ?_ h
  have := run_load_cell (P := P) hT hc w rfl
  simp only [execOp, hf.ev hx, Sem.run_bind, this, Result.andThen_ok]
  rfl

theorem st_ldE [Inhabited α] (hf : Fr n a L) (hd : d < n) (hT : Plain P T) (enc : α → Value) (he : ∀ vs x, E.rep vs x → vs = [enc x])
    (hw : Region.wanted ⟨some d, .load T x, ty, pos, af, g⟩ (yielded ops a.tmps) = true)
    (hx : evL L x = some (eptr v p E.n)) (hs : Sl E w v xs) (h0 : 0 ≤ p) (h1 : p < xs.length)
    (h : ∀ a', a' = a.put (some d) (enc (gt xs p)) → Fr n a' ((d, enc (gt xs p)) :: L) → wpList P ops Q rest a' w) :
    wpList P ops Q (⟨some d, .load T x, ty, pos, af, g⟩ :: rest) a w := by
  obtain ⟨b, o, cs, e1, e2, e3⟩ := Sl.elem hs h0 h1
  have e4 := he _ _ e2
  subst e4
  exact st_loadAt hf hd hT hw hx e1 (by simpa using e3 0 (by simp)) h

theorem st_ldI (hf : Fr n a L) (hd : d < n) (hT : Plain P T) {xs : List Int}
    (hw : Region.wanted ⟨some d, .load T x, ty, pos, af, g⟩ (yielded ops a.tmps) = true)
    (hx : evL L x = some (eptr v p 1)) (hs : Sl (Ek.int k) w v xs) (h0 : 0 ≤ p) (h1 : p < xs.length)
    (h : ∀ a', a' = a.put (some d) (.int k (gt xs p)) → Fr n a' ((d, .int k (gt xs p)) :: L) → wpList P ops Q rest a' w) :
    wpList P ops Q (⟨some d, .load T x, ty, pos, af, g⟩ :: rest) a w :=
  st_ldE hf hd hT (fun x => .int k x) (fun _ _ h => h) hw hx hs h0 h1 h
theorem st_ldB (hf : Fr n a L) (hd : d < n) (hT : Plain P T) {xs : List Bool}
    (hw : Region.wanted ⟨some d, .load T x, ty, pos, af, g⟩ (yielded ops a.tmps) = true)
    (hx : evL L x = some (eptr v p 1)) (hs : Sl Ek.bool w v xs) (h0 : 0 ≤ p) (h1 : p < xs.length)
    (h : ∀ a', a' = a.put (some d) (.bool (gt xs p)) → Fr n a' ((d, .bool (gt xs p)) :: L) → wpList P ops Q rest a' w) :
    wpList P ops Q (⟨some d, .load T x, ty, pos, af, g⟩ :: rest) a w :=
  st_ldE hf hd hT (fun x => .bool x) (fun _ _ h => h) hw hx hs h0 h1 h
theorem st_ldC (hf : Fr n a L) (hd : d < n) (hT : Plain P T) {xs : List (Fl × Fl)}
    (hw : Region.wanted ⟨some d, .load T x, ty, pos, af, g⟩ (yielded ops a.tmps) = true)
    (hx : evL L x = some (eptr v p 1)) (hs : Sl Ek.c128 w v xs) (h0 : 0 ≤ p) (h1 : p < xs.length)
    (h : ∀ a' b c, (gt xs p).1.rep b → (gt xs p).2.rep c → a' = a.put (some d) (.complex .f64 b c) → Fr n a' ((d, .complex .f64 b c) :: L) → wpList P ops Q rest a' w) :
    wpList P ops Q (⟨some d, .load T x, ty, pos, af, g⟩ :: rest) a w := by
  obtain ⟨b, o, cs, e1, ⟨c, c', rfl, e2, e2'⟩, e3⟩ := Sl.elem hs h0 h1
  exact st_loadAt hf hd hT hw hx e1 (by simpa using e3 0 (by simp)) fun a' => h a' c c' e2 e2'

theorem splice_take {β : Type} (L vs : List β) (o m n : Nat) (h1 : o + n ≤ m) (h2 : m ≤ L.length) (hv : vs.length = n) :
    (L.take m).take o ++ vs ++ (L.take m).drop (o + n) = (L.take o ++ vs ++ L.drop (o + n)).take m := by
  have e0 : (L.take m).take o = L.take o := by rw [List.take_take, Nat.min_eq_left (by omega)]
  have la : (L.take o ++ vs).length = o + n := by simp; omega
  rw [e0]
  generalize L.take o ++ vs = A at *
  apply List.ext_getElem?
  intro j
  by_cases hj : j < m
  · rw [List.getElem?_take_of_lt hj]
    by_cases hjo : j < o + n
    · rw [List.getElem?_append_left (by omega), List.getElem?_append_left (by omega)]
    · rw [List.getElem?_append_right (by omega), List.getElem?_append_right (by omega), la]
      simp only [List.getElem?_drop]
      rw [List.getElem?_take_of_lt (by omega)]
  · rw [List.getElem?_eq_none (by simp; omega), List.getElem?_eq_none (by simp; omega)]

theorem splice_drop {β : Type} (L vs : List β) (o p m : Nat) (h : o + p + m ≤ L.length) : (L.take (o + p) ++ vs ++ L.drop (o + p + m)).drop o = (L.drop o).take p ++ vs ++ (L.drop o).drop (p + m) := by
  rw [List.append_assoc, List.drop_append_of_le_length (by simp; omega), List.drop_take, List.drop_drop, Nat.add_sub_cancel_left, ← List.append_assoc, Nat.add_assoc]

theorem run_store_cells {b o : Nat} {cur : Array Value} {T T' : TypeId} {cs : List Value} (hg : w.heap[b]? = some (.cells cur T (0, 0))) (ho : o + cs.length ≤ cur.size)
    (h1 : ∀ v ∈ cs, v.oneCell' = true) {u : Value} (hu : u.cells.toList = cs) (hsz : (P.info? T').map (·.size) = some cs.length) :
    (Instr.storeAt T' (.pointer (some ⟨b, o, none⟩)) u).run P w = .ok () (w.setRow b (cur.toList.take o ++ cs ++ cur.toList.drop (o + cs.length)).toArray) := by
  subst hu
  cases hq : P.info? T' with
  | none => simp [hq] at hsz
  | some i =>
    have hs : i.size = u.cells.toList.length := by simpa [hq] using hsz
    have hst := run_storeCells_at P b o T u.cells.toList 0 cur w hg (by simpa using ho) h1
    simp only [Nat.add_zero] at hst
    simp only [Instr.storeAt, Instr.sureAddr, storeVar, Sem.run_bind]
    simp [Sem.run, pure, Result.andThen, Go.sizeOf, run_typeInfo (P := P) (w := w) hq, hs, hst, Sem.run_bind]

theorem chg_setRow (w : World) (b : Nat) (cs : Array Value) {fp : Nat → Prop} (h : fp b) : Chg fp w (w.setRow b cs) :=
  ⟨rfl, rfl, rfl, by simp [World.setRow], fun k _ hk => setRow_other w b k cs (fun e => hk (e ▸ h))⟩

theorem Ek.size_of (he : ElT P E e bytes z0) {cs : List Value} {x : α} (h : E.rep cs x) : (P.info? e).map (·.size) = some cs.length := by
  obtain ⟨i, z, i1, i2, i3, i4, i5⟩ := he.out
  simp [i1, i3, E.len _ _ h]

theorem st_store [Inhabited α] (hf : Fr n a L) (he : ElT P E e bytes z0) (hp : Hp S w0 w rs) (hi : rs[i]? = some (Res.slx E T v xs sp))
    (hw : Region.wanted ⟨none, .store e x y, ty, pos, af, g⟩ (yielded ops a.tmps) = true)
    (hx : evL L x = some (eptr v p E.n)) (hy : evL L y = some u) {x' : α} (hu : E.rep u.cells.toList x') (h0 : 0 ≤ p) (h1 : p < xs.length)
    (h : ∀ a' w', Fr n a' L → Hp S w0 w' (rs.set i (Res.slx E T v (xs.set p.toNat x') sp)) → wpList P ops Q rest a' w') :
    wpList P ops Q (⟨none, .store e x y, ty, pos, af, g⟩ :: rest) a w := by
  obtain ⟨fp, ho, _, K⟩ := hp.take hi
  rcases ho with ⟨_, rfl, _⟩ | ⟨b, o, cap, cur, rfl, h2, h3, h4, h5, h6, h7⟩
  · simp at h1; omega
  have hlen := E.len _ _ hu
  have hpl : p.toNat < (xs ++ sp).length := by simp; omega
  have hb : p.toNat * E.n + E.n ≤ cap * E.n := by rw [← Nat.succ_mul]; exact Nat.mul_le_mul_right _ (by omega)
  have hrun := run_store_cells (P := P) (o := o + p.toNat * E.n) (T' := e) h3 (by rw [hlen]; omega) (E.one _ _ hu) rfl (Ek.size_of he hu)
  refine st_run0 (w' := w.setRow b (cur.toList.take (o + p.toNat * E.n) ++ u.cells.toList ++ cur.toList.drop (o + p.toNat * E.n + u.cells.toList.length)).toArray) hf hw rfl ?_ fun a' hf' => h a' _ hf' (K _ _ fp (chg_setRow w b _ ((h2 b).2 rfl)) ?_ (fun k hk => .inl hk))
  · simp only [execOp, hf.ev hx, hf.ev hy, eptr, Addr.add_lit, Sem.run_bind, hrun, Result.andThen_ok]
    rfl
  · refine .inr ⟨b, o, cap, _, by simp, h2, setRow_heap w b cur _ T _ h3, by simpa using h4, h5, ?_, ?_⟩
    · simp only [List.size_toArray, List.length_append, List.length_take, List.length_drop, Array.length_toList, hlen]
      omega
    · have := reps_set h7 hu p.toNat hpl
      rw [List.set_append_left _ _ (by omega)] at this
      refine cast (congrArg (fun c => E.reps c _) ?_) this
      have hm : p.toNat * E.n + E.n ≤ (xs ++ sp).length * E.n := by rw [← Nat.succ_mul]; exact Nat.mul_le_mul_right _ (by omega)
      have hc : (xs ++ sp).length * E.n ≤ (cur.toList.drop o).length := by simp only [List.length_drop, Array.length_toList]; have := Nat.mul_le_mul_right E.n h4; omega
      generalize hmm : (xs ++ sp).length * E.n = m at *
      have e1 : (xs.set p.toNat x' ++ sp).length * E.n = m := by rw [← hmm]; simp
      rw [e1]
      simp only [hlen]
      rw [splice_drop _ _ _ _ _ (by simp only [Array.length_toList]; omega)]
      exact splice_take _ _ _ _ _ (by omega) (by omega) hlen
end ops
end GL
