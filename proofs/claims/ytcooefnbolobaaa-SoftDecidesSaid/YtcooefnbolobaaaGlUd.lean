/- Own library, part Ud: slices that are never written again, inside of elements. -/
import Derived.Test.YtcooefnbolobaaaGlUc
set_option linter.unusedVariables false
set_option linter.unusedSimpArgs false
namespace GL
open Go

variable {S S' : Nat → Prop} {w w' w0 : World} {v : Value} {T T' : TypeId} {rs rs' : List Res} {P : Program}

/-- a slice that is kept as it is, and what it holds -/
abbrev FZ := Value × List Bool
def FzP (bs : List FZ) (v : Value) (x : List Bool) : Prop := (v = .slice none 0 0 ∧ x = []) ∨ ((v, x) ∈ bs ∧ ∃ p l c, v = .slice p l c)
variable {bs : List FZ} {x y : List Bool}
theorem FzP.nil (bs : List FZ) : FzP bs (.slice none 0 0) [] := .inl ⟨rfl, rfl⟩
theorem FzP.up (h : FzP bs v x) (b : FZ) : FzP (bs ++ [b]) v x := by
  rcases h with h | ⟨h, h2⟩
  · exact .inl h
  · exact .inr ⟨List.mem_append_left _ h, h2⟩
theorem FzP.sh (h : FzP bs v x) : ∃ p l c, v = .slice p l c := by
  rcases h with ⟨rfl, _⟩ | ⟨_, h2⟩
  · exact ⟨_, _, _, rfl⟩
  · exact h2
def Ek.fz (bs : List FZ) : Ek (List Bool) := ⟨1, by decide, fun vs x => ∃ v, vs = [v] ∧ FzP bs v x, fun _ _ ⟨_, h, _⟩ => by subst h; rfl,
  fun _ _ ⟨v, h, h2⟩ => by subst h; obtain ⟨p, l, c, rfl⟩ := h2.sh; simp [Value.oneCell']⟩
theorem fz_up (b : FZ) : ∀ vs x, (Ek.fz bs).rep vs x → (Ek.fz (bs ++ [b])).rep vs x := fun _ _ ⟨v, h, h2⟩ => ⟨v, h, h2.up b⟩
theorem fz_cells (h : FzP bs v x) : (Ek.fz bs).rep v.cells.toList x := by
  obtain ⟨p, l, c, rfl⟩ := h.sh
  exact ⟨_, rfl, h⟩

/-! ### Their memory -/
def RdF (S : Nat → Prop) (w : World) (bs : List FZ) : Prop := ∀ p ∈ bs, RdS Ek.bool S w p.1 p.2
theorem RdF.mono (h : RdF S w bs) (hs : ∀ k, S k → S' k) : RdF S' w bs := fun p hp => (h p hp).mono hs
theorem RdF.now (h : RdF S w0 bs) (hp : Hp S w0 w rs) : RdF S w bs := fun p hq => (h p hq).now hp
theorem RdF.any (h : RdF S w bs) : RdF (fun _ => True) w bs := h.mono fun _ _ => trivial
theorem RdF.ara (h : RdF S w0 bs) (hp : Hp S w0 w rs) : RdF (fun _ => True) w bs := (h.now hp).any
theorem FzP.rd (h : FzP bs v x) (hA : RdF S w bs) : RdS Ek.bool S w v x := by
  rcases h with ⟨rfl, rfl⟩ | ⟨h, _⟩
  · exact RdS.nil _ _ _
  · exact hA _ h
def Res.fz (T : TypeId) (bs : List FZ) : Res where
  own := fun fp w => (∀ p ∈ bs, ∃ fp', (∀ k, fp' k → fp k) ∧ OwnS Ek.bool T fp' w p.1 p.2 []) ∧ ∀ k, fp k → k < w.heap.size
  loc := fun fp w w' h hk => ⟨fun p hp => by
    obtain ⟨fp', h1, h2⟩ := h.1 p hp
    exact ⟨fp', h1, (Res.slx Ek.bool T p.1 p.2 []).loc fp' w w' h2 fun k hf => hk k (h1 k hf)⟩, fun k hf => by
    have e := hk k hf
    have h1 := h.2 k hf
    rw [Array.getElem?_eq_getElem h1] at e
    exact (Array.getElem?_eq_some_iff.1 e).1⟩
  bd := fun fp w k h hk => h.2 k hk
theorem Hp.fza (hp : Hp S w0 w rs) {i : Nat} (hi : rs[i]? = some (Res.fz T bs)) : RdF (fun _ => True) w bs := by
  obtain ⟨fp, h, _⟩ := hp.take hi
  intro p hq
  obtain ⟨fp', _, h2⟩ := h.1 p hq
  exact OwnS.rd h2 fun _ _ => trivial
theorem Hp.lendF (hp : Hp S w0 w rs) {i : Nat} (hi : rs[i]? = some (Res.fz T bs)) :
    ∃ S' : Nat → Prop, Hp S' w w (rs.eraseIdx i) ∧ RdF S' w bs ∧ (∀ k, S k → S' k) ∧
      ∀ (w' : World) (l : List Res), Hp S' w w' l → Hp S w0 w' (Res.fz T bs :: l) := by
  obtain ⟨S', h1, ⟨fp, h2, h3⟩, h4, h5⟩ := hp.lend hi
  exact ⟨S', h1, fun p hq => by
    obtain ⟨fp', k1, k2⟩ := h2.1 p hq
    exact OwnS.rd k2 fun k hk => h3 k (k1 k hk), h4, h5⟩
theorem Hp.fzNil (hp : Hp S w0 w rs) (T : TypeId) : Hp S w0 w (Res.fz T [] :: rs) :=
  hp.push0 ⟨fun p hq => by simp at hq, fun k hk => hk.elim⟩
/-- A slice is kept as it is from now on. -/
theorem Hp.freeze (hp : Hp S w0 w (Res.sl Ek.bool T v x :: Res.fz T bs :: rs)) : FzP (bs ++ [(v, x)]) v x ∧ Hp S w0 w (Res.fz T (bs ++ [(v, x)]) :: rs) := by
  obtain ⟨A, cap, e1, _⟩ := hp.sl (i := 0) rfl
  refine ⟨.inr ⟨by simp, A, _, cap, e1⟩, ?_⟩
  have h2 : Hp S w0 w (Res.star [Res.sl Ek.bool T v x, Res.fz T bs] :: rs) := Hp.star (l := [Res.sl Ek.bool T v x, Res.fz T bs]) hp
  obtain ⟨fp, ho, _, K⟩ := h2.take (i := 0) rfl
  obtain ⟨f, h3, h4, h5⟩ := ho
  refine K w (Res.fz T (bs ++ [(v, x)])) fp (Chg.refl _ w) ⟨fun p hq => ?_, fun k hk => ?_⟩ (fun k hk => .inl hk)
  · rcases List.mem_append.1 hq with hq | hq
    · obtain ⟨fp', k1, k2⟩ := (h3 1 _ rfl).1 p hq
      exact ⟨fp', fun k hk => (h5 k).2 ⟨1, by simp, k1 k hk⟩, k2⟩
    · simp at hq; subst hq
      exact ⟨f 0, fun k hk => (h5 k).2 ⟨0, by simp, hk⟩, h3 0 _ rfl⟩
  · exact (Res.star [Res.sl Ek.bool T v x, Res.fz T bs]).bd fp w k ⟨f, h3, h4, h5⟩ hk
/-- One of them is taken out; the others are forgotten. -/
theorem Hp.fzClaim (hp : Hp S w0 w (Res.fz T bs :: rs)) (h : FzP bs v x) : Hp S w0 w (Res.sl Ek.bool T v x :: rs) := by
  obtain ⟨fp, ho, _, K⟩ := hp.take (i := 0) rfl
  rcases h with ⟨rfl, rfl⟩ | ⟨h, _⟩
  · exact K w (Res.sl Ek.bool T (.slice none 0 0) []) (fun _ => False) (Chg.refl _ w) (.inl ⟨rfl, rfl, rfl, fun _ h => h⟩) (fun k hk => hk.elim)
  · obtain ⟨fp', k1, k2⟩ := ho.1 _ h
    exact K w (Res.sl Ek.bool T v x) fp' (Chg.refl _ w) k2 (fun k hk => .inl (k1 k hk))
theorem Hp.fzClaimCut (hp : Hp S w0 w (Res.fz T bs :: rs)) (h : FzP bs v x) {m : Nat} (hm : m ≤ x.length) : Hp S w0 w (Res.sl Ek.bool T (GL.cut v 0 m 1) (x.take m) :: rs) := by
  have h1 := Hp.cutOwn (E := Ek.bool) (i := 0) (hp.fzClaim h) rfl (m := m) (by rw [List.append_nil]; exact hm)
  have h2 := Hp.forget (E := Ek.bool) (i := 0) h1 rfl
  rw [List.append_nil] at h2
  exact h2

/-! ### Other resources, seen with one more of them -/
theorem star_imp {l l' : List Res} (hl : l'.length = l.length) (h : ∀ (i : Nat) (r' : Res), l'[i]? = some r' → ∃ r, l[i]? = some r ∧ ∀ fp w, r.own fp w → r'.own fp w) (fp : Nat → Prop) (w : World) (ho : (Res.star l).own fp w) : (Res.star l').own fp w := by
  obtain ⟨f, h1, h2, h3⟩ := ho
  refine ⟨f, fun i r' hr => ?_, fun i j k hi hj => h2 i j k (by omega) (by omega), fun k => by rw [h3 k, hl]⟩
  obtain ⟨r, k1, k2⟩ := h i r' hr
  exact k2 _ _ (h1 i r k1)
theorem rows_imp {β : Type} {K K' : RowK β} (h : ∀ (u : Value) (y : β) fp w, (K.R u y).own fp w → (K'.R u y).own fp w) {vs : List Value} {ys : List (Option β)} (fp : Nat → Prop) (w : World) (ho : (Res.rowsH K T v vs ys).own fp w) : (Res.rowsH K' T v vs ys).own fp w := by
  refine star_imp (by simp) (fun i r' hr => ?_) fp w ho
  cases i with
  | zero => exact ⟨_, rfl, by simp at hr; subst hr; exact fun _ _ h => h⟩
  | succ i =>
    cases i with
    | zero => exact ⟨_, rfl, by simp at hr; subst hr; exact fun _ _ h => h⟩
    | succ i =>
      simp only [List.getElem?_cons_succ, List.getElem?_zipWith] at hr ⊢
      cases hv : vs[i]? with
      | none => rw [hv] at hr; simp at hr
      | some u =>
        cases hy : ys[i]? with
        | none => rw [hv, hy] at hr; simp at hr
        | some o =>
          rw [hv, hy] at hr
          simp at hr
          refine ⟨K.rO u o, by simp, ?_⟩
          subst hr
          cases o with
          | none => exact fun _ _ h => h
          | some y => exact h u y
theorem ImpL.rows {α : Type} {E E' : Ek α} {e0 : TypeId} {vs : List Value} {ys : List (Option (List α))} (hn : E.n = E'.n) (hE : ∀ vs x, E.rep vs x → E'.rep vs x) (h : ImpL rs rs') : ImpL (Res.rowsH (RowK.sl E e0) T v vs ys :: rs) (Res.rowsH (RowK.sl E' e0) T v vs ys :: rs') :=
  .cons (rows_imp fun u y fp w => slx_imp hn hE fp w) h

section ops
variable {n : Nat} {a : Act} {L : List (Nat × Value)} {ops : Array Oper} {Q : Exit → Act → World → Prop}
  {rest : List Oper} {d : Nat} {ty : TypeId} {pos : String} {af : Array Edge} {g : Option (Nat × Bool)}
  {t t' e : TypeId} {xo yo : Operand} {k k' : IntKind} {p q : Int} {u : Value}
theorem st_ldQZ {yv : List Bool} (hf : Fr n a L) (hd : d < n) (hT : Plain P T)
    (hw : Region.wanted ⟨some d, .load T xo, ty, pos, af, g⟩ (yielded ops a.tmps) = true)
    (hx : evL L xo = some u) (hs : Part w u (Ek.fz bs) yv)
    (h : ∀ a' v, FzP bs v yv → a' = a.put (some d) v → Fr n a' ((d, v) :: L) → wpList P ops Q rest a' w) :
    wpList P ops Q (⟨some d, .load T xo, ty, pos, af, g⟩ :: rest) a w := by
  obtain ⟨b, o1, cs, e1, ⟨c, rfl, e2⟩, e3⟩ := hs
  exact st_loadAt hf hd hT hw hx e1 (by simpa using e3 0 (by simp)) fun a' => h a' c e2
theorem RdS.pinPZ {α : Type} [Inhabited α] {E : Ek α} {xs : List α} {p : Int} {o : Nat} {gg : α → List Bool} {s : α → List Bool → α} (A : Sub E (Ek.fz bs) o gg s) (h : RdS E S w0 v xs) (h0 : 0 ≤ p) (h1 : p < xs.length) :
    ∃ b, FzP bs b (gg (gt xs p)) ∧ ∀ (w : World) (rs : List Res), Hp S w0 w rs → ∃ bb oo, optr (eptr v p E.n) o = .pointer (some ⟨bb, oo, none⟩) ∧ w.cell? ⟨bb, oo, none⟩ = some b := by
  obtain ⟨ds, ⟨c, rfl, e2⟩, e3⟩ := RdS.pinPart A h h0 h1
  refine ⟨c, e2, fun w rs hp => ?_⟩
  obtain ⟨bb, oo, e4, e5⟩ := e3 w rs hp
  exact ⟨bb, oo, e4, by simpa using e5 0 (Nat.le_refl 1)⟩
/-- A whole element that is read later. -/
theorem RdS.pinWhole {α : Type} [Inhabited α] {E : Ek α} {xs : List α} {p : Int} (h : RdS E S w0 v xs) (h0 : 0 ≤ p) (h1 : p < xs.length) :
    ∃ ds, E.rep ds (gt xs p) ∧ ∀ (w : World) (rs : List Res), Hp S w0 w rs → ∃ bb oo, eptr v p E.n = .pointer (some ⟨bb, oo, none⟩) ∧ cellsAt w bb oo ds := by
  obtain ⟨B, cap, rfl, _, _, h4⟩ := h
  obtain ⟨g, o1, cs, rfl, e2, e3, e4⟩ := h4 (by omega)
  have hr := e3.2 _ _ (gt_of h0 h1)
  have hl := e3.1
  have hn := E.len _ _ hr
  refine ⟨_, hr, fun w rs hp => ⟨g, o1 + p.toNat * E.n, by simp [eptr, Addr.add_lit], fun j hj => ?_⟩⟩
  rw [hn] at hj
  have hb : (p.toNat + 1) * E.n ≤ xs.length * E.n := Nat.mul_le_mul_right _ (by omega)
  rw [Nat.succ_mul] at hb
  rw [cell_same (hp.old g e2).2, show o1 + p.toNat * E.n + j = o1 + (p.toNat * E.n + j) by omega, e4 _ (by omega), List.getElem?_take_of_lt hj, List.getElem?_drop]
theorem RdS.pinWZ {xs : List (List Bool × Fl)} {p : Int} (h : RdS (Ek.pair (Ek.fz bs) Ek.f64) S w0 v xs) (h0 : 0 ≤ p) (h1 : p < xs.length) :
    ∃ b f, FzP bs b (gt xs p).1 ∧ (gt xs p).2.rep f ∧ ∀ (w : World) (rs : List Res), Hp S w0 w rs → ∃ bb oo, eptr v p 2 = .pointer (some ⟨bb, oo, none⟩) ∧ cellsAt w bb oo [b, .float .f64 f] := by
  obtain ⟨ds, ⟨us, ws, rfl, ⟨b, rfl, k1⟩, ⟨f, rfl, k2⟩⟩, e3⟩ := RdS.pinWhole h h0 h1
  exact ⟨b, f, k1, k2, e3⟩
theorem st_ldPA {m : Nat} {us : List Value} (hf : Fr n a L) (hd : d < n) (hT : aggB P T = some m) (hm : us.length = m)
    (hw : Region.wanted ⟨some d, .load T xo, ty, pos, af, g⟩ (yielded ops a.tmps) = true)
    (hx : evL L xo = some u) (hs : ∃ bb oo, u = .pointer (some ⟨bb, oo, none⟩) ∧ cellsAt w bb oo us)
    (h : ∀ a', a' = a.put (some d) (.agg us.toArray) → Fr n a' ((d, .agg us.toArray) :: L) → wpList P ops Q rest a' w) :
    wpList P ops Q (⟨some d, .load T xo, ty, pos, af, g⟩ :: rest) a w := by
  obtain ⟨b, o1, rfl, e3⟩ := hs
  obtain ⟨k1, k2⟩ := agg_run hT w
  have hrun : (Instr.loadAt T (.pointer (some ⟨b, o1, none⟩))).run P w = .ok (.agg us.toArray) w := by
    have := run_loadCells_list (P := P) w (⟨b, o1, none⟩ : Addr) us (fun j u hj => by
      rw [Addr.add_lit]
      exact (e3 j (List.getElem?_eq_some_iff.1 hj).1).trans hj)
    rw [hm] at this
    simp only [Instr.loadAt, Instr.sureAddr, loadVar, Sem.run_bind]
    simp [Sem.run, pure, Result.andThen] at this k1 k2 ⊢
    simp [k1, k2, this]
  refine st_run hf hw rfl hd (v := .agg us.toArray) (w' := w) ?_ h
  simp only [execOp, hf.ev hx, Sem.run_bind, hrun, Result.andThen_ok]
  rfl
end ops
end GL
