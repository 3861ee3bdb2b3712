/- Own library, part Uc: nodes that point to one another; whole arrays. -/
import Derived.Test.YtgdhjjdgghilhaaGreatGlUb
import Derived.LaidEqlPtr
set_option linter.unusedVariables false
set_option linter.unusedSimpArgs false
namespace GL
open Go

variable {S S' : Nat → Prop} {w w' w0 : World} {v : Value} {T T' : TypeId} {rs rs' : List Res} {P : Program}

abbrev WayC := Bool × Option Nat × Fl × Int
def nth (A : List WayC) (i : Nat) : WayC := A.getD i default
theorem nth_of {A : List WayC} {i : Nat} (h : i < A.length) : A[i]? = some (nth A i) := by
  unfold nth; rw [List.getD_eq_getElem?_getD, List.getElem?_eq_getElem h]; rfl
def setR (A : List WayC) (i : Nat) (r : Int) : List WayC := A.set i ((nth A i).1, (nth A i).2.1, (nth A i).2.2.1, r)
theorem setR_len (A : List WayC) (i : Nat) (r : Int) : (setR A i r).length = A.length := by simp [setR]

def wpv (bs : List Nat) : Option Nat → Value
  | none => .pointer none
  | some i => .pointer (some ⟨bs.getD i 0, 0, none⟩)
def WP (bs : List Nat) (v : Value) (x : Option Nat) : Prop := v = wpv bs x ∧ ∀ i, x = some i → i < bs.length
variable {bs : List Nat} {x y : Option Nat} {i j b : Nat}
theorem WP.nil (bs : List Nat) : WP bs (.pointer none) none := ⟨rfl, fun i h => by cases h⟩
theorem WP.up (h : WP bs v x) (b : Nat) : WP (bs ++ [b]) v x := by
  obtain ⟨rfl, h2⟩ := h
  refine ⟨?_, fun i hi => by have := h2 i hi; simp; omega⟩
  cases x with
  | none => rfl
  | some i =>
    have := h2 i rfl
    simp only [wpv, List.getD_eq_getElem?_getD, List.getElem?_append_left this]
theorem WP.sh (h : WP bs v x) : ∃ p, v = .pointer p := by
  obtain ⟨rfl, _⟩ := h
  cases x <;> exact ⟨_, rfl⟩
theorem WP.isP (h : WP bs v x) (hx : x = some i) : IsP v := by
  obtain ⟨rfl, _⟩ := h
  subst hx; exact ⟨_, _, rfl⟩
theorem WP.ptr (h : WP bs v x) (hx : x = some i) : ∃ p, v = .pointer (some p) := by
  obtain ⟨b, o, h⟩ := h.isP hx; exact ⟨_, h⟩
theorem WP.sel {v0 v1 : Value} {x0 x1 : Option Nat} (h0 : WP bs v0 x0) (h1 : WP bs v1 x1) {p : Int} (hp : 0 ≤ p ∧ p < 2) : WP bs (gtv [v0, v1] p) (gt [x0, x1] p) := by
  rcases (show p = 0 ∨ p = 1 by omega) with rfl | rfl
  · exact h0
  · exact h1
def Ek.wp (bs : List Nat) : Ek (Option Nat) := ⟨1, by decide, fun vs x => ∃ v, vs = [v] ∧ WP bs v x, fun _ _ ⟨_, h, _⟩ => by subst h; rfl,
  fun _ _ ⟨v, h, h2⟩ => by subst h; obtain ⟨p, rfl⟩ := h2.sh; simp [Value.oneCell']⟩

def ArAt (w : World) (T : TypeId) (bs : List Nat) (A : List WayC) : Prop :=
  bs.Nodup ∧ bs.length = A.length ∧ ∀ (i b : Nat) (c : WayC), bs[i]? = some b → A[i]? = some c → ∃ (p : Value) (f : Nat), WP bs p c.2.1 ∧ c.2.2.1.rep f ∧ w.heap[b]? = some (.cells #[.bool c.1, p, .float .f64 f, .int .i64 c.2.2.2] T (0, 0))
def RdA (S : Nat → Prop) (w : World) (T : TypeId) (bs : List Nat) (A : List WayC) : Prop := ArAt w T bs A ∧ ∀ b ∈ bs, S b
variable {A : List WayC}
theorem ArAt.lt (h : ArAt w T bs A) (hb : b ∈ bs) : ∃ o, w.heap[b]? = some o := by
  obtain ⟨i, hi, rfl⟩ := List.getElem_of_mem hb
  have hl := h.2.1
  obtain ⟨p, f, _, _, h3⟩ := h.2.2 i _ _ (List.getElem?_eq_getElem hi) (List.getElem?_eq_getElem (by omega))
  exact ⟨_, h3⟩
theorem ArAt.loc (h : ArAt w T bs A) (hs : ∀ k ∈ bs, w'.heap[k]? = w.heap[k]?) : ArAt w' T bs A :=
  ⟨h.1, h.2.1, fun i b c hb hc => by
    obtain ⟨p, f, h1, h2, h3⟩ := h.2.2 i b c hb hc
    exact ⟨p, f, h1, h2, (hs b (List.mem_of_getElem? hb)).trans h3⟩⟩
def Res.ar (T : TypeId) (bs : List Nat) (A : List WayC) : Res where
  own := fun fp w => ArAt w T bs A ∧ ∀ k, fp k ↔ k ∈ bs
  loc := fun fp w w' h hk => ⟨h.1.loc fun k hb => hk k ((h.2 k).2 hb), h.2⟩
  bd := fun fp w k h hk => by
    obtain ⟨o, ho⟩ := h.1.lt ((h.2 k).1 hk)
    exact (Array.getElem?_eq_some_iff.1 ho).1
theorem RdA.mono (h : RdA S w T bs A) (hs : ∀ k, S k → S' k) : RdA S' w T bs A := ⟨h.1, fun b hb => hs _ (h.2 b hb)⟩
theorem RdA.now (h : RdA S w0 T bs A) (hp : Hp S w0 w rs) : RdA S w T bs A := ⟨h.1.loc fun k hk => (hp.old k (h.2 k hk)).2, h.2⟩
theorem RdA.any (h : RdA S w T bs A) : RdA (fun _ => True) w T bs A := h.mono fun _ _ => trivial
theorem RdA.ara (h : RdA S w0 T bs A) (hp : Hp S w0 w rs) : RdA (fun _ => True) w T bs A := (h.now hp).any
theorem Hp.ara (hp : Hp S w0 w rs) {i : Nat} (hi : rs[i]? = some (Res.ar T bs A)) : RdA (fun _ => True) w T bs A := by
  obtain ⟨fp, h, _⟩ := hp.take hi
  exact ⟨h.1, fun _ _ => trivial⟩
theorem Hp.lendA (hp : Hp S w0 w rs) {i : Nat} (hi : rs[i]? = some (Res.ar T bs A)) :
    ∃ S' : Nat → Prop, Hp S' w w (rs.eraseIdx i) ∧ RdA S' w T bs A ∧ (∀ k, S k → S' k) ∧
      ∀ (w' : World) (l : List Res), Hp S' w w' l → Hp S w0 w' (Res.ar T bs A :: l) := by
  obtain ⟨S', h1, ⟨fp, h2, h3⟩, h4, h5⟩ := hp.lend hi
  exact ⟨S', h1, ⟨h2.1, fun b hb => h3 _ ((h2.2 b).2 hb)⟩, h4, h5⟩
theorem Hp.arNil (hp : Hp S w0 w rs) (T : TypeId) : Hp S w0 w (Res.ar T [] [] :: rs) :=
  hp.push0 ⟨⟨List.nodup_nil, rfl, fun i b c h _ => by simp at h⟩, fun k => by simp⟩
theorem RdA.at (h : RdA S w T bs A) (hv : WP bs v x) (hx : x = some i) :
    ∃ (p : Value) (f : Nat), WP bs p (nth A i).2.1 ∧ (nth A i).2.2.1.rep f ∧ RdO S w v [.bool (nth A i).1, p, .float .f64 f, .int .i64 (nth A i).2.2.2] := by
  obtain ⟨rfl, h2⟩ := hv
  have hi := h2 i hx
  subst hx
  have hl := h.1.2.1
  obtain ⟨p, f, h3, h4, h5⟩ := h.1.2.2 i _ _ (List.getElem?_eq_getElem hi) (nth_of (by omega))
  refine ⟨p, f, h3, h4, bs[i], ?_, h.2 _ (List.getElem_mem hi), fun j hj => ?_⟩
  · simp [wpv, List.getD_eq_getElem?_getD, List.getElem?_eq_getElem hi]
  · simp [World.cell?, h5]
theorem RdA.cells (h : RdA S w T bs A) (hv : WP bs v x) (hx : x = some i) : ∃ (b : Nat) (cs : Array Value), v = .pointer (some ⟨b, 0, none⟩) ∧ w.heap[b]? = some (.cells cs T (0, 0)) ∧ bs[i]? = some b := by
  obtain ⟨rfl, h2⟩ := hv
  have hi := h2 i hx
  subst hx
  have hl := h.1.2.1
  obtain ⟨p, f, h3, h4, h5⟩ := h.1.2.2 i _ _ (List.getElem?_eq_getElem hi) (nth_of (by omega))
  exact ⟨bs[i], _, by simp [wpv, List.getD_eq_getElem?_getD, List.getElem?_eq_getElem hi], h5, List.getElem?_eq_getElem hi⟩

inductive ImpL : List Res → List Res → Prop
  | nil : ImpL [] []
  | cons {r r' : Res} {l l' : List Res} (h : ∀ fp w, r.own fp w → r'.own fp w) (t : ImpL l l') : ImpL (r :: l) (r' :: l')
theorem ImpL.refl : ∀ l : List Res, ImpL l l
  | [] => .nil
  | r :: l => .cons (fun _ _ h => h) (ImpL.refl l)
theorem ImpL.same {r : Res} (h : ImpL rs rs') : ImpL (r :: rs) (r :: rs') := .cons (fun _ _ h => h) h
theorem ImpL.len (h : ImpL rs rs') : rs'.length = rs.length := by
  induction h with
  | nil => rfl
  | cons _ _ ih => simp [ih]
theorem ImpL.get (h : ImpL rs rs') : ∀ (i : Nat) (r' : Res), rs'[i]? = some r' → ∃ r, rs[i]? = some r ∧ ∀ fp w, r.own fp w → r'.own fp w := by
  induction h with
  | nil => intro i r' h; simp at h
  | cons h1 _ ih =>
    intro i r' h
    cases i with
    | zero => simp at h; subst h; exact ⟨_, rfl, h1⟩
    | succ i => exact ih i r' (by simpa using h)
theorem Hp.impL (hp : Hp S w0 w rs) (h : ImpL rs rs') : Hp S w0 w rs' := by
  obtain ⟨f, h1, h2, h3⟩ := hp.res
  have hl := h.len
  refine ⟨hp.os, hp.tape, hp.output, hp.size, hp.old, f, fun i r' hr => ?_, fun i k hi => h2 i k (by omega), fun i j k hi hj => h3 i j k (by omega) (by omega)⟩
  obtain ⟨r, hr1, hr2⟩ := h.get i r' hr
  exact hr2 _ _ (h1 i r hr1)
theorem reps_imp {α : Type} {E E' : Ek α} (hn : E.n = E'.n) (hE : ∀ vs x, E.rep vs x → E'.rep vs x) {cs : List Value} {xs : List α} (h : E.reps cs xs) : E'.reps cs xs :=
  ⟨by rw [← hn]; exact h.1, fun i x hx => by rw [← hn]; exact hE _ _ (h.2 i x hx)⟩
theorem slx_imp {α : Type} {E E' : Ek α} {xs sp : List α} (hn : E.n = E'.n) (hE : ∀ vs x, E.rep vs x → E'.rep vs x) (fp : Nat → Prop) (w : World) (h : (Res.slx E T v xs sp).own fp w) : (Res.slx E' T v xs sp).own fp w := by
  rcases h with h | ⟨g, o, cap, cur, h1, h2, h3, h4, h5, h6, h7⟩
  · exact .inl h
  · exact .inr ⟨g, o, cap, cur, h1, h2, h3, h4, h5, by rw [← hn]; exact h6, by rw [← hn]; exact reps_imp hn hE h7⟩
theorem ImpL.slx {α : Type} {E E' : Ek α} {xs sp : List α} (hn : E.n = E'.n) (hE : ∀ vs x, E.rep vs x → E'.rep vs x) (h : ImpL rs rs') : ImpL (Res.slx E T v xs sp :: rs) (Res.slx E' T v xs sp :: rs') :=
  .cons (slx_imp hn hE) h
theorem wp_up (b : Nat) : ∀ vs x, (Ek.wp bs).rep vs x → (Ek.wp (bs ++ [b])).rep vs x := fun _ _ ⟨v, h, h2⟩ => ⟨v, h, h2.up b⟩
theorem pair_up {α β : Type} {E E' : Ek α} {F F' : Ek β} (h1 : ∀ vs x, E.rep vs x → E'.rep vs x) (h2 : ∀ vs x, F.rep vs x → F'.rep vs x) : ∀ vs x, (Ek.pair E F).rep vs x → (Ek.pair E' F').rep vs x :=
  fun _ _ ⟨us, ws, h, k1, k2⟩ => ⟨us, ws, h, h1 _ _ k1, h2 _ _ k2⟩

def psel {β : Type} (x : β × β) (k : Int) : β := if k = 0 then x.1 else x.2
def pput {β : Type} (x : β × β) (k : Int) (y : β) : β × β := if k = 0 then (y, x.2) else (x.1, y)
theorem Sub.two {β : Type} {F : Ek β} {k : Int} (hk : 0 ≤ k ∧ k < 2) : Sub (Ek.pair F F) F (k.toNat * F.n) (fun x => psel x k) (fun x y => pput x k y) := by
  rcases (show k = 0 ∨ k = 1 by omega) with rfl | rfl
  · have e : ((0 : Int).toNat * F.n) = 0 := by simp
    rw [e]; exact Sub.fst
  · have e : ((1 : Int).toNat * F.n) = F.n := by simp
    rw [e]; exact Sub.snd

section ops
variable {n : Nat} {a : Act} {L : List (Nat × Value)} {ops : Array Oper} {Q : Exit → Act → World → Prop}
  {rest : List Oper} {d : Nat} {ty : TypeId} {pos : String} {af : Array Edge} {g : Option (Nat × Bool)}
  {t t' e : TypeId} {xo yo : Operand} {k k' : IntKind} {p q : Int} {u : Value}

theorem st_boxW {bt : Bool} {pv : Value} {ah : Option Nat} {f : Nat} {co : Fl} {r : Int} (hf : Fr n a L) (hd : d < n) (hp : Hp S w0 w (Res.ar T bs A :: rs))
    (hw : Region.wanted ⟨some d, .box T xo, ty, pos, af, g⟩ (yielded ops a.tmps) = true)
    (hx : evL L xo = some (.agg #[.bool bt, pv, .float .f64 f, .int .i64 r])) (hv : WP bs pv ah) (hr : co.rep f)
    (h : ∀ a' w' v' k, WP (bs ++ [k]) v' (some A.length) → Fr n a' ((d, v') :: L) → Hp S w0 w' (Res.ar T (bs ++ [k]) (A ++ [(bt, ah, co, r)]) :: rs) → wpList P ops Q rest a' w') :
    wpList P ops Q (⟨some d, .box T xo, ty, pos, af, g⟩ :: rest) a w := by
  obtain ⟨fp, ho, _, K⟩ := hp.take (i := 0) rfl
  obtain ⟨⟨n1, n2, n3⟩, n4⟩ := ho
  have hlt : ∀ b ∈ bs, b < w.heap.size := fun b hb => by
    obtain ⟨o, ho⟩ := ArAt.lt ⟨n1, n2, n3⟩ hb
    exact (Array.getElem?_eq_some_iff.1 ho).1
  have hnew : w.heap.size ∉ bs := fun hb => Nat.lt_irrefl _ (hlt _ hb)
  refine st_run hf hw rfl hd (v := .pointer (some ⟨w.heap.size, 0, none⟩)) (w' := w.alloc (.cells #[.bool bt, pv, .float .f64 f, .int .i64 r] T)) ?_
    fun a' _ hf' => h a' _ _ w.heap.size ⟨?_, fun i hi => by cases hi; simp; omega⟩ hf' ?_
  · simp [execOp, hf.ev hx, Instr.box, newVar, newRow, Result.andThen]
    first | rfl | done
  · simp [wpv, ← n2]
  · refine K _ (Res.ar T (bs ++ [w.heap.size]) (A ++ [(bt, ah, co, r)])) (fun k => k ∈ bs ++ [w.heap.size]) ?_ ⟨⟨?_, by simp [n2], fun i b c hb hc => ?_⟩, fun k => Iff.rfl⟩ (fun k hk => ?_)
    · exact ⟨rfl, rfl, rfl, by simp, fun k hk _ => heap_alloc_old w _ k hk⟩
    · rw [List.nodup_append]
      exact ⟨n1, by simp, fun x hx y hy => by simp at hy; subst hy; rintro rfl; exact hnew hx⟩
    · by_cases hi : i < bs.length
      · rw [List.getElem?_append_left hi] at hb
        rw [List.getElem?_append_left (by omega)] at hc
        obtain ⟨p, f', h1, h2, h3⟩ := n3 i b c hb hc
        exact ⟨p, f', h1.up _, h2, (heap_alloc_old w _ b (hlt b (List.mem_of_getElem? hb))).trans h3⟩
      · rw [List.getElem?_append_right (by omega)] at hb
        rw [List.getElem?_append_right (by omega)] at hc
        have h0 : i - bs.length = 0 := by
          rcases Nat.eq_zero_or_pos (i - bs.length) with h | h
          · exact h
          · rw [List.getElem?_eq_none (by simp; omega)] at hb; cases hb
        rw [h0] at hb
        rw [← n2, h0] at hc
        simp at hb hc
        subst hb hc
        exact ⟨pv, f, hv.up _, hr, heap_alloc_new w _⟩
    · rcases List.mem_append.1 hk with hk | hk
      · exact .inl ((n4 k).2 hk)
      · simp at hk; exact .inr (by omega)
theorem st_stRank {r : Int} (hf : Fr n a L) (hp : Hp S w0 w rs) {m : Nat} (hi : rs[m]? = some (Res.ar T bs A)) (hv : WP bs v x) (hx : x = some j) (hsz : (P.info? e).map (·.size) = some 1)
    (hw : Region.wanted ⟨none, .store e xo yo, ty, pos, af, g⟩ (yielded ops a.tmps) = true)
    (hxo : evL L xo = some (optr v 3)) (hyo : evL L yo = some (.int .i64 r))
    (h : ∀ a' w', Fr n a' L → Hp S w0 w' (rs.set m (Res.ar T bs (setR A j r))) → wpList P ops Q rest a' w') :
    wpList P ops Q (⟨none, .store e xo yo, ty, pos, af, g⟩ :: rest) a w := by
  obtain ⟨fp, ho, _, K⟩ := hp.take hi
  obtain ⟨⟨n1, n2, n3⟩, n4⟩ := ho
  obtain ⟨rfl, h2⟩ := hv
  have hj := h2 j hx
  subst hx
  obtain ⟨p, f, h3, h4, h5⟩ := n3 j _ _ (List.getElem?_eq_getElem hj) (nth_of (by omega))
  have hbv : wpv bs (some j) = .pointer (some ⟨bs[j], 0, none⟩) := by simp [wpv, List.getD_eq_getElem?_getD, List.getElem?_eq_getElem hj]
  rw [hbv] at hxo
  have hrun := run_store_cells (P := P) (o := 3) (T' := e) (cs := [.int .i64 r]) (u := .int .i64 r) h5 (by simp) (by simp [Value.oneCell']) rfl hsz
  refine st_run0 (w' := w.setRow bs[j] #[.bool (nth A j).1, p, .float .f64 f, .int .i64 r]) hf hw rfl ?_ fun a' hf' => h a' _ hf' (K _ (Res.ar T bs (setR A j r)) fp (chg_setRow w bs[j] _ ((n4 _).2 (List.getElem_mem hj))) ⟨⟨n1, by rw [setR_len]; exact n2, fun i b c hb hc => ?_⟩, n4⟩ (fun k hk => .inl hk))
  · simp only [execOp, hf.ev hxo, hf.ev hyo, optr, Addr.add_lit, Sem.run_bind] at hrun ⊢
    rw [show (0 + 3 : Nat) = 3 from rfl, hrun]
    rfl
  · by_cases hij : i = j
    · subst hij
      rw [List.getElem?_eq_getElem hj] at hb
      cases hb
      unfold setR at hc
      rw [List.getElem?_set_self (by omega)] at hc
      cases hc
      exact ⟨p, f, h3, h4, setRow_heap w bs[i] _ _ T (0, 0) h5⟩
    · unfold setR at hc
      rw [List.getElem?_set_ne (Ne.symm hij)] at hc
      obtain ⟨p', f', k1, k2, k3⟩ := n3 i b c hb hc
      refine ⟨p', f', k1, k2, ?_⟩
      rw [setRow_other w bs[j] b _ ?_]
      · exact k3
      · intro hbe
        have hib := List.getElem?_eq_some_iff.1 hb
        obtain ⟨hib1, hib2⟩ := hib
        exact hij ((List.getElem_inj n1).1 (hib2.trans hbe))
theorem st_idx2 {v0 v1 : Value} (hf : Fr n a L) (hd : d < n) (ht : P.underlying t = some (.array 2 e)) (hpl : Plain P e) (hsz : (P.info? e).map (·.size) = some 1)
    (hw : Region.wanted ⟨some d, .index t xo yo, ty, pos, af, g⟩ (yielded ops a.tmps) = true)
    (hx : evL L xo = some (.agg #[v0, v1])) (hy : evL L yo = some (.int k p)) (hp : 0 ≤ p ∧ p < 2)
    (h : ∀ a', a' = a.put (some d) (gtv [v0, v1] p) → Fr n a' ((d, gtv [v0, v1] p) :: L) → wpList P ops Q rest a' w) :
    wpList P ops Q (⟨some d, .index t xo yo, ty, pos, af, g⟩ :: rest) a w := by
  obtain ⟨inf, h3, h4⟩ := Option.map_eq_some_iff.1 hsz
  refine st_run hf hw rfl hd (w' := w) ?_ h
  have ha := hpl.run w
  rcases (show p = 0 ∨ p = 1 by omega) with rfl | rfl
  · simp [execOp, hf.ev hx, hf.ev hy, Instr.index, asIntOf, run_underlying ht, Go.sizeOf, typeInfo, h3, h4, Result.andThen, part, ha, gtv]
  · simp [execOp, hf.ev hx, hf.ev hy, Instr.index, asIntOf, run_underlying ht, Go.sizeOf, typeInfo, h3, h4, Result.andThen, part, ha, gtv]
theorem run_weq (hA : RdA (fun _ => True) w T bs A) {u1 u2 : Value} (h1 : WP bs u1 x) (h2 : WP bs u2 y) (ht : P.underlying t = some (.pointer e)) (hsz : ∃ j, P.info? e = some j ∧ j.size ≠ 0) :
    (Op.equal t u1 u2).run P w = .ok (decide (x = y)) w := by
  obtain ⟨inf, hi, hs⟩ := hsz
  have key : ∀ d : Nat, (Op.equalIn (d + 1) t u1 u2).run P w = .ok (decide (x = y)) w := by
    intro d
    cases hx : x with
    | none =>
      have e1 : u1 = .pointer none := by rw [h1.1, hx]; rfl
      cases hy : y with
      | none =>
        have e2 : u2 = .pointer none := by rw [h2.1, hy]; rfl
        subst e1 e2
        simp [Op.equalIn, run_underlying ht]
      | some j =>
        obtain ⟨b, cs, e2, _⟩ := hA.cells h2 hy
        subst e1 e2
        simp [Op.equalIn, run_underlying ht]
    | some i =>
      obtain ⟨b, cs, e1, k1, k2⟩ := hA.cells h1 hx
      cases hy : y with
      | none =>
        have e2 : u2 = .pointer none := by rw [h2.1, hy]; rfl
        subst e1 e2
        simp [Op.equalIn, run_underlying ht]
      | some j =>
        obtain ⟨b', cs', e2, k1', k2'⟩ := hA.cells h2 hy
        subst e1 e2
        by_cases hij : i = j
        · subst hij
          rw [k2] at k2'
          cases k2'
          simp [Op.equalIn, run_underlying ht, Go.sizeOf, typeInfo, hi, hs, run_sameAddr_same]
        · have hne : (⟨b, 0, none⟩ : Addr) ≠ ⟨b', 0, none⟩ := by
            intro hb
            injection hb with hb
            subst hb
            obtain ⟨q1, q2⟩ := List.getElem?_eq_some_iff.1 k2
            obtain ⟨q3, q4⟩ := List.getElem?_eq_some_iff.1 k2'
            exact hij ((List.getElem_inj hA.1.1).1 (q2.trans q4.symm))
          have hd : decide (some i = some j) = false := by simp [hij]
          rw [hd]
          simp [Op.equalIn, run_underlying ht, Go.sizeOf, typeInfo, hi, hs, run_sameAddr_other w hne k1 k1']
  exact key 9999
theorem st_wneq {u1 u2 : Value} (hf : Fr n a L) (hd : d < n) (ht : P.underlying t = some (.pointer e)) (hsz : ∃ j, P.info? e = some j ∧ j.size ≠ 0) (hA : RdA (fun _ => True) w T bs A)
    (hw : Region.wanted ⟨some d, .binOp .neq t xo yo t', ty, pos, af, g⟩ (yielded ops a.tmps) = true)
    (hx : evL L xo = some u1) (hy : evL L yo = some u2) (h1 : WP bs u1 x) (h2 : WP bs u2 y)
    (h : ∀ a', a' = a.put (some d) (.bool (!decide (x = y))) → Fr n a' ((d, .bool (!decide (x = y))) :: L) → wpList P ops Q rest a' w) :
    wpList P ops Q (⟨some d, .binOp .neq t xo yo t', ty, pos, af, g⟩ :: rest) a w := by
  obtain ⟨p1, e1⟩ := h1.sh
  obtain ⟨p2, e2⟩ := h2.sh
  have hr := run_weq (P := P) (t := t) hA h1 h2 ht hsz
  subst e1 e2
  refine st_run hf hw rfl hd (execBin .neq _ _ (.inr trivial) (hf.ev hx) (hf.ev hy) ?_) h
  simp only [binOp]
  simp [hr]
theorem run_wnil {u1 : Value} (h1 : WP bs u1 x) (ht : P.underlying t = some (.pointer e)) : (Op.equal t u1 (.pointer none)).run P w = .ok x.isNone w := by
  have key : ∀ d : Nat, (Op.equalIn (d + 1) t u1 (.pointer none)).run P w = .ok x.isNone w := by
    intro d
    cases x with
    | none =>
      have e1 : u1 = .pointer none := h1.1
      subst e1
      simp [Op.equalIn, run_underlying ht]
    | some i =>
      have e1 : u1 = .pointer (some ⟨bs.getD i 0, 0, none⟩) := h1.1
      subst e1
      simp [Op.equalIn, run_underlying ht]
  exact key 9999
theorem st_wnilE {u1 : Value} (hf : Fr n a L) (hd : d < n) (ht : P.underlying t = some (.pointer e))
    (hw : Region.wanted ⟨some d, .binOp .eql t xo yo t', ty, pos, af, g⟩ (yielded ops a.tmps) = true)
    (hx : evL L xo = some u1) (hy : evL L yo = some (.pointer none)) (h1 : WP bs u1 x)
    (h : ∀ a', a' = a.put (some d) (.bool x.isNone) → Fr n a' ((d, .bool x.isNone) :: L) → wpList P ops Q rest a' w) :
    wpList P ops Q (⟨some d, .binOp .eql t xo yo t', ty, pos, af, g⟩ :: rest) a w := by
  obtain ⟨p1, e1⟩ := h1.sh
  have hr := run_wnil (P := P) (w := w) h1 ht
  subst e1
  refine st_run hf hw rfl hd (execBin .eql _ _ (.inr trivial) (hf.ev hx) (hf.ev hy) ?_) h
  simp only [binOp]
  simp [hr]
theorem st_wnilN {u1 : Value} (hf : Fr n a L) (hd : d < n) (ht : P.underlying t = some (.pointer e))
    (hw : Region.wanted ⟨some d, .binOp .neq t xo yo t', ty, pos, af, g⟩ (yielded ops a.tmps) = true)
    (hx : evL L xo = some u1) (hy : evL L yo = some (.pointer none)) (h1 : WP bs u1 x)
    (h : ∀ a', a' = a.put (some d) (.bool (!x.isNone)) → Fr n a' ((d, .bool (!x.isNone)) :: L) → wpList P ops Q rest a' w) :
    wpList P ops Q (⟨some d, .binOp .neq t xo yo t', ty, pos, af, g⟩ :: rest) a w := by
  obtain ⟨p1, e1⟩ := h1.sh
  have hr := run_wnil (P := P) (w := w) h1 ht
  subst e1
  refine st_run hf hw rfl hd (execBin .neq _ _ (.inr trivial) (hf.ev hx) (hf.ev hy) ?_) h
  simp only [binOp]
  simp [hr]
theorem st_ldQW {yv : Option Nat} (hf : Fr n a L) (hd : d < n) (hT : Plain P T)
    (hw : Region.wanted ⟨some d, .load T xo, ty, pos, af, g⟩ (yielded ops a.tmps) = true)
    (hx : evL L xo = some u) (hs : Part w u (Ek.wp bs) yv)
    (h : ∀ a' v, WP bs v yv → a' = a.put (some d) v → Fr n a' ((d, v) :: L) → wpList P ops Q rest a' w) :
    wpList P ops Q (⟨some d, .load T xo, ty, pos, af, g⟩ :: rest) a w := by
  obtain ⟨b, o1, cs, e1, ⟨c, rfl, e2⟩, e3⟩ := hs
  exact st_loadAt hf hd hT hw hx e1 (by simpa using e3 0 (by simp)) fun a' => h a' c e2
theorem RdS.pinPW {α : Type} [Inhabited α] {E : Ek α} {xs : List α} {p : Int} {o : Nat} {gg : α → Option Nat} {s : α → Option Nat → α} (A : Sub E (Ek.wp bs) o gg s) (h : RdS E S w0 v xs) (h0 : 0 ≤ p) (h1 : p < xs.length) :
    ∃ b, WP bs b (gg (gt xs p)) ∧ ∀ (w : World) (rs : List Res), Hp S w0 w rs → ∃ bb oo, optr (eptr v p E.n) o = .pointer (some ⟨bb, oo, none⟩) ∧ w.cell? ⟨bb, oo, none⟩ = some b := by
  obtain ⟨ds, ⟨c, rfl, e2⟩, e3⟩ := RdS.pinPart A h h0 h1
  refine ⟨c, e2, fun w rs hp => ?_⟩
  obtain ⟨bb, oo, e4, e5⟩ := e3 w rs hp
  exact ⟨bb, oo, e4, by simpa using e5 0 (Nat.le_refl 1)⟩
theorem st_ldArr {α : Type} {E : Ek α} {xs : List α} {N m : Nat} (hf : Fr n a L) (hd : d < n) (hT : aggB P T = some m) (hm : N * E.n = m) (hN : 0 < N)
    (hw : Region.wanted ⟨some d, .load T xo, ty, pos, af, g⟩ (yielded ops a.tmps) = true)
    (hx : evL L xo = some v) (hs : Sl E w (aslv v N) xs)
    (h : ∀ a' cs, E.reps cs xs → a' = a.put (some d) (.agg cs.toArray) → Fr n a' ((d, .agg cs.toArray) :: L) → wpList P ops Q rest a' w) :
    wpList P ops Q (⟨some d, .load T xo, ty, pos, af, g⟩ :: rest) a w := by
  have hl := aslv_len hs
  obtain ⟨A, cap, e1, e2, e3, e4⟩ := hs
  obtain ⟨ad, rfl, rfl, _⟩ := aslv_ptr e1
  obtain ⟨b, o, cs, e5, _, e6, e7⟩ := e4 (by omega)
  cases e5
  have hcl : cs.length = m := by rw [e6.1, hl, hm]
  obtain ⟨k1, k2⟩ := agg_run hT w
  have hrun : (Instr.loadAt T (.pointer (some ⟨b, o, none⟩))).run P w = .ok (.agg cs.toArray) w := by
    have := run_loadCells_list (P := P) w (⟨b, o, none⟩ : Addr) cs (fun j u hj => by
      rw [Addr.add_lit]
      exact (e7 j (List.getElem?_eq_some_iff.1 hj).1).trans hj)
    rw [hcl] at this
    simp only [Instr.loadAt, Instr.sureAddr, loadVar, Sem.run_bind]
    simp [Sem.run, pure, Result.andThen] at this k1 k2 ⊢
    simp [k1, k2, this]
  refine st_run hf hw rfl hd (v := .agg cs.toArray) (w' := w) ?_ fun a' => h a' cs e6
  simp only [execOp, hf.ev hx, Sem.run_bind, hrun, Result.andThen_ok]
  rfl
theorem st_stArr {α : Type} {E : Ek α} {xs ys : List α} {N : Nat} {cs : List Value} (hf : Fr n a L) (hp : Hp S w0 w rs) {m : Nat} (hi : rs[m]? = some (Res.sl E T (aslv v N) xs)) (hN : 0 < N)
    (hw : Region.wanted ⟨none, .store e xo yo, ty, pos, af, g⟩ (yielded ops a.tmps) = true)
    (hx : evL L xo = some v) (hy : evL L yo = some (.agg cs.toArray)) (hr : E.reps cs ys) (hl : ys.length = N) (hsz : (P.info? e).map (·.size) = some (N * E.n))
    (h : ∀ a' w', Fr n a' L → Hp S w0 w' (rs.set m (Res.sl E T (aslv v N) ys)) → wpList P ops Q rest a' w') :
    wpList P ops Q (⟨none, .store e xo yo, ty, pos, af, g⟩ :: rest) a w := by
  have hxl := aslv_len (hp.sl hi)
  obtain ⟨fp, ho, _, K⟩ := hp.take hi
  rcases ho with ⟨_, h2, _⟩ | ⟨b, o', cap, cur, e1, h2, h3, h4, h5, h6, h7⟩
  · subst h2; simp at hxl; omega
  obtain ⟨ad, rfl, ead, _⟩ := aslv_ptr e1
  cases ead
  have hcl : cs.length = N * E.n := by rw [hr.1, hl]
  have hcap : N ≤ cap := by simp at h4; omega
  have hb2 : N * E.n ≤ cap * E.n := Nat.mul_le_mul_right _ hcap
  have hrun := run_store_cells (P := P) (o := o') (T' := e) (cs := cs) (u := .agg cs.toArray) h3 (by omega) (ones_of_reps hr) rfl (by rw [hsz, hcl])
  refine st_run0 (w' := w.setRow b (cur.toList.take o' ++ cs ++ cur.toList.drop (o' + cs.length)).toArray) hf hw rfl ?_ fun a' hf' => h a' _ hf' (K _ _ fp (chg_setRow w b _ ((h2 b).2 rfl)) ?_ (fun k hk => .inl hk))
  · simp only [execOp, hf.ev hx, hf.ev hy, Sem.run_bind] at hrun ⊢
    simp only [hrun, Result.andThen_ok]
    rfl
  · refine .inr ⟨b, o', cap, _, ?_, h2, setRow_heap w b cur _ T _ h3, by simp; omega, h5, ?_, ?_⟩
    · rw [e1, hl, ← hxl]
    · simp only [List.size_toArray, List.length_append, List.length_take, List.length_drop, Array.length_toList, hcl]
      omega
    · simp only [List.append_nil, hl]
      rw [← hcl]
      have e9 : ((cur.toList.take o' ++ cs ++ cur.toList.drop (o' + cs.length)).drop o').take cs.length = cs := by
        have hl1 : (cur.toList.take o').length = o' := by rw [List.length_take, Array.length_toList]; omega
        rw [List.append_assoc, List.drop_left' hl1, List.take_left' rfl]
      rw [e9]
      exact hr
theorem retArr1 {fn : Func} {R : Ending → World → Prop} {α : Type} {E : Ek α} {xs : List α} {N m tt : Nat} (hf : Fr n a L) (hr : fn.results = #[.cell tt T]) (hl : lk L tt = some v) (hT : aggB P T = some m) (hm : N * E.n = m) (hN : 0 < N)
    (hs : Sl E w (aslv v N) xs) (h : ∀ cs, E.reps cs xs → xs.length = N → R (.returned (.agg cs.toArray)) w) : bodyPost P fn R .ret a w := by
  have hll := aslv_len hs
  obtain ⟨A, cap, e1, e2, e3, e4⟩ := hs
  obtain ⟨ad, rfl, rfl, _⟩ := aslv_ptr e1
  obtain ⟨b, o, cs, e5, _, e6, e7⟩ := e4 (by omega)
  cases e5
  have hcl : cs.length = m := by rw [e6.1, hll, hm]
  obtain ⟨k1, k2⟩ := agg_run hT w
  have hrun : (loadVar T ⟨b, o, none⟩).run P w = .ok (.agg cs.toArray) w := by
    have := run_loadCells_list (P := P) w (⟨b, o, none⟩ : Addr) cs (fun j u hj => by
      rw [Addr.add_lit]
      exact (e7 j (List.getElem?_eq_some_iff.1 hj).1).trans hj)
    rw [hcl] at this
    simp only [loadVar, Sem.run_bind]
    simp [Sem.run, pure, Result.andThen] at this k1 k2 ⊢
    simp [k1, k2, this]
  refine bodyPost_ret (v := .agg cs.toArray) ?_ hf.defers (h cs e6 hll)
  have e := hf.slots _ _ hl
  have e8 : a.tmps.getD tt undef = .pointer (some ⟨b, o, none⟩) := by simp [Array.getD_eq_getD_getElem?, e]
  rw [results_rv, hr]
  simp [rvRun, e8, asAddr, hrun]
end ops
end GL
namespace GL
open Go
variable {bs : List Nat} {v v0 v1 : Value} {x x0 x1 : Option Nat} {P : Program} {e : TypeId}
theorem wp_cells (h : WP bs v x) : (Ek.wp bs).rep v.cells.toList x := by
  obtain ⟨p, rfl⟩ := h.sh
  exact ⟨_, rfl, h⟩
theorem wp_ones (h0 : WP bs v0 x0) (h1 : WP bs v1 x1) : [v0, v1].all (·.oneCell') = true := by
  obtain ⟨p, rfl⟩ := h0.sh
  obtain ⟨q, rfl⟩ := h1.sh
  rfl
theorem szne {sz : Nat} (h : (P.info? e).map (·.size) = some sz) (h0 : sz ≠ 0) : ∃ j, P.info? e = some j ∧ j.size ≠ 0 := by
  obtain ⟨inf, h1, h2⟩ := Option.map_eq_some_iff.1 h
  exact ⟨inf, h1, by omega⟩
end GL
namespace GL
open Go
section ops
variable {n : Nat} {a : Act} {L : List (Nat × Value)} {ops : Array Oper} {Q : Exit → Act → World → Prop} {w : World} {P : Program}
  {rest : List Oper} {d : Nat} {ty : TypeId} {pos : String} {af : Array Edge} {g : Option (Nat × Bool)}
  {t t' : TypeId} {xo yo : Operand} {b c : Nat} {fx fy q : Fl}
end ops
end GL
