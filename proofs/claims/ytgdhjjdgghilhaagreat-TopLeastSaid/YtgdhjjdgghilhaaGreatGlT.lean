/- Own library, part T: parts of elements; arrays as slices of themselves; method values. -/
import Derived.Test.YtgdhjjdgghilhaaGreatGlS
import Derived.Laws.StructEq
set_option linter.unusedVariables false
set_option linter.unusedSimpArgs false
namespace GL
open Go

variable {α β γ : Type} {E : Ek α} {F : Ek β} {G : Ek γ} {S S' : Nat → Prop} {w w' w0 : World} {v : Value} {xs sp : List α} {T : TypeId} {rs : List Res} {P : Program}

theorem reps_one' {cs : List Value} {ys : List β} (h : F.reps cs ys) : ∀ v ∈ cs, v.oneCell' = true := by
  intro v hv
  obtain ⟨k, hk, rfl⟩ := List.mem_iff_getElem.1 hv
  have hp := F.pos
  have hkl : k / F.n < ys.length := by
    rw [Nat.div_lt_iff_lt_mul hp, ← h.1]; exact hk
  have hr := h.2 (k / F.n) _ (List.getElem?_eq_getElem hkl)
  refine F.one _ _ hr _ ?_
  have hd := Nat.div_add_mod k F.n
  have hm := Nat.mod_lt k hp
  have hc : k / F.n * F.n = F.n * (k / F.n) := Nat.mul_comm _ _
  refine List.mem_iff_getElem?.2 ⟨k % F.n, ?_⟩
  rw [List.getElem?_take_of_lt hm, List.getElem?_drop, show k / F.n * F.n + k % F.n = k by omega, List.getElem?_eq_getElem hk]

def Ek.arr (N : Nat) (F : Ek β) (h : 0 < N := by decide) : Ek (List β) :=
  ⟨N * F.n, Nat.mul_pos h F.pos, fun cs ys => F.reps cs ys ∧ ys.length = N, fun cs ys ⟨h1, h2⟩ => by rw [h1.1, h2], fun cs ys ⟨h1, _⟩ => reps_one' h1⟩
theorem arr_zero {N : Nat} {h : 0 < N} {zc : List Value} {z : β} (hz : F.rep zc z) : (Ek.arr N F h).rep ((List.replicate N zc).flatten) (List.replicate N z) :=
  ⟨reps_replicate hz N, by simp⟩

structure Sub (E : Ek α) (F : Ek β) (o : Nat) (g : α → β) (s : α → β → α) : Prop where
  fit : o + F.n ≤ E.n
  get : ∀ cs x, E.rep cs x → F.rep ((cs.drop o).take F.n) (g x)
  set : ∀ cs x ds y, E.rep cs x → F.rep ds y → E.rep (cs.take o ++ ds ++ cs.drop (o + F.n)) (s x y)

theorem Sub.fst : Sub (Ek.pair E F) E 0 Prod.fst (fun x y => (y, x.2)) where
  fit := by simp [Ek.pair]
  get := by
    rintro cs x ⟨us, ws, rfl, h1, h2⟩
    have := E.len _ _ h1
    simp only [List.drop_zero]
    rw [List.take_append_of_le_length (by omega), List.take_of_length_le (by omega)]; exact h1
  set := by
    rintro cs x ds y ⟨us, ws, rfl, h1, h2⟩ h3
    have := E.len _ _ h1
    refine ⟨ds, ws, ?_, h3, h2⟩
    simp only [List.take_zero, List.nil_append, Nat.zero_add]
    rw [List.drop_append_of_le_length (by omega), List.drop_of_length_le (by omega), List.nil_append]
theorem Sub.snd : Sub (Ek.pair E F) F E.n Prod.snd (fun x y => (x.1, y)) where
  fit := by simp [Ek.pair]
  get := by
    rintro cs x ⟨us, ws, rfl, h1, h2⟩
    have := E.len _ _ h1
    have := F.len _ _ h2
    rw [List.drop_append_of_le_length (by omega), List.drop_of_length_le (by omega), List.nil_append, List.take_of_length_le (by omega)]; exact h2
  set := by
    rintro cs x ds y ⟨us, ws, rfl, h1, h2⟩ h3
    have e1 := E.len _ _ h1
    have e2 := F.len _ _ h2
    refine ⟨us, ds, ?_, h1, h3⟩
    rw [List.take_append_of_le_length (by omega), List.take_of_length_le (by omega), List.drop_of_length_le (by simp; omega), List.append_nil]
theorem Sub.arr [Inhabited β] {N : Nat} {h : 0 < N} {j : Int} (h0 : 0 ≤ j) (h1 : j < N) : Sub (Ek.arr N F h) F (j.toNat * F.n) (fun ys => gt ys j) (fun ys y => ys.set j.toNat y) where
  fit := by
    have : (j.toNat + 1) * F.n ≤ N * F.n := Nat.mul_le_mul_right _ (by omega)
    rw [Nat.succ_mul] at this
    exact this
  get := by
    rintro cs ys ⟨k1, k2⟩
    exact k1.2 _ _ (gt_of h0 (by omega))
  set := by
    rintro cs ys ds y ⟨k1, k2⟩ h3
    exact ⟨reps_set k1 h3 j.toNat (by omega), by simpa using k2⟩
theorem Sub.comp {o o' : Nat} {g : α → β} {s : α → β → α} {g' : β → γ} {s' : β → γ → β} (A : Sub E F o g s) (B : Sub F G o' g' s') :
    Sub E G (o + o') (fun x => g' (g x)) (fun x y => s x (s' (g x) y)) where
  fit := by have := A.fit; have := B.fit; omega
  get := by
    intro cs x h
    have h1 := B.get _ _ (A.get _ _ h)
    have hb := B.fit
    rw [List.drop_take, List.take_take, List.drop_drop, Nat.min_eq_left (by omega)] at h1
    exact h1
  set := by
    intro cs x ds y h h3
    have ha := A.fit
    have hb := B.fit
    have hl := E.len _ _ h
    have hd := G.len _ _ h3
    have h1 := A.set _ _ _ _ h (B.set _ _ _ _ (A.get _ _ h) h3)
    refine cast (congrArg (fun c => E.rep c _) ?_) h1
    apply List.ext_getElem?
    intro j
    simp only [List.getElem?_append, List.length_append, List.length_take, List.length_drop, List.getElem?_take, List.getElem?_drop]
    by_cases c1 : j < o
    · simp only [show j < min o cs.length + (min o' (min F.n (cs.length - o)) + ds.length + (min F.n (cs.length - o) - (o' + G.n))) from by omega, show j < min o cs.length from by omega, show j < min (o + o') cs.length + ds.length from by omega, show j < min (o + o') cs.length from by omega, c1, show j < o + o' from by omega, if_true]
    by_cases c2 : j < o + o'
    · simp only [show j < min o cs.length + (min o' (min F.n (cs.length - o)) + ds.length + (min F.n (cs.length - o) - (o' + G.n))) from by omega, show ¬ j < min o cs.length from by omega, show j - min o cs.length < min o' (min F.n (cs.length - o)) + ds.length from by omega, show j - min o cs.length < min o' (min F.n (cs.length - o)) from by omega, show j < min (o + o') cs.length + ds.length from by omega, show j < min (o + o') cs.length from by omega, c2, if_true, if_false,
        show j - min o cs.length < o' from by omega, show j - min o cs.length < F.n from by omega, show o + (j - min o cs.length) = j from by omega]
    by_cases c3 : j < o + o' + G.n
    · simp only [show j < min o cs.length + (min o' (min F.n (cs.length - o)) + ds.length + (min F.n (cs.length - o) - (o' + G.n))) from by omega, show ¬ j < min o cs.length from by omega, show j - min o cs.length < min o' (min F.n (cs.length - o)) + ds.length from by omega, show ¬ j - min o cs.length < min o' (min F.n (cs.length - o)) from by omega, show j < min (o + o') cs.length + ds.length from by omega, show ¬ j < min (o + o') cs.length from by omega, if_true, if_false]
      congr 1; omega
    by_cases c4 : j < o + F.n
    · simp only [show j < min o cs.length + (min o' (min F.n (cs.length - o)) + ds.length + (min F.n (cs.length - o) - (o' + G.n))) from by omega, show ¬ j < min o cs.length from by omega, show ¬ j - min o cs.length < min o' (min F.n (cs.length - o)) + ds.length from by omega, show ¬ j < min (o + o') cs.length + ds.length from by omega, if_true, if_false,
        show o' + G.n + (j - min o cs.length - (min o' (min F.n (cs.length - o)) + ds.length)) < F.n from by omega]
      congr 1; omega
    · simp only [show ¬ j < min o cs.length + (min o' (min F.n (cs.length - o)) + ds.length + (min F.n (cs.length - o) - (o' + G.n))) from by omega, show ¬ j < min (o + o') cs.length + ds.length from by omega, if_false]
      congr 1; omega

def IsP (u : Value) : Prop := ∃ b o, u = .pointer (some ⟨b, o, none⟩)
theorem Sl.isP [Inhabited α] (h : Sl E w v xs) {i : Int} (h0 : 0 ≤ i) (h1 : i < xs.length) : IsP (eptr v i E.n) := by
  obtain ⟨b, o, cs, e, _⟩ := Sl.elem h h0 h1
  exact ⟨b, o, e⟩
theorem RdB.isP {x' : α} (h : RdB E S w v x') : IsP v := by obtain ⟨b, cs, e, _⟩ := h; exact ⟨b, 0, e⟩

def aslv (v : Value) (N : Nat) : Value := match v with
  | .pointer (some a) => .slice (some a) N N
  | _ => undef
theorem aslv_ptr {N : Nat} {A : Option Addr} {l c : Nat} (h : aslv v N = .slice A l c) : ∃ a, v = .pointer (some a) ∧ A = some a ∧ l = N ∧ c = N := by
  unfold aslv at h
  split at h
  · cases h; exact ⟨_, rfl, rfl, rfl, rfl⟩
  · cases h

theorem aslv_len {N : Nat} (h : RdS E S w (aslv v N) xs) : xs.length = N := by
  obtain ⟨A, cap, e1, _⟩ := h
  obtain ⟨_, _, _, h3, _⟩ := aslv_ptr e1
  exact h3
theorem aslv_ix {N : Nat} {p : Int} {m : Nat} (h : RdS E S w (aslv v N) xs) (hm : 0 ≤ p ∧ p < (m : Int)) (e : m = N := by rfl) : 0 ≤ p ∧ p < (xs.length : Int) := by
  rw [aslv_len h, ← e]; exact hm

section ops
variable {n : Nat} {a : Act} {L : List (Nat × Value)} {ops : Array Oper} {Q : Exit → Act → World → Prop}
  {rest : List Oper} {d : Nat} {ty : TypeId} {pos : String} {af : Array Edge} {g : Option (Nat × Bool)}
  {t t' e : TypeId} {x y z : Operand} {k k' : IntKind} {p q : Int} {u : Value} {i o o' : Nat} {bytes : Nat} {z0 : α}

theorem st_iaP {len sz : Nat} (hf : Fr n a L) (hd : d < n) (ht : P.underlying t = some (.array len e)) (hsz : (P.info? e).map (·.size) = some sz)
    (hw : Region.wanted ⟨some d, .indexAddr t x y, ty, pos, af, g⟩ (yielded ops a.tmps) = true)
    (hx : evL L x = some u) (hy : evL L y = some (.int k p)) (hu : IsP u) (h0 : 0 ≤ p) (h1 : p < len)
    (h : ∀ a', a' = a.put (some d) (optr u (p.toNat * sz)) → Fr n a' ((d, optr u (p.toNat * sz)) :: L) → wpList P ops Q rest a' w) :
    wpList P ops Q (⟨some d, .indexAddr t x y, ty, pos, af, g⟩ :: rest) a w := by
  obtain ⟨b, o, rfl⟩ := hu
  obtain ⟨inf, h3, h4⟩ := Option.map_eq_some_iff.1 hsz
  refine st_run hf hw rfl hd (w' := w) ?_ h
  simp [execOp, hf.ev hx, hf.ev hy, optr, Addr.add_lit, Instr.indexAt, asIntOf, run_underlying ht, Instr.sureAddr, Go.sizeOf, typeInfo, h3, h4, h0, h1, Result.andThen]
theorem st_iaQ {len sz : Nat} (hf : Fr n a L) (hd : d < n) (ht : P.underlying t = some (.array len e)) (hsz : (P.info? e).map (·.size) = some sz)
    (hw : Region.wanted ⟨some d, .indexAddr t x y, ty, pos, af, g⟩ (yielded ops a.tmps) = true)
    (hx : evL L x = some (optr u o)) (hy : evL L y = some (.int k p)) (hu : IsP u) (h0 : 0 ≤ p) (h1 : p < len)
    (h : ∀ a', a' = a.put (some d) (optr u (o + p.toNat * sz)) → Fr n a' ((d, optr u (o + p.toNat * sz)) :: L) → wpList P ops Q rest a' w) :
    wpList P ops Q (⟨some d, .indexAddr t x y, ty, pos, af, g⟩ :: rest) a w := by
  obtain ⟨b, o1, rfl⟩ := hu
  obtain ⟨inf, h3, h4⟩ := Option.map_eq_some_iff.1 hsz
  refine st_run hf hw rfl hd (w' := w) ?_ h
  simp [execOp, hf.ev hx, hf.ev hy, optr, Addr.add_lit, Instr.indexAt, asIntOf, run_underlying ht, Instr.sureAddr, Go.sizeOf, typeInfo, h3, h4, h0, h1, Result.andThen, Nat.add_assoc]
theorem st_faP {s : TypeId} {f off sz : Nat} (hf : Fr n a L) (hd : d < n) (hs : fieldB P s f = some (off, sz)) (hsz : 0 < sz)
    (hw : Region.wanted ⟨some d, .fieldAddr s x f, ty, pos, af, g⟩ (yielded ops a.tmps) = true)
    (hx : evL L x = some u) (hu : IsP u)
    (h : ∀ a', a' = a.put (some d) (optr u off) → Fr n a' ((d, optr u off) :: L) → wpList P ops Q rest a' w) :
    wpList P ops Q (⟨some d, .fieldAddr s x f, ty, pos, af, g⟩ :: rest) a w := by
  obtain ⟨b, o, rfl⟩ := hu
  unfold fieldB at hs
  split at hs
  · rename_i fs hu
    obtain ⟨fl, h1, h2⟩ := Option.bind_eq_some_iff.1 hs
    obtain ⟨inf, h3, h4⟩ := Option.map_eq_some_iff.1 h2
    simp only [Prod.mk.injEq] at h4
    obtain ⟨rfl, rfl⟩ := h4
    refine st_run hf hw rfl hd (w' := w) ?_ h
    have hne : inf.size ≠ 0 := by omega
    simp [execOp, hf.ev hx, optr, Addr.add_lit, Instr.fieldAt, run_underlying hu, h1, Instr.sureAddr, fieldPlace, Go.sizeOf, typeInfo, h3, hne, Result.andThen]
  · cases hs
theorem Sl.part [Inhabited α] {gg : α → β} {s : α → β → α} (A : Sub E F o gg s) (hs : Sl E w v xs) (h0 : 0 ≤ p) (h1 : p < xs.length) :
    ∃ b o' ds, optr (eptr v p E.n) o = .pointer (some ⟨b, o', none⟩) ∧ F.rep ds (gg (gt xs p)) ∧ cellsAt w b o' ds := by
  obtain ⟨b, o1, cs, e1, e2, e3⟩ := Sl.elem hs h0 h1
  have hl := E.len _ _ e2
  have hfit := A.fit
  refine ⟨b, o1 + o, _, by rw [e1]; simp [optr, Addr.add_lit], A.get _ _ e2, fun j hj => ?_⟩
  have hj' : j < F.n := by simp at hj; omega
  rw [Nat.add_assoc, e3 (o + j) (by omega), List.getElem?_take_of_lt hj', List.getElem?_drop]
theorem RdB.part {x' : α} {gg : α → β} {s : α → β → α} (A : Sub E F o gg s) (hs : RdB E S w v x') :
    ∃ b o' ds, optr v o = .pointer (some ⟨b, o', none⟩) ∧ F.rep ds (gg x') ∧ cellsAt w b o' ds := by
  obtain ⟨b, cs, rfl, _, e2, e3⟩ := hs
  have hl := E.len _ _ e2
  have hfit := A.fit
  refine ⟨b, 0 + o, _, by simp [optr, Addr.add_lit], A.get _ _ e2, fun j hj => ?_⟩
  have hj' : j < F.n := by simp at hj; omega
  rw [Nat.add_assoc, e3 (o + j) (by omega), List.getElem?_take_of_lt hj', List.getElem?_drop]
def Part (w : World) (u : Value) (F : Ek β) (y : β) : Prop := ∃ b o' ds, u = .pointer (some ⟨b, o', none⟩) ∧ F.rep ds y ∧ cellsAt w b o' ds
theorem Part.whole [Inhabited α] (hs : Sl E w v xs) (h0 : 0 ≤ p) (h1 : p < xs.length) : Part w (eptr v p E.n) E (gt xs p) := Sl.elem hs h0 h1

theorem st_ldQ {yv : β} (hf : Fr n a L) (hd : d < n) (hT : Plain P T) (enc : β → Value) (he : ∀ vs x, F.rep vs x → vs = [enc x])
    (hw : Region.wanted ⟨some d, .load T x, ty, pos, af, g⟩ (yielded ops a.tmps) = true)
    (hx : evL L x = some u) (hs : Part w u F yv)
    (h : ∀ a', a' = a.put (some d) (enc yv) → Fr n a' ((d, enc yv) :: L) → wpList P ops Q rest a' w) :
    wpList P ops Q (⟨some d, .load T x, ty, pos, af, g⟩ :: rest) a w := by
  obtain ⟨b, o1, cs, e1, e2, e3⟩ := hs
  have e4 := he _ _ e2
  subst e4
  exact st_loadAt hf hd hT hw hx e1 (by simpa using e3 0 (by simp)) h
theorem st_ldQC {yv : Fl × Fl} (hf : Fr n a L) (hd : d < n) (hT : Plain P T)
    (hw : Region.wanted ⟨some d, .load T x, ty, pos, af, g⟩ (yielded ops a.tmps) = true)
    (hx : evL L x = some u) (hs : Part w u Ek.c128 yv)
    (h : ∀ a' b c, yv.1.rep b → yv.2.rep c → a' = a.put (some d) (.complex .f64 b c) → Fr n a' ((d, .complex .f64 b c) :: L) → wpList P ops Q rest a' w) :
    wpList P ops Q (⟨some d, .load T x, ty, pos, af, g⟩ :: rest) a w := by
  obtain ⟨b, o1, cs, e1, ⟨c, c', rfl, e2, e3'⟩, e3⟩ := hs
  exact st_loadAt hf hd hT hw hx e1 (by simpa using e3 0 (by simp)) fun a' => h a' c c' e2 e3'
theorem st_ldQA {m : Nat} {yv : β} (hf : Fr n a L) (hd : d < n) (hT : aggB P T = some m) (hm : F.n = m)
    (hw : Region.wanted ⟨some d, .load T x, ty, pos, af, g⟩ (yielded ops a.tmps) = true)
    (hx : evL L x = some u) (hs : Part w u F yv)
    (h : ∀ a' cs, F.rep cs yv → a' = a.put (some d) (.agg cs.toArray) → Fr n a' ((d, .agg cs.toArray) :: L) → wpList P ops Q rest a' w) :
    wpList P ops Q (⟨some d, .load T x, ty, pos, af, g⟩ :: rest) a w := by
  obtain ⟨b, o1, cs, rfl, e2, e3⟩ := hs
  have hl := F.len _ _ e2
  obtain ⟨k1, k2⟩ := agg_run hT w
  have hrun : (Instr.loadAt T (.pointer (some ⟨b, o1, none⟩))).run P w = .ok (.agg cs.toArray) w := by
    have := run_loadCells_list (P := P) w (⟨b, o1, none⟩ : Addr) cs (fun j u hj => by
      rw [Addr.add_lit]
      exact (e3 j (List.getElem?_eq_some_iff.1 hj).1).trans hj)
    rw [hl, hm] at this
    simp only [Instr.loadAt, Instr.sureAddr, loadVar, Sem.run_bind]
    simp [Sem.run, pure, Result.andThen] at this k1 k2 ⊢
    simp [k1, k2, this]
  refine st_run hf hw rfl hd (v := .agg cs.toArray) (w' := w) ?_ fun a' => h a' cs e2
  simp only [execOp, hf.ev hx, Sem.run_bind, hrun, Result.andThen_ok]
  rfl

theorem st_stQ [Inhabited α] {gg : α → β} {s : α → β → α} (A : Sub E F o gg s) (hf : Fr n a L) (hsz : (P.info? e).map (·.size) = some F.n) (hp : Hp S w0 w rs) (hi : rs[i]? = some (Res.slx E T v xs sp))
    (hw : Region.wanted ⟨none, .store e x y, ty, pos, af, g⟩ (yielded ops a.tmps) = true)
    (hx : evL L x = some (optr (eptr v p E.n) o)) (hy : evL L y = some u) {y' : β} (hu : F.rep u.cells.toList y') (h0 : 0 ≤ p) (h1 : p < xs.length)
    (h : ∀ a' w', Fr n a' L → Hp S w0 w' (rs.set i (Res.slx E T v (xs.set p.toNat (s (gt xs p) y')) sp)) → wpList P ops Q rest a' w') :
    wpList P ops Q (⟨none, .store e x y, ty, pos, af, g⟩ :: rest) a w := by
  obtain ⟨fp, ho, _, K⟩ := hp.take hi
  rcases ho with ⟨_, rfl, _⟩ | ⟨b, o', cap, cur, rfl, h2, h3, h4, h5, h6, h7⟩
  · simp at h1; omega
  have hlen := F.len _ _ hu
  have hfit := A.fit
  have hpl : p.toNat < (xs ++ sp).length := by simp; omega
  have hb : p.toNat * E.n + E.n ≤ (xs ++ sp).length * E.n := by rw [← Nat.succ_mul]; exact Nat.mul_le_mul_right _ (by omega)
  have hb2 : (xs ++ sp).length * E.n ≤ cap * E.n := Nat.mul_le_mul_right _ h4
  have hgt : (xs ++ sp)[p.toNat]? = some (gt xs p) := by rw [List.getElem?_append_left (by omega)]; exact gt_of h0 h1
  have hel := h7.2 _ _ hgt
  have hnew := A.set _ _ _ _ hel hu
  generalize hO : p.toNat * E.n = O at *
  generalize hM : (xs ++ sp).length * E.n = M at *
  have hcl : cap * E.n ≤ (cur.toList.drop o').length := by simp only [List.length_drop, Array.length_toList]; omega
  have hrun := run_store_cells (P := P) (o := o' + (O + o)) (T' := e) h3 (by rw [hlen]; omega) (F.one _ _ hu) rfl (by rw [hsz, hlen])
  refine st_run0 (w' := w.setRow b (cur.toList.take (o' + (O + o)) ++ u.cells.toList ++ cur.toList.drop (o' + (O + o) + u.cells.toList.length)).toArray) hf hw rfl ?_ fun a' hf' => h a' _ hf' (K _ _ fp (chg_setRow w b _ ((h2 b).2 rfl)) ?_ (fun k hk => .inl hk))
  · simp only [execOp, hf.ev hx, hf.ev hy, eptr, optr, hO, Addr.add_lit, Nat.add_assoc, Sem.run_bind] at hrun ⊢
    simp only [hrun, Result.andThen_ok]
    rfl
  · refine .inr ⟨b, o', cap, _, by simp, h2, setRow_heap w b cur _ T _ h3, by simpa using h4, h5, ?_, ?_⟩
    · simp only [List.size_toArray, List.length_append, List.length_take, List.length_drop, Array.length_toList, hlen]
      omega
    · have := reps_set h7 hnew p.toNat hpl
      rw [List.set_append_left _ _ (by omega), hO] at this
      refine cast (congrArg (fun c => E.reps c _) ?_) this
      have e1 : (xs.set p.toNat (s (gt xs p) y') ++ sp).length * E.n = M := by rw [← hM]; simp
      rw [e1]
      simp only [hlen]
      rw [splice_drop _ _ _ _ _ (by simp only [Array.length_toList]; omega)]
      generalize cur.toList.drop o' = C at hcl h7 ⊢
      apply List.ext_getElem?
      intro j
      simp only [List.getElem?_append, List.length_append, List.length_take, List.length_drop, List.getElem?_take, List.getElem?_drop, hlen]
      by_cases c0 : j < M
      case neg =>
        simp only [c0, if_false, show ¬ j < min O (min M C.length) + (min o (min E.n (min M C.length - O)) + F.n + (min E.n (min M C.length - O) - (o + F.n))) from by omega, show ¬ O + E.n + (j - (min O (min M C.length) + (min o (min E.n (min M C.length - O)) + F.n + (min E.n (min M C.length - O) - (o + F.n))))) < M from by omega]
      by_cases c1 : j < O
      · simp only [c0, c1, if_true, show j < min O (min M C.length) + (min o (min E.n (min M C.length - O)) + F.n + (min E.n (min M C.length - O) - (o + F.n))) from by omega, show j < min O (min M C.length) from by omega, show j < min (O + o) C.length + F.n from by omega, show j < min (O + o) C.length from by omega, show j < O + o from by omega]
      by_cases c2 : j < O + o
      · simp only [c0, c1, c2, if_true, if_false, show j < min O (min M C.length) + (min o (min E.n (min M C.length - O)) + F.n + (min E.n (min M C.length - O) - (o + F.n))) from by omega, show ¬ j < min O (min M C.length) from by omega, show j - min O (min M C.length) < min o (min E.n (min M C.length - O)) + F.n from by omega, show j - min O (min M C.length) < min o (min E.n (min M C.length - O)) from by omega, show j - min O (min M C.length) < o from by omega, show j - min O (min M C.length) < E.n from by omega, show O + (j - min O (min M C.length)) = j from by omega, show j < min (O + o) C.length + F.n from by omega, show j < min (O + o) C.length from by omega]
      by_cases c3 : j < O + o + F.n
      · simp only [c0, if_true, if_false, show j < min O (min M C.length) + (min o (min E.n (min M C.length - O)) + F.n + (min E.n (min M C.length - O) - (o + F.n))) from by omega, show ¬ j < min O (min M C.length) from by omega, show j - min O (min M C.length) < min o (min E.n (min M C.length - O)) + F.n from by omega, show ¬ j - min O (min M C.length) < min o (min E.n (min M C.length - O)) from by omega, show j < min (O + o) C.length + F.n from by omega, show ¬ j < min (O + o) C.length from by omega]
        congr 1; omega
      by_cases c4 : j < O + E.n
      · simp only [c0, if_true, if_false, show j < min O (min M C.length) + (min o (min E.n (min M C.length - O)) + F.n + (min E.n (min M C.length - O) - (o + F.n))) from by omega, show ¬ j < min O (min M C.length) from by omega, show ¬ j - min O (min M C.length) < min o (min E.n (min M C.length - O)) + F.n from by omega, show ¬ j < min (O + o) C.length + F.n from by omega,
          show o + F.n + (j - min O (min M C.length) - (min o (min E.n (min M C.length - O)) + F.n)) < E.n from by omega, show O + (o + F.n + (j - min O (min M C.length) - (min o (min E.n (min M C.length - O)) + F.n))) < M from by omega]
        congr 1; omega
      · simp only [c0, if_true, if_false, show ¬ j < min O (min M C.length) + (min o (min E.n (min M C.length - O)) + F.n + (min E.n (min M C.length - O) - (o + F.n))) from by omega, show ¬ j < min (O + o) C.length + F.n from by omega,
          show O + E.n + (j - (min O (min M C.length) + (min o (min E.n (min M C.length - O)) + F.n + (min E.n (min M C.length - O) - (o + F.n))))) < M from by omega]
        congr 1; omega

theorem st_allocA {N : Nat} {zv : Value} {zs : List α} (hf : Fr n a L) (hd : d < n) (hN : 0 < N) (hN2 : N ≤ 4096) (hz : (P.info? T).bind (·.zero) = some zv) (hc : E.reps zv.cells.toList zs) (hl : zs.length = N) (hp : Hp S w0 w rs)
    (hw : Region.wanted ⟨some d, .alloc T, ty, pos, af, g⟩ (yielded ops a.tmps) = true)
    (h : ∀ a' w' v', Fr n a' ((d, v') :: L) → Hp S w0 w' (Res.sl E T (aslv v' N) zs :: rs) → wpList P ops Q rest a' w') :
    wpList P ops Q (⟨some d, .alloc T, ty, pos, af, g⟩ :: rest) a w := by
  obtain ⟨inf, hi, hz'⟩ := Option.bind_eq_some_iff.1 hz
  refine st_run hf hw rfl hd (v := .pointer (some ⟨w.heap.size, 0, none⟩)) (w' := w.alloc (.cells zv.cells T)) ?_
    fun a' _ hf' => h a' _ _ hf' (hp.push (Same.alloc w _) (fp := fun k => k = w.heap.size) ?_ (fun k hk => by omega))
  · simp [execOp, Instr.alloc, zeroValue, typeInfo, hi, hz', newVar, newRow, Result.andThen]
  · have h1 : zv.cells.size = N * E.n := by have := hc.1; rw [hl] at this; simpa using this
    refine .inr ⟨w.heap.size, 0, N, zv.cells, by simp [aslv, hl], fun _ => Iff.rfl, heap_alloc_new w (.cells zv.cells T), by simp [hl], by simp only [maxLen]; omega, by omega, ?_⟩
    rw [List.append_nil, List.drop_zero, hl, List.take_of_length_le (by simp [h1])]
    exact hc
theorem st_iaA [Inhabited α] {w1 : World} {len N : Nat} (hf : Fr n a L) (hd : d < n) (ht : P.underlying t = some (.array len e)) (hsz : (P.info? e).map (·.size) = some E.n)
    (hw : Region.wanted ⟨some d, .indexAddr t x y, ty, pos, af, g⟩ (yielded ops a.tmps) = true)
    (hx : evL L x = some v) (hy : evL L y = some (.int k p)) (hs : Sl E w1 (aslv v N) xs) (hN : len = N) (h0 : 0 ≤ p) (h1 : p < len)
    (h : ∀ a', a' = a.put (some d) (eptr (aslv v N) p E.n) → Fr n a' ((d, eptr (aslv v N) p E.n) :: L) → wpList P ops Q rest a' w) :
    wpList P ops Q (⟨some d, .indexAddr t x y, ty, pos, af, g⟩ :: rest) a w := by
  obtain ⟨A, cap, e1, _⟩ := hs
  obtain ⟨b, rfl, rfl, _⟩ := aslv_ptr e1
  obtain ⟨inf, h3, h4⟩ := Option.map_eq_some_iff.1 hsz
  refine st_run hf hw rfl hd (w' := w) ?_ h
  simp [execOp, hf.ev hx, hf.ev hy, Instr.indexAt, asIntOf, run_underlying ht, Instr.sureAddr, Go.sizeOf, typeInfo, h3, h4, h0, h1, Result.andThen, aslv, eptr]
theorem st_nilA {w1 : World} {N : Nat} (hf : Fr n a L) (hd : d < n) (hw : Region.wanted ⟨some d, .nilCheck x, ty, pos, af, g⟩ (yielded ops a.tmps) = true)
    (hx : evL L x = some v) (hs : Sl E w1 (aslv v N) xs)
    (h : ∀ a', a' = a.put (some d) v → Fr n a' ((d, v) :: L) → wpList P ops Q rest a' w) :
    wpList P ops Q (⟨some d, .nilCheck x, ty, pos, af, g⟩ :: rest) a w := by
  obtain ⟨A, cap, e1, _⟩ := hs
  obtain ⟨b, rfl, rfl, _⟩ := aslv_ptr e1
  exact st_nilck hf hw hx hd h

theorem ret0 {fn : Func} {R : Ending → World → Prop} (hf : Fr n a L) (hr : fn.results = #[]) (h : R (.returned (.tuple #[])) w) : bodyPost P fn R .ret a w :=
  bodyPost_ret (v := .tuple #[]) (by simp [results, hr]) hf.defers h
theorem ret0n {fn : Func} {R : Ending → World → Prop} (hf : Fr n a L) (hr : fn.results = #[]) (h : R (.returned (.tuple #[])) w) : bodyPost P fn R .normal a w :=
  bodyPost_end (v := .tuple #[]) (by simp [results, hr]) hf.defers h

theorem cells_sh {m : Nat} (h : Shape u m) : u.cells.toList = [u] := by obtain ⟨A, c, rfl⟩ := h; rfl
theorem cells_sha {m : Nat} (h : Shape u m) : u.cells = [u].toArray := by obtain ⟨A, c, rfl⟩ := h; rfl
theorem ones_sh {m : Nat} (h : Shape u m) : [u].all (·.oneCell') = true := by obtain ⟨A, c, rfl⟩ := h; rfl

theorem st_makeFuncM {fn : Fn} (hf : Fr n a L) (hd : d < n) (hw : Region.wanted ⟨some d, .makeFunc fn #[x] #[], ty, pos, af, g⟩ (yielded ops a.tmps) = true)
    (hx : evL L x = some u) (h : ∀ a', a' = a.put (some d) (.func fn #[u] #[]) → Fr n a' ((d, .func fn #[u] #[]) :: L) → wpList P ops Q rest a' w) :
    wpList P ops Q (⟨some d, .makeFunc fn #[x] #[], ty, pos, af, g⟩ :: rest) a w :=
  st_run hf hw rfl hd (by simp [execOp, hf.ev hx, Instr.makeFunc, Sem.run, pure, bind, Sem.bind]) h
theorem st_callM {f : FuncId} {fn : Func} {c : Code} {x : Operand} {l : List Operand} {vs fst cap : List Value} {R : Ending → World → Prop} {tys : Array TypeId}
    (hf : Fr n a L) (hd : d < n) (hfn : P.funcs[f]? = some fn) (hnm : (fn.name == "runtime.NumGoroutine") = false) (hb : fn.body = some c)
    (hw : Region.wanted ⟨some d, .call ⟨.value x, l.toArray, tys⟩, ty, pos, af, g⟩ (yielded ops a.tmps) = true)
    (hx : evL L x = some (.func (.func f) fst.toArray cap.toArray)) (hl : evs L l = some vs)
    (hc : Calls P f (fst ++ vs ++ cap).toArray w R)
    (h : ∀ e w', R e w' → ∃ v, e = .returned v ∧ ∀ a', Fr n a' ((d, v) :: L) → wpList P ops Q rest a' w') :
    wpList P ops Q (⟨some d, .call ⟨.value x, l.toArray, tys⟩, ty, pos, af, g⟩ :: rest) a w := by
  unfold wpList
  rw [if_pos hw]
  refine .inl ?_
  unfold Oper.wp
  have hrun : (execOp a.eval ⟨some d, .call ⟨.value x, l.toArray, tys⟩, ty, pos, af, g⟩).run P w = .ok (.enter f (fst ++ vs ++ cap).toArray) w := by
    have hm := hf.evs hl
    simp only [execOp, resolve, hf.ev hx, hm, Deferred.ofValue, Sem.run_bind]
    simp [Sem.run, pure, Result.andThen, invoke, run_callFunc (P := P) hfn hnm hb]
  rw [hrun, Oper.upon_enter]
  refine Calls.mono hc fun e w' hr => ?_
  obtain ⟨v, rfl, k⟩ := h e w' hr
  exact k _ (hf.put hd v)
end ops
end GL
