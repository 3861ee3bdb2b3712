/- Own library, part Ub: maps from whole numbers. -/
import Derived.Test.YtcooefnbolobaaaGlUa
import Derived.MapKept
set_option linter.unusedVariables false
set_option linter.unusedSimpArgs false
namespace GL
open Go

/-! ### The plain side: a map is the list of what it holds -/
section
variable {β : Type}
def mfi : List (Int × β) → Int → Option (Nat × β)
  | [], _ => none
  | p :: m, k => if k == p.1 then some (0, p.2) else (mfi m k).map fun q => (q.1 + 1, q.2)
def mget (m : List (Int × β)) (k : Int) : Option β := (mfi m k).map Prod.snd
def mput (m : List (Int × β)) (k : Int) (x : β) : List (Int × β) := match mfi m k with
  | some q => m.set q.1 (k, x)
  | none => m ++ [(k, x)]
def mdel (m : List (Int × β)) (k : Int) : List (Int × β) := m.filter fun p => !(k == p.1)
theorem mget_nil (k : Int) : mget ([] : List (Int × β)) k = none := rfl
theorem mget_cons (p : Int × β) (m : List (Int × β)) (k : Int) : mget (p :: m) k = if k = p.1 then some p.2 else mget m k := by
  have e : mfi (p :: m) k = if k == p.1 then some (0, p.2) else (mfi m k).map fun q => (q.1 + 1, q.2) := rfl
  unfold mget
  rw [e]
  by_cases h : k = p.1
  · simp [h]
  · simp [h, Option.map_map, Function.comp_def]
theorem mfi_some {m : List (Int × β)} {k : Int} {j : Nat} {x : β} (h : mfi m k = some (j, x)) : m[j]? = some (k, x) := by
  induction m generalizing j with
  | nil => simp [mfi] at h
  | cons p m ih =>
    unfold mfi at h
    by_cases hk : (k == p.1) = true
    · rw [if_pos hk] at h
      obtain ⟨rfl, rfl⟩ := Prod.mk.inj (Option.some.inj h)
      have : k = p.1 := by simpa using hk
      simp [this]
    · rw [if_neg hk] at h
      obtain ⟨q, hq, e⟩ := Option.map_eq_some_iff.1 h
      obtain ⟨rfl, rfl⟩ := Prod.mk.inj e
      simpa using ih hq
theorem mfi_none {m : List (Int × β)} {k : Int} (h : mfi m k = none) : ∀ p ∈ m, p.1 ≠ k := by
  induction m with
  | nil => simp
  | cons p m ih =>
    unfold mfi at h
    by_cases hk : (k == p.1) = true
    · rw [if_pos hk] at h; cases h
    · rw [if_neg hk] at h
      intro q hq
      rcases List.mem_cons.1 hq with rfl | hq
      · exact fun e => hk (by simp [e])
      · exact ih (by simpa using h) q hq
theorem mget_append (m : List (Int × β)) (k k' : Int) (x : β) : mget (m ++ [(k, x)]) k' = (mget m k').or (if k' = k then some x else none) := by
  induction m with
  | nil => rw [List.nil_append, mget_cons, mget_nil]; by_cases h : k' = k <;> simp [h, mget_nil]
  | cons p m ih =>
    rw [List.cons_append, mget_cons, mget_cons, ih]
    by_cases h : k' = p.1 <;> simp [h]
theorem mget_set {m : List (Int × β)} {k : Int} {j : Nat} {y : β} (h : mfi m k = some (j, y)) (k' : Int) (x : β) : mget (m.set j (k, x)) k' = if k' = k then some x else mget m k' := by
  induction m generalizing j with
  | nil => simp [mfi] at h
  | cons p m ih =>
    unfold mfi at h
    by_cases hk : (k == p.1) = true
    · rw [if_pos hk] at h
      obtain ⟨rfl, rfl⟩ := Prod.mk.inj (Option.some.inj h)
      have : k = p.1 := by simpa using hk
      subst this
      rw [List.set_cons_zero, mget_cons, mget_cons]
      by_cases h2 : k' = p.1 <;> simp [h2]
    · rw [if_neg hk] at h
      obtain ⟨q, hq, e⟩ := Option.map_eq_some_iff.1 h
      obtain ⟨rfl, rfl⟩ := Prod.mk.inj e
      rw [List.set_cons_succ, mget_cons, mget_cons, ih hq]
      have hne : k ≠ p.1 := by simpa using hk
      by_cases h2 : k' = p.1
      · subst h2; simp [Ne.symm hne]
      · simp [h2]
theorem mget_put (m : List (Int × β)) (k k' : Int) (x : β) : mget (mput m k x) k' = if k' = k then some x else mget m k' := by
  unfold mput
  cases h : mfi m k with
  | some q => exact mget_set h k' x
  | none =>
    simp only
    rw [mget_append]
    by_cases h2 : k' = k
    · subst h2; simp [mget, h]
    · simp [h2]
theorem mget_del (m : List (Int × β)) (k k' : Int) : mget (mdel m k) k' = if k' = k then none else mget m k' := by
  induction m with
  | nil => simp [mdel, mget_nil]
  | cons p m ih =>
    unfold mdel at ih ⊢
    rw [List.filter_cons]
    by_cases h : k = p.1
    · have h1 : (!(k == p.1)) = false := by simp [h]
      rw [h1, if_neg (by simp), ih, mget_cons]
      by_cases h2 : k' = k
      · rw [if_pos h2, if_pos h2]
      · rw [if_neg h2, if_neg h2, if_neg (fun e => h2 (e.trans h.symm))]
    · have h1 : (!(k == p.1)) = true := by simp [h]
      rw [h1, if_pos rfl, mget_cons, ih, mget_cons]
      by_cases h2 : k' = p.1
      · rw [if_pos h2, if_pos h2, if_neg (fun e => h (e.symm.trans h2))]
      · rw [if_neg h2, if_neg h2]

/-- the keys are apart -/
def Apart (m : List (Int × β)) : Prop := (m.map Prod.fst).Nodup
theorem apart_put {m : List (Int × β)} (h : Apart m) (k : Int) (x : β) : Apart (mput m k x) := by
  unfold mput
  cases hk : mfi m k with
  | some q =>
    have := mfi_some (j := q.1) (x := q.2) hk
    unfold Apart at h ⊢
    simp only [List.map_set]
    have e : (m.map Prod.fst)[q.1]? = some k := by rw [List.getElem?_map, this]; rfl
    have hl := (List.getElem?_eq_some_iff.1 e).1
    have e2 : (m.map Prod.fst)[q.1] = k := (List.getElem?_eq_some_iff.1 e).2
    rw [← e2, List.set_getElem_self]; exact h
  | none =>
    have := mfi_none hk
    unfold Apart at h ⊢
    rw [List.map_append, List.nodup_append]
    refine ⟨h, by simp, fun a ha b hb => ?_⟩
    obtain ⟨p, hp, rfl⟩ := List.mem_map.1 ha
    simp at hb
    subst hb
    exact this p hp
theorem apart_del {m : List (Int × β)} (h : Apart m) (k : Int) : Apart (mdel m k) := by
  unfold Apart mdel at *
  exact (List.Sublist.map _ List.filter_sublist).nodup h
theorem mdel_some {m : List (Int × β)} (h : Apart m) {k : Int} {j : Nat} {x : β} (hk : mfi m k = some (j, x)) : mdel m k = m.eraseIdx j := by
  induction m generalizing j with
  | nil => simp [mfi] at hk
  | cons p m ih =>
    unfold Apart at h
    rw [List.map_cons, List.nodup_cons] at h
    unfold mfi at hk
    by_cases hc : (k == p.1) = true
    · rw [if_pos hc] at hk
      obtain ⟨rfl, rfl⟩ := Prod.mk.inj (Option.some.inj hk)
      have e : k = p.1 := by simpa using hc
      unfold mdel
      rw [List.filter_cons, hc]
      simp only [Bool.not_true, Bool.false_eq_true, if_false, List.eraseIdx_cons_zero]
      refine List.filter_eq_self.2 fun q hq => ?_
      simp only [Bool.not_eq_true', beq_eq_false_iff_ne]
      intro e2
      exact h.1 (List.mem_map.2 ⟨q, hq, by rw [← e2, e]⟩)
    · rw [if_neg hc] at hk
      obtain ⟨q, hq, e⟩ := Option.map_eq_some_iff.1 hk
      obtain ⟨rfl, rfl⟩ := Prod.mk.inj e
      have := ih h.2 hq
      unfold mdel at this ⊢
      rw [List.filter_cons]
      simp only [Bool.not_eq_true] at hc
      rw [hc]
      simp only [Bool.not_false, if_true, List.eraseIdx_cons_succ, this]
theorem mdel_none {m : List (Int × β)} {k : Int} (hk : mfi m k = none) : mdel m k = m := by
  unfold mdel
  refine List.filter_eq_self.2 fun q hq => ?_
  simp only [Bool.not_eq_true', beq_eq_false_iff_ne]
  exact fun e => mfi_none hk q hq e.symm
end

theorem erase_map {α γ : Type} (f : α → γ) : ∀ (l : List α) (i : Nat), (l.map f).eraseIdx i = (l.eraseIdx i).map f
  | [], _ => rfl
  | _ :: _, 0 => rfl
  | a :: l, i + 1 => by simp [erase_map f l i]
/-! ### The block -/
variable {β : Type} {enc : β → Value} {S S' : Nat → Prop} {w w' w0 : World} {v : Value} {T : TypeId} {rs : List Res} {P : Program} {m : List (Int × β)}
def ent (enc : β → Value) (p : Int × β) : Value × Value := (.int .i64 p.1, enc p.2)
def MapAt (enc : β → Value) (w : World) (g : Nat) (m : List (Int × β)) : Prop :=
  ∃ es clock, w.heap[g]? = some (.map es clock) ∧ es.toList.map (fun e => (e.key, e.val)) = m.map (ent enc) ∧ Apart m
def Res.map (enc : β → Value) (v : Value) (m : List (Int × β)) : Res where
  own := fun fp w => ∃ g, v = .map (some g) ∧ (∀ k, fp k ↔ k = g) ∧ MapAt enc w g m
  loc := by
    rintro fp w w' ⟨g, h1, h2, es, cl, h3, h4⟩ hk
    exact ⟨g, h1, h2, es, cl, (hk g ((h2 g).2 rfl)).trans h3, h4⟩
  bd := by
    rintro fp w k ⟨g, h1, h2, es, cl, h3, h4⟩ hk
    rw [(h2 k).1 hk]; exact (Array.getElem?_eq_some_iff.1 h3).1
theorem Hp.mapv (hp : Hp S w0 w rs) {i : Nat} (hi : rs[i]? = some (Res.map enc v m)) : ∃ g, v = .map (some g) := by
  obtain ⟨fp, ⟨g, h, _⟩, _⟩ := hp.take hi
  exact ⟨g, h⟩
theorem mv_cells (h : ∃ g, v = .map (some g)) : v.cells.toList = [v] := by obtain ⟨g, rfl⟩ := h; rfl
theorem mv_ones (h : ∃ g, v = .map (some g)) : ([v] : List Value).all (·.oneCell') = true := by obtain ⟨g, rfl⟩ := h; rfl

theorem findNow_ok (k : Int) : ∀ (l : List MapEntry) (m : List (Int × β)) (i : Nat), l.map (fun e => (e.key, e.val)) = m.map (ent enc) →
    Instr.findNow (.int .i64) (.int .i64 k) l i = some ((mfi m k).map fun q => (i + q.1, enc q.2))
  | [], [], i, _ => rfl
  | [], _ :: _, _, h => by simp at h
  | _ :: _, [], _, h => by simp at h
  | e :: l, p :: m, i, h => by
    simp only [List.map_cons, List.cons.injEq] at h
    obtain ⟨h1, h2⟩ := h
    obtain ⟨hk, hv⟩ := Prod.mk.inj h1
    have ih := findNow_ok k l m (i + 1) h2
    unfold Instr.findNow mfi
    have hk : e.key = .int .i64 p.1 := hk
    have hv : e.val = enc p.2 := hv
    rw [hk, show Instr.sameNow (.int .i64) (.int .i64 k) (.int .i64 p.1) = some (k == p.1) by simp [Instr.sameNow]]
    by_cases hc : (k == p.1) = true
    · rw [hc]; simp [hv]
    · simp only [Bool.not_eq_true] at hc
      rw [hc]
      simp only [Bool.false_eq_true, if_false]
      rw [ih]
      cases mfi m k with
      | none => rfl
      | some q => simp only [Option.map_some, show i + 1 + q.1 = i + (q.1 + 1) by omega]

section ops
variable {n : Nat} {a : Act} {L : List (Nat × Value)} {ops : Array Oper} {Q : Exit → Act → World → Prop}
  {rest : List Oper} {d : Nat} {ty : TypeId} {pos : String} {af : Array Edge} {g : Option (Nat × Bool)} {x y z : Operand} {t kt e : TypeId} {k : Int} {i : Nat} {z0 b : β}

theorem run_findKey (hk : P.underlying kt = some (.int .i64)) {l : List MapEntry} (h : l.map (fun e => (e.key, e.val)) = m.map (ent enc)) (w : World) :
    (Instr.findKey kt (.int .i64 k) l).run P w = .ok ((mfi m k).map fun q => (q.1, enc q.2)) w := by
  have := findNow_ok k l m 0 h
  simp only [Nat.zero_add] at this
  simp [Instr.findKey, run_underlying hk, this, Result.andThen]
theorem run_check (hk : P.underlying kt = some (.int .i64)) (b : Bool) (w : World) : (Instr.checkKey b 10000 kt (.int .i64 k)).run P w = .ok () w :=
  MapKept.run_checkKey (n := 9999) hk (by simp [MapKept.IsKey]) b
theorem emptyEs {es : Array MapEntry} : es.isEmpty = es.toList.isEmpty := by simp

theorem st_makeMap (hf : Fr n a L) (hd : d < n) (hp : Hp S w0 w rs)
    (hw : Region.wanted ⟨some d, .makeMap t none, ty, pos, af, g⟩ (yielded ops a.tmps) = true)
    (h : ∀ a' w' b', Fr n a' ((d, .map (some b')) :: L) → Hp S w0 w' (Res.map enc (.map (some b')) [] :: rs) → wpList P ops Q rest a' w') :
    wpList P ops Q (⟨some d, .makeMap t none, ty, pos, af, g⟩ :: rest) a w := by
  refine st_run hf hw rfl hd (v := .map (some w.heap.size)) (w' := w.alloc (.map #[] 0)) ?_
    fun a' _ hf' => h a' _ _ hf' (hp.push (Same.alloc w _) (fp := fun k => k = w.heap.size) ⟨_, rfl, fun _ => Iff.rfl, #[], 0, heap_alloc_new w _, by simp, by simp [Apart]⟩ (fun k hk => by omega))
  simp [execOp, Instr.makeMap, newObj, Sem.run, pure, bind, Sem.bind]

theorem st_lookup {ok : Bool} (hf : Fr n a L) (hd : d < n) (ht : P.underlying t = some (.map kt e)) (hk : P.underlying kt = some (.int .i64)) (hz : (P.info? e).bind (·.zero) = some (enc z0))
    (hp : Hp S w0 w rs) (hi : rs[i]? = some (Res.map enc v m))
    (hw : Region.wanted ⟨some d, .lookup t x y ok, ty, pos, af, g⟩ (yielded ops a.tmps) = true)
    (hx : evL L x = some v) (hy : evL L y = some (.int .i64 k))
    (h : ∀ a', a' = a.put (some d) (if ok then .tuple #[enc ((mget m k).getD z0), .bool (mget m k).isSome] else enc ((mget m k).getD z0)) → Fr n a' ((d, if ok then .tuple #[enc ((mget m k).getD z0), .bool (mget m k).isSome] else enc ((mget m k).getD z0)) :: L) → wpList P ops Q rest a' w) :
    wpList P ops Q (⟨some d, .lookup t x y ok, ty, pos, af, g⟩ :: rest) a w := by
  obtain ⟨fp, ⟨b0, rfl, h2, es, cl, h3, h4, h5⟩, _⟩ := hp.take hi
  obtain ⟨inf, hi', hz'⟩ := Option.bind_eq_some_iff.1 hz
  refine st_run hf hw rfl hd (w' := w) ?_ h
  have hf1 := run_findKey (k := k) hk h4 w
  have hc := run_check (k := k) hk es.isEmpty w
  cases hm : mfi m k with
  | none =>
    rw [hm] at hf1
    simp [execOp, hf.ev hx, hf.ev hy, Instr.lookup, run_underlying ht, MapKept.run_getObj_map h3, hf1, hc, Result.andThen, zeroValue, typeInfo, hi', hz', mget, hm]
  | some q =>
    rw [hm] at hf1
    simp [execOp, hf.ev hx, hf.ev hy, Instr.lookup, run_underlying ht, MapKept.run_getObj_map h3, hf1, hc, Result.andThen, mget, hm]

theorem heap_set_self {b0 : Nat} {o o' : Obj} (h : w.heap[b0]? = some o) : ({ w with heap := w.heap.setIfInBounds b0 o' } : World).heap[b0]? = some o' := by
  have := (Array.getElem?_eq_some_iff.1 h).1
  simp [this]
theorem chg_set (b0 : Nat) (o' : Obj) {fp : Nat → Prop} (h : fp b0) : Chg fp w { w with heap := w.heap.setIfInBounds b0 o' } :=
  ⟨rfl, rfl, rfl, by simp, fun k _ hk => Array.getElem?_setIfInBounds_ne (fun e => hk (by rw [← e]; exact h))⟩

theorem stays {k : Int} (w : World) : (Instr.keyThatStays (.int .i64 k) (.int .i64 k)).run P w = .ok (.int .i64 k) w := by
  simp [Instr.keyThatStays, Instr.sameBits, Sem.run, pure]
theorem st_mapPut (hf : Fr n a L) (ht : P.underlying t = some (.map kt e)) (hk : P.underlying kt = some (.int .i64))
    (hp : Hp S w0 w rs) (hi : rs[i]? = some (Res.map enc v m))
    (hw : Region.wanted ⟨none, .mapUpdate t x y z, ty, pos, af, g⟩ (yielded ops a.tmps) = true)
    (hx : evL L x = some v) (hy : evL L y = some (.int .i64 k)) (hz : evL L z = some (enc b))
    (h : ∀ a' w', Fr n a' L → Hp S w0 w' (rs.set i (Res.map enc v (mput m k b))) → wpList P ops Q rest a' w') :
    wpList P ops Q (⟨none, .mapUpdate t x y z, ty, pos, af, g⟩ :: rest) a w := by
  obtain ⟨fp, ⟨b0, rfl, h2, es, cl, h3, h4, h5⟩, _, K⟩ := hp.take hi
  have hf1 := run_findKey (k := k) hk h4 w
  have hc := run_check (k := k) hk false w
  cases hm : mfi m k with
  | none =>
    rw [hm] at hf1
    refine st_run0 (w' := { w with heap := w.heap.setIfInBounds b0 (.map (es.push { key := .int .i64 k, val := enc b, born := cl }) (cl + 1)) }) hf hw rfl ?_ fun a' hf' => h a' _ hf' (K _ _ fp (chg_set b0 _ ((h2 b0).2 rfl)) ⟨b0, rfl, h2, _, _, heap_set_self h3, ?_, apart_put h5 k b⟩ (fun k hk => .inl hk))
    · simp [execOp, hf.ev hx, hf.ev hy, hf.ev hz, Instr.mapUpdate, run_underlying ht, MapKept.run_getObj_map h3, hf1, hc, Result.andThen, MapKept.run_setObj_map _ h3]
    · simp [mput, hm, h4, ent]
  | some q =>
    rw [hm] at hf1
    have hq := mfi_some (j := q.1) (x := q.2) hm
    have hlen : es.toList.length = m.length := by have := congrArg List.length h4; simpa using this
    have hql : q.1 < es.size := by have := (List.getElem?_eq_some_iff.1 hq).1; simpa [← hlen] using this
    have hkey : es[q.1].key = .int .i64 k := by
      have h6 : (es.toList.map (fun e => (e.key, e.val)))[q.1]? = (m.map (ent enc))[q.1]? := by rw [h4]
      rw [List.getElem?_map, List.getElem?_map, hq, List.getElem?_eq_getElem (by simpa using hql)] at h6
      have := Option.some.inj h6
      exact (Prod.mk.inj this).1
    refine st_run0 (w' := { w with heap := w.heap.setIfInBounds b0 (.map (es.modify q.1 fun e => { e with key := .int .i64 k, val := enc b }) cl) }) hf hw rfl ?_ fun a' hf' => h a' _ hf' (K _ _ fp (chg_set b0 _ ((h2 b0).2 rfl)) ⟨b0, rfl, h2, _, _, heap_set_self h3, ?_, apart_put h5 k b⟩ (fun k hk => .inl hk))
    · simp [execOp, hf.ev hx, hf.ev hy, hf.ev hz, Instr.mapUpdate, run_underlying ht, MapKept.run_getObj_map h3, hf1, hc, Result.andThen, MapKept.run_setObj_map _ h3, Array.getElem?_eq_getElem hql, hkey, stays]
    · simp only [mput, hm]
      apply List.ext_getElem?
      intro j
      have h6 : (es.toList.map (fun e => (e.key, e.val)))[j]? = (m.map (ent enc))[j]? := by rw [h4]
      rw [List.getElem?_map, List.getElem?_map] at h6 ⊢
      have hlm : q.1 < m.length := (List.getElem?_eq_some_iff.1 hq).1
      rw [Array.toList_modify, List.getElem?_modify]
      by_cases hj : q.1 = j
      · subst hj
        rw [List.getElem?_set_self (by omega), List.getElem?_eq_getElem (by simpa using hql)]
        simp [ent]
      · rw [List.getElem?_set_ne hj, ← h6]
        simp only [hj, if_false]
        cases es.toList[j]? <;> rfl

theorem st_mapDel (hf : Fr n a L) (ht : P.underlying t = some (.map kt e)) (hk : P.underlying kt = some (.int .i64))
    (hp : Hp S w0 w rs) (hi : rs[i]? = some (Res.map enc v m))
    (hw : Region.wanted ⟨none, .call ⟨.builtin .delete, #[x, y], #[t, kt]⟩, ty, pos, af, g⟩ (yielded ops a.tmps) = true)
    (hx : evL L x = some v) (hy : evL L y = some (.int .i64 k))
    (h : ∀ a' w', Fr n a' L → Hp S w0 w' (rs.set i (Res.map enc v (mdel m k))) → wpList P ops Q rest a' w') :
    wpList P ops Q (⟨none, .call ⟨.builtin .delete, #[x, y], #[t, kt]⟩, ty, pos, af, g⟩ :: rest) a w := by
  obtain ⟨fp, ⟨b0, rfl, h2, es, cl, h3, h4, h5⟩, _, K⟩ := hp.take hi
  have hf1 := run_findKey (k := k) hk h4 w
  have hc := run_check (k := k) hk es.isEmpty w
  unfold wpList
  rw [if_pos hw]
  refine .inl ?_
  cases hm : mfi m k with
  | none =>
    rw [hm] at hf1
    have hr : (execOp a.eval ⟨none, .call ⟨.builtin .delete, #[x, y], #[t, kt]⟩, ty, pos, af, g⟩).run P w = .ok (.value (.tuple #[])) { w with heap := w.heap.setIfInBounds b0 (.map es cl) } := by
      simp [execOp, resolve, invoke, builtin, hf.ev hx, hf.ev hy, Builtin.delete_, run_underlying ht, MapKept.run_getObj_map h3, hf1, hc, Result.andThen, MapKept.run_setObj_map _ h3]
    unfold Oper.wp
    rw [hr, Oper.upon_value]
    exact h _ _ hf (K _ _ fp (chg_set b0 _ ((h2 b0).2 rfl)) ⟨b0, rfl, h2, _, _, heap_set_self h3, by rw [mdel_none hm]; exact h4, apart_del h5 k⟩ (fun k hk => .inl hk))
  | some q =>
    rw [hm] at hf1
    have hr : (execOp a.eval ⟨none, .call ⟨.builtin .delete, #[x, y], #[t, kt]⟩, ty, pos, af, g⟩).run P w = .ok (.value (.tuple #[])) { w with heap := w.heap.setIfInBounds b0 (.map (es.eraseIdxIfInBounds q.1) cl) } := by
      simp [execOp, resolve, invoke, builtin, hf.ev hx, hf.ev hy, Builtin.delete_, run_underlying ht, MapKept.run_getObj_map h3, hf1, hc, Result.andThen, MapKept.run_setObj_map _ h3]
    unfold Oper.wp
    rw [hr, Oper.upon_value]
    refine h _ _ hf (K _ _ fp (chg_set b0 _ ((h2 b0).2 rfl)) ⟨b0, rfl, h2, _, _, heap_set_self h3, ?_, apart_del h5 k⟩ (fun k hk => .inl hk))
    rw [mdel_some h5 (j := q.1) (x := q.2) hm]
    have : (es.eraseIdxIfInBounds q.1).toList = es.toList.eraseIdx q.1 := by simp
    rw [this, ← erase_map, h4, erase_map]
end ops
end GL
namespace GL
open Go
section
variable {β : Type} {K : RowK β} {S : Nat → Prop} {w w' w0 : World} {v u : Value} {vs : List Value} {os : List (Option β)} {rs : List Res} {P : Program} {Ts : TypeId}
  {n : Nat} {a : Act} {L : List (Nat × Value)} {ops : Array Oper} {Q : Exit → Act → World → Prop}
  {rest : List Oper} {d : Nat} {ty : TypeId} {pos : String} {af : Array Edge} {g : Option (Nat × Bool)} {x y : Operand} {e : TypeId} {p : Int} {bytes m : Nat}
/-- a row's slice is stored; who owns what it leads to stays open -/
theorem st_storeH {nv : Value} (hf : Fr n a L) (he : ElT P Ek.val e bytes nv) (hp : Hp S w0 w (Res.rowsH K e v vs os :: rs)) (hsh : Shape u m)
    (hw : Region.wanted ⟨none, .store e x y, ty, pos, af, g⟩ (yielded ops a.tmps) = true)
    (hx : evL L x = some (eptr v p 1)) (hy : evL L y = some u) (h0 : 0 ≤ p) (h1 : p < (os.length : Int))
    (h : ∀ a' w', Fr n a' L → Hp S w0 w' (Res.rowsH K e v (vs.set p.toNat u) (os.set p.toNat none) :: rs) → wpList P ops Q rest a' w') :
    wpList P ops Q (⟨none, .store e x y, ty, pos, af, g⟩ :: rest) a w := by
  have hk : p.toNat < os.length := by omega
  obtain ⟨hl, hp2⟩ := (hp.rowsDrop hk).rowsOpen
  have hl' : vs.length = os.length := by simpa using hl
  have hn : (os.set p.toNat none)[p.toNat]? = some none := List.getElem?_set_self hk
  letI : Inhabited Value := ⟨undef⟩
  refine st_store (E := Ek.val) (u := u) (x' := u) hf he hp2 (i := 0) rfl hw hx hy ?_ h0 (by omega) fun a' w' hf' hp3 => h a' w' hf' ?_
  · obtain ⟨A, cap, rfl⟩ := hsh; exact ⟨rfl, rfl⟩
  · simp only [List.set_cons_zero] at hp3
    refine Hp.rowsClose (by simp [hl']) ?_
    rw [zip_none hn u]
    exact hp3
theorem Hp.rowsFill {k : Int} {y : β} {X : List β} (h0 : 0 ≤ k) (h1 : k < (X.length : Int))
    (hp : Hp S w0 w (K.R u y :: Res.rowsH K Ts v (vs.set k.toNat u) ((X.map some).set k.toNat none) :: rs)) : Hp S w0 w (Res.rows K Ts v (vs.set k.toNat u) (X.set k.toNat y) :: rs) := by
  have hs := Hp.perm (List.Perm.swap _ _ _) hp
  obtain ⟨hl, _⟩ := hs.rowsOpen
  have hl2 : vs.length = X.length := by simpa using hl
  have := rows_put (k := k.toNat) (y := y) hl (by rw [List.getElem?_set_self (by simp; omega)]) (List.getElem?_set_self (by omega)) hs
  have e : ((X.map some).set k.toNat none).set k.toNat (some y) = (X.set k.toNat y).map some := by rw [List.set_set, List.map_set]
  rw [e] at this
  exact this
end
end GL
