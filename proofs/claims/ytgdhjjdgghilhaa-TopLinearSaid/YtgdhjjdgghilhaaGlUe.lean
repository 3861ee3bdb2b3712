/- Own library, part Ue: maps from strings, whose entries are known. -/
import Derived.Test.YtgdhjjdgghilhaaGlUd
import Derived.Test.YtgdhjjdgghilhaaGlX
set_option linter.unusedVariables false
set_option linter.unusedSimpArgs false
namespace GL
open Go

variable {S S' : Nat → Prop} {w w' w0 : World} {v u : Value} {T T' : TypeId} {rs rs' : List Res} {P : Program}

abbrev SM := List (ByteArray × Value)
def sfi : SM → ByteArray → Option (Nat × Value)
  | [], _ => none
  | p :: m, k => if k == p.1 then some (0, p.2) else (sfi m k).map fun q => (q.1 + 1, q.2)
def sent (p : ByteArray × Value) : Value × Value := (.string p.1, p.2)
variable {m : SM}
def Res.sm (v : Value) (m : SM) : Res where
  own := fun fp w => ∃ g, v = .map (some g) ∧ (∀ k, fp k ↔ k = g) ∧ ∃ es clock, w.heap[g]? = some (.map es clock) ∧ es.toList.map (fun e => (e.key, e.val)) = m.map sent
  loc := by
    rintro fp w w' ⟨g, h1, h2, es, cl, h3, h4⟩ hk
    exact ⟨g, h1, h2, es, cl, (hk g ((h2 g).2 rfl)).trans h3, h4⟩
  bd := by
    rintro fp w k ⟨g, h1, h2, es, cl, h3, h4⟩ hk
    rw [(h2 k).1 hk]; exact (Array.getElem?_eq_some_iff.1 h3).1
theorem findNowS (k : ByteArray) : ∀ (l : List MapEntry) (m : SM) (i : Nat), l.map (fun e => (e.key, e.val)) = m.map sent →
    Instr.findNow .string (.string k) l i = some ((sfi m k).map fun q => (i + q.1, q.2))
  | [], [], i, _ => rfl
  | [], _ :: _, _, h => by simp at h
  | _ :: _, [], _, h => by simp at h
  | e :: l, p :: m, i, h => by
    simp only [List.map_cons, List.cons.injEq] at h
    obtain ⟨h1, h2⟩ := h
    obtain ⟨hk, hv⟩ := Prod.mk.inj h1
    have ih := findNowS k l m (i + 1) h2
    unfold Instr.findNow sfi
    have hk : e.key = .string p.1 := hk
    have hv : e.val = p.2 := hv
    rw [hk, show Instr.sameNow .string (.string k) (.string p.1) = some (k == p.1) by simp [Instr.sameNow]]
    by_cases hc : (k == p.1) = true
    · rw [hc]; simp [hv]
    · simp only [Bool.not_eq_true] at hc
      rw [hc]
      simp only [Bool.false_eq_true, if_false]
      rw [ih]
      cases sfi m k with
      | none => rfl
      | some q => simp only [Option.map_some, show i + 1 + q.1 = i + (q.1 + 1) by omega]

section ops
variable {n : Nat} {a : Act} {L : List (Nat × Value)} {ops : Array Oper} {Q : Exit → Act → World → Prop}
  {rest : List Oper} {d : Nat} {ty : TypeId} {pos : String} {af : Array Edge} {g : Option (Nat × Bool)} {x y z : Operand} {t kt e : TypeId} {k : ByteArray} {i j : Nat}
theorem run_findKeyS (hk : P.underlying kt = some .string) {l : List MapEntry} (h : l.map (fun e => (e.key, e.val)) = m.map sent) (w : World) :
    (Instr.findKey kt (.string k) l).run P w = .ok (sfi m k) w := by
  have := findNowS k l m 0 h
  have e : ((sfi m k).map fun q => (0 + q.1, q.2)) = sfi m k := by cases sfi m k <;> simp
  rw [e] at this
  simp [Instr.findKey, run_underlying hk, this, Result.andThen]
theorem run_checkS (hk : P.underlying kt = some .string) (b : Bool) (w : World) : (Instr.checkKey b 10000 kt (.string k)).run P w = .ok () w :=
  MapKept.run_checkKey (n := 9999) hk (by simp [MapKept.IsKey]) b
theorem st_makeMapS (hf : Fr n a L) (hd : d < n) (hp : Hp S w0 w rs)
    (hw : Region.wanted ⟨some d, .makeMap t none, ty, pos, af, g⟩ (yielded ops a.tmps) = true)
    (h : ∀ a' w' b', Fr n a' ((d, .map (some b')) :: L) → Hp S w0 w' (Res.sm (.map (some b')) [] :: rs) → wpList P ops Q rest a' w') :
    wpList P ops Q (⟨some d, .makeMap t none, ty, pos, af, g⟩ :: rest) a w := by
  refine st_run hf hw rfl hd (v := .map (some w.heap.size)) (w' := w.alloc (.map #[] 0)) ?_
    fun a' _ hf' => h a' _ _ hf' (hp.push (Same.alloc w _) (fp := fun k => k = w.heap.size) ⟨_, rfl, fun _ => Iff.rfl, #[], 0, heap_alloc_new w _, by simp⟩ (fun k hk => by omega))
  simp [execOp, Instr.makeMap, newObj, Sem.run, pure, bind, Sem.bind]
theorem st_insertS (hf : Fr n a L) (ht : P.underlying t = some (.map kt e)) (hk : P.underlying kt = some .string)
    (hp : Hp S w0 w rs) (hi : rs[i]? = some (Res.sm v m)) (hm : sfi m k = none)
    (hw : Region.wanted ⟨none, .insert t x y z, ty, pos, af, g⟩ (yielded ops a.tmps) = true)
    (hx : evL L x = some v) (hy : evL L y = some (.string k)) (hz : evL L z = some u)
    (h : ∀ a' w', Fr n a' L → Hp S w0 w' (rs.set i (Res.sm v (m ++ [(k, u)]))) → wpList P ops Q rest a' w') :
    wpList P ops Q (⟨none, .insert t x y z, ty, pos, af, g⟩ :: rest) a w := by
  obtain ⟨fp, ⟨b0, rfl, h2, es, cl, h3, h4⟩, _, K⟩ := hp.take hi
  have hf1 := run_findKeyS (k := k) hk h4 w
  have hc := run_checkS (k := k) hk false w
  rw [hm] at hf1
  refine st_run0 (w' := { w with heap := w.heap.setIfInBounds b0 (.map (es.push { key := .string k, val := u, born := cl }) (cl + 1)) }) hf hw rfl ?_ fun a' hf' => h a' _ hf' (K _ _ fp (chg_set b0 _ ((h2 b0).2 rfl)) ⟨b0, rfl, h2, _, _, heap_set_self h3, ?_⟩ (fun k hk => .inl hk))
  · simp [execOp, hf.ev hx, hf.ev hy, hf.ev hz, Instr.mapUpdate, run_underlying ht, MapKept.run_getObj_map h3, hf1, hc, Result.andThen, MapKept.run_setObj_map _ h3]
  · simp [h4, sent]
theorem st_lookupS (hf : Fr n a L) (hd : d < n) (ht : P.underlying t = some (.map kt e)) (hk : P.underlying kt = some .string)
    (hp : Hp S w0 w rs) (hi : rs[i]? = some (Res.sm v m)) (hm : sfi m k = some (j, u))
    (hw : Region.wanted ⟨some d, .lookup t x y true, ty, pos, af, g⟩ (yielded ops a.tmps) = true)
    (hx : evL L x = some v) (hy : evL L y = some (.string k))
    (h : ∀ a', a' = a.put (some d) (.tuple #[u, .bool true]) → Fr n a' ((d, .tuple #[u, .bool true]) :: L) → wpList P ops Q rest a' w) :
    wpList P ops Q (⟨some d, .lookup t x y true, ty, pos, af, g⟩ :: rest) a w := by
  obtain ⟨fp, ⟨b0, rfl, h2, es, cl, h3, h4⟩, _⟩ := hp.take hi
  refine st_run hf hw rfl hd (w' := w) ?_ h
  have hf1 := run_findKeyS (k := k) hk h4 w
  have hc := run_checkS (k := k) hk es.isEmpty w
  rw [hm] at hf1
  simp [execOp, hf.ev hx, hf.ev hy, Instr.lookup, run_underlying ht, MapKept.run_getObj_map h3, hf1, hc, Result.andThen]
/-- a slice that holds something is not nil -/
theorem run_slnil {α : Type} {E : Ek α} {xs : List α} (hs : Sl E w v xs) (h0 : 0 < xs.length) (ht : P.underlying t = some (.slice e)) : (Op.equal t v (.slice none 0 0)).run P w = .ok false w := by
  obtain ⟨A, cap, rfl, _, _, h4⟩ := hs
  obtain ⟨b, o, cs, rfl, _⟩ := h4 h0
  have key : ∀ d : Nat, (Op.equalIn (d + 1) t (.slice (some ⟨b, o, none⟩) xs.length cap) (.slice none 0 0)).run P w = .ok false w := by
    intro d
    simp [Op.equalIn, run_underlying ht]
  exact key 9999
theorem st_slnilE {α : Type} {E : Ek α} {xs : List α} {t' : TypeId} (hf : Fr n a L) (hd : d < n) (ht : P.underlying t = some (.slice e))
    (hw : Region.wanted ⟨some d, .binOp .eql t x y t', ty, pos, af, g⟩ (yielded ops a.tmps) = true)
    (hx : evL L x = some v) (hy : evL L y = some (.slice none 0 0)) (hs : Sl E w v xs) (h0 : 0 < xs.length)
    (h : ∀ a', a' = a.put (some d) (.bool false) → Fr n a' ((d, .bool false) :: L) → wpList P ops Q rest a' w) :
    wpList P ops Q (⟨some d, .binOp .eql t x y t', ty, pos, af, g⟩ :: rest) a w := by
  have hr := run_slnil (P := P) hs h0 ht
  obtain ⟨A, cap, rfl, _⟩ := hs
  refine st_run hf hw rfl hd (execBin .eql _ _ (.inr trivial) (hf.ev hx) (hf.ev hy) ?_) h
  simp only [binOp]
  simp [hr]
end ops
end GL
namespace GL
open Go Go.Lib
variable {α : Type} {E : Ek α} {S S' : Nat → Prop} {w w' w0 : World} {v : Value} {xs ys sp : List α} {T : TypeId} {rs : List Res} {P : Program}
  {n : Nat} {a : Act} {L : List (Nat × Value)} {ops : Array Oper} {Q : Exit → Act → World → Prop}
  {rest : List Oper} {d : Nat} {ty : TypeId} {pos : String} {af : Array Edge} {g : Option (Nat × Bool)}
  {t t' e : TypeId} {x y : Operand} {bytes : Nat} {z0 : α} {i lo : Nat}
/-- what is left of 'xs' when 'ys' is copied over it from a place on -/
def cpy (xs : List α) (lo : Nat) (ys : List α) : List α := xs.take lo ++ ys.take (xs.length - lo) ++ xs.drop (lo + min ys.length (xs.length - lo))
theorem cpy_len (h : lo ≤ xs.length) : (cpy xs lo ys).length = xs.length := by
  simp only [cpy, List.length_append, List.length_take, List.length_drop]; omega
/-- One slice is copied over a part of another one, or over a part of itself. -/
theorem st_copyCut {vy : Value} (hn1 : E.n = 1) (hf : Fr n a L) (hd : d < n) (hE : ElT P E e bytes z0) (ht : P.underlying t = some (.slice e))
    (hp : Hp S w0 w rs) (hi' : rs[i]? = some (Res.slx E T v xs sp)) (hs : Sl E w vy ys) (hlo : lo ≤ xs.length)
    (hw : Region.wanted ⟨some d, .call ⟨.builtin .copy, #[x, y], #[t, t']⟩, ty, pos, af, g⟩ (yielded ops a.tmps) = true)
    (hx : evL L x = some (GL.cut v lo xs.length 1)) (hy : evL L y = some vy)
    (h : ∀ a' w', Fr n a' ((d, .int .i64 ((min ys.length (xs.length - lo) : Nat) : Int)) :: L) → Hp S w0 w' (rs.set i (Res.slx E T v (cpy xs lo ys) sp)) → wpList P ops Q rest a' w') :
    wpList P ops Q (⟨some d, .call ⟨.builtin .copy, #[x, y], #[t, t']⟩, ty, pos, af, g⟩ :: rest) a w := by
  obtain ⟨inf, zz, i1, i2, i3, i4, i5⟩ := hE.out
  have hsz : (P.info? e).map (·.size) = some 1 := by simp [i1, i3, hn1]
  by_cases h0 : min ys.length (xs.length - lo) = 0
  · have hb : cpy xs lo ys = xs := by
      unfold cpy
      rw [h0, Nat.add_zero]
      have : ys.take (xs.length - lo) = [] := by
        apply List.eq_nil_of_length_eq_zero
        rw [List.length_take]; omega
      rw [this, List.append_nil, List.take_append_drop]
    rw [hb, h0] at h
    obtain ⟨A, cap, rfl, _⟩ := hp.shape hi'
    obtain ⟨B, cap', rfl, _⟩ := hs.shape
    have hr := run_copy_none (P := P) w t t' ty e (if cap = lo then A else A.map (·.add (lo * 1))) B (xs.length - lo) (cap - lo) ys.length cap' ht hsz h0
    have hset : rs.set i (Res.slx E T (.slice A xs.length cap) xs sp) = rs := by
      apply List.ext_getElem?
      intro j
      by_cases hj : i = j
      · subst hj
        rw [List.getElem?_set_self (List.getElem?_eq_some_iff.1 hi').1, hi']
      · rw [List.getElem?_set_ne hj]
    rw [hset] at h
    simp only [GL.cut] at hx
    refine st_run (v := .int .i64 0) (w' := w) hf hw rfl hd ?_ fun a' _ hf' => h a' w hf' hp
    simp at hr
    simp [execOp, resolve, invoke, builtin, hf.ev hx, hf.ev hy, Result.andThen, hr, goInt]
  · obtain ⟨fp, ho, _, K⟩ := hp.take hi'
    rcases ho with ⟨_, rfl, _⟩ | ⟨b, o', cap, cur, rfl, h2, h3, h4, h5, h6, h7⟩
    · simp at h0
    obtain ⟨B, cap', rfl, k1, k2, k3⟩ := hs
    obtain ⟨b2, o2, cs, rfl, _, e3, e4⟩ := k3 (by omega)
    simp only [List.length_append] at h4
    rw [hn1, Nat.mul_one] at h6
    obtain ⟨m, hm⟩ : ∃ m, m = min ys.length (xs.length - lo) := ⟨_, rfl⟩
    have hcl : cs.length = ys.length := by rw [e3.1, hn1, Nat.mul_one]
    have e3' := reps_sub e3 0 m (by omega)
    rw [hn1, Nat.mul_one, Nat.zero_mul, List.drop_zero, List.drop_zero] at e3'
    have hcl' : (cs.take m).length = m := by rw [List.length_take]; omega
    have hne : cap ≠ lo := by omega
    have hr := run_copy_row (P := P) w t t' ty e b (o' + lo * 1) (xs.length - lo) (cap - lo) ⟨b2, o2, none⟩ ys.length cap' cur T (cs.take m) ht hsz h3 (by rw [hcl', hm]) (fun j u hj => by
      have hjm : j < m := by have := (List.getElem?_eq_some_iff.1 hj).1; omega
      have := e4 j (by omega)
      rw [List.getElem?_take_of_lt hjm] at hj
      rw [hj] at this
      rw [Addr.add_lit]; exact this) (by omega) (ones_of_reps e3')
    rw [Nat.mul_one] at hr
    have hxl : (cpy xs lo ys).length = xs.length := cpy_len hlo
    refine st_run (v := .int .i64 ((min ys.length (xs.length - lo) : Nat) : Int)) (w' := w.setRow b (cur.toList.take (o' + lo) ++ cs.take m ++ cur.toList.drop (o' + lo + (cs.take m).length)).toArray) hf hw rfl hd ?_
      fun a' _ hf' => h a' _ hf' (K _ _ fp (chg_setRow w b _ ((h2 b).2 rfl)) ?_ (fun k hk => .inl hk))
    · simp only [GL.cut, hne, if_false, Option.map_some, Addr.add_lit, Nat.mul_one] at hx
      simp [execOp, resolve, invoke, builtin, hf.ev hx, hf.ev hy, Result.andThen]
      simp at hr
      simp [hr, goInt, Result.andThen]
      omega
    · refine .inr ⟨b, o', cap, _, by rw [hxl], h2, setRow_heap w b cur _ T _ h3, by rw [List.length_append, hxl]; omega, h5, ?_, ?_⟩
      · simp only [List.size_toArray, List.length_append, List.length_take, List.length_drop, Array.length_toList, hn1, Nat.mul_one]
        omega
      · have h8 := reps_append (reps_append (reps_sub h7 0 lo (by simp; omega)) e3') (reps_sub h7 (lo + m) (xs.length + sp.length - (lo + m)) (by simp; omega))
        simp only [hn1, Nat.mul_one, List.drop_zero, Nat.zero_mul, List.length_append] at h8 ⊢
        have hcur : xs.length + sp.length ≤ (cur.toList.drop o').length := by simp only [List.length_drop, Array.length_toList]; omega
        have hc := splice_take (cur.toList.drop o') (cs.take m) lo (xs.length + sp.length) m (by omega) hcur hcl'
        rw [hxl, List.toList_toArray, hcl', splice_drop _ _ _ _ _ (by simp only [Array.length_toList]; omega), ← hc]
        rw [List.take_of_length_le (l := List.drop (lo + m) (List.take (xs.length + sp.length) (cur.toList.drop o'))) (by simp; omega)] at h8
        rw [List.take_of_length_le (l := List.drop (lo + m) (xs ++ sp)) (by simp), List.take_append_of_le_length (by omega), List.drop_append_of_le_length (by omega)] at h8
        have e9 : cpy xs lo ys ++ sp = xs.take lo ++ ys.take m ++ (xs.drop (lo + m) ++ sp) := by
          unfold cpy
          rw [← hm]
          have : ys.take (xs.length - lo) = ys.take m := by
            by_cases hle : ys.length ≤ xs.length - lo
            · rw [hm, Nat.min_eq_left hle, List.take_of_length_le hle, List.take_length]
            · rw [hm, Nat.min_eq_right (by omega)]
          rw [this]; simp only [List.append_assoc]
        rw [e9]
        exact h8
end GL
namespace GL
open Go
variable {α : Type} {E : Ek α} {S S' : Nat → Prop} {w w' w0 : World} {v : Value} {xs ys sp : List α} {T : TypeId} {rs : List Res} {P : Program}
  {n : Nat} {a : Act} {L : List (Nat × Value)} {ops : Array Oper} {Q : Exit → Act → World → Prop}
  {rest : List Oper} {d : Nat} {ty : TypeId} {pos : String} {af : Array Edge} {g : Option (Nat × Bool)}
  {t t' e : TypeId} {x y : Operand} {bytes : Nat} {z0 x9 : α} {i lo : Nat} {u : Value}
/-- a pointer that leads somewhere is not nil -/
theorem st_enilE (hf : Fr n a L) (hd : d < n) (ht : P.underlying t = some (.pointer e))
    (hw : Region.wanted ⟨some d, .binOp .eql t x y t', ty, pos, af, g⟩ (yielded ops a.tmps) = true)
    (hx : evL L x = some u) (hy : evL L y = some (.pointer none)) (hs : IsP u)
    (h : ∀ a', a' = a.put (some d) (.bool false) → Fr n a' ((d, .bool false) :: L) → wpList P ops Q rest a' w) :
    wpList P ops Q (⟨some d, .binOp .eql t x y t', ty, pos, af, g⟩ :: rest) a w := by
  obtain ⟨b, o, rfl⟩ := hs
  have key : ∀ d : Nat, (Op.equalIn (d + 1) t (.pointer (some ⟨b, o, none⟩)) (.pointer none)).run P w = .ok false w := by
    intro d
    simp [Op.equalIn, run_underlying ht]
  have hr : (Op.equal t (.pointer (some ⟨b, o, none⟩)) (.pointer none)).run P w = .ok false w := key 9999
  refine st_run hf hw rfl hd (execBin .eql _ _ (.inr trivial) (hf.ev hx) (hf.ev hy) ?_) h
  simp only [binOp]
  simp [hr]
theorem eptr_aslv {b m : Nat} : eptr (aslv (.pointer (some ⟨b, 0, none⟩)) 1) (0 : Int) m = .pointer (some ⟨b, 0, none⟩) := by
  simp [aslv, eptr, Addr.add_lit]
/-- A flat struct behind a new pointer: a slice of one element. -/
theorem st_boxBig {cs : List Value} (hf : Fr n a L) (hd : d < n) (hp : Hp S w0 w rs)
    (hw : Region.wanted ⟨some d, .box T x, ty, pos, af, g⟩ (yielded ops a.tmps) = true)
    (hx : evL L x = some (.agg cs.toArray)) (hr : E.rep cs x9)
    (h : ∀ a' w' v', Fr n a' ((d, eptr (aslv v' 1) (0 : Int) E.n) :: L) → Hp S w0 w' (Res.sl E T (aslv v' 1) [x9] :: rs) → wpList P ops Q rest a' w') :
    wpList P ops Q (⟨some d, .box T x, ty, pos, af, g⟩ :: rest) a w := by
  have hl := E.len _ _ hr
  have hpos := E.pos
  refine st_run hf hw rfl hd (v := .pointer (some ⟨w.heap.size, 0, none⟩)) (w' := w.alloc (.cells cs.toArray T)) ?_
    fun a' _ hf' => h a' _ (.pointer (some ⟨w.heap.size, 0, none⟩)) (by rw [eptr_aslv]; exact hf') (hp.push (Same.alloc w _) (fp := fun k => k = w.heap.size) ?_ (fun k hk => by omega))
  · simp [execOp, hf.ev hx, Instr.box, newVar, newRow, Result.andThen]
    first | rfl | done
  · refine .inr ⟨w.heap.size, 0, 1, cs.toArray, rfl, fun _ => Iff.rfl, heap_alloc_new w _, by simp, by simp [maxLen], by simp [hl], ?_⟩
    have e1 : ((cs.toArray.toList.drop 0).take (([x9] ++ []).length * E.n)) = cs := by
      simp [← hl]
    rw [e1]
    have := reps_cons (E := E) hr (reps_nil E)
    simpa using this
end GL
namespace GL
open Go
/-- the less or the greater of two floats, neither a NaN: what the machine's own function picks -/
noncomputable def fpickS (neg : Bool) (win : Ordering) : Fl → Fl → Option Fl
  | .bits x, .bits y =>
    if (FloatKind.f64.decode x).isNaN || (FloatKind.f64.decode y).isNaN then none else
    some (.bits (if FloatKind.f64.decode x == .infinity neg || FloatKind.f64.decode y == .infinity neg then FloatKind.f64.encode (.infinity neg)
      else if (FloatKind.f64.decode x).isZero && (FloatKind.f64.decode y).isZero then (if (FloatKind.f64.decode x).neg == neg then x else y)
      else if (FloatKind.f64.decode x).order (FloatKind.f64.decode y) == some win then x else y))
  | _, _ => none
theorem fpickS_rep {neg : Bool} {win : Ordering} {x y q : Fl} (h : fpickS neg win x y = some q) : q.rep (flb q) := by
  unfold fpickS at h
  split at h
  · split at h
    · cases h
    · obtain rfl := Option.some.inj h; rfl
  · cases h
theorem run_fpickS {neg : Bool} {win : Ordering} {b c : Nat} {fx fy q : Fl} {nm : String} (h1 : fx.rep b) (h2 : fy.rep c) (hq : fpickS neg win fx fy = some q) (P : Program) (w : World) :
    (Extern.MathDim.pick nm neg win #[.float .f64 b, .float .f64 c]).run P w = .ok (.float .f64 (flb q)) w := by
  cases fx with
  | nan => simp [fpickS] at hq
  | bits b' =>
    cases fy with
    | nan => simp [fpickS] at hq
    | bits c' =>
      obtain rfl : b = b' := h1
      obtain rfl : c = c' := h2
      unfold fpickS at hq
      dsimp only at hq
      split at hq
      · cases hq
      · rename_i hn
        obtain rfl := Option.some.inj hq
        have hn' : ((FloatKind.f64.decode b).isNaN || (FloatKind.f64.decode c).isNaN) = false := by simpa using hn
        show (pure _ : Sem Value).run P w = _
        simp only [hn', flb, Bool.false_eq_true, if_false]
        rfl
/-- a call with other words for what it is given -/
theorem callsEq {P : Program} {f : FuncId} {args args' : Array Value} {w : World} {Q : Ending → World → Prop} (h : args' = args) (c : Calls P f args w Q) : Calls P f args' w Q := h ▸ c
end GL
namespace GL
open Go
/-- a map whose values are kept as they are -/
abbrev kid : Value → Value := fun v => v
end GL
namespace GL
open Go
variable {S : Nat → Prop} {w w0 : World} {v : Value} {rs : List Res} {P : Program}
  {n : Nat} {a : Act} {L : List (Nat × Value)} {ops : Array Oper} {Q : Exit → Act → World → Prop}
  {rest : List Oper} {d : Nat} {ty : TypeId} {pos : String} {af : Array Edge} {g : Option (Nat × Bool)}
  {t kt e : TypeId} {x y z : Operand} {i : Nat} {k : Int} {m : List (Int × Value)} {b : Value}
/-- a new entry of a map that is being made -/
theorem st_mapIns (hf : Fr n a L) (ht : P.underlying t = some (.map kt e)) (hk : P.underlying kt = some (.int .i64))
    (hp : Hp S w0 w rs) (hi : rs[i]? = some (Res.map kid v m)) (hm : mfi m k = none)
    (hw : Region.wanted ⟨none, .insert t x y z, ty, pos, af, g⟩ (yielded ops a.tmps) = true)
    (hx : evL L x = some v) (hy : evL L y = some (.int .i64 k)) (hz : evL L z = some b)
    (h : ∀ a' w', Fr n a' L → Hp S w0 w' (rs.set i (Res.map kid v (mput m k b))) → wpList P ops Q rest a' w') :
    wpList P ops Q (⟨none, .insert t x y z, ty, pos, af, g⟩ :: rest) a w := by
  obtain ⟨fp, ⟨b0, rfl, h2, es, cl, h3, h4, h5⟩, _, K⟩ := hp.take hi
  have hf1 := run_findKey (k := k) hk h4 w
  have hc := run_check (k := k) hk false w
  rw [hm] at hf1
  refine st_run0 (w' := { w with heap := w.heap.setIfInBounds b0 (.map (es.push { key := .int .i64 k, val := b, born := cl }) (cl + 1)) }) hf hw rfl ?_ fun a' hf' => h a' _ hf' (K _ _ fp (chg_set b0 _ ((h2 b0).2 rfl)) ⟨b0, rfl, h2, _, _, heap_set_self h3, ?_, apart_put h5 k b⟩ (fun k hk => .inl hk))
  · simp [execOp, hf.ev hx, hf.ev hy, hf.ev hz, Instr.mapUpdate, run_underlying ht, MapKept.run_getObj_map h3, hf1, hc, Result.andThen, MapKept.run_setObj_map _ h3]
  · simp [mput, hm, h4, ent, kid]
end GL
namespace GL
open Go
variable {w : World} {P : Program}
  {n : Nat} {a : Act} {L : List (Nat × Value)} {ops : Array Oper} {Q : Exit → Act → World → Prop}
  {rest : List Oper} {d : Nat} {ty : TypeId} {pos : String} {af : Array Edge} {g : Option (Nat × Bool)}
  {s e : TypeId} {x : Operand} {f off : Nat} {cs : Array Value} {b : Value}
def fieldE (P : Program) (s : TypeId) (f : Nat) : Option (Nat × TypeId) :=
  match P.underlying s with
  | some (.struct fs) => (fs[f]?).map fun fl => (fl.offset, fl.type)
  | _ => none
/-- a field of a struct that no variable holds -/
theorem st_fieldE (hf : Fr n a L) (hd : d < n) (hs : fieldE P s f = some (off, e)) (he : Plain P e)
    (hw : Region.wanted ⟨some d, .field s x f, ty, pos, af, g⟩ (yielded ops a.tmps) = true)
    (hx : evL L x = some (.agg cs)) (hc : cs[off]? = some b)
    (h : ∀ a', a' = a.put (some d) b → Fr n a' ((d, b) :: L) → wpList P ops Q rest a' w) :
    wpList P ops Q (⟨some d, .field s x f, ty, pos, af, g⟩ :: rest) a w := by
  unfold fieldE at hs
  split at hs
  · rename_i fs hu
    obtain ⟨fl, h1, h2⟩ := Option.map_eq_some_iff.1 hs
    simp only [Prod.mk.injEq] at h2
    obtain ⟨rfl, rfl⟩ := h2
    have ha := he.run w
    refine st_run hf hw rfl hd (w' := w) ?_ h
    simp [execOp, hf.ev hx, Instr.field, run_underlying hu, h1, asAgg, Result.andThen, part, ha, hc]
  · cases hs
end GL
namespace GL
theorem hsetN {α : Type} {xs q : List α} {k : Nat} {y : α} {p : Int} (e : xs.set k y = q) (h : 0 ≤ p ∧ p < (xs.length : Int)) : 0 ≤ p ∧ p < (q.length : Int) := by
  subst e; simpa using h
end GL
