/- Own library, part Ue: maps from strings, whose entries are known. -/
import Derived.Test.YtgdhjjdgghilhaaGreatGlUd
import Derived.Test.YtgdhjjdgghilhaaGreatGlX
set_option linter.unusedVariables false
set_option linter.unusedSimpArgs false
namespace GL
open Go

variable {S S' : Nat → Prop} {w w' w0 : World} {v u : Value} {T T' : TypeId} {rs rs' : List Res} {P : Program}

abbrev SM := List (ByteArray × Value)
def sent (p : ByteArray × Value) : Value × Value := (.string p.1, p.2)
variable {m : SM}
def Res.sm (v : Value) (m : SM) : Res where
  own := fun fp w => ∃ g, v = .map (some g) ∧ (∀ k, fp k ↔ k = g) ∧ ∃ es clock, w.heap[g]? = some (.map es clock) ∧ es.toList.map (fun e => (e.key, e.val)) = m.map sent
  loc := by
    rintro fp w w' ⟨g, h1, h2, es, cl, h3, h4⟩ hk
    exact ⟨g, h1, h2, es, cl, (hk g ((h2 g).2 rfl)).trans h3, h4⟩
  bd := by
    rintro fp w k ⟨g, h1, h2, es, cl, h3, h4⟩ hk
    rw [(h2 k).1 hk]; exact (Array.getElem?_eq_some_iff.1 h3).1
section ops
variable {n : Nat} {a : Act} {L : List (Nat × Value)} {ops : Array Oper} {Q : Exit → Act → World → Prop}
  {rest : List Oper} {d : Nat} {ty : TypeId} {pos : String} {af : Array Edge} {g : Option (Nat × Bool)} {x y z : Operand} {t kt e : TypeId} {k : ByteArray} {i j : Nat}
theorem run_slnil {α : Type} {E : Ek α} {xs : List α} (hs : Sl E w v xs) (h0 : 0 < xs.length) (ht : P.underlying t = some (.slice e)) : (Op.equal t v (.slice none 0 0)).run P w = .ok false w := by
  obtain ⟨A, cap, rfl, _, _, h4⟩ := hs
  obtain ⟨b, o, cs, rfl, _⟩ := h4 h0
  have key : ∀ d : Nat, (Op.equalIn (d + 1) t (.slice (some ⟨b, o, none⟩) xs.length cap) (.slice none 0 0)).run P w = .ok false w := by
    intro d
    simp [Op.equalIn, run_underlying ht]
  exact key 9999
theorem st_slnilE {α : Type} {E : Ek α} {xs : List α} {t' : TypeId} (hf : Fr n a L) (hd : d < n) (ht : P.underlying t = some (.slice e))
    (hw : Region.wanted ⟨some d, .binOp .eql t x y t', ty, pos, af, g⟩ (yielded ops a.tmps) = true)
    (hx : evL L x = some v) (hy : evL L y = some (.slice none 0 0)) (hs : Sl E w v xs) (h0 : 0 < xs.length)
    (h : ∀ a', a' = a.put (some d) (.bool false) → Fr n a' ((d, .bool false) :: L) → wpList P ops Q rest a' w) :
    wpList P ops Q (⟨some d, .binOp .eql t x y t', ty, pos, af, g⟩ :: rest) a w := by
  have hr := run_slnil (P := P) hs h0 ht
  obtain ⟨A, cap, rfl, _⟩ := hs
  refine st_run hf hw rfl hd (execBin .eql _ _ (.inr trivial) (hf.ev hx) (hf.ev hy) ?_) h
  simp only [binOp]
  simp [hr]
end ops
end GL
namespace GL
open Go Go.Lib
variable {α : Type} {E : Ek α} {S S' : Nat → Prop} {w w' w0 : World} {v : Value} {xs ys sp : List α} {T : TypeId} {rs : List Res} {P : Program}
  {n : Nat} {a : Act} {L : List (Nat × Value)} {ops : Array Oper} {Q : Exit → Act → World → Prop}
  {rest : List Oper} {d : Nat} {ty : TypeId} {pos : String} {af : Array Edge} {g : Option (Nat × Bool)}
  {t t' e : TypeId} {x y : Operand} {bytes : Nat} {z0 : α} {i lo : Nat}
def cpy (xs : List α) (lo : Nat) (ys : List α) : List α := xs.take lo ++ ys.take (xs.length - lo) ++ xs.drop (lo + min ys.length (xs.length - lo))
theorem cpy_len (h : lo ≤ xs.length) : (cpy xs lo ys).length = xs.length := by
  simp only [cpy, List.length_append, List.length_take, List.length_drop]; omega
end GL
namespace GL
open Go
variable {α : Type} {E : Ek α} {S S' : Nat → Prop} {w w' w0 : World} {v : Value} {xs ys sp : List α} {T : TypeId} {rs : List Res} {P : Program}
  {n : Nat} {a : Act} {L : List (Nat × Value)} {ops : Array Oper} {Q : Exit → Act → World → Prop}
  {rest : List Oper} {d : Nat} {ty : TypeId} {pos : String} {af : Array Edge} {g : Option (Nat × Bool)}
  {t t' e : TypeId} {x y : Operand} {bytes : Nat} {z0 x9 : α} {i lo : Nat} {u : Value}
theorem st_enilE (hf : Fr n a L) (hd : d < n) (ht : P.underlying t = some (.pointer e))
    (hw : Region.wanted ⟨some d, .binOp .eql t x y t', ty, pos, af, g⟩ (yielded ops a.tmps) = true)
    (hx : evL L x = some u) (hy : evL L y = some (.pointer none)) (hs : IsP u)
    (h : ∀ a', a' = a.put (some d) (.bool false) → Fr n a' ((d, .bool false) :: L) → wpList P ops Q rest a' w) :
    wpList P ops Q (⟨some d, .binOp .eql t x y t', ty, pos, af, g⟩ :: rest) a w := by
  obtain ⟨b, o, rfl⟩ := hs
  have key : ∀ d : Nat, (Op.equalIn (d + 1) t (.pointer (some ⟨b, o, none⟩)) (.pointer none)).run P w = .ok false w := by
    intro d
    simp [Op.equalIn, run_underlying ht]
  have hr : (Op.equal t (.pointer (some ⟨b, o, none⟩)) (.pointer none)).run P w = .ok false w := key 9999
  refine st_run hf hw rfl hd (execBin .eql _ _ (.inr trivial) (hf.ev hx) (hf.ev hy) ?_) h
  simp only [binOp]
  simp [hr]
theorem eptr_aslv {b m : Nat} : eptr (aslv (.pointer (some ⟨b, 0, none⟩)) 1) (0 : Int) m = .pointer (some ⟨b, 0, none⟩) := by
  simp [aslv, eptr, Addr.add_lit]
theorem st_boxBig {cs : List Value} (hf : Fr n a L) (hd : d < n) (hp : Hp S w0 w rs)
    (hw : Region.wanted ⟨some d, .box T x, ty, pos, af, g⟩ (yielded ops a.tmps) = true)
    (hx : evL L x = some (.agg cs.toArray)) (hr : E.rep cs x9)
    (h : ∀ a' w' v', Fr n a' ((d, eptr (aslv v' 1) (0 : Int) E.n) :: L) → Hp S w0 w' (Res.sl E T (aslv v' 1) [x9] :: rs) → wpList P ops Q rest a' w') :
    wpList P ops Q (⟨some d, .box T x, ty, pos, af, g⟩ :: rest) a w := by
  have hl := E.len _ _ hr
  have hpos := E.pos
  refine st_run hf hw rfl hd (v := .pointer (some ⟨w.heap.size, 0, none⟩)) (w' := w.alloc (.cells cs.toArray T)) ?_
    fun a' _ hf' => h a' _ (.pointer (some ⟨w.heap.size, 0, none⟩)) (by rw [eptr_aslv]; exact hf') (hp.push (Same.alloc w _) (fp := fun k => k = w.heap.size) ?_ (fun k hk => by omega))
  · simp [execOp, hf.ev hx, Instr.box, newVar, newRow, Result.andThen]
    first | rfl | done
  · refine .inr ⟨w.heap.size, 0, 1, cs.toArray, rfl, fun _ => Iff.rfl, heap_alloc_new w _, by simp, by simp [maxLen], by simp [hl], ?_⟩
    have e1 : ((cs.toArray.toList.drop 0).take (([x9] ++ []).length * E.n)) = cs := by
      simp [← hl]
    rw [e1]
    have := reps_cons (E := E) hr (reps_nil E)
    simpa using this
end GL
namespace GL
open Go
noncomputable def fpickS (neg : Bool) (win : Ordering) : Fl → Fl → Option Fl
  | .bits x, .bits y =>
    if (FloatKind.f64.decode x).isNaN || (FloatKind.f64.decode y).isNaN then none else
    some (.bits (if FloatKind.f64.decode x == .infinity neg || FloatKind.f64.decode y == .infinity neg then FloatKind.f64.encode (.infinity neg)
      else if (FloatKind.f64.decode x).isZero && (FloatKind.f64.decode y).isZero then (if (FloatKind.f64.decode x).neg == neg then x else y)
      else if (FloatKind.f64.decode x).order (FloatKind.f64.decode y) == some win then x else y))
  | _, _ => none
theorem fpickS_rep {neg : Bool} {win : Ordering} {x y q : Fl} (h : fpickS neg win x y = some q) : q.rep (flb q) := by
  unfold fpickS at h
  split at h
  · split at h
    · cases h
    · obtain rfl := Option.some.inj h; rfl
  · cases h
theorem run_fpickS {neg : Bool} {win : Ordering} {b c : Nat} {fx fy q : Fl} {nm : String} (h1 : fx.rep b) (h2 : fy.rep c) (hq : fpickS neg win fx fy = some q) (P : Program) (w : World) :
    (Extern.MathDim.pick nm neg win #[.float .f64 b, .float .f64 c]).run P w = .ok (.float .f64 (flb q)) w := by
  cases fx with
  | nan => simp [fpickS] at hq
  | bits b' =>
    cases fy with
    | nan => simp [fpickS] at hq
    | bits c' =>
      obtain rfl : b = b' := h1
      obtain rfl : c = c' := h2
      unfold fpickS at hq
      dsimp only at hq
      split at hq
      · cases hq
      · rename_i hn
        obtain rfl := Option.some.inj hq
        have hn' : ((FloatKind.f64.decode b).isNaN || (FloatKind.f64.decode c).isNaN) = false := by simpa using hn
        show (pure _ : Sem Value).run P w = _
        simp only [hn', flb, Bool.false_eq_true, if_false]
        rfl
theorem callsEq {P : Program} {f : FuncId} {args args' : Array Value} {w : World} {Q : Ending → World → Prop} (h : args' = args) (c : Calls P f args w Q) : Calls P f args' w Q := h ▸ c
end GL
namespace GL
open Go
abbrev kid : Value → Value := fun v => v
end GL
namespace GL
open Go
variable {S : Nat → Prop} {w w0 : World} {v : Value} {rs : List Res} {P : Program}
  {n : Nat} {a : Act} {L : List (Nat × Value)} {ops : Array Oper} {Q : Exit → Act → World → Prop}
  {rest : List Oper} {d : Nat} {ty : TypeId} {pos : String} {af : Array Edge} {g : Option (Nat × Bool)}
  {t kt e : TypeId} {x y z : Operand} {i : Nat} {k : Int} {m : List (Int × Value)} {b : Value}
theorem st_mapIns (hf : Fr n a L) (ht : P.underlying t = some (.map kt e)) (hk : P.underlying kt = some (.int .i64))
    (hp : Hp S w0 w rs) (hi : rs[i]? = some (Res.map kid v m)) (hm : mfi m k = none)
    (hw : Region.wanted ⟨none, .insert t x y z, ty, pos, af, g⟩ (yielded ops a.tmps) = true)
    (hx : evL L x = some v) (hy : evL L y = some (.int .i64 k)) (hz : evL L z = some b)
    (h : ∀ a' w', Fr n a' L → Hp S w0 w' (rs.set i (Res.map kid v (mput m k b))) → wpList P ops Q rest a' w') :
    wpList P ops Q (⟨none, .insert t x y z, ty, pos, af, g⟩ :: rest) a w := by
  obtain ⟨fp, ⟨b0, rfl, h2, es, cl, h3, h4, h5⟩, _, K⟩ := hp.take hi
  have hf1 := run_findKey (k := k) hk h4 w
  have hc := run_check (k := k) hk false w
  rw [hm] at hf1
  refine st_run0 (w' := { w with heap := w.heap.setIfInBounds b0 (.map (es.push { key := .int .i64 k, val := b, born := cl }) (cl + 1)) }) hf hw rfl ?_ fun a' hf' => h a' _ hf' (K _ _ fp (chg_set b0 _ ((h2 b0).2 rfl)) ⟨b0, rfl, h2, _, _, heap_set_self h3, ?_, apart_put h5 k b⟩ (fun k hk => .inl hk))
  · simp [execOp, hf.ev hx, hf.ev hy, hf.ev hz, Instr.mapUpdate, run_underlying ht, MapKept.run_getObj_map h3, hf1, hc, Result.andThen, MapKept.run_setObj_map _ h3]
  · simp [mput, hm, h4, ent, kid]
end GL
namespace GL
open Go
variable {w : World} {P : Program}
  {n : Nat} {a : Act} {L : List (Nat × Value)} {ops : Array Oper} {Q : Exit → Act → World → Prop}
  {rest : List Oper} {d : Nat} {ty : TypeId} {pos : String} {af : Array Edge} {g : Option (Nat × Bool)}
  {s e : TypeId} {x : Operand} {f off : Nat} {cs : Array Value} {b : Value}
def fieldE (P : Program) (s : TypeId) (f : Nat) : Option (Nat × TypeId) :=
  match P.underlying s with
  | some (.struct fs) => (fs[f]?).map fun fl => (fl.offset, fl.type)
  | _ => none
theorem st_fieldE (hf : Fr n a L) (hd : d < n) (hs : fieldE P s f = some (off, e)) (he : Plain P e)
    (hw : Region.wanted ⟨some d, .field s x f, ty, pos, af, g⟩ (yielded ops a.tmps) = true)
    (hx : evL L x = some (.agg cs)) (hc : cs[off]? = some b)
    (h : ∀ a', a' = a.put (some d) b → Fr n a' ((d, b) :: L) → wpList P ops Q rest a' w) :
    wpList P ops Q (⟨some d, .field s x f, ty, pos, af, g⟩ :: rest) a w := by
  unfold fieldE at hs
  split at hs
  · rename_i fs hu
    obtain ⟨fl, h1, h2⟩ := Option.map_eq_some_iff.1 hs
    simp only [Prod.mk.injEq] at h2
    obtain ⟨rfl, rfl⟩ := h2
    have ha := he.run w
    refine st_run hf hw rfl hd (w' := w) ?_ h
    simp [execOp, hf.ev hx, Instr.field, run_underlying hu, h1, asAgg, Result.andThen, part, ha, hc]
  · cases hs
end GL
namespace GL
theorem hsetN {α : Type} {xs q : List α} {k : Nat} {y : α} {p : Int} (e : xs.set k y = q) (h : 0 ≤ p ∧ p < (xs.length : Int)) : 0 ≤ p ∧ p < (q.length : Int) := by
  subst e; simpa using h
end GL
