/- Own library, part Ub: maps from whole numbers. -/
import Derived.Test.YtgdhjjdgghilhaaGreatGlUa
import Derived.MapKept
set_option linter.unusedVariables false
set_option linter.unusedSimpArgs false
namespace GL
open Go

section
variable {β : Type}
def mfi : List (Int × β) → Int → Option (Nat × β)
  | [], _ => none
  | p :: m, k => if k == p.1 then some (0, p.2) else (mfi m k).map fun q => (q.1 + 1, q.2)
def mget (m : List (Int × β)) (k : Int) : Option β := (mfi m k).map Prod.snd
def mput (m : List (Int × β)) (k : Int) (x : β) : List (Int × β) := match mfi m k with
  | some q => m.set q.1 (k, x)
  | none => m ++ [(k, x)]
theorem mfi_some {m : List (Int × β)} {k : Int} {j : Nat} {x : β} (h : mfi m k = some (j, x)) : m[j]? = some (k, x) := by
  induction m generalizing j with
  | nil => simp [mfi] at h
  | cons p m ih =>
    unfold mfi at h
    by_cases hk : (k == p.1) = true
    · rw [if_pos hk] at h
      obtain ⟨rfl, rfl⟩ := Prod.mk.inj (Option.some.inj h)
      have : k = p.1 := by simpa using hk
      simp [this]
    · rw [if_neg hk] at h
      obtain ⟨q, hq, e⟩ := Option.map_eq_some_iff.1 h
      obtain ⟨rfl, rfl⟩ := Prod.mk.inj e
      simpa using ih hq
theorem mfi_none {m : List (Int × β)} {k : Int} (h : mfi m k = none) : ∀ p ∈ m, p.1 ≠ k := by
  induction m with
  | nil => simp
  | cons p m ih =>
    unfold mfi at h
    by_cases hk : (k == p.1) = true
    · rw [if_pos hk] at h; cases h
    · rw [if_neg hk] at h
      intro q hq
      rcases List.mem_cons.1 hq with rfl | hq
      · exact fun e => hk (by simp [e])
      · exact ih (by simpa using h) q hq
def Apart (m : List (Int × β)) : Prop := (m.map Prod.fst).Nodup
theorem apart_put {m : List (Int × β)} (h : Apart m) (k : Int) (x : β) : Apart (mput m k x) := by
  unfold mput
  cases hk : mfi m k with
  | some q =>
    have := mfi_some (j := q.1) (x := q.2) hk
    unfold Apart at h ⊢
    simp only [List.map_set]
    have e : (m.map Prod.fst)[q.1]? = some k := by rw [List.getElem?_map, this]; rfl
    have hl := (List.getElem?_eq_some_iff.1 e).1
    have e2 : (m.map Prod.fst)[q.1] = k := (List.getElem?_eq_some_iff.1 e).2
    rw [← e2, List.set_getElem_self]; exact h
  | none =>
    have := mfi_none hk
    unfold Apart at h ⊢
    rw [List.map_append, List.nodup_append]
    refine ⟨h, by simp, fun a ha b hb => ?_⟩
    obtain ⟨p, hp, rfl⟩ := List.mem_map.1 ha
    simp at hb
    subst hb
    exact this p hp
end

variable {β : Type} {enc : β → Value} {S S' : Nat → Prop} {w w' w0 : World} {v : Value} {T : TypeId} {rs : List Res} {P : Program} {m : List (Int × β)}
def ent (enc : β → Value) (p : Int × β) : Value × Value := (.int .i64 p.1, enc p.2)
def MapAt (enc : β → Value) (w : World) (g : Nat) (m : List (Int × β)) : Prop :=
  ∃ es clock, w.heap[g]? = some (.map es clock) ∧ es.toList.map (fun e => (e.key, e.val)) = m.map (ent enc) ∧ Apart m
def Res.map (enc : β → Value) (v : Value) (m : List (Int × β)) : Res where
  own := fun fp w => ∃ g, v = .map (some g) ∧ (∀ k, fp k ↔ k = g) ∧ MapAt enc w g m
  loc := by
    rintro fp w w' ⟨g, h1, h2, es, cl, h3, h4⟩ hk
    exact ⟨g, h1, h2, es, cl, (hk g ((h2 g).2 rfl)).trans h3, h4⟩
  bd := by
    rintro fp w k ⟨g, h1, h2, es, cl, h3, h4⟩ hk
    rw [(h2 k).1 hk]; exact (Array.getElem?_eq_some_iff.1 h3).1
theorem findNow_ok (k : Int) : ∀ (l : List MapEntry) (m : List (Int × β)) (i : Nat), l.map (fun e => (e.key, e.val)) = m.map (ent enc) →
    Instr.findNow (.int .i64) (.int .i64 k) l i = some ((mfi m k).map fun q => (i + q.1, enc q.2))
  | [], [], i, _ => rfl
  | [], _ :: _, _, h => by simp at h
  | _ :: _, [], _, h => by simp at h
  | e :: l, p :: m, i, h => by
    simp only [List.map_cons, List.cons.injEq] at h
    obtain ⟨h1, h2⟩ := h
    obtain ⟨hk, hv⟩ := Prod.mk.inj h1
    have ih := findNow_ok k l m (i + 1) h2
    unfold Instr.findNow mfi
    have hk : e.key = .int .i64 p.1 := hk
    have hv : e.val = enc p.2 := hv
    rw [hk, show Instr.sameNow (.int .i64) (.int .i64 k) (.int .i64 p.1) = some (k == p.1) by simp [Instr.sameNow]]
    by_cases hc : (k == p.1) = true
    · rw [hc]; simp [hv]
    · simp only [Bool.not_eq_true] at hc
      rw [hc]
      simp only [Bool.false_eq_true, if_false]
      rw [ih]
      cases mfi m k with
      | none => rfl
      | some q => simp only [Option.map_some, show i + 1 + q.1 = i + (q.1 + 1) by omega]

section ops
variable {n : Nat} {a : Act} {L : List (Nat × Value)} {ops : Array Oper} {Q : Exit → Act → World → Prop}
  {rest : List Oper} {d : Nat} {ty : TypeId} {pos : String} {af : Array Edge} {g : Option (Nat × Bool)} {x y z : Operand} {t kt e : TypeId} {k : Int} {i : Nat} {z0 b : β}

theorem run_findKey (hk : P.underlying kt = some (.int .i64)) {l : List MapEntry} (h : l.map (fun e => (e.key, e.val)) = m.map (ent enc)) (w : World) :
    (Instr.findKey kt (.int .i64 k) l).run P w = .ok ((mfi m k).map fun q => (q.1, enc q.2)) w := by
  have := findNow_ok k l m 0 h
  simp only [Nat.zero_add] at this
  simp [Instr.findKey, run_underlying hk, this, Result.andThen]
theorem run_check (hk : P.underlying kt = some (.int .i64)) (b : Bool) (w : World) : (Instr.checkKey b 10000 kt (.int .i64 k)).run P w = .ok () w :=
  MapKept.run_checkKey (n := 9999) hk (by simp [MapKept.IsKey]) b
theorem st_makeMap (hf : Fr n a L) (hd : d < n) (hp : Hp S w0 w rs)
    (hw : Region.wanted ⟨some d, .makeMap t none, ty, pos, af, g⟩ (yielded ops a.tmps) = true)
    (h : ∀ a' w' b', Fr n a' ((d, .map (some b')) :: L) → Hp S w0 w' (Res.map enc (.map (some b')) [] :: rs) → wpList P ops Q rest a' w') :
    wpList P ops Q (⟨some d, .makeMap t none, ty, pos, af, g⟩ :: rest) a w := by
  refine st_run hf hw rfl hd (v := .map (some w.heap.size)) (w' := w.alloc (.map #[] 0)) ?_
    fun a' _ hf' => h a' _ _ hf' (hp.push (Same.alloc w _) (fp := fun k => k = w.heap.size) ⟨_, rfl, fun _ => Iff.rfl, #[], 0, heap_alloc_new w _, by simp, by simp [Apart]⟩ (fun k hk => by omega))
  simp [execOp, Instr.makeMap, newObj, Sem.run, pure, bind, Sem.bind]

theorem st_lookup {ok : Bool} (hf : Fr n a L) (hd : d < n) (ht : P.underlying t = some (.map kt e)) (hk : P.underlying kt = some (.int .i64)) (hz : (P.info? e).bind (·.zero) = some (enc z0))
    (hp : Hp S w0 w rs) (hi : rs[i]? = some (Res.map enc v m))
    (hw : Region.wanted ⟨some d, .lookup t x y ok, ty, pos, af, g⟩ (yielded ops a.tmps) = true)
    (hx : evL L x = some v) (hy : evL L y = some (.int .i64 k))
    (h : ∀ a', a' = a.put (some d) (if ok then .tuple #[enc ((mget m k).getD z0), .bool (mget m k).isSome] else enc ((mget m k).getD z0)) → Fr n a' ((d, if ok then .tuple #[enc ((mget m k).getD z0), .bool (mget m k).isSome] else enc ((mget m k).getD z0)) :: L) → wpList P ops Q rest a' w) :
    wpList P ops Q (⟨some d, .lookup t x y ok, ty, pos, af, g⟩ :: rest) a w := by
  obtain ⟨fp, ⟨b0, rfl, h2, es, cl, h3, h4, h5⟩, _⟩ := hp.take hi
  obtain ⟨inf, hi', hz'⟩ := Option.bind_eq_some_iff.1 hz
  refine st_run hf hw rfl hd (w' := w) ?_ h
  have hf1 := run_findKey (k := k) hk h4 w
  have hc := run_check (k := k) hk es.isEmpty w
  cases hm : mfi m k with
  | none =>
    rw [hm] at hf1
    simp [execOp, hf.ev hx, hf.ev hy, Instr.lookup, run_underlying ht, MapKept.run_getObj_map h3, hf1, hc, Result.andThen, zeroValue, typeInfo, hi', hz', mget, hm]
  | some q =>
    rw [hm] at hf1
    simp [execOp, hf.ev hx, hf.ev hy, Instr.lookup, run_underlying ht, MapKept.run_getObj_map h3, hf1, hc, Result.andThen, mget, hm]

theorem heap_set_self {b0 : Nat} {o o' : Obj} (h : w.heap[b0]? = some o) : ({ w with heap := w.heap.setIfInBounds b0 o' } : World).heap[b0]? = some o' := by
  have := (Array.getElem?_eq_some_iff.1 h).1
  simp [this]
theorem chg_set (b0 : Nat) (o' : Obj) {fp : Nat → Prop} (h : fp b0) : Chg fp w { w with heap := w.heap.setIfInBounds b0 o' } :=
  ⟨rfl, rfl, rfl, by simp, fun k _ hk => Array.getElem?_setIfInBounds_ne (fun e => hk (by rw [← e]; exact h))⟩

end ops
end GL
namespace GL
open Go
section
variable {β : Type} {K : RowK β} {S : Nat → Prop} {w w' w0 : World} {v u : Value} {vs : List Value} {os : List (Option β)} {rs : List Res} {P : Program} {Ts : TypeId}
  {n : Nat} {a : Act} {L : List (Nat × Value)} {ops : Array Oper} {Q : Exit → Act → World → Prop}
  {rest : List Oper} {d : Nat} {ty : TypeId} {pos : String} {af : Array Edge} {g : Option (Nat × Bool)} {x y : Operand} {e : TypeId} {p : Int} {bytes m : Nat}
end
end GL
