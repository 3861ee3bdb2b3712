/- Own library, part R: pointers that may be nil; an object with an array of rings (slices of bytes with a place). -/
import Derived.Test.YtgdhjjdgghilhaaGreatGlP
import Derived.Laws.Pointers
import Derived.Laws.IdiomStrings
import Derived.Laws.Strings3
set_option linter.unusedVariables false
set_option linter.unusedSimpArgs false
namespace GL
open Go

variable {S S' : Nat → Prop} {w w' w0 w1 : World} {rs l l' : List Res} {v u : Value} {vs : List Value} {T Ts Tb : TypeId} {P : Program}

structure PtrK (σ : Type) where
  R : Value → σ → Res
  sh : ∀ {fp : Nat → Prop} {w : World} {v : Value} {s : σ}, (R v s).own fp w → RdO (fun _ => True) w v []
variable {σ : Type} {K : PtrK σ} {o : Option σ} {s : σ}

section ops
variable {n : Nat} {a : Act} {L : List (Nat × Value)} {ops : Array Oper} {Q : Exit → Act → World → Prop}
  {rest : List Oper} {d : Nat} {ty : TypeId} {pos : String} {af : Array Edge} {g : Option (Nat × Bool)}
  {t t' e : TypeId} {x y z : Operand} {k k' : IntKind} {p q : Int} {b : Bool}

theorem run_nilV {cs : List Value} (hfr : Fr n a L) (hx : evL L x = some v) (hs : RdO (fun _ => True) w1 v cs) (w : World) :
    (execOp a.eval ⟨some d, .nilCheck x, ty, pos, af, g⟩).run P w = .ok (.value (optr v 0)) w := by
  obtain ⟨b, rfl, _, _⟩ := hs
  simp [execOp, hfr.ev hx, optr, Addr.add_lit, Sem.run, pure]
theorem st_nilV {cs : List Value} (hf : Fr n a L) (hd : d < n) (hw : Region.wanted ⟨some d, .nilCheck x, ty, pos, af, g⟩ (yielded ops a.tmps) = true)
    (hx : evL L x = some v) (hs : RdO (fun _ => True) w1 v cs)
    (h : ∀ a', a' = a.put (some d) (optr v 0) → Fr n a' ((d, optr v 0) :: L) → wpList P ops Q rest a' w) :
    wpList P ops Q (⟨some d, .nilCheck x, ty, pos, af, g⟩ :: rest) a w :=
  st_run hf hw rfl hd (run_nilV hf hx hs w) h
theorem dr_nilV {md : Region.Mode} {C : World → Prop} {Nk : List Nat} {M : Act → World → Prop} {m : Nat} {listed : Array Bool} (i : Nat) {cs : List Value}
    (hi : ops[i]? = some ⟨some d, .nilCheck x, ty, pos, af, g⟩) (hs : Region.noSelect ops = true)
    (hf : Region.free md ops listed i = true) (hr : (Region.ready md ops listed).contains i = true)
    (hfr : Fr n a L) (hd : d < n) (hw : Region.wanted ⟨some d, .nilCheck x, ty, pos, af, g⟩ (yielded ops a.tmps) = true)
    (hx : evL L x = some v) (hsh : RdO (fun _ => True) w1 v cs)
    (h : ∀ a', Fr n a' ((d, optr v 0) :: L) → anyP P md ops (Exit.then M noQ) C Nk m (listed.setIfInBounds i true) a' w) : anyP P md ops (Exit.then M noQ) C Nk (m + 1) listed a w := by
  refine anyP_firstP (v := optr v 0) hi (Region.noSelect_spec hs) (fun _ _ _ h => h.elim) m listed a w (Region.free_spec hi hf) (by simpa using hr) (.inl ⟨hw, fun w _ => run_nilV hfr hx hsh w⟩) ?_
  exact h _ (hfr.put hd _)
end ops

abbrev LoomS := List (List Int × Int) × Int × Int × Int
def ringCells : List Value → List (List Int × Int) → List Value
  | u :: us, r :: rs => u :: .int .i64 r.2 :: ringCells us rs
  | _, _ => []
def loomCells (vs : List Value) (s : LoomS) : List Value := ringCells vs s.1 ++ [.int .i64 s.2.1, .int .i64 s.2.2.1, .int .i64 s.2.2.2]
variable {st : LoomS}
structure RdL (S : Nat → Prop) (w : World) (v : Value) (vs : List Value) (s : LoomS) : Prop where
  ob : RdO S w v (loomCells vs s)
  lv : vs.length = 64
  ls : s.1.length = 64
  row : ∀ (k : Nat) (u : Value) (r : List Int × Int), vs[k]? = some u → s.1[k]? = some r → RdS (Ek.int .u8) S w u r.1
theorem RdL.mono (h : RdL S w v vs st) (hs : ∀ k, S k → S' k) : RdL S' w v vs st := ⟨h.ob.mono hs, h.lv, h.ls, fun k u r a b => (h.row k u r a b).mono hs⟩
theorem RdL.now (h : RdL S w0 v vs st) (hp : Hp S w0 w rs) : RdL S w v vs st := ⟨h.ob.now hp, h.lv, h.ls, fun k u r a b => (h.row k u r a b).now hp⟩
theorem RdL.any (h : RdL S w v vs st) : RdL (fun _ => True) w v vs st := h.mono fun _ _ => trivial
section ops
variable {n : Nat} {a : Act} {L : List (Nat × Value)} {ops : Array Oper} {Q : Exit → Act → World → Prop}
  {rest : List Oper} {d : Nat} {ty : TypeId} {pos : String} {af : Array Edge} {g : Option (Nat × Bool)}
  {t t' e : TypeId} {x y z : Operand} {k k' : IntKind} {p q : Int}

end ops

theorem RdO.eq0 {cs : List Value} (h : RdO S w v cs) : optr v 0 = v := by
  obtain ⟨g, rfl, _⟩ := h
  simp [optr, Addr.add_lit]
end GL
