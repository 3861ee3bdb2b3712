/- Own library, part R: pointers that may be nil; an object with an array of rings (slices of bytes with a place). -/
import Derived.Test.YtgdhjjdgghilhaaGlP
import Derived.Laws.Pointers
import Derived.Laws.IdiomStrings
import Derived.Laws.Strings3
set_option linter.unusedVariables false
set_option linter.unusedSimpArgs false
namespace GL
open Go

variable {S S' : Nat → Prop} {w w' w0 w1 : World} {rs l l' : List Res} {v u : Value} {vs : List Value} {T Ts Tb : TypeId} {P : Program}

structure PtrK (σ : Type) where
  R : Value → σ → Res
  sh : ∀ {fp : Nat → Prop} {w : World} {v : Value} {s : σ}, (R v s).own fp w → RdO (fun _ => True) w v []
variable {σ : Type} {K : PtrK σ} {o : Option σ} {s : σ}

section ops
variable {n : Nat} {a : Act} {L : List (Nat × Value)} {ops : Array Oper} {Q : Exit → Act → World → Prop}
  {rest : List Oper} {d : Nat} {ty : TypeId} {pos : String} {af : Array Edge} {g : Option (Nat × Bool)}
  {t t' e : TypeId} {x y z : Operand} {k k' : IntKind} {p q : Int} {b : Bool}

end ops

/-! ### Looms -/
abbrev LoomS := List (List Int × Int) × Int × Int × Int
def ringCells : List Value → List (List Int × Int) → List Value
  | u :: us, r :: rs => u :: .int .i64 r.2 :: ringCells us rs
  | _, _ => []
def loomCells (vs : List Value) (s : LoomS) : List Value := ringCells vs s.1 ++ [.int .i64 s.2.1, .int .i64 s.2.2.1, .int .i64 s.2.2.2]
variable {st : LoomS}
/-- A loom that may be read. -/
structure RdL (S : Nat → Prop) (w : World) (v : Value) (vs : List Value) (s : LoomS) : Prop where
  ob : RdO S w v (loomCells vs s)
  lv : vs.length = 64
  ls : s.1.length = 64
  row : ∀ (k : Nat) (u : Value) (r : List Int × Int), vs[k]? = some u → s.1[k]? = some r → RdS (Ek.int .u8) S w u r.1
theorem RdL.mono (h : RdL S w v vs st) (hs : ∀ k, S k → S' k) : RdL S' w v vs st := ⟨h.ob.mono hs, h.lv, h.ls, fun k u r a b => (h.row k u r a b).mono hs⟩
theorem RdL.now (h : RdL S w0 v vs st) (hp : Hp S w0 w rs) : RdL S w v vs st := ⟨h.ob.now hp, h.lv, h.ls, fun k u r a b => (h.row k u r a b).now hp⟩
theorem RdL.any (h : RdL S w v vs st) : RdL (fun _ => True) w v vs st := h.mono fun _ _ => trivial
/-! Opening and closing -/
section ops
variable {n : Nat} {a : Act} {L : List (Nat × Value)} {ops : Array Oper} {Q : Exit → Act → World → Prop}
  {rest : List Oper} {d : Nat} {ty : TypeId} {pos : String} {af : Array Edge} {g : Option (Nat × Bool)}
  {t t' e : TypeId} {x y z : Operand} {k k' : IntKind} {p q : Int}

end ops

end GL
