/- Own library, part X: one slice copied over another. -/
import Derived.Test.YtgdhjjdgghilhaaGreatGlT
import Derived.Laws.CopyRow
import Derived.Laws.IdiomCopy
set_option linter.unusedVariables false
set_option linter.unusedSimpArgs false
namespace GL
open Go Go.Lib

variable {α : Type} {E : Ek α} {S S' : Nat → Prop} {w w' w0 : World} {v : Value} {xs ys sp : List α} {T : TypeId} {rs : List Res} {P : Program}
  {n : Nat} {a : Act} {L : List (Nat × Value)} {ops : Array Oper} {Q : Exit → Act → World → Prop}
  {rest : List Oper} {d : Nat} {ty : TypeId} {pos : String} {af : Array Edge} {g : Option (Nat × Bool)}
  {t t' e : TypeId} {x y : Operand} {bytes : Nat} {z0 : α} {i : Nat}

end GL
