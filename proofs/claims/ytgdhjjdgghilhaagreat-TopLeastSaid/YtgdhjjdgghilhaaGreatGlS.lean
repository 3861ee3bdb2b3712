/- Own library, part S: strings: parts, sums; bytes and a string appended. -/
import Derived.Test.YtgdhjjdgghilhaaGreatGlR
import Derived.Laws.Concat
import Derived.Lib.AppendStr
set_option linter.unusedVariables false
set_option linter.unusedSimpArgs false
namespace GL
open Go Go.Lib

variable {S S' : Nat → Prop} {w w' w0 : World} {v : Value} {xs sp : List Int} {T : TypeId} {rs : List Res} {P : Program}
section ops
variable {n : Nat} {a : Act} {L : List (Nat × Value)} {ops : Array Oper} {Q : Exit → Act → World → Prop}
  {rest : List Oper} {d : Nat} {ty : TypeId} {pos : String} {af : Array Edge} {g : Option (Nat × Bool)}
  {t t' e : TypeId} {x y z : Operand} {k k' : IntKind} {p q : Int} {u : Value} {i : Nat} {s s' : ByteArray}

end ops
end GL
