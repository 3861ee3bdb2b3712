/- Own library, part V: from what a law is handed to what her walk is told: structs. -/
import Derived.Test.YtgdhjjdgghilhaaGreatGlQ
import Derived.ChangeArms
set_option linter.unusedVariables false
set_option linter.unusedSimpArgs false
namespace GL
open Go Go.Deep Go.ChangeShapes Go.WideShapes Go.RowKit

variable {α β : Type} {P : Program}
section
variable {H : Type} {enc : TypeId × Value → H} {w : World} {base : Nat} {spare : Nat → Bool} {held : Bool}
end
end GL
