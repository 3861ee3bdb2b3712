/- Own library, part Z: from what a law is handed to what her walk is told: small arrays, structs in slices. -/
import Derived.Test.YtgdhjjdgghilhaaGreatGlV
import Derived.OpenShut
set_option linter.unusedVariables false
set_option linter.unusedSimpArgs false
namespace GL
open Go Go.Deep Go.ChangeShapes Go.WideShapes Go.RowKit

variable {α β γ : Type} {P : Program}
section
variable {H : Type} {enc : TypeId × Value → H} {w : World} {base : Nat} {spare : Nat → Bool} {held : Bool}
end
end GL
namespace GL
open Go Go.Deep Go.ChangeShapes Go.WideShapes Go.RowKit
end GL

