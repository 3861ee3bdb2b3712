/- Own library, part Q: from what a law is handed to what her walk is told: slices of slices. -/
import Derived.Test.YtgdhjjdgghilhaaGreatGlJ
import Derived.Test.YtgdhjjdgghilhaaGreatGlP
set_option linter.unusedVariables false
set_option linter.unusedSimpArgs false
namespace GL
open Go Go.Deep Go.ChangeShapes Go.WideShapes Go.RowKit

variable {α β : Type} {P : Program}

end GL
