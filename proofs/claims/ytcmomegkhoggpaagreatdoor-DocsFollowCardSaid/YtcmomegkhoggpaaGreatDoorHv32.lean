import Derived.Test.YtcmomegkhoggpaaGreatDoorHv31
set_option linter.unusedVariables false
set_option linter.unusedSectionVars false
set_option linter.unusedSimpArgs false
/- A family of rows is frozen into the object that holds them. -/
namespace Go.Hv
open Go Go.RowKit
variable [GI]
variable {P : Program} {D F : Nat → Prop} {σ : HS} {a : Act} {w : World} {γ : Nat → Value} {bl : Nat → Option Nat}
end Go.Hv
