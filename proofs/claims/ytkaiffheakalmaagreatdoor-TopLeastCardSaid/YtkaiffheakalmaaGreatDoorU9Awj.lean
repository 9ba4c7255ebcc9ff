/- Copied, stripped. No conditions. -/
import Derived.Test.YtkaiffheakalmaaGreatDoorU9Awi
set_option linter.unusedSimpArgs false
set_option linter.unusedVariables false
set_option maxRecDepth 100000
namespace Go.Proofs.YtkaiffheakalmaaGreatDoor
open Go.RowKit
section any
variable {C:Ctx} {ops:Array Oper} {md:Region.Mode}
end any
section unfold
variable {C:Ctx} {Q:Exit→St→Prop} {σ:St}
end unfold
end Go.Proofs.YtkaiffheakalmaaGreatDoor
