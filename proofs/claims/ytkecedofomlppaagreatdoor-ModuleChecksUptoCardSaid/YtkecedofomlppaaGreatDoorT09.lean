/- Plain facts. No condition. -/
import Derived.Test.YtkecedofomlppaaGreatDoorT08
set_option linter.all false
set_option maxRecDepth 100000
section
namespace Go.Proofs.YtkecedofomlppaaGreatDoor.JModuleChecks
open Go.AL Go.AL.Seat Go.Pd Go.ChangeShapes Go.WideShapes Go.RowKit Go.Proofs.YtkecedofomlppaaGreatDoor.Join
set_option maxRecDepth 1000000
theorem c2:(Rows.moduleChecksUptoRow.unfollowed ==Tryz.prog.unfollowed 4)=true:=by kernel_rfl
end Go.Proofs.YtkecedofomlppaaGreatDoor.JModuleChecks
end
