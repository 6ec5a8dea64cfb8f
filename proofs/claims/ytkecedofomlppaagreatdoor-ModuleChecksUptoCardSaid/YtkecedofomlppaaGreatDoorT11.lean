/- Plain facts. No condition. -/
import Derived.Test.YtkecedofomlppaaGreatDoorT10
set_option linter.all false
set_option maxRecDepth 100000
section
namespace Go.Proofs.YtkecedofomlppaaGreatDoor.JModuleChecks
open Go.AL Go.AL.Seat Go.Pd Go.ChangeShapes Go.WideShapes Go.RowKit Go.Proofs.YtkecedofomlppaaGreatDoor.Join
set_option maxRecDepth 1000000
theorem Hs:joinedFacts Tryz.prog 4 Tryz.f4 (Rows.OpenSpec.upto Rows.moduleChecksSpec).bare Rows.moduleChecksUptoRow=true:=by
 unfold joinedFacts
 rw [c1,c2,c3,c4]
 kernel_rfl
end Go.Proofs.YtkecedofomlppaaGreatDoor.JModuleChecks
end
