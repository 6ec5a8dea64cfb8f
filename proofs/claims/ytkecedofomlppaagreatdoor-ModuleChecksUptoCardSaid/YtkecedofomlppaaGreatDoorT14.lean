/- Plain facts. No condition. -/
import Derived.Test.YtkecedofomlppaaGreatDoorT13
set_option linter.all false
set_option maxRecDepth 100000
section
namespace Go.Proofs.YtkecedofomlppaaGreatDoor.JModuleChecks
open Go.AL Go.AL.Seat Go.Pd Go.ChangeShapes Go.WideShapes Go.RowKit Go.Proofs.YtkecedofomlppaaGreatDoor.Join
set_option maxRecDepth 1000000
theorem dz (f:FuncId) (fn:Func) (hf:Tryz.pinned.checked.prog.funcNamed "pandect/pandectlaw10.ModuleChecks"=some f) (hfn:Tryz.pinned.checked.prog.funcs[f]?=some fn) :
  true=Tryz.pinned.checked.prog.looks []/\∀(j:Nat) t,fn.params[j]?=some t→Tryz.pinned.checked.prog.wantsStandIn t=false:=by
 obtain rfl:f=4:=Option.some.inj ((show Tryz.prog.funcNamed "pandect/pandectlaw10.ModuleChecks"=some 4 by kernel_rfl).symm.trans hf) |>.symm
 obtain rfl:fn=Tryz.f4:=(Option.some.inj (Tryz.func4.symm.trans hfn)).symm
 refine ⟨by kernel_rfl,fun j t ht=>?_⟩
 rw [par] at ht
 have ht:=Array.mem_of_getElem? ht
 simp only [List.mem_toArray,List.mem_cons,List.not_mem_nil,or_false] at ht
 rcases ht with rfl
 ·exact (show Tryz.prog.wantsStandIn 26=false by kernel_rfl)
theorem card:Rows.ModuleChecksUptoCardSaid:=
 Claim7.holds_tied_plain_at .later [] _ _ _ _ said (fun _ h=>by cases h) (by kernel_rfl) (fun _ h=>by cases h) moduleChecksUpto_row_tie rfl ⟨rfl,rfl⟩ (by kernel_rfl) rfl dz (G0 _ rfl)
end Go.Proofs.YtkecedofomlppaaGreatDoor.JModuleChecks
end
