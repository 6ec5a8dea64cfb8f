/-
  The library's functions at this seat. No condition.
-/
import Derived.Test.YtjemjblnddfdbaaGreatAlT
import Derived.Test.YtjemjblnddfdbaaGreatProg
set_option linter.unusedVariables false
set_option linter.unusedSimpArgs false
set_option linter.unnecessarySimpa false
set_option linter.deprecated false
namespace Go.Proofs
open Go.Shelf Go.AL
def Tryz.wren : Go.Shelf.Ren := ⟨fun | 166 => 19 | 240 => 29 | 169 => 20 | n => n, fun | 70 => 51 | 9 => 9 | 0 => 0 | 72 => 54 | 37 => 52 | 127 => 65 | 3 => 3 | 5 => 5 | 75 => 56 | n => n, fun n => n⟩
theorem Tryz.wl : WL Tryz.prog Tryz.wren := {
  mixed := by kernel_rfl
  f166 := Tryz.func19.trans (congrArg some (by kernel_rfl))
  t3 := Tryz.underlying3
  a3 := Tryz.isAgg3
  z3 := Tryz.sizeOf3
  v3 := Tryz.zeroValue3
  t9 := Tryz.underlying9
  a9 := Tryz.isAgg9
  z9 := Tryz.sizeOf9
  v9 := Tryz.zeroValue9
  t37 := Tryz.underlying52
  a37 := Tryz.isAgg52
  z37 := Tryz.sizeOf52
  v37 := Tryz.zeroValue52
  t70 := Tryz.underlying51
  a70 := Tryz.isAgg51
  z70 := Tryz.sizeOf51
  v70 := Tryz.zeroValue51
  t72 := Tryz.underlying54
  a72 := Tryz.isAgg54
  z72 := Tryz.sizeOf54
  v72 := Tryz.zeroValue54 }
theorem Tryz.bx : Builder.Extra Tryz.prog Tryz.wren := {
  sizeBuilder := by kernel_rfl
  liesBuilder := by kernel_rfl
  t5 := Tryz.underlying5
  a5 := Tryz.isAgg5
  z5 := Tryz.sizeOf5
  v5 := Tryz.zeroValue5
  infoByte := by kernel_rfl
  cellsByte := by kernel_rfl
  sizeByte := by kernel_rfl
  neB5 := by decide }
set_option maxHeartbeats 1000000 in
set_option maxRecDepth 100000 in
theorem Tryz.cc : CC Tryz.prog Tryz.wren := by
  obtain ⟨j, hj, hjs⟩ := Option.map_eq_some_iff.1 Tryz.bx.sizeBuilder
  have hj' : Tryz.prog.info? 54 = some j := hj
  have lies := Tryz.bx.liesBuilder
  refine ⟨enters_of Tryz.func29 (by kernel_rfl) rfl, fun b w h0 => ?_, fun b w h0 hsh hfz => ?_⟩
  · show Calls Tryz.prog 29 _ _ _
    go_enter Tryz.func29, Tryz.ntmps29
    go_wp2
    rw [Lib.run_neq_ptr_same w _ Tryz.underlying51 hj']
    go_wp2
    go_end0
    exact ⟨rfl, rfl⟩
  · show Calls Tryz.prog 29 _ _ _
    go_enter Tryz.func29, Tryz.ntmps29
    go_wp2
    rw [Lib.run_to_unsafe w ⟨b, 0, none⟩ Tryz.underlying51 Tryz.underlying74 hj' (by rw [hjs]; decide) hsh (Nat.zero_lt_succ 1)]
    simp only [Result.andThen]
    rw [Oper.upon_value]
    go_wp2
    rw [run_callFunc_extern Tryz.func41 (by kernel_rfl) (by kernel_rfl) (by kernel_rfl) (e := Extern.AbiNoEscape.same) (by kernel_rfl)]
    rw [Lib.run_noEscape]
    simp only [Result.andThen]
    rw [Oper.upon_value]
    go_wp2
    rw [Lib.run_from_unsafe w ⟨b, 0, none⟩ Tryz.underlying74 Tryz.underlying51 hj' hsh lies]
    simp only [Result.andThen]
    rw [Oper.upon_value]
    go_wp2
    go_end0
    exact ⟨rfl, rfl⟩
end Go.Proofs
