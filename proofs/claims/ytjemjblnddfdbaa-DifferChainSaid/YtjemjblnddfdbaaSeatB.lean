/-
  The library's functions at this seat. No condition.
-/
import Derived.Test.YtjemjblnddfdbaaAlT
import Derived.Test.YtjemjblnddfdbaaProg
set_option linter.unusedVariables false
set_option linter.unusedSimpArgs false
set_option linter.unnecessarySimpa false
set_option linter.deprecated false
namespace Go.Proofs
open Go.Shelf Go.AL
def Try.wren : Go.Shelf.Ren := ⟨fun | 166 => 14 | 240 => 23 | 169 => 15 | n => n, fun | 70 => 44 | 9 => 9 | 0 => 0 | 72 => 47 | 37 => 45 | 127 => 64 | 3 => 3 | 5 => 5 | 75 => 49 | n => n, fun n => n⟩
theorem Try.wl : WL Try.prog Try.wren := {
  mixed := by kernel_rfl
  f166 := Try.func14.trans (congrArg some (by kernel_rfl))
  t3 := Try.underlying3
  a3 := Try.isAgg3
  z3 := Try.sizeOf3
  v3 := Try.zeroValue3
  t9 := Try.underlying9
  a9 := Try.isAgg9
  z9 := Try.sizeOf9
  v9 := Try.zeroValue9
  t37 := Try.underlying45
  a37 := Try.isAgg45
  z37 := Try.sizeOf45
  v37 := Try.zeroValue45
  t70 := Try.underlying44
  a70 := Try.isAgg44
  z70 := Try.sizeOf44
  v70 := Try.zeroValue44
  t72 := Try.underlying47
  a72 := Try.isAgg47
  z72 := Try.sizeOf47
  v72 := Try.zeroValue47 }
theorem Try.bx : Builder.Extra Try.prog Try.wren := {
  sizeBuilder := by kernel_rfl
  liesBuilder := by kernel_rfl
  t5 := Try.underlying5
  a5 := Try.isAgg5
  z5 := Try.sizeOf5
  v5 := Try.zeroValue5
  infoByte := by kernel_rfl
  cellsByte := by kernel_rfl
  sizeByte := by kernel_rfl
  neB5 := by decide }
set_option maxHeartbeats 1000000 in
set_option maxRecDepth 100000 in
theorem Try.cc : CC Try.prog Try.wren := by
  obtain ⟨j, hj, hjs⟩ := Option.map_eq_some_iff.1 Try.bx.sizeBuilder
  have hj' : Try.prog.info? 47 = some j := hj
  have lies := Try.bx.liesBuilder
  refine ⟨enters_of Try.func23 (by kernel_rfl) rfl, fun b w h0 => ?_, fun b w h0 hsh hfz => ?_⟩
  · show Calls Try.prog 23 _ _ _
    go_enter Try.func23, Try.ntmps23
    go_wp2
    rw [Lib.run_neq_ptr_same w _ Try.underlying44 hj']
    go_wp2
    go_end0
    exact ⟨rfl, rfl⟩
  · show Calls Try.prog 23 _ _ _
    go_enter Try.func23, Try.ntmps23
    go_wp2
    rw [Lib.run_to_unsafe w ⟨b, 0, none⟩ Try.underlying44 Try.underlying72 hj' (by rw [hjs]; decide) hsh (Nat.zero_lt_succ 1)]
    simp only [Result.andThen]
    rw [Oper.upon_value]
    go_wp2
    rw [run_callFunc_extern Try.func35 (by kernel_rfl) (by kernel_rfl) (by kernel_rfl) (e := Extern.AbiNoEscape.same) (by kernel_rfl)]
    rw [Lib.run_noEscape]
    simp only [Result.andThen]
    rw [Oper.upon_value]
    go_wp2
    rw [Lib.run_from_unsafe w ⟨b, 0, none⟩ Try.underlying72 Try.underlying44 hj' hsh lies]
    simp only [Result.andThen]
    rw [Oper.upon_value]
    go_wp2
    go_end0
    exact ⟨rfl, rfl⟩
end Go.Proofs
