/-
  The library's functions at this seat. No condition.
-/
import Derived.Test.YtjemjblnddfdbaaAlX
import Derived.Test.YtjemjblnddfdbaaSeatLp
import Derived.Test.YtjemjblnddfdbaaSeatB
import Derived.Test.YtjemjblnddfdbaaSeatV
import Derived.Test.YtjemjblnddfdbaaSeatC
set_option linter.unusedVariables false
set_option linter.unusedSimpArgs false
set_option linter.unnecessarySimpa false
set_option linter.deprecated false
namespace Go.AL.Seat
open Go Go.AL Go.Proofs Go.Shelf
theorem bx169 : Builder.Extra Try.prog Try.lays169_ren := {
  sizeBuilder := by kernel_rfl
  liesBuilder := by kernel_rfl
  t5 := Try.underlying5
  a5 := Try.isAgg5
  z5 := Try.sizeOf5
  v5 := Try.zeroValue5
  infoByte := by kernel_rfl
  cellsByte := by kernel_rfl
  sizeByte := by kernel_rfl
  neB5 := by decide }
theorem pat_Write : PatOK Try.prog 14 (patWrite 47 5) := patWrite_ok Try.wl Try.cc Try.bx rfl rfl rfl (Enters.mk' Try.func14 (by kernel_rfl))
theorem pat_String : PatOK Try.prog 15 (patString 47 5) := patString_ok Try.lays169 bx169 rfl rfl rfl (Enters.mk' Try.func15 (by kernel_rfl))
theorem sortL : SortL Try.prog Try.sorted19_ren :=
  ⟨Try.sorted19, ⟨fun blk off cap ss W hH hblk hsz => callsIn_wide.2 (Any.slices_Sort_string Try.lays190 blk off cap ss W hH hblk hsz), fun p cap W => callsIn_wide.2 (Any.slices_Sort_string_none Try.lays190 p cap W)⟩, enters_of Try.func31 (by kernel_rfl) rfl⟩
theorem keysL : SlLaysZ.n10 Try.prog Try.keys20_ren := { Try.keys20 with }
theorem pat_Sorted : PatOK Try.prog 19 (patSorted 98 32) :=
  patSorted_ok sortL keysL rfl rfl (enters_of Try.func98 (by kernel_rfl) rfl) Try.valuesL (Enters.mk' Try.func19 (by kernel_rfl))
theorem pat_Compact : PatOK Try.prog 87 patCompact := patCompact_ok Try.lays194 rfl (Enters.mk' Try.func87 (by kernel_rfl))
theorem pat_SortFunc : PatOK Try.prog 55 (patSortFunc 56) :=
  patSortFunc_ok Try.sortf55 rfl (enters_of Try.func56 (by kernel_rfl) rfl) (fun W b o g0 off cap len i j si sj h1 h2 h3 h4 h5 => Try.cmp56 W b o g0 off cap len i j si sj h1 h2 h3 h4 h5) (Enters.mk' Try.func55 (by kernel_rfl))
end Go.AL.Seat
