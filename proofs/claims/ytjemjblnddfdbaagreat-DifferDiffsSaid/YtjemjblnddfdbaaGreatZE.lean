/-
  The library's functions at this seat. No condition.
-/
import Derived.Test.YtjemjblnddfdbaaGreatAlX
import Derived.Test.YtjemjblnddfdbaaGreatZLp
import Derived.Test.YtjemjblnddfdbaaGreatZB
import Derived.Test.YtjemjblnddfdbaaGreatZV
import Derived.Test.YtjemjblnddfdbaaGreatZC
set_option linter.unusedVariables false
set_option linter.unusedSimpArgs false
set_option linter.unnecessarySimpa false
set_option linter.deprecated false
namespace Go.AL.Seat
open Go Go.AL Go.Proofs Go.Shelf
theorem bx169 : Builder.Extra Tryz.prog Tryz.lays169_ren := {
  sizeBuilder := by kernel_rfl
  liesBuilder := by kernel_rfl
  t5 := Tryz.underlying5
  a5 := Tryz.isAgg5
  z5 := Tryz.sizeOf5
  v5 := Tryz.zeroValue5
  infoByte := by kernel_rfl
  cellsByte := by kernel_rfl
  sizeByte := by kernel_rfl
  neB5 := by decide }
theorem pat_Write : PatOK Tryz.prog 19 (patWrite 54 5) := patWrite_ok Tryz.wl Tryz.cc Tryz.bx rfl rfl rfl (Enters.mk' Tryz.func19 (by kernel_rfl))
theorem pat_String : PatOK Tryz.prog 20 (patString 54 5) := patString_ok Tryz.lays169 bx169 rfl rfl rfl (Enters.mk' Tryz.func20 (by kernel_rfl))
theorem sortL : SortL Tryz.prog Tryz.sorted19_ren :=
  ⟨Tryz.sorted19, ⟨fun blk off cap ss W hH hblk hsz => callsIn_wide.2 (Any.slices_Sort_string Tryz.lays190 blk off cap ss W hH hblk hsz), fun p cap W => callsIn_wide.2 (Any.slices_Sort_string_none Tryz.lays190 p cap W)⟩, enters_of Tryz.func22 (by kernel_rfl) rfl⟩
theorem keysL : SlLaysZ.n10 Tryz.prog Tryz.keys20_ren := { Tryz.keys20 with }
theorem pat_Sorted : PatOK Tryz.prog 13 (patSorted 102 23) :=
  patSorted_ok sortL keysL rfl rfl (enters_of Tryz.func102 (by kernel_rfl) rfl) Tryz.valuesL (Enters.mk' Tryz.func13 (by kernel_rfl))
theorem pat_Compact : PatOK Tryz.prog 85 patCompact := patCompact_ok Tryz.lays194 rfl (Enters.mk' Tryz.func85 (by kernel_rfl))
theorem pat_SortFunc : PatOK Tryz.prog 58 (patSortFunc 59) :=
  patSortFunc_ok Tryz.sortf55 rfl (enters_of Tryz.func59 (by kernel_rfl) rfl) (fun W b o g0 off cap len i j si sj h1 h2 h3 h4 h5 => Tryz.cmp56 W b o g0 off cap len i j si sj h1 h2 h3 h4 h5) (Enters.mk' Tryz.func58 (by kernel_rfl))
end Go.AL.Seat
