/-
  The library's functions at this seat. No condition.
-/
import Derived.Test.YtjemjblnddfdbaaGreatAlV
import Derived.Shelf.SlSortCmp.Whole1
import Derived.Shelf.Small.Strs

import Derived.Deep.QuietTactic
import Derived.BigQuiet
import Derived.Test.YtjemjblnddfdbaaGreatZLp
set_option linter.unusedVariables false
set_option linter.unusedSimpArgs false
set_option linter.unnecessarySimpa false
set_option linter.deprecated false
namespace Go.Proofs
open Go.RowKit Go.Shelf Go.AL

theorem Tryz.compare (a b : ByteArray) (w : World) : Calls Tryz.prog 60 #[.string a, .string b] w fun e w' => e = .returned (.int .i64 (Lib.compareBytes a.data.toList b.data.toList)) ∧ w' = w := Any.strings_Compare Tryz.lays106 a b w

set_option maxRecDepth 100000 in
set_option maxHeartbeats 2000000 in
theorem Tryz.cmp56 (W : World) (b o g off cap len i j : Nat) (si sj : Str) (h1 : W.cell? ⟨b, o + 3, none⟩ = some (.slice (some ⟨g, off, none⟩) len cap)) (hi : i < len) (hj : j < len) (ci : W.cell? ⟨g, off + i, none⟩ = some (encStr si)) (cj : W.cell? ⟨g, off + j, none⟩ = some (encStr sj)) :
    Calls Tryz.prog 59 #[.int .i64 i, .int .i64 j, .pointer (some ⟨b, o, none⟩)] W fun e w' => e = .returned (.int .i64 (Lib.compareBytes si sj)) ∧ ∃ q, w' = W.drewN q := by
  go_enter Tryz.func59, Tryz.ntmps59
  go_wp2
  go_quiet (first | (go_at_call 60; refine Calls.quiet_of_same (Tryz.compare _ _ _)))
  go_wp2
  go_ret
  exact ⟨rfl, _, rfl⟩
end Go.Proofs
