/-
  NARROWER THAN 'FOR EVERY INPUT', by the rows' own cells (each row's printed sentence says how): DifferSelf: loops · DifferChain: loops.
  DERIVED. THE GIVEN ROWS OF THIS SEAT. 3 by the template 'for every input the law returns true; each argument reads behind the call as it read before'; 0 by the template 'total and deterministic' (their statements: YtjemjblnddfdbaaTotals.lean).
  GIVEN WITH THE SEED: the statements are not yours to turn. If you find one false, say at which input.
  Laid BY PROGRAM, IN A SANDBOX (cutbox-rows.mjs): the forced cells as the released guide's own fill.sh prints them over the translation eddb9e1e008152f1… (all of the seat's roots in one cut). By AI agents, Wed Nov 11 2026. No macro, syntax, notation, axiom, sorry.
-/
import Derived.Test.YtjemjblnddfdbaaChecked
import GoSem.Claim
import GoSem.ClaimJoined
import GoSem.ClaimMapViews
import Derived.JoinedTies
import Derived.KernelRfl
namespace Go.Proofs.Ytjemjblnddfdbaa
/- THE CELL 'sum', in the pinned program and in every row, IS THE sha256 OF THE DUMP (.gsa) THAT YtjemjblnddfdbaaProg.lean LOADS. Nothing in Lean hashes anything: it is a label: what it is worth is what the hold of that sum in a sandbox is worth. -/
noncomputable def Try.pinned : Pinned := { name := "ytjemjblnddfdbaa", sum := "eddb9e1e008152f12b10dc0211b46c8f49b0ffda4bd2bfe19a42f542c384f845", checked := Try.checked }
namespace Rows
def none {H : Type} : Left H := { results := [], args := [] }

/-- 'pandectlaw17.DifferClasses': WHATEVER THE INPUT: true; the input reads as it did. -/
def differClassesSpec : ChangeSpec := { name := "differClasses", fn := fun _ => fun
  | [d] => { results := [.lit (.bool true)], args := [d] }
  | _ => none }
def differClassesRow : OpenClaim := { program := "ytjemjblnddfdbaa", sum := "eddb9e1e008152f12b10dc0211b46c8f49b0ffda4bd2bfe19a42f542c384f845", func := "pandect/pandectlaw17.DifferClasses", spec := "differClasses", inPlace := ["internal/bytealg.abigen_runtime_cmpstring", "internal/abi.NoEscape"], unfollowed := true, recurses := true, apart := false }
def DifferClassesSaid : Prop := differClassesRow.holds Try.pinned (OpenSpec.ofChange differClassesSpec)

/-- ITS FALSE NEIGHBOUR: 'it returns false'. Refute it at one input. -/
def differClassesWrong : ChangeSpec := { name := "differClasses", fn := fun _ => fun
  | [d] => { results := [.lit (.bool false)], args := [d] }
  | _ => none }
def DifferClassesWrongFalsely : Prop := differClassesRow.holds Try.pinned (OpenSpec.ofChange differClassesWrong)

/-- 'pandectlaw17.DifferSelf': WHATEVER THE INPUT: true; the input reads as it did. -/
def differSelfSpec : ChangeSpec := { name := "differSelf", fn := fun _ => fun
  | [d1, d2] => { results := [.lit (.bool true)], args := [d1, d2] }
  | _ => none }
def differSelfRow : OpenClaim := { program := "ytjemjblnddfdbaa", sum := "eddb9e1e008152f12b10dc0211b46c8f49b0ffda4bd2bfe19a42f542c384f845", func := "pandect/pandectlaw17.DifferSelf", spec := "differSelf", inPlace := ["internal/bytealg.abigen_runtime_cmpstring", "internal/abi.NoEscape"], unfollowed := true, recurses := true, loops := true, apart := false }
def DifferSelfSaid : Prop := differSelfRow.holds Try.pinned (OpenSpec.ofChange differSelfSpec)

/-- ITS FALSE NEIGHBOUR: 'it returns false'. Refute it at one input. -/
def differSelfWrong : ChangeSpec := { name := "differSelf", fn := fun _ => fun
  | [d1, d2] => { results := [.lit (.bool false)], args := [d1, d2] }
  | _ => none }
def DifferSelfWrongFalsely : Prop := differSelfRow.holds Try.pinned (OpenSpec.ofChange differSelfWrong)

/-- 'pandectlaw17.DifferChain': WHATEVER THE INPUT: true; the input reads as it did. -/
def differChainSpec : ChangeSpec := { name := "differChain", fn := fun _ => fun
  | [d1, d2, d3] => { results := [.lit (.bool true)], args := [d1, d2, d3] }
  | _ => none }
def differChainRow : OpenClaim := { program := "ytjemjblnddfdbaa", sum := "eddb9e1e008152f12b10dc0211b46c8f49b0ffda4bd2bfe19a42f542c384f845", func := "pandect/pandectlaw17.DifferChain", spec := "differChain", inPlace := ["internal/bytealg.abigen_runtime_cmpstring", "internal/abi.NoEscape"], unfollowed := true, recurses := true, loops := true, apart := false }
def DifferChainSaid : Prop := differChainRow.holds Try.pinned (OpenSpec.ofChange differChainSpec)

/-- ITS FALSE NEIGHBOUR: 'it returns false'. Refute it at one input. -/
def differChainWrong : ChangeSpec := { name := "differChain", fn := fun _ => fun
  | [d1, d2, d3] => { results := [.lit (.bool false)], args := [d1, d2, d3] }
  | _ => none }
def DifferChainWrongFalsely : Prop := differChainRow.holds Try.pinned (OpenSpec.ofChange differChainWrong)

/- THE SECOND FORM. 'bulk': how many values and letters a reading holds, each counted each time it is reached (what is shared counts as often as it is met; a slice's spare places count too). A statement '..UptoSaid' is the law's where the arguments, and the package variables that the reading takes, are together of bulk at most 1048576: NARROWER than '..Said'. Prove '..Said' where nothing that the law and all that it calls make is longer than what came in: it says more and counts as full. Else prove '..UptoSaid'. A law counts once. -/
mutual
def uptoBulk {H : Type} : DataW H → Nat
  | .lit (.string bytes) => bytes.length + 1
  | .lit _ => 1
  | .nil => 1
  | .ptr d => uptoBulk d + 1
  | .slice elems spare => uptoBulkAll elems + uptoBulkAll spare + 1
  | .agg parts => uptoBulkAll parts + 1
  | .iface _ d => uptoBulk d + 1
  | .map entries => uptoBulkEntries entries + 1
  | .held _ => 1
def uptoBulkAll {H : Type} : List (DataW H) → Nat
  | [] => 0
  | d :: r => uptoBulk d + uptoBulkAll r
def uptoBulkEntries {H : Type} : List (Lit × DataW H) → Nat
  | [] => 0
  | x :: r => uptoBulkEntry x + uptoBulkEntries r
def uptoBulkEntry {H : Type} : Lit × DataW H → Nat
  | (.string bytes, d) => bytes.length + uptoBulk d + 1
  | (_, d) => uptoBulk d + 1
 end
def uptoSmall : (H : Type) → List (DataW H) → Bool := fun _ ds => decide (uptoBulkAll ds ≤ 1048576)
def OpenSpec.upto (s : _root_.Go.ChangeSpec) : _root_.Go.OpenSpec := { _root_.Go.OpenSpec.ofChange s with cond := some uptoSmall }

/-- 'pandectlaw17.DifferClasses', WHERE WHAT IT READS IS OF BULK AT MOST 1048576: true; the input reads as it did. -/
def differClassesUptoRow : OpenClaim := { program := "ytjemjblnddfdbaa", sum := "eddb9e1e008152f12b10dc0211b46c8f49b0ffda4bd2bfe19a42f542c384f845", func := "pandect/pandectlaw17.DifferClasses", spec := "differClasses", inPlace := ["internal/bytealg.abigen_runtime_cmpstring", "internal/abi.NoEscape"], unfollowed := true, recurses := true, apart := false, narrowed := true }
def DifferClassesUptoSaid : Prop := differClassesUptoRow.holds Try.pinned (OpenSpec.upto differClassesSpec)

/-- 'pandectlaw17.DifferSelf', WHERE WHAT IT READS IS OF BULK AT MOST 1048576: true; the input reads as it did. -/
def differSelfUptoRow : OpenClaim := { program := "ytjemjblnddfdbaa", sum := "eddb9e1e008152f12b10dc0211b46c8f49b0ffda4bd2bfe19a42f542c384f845", func := "pandect/pandectlaw17.DifferSelf", spec := "differSelf", inPlace := ["internal/bytealg.abigen_runtime_cmpstring", "internal/abi.NoEscape"], unfollowed := true, recurses := true, loops := true, apart := false, narrowed := true }
def DifferSelfUptoSaid : Prop := differSelfUptoRow.holds Try.pinned (OpenSpec.upto differSelfSpec)

/-- 'pandectlaw17.DifferChain', WHERE WHAT IT READS IS OF BULK AT MOST 1048576: true; the input reads as it did. -/
def differChainUptoRow : OpenClaim := { program := "ytjemjblnddfdbaa", sum := "eddb9e1e008152f12b10dc0211b46c8f49b0ffda4bd2bfe19a42f542c384f845", func := "pandect/pandectlaw17.DifferChain", spec := "differChain", inPlace := ["internal/bytealg.abigen_runtime_cmpstring", "internal/abi.NoEscape"], unfollowed := true, recurses := true, loops := true, apart := false, narrowed := true }
def DifferChainUptoSaid : Prop := differChainUptoRow.holds Try.pinned (OpenSpec.upto differChainSpec)

end Rows
end Go.Proofs.Ytjemjblnddfdbaa
