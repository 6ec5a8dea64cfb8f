/-
  DifferChain answers true for any lists of items, and leaves them as they were. No condition.
-/
import Derived.Test.YtjemjblnddfdbaaSeatG
import Derived.Test.YtjemjblnddfdbaaAlJs
import Derived.Test.YtjemjblnddfdbaaRows
set_option linter.unusedVariables false
set_option linter.unusedSimpArgs false
set_option linter.unnecessarySimpa false
set_option linter.deprecated false
namespace Go.Proofs.Ytjemjblnddfdbaa.JDifferChain
open Go.AL Go.AL.Seat Go.ChangeShapes Go.WideShapes Go.RowKit
set_option linter.unusedVariables false
set_option maxRecDepth 100000

theorem own : ownKnob Try.prog.godebug = none := by kernel_rfl
theorem undL : Try.prog.underlying 31 = some (.slice 43) := by kernel_rfl
theorem shapeAt : ShapeAt Try.prog 41 := ⟨_, _, _, _, _, 9, Try.underlying41, by kernel_rfl, ⟨rfl, rfl, rfl, rfl, rfl⟩, ⟨by kernel_rfl, by kernel_rfl, by kernel_rfl, by kernel_rfl, by kernel_rfl⟩, by kernel_rfl, by kernel_rfl, by kernel_rfl, by kernel_rfl, by kernel_rfl, by kernel_rfl, by kernel_rfl⟩
theorem itemAt : ItemAt Try.prog 43 := ⟨_, _, _, Try.underlying43, by kernel_rfl, ⟨rfl, rfl, rfl⟩, ⟨by kernel_rfl, by kernel_rfl, by kernel_rfl⟩, by kernel_rfl, by kernel_rfl, shapeAt⟩
theorem par : Try.f5.params = #[31, 31, 31] := by kernel_rfl
theorem res : Try.f5.resultTypes = #[4] := by kernel_rfl
theorem laid : laidOutB Try.prog = true := by kernel_rfl
theorem readL : Try.prog.readableRec 31 = true := by kernel_rfl
theorem sizeL : 31 < Try.prog.types.size := of_decide_eq_true (by kernel_rfl)
theorem undB : Try.prog.underlying 4 = some .bool := by kernel_rfl
theorem spec {H : Type} (ds : List (DataW H)) (hd : ds.length = 3) : Rows.differChainSpec.fn H ds = { results := [.lit (.bool true)], args := ds } := by
  match ds, hd with
  | [d0, d1, d2], _ => rfl

theorem argItems {H : Type} {enc : TypeId × Value → H} {w : World} {base b0 : Nat} {r : Reach} {held : Bool} {v : Value} {d : DataW H} {ps : List MemPlace}
    (hv : Value.okWide Try.prog w r b0 31 v) (h : DataW.Trod enc Try.prog w base (fun _ => true) held 31 v d ps) : ∃ l : List AL.Item, V (Om0 w) (.lst (.st .item) l none) v := by
  obtain ⟨fuel, h⟩ := h
  exact V_items undL itemAt hv h

theorem contract (H : Type) (enc : TypeId × Value → H) (W : World) (base : Nat) (args : Array Value) (ds gs : List (DataW H)) (before : List MemPlace)
    (hval : ∀ (j : Nat) t v, Try.f5.params[j]? = some t → args[j]? = some v → Value.okWide Try.prog W .any base t v)
    (hW : DataW.Whole enc Try.prog Try.f5.params.toList Rows.differChainSpec.vars false W args.toList ds gs before) :
    Calls Try.prog 5 args W fun e W' => ∃ v, e = .returned v ∧ Rows.differChainSpec.post enc Try.prog Try.f5 false true false false W args v W' := by
  have hW' := hW
  obtain ⟨p, q, hA, hV, _, _, _⟩ := hW
  rw [par] at hA hval
  obtain ⟨v0, vs0, d0, ds0, p0, q0, hargs0, rfl, rfl, h0, r0⟩ := trodAll_cons hA
  obtain ⟨v1, vs1, d1, ds1, p1, q1, hargs1, rfl, rfl, h1, r1⟩ := trodAll_cons r0
  obtain ⟨v2, vs2, d2, ds2, p2, q2, hargs2, rfl, rfl, h2, r2⟩ := trodAll_cons r1
  obtain ⟨rfl, rfl, rfl⟩ := trodAll_nil r2
  subst hargs2
  subst hargs1
  obtain rfl : args = #[v0, v1, v2] := by
    have := congrArg List.toArray hargs0
    simpa using this
  obtain ⟨l0, hl0⟩ := argItems (hval 0 31 v0 rfl rfl) h0
  obtain ⟨l1, hl1⟩ := argItems (hval 1 31 v1 rfl rfl) h1
  obtain ⟨l2, hl2⟩ := argItems (hval 2 31 v2 rfl rfl) h2
  refine (law_calls (meets_DifferChain l0 l1 l2 ⟨_, _, hl0⟩ ⟨_, _, hl1⟩ ⟨_, _, hl2⟩) (VL.cons hl0 (VL.cons hl1 (VL.cons hl2 .nil)))).mono fun e W' ⟨he, hb⟩ => ?_
  subst he
  refine ⟨_, rfl, post_law (tb := 4) laid (fun t ht => ?_) rfl (fun ds hd => spec ds ?_) res undB hW' hb⟩
  · rw [par] at ht
    have : t = 31 := by simpa using ht
    subst this
    exact ⟨readL, sizeL⟩
  · rw [par] at hd
    exact hd

theorem lifted (os : Os) (started : os.Started) (H : Type) (enc : TypeId × Value → H) :
    ReturnsInHanded {} Try.checked os 5 .any (Rows.differChainSpec.pre6 enc Try.prog Try.f5 Rows.differChainRow.domain false) (Rows.differChainSpec.post enc Try.prog Try.f5 false true false false) := by
  refine returnsInHanded_of_change own started (by kernel_rfl) Try.func5
    (ChangeSpec.witness6 (enc := enc) (C := Try.checked) (f := 5) (fn := Try.f5) (s := Rows.differChainSpec) (conds := Rows.differChainRow.domain) (apart := false) false ⟨#[], #[.slice none 0 0, .slice none 0 0, .slice none 0 0], []⟩ 8 (by kernel_rfl) (by kernel_rfl) (by kernel_rfl) (by kernel_rfl)) ?_
  intro W base args ds gs before hval hW _ _
  exact contract H enc W base args ds gs before hval hW

theorem holds : Rows.DifferChainSaid :=
  OpenClaim.holds_of_wide 5 Try.f5 rfl rfl rfl rfl rfl rfl rfl ⟨rfl, rfl, rfl, rfl, rfl⟩ rfl rfl rfl rfl rfl (by kernel_rfl) Try.func5 (by kernel_rfl)
    (of_decide_eq_true (by kernel_rfl)) (by unfold Func.isWrapper; first | (rw [if_pos (by decide +kernel)]; kernel_rfl) | (rw [if_neg (by decide +kernel)]; exact ⟨rfl, rfl⟩))
    (fun os started H enc _ => lifted os started H enc)
#print axioms holds
end Go.Proofs.Ytjemjblnddfdbaa.JDifferChain
