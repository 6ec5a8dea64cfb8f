/-
  DifferDiffs answers true for any lists of items, and leaves them as they were. No condition.
-/
import Derived.Test.YtjemjblnddfdbaaGreatZG
import Derived.Test.YtjemjblnddfdbaaGreatAlJs
import Derived.Test.YtjemjblnddfdbaaGreatRows
set_option linter.unusedVariables false
set_option linter.unusedSimpArgs false
set_option linter.unnecessarySimpa false
set_option linter.deprecated false
namespace Go.Proofs.YtjemjblnddfdbaaGreat.JDifferDiffs
open Go.AL Go.AL.Seat Go.ChangeShapes Go.WideShapes Go.RowKit
set_option linter.unusedVariables false
set_option maxRecDepth 100000

theorem own : ownKnob Tryz.prog.godebug = none := by kernel_rfl
theorem undL : Tryz.prog.underlying 22 = some (.slice 35) := by kernel_rfl
theorem shapeAt : ShapeAt Tryz.prog 33 := ⟨_, _, _, _, _, 9, Tryz.underlying33, by kernel_rfl, ⟨rfl, rfl, rfl, rfl, rfl⟩, ⟨by kernel_rfl, by kernel_rfl, by kernel_rfl, by kernel_rfl, by kernel_rfl⟩, by kernel_rfl, by kernel_rfl, by kernel_rfl, by kernel_rfl, by kernel_rfl, by kernel_rfl, by kernel_rfl⟩
theorem itemAt : ItemAt Tryz.prog 35 := ⟨_, _, _, Tryz.underlying35, by kernel_rfl, ⟨rfl, rfl, rfl⟩, ⟨by kernel_rfl, by kernel_rfl, by kernel_rfl⟩, by kernel_rfl, by kernel_rfl, shapeAt⟩
theorem par : Tryz.f3.params = #[22, 22] := by kernel_rfl
theorem res : Tryz.f3.resultTypes = #[4] := by kernel_rfl
theorem laid : laidOutB Tryz.prog = true := by kernel_rfl
theorem readL : Tryz.prog.readableRec 22 = true := by kernel_rfl
theorem sizeL : 22 < Tryz.prog.types.size := of_decide_eq_true (by kernel_rfl)
theorem undB : Tryz.prog.underlying 4 = some .bool := by kernel_rfl
theorem spec {H : Type} (ds : List (DataW H)) (hd : ds.length = 2) : Rows.differDiffsSpec.fn H ds = { results := [.lit (.bool true)], args := ds } := by
  match ds, hd with
  | [d0, d1], _ => rfl

theorem argItems {H : Type} {enc : TypeId × Value → H} {w : World} {base b0 : Nat} {r : Reach} {held : Bool} {v : Value} {d : DataW H} {ps : List MemPlace}
    (hv : Value.okWide Tryz.prog w r b0 22 v) (h : DataW.Trod enc Tryz.prog w base (fun _ => true) held 22 v d ps) : ∃ l : List AL.Item, V (Om0 w) (.lst (.st .item) l none) v := by
  obtain ⟨fuel, h⟩ := h
  exact V_items undL itemAt hv h

theorem contract (H : Type) (enc : TypeId × Value → H) (W : World) (base : Nat) (args : Array Value) (ds gs : List (DataW H)) (before : List MemPlace)
    (hval : ∀ (j : Nat) t v, Tryz.f3.params[j]? = some t → args[j]? = some v → Value.okWide Tryz.prog W .any base t v)
    (hW : DataW.Whole enc Tryz.prog Tryz.f3.params.toList Rows.differDiffsSpec.vars false W args.toList ds gs before) :
    Calls Tryz.prog 3 args W fun e W' => ∃ v, e = .returned v ∧ Rows.differDiffsSpec.post enc Tryz.prog Tryz.f3 false true false false W args v W' := by
  have hW' := hW
  obtain ⟨p, q, hA, hV, _, _, _⟩ := hW
  rw [par] at hA hval
  obtain ⟨v0, vs0, d0, ds0, p0, q0, hargs0, rfl, rfl, h0, r0⟩ := trodAll_cons hA
  obtain ⟨v1, vs1, d1, ds1, p1, q1, hargs1, rfl, rfl, h1, r1⟩ := trodAll_cons r0
  obtain ⟨rfl, rfl, rfl⟩ := trodAll_nil r1
  subst hargs1
  obtain rfl : args = #[v0, v1] := by
    have := congrArg List.toArray hargs0
    simpa using this
  obtain ⟨l0, hl0⟩ := argItems (hval 0 22 v0 rfl rfl) h0
  obtain ⟨l1, hl1⟩ := argItems (hval 1 22 v1 rfl rfl) h1
  refine (law_calls (meets_DifferDiffs l0 l1 ⟨_, _, hl0⟩ ⟨_, _, hl1⟩) (VL.cons hl0 (VL.cons hl1 .nil))).mono fun e W' ⟨he, hb⟩ => ?_
  subst he
  refine ⟨_, rfl, post_law (tb := 4) laid (fun t ht => ?_) rfl (fun ds hd => spec ds ?_) res undB hW' hb⟩
  · rw [par] at ht
    have : t = 22 := by simpa using ht
    subst this
    exact ⟨readL, sizeL⟩
  · rw [par] at hd
    exact hd

theorem lifted (os : Os) (started : os.Started) (H : Type) (enc : TypeId × Value → H) :
    ReturnsInHanded {} Tryz.checked os 3 .any (Rows.differDiffsSpec.pre6 enc Tryz.prog Tryz.f3 Rows.differDiffsRow.domain false) (Rows.differDiffsSpec.post enc Tryz.prog Tryz.f3 false true false false) := by
  refine returnsInHanded_of_change own started (by kernel_rfl) Tryz.func3
    (ChangeSpec.witness6 (enc := enc) (C := Tryz.checked) (f := 3) (fn := Tryz.f3) (s := Rows.differDiffsSpec) (conds := Rows.differDiffsRow.domain) (apart := false) false ⟨#[], #[.slice none 0 0, .slice none 0 0], []⟩ 8 (by kernel_rfl) (by kernel_rfl) (by kernel_rfl) (by kernel_rfl)) ?_
  intro W base args ds gs before hval hW _ _
  exact contract H enc W base args ds gs before hval hW

theorem holds : Rows.DifferDiffsSaid :=
  OpenClaim.holds_of_wide 3 Tryz.f3 rfl rfl rfl rfl rfl rfl rfl ⟨rfl, rfl, rfl, rfl, rfl⟩ rfl rfl rfl rfl rfl (by kernel_rfl) Tryz.func3 (by kernel_rfl)
    (of_decide_eq_true (by kernel_rfl)) (by unfold Func.isWrapper; first | (rw [if_pos (by decide +kernel)]; kernel_rfl) | (rw [if_neg (by decide +kernel)]; exact ⟨rfl, rfl⟩))
    (fun os started H enc _ => lifted os started H enc)
#print axioms holds
end Go.Proofs.YtjemjblnddfdbaaGreat.JDifferDiffs
