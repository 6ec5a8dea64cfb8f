/-
  DifferClasses answers true for any changes, and leaves them as they were. No condition.
-/
import Derived.Test.YtjemjblnddfdbaaSeatG
import Derived.Test.YtjemjblnddfdbaaAlJn
import Derived.Test.YtjemjblnddfdbaaRows
set_option linter.unusedVariables false
set_option linter.unusedSimpArgs false
set_option linter.unnecessarySimpa false
set_option linter.deprecated false
namespace Go.Proofs.Ytjemjblnddfdbaa
open Go.AL Go.AL.Seat Go.ChangeShapes Go.WideShapes Go.RowKit
set_option linter.unusedVariables false
set_option maxRecDepth 100000

theorem own : ownKnob Try.prog.godebug = none := by kernel_rfl
theorem und22 : Try.prog.underlying 22 = some (.slice 24) := by kernel_rfl
theorem c24 : Try.prog.cellsOf 24 = 2 := by kernel_rfl
theorem c3 : Try.prog.cellsOf 3 = 1 := by kernel_rfl
theorem c9 : Try.prog.cellsOf 9 = 1 := by kernel_rfl
theorem par3 : Try.f3.params = #[22] := by kernel_rfl
theorem res3 : Try.f3.resultTypes = #[4] := by kernel_rfl
theorem laid : laidOutB Try.prog = true := by kernel_rfl
theorem read22 : Try.prog.readableRec 22 = true := by kernel_rfl
theorem size22 : 22 < Try.prog.types.size := of_decide_eq_true (by kernel_rfl)
theorem spec3 {H : Type} (ds : List (DataW H)) (hd : ds.length = 1) : Rows.differClassesSpec.fn H ds = { results := [.lit (.bool true)], args := ds } := by
  match ds, hd with
  | [d], _ => rfl
theorem und4 : Try.prog.underlying 4 = some .bool := by kernel_rfl

theorem argChanges {H : Type} {enc : TypeId × Value → H} {w : World} {base b0 : Nat} {r : Reach} {sp : Nat → Bool} {held : Bool} {v : Value} {d : DataW H} {ps : List MemPlace}
    (hv : Value.okWide Try.prog w r b0 22 v) (h : DataW.Trod enc Try.prog w base sp held 22 v d ps) : ∃ l : List Change, V (Om0 w) (.lst (.st .change) l none) v := by
  obtain ⟨fuel, h⟩ := h
  obtain ⟨l, u, e, hl⟩ := V_lst (τ := .st .change) und22 (by kernel_rfl) h
    (fun n ds y _ hy => V_change Try.underlying24 c24 rfl Try.underlying3 c3 rfl Try.underlying9 c9 hy) (spot_arg und22 hv)
  rw [arg_one und22 hv] at e
  simp only [List.cons.injEq, and_true] at e
  subst e
  exact ⟨l, hl⟩

theorem contract (H : Type) (enc : TypeId × Value → H) (W : World) (base : Nat) (args : Array Value) (ds gs : List (DataW H)) (before : List MemPlace)
    (hval : ∀ (j : Nat) t v, Try.f3.params[j]? = some t → args[j]? = some v → Value.okWide Try.prog W .any base t v)
    (hW : DataW.Whole enc Try.prog Try.f3.params.toList Rows.differClassesSpec.vars false W args.toList ds gs before) :
    Calls Try.prog 3 args W fun e W' => ∃ v, e = .returned v ∧ Rows.differClassesSpec.post enc Try.prog Try.f3 false true false false W args v W' := by
  have hW' := hW
  obtain ⟨p, q, hA, hV, _, _, _⟩ := hW
  rw [par3] at hA hval
  obtain ⟨v0, vs0, d0, ds0, p0, q0, hargs, rfl, rfl, h0, r0⟩ := trodAll_cons hA
  obtain ⟨rfl, rfl, rfl⟩ := trodAll_nil r0
  obtain rfl : args = #[v0] := by
    have := congrArg List.toArray hargs
    simpa using this
  obtain ⟨l, hl⟩ := argChanges (hval 0 22 v0 rfl rfl) h0
  refine (law_calls (meets_DifferClasses l ⟨_, _, hl⟩) (VL.cons hl .nil)).mono fun e W' ⟨he, hb⟩ => ?_
  subst he
  refine ⟨_, rfl, post_law (tb := 4) laid (fun t ht => ?_) rfl (fun ds hd => spec3 ds ?_) res3 und4 hW' hb⟩
  · rw [par3] at ht
    have : t = 22 := by simpa using ht
    subst this
    exact ⟨read22, size22⟩
  · rw [par3] at hd
    exact hd

set_option maxRecDepth 100000 in
theorem lifted (os : Os) (started : os.Started) (H : Type) (enc : TypeId × Value → H) :
    ReturnsInHanded {} Try.checked os 3 .any (Rows.differClassesSpec.pre6 enc Try.prog Try.f3 Rows.differClassesRow.domain false) (Rows.differClassesSpec.post enc Try.prog Try.f3 false true false false) := by
  refine returnsInHanded_of_change own started (by kernel_rfl) Try.func3
    (ChangeSpec.witness6 (enc := enc) (C := Try.checked) (f := 3) (fn := Try.f3) (s := Rows.differClassesSpec) (conds := Rows.differClassesRow.domain) (apart := false) false ⟨#[], #[.slice none 0 0], []⟩ 8 (by kernel_rfl) (by kernel_rfl) (by kernel_rfl) (by kernel_rfl)) ?_
  intro W base args ds gs before hval hW _ _
  exact contract H enc W base args ds gs before hval hW

theorem classes_holds : Rows.DifferClassesSaid :=
  OpenClaim.holds_of_wide 3 Try.f3 rfl rfl rfl rfl rfl rfl rfl ⟨rfl, rfl, rfl, rfl, rfl⟩ rfl rfl rfl rfl rfl (by kernel_rfl) Try.func3 (by kernel_rfl)
    (of_decide_eq_true (by kernel_rfl)) (by unfold Func.isWrapper; first | (rw [if_pos (by decide +kernel)]; kernel_rfl) | (rw [if_neg (by decide +kernel)]; exact ⟨rfl, rfl⟩))
    (fun os started H enc _ => lifted os started H enc)
#print axioms classes_holds
end Go.Proofs.Ytjemjblnddfdbaa
