/-
  Small laws for use: tables of types, contracts out of plain functions. No condition.
-/
import Derived.Test.YtjemjblnddfdbaaGreatAlO
import Derived.KernelRfl
set_option linter.unusedVariables false
set_option linter.unusedSimpArgs false
set_option linter.unnecessarySimpa false
set_option linter.deprecated false
namespace Go.AL

theorem TRok.mk' {P : Program} {t : Nat} {r : TR}
    (h1 : (P.info? t).map (fun i => (i.size, i.bytes, i.zero.map fun z => z.cells.toList.map ofConst)) = some (r.size, r.bytes, some r.zero))
    (h2 : (P.underlying t).map (descOK P r.ti) = some true)
    (h3 : (lenIs r.zero r.size && (Nat.beq r.size 0 || Nat.blt 0 r.bytes) && (match r.ty with | some τ => Nat.beq (width τ) r.size && (isSt τ == r.isAgg) | none => true)) = true)
    (h8 : (P.info? t).map (fun i => i.zero.map fun z => zAgg z == r.isAgg) = some (some true))
    (h9 : (match r.ti with | .strct true _ => !P.stoodInHeld t && !P.eqGuardType P.depth t | _ => true) = true) : TRok P t r := by
  simp only [Bool.and_eq_true, Bool.or_eq_true, Nat.beq_eq, Nat.blt_eq] at h3
  obtain ⟨⟨h5, h6⟩, h7⟩ := h3
  refine ⟨?_, lenIs_sound _ _ h5, fun hz => ?_, ?_, fun τ hτ => ?_, fun i z hi hz => ?_, fun fs hfs => ?_⟩
  · cases hi : P.info? t with
    | none => rw [hi] at h1; simp at h1
    | some i =>
      rw [hi] at h1
      simp only [Option.map_some, Option.some.injEq, Prod.mk.injEq, Option.map_eq_some_iff] at h1
      obtain ⟨e1, e2, z, e3, e4⟩ := h1
      exact ⟨i, z, rfl, e1, e2, e3, e4⟩
  · rcases h6 with h6 | h6
    · omega
    · exact h6
  · cases hd : P.underlying t with
    | none => rw [hd] at h2; simp at h2
    | some d =>
      rw [hd] at h2
      exact ⟨d, rfl, by simpa using h2⟩
  · rw [hτ] at h7
    simpa using h7
  · rw [hi] at h8
    simp [hz] at h8
    exact h8
  · rw [hfs] at h9
    simpa using h9

theorem TblOK.nil {P : Program} : TblOK P [] := fun t r h => by simp [tlook] at h
theorem TblOK.cons {P : Program} {t : Nat} {r : TR} {l : List (Nat × TR)} (h : TRok P t r) (hl : TblOK P l) : TblOK P ((t, r) :: l) := by
  intro t' r' h'
  simp only [tlook] at h'
  by_cases e : t = t'
  · subst e
    simp at h'
    subst h'
    exact h
  · simp only [beq_iff_eq, e, if_false] at h'
    exact hl t' r' h'

theorem Enters.mk' {P : Program} {f : Nat} {fn : Func} (h : P.funcs[f]? = some fn) (h2 : (fn.body.isNone || (fn.name == "runtime.NumGoroutine")) = false) : Enters P f := by
  simp only [Bool.or_eq_false_iff] at h2
  exact ⟨fn, h, h2.1, h2.2⟩

end Go.AL
