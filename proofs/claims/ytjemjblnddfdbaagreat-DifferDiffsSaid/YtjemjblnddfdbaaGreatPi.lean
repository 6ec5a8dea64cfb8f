/-
  The changes that each statement looks at once. No condition.
-/
import Derived.Test.YtjemjblnddfdbaaGreatPh
import Derived.KernelRfl
set_option linter.unusedVariables false
set_option linter.unusedSimpArgs false
set_option linter.unnecessarySimpa false
set_option linter.deprecated false
namespace Go.Pd
open Go.AL

mutual
theorem eqS_eq : ∀ {a b : Shape}, eqS a b = true → a = b
  | ⟨k, p, n, ns, ps⟩, ⟨k', p', n', ns', ps'⟩, h => by
    simp only [eqS, Bool.and_eq_true, decide_eq_true_eq] at h
    obtain ⟨⟨⟨⟨rfl, rfl⟩, rfl⟩, rfl⟩, h⟩ := h
    rw [eqL_eq h]
theorem eqL_eq : ∀ {a b : List Shape}, eqL a b = true → a = b
  | [], [], _ => rfl
  | [], _ :: _, h => by simp [eqL] at h
  | _ :: _, [], h => by simp [eqL] at h
  | a :: r, b :: s, h => by
    simp only [eqL, Bool.and_eq_true] at h
    rw [eqS_eq h.1, eqL_eq h.2]
end
mutual
theorem eqS_refl : ∀ a : Shape, eqS a a = true
  | ⟨k, p, n, ns, ps⟩ => by simp [eqS, eqL_refl ps]
theorem eqL_refl : ∀ a : List Shape, eqL a a = true
  | [] => rfl
  | a :: r => by simp [eqL, eqS_refl a, eqL_refl r]
end
theorem sameS_sz {a b : Shape} (h : sz a ≠ sz b) : sameS a b = false := by
  cases e : sameS a b
  · rfl
  · unfold sameS at e
    simp only [Bool.and_eq_true] at e
    have := congrArg sz (eqS_eq e.2)
    rw [sz_sorted, sz_sorted] at this
    exact absurd this h

theorem sort_two : sortS [[102], [75]] = [[75], [102]] :=
  sorted_perm_eq ((List.mergeSort_perm _ _).trans (.swap _ _ _)) (sortS_sorted _) (by
    refine List.pairwise_cons.2 ⟨fun x hx => ?_, List.pairwise_singleton _ _⟩
    simp only [List.mem_singleton] at hx
    subst hx
    decide)
theorem aw_names : namesU aw1 aw2 = [[75], [102]] := by
  unfold namesU
  have : uniq ((aw1 ++ aw2).map (·.name)) = [[102], [75]] := by decide
  rw [this, sort_two]
theorem aw_names' : namesU aw2 aw1 = [[75], [102]] := by
  unfold namesU
  have : uniq ((aw2 ++ aw1).map (·.name)) = [[75], [102]] := by decide
  rw [this]
  exact (sortS_perm (.swap _ _ _)).trans sort_two
def awA : AL.Item := ⟨3, [102], ⟨6, [], [], [[97]], [shI]⟩⟩
def awB : AL.Item := ⟨3, [102], ⟨6, [], [], [[97], [98]], [shI, shI]⟩⟩
def awK : AL.Item := ⟨2, [75], ⟨0, [], [], [], []⟩⟩
theorem below_ba : belowS awB.shape awA.shape = true := by
  unfold belowS
  have h1 : checkS awA.shape = 0 := by kernel_rfl
  have h2 : checkS awB.shape = 0 := by kernel_rfl
  have h3 : under 8 awB.shape awA.shape = true := by kernel_rfl
  rw [under_fuel 800 8 _ _ (by decide) (by decide), h3]
  simp [h1, h2]
theorem below_ab : belowS awA.shape awB.shape = false := by
  unfold belowS
  have h1 : checkS awA.shape = 0 := by kernel_rfl
  have h2 : checkS awB.shape = 0 := by kernel_rfl
  have h3 : under 8 awA.shape awB.shape = false := by kernel_rfl
  rw [under_fuel 800 8 _ _ (by decide) (by decide), h3]
  simp [h1, h2]
theorem kind_ab : kindF awA awB = 5 := by
  have h := sameS_sz (a := awA.shape) (b := awB.shape) (by decide)
  unfold kindF
  rw [below_ba, h]
  decide
theorem kind_ba : kindF awB awA = 4 := by
  have h := sameS_sz (a := awB.shape) (b := awA.shape) (by decide)
  unfold kindF
  rw [below_ab, h]
  decide
theorem aw_there : diffF aw1 aw2 = [⟨1, [75]⟩, ⟨5, [102]⟩] := by
  unfold diffF
  rw [aw_names]
  have c1 : changeF aw1 aw2 [75] = 1 := by
    have e1 : itemOf aw2 [75] = some awK := by rfl
    have e2 : itemOf aw1 [75] = none := by rfl
    simp only [changeF, e1, e2]
  have c2 : changeF aw1 aw2 [102] = 5 := by
    have e1 : itemOf aw2 [102] = some awB := by rfl
    have e2 : itemOf aw1 [102] = some awA := by rfl
    simp only [changeF, e1, e2, kind_ab]
  simp only [diffGo, c1, c2]
  rfl
theorem aw_back : diffF aw2 aw1 = [⟨2, [75]⟩, ⟨4, [102]⟩] := by
  unfold diffF
  rw [aw_names']
  have c1 : changeF aw2 aw1 [75] = 2 := by
    have e1 : itemOf aw1 [75] = none := by rfl
    simp only [changeF, e1]
  have c2 : changeF aw2 aw1 [102] = 4 := by
    have e1 : itemOf aw1 [102] = some awA := by rfl
    have e2 : itemOf aw2 [102] = some awB := by rfl
    simp only [changeF, e1, e2, kind_ba]
  simp only [diffGo, c1, c2]
  rfl

end Go.Pd
