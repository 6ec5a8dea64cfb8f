/-
  Plain facts on the library's thinning and sorting. No condition.
-/
import Derived.Test.YtjemjblnddfdbaaGreatAlX
set_option linter.unusedVariables false
set_option linter.unusedSimpArgs false
set_option linter.unnecessarySimpa false
set_option linter.deprecated false
namespace Go.AL
open Go.Lib

theorem compact_len {l : List Str} (hs : l.Pairwise (· ≤ ·)) : (Lib.compact l).length = l.length ↔ l.Nodup := by
  unfold Lib.compact Lib.compactUpTo
  rw [List.length_map]
  have e : ((List.range l.length).filter (keeps l.toArray)).length = l.length ↔ ∀ j, j < l.length → keeps l.toArray j = true := by
    have h := List.length_filter_eq_length_iff (p := keeps l.toArray) (l := List.range l.length)
    rw [List.length_range] at h
    rw [h]
    simp
  rw [e, List.nodup_iff_pairwise_ne, List.pairwise_iff_getElem]
  rw [List.pairwise_iff_getElem] at hs
  constructor
  · intro h i j hi hj hij eq
    have hk := h j hj
    have hj1 : j - 1 < l.length := by omega
    have h1 : l[i] ≤ l[j - 1] := by
      rcases Nat.lt_or_ge i (j - 1) with q | q
      · exact hs i (j - 1) hi hj1 q
      · have : i = j - 1 := by omega
        subst this
        exact List.le_refl _
    have h2 : l[j - 1] ≤ l[j] := hs (j - 1) j hj1 hj (by omega)
    have h3 : l[j - 1] = l[j] := List.le_antisymm h2 (by rw [← eq]; exact h1)
    unfold keeps at hk
    simp [hj, hj1, h3] at hk
    omega
  · intro h j hj
    unfold keeps
    rcases Nat.eq_zero_or_pos j with q | q
    · simp [q]
    · have hj1 : j - 1 < l.length := by omega
      have := h (j - 1) j hj1 hj (by omega)
      simp [hj, hj1]
      exact .inr fun e => this e.symm

theorem sortS_sorted (l : List Str) : (sortS l).Pairwise (· ≤ ·) := by
  have tr : ∀ a b c : Str, decide (a ≤ b) = true → decide (b ≤ c) = true → decide (a ≤ c) = true := fun a b c h1 h2 => by
    simp only [decide_eq_true_eq] at *; exact List.le_trans h1 h2
  have to : ∀ a b : Str, (decide (a ≤ b) || decide (b ≤ a)) = true := fun a b => by
    simp only [Bool.or_eq_true, decide_eq_true_eq]; exact List.le_total _ _
  exact (List.pairwise_mergeSort tr to l).imp fun h => by simpa using h
theorem sortS_nodup {l : List Str} : (sortS l).Nodup ↔ l.Nodup := (List.mergeSort_perm l _).nodup_iff
theorem compact_sorted (l : List Str) : (Lib.compact (sortS l)).length = l.length ↔ l.Nodup := by
  rw [← sortS_length l, compact_len (sortS_sorted l), sortS_nodup]

end Go.AL
