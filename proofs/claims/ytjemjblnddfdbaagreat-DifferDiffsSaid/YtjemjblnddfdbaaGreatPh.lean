/-
  The document's answers on changes; what the statements look at. No condition.
-/
import Derived.Test.YtjemjblnddfdbaaGreatPg
set_option linter.unusedVariables false
set_option linter.unusedSimpArgs false
set_option linter.unnecessarySimpa false
set_option linter.deprecated false
namespace Go.Pd
open Go.AL

def classR : List Change → Int → Int
  | [], c => c
  | x :: r, c => classR r (if (x.kind = 1 ∨ x.kind = 5) ∧ (if x.kind = 2 ∨ x.kind = 3 ∨ x.kind = 4 then (2 : Int) else c) = 0 then 1 else if x.kind = 2 ∨ x.kind = 3 ∨ x.kind = 4 then 2 else c)
theorem classR_two : ∀ l : List Change, classR l 2 = 2
  | [] => rfl
  | x :: r => by
    simp only [classR]
    have : (if (x.kind = 1 ∨ x.kind = 5) ∧ (if x.kind = 2 ∨ x.kind = 3 ∨ x.kind = 4 then (2 : Int) else 2) = 0 then (1 : Int) else if x.kind = 2 ∨ x.kind = 3 ∨ x.kind = 4 then 2 else 2) = 2 := by
      simp
    rw [this, classR_two r]
theorem classR_go : ∀ (l : List Change) (c : Int), 0 ≤ c → c ≤ 1 → classR l c = classGo l c
  | [], c, _, _ => rfl
  | x :: r, c, h0, h1 => by
    simp only [classR, classGo]
    by_cases hm : x.kind = 2 ∨ x.kind = 3 ∨ x.kind = 4
    · rw [if_pos hm, if_pos hm, if_neg (by omega), classR_two]
    · rw [if_neg hm, if_neg hm]
      by_cases hn : x.kind = 1 ∨ x.kind = 5
      · rw [if_pos hn]
        by_cases hc : c = 0
        · rw [if_pos ⟨hn, hc⟩, classR_go r 1 (by omega) (by omega)]
        · have : c = 1 := by omega
          rw [if_neg (fun h => hc h.2), this, classR_go r 1 (by omega) (by omega)]
      · rw [if_neg hn, if_neg (fun h => hn h.1), classR_go r c h0 h1]
theorem classR_F (l : List Change) : classR l 0 = classF l := classR_go l 0 (by omega) (by omega)
theorem showN_drop : ∀ (l : List Change) (k : Nat), showN (l.drop k) ≤ showN l
  | [], k => by simp
  | c :: r, 0 => Nat.le_refl _
  | c :: r, k + 1 => by have := showN_drop r k; simp only [List.drop_succ_cons, showN]; omega

/-! ### Small -/
def minN : List Change → Nat
  | [] => 0
  | c :: r => min c.name.length 20000 + 5 + minN r
theorem minN_show : ∀ l : List Change, minN l ≤ 20000 → showN l ≤ minN l
  | [], _ => Nat.le_refl _
  | c :: r, h => by
    simp only [minN, showN] at h ⊢
    have := minN_show r (by omega)
    omega
theorem minN_take_succ : ∀ (l : List Change) (k : Nat) (d : Change), k < l.length → minN (l.take (k + 1)) = minN (l.take k) + (min (l.getD k d).name.length 20000 + 5)
  | c :: r, 0, d, _ => by simp [minN]
  | c :: r, k + 1, d, h => by
    have := minN_take_succ r k d (by simpa using h)
    simp only [List.take_succ_cons, minN, List.getD_cons_succ] at this ⊢
    omega

/-! ### Awake -/
def shI : Shape := ⟨1, [], [], [], []⟩
def aw1 : List AL.Item := [⟨3, [102], ⟨6, [], [], [[97]], [shI]⟩⟩]
def aw2 : List AL.Item := [⟨3, [102], ⟨6, [], [], [[97], [98]], [shI, shI]⟩⟩, ⟨2, [75], ⟨0, [], [], [], []⟩⟩]

/-- A call without arguments. -/
def p0 (A : Ans) : Pat
  | [], [] => some A
  | _, _ => none
theorem p0_ok {P : Program} {f : Nat} {A : Ans} (he : Enters P f) (h : Meets P f [] [] A) : PatOK P f (p0 A) := by
  intro args S A' hA _ _
  unfold p0 at hA
  split at hA
  · simp only [Option.some.injEq] at hA
    subst hA
    exact ⟨he, h⟩
  · cases hA

end Go.Pd
