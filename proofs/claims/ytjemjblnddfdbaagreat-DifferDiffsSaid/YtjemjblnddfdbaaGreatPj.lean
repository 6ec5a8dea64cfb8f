/-
  Interfaces that may be, and small ones. No condition.
-/
import Derived.Test.YtjemjblnddfdbaaGreatPi
set_option linter.unusedVariables false
set_option linter.unusedSimpArgs false
set_option linter.unnecessarySimpa false
set_option linter.deprecated false
namespace Go.Pd
open Go.AL

mutual
/-- How many parts, at most so many and one more. -/
def sizeF : Shape → Int → Int
  | ⟨_, _, _, _, ps⟩, m => sizeL ps 1 m
def sizeL : List Shape → Int → Int → Int
  | [], n, _ => n
  | p :: r, n, m => if n ≤ m then sizeL r (n + sizeF p (m - n)) m else n
end
mutual
theorem sizeF_bd : ∀ (s : Shape) (m : Int), 0 ≤ m → 1 ≤ sizeF s m ∧ sizeF s m ≤ m + 1
  | ⟨_, _, _, _, ps⟩, m, h => by
    simp only [sizeF]
    exact sizeL_bd ps 1 m (by omega) (by omega)
theorem sizeL_bd : ∀ (l : List Shape) (n m : Int), 1 ≤ n → n ≤ m + 1 → 1 ≤ sizeL l n m ∧ sizeL l n m ≤ m + 1
  | [], n, m, h1, h2 => by simp only [sizeL]; omega
  | p :: r, n, m, h1, h2 => by
    simp only [sizeL]
    split
    · have := sizeF_bd p (m - n) (by omega)
      exact sizeL_bd r _ m (by omega) (by omega)
    · omega
end
def smallGo : List AL.Item → Int → Bool
  | [], _ => true
  | x :: r, n => if 6000 < n + (20 + sizeF x.shape 800) then false else smallGo r (n + (20 + sizeF x.shape 800))
def smallF (l : List AL.Item) : Bool := smallGo l 0
theorem smallGo_len : ∀ (l : List AL.Item) (n : Int), n ≤ 6000 → smallGo l n = true → 21 * (l.length : Int) ≤ 6000 - n
  | [], n, hn, _ => by simp; omega
  | x :: r, n, hn, h => by
    simp only [smallGo] at h
    split at h
    · cases h
    · have := sizeF_bd x.shape 800 (by omega)
      have := smallGo_len r _ (by omega) h
      simp only [List.length_cons]
      omega
theorem smallF_len {l : List AL.Item} (h : smallF l = true) : l.length ≤ 300 := by
  have := smallGo_len l 0 (by omega) h
  omega

def noShape : Shape := ⟨0, [], [], [], []⟩
def plainNames : List Str := [[73, 110, 116], [66, 111, 111, 108], [84, 101, 120, 116], [65, 110, 121]]
def itemF (x : AL.Item) : Bool :=
  if x.kind = 2 then upperF x.name && !decide (x.name ∈ plainNames) && eqS x.shape noShape
  else if x.kind = 1 then upperF x.name && !decide (x.name ∈ plainNames) && (closedS x.shape && eqS (sortS' x.shape) x.shape)
  else if x.kind = 3 then nameF x.name && (closedS x.shape && eqS (sortS' x.shape) x.shape)
  else false
/-- Each may be, and the names rise. -/
def ifaceGo : List AL.Item → Option Str → Bool
  | [], _ => true
  | x :: r, p => itemF x && (match p with | none => true | some n => Op.bytesLess n x.name) && ifaceGo r (some x.name)
def ifaceF (l : List AL.Item) : Int := if 60 < l.length then 160 else if ifaceGo l none = true then 0 else 160
theorem sz_sort' (s : Shape) : sz (sortS' s) = sz s := by
  unfold sortS'
  split
  · exact sz_sorted s
  · rfl

end Go.Pd
