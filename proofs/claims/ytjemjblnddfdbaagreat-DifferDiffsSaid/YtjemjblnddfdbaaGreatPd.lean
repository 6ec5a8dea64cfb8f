/-
  What the functions of layer differ and below compute, in plain Lean. Nothing is proved here; no condition.
-/
import Derived.Test.YtjemjblnddfdbaaGreatAlY
set_option linter.unusedVariables false
set_option linter.unusedSimpArgs false
set_option linter.unnecessarySimpa false
set_option linter.deprecated false
namespace Go.Pd
open Go.AL

/-! ### lex -/
def smallI (c : Int) : Bool := decide (97 ≤ c) && decide (c ≤ 122)
def greatI (c : Int) : Bool := decide (65 ≤ c) && decide (c ≤ 90)
def digitI (c : Int) : Bool := decide (48 ≤ c) && decide (c ≤ 57)
def restI (c : Int) : Bool := smallI c || greatI c || digitI c || decide (c = 95)
def bI (b : UInt8) : Int := (b.toNat : Int)
def namedF (first : Int → Bool) (s : Str) : Bool := !decide (s = []) && decide (s.length ≤ 24) && first (bI (s.getD 0 0)) && s.all fun c => restI (bI c)
def str (s : String) : Str := s.toUTF8.data.toList
def words : List Str := [[109, 111, 100, 117, 108, 101], [105, 109, 112, 111, 114, 116], [112, 105, 110], [114, 97, 110, 103, 101], [116, 121, 112, 101], [111, 112, 97, 113, 117, 101], [108, 101, 116], [105, 110], [101, 120, 112, 111, 114, 116], [102, 117, 110], [105, 102], [116, 104, 101, 110], [101, 108, 115, 101], [99, 97, 115, 101], [111, 102], [97, 115], [110, 101, 119], [114, 97, 119], [116, 114, 117, 101], [102, 97, 108, 115, 101]]
def wordF (s : Str) : Bool := decide (s ∈ words)
def nameF (s : Str) : Bool := namedF smallI s && !wordF s
def upperF (s : Str) : Bool := namedF greatI s

/-! ### differ -/
def classGo : List Change → Int → Int
  | [], c => c
  | x :: r, c => if x.kind = 2 ∨ x.kind = 3 ∨ x.kind = 4 then 2 else if x.kind = 1 ∨ x.kind = 5 then classGo r 1 else classGo r c
def classF (l : List Change) : Int := classGo l 0

/-! ### shapes -/
mutual
def sz : Shape → Nat
  | ⟨_, _, _, _, ps⟩ => szL ps + 1
def szL : List Shape → Nat
  | [] => 0
  | p :: r => sz p + szL r
end
mutual
def eqS : Shape → Shape → Bool
  | ⟨k, p, n, ns, ps⟩, ⟨k', p', n', ns', ps'⟩ => decide (k = k') && decide (p = p') && decide (n = n') && decide (ns = ns') && eqL ps ps'
def eqL : List Shape → List Shape → Bool
  | [], [] => true
  | a :: r, b :: s => eqS a b && eqL r s
  | _, _ => false
end
mutual
def allS (f : Shape → Bool) : Shape → Bool
  | ⟨k, p, n, ns, ps⟩ => f ⟨k, p, n, ns, ps⟩ && allL f ps
def allL (f : Shape → Bool) : List Shape → Bool
  | [] => true
  | p :: r => allS f p && allL f r
end
mutual
/-- The greatest level, from a level on. -/
def deepS : Shape → Int → Int
  | ⟨_, _, _, _, ps⟩, l => deepL ps (l + 1) l
def deepL : List Shape → Int → Int → Int
  | [], _, d => d
  | p :: r, l, d => deepL r l (max d (deepS p l))
end
def plainF (s : Str) : Bool := decide (s = [73, 110, 116]) || decide (s = [66, 111, 111, 108]) || decide (s = [84, 101, 120, 116]) || decide (s = [65, 110, 121])
def idxGo : List Str → Str → Int → Int
  | [], _, _ => -1
  | a :: r, v, i => if a = v then i else idxGo r v (i + 1)

/-! ### Small facts -/
theorem sz_eq (a : Shape) : sz a = szL a.parts + 1 := by cases a; rfl
theorem sz_mem : ∀ {l : List Shape} {a : Shape}, a ∈ l → sz a ≤ szL l
  | b :: r, a, h => by
    simp only [szL]
    rcases List.mem_cons.1 h with rfl | h
    · omega
    · have := sz_mem h; omega
theorem eqL_len : ∀ {a b : List Shape}, a.length ≠ b.length → eqL a b = false
  | [], [], h => absurd rfl h
  | [], _ :: _, _ => rfl
  | _ :: _, [], _ => rfl
  | a :: r, b :: s, h => by
    simp only [eqL]
    rw [eqL_len (fun e => h (by simp [e]))]
    simp

theorem idxGo_pos : ∀ (a : List Str) (v : Str) (i : Int), 0 ≤ i → (0 ≤ idxGo a v i ↔ v ∈ a)
  | [], v, i, _ => by simp [idxGo]
  | x :: r, v, i, h => by
    simp only [idxGo, List.mem_cons]
    by_cases e : x = v
    · simp [e, h]
    · rw [if_neg e, idxGo_pos r v (i + 1) (by omega)]
      constructor
      · exact Or.inr
      · rintro (rfl | h)
        · exact absurd rfl e
        · exact h


/-! ### Names with parts -/
def namedOK (s : Shape) : Bool := decide (s.names.length = s.parts.length) && s.names.all nameF && decide s.names.Nodup

/-! ### What fits -/
def fitsF (s : Shape) : Bool :=
  let bare := decide (s.pkg = []) && decide (s.name = [])
  if s.kind = 1 ∨ s.kind = 2 ∨ s.kind = 3 ∨ s.kind = 4 then bare && decide (s.names = []) && decide (s.parts = [])
  else if s.kind = 5 then bare && decide (s.names = []) && decide (s.parts.length = 1)
  else if s.kind = 6 ∨ s.kind = 7 then bare && namedOK s
  else if s.kind = 8 then bare && decide (s.names = []) && !decide (s.parts = [])
  else if s.kind = 9 then upperF s.name && (decide (s.pkg = []) && !plainF s.name || nameF s.pkg) && decide (s.names = []) && decide (s.parts = [])
  else if s.kind = 10 then upperF s.name && nameF s.pkg && decide (s.names = []) && decide (s.parts = [])
  else false

theorem sz_pos (a : Shape) : 0 < sz a := by rw [sz_eq]; omega
theorem szL_len : ∀ (l : List Shape), l.length ≤ szL l
  | [] => Nat.zero_le _
  | a :: r => by
    have := szL_len r
    have := sz_pos a
    simp only [szL, List.length_cons]
    omega
theorem allS_eq (f : Shape → Bool) (s : Shape) : allS f s = (f s && allL f s.parts) := by cases s; rfl

/-! ### In order -/
def rangeI (n : Nat) : List Int := (List.range n).map fun (i : Nat) => (i : Int)
def places (s : Shape) : List Int := if s.names = [] then rangeI s.parts.length else sortIdx s.names (rangeI s.parts.length)
def dflS : Shape := ⟨0, [], [], [], []⟩
mutual
def sortedS : Shape → Shape
  | ⟨k, p, n, ns, ps⟩ => ⟨k, p, n, if ns = [] then [] else (places ⟨k, p, n, ns, ps⟩).map (nameAt ns), (places ⟨k, p, n, ns, ps⟩).map fun i => (sortedL ps).getD i.toNat dflS⟩
def sortedL : List Shape → List Shape
  | [] => []
  | p :: r => sortedS p :: sortedL r
end
/-- May a part be put in order? -/
def orderly (s : Shape) : Bool := decide (s.names = []) || (decide (s.names.length = s.parts.length) && decide s.names.Nodup)

theorem rangeI_length (n : Nat) : (rangeI n).length = n := by simp [rangeI]
theorem rangeI_succ (n : Nat) : rangeI (n + 1) = rangeI n ++ [(n : Int)] := by simp [rangeI, List.range_succ]
theorem mem_rangeI {n : Nat} {x : Int} : x ∈ rangeI n ↔ 0 ≤ x ∧ x < n := by
  simp only [rangeI, List.mem_map, List.mem_range]
  constructor
  · rintro ⟨i, hi, rfl⟩; omega
  · rintro ⟨h1, h2⟩; exact ⟨x.toNat, by omega, by omega⟩
theorem places_perm (s : Shape) : (places s).Perm (rangeI s.parts.length) := by
  unfold places
  split
  · exact .refl _
  · exact List.mergeSort_perm _ _
theorem places_length (s : Shape) : (places s).length = s.parts.length := by rw [(places_perm s).length_eq, rangeI_length]
theorem mem_places {s : Shape} {x : Int} : x ∈ places s ↔ 0 ≤ x ∧ x < s.parts.length := by rw [(places_perm s).mem_iff, mem_rangeI]
theorem range_set {k n : Nat} (h : k < n) : (rangeI k ++ List.replicate (n - k) (0 : Int)).set k (k : Int) = rangeI (k + 1) ++ List.replicate (n - (k + 1)) 0 := by
  rw [List.set_append_right _ _ (by rw [rangeI_length]; omega), rangeI_length, Nat.sub_self, show n - k = (n - (k + 1)) + 1 by omega, List.replicate_succ, List.set_cons_zero, rangeI_succ, List.append_assoc]
  rfl
theorem take_getD {α : Type} (l : List α) (k : Nat) (d : α) (h : k < l.length) : l.take (k + 1) = l.take k ++ [l.getD k d] := by
  rw [List.take_add_one, List.getD_eq_getElem?_getD, List.getElem?_eq_getElem h]
  rfl

theorem allL_mem {f : Shape → Bool} : ∀ {l : List Shape}, allL f l = true → ∀ {a : Shape}, a ∈ l → allS f a = true
  | b :: r, h, a, ha => by
    simp only [allL, Bool.and_eq_true] at h
    rcases List.mem_cons.1 ha with rfl | ha
    · exact h.1
    · exact allL_mem h.2 ha
theorem sortedL_length : ∀ (l : List Shape), (sortedL l).length = l.length
  | [] => rfl
  | a :: r => by simp [sortedL, sortedL_length r]
theorem sortedL_getD : ∀ (l : List Shape) (i : Nat) (d e : Shape), i < l.length → (sortedL l).getD i d = sortedS (l.getD i e)
  | a :: r, 0, d, e, _ => rfl
  | a :: r, i + 1, d, e, h => by
    have := sortedL_getD r i d e (by simpa using h)
    simpa [sortedL] using this

end Go.Pd
