/-
  The library's functions as entries of a list of contracts. No condition.
-/
import Derived.Test.YtjemjblnddfdbaaGreatAlT
import Derived.Test.YtjemjblnddfdbaaGreatAlW
set_option linter.unusedVariables false
set_option linter.unusedSimpArgs false
set_option linter.unnecessarySimpa false
set_option linter.deprecated false
namespace Go.AL
open Go.Proofs Go.Shelf
variable {P : Program} {ρ : Ren}

def patSorted (gv gk : Nat) : Pat := fun args S =>
  match args, S with
  | [.fn g [.ptr 900 0]], [(900, .box (.lst .str zs _))] =>
    if g = gv then some ⟨some (zs.length * 16 ≤ 140737488355328), none, .arr 0 (sortS zs).length 1, [(0, .box (.row .str (sortS zs)))]⟩ else none
  | [.fn g [.ptr 900 0]], [(900, .box (.map 901)), (901, .map .str _ m)] =>
    if g = gk then some ⟨some (m.length * 16 ≤ 140737488355328), none, .arr 0 (sortS (m.map (·.1))).length 1, [(0, .box (.row .str (sortS (m.map (·.1)))))]⟩ else none
  | _, _ => none

theorem patSorted_ok {f gv gk : Nat} (L : SortL P ρ) {ρ' : Ren} (K : SlLaysZ.n10 P ρ') (hf : ρ.f 6 = f) (hg : ρ'.f 10 = gk) (eg : ∀ args w, (callFunc gv args).run P w = .ok (.enter gv args) w) (V : ValuesL P gv) (he : Enters P f) : PatOK P f (patSorted gv gk) := by
  subst hf
  intro args S A h hob hkeys
  unfold patSorted at h
  split at h
  · split at h
    · rename_i e
      subst e
      cases h
      exact ⟨he, meets_sortedValues L eg V _ (hob _ rfl) _⟩
    · cases h
  · split at h
    · rename_i e
      subst e
      cases h
      exact ⟨he, meets_sortedKeys L K hg _ (hob _ rfl)⟩
    · cases h
  · cases h

/-- The same, where only keys are sorted. -/
theorem patSortedK_ok {f gk : Nat} (L : SortL P ρ) {ρ' : Ren} (K : SlLaysZ.n10 P ρ') (hf : ρ.f 6 = f) (hg : ρ'.f 10 = gk) (he : Enters P f) : PatOK P f fun args S =>
    match args, S with
    | [.fn g [.ptr 900 0]], [(900, .box (.map 901)), (901, .map .str _ m)] =>
      if g = gk then some ⟨some (m.length * 16 ≤ 140737488355328), none, .arr 0 (sortS (m.map (·.1))).length 1, [(0, .box (.row .str (sortS (m.map (·.1)))))]⟩ else none
    | _, _ => none := by
  subst hf
  intro args S A h hob hkeys
  simp only at h
  split at h
  · split at h
    · rename_i e
      subst e
      cases h
      exact ⟨he, meets_sortedKeys L K hg _ (hob _ rfl)⟩
    · cases h
  · cases h

def patCompact : Pat := fun args S =>
  match args, S with
  | [.arr 900 n 1], [(900, .box (.row .str ss))] =>
    some ⟨some (n = ss.length), none, .arr 900 (Lib.compact ss).length 1, [(900, .box (.row .str (Lib.compact ss ++ List.replicate (ss.length - (Lib.compact ss).length) [])))]⟩
  | _, _ => none
theorem patCompact_ok {f : Nat} (L : Lays.n194 P ρ) (hf : ρ.f 194 = f) (he : Enters P f) : PatOK P f patCompact := by
  subst hf
  intro args S A h hob hkeys
  unfold patCompact at h
  split at h
  · cases h
    exact ⟨he, meets_compact L _ _ (hob _ rfl)⟩
  · cases h

def patSortFunc (gc : Nat) : Pat := fun args S =>
  match args, S with
  | [.arr 900 n 1, .fn g [.ptr 901 0]], [(900, .box (.row (.int .i64) xs)), (901, .box (.st .shape s))] =>
    if g = gc then some ⟨some (n = xs.length ∧ xs ≠ [] ∧ (∀ x ∈ xs, 0 ≤ x ∧ x < s.names.length) ∧ s.names.Nodup ∧ xs.length < 4611686018427387904), none, .tup [], [(900, .box (.row (.int .i64) (sortIdx s.names xs)))]⟩ else none
  | _, _ => none
theorem patSortFunc_ok {f gc : Nat} (L : SlLaysF.n6 P ρ) (hf : ρ.f 6 = f) (eg : ∀ args w, (callFunc gc args).run P w = .ok (.enter gc args) w) (C : CmpC P gc) (he : Enters P f) : PatOK P f (patSortFunc gc) := by
  subst hf
  intro args S A h hob hkeys
  unfold patSortFunc at h
  split at h
  · split at h
    · rename_i e
      subst e
      cases h
      obtain ⟨h1, h2, h3, h4, h5⟩ := hob _ rfl
      exact ⟨he, meets_sortFunc L eg C _ _ _ h1 h2 h3 h4 h5 _⟩
    · cases h
  · cases h

end Go.AL
