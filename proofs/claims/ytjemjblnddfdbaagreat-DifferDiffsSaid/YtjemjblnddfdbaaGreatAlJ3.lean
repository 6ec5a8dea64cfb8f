/-
  What a call leaves to its caller. Conditions: the contracts hold.
-/
import Derived.Test.YtjemjblnddfdbaaGreatAlJ2
set_option linter.unusedVariables false
set_option linter.unusedSimpArgs false
set_option linter.unnecessarySimpa false
set_option linter.deprecated false
namespace Go.AL

theorem setSt_sound {n : SN} {off : Nat} {x : SD n} {a d : AV} (h : setSt n off x a = some d) : splice (cells (.st n) x) off (parts' a) = some (parts' d) := by
  unfold setSt at h
  split at h
  · simp at h; subst h; rfl
  · cases h
theorem putC_parts {b c d : AV} {off len : Nat} (h : putC b (some (off, len)) c = some d) : (parts' c).length = len ∧ splice (parts' b) off (parts' c) = some (parts' d) := by
  have plain : ∀ {b d : AV}, putA b off c = some d → splice (parts' b) off (parts' c) = some (parts' d) := by
    intro b d h
    unfold putA at h
    split at h
    · rename_i cs hcs; simp at h; subst h; exact hcs
    · cases h
  simp only [putC] at h
  split at h
  · rename_i hl
    refine ⟨lenIs_sound _ _ hl, ?_⟩
    split at h
    · split at h
      · rename_i n x a hs
        simp at h
        subst h
        exact setSt_sound hs
      · exact plain h
    · exact plain h
  · cases h

/-- Which of the callee's slots a name is. -/
def newOf (d i : Nat) : Option Nat := if 1000 ≤ i ∧ i % 1000 = d then some (i / 1000 - 1) else none
theorem newOf_nid {d k : Nat} (hd : d < 1000) : newOf d (nid d k) = some k := by
  unfold newOf nid
  rw [if_pos ⟨by omega, by omega⟩]
  congr 1
  omega
theorem nid_newOf {d i k : Nat} (h : newOf d i = some k) : i = nid d k := by
  unfold newOf at h
  split at h
  · simp at h
    unfold nid
    omega
  · cases h

def eNew (L : List Lent) (d : Nat) (e e' : Nat → Option CObj) (i : Nat) : Option CObj :=
  match idx L i 900 with
  | some (k, none) => e' k
  | some (_, some _) => e i
  | none =>
    match newOf d i with
    | some k => (match lentAt L k with | some _ => e i | none => (match e' k with | some c => some c | none => e i))
    | none => e i

theorem updB_cases : ∀ (u : List (Nat × SObj)) (B : Nat → Option SObj) (id : Nat) (o : SObj), updB B u id = some o → (id, o) ∈ u ∨ (B id = some o ∧ id ∉ u.map (·.1))
  | [], B, id, o, h => Or.inr ⟨h, by simp⟩
  | (j, x) :: u, B, id, o, h => by
    simp only [updB] at h
    rcases updB_cases u _ id o h with k | ⟨k1, k2⟩
    · exact Or.inl (List.mem_cons_of_mem _ k)
    · by_cases hj : j = id
      · subst hj
        simp at k1
        subst k1
        exact Or.inl (List.mem_cons_self ..)
      · simp only [if_neg hj] at k1
        refine Or.inr ⟨k1, ?_⟩
        simp only [List.map_cons, List.mem_cons, not_or]
        exact ⟨fun e => hj e.symm, k2⟩
theorem updB_none : ∀ (u : List (Nat × SObj)) (B : Nat → Option SObj) (id : Nat), updB B u id = none → B id = none ∧ id ∉ u.map (·.1)
  | [], B, id, h => ⟨h, by simp⟩
  | (j, x) :: u, B, id, h => by
    simp only [updB] at h
    obtain ⟨k1, k2⟩ := updB_none u _ id h
    by_cases hj : j = id
    · subst hj; simp at k1
    · simp only [if_neg hj] at k1
      refine ⟨k1, ?_⟩
      simp only [List.map_cons, List.mem_cons, not_or]
      exact ⟨fun e => hj e.symm, k2⟩

/-- What stands in the caller's list of turned slots. -/
theorem backU_mem {look : Nat → Option SObj} {L : List Lent} {d : Nat} : ∀ (u u' : List (Nat × SObj)), backU look L d u = some u' →
    (∀ id o', (id, o') ∈ u' → ∃ k o, (k, o) ∈ u ∧ ((∃ r old, lentAt L k = some (id, r) ∧ look id = some old ∧ backO L d r (some old) o = some o') ∨
      (lentAt L k = none ∧ id = nid d k ∧ look id = none ∧ backO L d none none o = some o'))) ∧
    (∀ k o, (k, o) ∈ u → (∃ i r, lentAt L k = some (i, r) ∧ i ∈ u'.map (·.1)) ∨ (lentAt L k = none ∧ look (nid d k) = none ∧ nid d k ∈ u'.map (·.1)))
  | [], u', h => by simp [backU] at h; subst h; exact ⟨fun id o h => by simp at h, fun k o h => by simp at h⟩
  | (k, o) :: u, u', h => by
    simp only [backU] at h
    split at h
    · rename_i i r hk
      split at h
      · rename_i old hold
        split at h
        · rename_i o1 u1 h1 h2
          simp at h
          subst h
          obtain ⟨q1, q2⟩ := backU_mem u u1 h2
          refine ⟨fun id o' hm => ?_, fun k2 o2 hm => ?_⟩
          · simp at hm
            rcases hm with ⟨rfl, rfl⟩ | hm
            · exact ⟨k, o, by simp, Or.inl ⟨r, old, hk, hold, h1⟩⟩
            · obtain ⟨k2, o2, m1, m2⟩ := q1 id o' hm
              exact ⟨k2, o2, List.mem_cons_of_mem _ m1, m2⟩
          · simp at hm
            rcases hm with ⟨rfl, rfl⟩ | hm
            · exact Or.inl ⟨i, r, hk, by simp⟩
            · rcases q2 k2 o2 hm with ⟨i2, r2, m1, m2⟩ | ⟨m1, m2, m3⟩
              · exact Or.inl ⟨i2, r2, m1, by simp only [List.map_cons]; exact List.mem_cons_of_mem _ m2⟩
              · exact Or.inr ⟨m1, m2, by simp only [List.map_cons]; exact List.mem_cons_of_mem _ m3⟩
        · cases h
      · cases h
    · rename_i hk
      split at h
      · rename_i hn
        split at h
        · rename_i o1 u1 h1 h2
          simp at h
          subst h
          obtain ⟨q1, q2⟩ := backU_mem u u1 h2
          refine ⟨fun id o' hm => ?_, fun k2 o2 hm => ?_⟩
          · simp at hm
            rcases hm with ⟨rfl, rfl⟩ | hm
            · exact ⟨k, o, by simp, Or.inr ⟨hk, rfl, hn, h1⟩⟩
            · obtain ⟨k2, o2, m1, m2⟩ := q1 id o' hm
              exact ⟨k2, o2, List.mem_cons_of_mem _ m1, m2⟩
          · simp at hm
            rcases hm with ⟨rfl, rfl⟩ | hm
            · exact Or.inr ⟨hk, hn, by simp⟩
            · rcases q2 k2 o2 hm with ⟨i2, r2, m1, m2⟩ | ⟨m1, m2, m3⟩
              · exact Or.inl ⟨i2, r2, m1, by simp only [List.map_cons]; exact List.mem_cons_of_mem _ m2⟩
              · exact Or.inr ⟨m1, m2, by simp only [List.map_cons]; exact List.mem_cons_of_mem _ m3⟩
        · cases h
      · cases h

theorem bset_get (l : List (Nat × SObj)) (i : Nat) (v : SObj) (j : Nat) : bget (bset l i v) j = if i = j then some v else bget l j := by
  induction l with
  | nil => simp [bset, bget]
  | cons x r ih =>
    obtain ⟨k, u⟩ := x
    simp only [bset]
    by_cases hk : k = i
    · subst hk
      simp only [beq_self_eq_true, if_true, bget, beq_iff_eq]
      by_cases h : k = j <;> simp [h]
    · simp only [beq_iff_eq, hk, if_false, bget, ih]
      by_cases h : k = j
      · subst h
        have : ¬ i = k := fun e => hk e.symm
        simp [this]
      · simp [h]
theorem putB_out : ∀ (u B : List (Nat × SObj)) (k : Nat), k ∉ u.map (·.1) → bget (putB B u) k = bget B k
  | [], B, k, _ => rfl
  | (j, x) :: u, B, k, h => by
    simp only [List.map_cons, List.mem_cons, not_or] at h
    simp only [putB]
    rw [putB_out u _ k h.2, bset_get, if_neg (fun e => h.1 e.symm)]
theorem putB_in : ∀ (u B : List (Nat × SObj)) (k : Nat) (o : SObj), distinct (u.map (·.1)) = true → (k, o) ∈ u → bget (putB B u) k = some o
  | [], B, k, o, _, h => by simp at h
  | (j, x) :: u, B, k, o, hd, h => by
    simp only [List.map_cons, distinct, Bool.and_eq_true, Bool.not_eq_true', List.contains_eq_mem, decide_eq_false_iff_not] at hd
    simp only [putB]
    simp at h
    rcases h with ⟨rfl, rfl⟩ | h
    · rw [putB_out u _ k hd.1, bset_get, if_pos rfl]
    · exact putB_in u _ k o hd.2 h

theorem bget_mem' : ∀ (l : List (Nat × SObj)) (i : Nat) (o : SObj), bget l i = some o → (i, o) ∈ l
  | [], i, o, h => by simp [bget] at h
  | (j, v) :: r, i, o, h => by
    simp only [bget] at h
    by_cases hj : j = i
    · subst hj; simp at h; simp [h]
    · simp only [beq_iff_eq, hj, if_false] at h
      exact List.mem_cons_of_mem _ (bget_mem' r i o h)

/-- The slots behind a call, as the callee says of them. -/
theorem fullU_get {S u : List (Nat × SObj)} (hd : distinct (u.map (·.1)) = true) (hS : ∀ x ∈ S, bget S x.1 = some x.2) {k : Nat} {o : SObj} (h : (k, o) ∈ fullU S u) : bget (putB S u) k = some o := by
  simp only [fullU, List.mem_append, List.mem_filter, Bool.not_eq_true', List.contains_eq_mem, decide_eq_false_iff_not] at h
  rcases h with h | ⟨h1, h2⟩
  · exact putB_in u S k o hd h
  · rw [putB_out u S k h2]
    exact hS _ h1

end Go.AL
