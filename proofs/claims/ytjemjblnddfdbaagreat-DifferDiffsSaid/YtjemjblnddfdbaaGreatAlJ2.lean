/-
  Calls by contract, with slots that are lent. Conditions: the contracts hold.
-/
import Derived.Test.YtjemjblnddfdbaaGreatAlJ
set_option linter.unusedVariables false
set_option linter.unusedSimpArgs false
set_option linter.unnecessarySimpa false
set_option linter.deprecated false
namespace Go.AL

/-! ### Lists of lent slots -/
theorem idx_spec : ∀ (L : List Lent) (i j k : Nat) (r : Option (Nat × Nat)), idx L i j = some (k, r) → j ≤ k ∧ nth L (k - j) = some (i, r)
  | [], i, j, k, r, h => by simp [idx] at h
  | (m, q) :: l, i, j, k, r, h => by
    simp only [idx] at h
    by_cases hm : m = i
    · subst hm
      simp at h
      obtain ⟨rfl, rfl⟩ := h
      simp [nth]
    · simp only [beq_iff_eq, hm, if_false] at h
      obtain ⟨h1, h2⟩ := idx_spec l i (j + 1) k r h
      refine ⟨by omega, ?_⟩
      rw [show k - j = (k - (j + 1)) + 1 by omega]
      exact h2
theorem idx_none : ∀ (L : List Lent) (i j : Nat), idx L i j = none → ∀ k x, nth L k = some x → x.1 ≠ i
  | [], i, j, _, k, x, h => by simp [nth] at h
  | (m, q) :: l, i, j, h, k, x, hx => by
    simp only [idx] at h
    by_cases hm : m = i
    · subst hm; simp at h
    · simp only [beq_iff_eq, hm, if_false] at h
      cases k with
      | zero => simp [nth] at hx; subst hx; exact hm
      | succ k => exact idx_none l i (j + 1) h k x hx
theorem nth_mem {α : Type} : ∀ (l : List α) (k : Nat) (x : α), nth l k = some x → x ∈ l
  | [], k, x, h => by simp [nth] at h
  | a :: l, 0, x, h => by simp [nth] at h; simp [h]
  | a :: l, k + 1, x, h => List.mem_cons_of_mem _ (nth_mem l k x h)
theorem idx_nth : ∀ (L : List Lent) (i j k : Nat) (r : Option (Nat × Nat)), distinct (L.map (·.1)) = true → nth L k = some (i, r) → idx L i j = some (j + k, r)
  | [], i, j, k, r, _, h => by simp [nth] at h
  | (m, q) :: l, i, j, 0, r, _, h => by simp [nth] at h; obtain ⟨rfl, rfl⟩ := h; simp [idx]
  | (m, q) :: l, i, j, k + 1, r, hd, h => by
    simp only [List.map_cons, distinct, Bool.and_eq_true, Bool.not_eq_true'] at hd
    have hm : (i, r) ∈ l := nth_mem l k _ h
    have hne : ¬ m = i := by
      intro e
      subst e
      have : m ∈ l.map (·.1) := List.mem_map.2 ⟨(m, r), hm, rfl⟩
      have h1 := hd.1
      rw [List.contains_eq_mem] at h1
      simp only [decide_eq_false_iff_not] at h1
      exact h1 this
    simp only [idx, beq_iff_eq, hne, if_false]
    rw [idx_nth l i (j + 1) k r hd.2 h]
    congr 2
    omega

theorem lentAt_spec {L : List Lent} {k : Nat} {x : Lent} (h : lentAt L k = some x) : 900 ≤ k ∧ nth L (k - 900) = some x := by
  unfold lentAt at h
  split at h
  · rename_i hk; exact ⟨by simpa using hk, h⟩
  · cases h
theorem lentAt_idx {L : List Lent} {i k : Nat} {r : Option (Nat × Nat)} (h : idx L i 900 = some (k, r)) : lentAt L k = some (i, r) := by
  obtain ⟨h1, h2⟩ := idx_spec L i 900 k r h
  unfold lentAt
  split
  · exact h2
  · rename_i hk
    simp at hk
    omega
theorem idx_lentAt {L : List Lent} (hd : distinct (L.map (·.1)) = true) {i k : Nat} {r : Option (Nat × Nat)} (h : lentAt L k = some (i, r)) : idx L i 900 = some (k, r) := by
  obtain ⟨h1, h2⟩ := lentAt_spec h
  have := idx_nth L i 900 _ r hd h2
  rwa [show 900 + (k - 900) = k by omega] at this

/-- What stands behind the callee's names. -/
def eCan (L : List Lent) (e : Nat → Option CObj) (k : Nat) : Option CObj :=
  match lentAt L k with
  | some (i, none) => e i
  | some (i, some (off, len)) => (match e i with | some (.box b o _) => some (.box b (o + off) len) | _ => none)
  | none => none

theorem names_to (L : List Lent) (e : Nat → Option CObj) : Names (toP L) (toI L) (toI L) e (eCan L e) := by
  have hi : ∀ i i', toI L i = some i' → ∀ c, e i = some c → eCan L e i' = some c := by
    intro i i' h c hc
    unfold toI at h
    split at h
    · rename_i k hk
      simp at h
      subst h
      simp only [eCan, lentAt_idx hk, hc]
    · cases h
  refine ⟨fun i o i' o' h b p l he => ?_, hi, hi⟩
  unfold toP at h
  split at h
  · rename_i k hk
    simp at h
    obtain ⟨rfl, rfl⟩ := h
    exact ⟨p, l, by simp only [eCan, lentAt_idx hk, he], rfl⟩
  · rename_i k off len hk
    split at h
    · rename_i hb
      simp at h hb
      obtain ⟨rfl, rfl⟩ := h
      exact ⟨p + off, len, by simp only [eCan, lentAt_idx hk, he], by omega⟩
    · cases h
  · cases h

theorem canS_spec {look : Nat → Option SObj} {L : List Lent} : ∀ (l : List Lent) (j : Nat) (S : List (Nat × SObj)), canS look L l j = some S →
    (∀ id o', bget S id = some o' → ∃ q i r o, id = j + q ∧ nth l q = some (i, r) ∧ look i = some o ∧ canO L r o = some o') ∧
    (∀ q i r, nth l q = some (i, r) → ∃ o o', look i = some o ∧ canO L r o = some o' ∧ bget S (j + q) = some o') ∧ (∀ x ∈ S, j ≤ x.1 ∧ x.1 < j + l.length)
  | [], j, S, h => by simp [canS] at h; subst h; exact ⟨fun id o' h => by simp [bget] at h, fun q i r h => by simp [nth] at h, fun x hx => by simp at hx⟩
  | (i, r) :: l, j, S, h => by
    simp only [canS] at h
    split at h
    · rename_i o ho
      split at h
      · rename_i o' S' h1 h2
        simp at h
        subst h
        obtain ⟨k1, k2, k3⟩ := canS_spec l (j + 1) S' h2
        refine ⟨fun id o2 hb => ?_, fun q i2 r2 hq => ?_, fun x hx => ?_⟩
        · simp only [bget] at hb
          by_cases hj : j = id
          · subst hj
            simp at hb
            subst hb
            exact ⟨0, i, r, o, rfl, rfl, ho, h1⟩
          · simp only [beq_iff_eq, hj, if_false] at hb
            obtain ⟨q, i2, r2, o3, e1, e2, e3, e4⟩ := k1 id o2 hb
            exact ⟨q + 1, i2, r2, o3, by omega, e2, e3, e4⟩
        · cases q with
          | zero => simp [nth] at hq; obtain ⟨rfl, rfl⟩ := hq; exact ⟨o, o', ho, h1, by simp [bget]⟩
          | succ q =>
            obtain ⟨o3, o4, e1, e2, e3⟩ := k2 q i2 r2 hq
            refine ⟨o3, o4, e1, e2, ?_⟩
            have : ¬ j = j + (q + 1) := by omega
            simp only [bget, beq_iff_eq, this, if_false]
            rw [show j + (q + 1) = j + 1 + q by omega]
            exact e3
        · simp at hx
          rcases hx with rfl | hx
          · simp
          · have := k3 x hx
            simp
            omega
      · cases h
    · cases h

theorem subC_parts {c c1 : AV} {r : Option (Nat × Nat)} (h : subC c r = some c1) : match r with | none => c1 = c | some (off, len) => sub (parts' c) off len = some (parts' c1) := by
  have plain : ∀ {c c1 : AV} {off len : Nat}, subA c off len = some c1 → sub (parts' c) off len = some (parts' c1) := by
    intro c c1 off len h
    unfold subA at h
    split at h
    · rename_i cs hcs; simp at h; subst h; exact hcs
    · cases h
  cases r with
  | none => simp [subC] at h; exact h.symm
  | some x =>
    obtain ⟨off, len⟩ := x
    cases c with
    | st n x =>
      simp only [subC] at h
      split at h
      · rename_i m y hs
        split at h
        · rename_i hw
          simp at h
          subst h
          have := subSt_sound hs
          rw [hw] at this
          exact this
        · exact plain h
      · exact plain h
    | _ => exact plain (by simpa only [subC] using h)

theorem SlotOK.own_of {Ω : Om} {own own' : Nat → Nat → Prop} {id : Nat} {o : SObj} (h : SlotOK Ω own id o) (hc : ∀ c b o, Ω.e id = some c → occ c b o → own' b o) : SlotOK Ω own' id o := by
  cases o with
  | box c =>
    obtain ⟨b, off, e1, e2⟩ := h
    refine ⟨b, off, e1, fun j c' hj => ?_⟩
    obtain ⟨_, k⟩ := e2 j c' hj
    have hl : j < (parts' c).length := by
      rcases Nat.lt_or_ge j (parts' c).length with k | k
      · exact k
      · rw [List.getElem?_eq_none k] at hj; cases hj
    exact ⟨hc _ _ _ e1 ⟨rfl, by omega, by omega⟩, k⟩
  | tail τ n =>
    obtain ⟨base, cap, e1, e2, e3, e4, e5⟩ := h
    exact ⟨base, cap, e1, e2, e3, e4, fun b hb => ⟨fun o => hc _ _ _ e1 hb, (e5 b hb).2⟩⟩
  | map κ τ m =>
    obtain ⟨r, e1, _, e3⟩ := h
    exact ⟨r, e1, fun o => hc _ _ _ e1 rfl, e3⟩
  | bld t u l =>
    obtain ⟨b, g, e1, e2, e3⟩ := h
    exact ⟨b, g, e1, fun b' hb o => ⟨hc _ _ _ e1 hb, (e2 b' hb o).2⟩, e3⟩

/-- What a slot takes up is its owner's. -/
theorem SlotOK.owns {Ω : Om} {own : Nat → Nat → Prop} {id : Nat} {ob : SObj} (h : SlotOK Ω own id ob) {c : CObj} (hc : Ω.e id = some c) {b o : Nat} (ho : occ c b o) : own b o := by
  cases ob with
  | box x =>
    obtain ⟨b', off, e1, e2⟩ := h
    rw [hc] at e1
    simp at e1
    subst e1
    obtain ⟨rfl, h1, h2⟩ := ho
    have hj : o - off < (parts' x).length := by omega
    have := (e2 (o - off) _ (List.getElem?_eq_getElem hj)).1
    rwa [show off + (o - off) = o by omega] at this
  | tail τ n =>
    obtain ⟨base, cap, e1, e2, e3, e4, e5⟩ := h
    rw [hc] at e1
    simp at e1
    subst e1
    exact (e5 b ho).1 o
  | map κ τ m =>
    obtain ⟨r, e1, e2, _⟩ := h
    rw [hc] at e1
    simp at e1
    subst e1
    have : b = r := ho
    subst this
    exact e2 o
  | bld t u l =>
    obtain ⟨b', g, e1, e2, _⟩ := h
    rw [hc] at e1
    simp at e1
    subst e1
    exact (e2 b ho o).1

theorem Holds.owns {F : Fr} {s : AS} {a : Act} {Ω : Om} (h : Holds F s a Ω) {id : Nat} {c : CObj} (hc : Ω.e id = some c) {b o : Nat} (ho : occ c b o) : F.own b o := by
  cases hB : s.B id with
  | none => rw [h.dom id hB] at hc; cases hc
  | some ob => exact (h.slots id ob hB).owns hc ho

/-- A slot as the callee sees it. -/
theorem slot_can {Ω : Om} {own : Nat → Nat → Prop} {L : List Lent} {k i : Nat} {r : Option (Nat × Nat)} {o o' : SObj} (hk : lentAt L k = some (i, r)) (hs : SlotOK Ω own i o) (hc : canO L r o = some o') :
    SlotOK ⟨eCan L Ω.e, Ω.w, Ω.pub⟩ (fun _ _ => True) k o' := by
  cases o with
  | box c =>
    simp only [canO] at hc
    split at hc
    · rename_i c1 h1
      split at hc
      · rename_i c2 h2
        simp at hc
        subst hc
        obtain ⟨b, off, e1, e2⟩ := hs
        obtain ⟨m1, m2⟩ := mapV_parts h2
        have hp := subC_parts h1
        cases r with
        | none =>
          simp only at hp
          subst hp
          refine ⟨b, off, by simp only [eCan, hk, e1, m1], fun j c' hj => ?_⟩
          have hl : j < (parts' c1).length := by
            rw [m1]
            rcases Nat.lt_or_ge j (parts' c2).length with k | k
            · exact k
            · rw [List.getElem?_eq_none k] at hj; cases hj
          obtain ⟨k1, k2, k3, v, k4, k5⟩ := e2 j _ (List.getElem?_eq_getElem hl)
          exact ⟨trivial, k2, k3, v, k4, k5.mapV (names_to L Ω.e) (m2 j _ c' (List.getElem?_eq_getElem hl) hj)⟩
        | some x =>
          obtain ⟨o2, len⟩ := x
          simp only at hp
          obtain ⟨s1, s2⟩ := sub_sound hp
          have hlen : (parts' c1).length = len := by rw [s2]; simp; omega
          refine ⟨b, off + o2, by simp only [eCan, hk, e1]; rw [← m1, hlen], fun j c' hj => ?_⟩
          have hl : j < (parts' c1).length := by
            rw [m1]
            rcases Nat.lt_or_ge j (parts' c2).length with k | k
            · exact k
            · rw [List.getElem?_eq_none k] at hj; cases hj
          obtain ⟨x, hx⟩ : ∃ x, (parts' c1)[j]? = some x := ⟨_, List.getElem?_eq_getElem hl⟩
          have hcj : (parts' c)[o2 + j]? = some x := by
            have := hx
            rw [s2, List.getElem?_take] at this
            split at this
            · rw [List.getElem?_drop] at this
              exact this
            · cases this
          obtain ⟨k1, k2, k3, v, k4, k5⟩ := e2 _ _ hcj
          rw [Nat.add_assoc]
          exact ⟨trivial, k2, k3, v, k4, k5.mapV (names_to L Ω.e) (m2 j _ c' hx hj)⟩
      · cases hc
    · cases hc
  | tail τ n =>
    cases r with
    | some _ => simp [canO] at hc
    | none =>
      simp [canO] at hc
      subst hc
      obtain ⟨base, cap, e1, e2, e3, e4, e5⟩ := hs
      exact ⟨base, cap, by simp only [eCan, hk, e1], e2, e3, e4, fun b hb => ⟨fun _ => trivial, (e5 b hb).2⟩⟩
  | map κ τ m =>
    cases r with
    | some _ => simp [canO] at hc
    | none =>
      simp [canO] at hc
      subst hc
      obtain ⟨r, e1, e2, es, clock, e3, e4⟩ := hs
      exact ⟨r, by simp only [eCan, hk, e1], fun _ => trivial, es, clock, e3, e4.data⟩
  | bld t u l =>
    cases r with
    | some _ => simp [canO] at hc
    | none =>
      simp [canO] at hc
      subst hc
      obtain ⟨b, g, e1, e2, e3⟩ := hs
      exact ⟨b, g, by simp only [eCan, hk, e1], fun b' hb o => ⟨trivial, (e2 b' hb o).2⟩, e3⟩

theorem eCan_occ {L : List Lent} {Ω : Om} {own : Nat → Nat → Prop} {B : Nat → Option SObj} (hs : ∀ id o, B id = some o → SlotOK Ω own id o) (hL : ∀ q i r, nth L q = some (i, r) → ∃ o o', B i = some o ∧ canO L r o = some o')
    {k : Nat} {c : CObj} (h : eCan L Ω.e k = some c) : ∃ i r c0, lentAt L k = some (i, r) ∧ Ω.e i = some c0 ∧ ∀ b o, occ c b o → occ c0 b o := by
  unfold eCan at h
  split at h
  · rename_i i hk
    exact ⟨i, none, c, hk, h, fun _ _ ho => ho⟩
  · rename_i i off len hk
    split at h
    · rename_i b p l he
      simp at h
      subst h
      refine ⟨i, _, _, hk, he, fun b' o ho => ?_⟩
      obtain ⟨h1, h2, h3⟩ := ho
      subst h1
      -- the part lies in the whole
      obtain ⟨_, hn⟩ := lentAt_spec hk
      obtain ⟨ob, ob', hB, hc⟩ := hL _ _ _ hn
      cases ob with
      | box x =>
        simp only [canO] at hc
        split at hc
        · rename_i c1 h1
          have hp := subC_parts h1
          simp only at hp
          obtain ⟨s1, _⟩ := sub_sound hp
          obtain ⟨b2, off2, e1, _⟩ := hs i _ hB
          rw [he] at e1
          simp at e1
          obtain ⟨rfl, rfl, rfl⟩ := e1
          exact ⟨rfl, by omega, by omega⟩
        · cases hc
      | tail _ _ => simp [canO] at hc
      | map _ _ _ => simp [canO] at hc
      | bld _ _ _ => simp [canO] at hc
    · cases h
  · cases h

end Go.AL
