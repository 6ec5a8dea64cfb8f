/-
  What a call leaves to its caller: the slots, and the rest. Conditions: the contracts hold.
-/
import Derived.Test.YtjemjblnddfdbaaGreatAlJ3
set_option linter.unusedVariables false
set_option linter.unusedSimpArgs false
set_option linter.unnecessarySimpa false
set_option linter.deprecated false
namespace Go.AL

theorem canS_mem {look : Nat → Option SObj} {L : List Lent} : ∀ (l : List Lent) (j : Nat) (S : List (Nat × SObj)), canS look L l j = some S → ∀ x ∈ S, bget S x.1 = some x.2
  | [], j, S, h, x, hx => by simp [canS] at h; subst h; simp at hx
  | (i, r) :: l, j, S, h, x, hx => by
    simp only [canS] at h
    split at h
    · split at h
      · rename_i o' S' h1 h2
        simp at h
        subst h
        simp at hx
        rcases hx with rfl | hx
        · simp [bget]
        · have := canS_mem l (j + 1) S' h2 x hx
          have hk := (canS_spec l (j + 1) S' h2).2.2 x hx
          have hne : ¬ j = x.1 := by omega
          simp only [bget, beq_iff_eq, hne, if_false]
          exact this
      · cases h
    · cases h

/-- A slot as the caller has it again. -/
theorem slot_back {w' : World} {pub' own own' : Nat → Nat → Prop} {e' eN : Nat → Option CObj} {L : List Lent} {d k id : Nat} {old : Option SObj} {o o' : SObj}
    (hn : Names (fromP L d) (fromI L d) (fromI L d) e' eN) (hs : SlotOK ⟨e', w', pub'⟩ own' k o) (hb : backO L d none old o = some o') (he : eN id = e' k) (hown : ∀ b o, own' b o → own b o) :
    SlotOK ⟨eN, w', pub'⟩ own id o' := by
  cases o with
  | box c =>
    simp only [backO] at hb
    split at hb
    · rename_i c1 h1
      have ho' : o' = .box c1 := by
        split at hb
        · rename_i b
          split at hb
          · rename_i c2 h2
            simp [putC] at h2
            subst h2
            simp at hb
            exact hb.symm
          · cases hb
        · simp at hb; exact hb.symm
        · cases hb
      subst ho'
      obtain ⟨b, off, e1, e2⟩ := hs
      obtain ⟨m1, m2⟩ := mapV_parts h1
      refine ⟨b, off, by simp only; rw [he]; simp only at e1; rw [e1, m1], fun j c' hj => ?_⟩
      have hl : j < (parts' c).length := by
        rw [m1]
        rcases Nat.lt_or_ge j (parts' c1).length with k | k
        · exact k
        · rw [List.getElem?_eq_none k] at hj; cases hj
      obtain ⟨k1, k2, k3, v, k4, k5⟩ := e2 j _ (List.getElem?_eq_getElem hl)
      exact ⟨hown _ _ k1, k2, k3, v, k4, V.mapV (Ω := ⟨e', w', pub'⟩) hn k5 (m2 j _ c' (List.getElem?_eq_getElem hl) hj)⟩
    · cases hb
  | tail τ n =>
    simp [backO] at hb
    subst hb
    obtain ⟨base, cap, e1, e2, e3, e4, e5⟩ := hs
    exact ⟨base, cap, by simp only; rw [he]; exact e1, e2, e3, e4, fun b hb => ⟨fun o => hown _ _ ((e5 b hb).1 o), (e5 b hb).2⟩⟩
  | map κ τ m =>
    simp [backO] at hb
    subst hb
    obtain ⟨r, e1, e2, es, clock, e3, e4⟩ := hs
    exact ⟨r, by simp only; rw [he]; exact e1, fun o => hown _ _ (e2 o), es, clock, e3, e4.data⟩
  | bld t u l =>
    simp [backO] at hb
    subst hb
    obtain ⟨b, g, e1, e2, e3⟩ := hs
    exact ⟨b, g, by simp only; rw [he]; exact e1, fun b' hb o => ⟨hown _ _ (e2 b' hb o).1, (e2 b' hb o).2⟩, e3⟩

theorem call_back {F : Fr} {s : AS} {a : Act} {Ω : Om} (h : Holds F s a Ω) {L : List Lent} {d : Nat} (hd : d < 1000) (hdist : distinct (L.map (·.1)) = true)
    {S u u' : List (Nat × SObj)} (hS : canS s.B L L 900 = some S) (hu : distinct (u.map (·.1)) = true) (hb : backU s.B L d (fullU S u) = some u') {val val' : AV}
    (hval : mapV (fromP L d) (fromI L d) (fromI L d) val = some val') {w' : World} {pub' : Nat → Nat → Prop} {e' : Nat → Option CObj} {v : Value} (hv : V ⟨e', w', pub'⟩ val v)
    (A : After Ω.w Ω.pub (eCan L Ω.e) (bget (putB S u)) w' pub' e') :
    ∃ Ω', Ω'.w = w' ∧ V Ω' val' v ∧ Holds F ⟨s.T, updB s.B u'⟩ a Ω' := by
  obtain ⟨k1, k2, k3⟩ := canS_spec L 900 S hS
  have hSm := canS_mem L 900 S hS
  have lentL : ∀ k i r, lentAt L k = some (i, r) → ∃ o o', s.B i = some o ∧ canO L r o = some o' ∧ bget S k = some o' := by
    intro k i r hk
    obtain ⟨h1, h2⟩ := lentAt_spec hk
    obtain ⟨o, o', q1, q2, q3⟩ := k2 _ i r h2
    rw [show 900 + (k - 900) = k by omega] at q3
    exact ⟨o, o', q1, q2, q3⟩
  have hLs : ∀ q i r, nth L q = some (i, r) → ∃ o o', s.B i = some o ∧ canO L r o = some o' := fun q i r hq => let ⟨o, o', q1, q2, _⟩ := k2 q i r hq; ⟨o, o', q1, q2⟩
  obtain ⟨b1, b2⟩ := backU_mem _ _ hb
  -- a new slot
  have newk : ∀ k c, lentAt L k = none → e' k = some c → s.B (nid d k) = none ∧ nid d k ∈ u'.map (·.1) := by
    intro k c hk hc
    cases hg : bget (putB S u) k with
    | none => rw [A.dom k hg] at hc; cases hc
    | some o =>
      have hku : k ∈ u.map (·.1) := by
        rcases Classical.em (k ∈ u.map (·.1)) with q | q
        · exact q
        · rw [putB_out u S k q] at hg
          obtain ⟨q0, i, r, o2, e1, e2, _⟩ := k1 k o hg
          have : lentAt L k = some (i, r) := by
            subst e1
            exact lentAt_idx (idx_nth L i 900 q0 r hdist e2)
          rw [hk] at this
          cases this
      obtain ⟨x, hx1, hx2⟩ := List.mem_map.1 hku
      have hmem : (k, x.2) ∈ fullU S u := by
        simp only [fullU, List.mem_append]
        left
        rw [← hx2]
        exact hx1
      rcases b2 k x.2 hmem with ⟨i, r, m1, _⟩ | ⟨_, m2, m3⟩
      · rw [hk] at m1; cases m1
      · exact ⟨m2, m3⟩
  have inL : ∀ i k r, idx L i 900 = some (k, r) → ∃ o, s.B i = some o := by
    intro i k r hi
    obtain ⟨o, _, q, _⟩ := lentL k i r (lentAt_idx hi)
    exact ⟨o, q⟩
  -- the new names
  have eW : ∀ k i, lentAt L k = some (i, none) → eNew L d Ω.e e' i = e' k := by
    intro k i hk
    simp only [eNew, idx_lentAt hdist hk]
  have eS : ∀ k i x, lentAt L k = some (i, some x) → eNew L d Ω.e e' i = Ω.e i := by
    intro k i x hk
    simp only [eNew, idx_lentAt hdist hk]
  have eN : ∀ k c, lentAt L k = none → e' k = some c → eNew L d Ω.e e' (nid d k) = some c := by
    intro k c hk hc
    obtain ⟨n1, _⟩ := newk k c hk hc
    have hi : idx L (nid d k) 900 = none := by
      cases hi : idx L (nid d k) 900 with
      | none => rfl
      | some x =>
        obtain ⟨o, ho⟩ := inL _ x.1 x.2 hi
        rw [n1] at ho
        cases ho
    simp only [eNew, hi, newOf_nid hd, hk, hc]
  -- what an id of the caller's is
  have eO : ∀ i c, eNew L d Ω.e e' i = some c → (Ω.e i = some c ∧ (∀ k, lentAt L k ≠ some (i, none))) ∨ (∃ k, e' k = some c ∧ (lentAt L k = some (i, none) ∨ (lentAt L k = none ∧ i = nid d k))) := by
    intro i c hc
    unfold eNew at hc
    split at hc
    · rename_i k hk
      exact Or.inr ⟨k, hc, Or.inl (lentAt_idx hk)⟩
    · rename_i k x hk
      exact Or.inl ⟨hc, fun k' hk' => by rw [idx_lentAt hdist hk'] at hk; simp at hk⟩
    · rename_i hk
      have hno : ∀ k, lentAt L k ≠ some (i, none) := fun k' hk' => by rw [idx_lentAt hdist hk'] at hk; cases hk
      split at hc
      · rename_i k hn
        split at hc
        · exact Or.inl ⟨hc, hno⟩
        · rename_i hl
          split at hc
          · rename_i c' hc'
            simp at hc
            subst hc
            exact Or.inr ⟨k, hc', Or.inr ⟨hl, nid_newOf hn⟩⟩
          · exact Or.inl ⟨hc, hno⟩
      · exact Or.inl ⟨hc, hno⟩
  -- cells that are lent are the caller's own
  have lentOwn : ∀ b o, occL (eCan L Ω.e) b o → ∃ k i r c0, lentAt L k = some (i, r) ∧ Ω.e i = some c0 ∧ occ c0 b o ∧ ∃ c, eCan L Ω.e k = some c ∧ occ c b o := by
    rintro b o ⟨k, c, hc, ho⟩
    obtain ⟨i, r, c0, q1, q2, q3⟩ := eCan_occ h.slots hLs hc
    exact ⟨k, i, r, c0, q1, q2, q3 b o ho, c, hc, ho⟩
  have own : ∀ b o, (Ω.w.heap.size ≤ b ∨ occL (eCan L Ω.e) b o) → F.own b o := by
    rintro b o (q | q)
    · exact Or.inl (Nat.le_trans h.frame.size q)
    · obtain ⟨k, i, r, c0, _, q2, q3, _⟩ := lentOwn b o q
      exact h.owns q2 q3
  have hnames : Names (fromP L d) (fromI L d) (fromI L d) e' (eNew L d Ω.e e') := by
    have hi : ∀ i i', fromI L d i = some i' → ∀ c, e' i = some c → eNew L d Ω.e e' i' = some c := by
      intro k i' hk c hc
      unfold fromI at hk
      split at hk
      · rename_i i hi
        simp at hk
        subst hk
        rw [eW k i hi, hc]
      · cases hk
      · rename_i hi
        simp at hk
        subst hk
        exact eN k c hi hc
    refine ⟨fun k o i' o' hk b p l hc => ?_, hi, hi⟩
    unfold fromP at hk
    split at hk
    · rename_i i hi
      simp at hk
      obtain ⟨rfl, rfl⟩ := hk
      exact ⟨p, l, by rw [eW k i hi, hc], rfl⟩
    · rename_i i off len hi
      simp at hk
      obtain ⟨rfl, rfl⟩ := hk
      -- the part of a box
      obtain ⟨ob, ob', q1, q2, _⟩ := lentL k i _ hi
      cases ob with
      | box x =>
        obtain ⟨b2, off2, e1, _⟩ := h.slots i _ q1
        have hcan : eCan L Ω.e k = some (.box b2 (off2 + off) len) := by simp only [eCan, hi, e1]
        obtain ⟨c', hc', hl⟩ := A.ext.e k _ hcan
        rw [hl.box] at hc'
        simp only at hc'
        rw [hc] at hc'
        simp at hc'
        obtain ⟨rfl, rfl, rfl⟩ := hc'
        exact ⟨off2, _, by rw [eS k i _ hi, e1], by omega⟩
      | tail _ _ => simp [canO] at q2
      | map _ _ _ => simp [canO] at q2
      | bld _ _ _ => simp [canO] at q2
    · rename_i hi
      simp at hk
      obtain ⟨rfl, rfl⟩ := hk
      exact ⟨p, l, eN k _ hi hc, rfl⟩
  have hext : Ext Ω ⟨eNew L d Ω.e e', w', pub'⟩ := by
    refine ⟨fun i c hc => ?_, A.ext.pub, A.ext.cell⟩
    simp only
    cases hi : idx L i 900 with
    | some x =>
      obtain ⟨k, r⟩ := x
      cases r with
      | none =>
        have hk := lentAt_idx hi
        have hcan : eCan L Ω.e k = some c := by simp only [eCan, hk, hc]
        obtain ⟨c', hc', hl⟩ := A.ext.e k _ hcan
        exact ⟨c', by rw [eW k i hk]; exact hc', hl⟩
      | some x => exact ⟨c, by rw [eS k i x (lentAt_idx hi), hc], CLe.refl c⟩
    | none =>
      refine ⟨c, ?_, CLe.refl c⟩
      simp only [eNew, hi]
      split
      · rename_i k hn
        split
        · exact hc
        · rename_i hl
          split
          · rename_i c' hc'
            obtain ⟨n1, _⟩ := newk k c' hl hc'
            rw [← nid_newOf hn] at n1
            rw [h.dom i n1] at hc
            cases hc
          · exact hc
      · exact hc
  -- an unlent slot's cells stay
  have stay : ∀ i c, Ω.e i = some c → (∀ k r, lentAt L k ≠ some (i, r)) → ∀ b o, occ c b o → ¬ occL (eCan L Ω.e) b o := by
    intro i c hc hno b o ho hl
    obtain ⟨k, i2, r, c0, q1, q2, q3, _⟩ := lentOwn b o hl
    have := h.inj i i2 c c0 b o hc q2 ho q3
    subst this
    exact hno k r q1
  have inj' : Inj (eNew L d Ω.e e') := by
    -- two that are both the callee's
    have hself : ∀ k k' i j, (lentAt L k = some (i, none) ∨ (lentAt L k = none ∧ i = nid d k)) → (lentAt L k' = some (j, none) ∨ (lentAt L k' = none ∧ j = nid d k')) → k = k' → i = j := by
      intro k k' i j hi hj e
      subst e
      rcases hi with hi | ⟨hi, rfl⟩ <;> rcases hj with hj | ⟨hj, rfl⟩
      · rw [hi] at hj; simp at hj; exact hj
      · rw [hi] at hj; cases hj
      · rw [hi] at hj; cases hj
      · rfl
    -- one that is the caller's, one that is the callee's
    have hmix : ∀ i c j k c' b o, Ω.e i = some c → (∀ k, lentAt L k ≠ some (i, none)) → e' k = some c' → (lentAt L k = some (j, none) ∨ (lentAt L k = none ∧ j = nid d k)) → occ c b o → occ c' b o → False := by
      intro i c j k c' b o hc hno hk hj ho ho'
      have hblt := h.blk hc ho
      have hkB : ∃ ob, bget (putB S u) k = some ob := by
        cases hg : bget (putB S u) k with
        | none => rw [A.dom k hg] at hk; cases hk
        | some ob => exact ⟨ob, rfl⟩
      obtain ⟨ob, hob⟩ := hkB
      rcases (A.slots k ob hob).owns hk ho' with q | q
      · omega
      · obtain ⟨k2, i2, r, c0, q1, q2, q3, c2, q4, q5⟩ := lentOwn b o q
        have := h.inj i i2 c c0 b o hc q2 ho q3
        subst this
        cases r with
        | none => exact hno k2 q1
        | some x =>
          obtain ⟨c3, q6, q7⟩ := A.ext.e k2 c2 q4
          obtain ⟨bb, oo, ll, hbx⟩ : ∃ bb oo ll, c2 = .box bb oo ll := by
            have := q4
            simp only [eCan, q1] at this
            split at this
            · simp at this; exact ⟨_, _, _, this.symm⟩
            · cases this
          subst hbx
          rw [q7.box] at q6
          have := A.inj k2 k _ _ b o q6 hk q5 ho'
          subst this
          rcases hj with hj | ⟨hj, _⟩
          · rw [q1] at hj; simp at hj
          · rw [q1] at hj; cases hj
    intro i j c c' b o hc hc' ho ho'
    rcases eO i c hc with ⟨h1, h2⟩ | ⟨k, h1, h2⟩
    · rcases eO j c' hc' with ⟨g1, g2⟩ | ⟨k', g1, g2⟩
      · exact h.inj i j c c' b o h1 g1 ho ho'
      · exact (hmix i c j k' c' b o h1 h2 g1 g2 ho ho').elim
    · rcases eO j c' hc' with ⟨g1, g2⟩ | ⟨k', g1, g2⟩
      · exact (hmix j c' i k c b o g1 g2 h1 h2 ho' ho).elim
      · exact hself k k' i j h2 g2 (A.inj k k' c c' b o h1 g1 ho ho')
  refine ⟨⟨eNew L d Ω.e e', w', pub'⟩, rfl, V.mapV (Ω := ⟨e', w', pub'⟩) hnames hv hval, ⟨fun i => (h.tmps i).ext hext, h.size, h.defers, fun id o ho => ?_, fun id hid => ?_, inj', A.ok, fun id c hc => ?_, ?_⟩⟩
  · -- the slots
    rcases updB_cases u' s.B id o ho with hm | ⟨hB, hm⟩
    · obtain ⟨k, ob, m1, m2⟩ := b1 id o hm
      have hg := fullU_get hu hSm m1
      have hso := A.slots k ob hg
      rcases m2 with ⟨r, old, l1, l2, l3⟩ | ⟨l1, rfl, l2, l3⟩
      · cases r with
        | none => exact slot_back hnames hso l3 (eW k id l1) own
        | some x =>
          obtain ⟨off, len⟩ := x
          cases ob with
          | tail _ _ => simp [backO] at l3
          | map _ _ _ => simp [backO] at l3
          | bld _ _ _ => simp [backO] at l3
          | box c =>
            simp only [backO] at l3
            split at l3
            · rename_i c1 h1
              split at l3
              · rename_i cold hold
                simp at hold
                subst hold
                split at l3
                · rename_i c2 h2
                  simp at l3
                  subst l3
                  obtain ⟨p1, p2⟩ := putC_parts h2
                  obtain ⟨b, p0, e1, e2⟩ := h.slots id _ l2
                  obtain ⟨s1, s2⟩ := splice_sound _ _ _ _ p2
                  have hlen : (parts' c2).length = (parts' cold).length := by rw [s2]; simp; omega
                  have hcan : eCan L Ω.e k = some (.box b (p0 + off) len) := by simp only [eCan, l1, e1]
                  obtain ⟨c', hc', hl⟩ := A.ext.e k _ hcan
                  rw [hl.box] at hc'
                  simp only at hc'
                  obtain ⟨b', p', f1, f2⟩ := hso
                  simp only at f1
                  rw [hc'] at f1
                  simp at f1
                  obtain ⟨rfl, rfl, f1⟩ := f1
                  obtain ⟨m1', m2'⟩ := mapV_parts h1
                  refine ⟨b, p0, by simp only; rw [eS k id _ l1, e1, hlen], fun j c' hj => ?_⟩
                  have hjl : j < (parts' c2).length := by
                    rcases Nat.lt_or_ge j (parts' c2).length with q | q
                    · exact q
                    · rw [List.getElem?_eq_none q] at hj; cases hj
                  rw [s2] at hj
                  by_cases hin : off ≤ j ∧ j < off + len
                  · -- in the part that was lent
                    have hjc : j - off < (parts' c1).length := by omega
                    have hj1 : (parts' c1)[j - off]? = some c' := by
                      rw [List.append_assoc, List.getElem?_append_right (by simp; omega)] at hj
                      have e : (List.take off (parts' cold)).length = off := by simp; omega
                      rw [e, List.getElem?_append_left hjc] at hj
                      exact hj
                    have hjo : j - off < (parts' c).length := by omega
                    obtain ⟨g1, g2, g3, v, g4, g5⟩ := f2 (j - off) _ (List.getElem?_eq_getElem hjo)
                    rw [show p0 + off + (j - off) = p0 + j by omega] at g1 g2 g3 g4
                    exact ⟨own _ _ g1, g2, g3, v, g4, V.mapV (Ω := ⟨e', w', pub'⟩) hnames g5 (m2' _ _ _ (List.getElem?_eq_getElem hjo) hj1)⟩
                  · -- beside it
                    have hj2 : (parts' cold)[j]? = some c' := by
                      by_cases hlo : j < off
                      · rw [List.append_assoc, List.getElem?_append_left (by simp; omega), List.getElem?_take, if_pos hlo] at hj
                        exact hj
                      · have e : (List.take off (parts' cold) ++ parts' c1).length = off + len := by simp; omega
                        rw [List.getElem?_append_right (by omega), e, List.getElem?_drop, show off + (parts' c1).length + (j - (off + len)) = j by omega] at hj
                        exact hj
                    obtain ⟨g1, g2, g3, v, g4, g5⟩ := e2 j c' hj2
                    have hnl : ¬ occL (eCan L Ω.e) b (p0 + j) := by
                      intro hl
                      obtain ⟨k2, i2, r2, c0, q1, q2, q3, c3, q4, q5⟩ := lentOwn _ _ hl
                      have hcold : j < (parts' cold).length := by omega
                      have := h.inj id i2 _ c0 b (p0 + j) e1 q2 ⟨rfl, by omega, by omega⟩ q3
                      subst this
                      have hkk : k2 = k := by
                        have a1 := idx_lentAt hdist q1
                        have a2 := idx_lentAt hdist l1
                        rw [a1] at a2
                        simp at a2
                        exact a2.1
                      subst hkk
                      rw [hcan] at q4
                      simp at q4
                      subst q4
                      obtain ⟨_, z1, z2⟩ := q5
                      exact hin ⟨by omega, by omega⟩
                    have hblt := size_of_cell g4
                    refine ⟨g1, fun hp => ?_, ?_, v, ?_, g5.ext hext⟩
                    · rcases A.fresh _ _ hp with q | q | q
                      · exact g2 q
                      · omega
                      · exact hnl q
                    · exact ((A.kind b hblt (fun hall => hnl (hall _))).2 _).trans g3
                    · exact (A.cell b _ hblt hnl).trans g4
                · cases l3
              · rename_i hq; cases hq
              · cases l3
            · cases l3
      · have hk : ∃ c, e' k = some c := by
          cases ob with
          | box x => obtain ⟨_, _, e1, _⟩ := hso; exact ⟨_, e1⟩
          | tail _ _ => obtain ⟨_, _, e1, _⟩ := hso; exact ⟨_, e1⟩
          | map _ _ _ => obtain ⟨_, e1, _⟩ := hso; exact ⟨_, e1⟩
          | bld _ _ _ => obtain ⟨_, _, e1, _⟩ := hso; exact ⟨_, e1⟩
        obtain ⟨c, hc⟩ := hk
        exact slot_back hnames hso l3 (by rw [eN k c l1 hc, hc]) own
    · -- it was not lent
      have hB : s.B id = some o := hB
      have hnl : ∀ k r, lentAt L k ≠ some (id, r) := by
        intro k r hk
        obtain ⟨o1, o2, q1, q2, q3⟩ := lentL k id r hk
        have hmem : ∃ o3, (k, o3) ∈ fullU S u := by
          rcases Classical.em (k ∈ u.map (·.1)) with q | q
          · obtain ⟨x, hx1, hx2⟩ := List.mem_map.1 q
            refine ⟨x.2, ?_⟩
            simp only [fullU, List.mem_append]
            left
            rw [← hx2]
            exact hx1
          · refine ⟨o2, ?_⟩
            simp only [fullU, List.mem_append, List.mem_filter, Bool.not_eq_true', List.contains_eq_mem, decide_eq_false_iff_not]
            exact Or.inr ⟨bget_mem' S k o2 q3, q⟩
        obtain ⟨o3, ho3⟩ := hmem
        rcases b2 k o3 ho3 with ⟨i2, r2, m1, m2⟩ | ⟨m1, _, _⟩
        · rw [hk] at m1
          simp at m1
          obtain ⟨rfl, _⟩ := m1
          exact hm m2
        · rw [hk] at m1; cases m1
      have hid : idx L id 900 = none := by
        cases hi : idx L id 900 with
        | none => rfl
        | some x => exact absurd (lentAt_idx hi) (hnl x.1 x.2)
      have heq : eNew L d Ω.e e' id = Ω.e id := by
        simp only [eNew, hid]
        split
        · rename_i k hn
          split
          · rfl
          · rename_i hl
            split
            · rename_i c' hc'
              obtain ⟨n1, _⟩ := newk k c' hl hc'
              rw [← nid_newOf hn, hB] at n1
              cases n1
            · rfl
        · rfl
      refine (h.slots id o hB).keep hext heq (fun c hc => ?_)
      have hst := stay id c hc hnl
      have hbl : ∀ b oo, occ c b oo → b < Ω.w.heap.size := fun b oo ho => h.blk hc ho
      cases c with
      | box b off len =>
        intro oo h1 h2
        have ho : occ (.box b off len) b oo := ⟨rfl, h1, h2⟩
        have hblt := hbl _ _ ho
        refine ⟨A.cell b oo hblt (hst _ _ ho), (A.kind b hblt (fun hall => hst _ _ ho (hall oo))).2 oo, fun hp => ?_⟩
        rcases A.fresh _ _ hp with q | q | q
        · exact q
        · omega
        · exact absurd q (hst _ _ ho)
      | tail n base cap =>
        intro b hb'
        have ho : ∀ oo, occ (.tail n base cap) b oo := fun _ => hb'
        have hblt := hbl _ 0 (ho 0)
        refine ⟨A.block b hblt (fun oo => hst _ _ (ho oo)), fun oo hp => ?_⟩
        rcases A.fresh _ _ hp with q | q | q
        · exact q
        · omega
        · exact absurd q (hst _ _ (ho oo))
      | obj r =>
        have ho : ∀ oo, occ (.obj r) r oo := fun _ => rfl
        exact A.block r (hbl _ 0 (ho 0)) (fun oo => hst _ _ (ho oo))
      | bld b g =>
        intro b' hb'
        have ho : ∀ oo, occ (.bld b g) b' oo := fun _ => hb'
        refine ⟨A.block b' (hbl _ 0 (ho 0)) (fun oo => hst _ _ (ho oo)), fun oo hp => ?_⟩
        rcases A.fresh _ _ hp with q | q | q
        · exact q
        · have := hbl _ 0 (ho 0); omega
        · exact absurd q (hst _ _ (ho oo))
  · -- ids without a slot
    obtain ⟨hB, hm⟩ := updB_none u' s.B id hid
    have hnone := h.dom id hB
    cases hc : eNew L d Ω.e e' id with
    | none => exact hc
    | some c =>
      rcases eO id c hc with ⟨h1, _⟩ | ⟨k, h1, h2⟩
      · rw [hnone] at h1; cases h1
      · rcases h2 with h2 | ⟨h2, rfl⟩
        · obtain ⟨o1, _, q1, _⟩ := lentL k id _ h2
          rw [hB] at q1
          cases q1
        · exact absurd (newk k c h2 h1).2 hm
  · obtain ⟨c1, h1, l1⟩ := h.keep id c hc
    obtain ⟨c2, h2, l2⟩ := hext.e id c1 h1
    exact ⟨c2, h2, l1.trans l2⟩
  · have notOwn : ∀ b o, b < F.w0.heap.size → ¬ F.br b o → ¬ occL (eCan L Ω.e) b o := by
      intro b o hb hn hl
      rcases own b o (Or.inr hl) with q | q
      · omega
      · exact hn q
    have hsz := h.frame.size
    refine ⟨A.os.trans h.frame.os, A.tape.trans h.frame.tape, A.output.trans h.frame.output, Nat.le_trans h.frame.size A.size, fun b hb hn => ?_, fun b o hb hn => ?_, fun b hb hn => ?_, fun b o hp => ?_, fun b o hp => A.ext.pub b o (h.frame.old b o hp), fun b o hp => (hext.cell b o (h.frame.old b o hp)).trans (h.frame.pcell b o hp)⟩
    · exact (A.block b (by omega) (fun o => notOwn b o hb (hn o))).trans (h.frame.block b hb hn)
    · exact (A.cell b o (by omega) (notOwn b o hb hn)).trans (h.frame.cell b o hb hn)
    · have hnall : ¬ ∀ o, occL (eCan L Ω.e) b o := by
        intro hall
        refine hn (fun o => ?_)
        rcases own b o (Or.inr (hall o)) with q | q
        · omega
        · exact q
      obtain ⟨q1, q2⟩ := A.kind b (by omega) hnall
      obtain ⟨q3, q4⟩ := h.frame.kind b hb hn
      exact ⟨q1.trans q3, fun o => (q2 o).trans (q4 o)⟩
    · rcases A.fresh b o hp with q | q | q
      · exact h.frame.pub b o q
      · exact Or.inr (own b o (Or.inl q))
      · exact Or.inr (own b o (Or.inr q))

end Go.AL
