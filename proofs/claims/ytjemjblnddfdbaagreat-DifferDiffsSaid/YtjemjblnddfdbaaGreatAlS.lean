/-
  What a call of the library leaves, out of how it leaves memory: one slot turns or is new. No condition.
-/
import Derived.Test.YtjemjblnddfdbaaGreatAlR
set_option linter.unusedVariables false
set_option linter.unusedSimpArgs false
set_option linter.unnecessarySimpa false
set_option linter.deprecated false
namespace Go.AL

theorem SlotOK.blk {Ω : Om} {own : Nat → Nat → Prop} {id : Nat} {ob : SObj} (hs : SlotOK Ω own id ob) {c : CObj} (hc : Ω.e id = some c) {b o : Nat} (hb : occ c b o) : b < Ω.w.heap.size := by
  cases ob with
  | box x =>
    obtain ⟨b', off, he, hh⟩ := hs
    rw [he] at hc
    simp only [Option.some.injEq] at hc
    subst hc
    obtain ⟨rfl, h1, h2⟩ := hb
    have hj : o - off < (parts' x).length := by omega
    obtain ⟨_, _, _, v, hv, _⟩ := hh (o - off) _ (List.getElem?_eq_getElem hj)
    exact size_of_cell hv
  | tail τ n =>
    obtain ⟨base, cap, he, _, _, _, hb'⟩ := hs
    rw [he] at hc
    simp only [Option.some.injEq] at hc
    subst hc
    obtain ⟨_, vs, ty, fz, hh, _⟩ := hb' b hb
    exact size_of_block hh
  | map κ τ m =>
    obtain ⟨r, he, _, es, clock, hh, _⟩ := hs
    rw [he] at hc
    simp only [Option.some.injEq] at hc
    subst hc
    have : b = r := hb
    subst this
    exact size_of_block hh
  | bld t u l =>
    obtain ⟨b0, g, he, _, hh⟩ := hs
    rw [he] at hc
    simp only [Option.some.injEq] at hc
    subst hc
    exact hh.lt hb

/-- Does this slot take up this cell? -/
def occE (e : Nat → Option CObj) (k b o : Nat) : Prop := ∃ c, e k = some c ∧ occ c b o

theorem After.slot {w w' : World} {pub : Nat → Nat → Prop} {e : Nat → Option CObj} {S : List (Nat × SObj)}
    (hp : PubOK w pub) (hs : ∀ id o, bget S id = some o → SlotOK ⟨e, w, pub⟩ (fun _ _ => True) id o) (hd : ∀ id, bget S id = none → e id = none) (hi : Inj e)
    {k : Nat} {obj : SObj} {c : CObj} {Q : Nat → Nat → Prop}
    (os : w'.os = w.os) (tape : w'.tape = w.tape) (output : w'.output = w.output) (size : w.heap.size ≤ w'.heap.size)
    (block : ∀ b, b < w.heap.size → (∀ o, ¬ occE e k b o) → w'.heap[b]? = w.heap[b]?)
    (cell : ∀ b o, b < w.heap.size → ¬ occE e k b o → w'.cell? ⟨b, o, none⟩ = w.cell? ⟨b, o, none⟩)
    (kind : ∀ b, b < w.heap.size → ¬ (∀ o, occE e k b o) → w'.shape? b = w.shape? b ∧ ∀ o, w'.frozen? ⟨b, o, none⟩ = w.frozen? ⟨b, o, none⟩)
    (hpub : ∀ b o, pub b o → w'.cell? ⟨b, o, none⟩ = w.cell? ⟨b, o, none⟩)
    (hQ : ∀ b o, Q b o → w.heap.size ≤ b ∧ ∃ v, w'.cell? ⟨b, o, none⟩ = some v)
    (hle : ∀ c0, e k = some c0 → CLe c0 c) (hnew : ∀ b o, occ c b o → w.heap.size ≤ b ∨ occE e k b o)
    (hobj : Ext ⟨e, w, pub⟩ ⟨fun i => if k = i then some c else e i, w', fun b o => pub b o ∨ Q b o⟩ →
      SlotOK ⟨fun i => if k = i then some c else e i, w', fun b o => pub b o ∨ Q b o⟩ (fun b o => w.heap.size ≤ b ∨ occL e b o) k obj) :
    After w pub e (bget (putB S [(k, obj)])) w' (fun b o => pub b o ∨ Q b o) (fun i => if k = i then some c else e i) := by
  have blk : ∀ {id c b o}, e id = some c → occ c b o → b < w.heap.size := by
    intro id c b o hc ho
    cases hg : bget S id with
    | none => rw [hd id hg] at hc; cases hc
    | some ob => exact (hs id ob hg).blk (Ω := ⟨e, w, pub⟩) hc ho
  have hx : Ext ⟨e, w, pub⟩ ⟨fun i => if k = i then some c else e i, w', fun b o => pub b o ∨ Q b o⟩ := by
    refine ⟨fun id c' hc' => ?_, fun b o h => Or.inl h, fun b o h => hpub b o h⟩
    by_cases hid : k = id
    · subst hid; exact ⟨c, by simp, hle c' hc'⟩
    · exact ⟨c', by simp only [if_neg hid]; exact hc', CLe.refl _⟩
  have toL : ∀ {b o}, occE e k b o → occL e b o := fun ⟨c, h1, h2⟩ => ⟨k, c, h1, h2⟩
  have stay : ∀ {id c' b o}, k ≠ id → e id = some c' → occ c' b o → ¬ occE e k b o := by
    rintro id c' b o hid hc ho ⟨c0, h1, h2⟩
    exact hid (hi k id c0 c' b o h1 hc h2 ho)
  refine ⟨os, tape, output, size, fun b hb h => block b hb fun o ho => h o (toL ho), fun b o hb h => cell b o hb fun ho => h (toL ho),
    fun b hb h => kind b hb fun ho => h fun o => toL (ho o), hx, fun b o h => ?_, fun b o h => ?_, fun id o h => ?_, fun id h => ?_, ?_⟩
  · rcases h with h | h
    · exact Or.inl h
    · exact Or.inr (Or.inl (hQ b o h).1)
  · rcases h with h | h
    · obtain ⟨v, hv⟩ := hp b o h; exact ⟨v, (hpub b o h).trans hv⟩
    · exact (hQ b o h).2
  · rw [abs_putB, updB_one] at h
    by_cases hid : k = id
    · subst hid
      simp only [if_true] at h
      cases h
      exact hobj hx
    · simp only [if_neg hid] at h
      have h0 := hs id o h
      refine SlotOK.own_of (SlotOK.keep h0 hx (by simp only [if_neg hid]) fun c' hc' => ?_) (fun c' b o hc ho => ?_)
      · have hc' : e id = some c' := hc'
        cases c' with
        | box b off len =>
          intro oo h1 h2
          have ho : occ (.box b off len) b oo := ⟨rfl, h1, h2⟩
          refine ⟨cell b oo (blk hc' ho) (stay hid hc' ho), (kind b (blk hc' ho) fun hall => stay hid hc' ho (hall oo)).2 oo, fun hp' => ?_⟩
          rcases hp' with hp' | hp'
          · exact hp'
          · have := (hQ _ _ hp').1; have := blk hc' ho; omega
        | tail n base cap =>
          intro b hb
          have ho : ∀ oo, occ (.tail n base cap) b oo := fun _ => hb
          refine ⟨block b (blk hc' (ho 0)) fun oo => stay hid hc' (ho oo), fun oo hp' => ?_⟩
          rcases hp' with hp' | hp'
          · exact hp'
          · have := (hQ _ _ hp').1; have := blk hc' (ho 0); omega
        | obj r =>
          have ho : ∀ oo, occ (.obj r) r oo := fun _ => rfl
          exact block r (blk hc' (ho 0)) fun oo => stay hid hc' (ho oo)
        | bld b g =>
          intro b' hb'
          have ho : ∀ oo, occ (.bld b g) b' oo := fun _ => hb'
          refine ⟨block b' (blk hc' (ho 0)) fun oo => stay hid hc' (ho oo), fun oo hp' => ?_⟩
          rcases hp' with hp' | hp'
          · exact hp'
          · have := (hQ _ _ hp').1; have := blk hc' (ho 0); omega
      · simp only [if_neg hid] at hc
        exact Or.inr ⟨id, c', hc, ho⟩
  · rw [abs_putB, updB_one] at h
    by_cases hid : k = id
    · simp [hid] at h
    · simp only [if_neg hid] at h ⊢
      exact hd id h
  · intro i j ci cj b o hci hcj hoi hoj
    simp only at hci hcj
    by_cases h1 : k = i <;> by_cases h2 : k = j
    · omega
    · simp only [if_pos h1, if_neg h2, Option.some.injEq] at hci hcj
      subst hci
      rcases hnew b o hoi with h | h
      · have := blk hcj hoj; omega
      · exact absurd h (stay h2 hcj hoj)
    · simp only [if_neg h1, if_pos h2, Option.some.injEq] at hci hcj
      subst hcj
      rcases hnew b o hoj with h | h
      · have := blk hci hoi; omega
      · exact absurd h (stay h1 hci hoi)
    · simp only [if_neg h1, if_neg h2] at hci hcj
      exact hi i j ci cj b o hci hcj hoi hoj

/-- Nothing that was there turns; a slot is new. -/
theorem After.fresh1 {w w' : World} {pub : Nat → Nat → Prop} {e : Nat → Option CObj} {S : List (Nat × SObj)}
    (hp : PubOK w pub) (hs : ∀ id o, bget S id = some o → SlotOK ⟨e, w, pub⟩ (fun _ _ => True) id o) (hd : ∀ id, bget S id = none → e id = none) (hi : Inj e)
    {k : Nat} {obj : SObj} {c : CObj} (hb : RowKit.Below w.heap.size w w') (hk : bget S k = none) (hnew : ∀ b o, occ c b o → w.heap.size ≤ b)
    (hobj : SlotOK ⟨fun i => if k = i then some c else e i, w', fun b o => pub b o ∨ False⟩ (fun b o => w.heap.size ≤ b ∨ occL e b o) k obj) :
    After w pub e (bget (putB S [(k, obj)])) w' (fun b o => pub b o ∨ False) (fun i => if k = i then some c else e i) :=
  After.slot hp hs hd hi (Q := fun _ _ => False) hb.os hb.tape hb.output hb.size (fun b h _ => hb.block b h) (fun b o h _ => cell_of_block (hb.block b h) o)
    (fun b h _ => ⟨shape_of_block (hb.block b h), fun o => frozen_of_block (hb.block b h) o⟩)
    (fun b o h => by obtain ⟨v, hv⟩ := hp b o h; exact cell_of_block (hb.block b (size_of_cell hv)) o)
    (fun _ _ h => h.elim) (fun c0 h => by rw [hd k hk] at h; cases h) (fun b o h => Or.inl (hnew b o h)) (fun _ => hobj)

theorem VL.one_inv {Ω : Om} {a : AV} {vs : List Value} (h : VL Ω [a] vs) : ∃ v, vs = [v] ∧ V Ω a v := by
  obtain ⟨hl, h⟩ := h
  match vs, hl, h with
  | [v], _, h => exact ⟨v, rfl, h 0 a v rfl rfl⟩
theorem VL.two_inv {Ω : Om} {a b : AV} {vs : List Value} (h : VL Ω [a, b] vs) : ∃ v u, vs = [v, u] ∧ V Ω a v ∧ V Ω b u := by
  obtain ⟨hl, h⟩ := h
  match vs, hl, h with
  | [v, u], _, h => exact ⟨v, u, rfl, h 0 a v rfl rfl, h 1 b u rfl rfl⟩
end Go.AL
