/-
  Slots made fast. No condition.
-/
import Derived.Test.YtjemjblnddfdbaaGreatAlN
set_option linter.unusedVariables false
set_option linter.unusedSimpArgs false
set_option linter.unnecessarySimpa false
set_option linter.deprecated false
namespace Go.AL

section
variable {id : Nat} {c : AV}

theorem pubVs_get : ∀ (l : List AV) (j : Nat), (pubVs id c l)[j]? = (l[j]?).map (pubV id c)
  | [], j => by simp [pubVs]
  | a :: r, 0 => by simp [pubVs]
  | a :: r, j + 1 => by simp only [pubVs, List.getElem?_cons_succ]; exact pubVs_get r j
theorem pubVs_length : ∀ l : List AV, (pubVs id c l).length = l.length
  | [] => rfl
  | a :: r => by simp [pubVs, pubVs_length r]

theorem pubV_cells (τ : Ty) (x : den τ) : ∀ d ∈ cells τ x, pubV id c d = d := by
  cases τ with
  | st n => cases n <;> simp [cells, shapeCells, pubV]
  | _ => simp [cells, pubV]
theorem pubV_flat (τ : Ty) (xs : List (den τ)) : ∀ d ∈ flat τ xs, pubV id c d = d := by
  intro d hd
  simp only [flat, List.mem_flatMap] at hd
  obtain ⟨x, _, hx⟩ := hd
  exact pubV_cells τ x d hx

theorem pubV_parts (d : AV) : (parts' (pubV id c d)).length = (parts' d).length ∧ ∀ (j : Nat) (a : AV), (parts' d)[j]? = some a → (parts' (pubV id c d))[j]? = some (pubV id c a) := by
  have one : ∀ {d : AV}, parts' d = [d] → parts' (pubV id c d) = [pubV id c d] → (parts' (pubV id c d)).length = (parts' d).length ∧
      ∀ (j : Nat) (a : AV), (parts' d)[j]? = some a → (parts' (pubV id c d))[j]? = some (pubV id c a) := by
    intro d h1 h2
    rw [h1, h2]
    refine ⟨rfl, fun j a ha => ?_⟩
    cases j with
    | zero => simp at ha; subst ha; rfl
    | succ j => simp at ha
  cases d with
  | agg cs => exact ⟨pubVs_length cs, fun j a ha => by show (pubVs id c cs)[j]? = _; rw [pubVs_get]; have : cs[j]? = some a := ha; rw [this]; rfl⟩
  | st n x => exact ⟨rfl, fun j a ha => by show (cells (.st n) x)[j]? = _; rw [pubV_cells (.st n) x a (List.mem_of_getElem? ha)]; exact ha⟩
  | row τ xs => exact ⟨rfl, fun j a ha => by show (flat τ xs)[j]? = _; rw [pubV_flat τ xs a (List.mem_of_getElem? ha)]; exact ha⟩
  | ptr i o =>
    refine one rfl ?_
    cases o with
    | zero => simp only [pubV]; split <;> rfl
    | succ o => rfl
  | arr i n w =>
    refine one rfl ?_
    simp only [pubV]
    split
    · split
      · split <;> rfl
      · rfl
    · rfl
  | _ => exact one rfl rfl

/-- What stands fast in the place of a slot. -/
structure Fast (Ω : Om) (id : Nat) (c : AV) (b off : Nat) (vals : Nat → Value) : Prop where
  e : Ω.e id = some (.box b off (parts' c).length)
  at_ : ∀ (j : Nat) (c' : AV), (parts' c)[j]? = some c' → Ω.pub b (off + j) ∧ Ω.w.cell? ⟨b, off + j, none⟩ = some (vals j) ∧ V Ω c' (vals j)

theorem V.pubV {Ω : Om} {b off : Nat} {vals : Nat → Value} (hf : Fast Ω id c b off vals) {a : AV} {v : Value} (h : V Ω a v) : V Ω (AL.pubV id c a) v := by
  have many : ∀ {cs : List AV} {vs : List Value}, cs.length = vs.length → (∀ (j : Nat) (d : AV) (v : Value), cs[j]? = some d → vs[j]? = some v → V Ω (AL.pubV id c d) v) →
      (pubVs id c cs).length = vs.length ∧ ∀ (j : Nat) (d : AV) (v : Value), (pubVs id c cs)[j]? = some d → vs[j]? = some v → V Ω d v := by
    intro cs vs hl ih
    refine ⟨by rw [pubVs_length, hl], fun j d v hd hv => ?_⟩
    rw [pubVs_get] at hd
    simp only [Option.map_eq_some_iff] at hd
    obtain ⟨d0, hd0, rfl⟩ := hd
    exact ih j d0 v hd0 hv
  induction h with
  | ptr i o b' p len he =>
    cases o with
    | succ o => exact .ptr i (o + 1) b' p len he
    | zero =>
      simp only [AL.pubV]
      split
      · rename_i hi
        subst hi
        rw [hf.e] at he
        simp at he
        obtain ⟨rfl, rfl, rfl⟩ := he
        exact .cptr c b off vals (fun j c' hc => ⟨(hf.at_ j c' hc).1, (hf.at_ j c' hc).2.1⟩) (fun j c' hc => (hf.at_ j c' hc).2.2)
      · exact .ptr i 0 b' p len he
  | arr i n w b' len cap a he h1 h2 h3 h4 =>
    simp only [AL.pubV]
    split
    · rename_i hi
      split
      · rename_i τ xs
        split
        · rename_i hw
          subst hi hw
          have hfe := hf.e
          rw [hfe] at he
          simp only [Option.some.injEq, CObj.box.injEq] at he
          obtain ⟨rfl, rfl, rfl⟩ := he
          have hn : n ≤ xs.length := by
            have : (parts' (.row τ xs)).length = xs.length * width τ := flat_length τ xs
            rw [this] at h1
            exact Nat.le_of_mul_le_mul_right h1 (width_pos τ)
          rcases h4 with rfl | ⟨rfl, rfl, rfl⟩
          · have hl : (xs.take n).length = n := by simp; omega
            have hx' : ∀ {i : Nat} {x : den τ}, (xs.take n)[i]? = some x → xs[i]? = some x := by
              intro i x hx
              rw [List.getElem?_take] at hx
              split at hx
              · exact hx
              · cases hx
            have := V.lst (Ω := Ω) τ (xs.take n) none b 0 cap (fun i j => vals (i * width τ + j)) (by omega) h3 (fun id hid => by simp at hid) (fun i x hx j c' hc => by
              have := hf.at_ _ c' (flat_get τ xs i x j c' (hx' hx) hc)
              exact ⟨this.1, this.2.1⟩) (fun i x hx j c' hc => (hf.at_ _ c' (flat_get τ xs i x j c' (hx' hx) hc)).2.2)
            rw [hl] at this
            exact this
          · simp only [List.take_zero]
            exact .lstNil τ none (fun id hid => by simp at hid)
        · exact .arr i n w b' len cap a he h1 h2 h3 h4
      · exact .arr i n w b' len cap a he h1 h2 h3 h4
    · exact .arr i n w b' len cap a he h1 h2 h3 h4
  | cptr d b' o vs h1 h2 ih =>
    obtain ⟨p1, p2⟩ := pubV_parts (id := id) (c := c) d
    have back : ∀ (j : Nat) (d' : AV), (parts' (AL.pubV id c d))[j]? = some d' → ∃ d0, (parts' d)[j]? = some d0 ∧ d' = AL.pubV id c d0 := by
      intro j d' hd'
      have hj : j < (parts' d).length := by
        rw [← p1]
        rcases Nat.lt_or_ge j (parts' (AL.pubV id c d)).length with k | k
        · exact k
        · rw [List.getElem?_eq_none k] at hd'; cases hd'
      have := p2 j _ (List.getElem?_eq_getElem hj)
      rw [hd'] at this
      exact ⟨_, List.getElem?_eq_getElem hj, Option.some.inj this⟩
    refine .cptr _ b' o vs (fun j d' hd' => ?_) (fun j d' hd' => ?_)
    · obtain ⟨d0, q1, _⟩ := back j d' hd'
      exact h1 j d0 q1
    · obtain ⟨d0, q1, rfl⟩ := back j d' hd'
      exact ih j d0 q1
  | agg cs vs hl _ ih =>
    obtain ⟨q1, q2⟩ := many hl ih
    exact .agg _ vs q1 q2
  | tup cs vs hl _ ih =>
    obtain ⟨q1, q2⟩ := many hl ih
    exact .tup _ vs q1 q2
  | fn f cs vs hl _ ih =>
    obtain ⟨q1, q2⟩ := many hl ih
    exact .fn f _ vs q1 q2
  | iface t a v _ ih => exact .iface t _ v ih
  | undef v => exact .undef v
  | int k n h1 h2 => exact .int k n h1 h2
  | bool b => exact .bool b
  | str s h => exact .str s h
  | lstNil τ o ht => exact .lstNil τ o ht
  | lstVoid τ a => exact .lstVoid τ a
  | lst τ xs o b' off' cap vals' h1 h2 h3 h4 h5 _ => exact .lst τ xs o b' off' cap vals' h1 h2 h3 h4 h5
  | nils => exact .nils
  | nilp => exact .nilp
  | ptNone n => exact .ptNone n
  | ptSome n x v hv _ => exact .ptSome n x v hv
  | aptr i n w o b' p len he => exact .aptr i n w o b' p len he
  | map i r he => exact .map i r he
  | bptr i b g he => exact .bptr i b g he
  | nilif => exact .nilif
  | st n x v hv _ => exact .st n x v hv
end

theorem tget_map (f : AV → AV) (hf : f .undef = .undef) : ∀ (l : List (Nat × AV)) (i : Nat), tget (l.map fun x => (x.1, f x.2)) i = f (tget l i)
  | [], i => hf.symm
  | (j, v) :: r, i => by
    simp only [List.map_cons, tget, tget_map f hf r i]
    by_cases h : j = i <;> simp [h]
theorem bget_map (f : SObj → SObj) : ∀ (l : List (Nat × SObj)) (i : Nat), bget (l.map fun x => (x.1, f x.2)) i = (bget l i).map f
  | [], i => rfl
  | (j, v) :: r, i => by
    simp only [List.map_cons, bget, bget_map f r i]
    by_cases h : j = i <;> simp [h]

theorem pub1_sound {F : Fr} {s s' : St} {a : Act} {Ω : Om} {id : Nat} (h : Holds F s.abs a Ω) (hp : pub1 id s = some s') : ∃ Ω', Ω'.w = Ω.w ∧ Holds F s'.abs a Ω' := by
  unfold pub1 at hp
  split at hp
  · rename_i c hb
    simp only at hp
    split at hp
    · rename_i hck
      simp only [Bool.and_eq_true, Bool.not_eq_true'] at hck
      obtain ⟨⟨hnn, hcid⟩, hnl⟩ := hck
      simp only [Option.some.injEq] at hp
      subst hp
      simp only [namesNone, Bool.and_eq_true, List.all_eq_true] at hnn
      obtain ⟨b, off, e1, e2⟩ := h.slots id _ hb
      -- the same memory, where more stands fast
      let Ω1 : Om := ⟨Ω.e, Ω.w, fun b' o => Ω.pub b' o ∨ (b' = b ∧ off ≤ o ∧ o < off + (parts' c).length)⟩
      have hx1 : Ext Ω Ω1 := ⟨fun i c hc => ⟨c, hc, CLe.refl c⟩, fun _ _ p => Or.inl p, fun _ _ _ => rfl⟩
      have hfast : Fast Ω1 id c b off (fun j => (Ω.w.cell? ⟨b, off + j, none⟩).getD undef) := by
        refine ⟨e1, fun j c' hc => ?_⟩
        obtain ⟨k1, k2, k3, v, k4, k5⟩ := e2 j c' hc
        have hj : j < (parts' c).length := by
          rcases Nat.lt_or_ge j (parts' c).length with k | k
          · exact k
          · rw [List.getElem?_eq_none k] at hc; cases hc
        refine ⟨Or.inr ⟨rfl, by omega, by omega⟩, ?_, ?_⟩
        · show Ω.w.cell? _ = _
          rw [k4]; rfl
        · simp only [k4, Option.getD_some]
          exact k5.ext hx1
      have hag : ∀ {x : AV} {v : Value}, V Ω1 x v → (∀ i ∈ ids x, i ≠ id) → V ⟨fun i => if i = id then none else Ω.e i, Ω1.w, Ω1.pub⟩ x v :=
        fun hv hi => V.agree hv (fun i him => by simp [hi i him, Ω1])
      have hin : ∀ b' o, (b' = b ∧ off ≤ o ∧ o < off + (parts' c).length) → occ (.box b off (parts' c).length) b' o := fun b' o k => k
      refine ⟨⟨fun i => if i = id then none else Ω.e i, Ω.w, Ω1.pub⟩, rfl, ⟨fun i => ?_, h.size, h.defers, fun id' o ho => ?_, fun id' hid => ?_, fun i j ci cj b' o hi hj => ?_, fun b' o hp => ?_, fun i x hx => ?_, ?_⟩⟩
      · simp only [St.abs]
        have e := tget_map (pubV id c) rfl s.t i
        rw [e]
        refine hag (V.pubV hfast ((h.tmps i).ext hx1)) (fun k hk => ?_)
        rcases tget_mem s.t i with hu | hm
        · rw [hu] at hk; simp [pubV, ids] at hk
        · have := disj_spec (hnn.1 (i, pubV id c (tget s.t i)) (List.mem_map.2 ⟨_, hm, rfl⟩)) k hk
          simpa using this
      · simp only [St.abs] at ho
        have e := bget_map (pubO id c) (s.b.filter fun x => !(x.1 == id)) id'
        rw [e] at ho
        have e' := bget_filter s.b (fun i => !(i == id)) id'
        rw [e'] at ho
        by_cases hid : id' = id
        · subst hid; simp at ho
        · simp only [beq_iff_eq, hid, Bool.not_false, if_true, Option.map_eq_some_iff] at ho
          rw [if_pos (by simp [hid])] at ho
          obtain ⟨o0, ho0, rfl⟩ := ho
          have hs := h.slots id' o0 ho0
          have apart : ∀ c0, Ω.e id' = some c0 → ∀ b' o, occ c0 b' o → ¬ (b' = b ∧ off ≤ o ∧ o < off + (parts' c).length) := by
            intro c0 hc0 b' o hoc hk
            exact hid (h.inj id' id c0 _ b' o hc0 e1 hoc (hin b' o hk))
          cases o0 with
          | box d =>
            obtain ⟨b2, off2, g1, g2⟩ := hs
            obtain ⟨p1, p2⟩ := pubV_parts (id := id) (c := c) d
            refine ⟨b2, off2, by simp only [if_neg hid]; rw [g1, p1], fun j d' hd' => ?_⟩
            have hj : j < (parts' d).length := by
              rw [← p1]
              rcases Nat.lt_or_ge j (parts' (pubV id c d)).length with k | k
              · exact k
              · rw [List.getElem?_eq_none k] at hd'; cases hd'
            have hd2 := p2 j _ (List.getElem?_eq_getElem hj)
            rw [hd'] at hd2
            obtain ⟨m1, m2, m3, v, m4, m5⟩ := g2 j _ (List.getElem?_eq_getElem hj)
            refine ⟨m1, fun hp => ?_, m3, v, m4, ?_⟩
            · rcases hp with hp | hp
              · exact m2 hp
              · exact apart _ g1 b2 (off2 + j) ⟨rfl, by omega, by omega⟩ hp
            · rw [Option.some.inj hd2]
              refine hag (V.pubV hfast (m5.ext hx1)) (fun k hk => ?_)
              have hmem : (id', pubO id c (.box d)) ∈ ((s.b.filter fun x => !(x.1 == id)).map fun x => (x.1, pubO id c x.2)) :=
                List.mem_map.2 ⟨(id', .box d), List.mem_filter.2 ⟨bget_mem _ _ _ ho0, by simp [hid]⟩, rfl⟩
              have := disj_spec (hnn.2 _ hmem) k (ids_parts (c := pubV id c d) (by rw [← Option.some.inj hd2]; exact hd') k hk)
              simpa using this
          | tail τ n =>
            obtain ⟨base, cap, g1, g2, g3, g4, g5⟩ := hs
            refine ⟨base, cap, by simp only [if_neg hid]; exact g1, g2, g3, g4, fun b2 hb2 => ?_⟩
            obtain ⟨m1, vs, ty, fz, m2, m3, m4, m5⟩ := g5 b2 hb2
            refine ⟨m1, vs, ty, fz, m2, m3, m4, fun o ho hp => ?_⟩
            rcases hp with hp | hp
            · exact m5 o ho hp
            · exact apart _ g1 b2 o hb2 hp
          | map κ τ m =>
            obtain ⟨r, g1, g2, es, clock, g3, g4⟩ := hs
            exact ⟨r, by simp only [if_neg hid]; exact g1, g2, es, clock, g3, (g4.ext hx1).data⟩
          | bld t u l =>
            obtain ⟨b2, g, g1, g2, g3⟩ := hs
            refine ⟨b2, g, by simp only [if_neg hid]; exact g1, fun b3 hb3 o => ⟨(g2 b3 hb3 o).1, fun hp => ?_⟩, g3⟩
            rcases hp with hp | hp
            · exact (g2 b3 hb3 o).2 hp
            · exact apart _ g1 b3 o hb3 hp
      · simp only [St.abs] at hid
        by_cases hii : id' = id
        · simp [hii]
        · have e := bget_map (pubO id c) (s.b.filter fun x => !(x.1 == id)) id'
          rw [e] at hid
          have e' := bget_filter s.b (fun i => !(i == id)) id'
          rw [e', if_pos (by simp [hii])] at hid
          simp only [if_neg hii]
          exact h.dom id' (by show bget s.b id' = none; simpa using hid)
      · intro h1 h2
        simp only at hi hj
        split at hi
        · cases hi
        · split at hj
          · cases hj
          · exact h.inj i j ci cj b' o hi hj h1 h2
      · rcases hp with hp | ⟨rfl, hp1, hp2⟩
        · exact h.pubok b' o hp
        · have hj : o - off < (parts' c).length := by omega
          obtain ⟨_, _, _, v, hv, _⟩ := e2 (o - off) _ (List.getElem?_eq_getElem hj)
          exact ⟨v, by rw [show off + (o - off) = o by omega] at hv; exact hv⟩
      · have hl := F.dom0 i x hx
        have hne : i ≠ id := fun e => by subst e; rw [hnl] at hl; cases hl
        obtain ⟨x', q1, q2⟩ := h.keep i x hx
        exact ⟨x', by simp only [if_neg hne]; exact q1, q2⟩
      · refine ⟨h.frame.os, h.frame.tape, h.frame.output, h.frame.size, h.frame.block, h.frame.cell, h.frame.kind, fun b' o hp => ?_, fun b' o hp => Or.inl (h.frame.old b' o hp), h.frame.pcell⟩
        rcases hp with hp | ⟨rfl, hp1, hp2⟩
        · exact h.frame.pub b' o hp
        · have hj : o - off < (parts' c).length := by omega
          have := (e2 (o - off) _ (List.getElem?_eq_getElem hj)).1
          rw [show off + (o - off) = o by omega] at this
          exact Or.inr this
    · cases hp
  · cases hp

theorem pubAll_sound {F : Fr} {a : Act} : ∀ (l : List Nat) {s s' : St} {Ω : Om}, Holds F s.abs a Ω → pubAll l s = some s' → ∃ Ω', Ω'.w = Ω.w ∧ Holds F s'.abs a Ω'
  | [], s, s', Ω, h, hp => by simp [pubAll] at hp; subst hp; exact ⟨Ω, rfl, h⟩
  | i :: r, s, s', Ω, h, hp => by
    simp only [pubAll] at hp
    split at hp
    · rename_i s1 h1
      obtain ⟨Ω1, e1, k1⟩ := pub1_sound h h1
      obtain ⟨Ω2, e2, k2⟩ := pubAll_sound r k1 hp
      exact ⟨Ω2, e2.trans e1, k2⟩
    · cases hp

end Go.AL
