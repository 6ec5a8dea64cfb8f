/-
  The library's sorting and thinning in place: what it leaves. No condition.
-/
import Derived.Test.YtjemjblnddfdbaaGreatAlU
set_option linter.unusedVariables false
set_option linter.unusedSimpArgs false
set_option linter.unnecessarySimpa false
set_option linter.deprecated false
namespace Go.AL
open Go.Proofs Go.RowKit Go.Maps Go.Sort Go.Shelf
variable {P : Program} {ρ : Ren}

theorem After.row {w w' : World} {pub : Nat → Nat → Prop} {e : Nat → Option CObj} {S : List (Nat × SObj)}
    (hp : PubOK w pub) (hs : ∀ id o, bget S id = some o → SlotOK ⟨e, w, pub⟩ (fun _ _ => True) id o) (hd : ∀ id, bget S id = none → e id = none) (hi : Inj e)
    {k b : Nat} {c c' : AV} (hk : bget S k = some (.box c)) (he : e k = some (.box b 0 (parts' c).length)) (hl : (parts' c').length = (parts' c).length)
    (os : w'.os = w.os) (tape : w'.tape = w.tape) (output : w'.output = w.output) (size : w.heap.size ≤ w'.heap.size)
    (hblock : ∀ b', b' < w.heap.size → b' ≠ b ∨ (parts' c).length = 0 → w'.heap[b']? = w.heap[b']?)
    (hcell : ∀ j, (parts' c).length ≤ j → w'.cell? ⟨b, j, none⟩ = w.cell? ⟨b, j, none⟩)
    (hkind : w'.shape? b = w.shape? b ∧ ∀ o, w'.frozen? ⟨b, o, none⟩ = w.frozen? ⟨b, o, none⟩)
    (hval : ∀ (j : Nat) (c0 : AV), (parts' c')[j]? = some c0 → ∃ v, w'.cell? ⟨b, j, none⟩ = some v ∧ ∀ Ω', V Ω' c0 v) :
    After w pub e (bget (putB S [(k, .box c')])) w' (fun b o => pub b o ∨ False) (fun i => if k = i then some (.box b 0 (parts' c).length) else e i) := by
  obtain ⟨b0, off0, he0, hbox⟩ := hs k _ hk
  have he0 : e k = some (.box b0 off0 (parts' c).length) := he0
  rw [he] at he0
  simp only [Option.some.injEq, CObj.box.injEq] at he0
  obtain ⟨rfl, rfl, _⟩ := he0
  have inE : ∀ {o}, o < (parts' c).length → occE e k b o := fun h => ⟨_, he, rfl, by omega, by omega⟩
  have outE : ∀ {b' o}, ¬ occE e k b' o → b' ≠ b ∨ (parts' c).length ≤ o := by
    intro b' o h
    rcases Nat.lt_or_ge o (parts' c).length with h' | h'
    · exact .inl fun e => h (e ▸ inE h')
    · exact .inr h'
  have cell : ∀ b' o, b' < w.heap.size → ¬ occE e k b' o → w'.cell? ⟨b', o, none⟩ = w.cell? ⟨b', o, none⟩ := by
    intro b' o h1 h2
    by_cases hb : b' = b
    · subst hb
      rcases outE h2 with h | h
      · exact absurd rfl h
      · exact hcell o h
    · exact cell_of_block (hblock b' h1 (.inl hb)) o
  refine After.slot hp hs hd hi (Q := fun _ _ => False) os tape output size (fun b' h1 h2 => ?_) cell (fun b' h1 h2 => ?_) (fun b' o h => ?_) (fun _ _ h => h.elim) (fun c0 h => ?_) (fun b' o h => ?_) (fun _ => ?_)
  · refine hblock b' h1 ?_
    rcases outE (h2 0) with h | h
    · exact .inl h
    · exact .inr (by omega)
  · by_cases hb : b' = b
    · subst hb; exact hkind
    · have := hblock b' h1 (.inl hb)
      exact ⟨shape_of_block this, fun o => frozen_of_block this o⟩
  · obtain ⟨v, hv⟩ := hp b' o h
    refine cell b' o (size_of_cell hv) ?_
    rintro ⟨c1, h1, h2⟩
    rw [he] at h1
    cases h1
    obtain ⟨rfl, _, h3⟩ := h2
    have hj : o < (parts' c).length := by omega
    have := (hbox o _ (List.getElem?_eq_getElem hj)).2.1
    exact this (by simpa using h)
  · rw [he] at h
    cases h
    exact ⟨rfl, rfl, rfl⟩
  · exact .inr ⟨_, he, h⟩
  · refine ⟨b, 0, by simp [hl], fun j c0 hc => ?_⟩
    have hj : j < (parts' c).length := by
      rw [← hl]
      rcases Nat.lt_or_ge j (parts' c').length with q | q
      · exact q
      · rw [List.getElem?_eq_none q] at hc; cases hc
    obtain ⟨_, q2, q3, _⟩ := hbox j _ (List.getElem?_eq_getElem hj)
    obtain ⟨v, hv, hV⟩ := hval j c0 hc
    rw [Nat.zero_add] at q2 q3 ⊢
    refine ⟨.inr ⟨k, _, he, rfl, by omega, by omega⟩, fun h => ?_, ?_, v, hv, hV _⟩
    · rcases h with h | h
      · exact q2 h
      · exact h
    · exact (hkind.2 j).trans q3

theorem heap_putRow {α : Type} [Inhabited α] (enc : α → Value) (w : World) (b : Nat) (d : Array α) (k : Nat) (h : k ≠ b ∨ d.size = 0) : (putRow enc w b 0 d).heap[k]? = w.heap[k]? := by
  unfold putRow mapBlock
  simp only [Array.getElem?_modify]
  by_cases hk : b = k
  · subst hk
    rcases h with h | h
    · exact absurd rfl h
    · simp only [if_true]
      cases hw : w.heap[b]? with
      | none => rfl
      | some o =>
        simp only [Option.map_some, Option.some.injEq]
        cases o with
        | cells c e f =>
          simp only [onCells, Obj.cells.injEq, and_true, true_and]
          apply Array.ext
          · simp [putCells]
          · intro i h1 h2
            simp [putCells, h]
        | _ => rfl
  · rw [if_neg hk]

theorem shape_putRow {α : Type} [Inhabited α] (enc : α → Value) (w : World) (b : Nat) (d : Array α) : (putRow enc w b 0 d).shape? b = w.shape? b := by
  unfold putRow mapBlock World.shape?
  simp only [Array.getElem?_modify, if_true]
  cases w.heap[b]? with
  | none => rfl
  | some o => cases o <;> simp [onCells, putCells]

/-- The cells of a list whose elements take one cell. -/
theorem parts_row1 {τ : Ty} (hw : width τ = 1) (xs : List (den τ)) : (parts' (.row τ xs)).length = xs.length := by
  have := flat_length τ xs
  rw [hw, Nat.mul_one] at this
  exact this
theorem parts_row1_get {τ : Ty} (hw : width τ = 1) (xs : List (den τ)) (j : Nat) (x : den τ) (c : AV) (hx : xs[j]? = some x) (hc : (cells τ x)[0]? = some c) : (parts' (.row τ xs))[j]? = some c := by
  have := flat_get τ xs j x 0 c hx hc
  rw [hw, Nat.mul_one, Nat.add_zero] at this
  exact this

theorem strRow {Ω : Om} {own : Nat → Nat → Prop} {id b : Nat} {ss : List Str} (h : SlotOK Ω own id (.box (.row .str ss))) {len : Nat} (he : Ω.e id = some (.box b 0 len)) :
    len = ss.length ∧ Go.Sort.Holds encStr Ω.w b 0 ss.toArray ∧ ∀ s ∈ ss, s.length ≤ maxN := by
  obtain ⟨b', off, h1, h2⟩ := h
  rw [he] at h1
  simp only [Option.some.injEq, CObj.box.injEq] at h1
  obtain ⟨rfl, rfl, h1⟩ := h1
  have at_ : ∀ j (hj : j < ss.length), Ω.w.frozen? ⟨b, 0 + j, none⟩ = false ∧ Ω.w.cell? ⟨b, 0 + j, none⟩ = some (encStr ss[j]) ∧ ss[j].length ≤ maxN := by
    intro j hj
    obtain ⟨_, _, q3, v, q4, q5⟩ := h2 j _ (parts_row1_get (τ := .str) rfl ss j ss[j] (.str ss[j]) (by simp [hj]) rfl)
    obtain ⟨rfl, q6⟩ := q5.str_inv
    exact ⟨q3, q4, q6⟩
  refine ⟨by rw [h1]; exact parts_row1 (τ := .str) rfl ss, fun j hj => ?_, fun s hs => ?_⟩
  · have hj' : j < ss.length := by simpa using hj
    obtain ⟨q1, q2, _⟩ := at_ j hj'
    exact ⟨by rw [q2]; simp [hj'], q1⟩
  · obtain ⟨j, hj, rfl⟩ := List.getElem_of_mem hs
    exact (at_ j hj).2.2

theorem mem_compact {ss : List Str} {s : Str} (h : s ∈ Lib.compact ss) : s ∈ ss := by
  unfold Lib.compact Lib.compactUpTo at h
  obtain ⟨j, hj, rfl⟩ := List.mem_map.1 h
  have := (List.mem_filter.1 hj).1
  rw [List.mem_range] at this
  simp [this]

/-- A row of texts that is written anew. -/
theorem After.strRow {w : World} {pub : Nat → Nat → Prop} {e : Nat → Option CObj} {S : List (Nat × SObj)}
    (hp : PubOK w pub) (hs : ∀ id o, bget S id = some o → SlotOK ⟨e, w, pub⟩ (fun _ _ => True) id o) (hd : ∀ id, bget S id = none → e id = none) (hi : Inj e)
    {k b len q : Nat} {ss ts : List Str} {gs : Array Obj} (hk : bget S k = some (.box (.row .str ss))) (he : e k = some (.box b 0 len)) (hl : ts.length = ss.length) (hb : b < w.heap.size) (ht : ∀ s ∈ ts, s.length ≤ maxN) :
    After w pub e (bget (putB S [(k, .box (.row .str ts))])) (grow (putRow encStr (Sort.ahead w q) b 0 ts.toArray) gs) (fun b o => pub b o ∨ False) (fun i => if k = i then some (.box b 0 (parts' (.row .str ss)).length) else e i) := by
  obtain ⟨rfl, hH, _⟩ := AL.strRow (hs k _ hk) he
  have hsz : (putRow encStr (Sort.ahead w q) b 0 ts.toArray).heap.size = w.heap.size := by simp
  have old : ∀ j, j < w.heap.size → (grow (putRow encStr (Sort.ahead w q) b 0 ts.toArray) gs).heap[j]? = (putRow encStr (Sort.ahead w q) b 0 ts.toArray).heap[j]? := by
    intro j hj
    unfold grow
    simp only
    rw [Array.getElem?_append_left (by rw [hsz]; exact hj)]
  have hpl := parts_row1 (τ := .str) rfl ss
  refine After.row hp hs hd hi hk (by rw [he, hpl]) (by rw [parts_row1 rfl, parts_row1 rfl, hl]) rfl rfl rfl (by simp [grow]) (fun b' h1 h2 => ?_) (fun j hj => ?_) ⟨?_, fun o => ?_⟩ (fun j c0 hc => ?_)
  · rw [old b' h1, heap_putRow encStr (Sort.ahead w q) b ts.toArray b' (by rw [hpl] at h2; simpa [hl] using h2)]
    rfl
  · rw [cell_of_block (old b hb) j, cell?_putRow_other encStr (Sort.ahead w q) b 0 ts.toArray ⟨b, j, none⟩ (.inr (.inr (by rw [hpl] at hj; simp; omega)))]
    rfl
  · rw [shape_of_block (old b hb), shape_putRow]
    rfl
  · rw [frozen_of_block (old b hb) o, frozen?_putRow]
    rfl
  · have hj : j < ts.length := by
      rw [← parts_row1 (τ := .str) rfl ts]
      rcases Nat.lt_or_ge j (parts' (.row .str ts)).length with q | q
      · exact q
      · rw [List.getElem?_eq_none q] at hc; cases hc
    rw [parts_row1_get (τ := .str) rfl ts j ts[j] (.str ts[j]) (by simp [hj]) rfl] at hc
    cases hc
    refine ⟨encStr ts[j], ?_, fun Ω' => .str _ (ht _ (List.getElem_mem hj))⟩
    rw [cell_of_block (old b hb) j]
    have := cell?_putRow encStr (Sort.ahead w q) b 0 ss.toArray ts.toArray hH (by simp [hl]) j (by simpa using hj)
    rw [Nat.zero_add] at this
    rw [this]
    simp [hj]

/-- slices.Compact of a row of texts. -/
theorem meets_compact (L : Lays.n194 P ρ) (n : Nat) (ss : List Str) (hn : n = ss.length) :
    Meets P (ρ.f 194) [.arr 900 n 1] [(900, .box (.row .str ss))]
      ⟨some (n = ss.length), none, .arr 900 (Lib.compact ss).length 1, [(900, .box (.row .str (Lib.compact ss ++ List.replicate (ss.length - (Lib.compact ss).length) [])))]⟩ := by
  subst hn
  intro w pub e vs hp hv hs hd hi
  obtain ⟨v, rfl, h1⟩ := VL.one_inv hv
  have hcl : (Lib.compact ss).length ≤ ss.length := by
    unfold Lib.compact Lib.compactUpTo
    rw [List.length_map]
    exact Nat.le_trans (List.length_filter_le _ _) (by simp)
  cases h1 with
  | arr _ _ _ b len cap a he h2 h3 h4 h5 =>
    have he : e 900 = some (.box b 0 len) := he
    obtain ⟨rfl, hH, hlen⟩ := strRow (hs 900 _ rfl) he
    have hpl := parts_row1 (τ := .str) rfl ss
    rcases h5 with rfl | ⟨rfl, hz, rfl⟩
    · by_cases h0 : ss = []
      · subst h0
        refine (Any.slices_Compact_string_empty L (some ⟨b, 0, none⟩) cap w).mono ?_
        rintro en w' ⟨rfl, rfl⟩
        refine ⟨_, _, fun _ _ _ h => (by cases h), ?_, After.row (c' := .row .str []) hp hs hd hi rfl (show e 900 = some (.box b 0 (parts' (.row .str [])).length) from he) rfl rfl rfl rfl (Nat.le_refl _) (fun _ _ _ => rfl) (fun _ _ => rfl) ⟨rfl, fun _ => rfl⟩ (fun j c0 hc => by simp [parts', flat] at hc)⟩
        exact .arr 900 0 1 b (parts' (.row .str [])).length cap _ (by simp) (by omega) (by omega) h4 (.inl rfl)
      · have hpos : 0 < ss.length := List.length_pos_iff.2 h0
        have hb : b < w.heap.size := size_of_cell (hH 0 (by simpa using hpos)).1
        refine (Any.slices_Compact_string L b 0 cap ss w hH (by unfold maxN at h4; omega) h3).mono ?_
        rintro en w' ⟨rfl, q, rfl⟩
        have hA := After.strRow (q := q) (gs := #[]) (ts := Lib.compact ss ++ List.replicate (ss.length - (Lib.compact ss).length) []) hp hs hd hi rfl he (by simp; omega) hb (fun s hs' => by
          rcases List.mem_append.1 hs' with h | h
          · exact hlen s (mem_compact h)
          · obtain ⟨_, rfl⟩ := List.mem_replicate.1 h; exact Nat.zero_le _)
        rw [grow_empty] at hA
        exact ⟨_, _, fun _ _ _ h => (by cases h), .arr 900 (Lib.compact ss).length 1 b (parts' (.row .str ss)).length cap _ (by simp) (by rw [hpl]; omega) (by omega) h4 (.inl rfl), hA⟩
    · have h0 : ss = [] := List.eq_nil_of_length_eq_zero hz
      subst h0
      refine (Any.slices_Compact_string_empty L none 0 w).mono ?_
      rintro en w' ⟨rfl, rfl⟩
      refine ⟨_, _, fun _ _ _ h => (by cases h), ?_, After.row (c' := .row .str []) hp hs hd hi rfl (show e 900 = some (.box b 0 (parts' (.row .str [])).length) from he) rfl rfl rfl rfl (Nat.le_refl _) (fun _ _ _ => rfl) (fun _ _ => rfl) ⟨rfl, fun _ => rfl⟩ (fun j c0 hc => by simp [parts', flat] at hc)⟩
      exact .arr 900 0 1 b (parts' (.row .str [])).length 0 _ (by simp) (by omega) (by omega) h4 (.inr ⟨rfl, rfl, rfl⟩)

end Go.AL
