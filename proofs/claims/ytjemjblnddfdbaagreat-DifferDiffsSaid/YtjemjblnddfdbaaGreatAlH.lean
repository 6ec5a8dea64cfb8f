/-
  Each operation does what the evaluator says of it: literal slices, stores, append. No condition.
-/
import Derived.Test.YtjemjblnddfdbaaGreatAlG
set_option linter.unusedVariables false
set_option linter.unusedSimpArgs false
set_option linter.unnecessarySimpa false
set_option linter.deprecated false
namespace Go.AL

/-! ### Values read as data -/
/-- One cell is read as another one. -/
def Rd (a b : AV) : Prop := ∀ Ω v, V Ω a v → V Ω b v
theorem Rd.refl (a : AV) : Rd a a := fun _ _ h => h
theorem Rd.lst (τ : Ty) (xs : List (den τ)) (o : Option Nat) : Rd (.lst τ xs o) (.lst τ xs none) := by
  intro Ω v hv
  cases hv with
  | lstNil _ _ _ => exact .lstNil τ none (fun id hid => by simp at hid)
  | lstVoid _ a => exact .lstVoid τ a
  | lst _ _ _ b off cap vals h1 h2 h3 h4 h5 => exact .lst τ xs none b off cap vals h1 h2 (fun id hid => by simp at hid) h4 h5
theorem Rd.nils (τ : Ty) : Rd .nils (.lst τ [] none) := by
  intro Ω v hv
  cases hv
  exact .lstNil τ none (fun id hid => by simp at hid)
def RdL (cs ds : List AV) : Prop := cs.length = ds.length ∧ ∀ (j : Nat) (c d : AV), cs[j]? = some c → ds[j]? = some d → Rd c d

theorem RdL.nil : RdL [] [] := ⟨rfl, fun _ _ _ h => by simp at h⟩
theorem RdL.cons {a b : AV} {cs ds : List AV} (h : Rd a b) (k : RdL cs ds) : RdL (a :: cs) (b :: ds) := by
  refine ⟨by simp [k.1], fun j c d hc hd => ?_⟩
  cases j with
  | zero => simp at hc hd; subst hc hd; exact h
  | succ j => exact k.2 j c d (by simpa using hc) (by simpa using hd)

theorem VL.rd {Ω : Om} {cs ds : List AV} {vs : List Value} (h : VL Ω cs vs) (r : RdL cs ds) : VL Ω ds vs := by
  refine ⟨by rw [← r.1, h.1], fun j d v hd hv => ?_⟩
  have hj : j < cs.length := by
    rw [r.1]
    rcases Nat.lt_or_ge j ds.length with k | k
    · exact k
    · rw [List.getElem?_eq_none k] at hd; cases hd
  have hc : cs[j]? = some cs[j] := List.getElem?_eq_getElem hj
  exact r.2 j _ d hc hd _ _ (h.2 j _ v hc hv)

theorem asInt_rd {k : IntKind} {a : AV} {n : Int} (h : asInt k a = some n) : Rd a (.int k n) := by
  cases a <;> simp [asInt] at h
  obtain ⟨rfl, rfl⟩ := h
  exact Rd.refl _
theorem asBool_rd {a : AV} {n : Bool} (h : asBool' a = some n) : Rd a (.bool n) := by
  cases a <;> simp [asBool'] at h
  subst h
  exact Rd.refl _
theorem asStr_rd {a : AV} {n : Str} (h : asStr a = some n) : Rd a (.str n) := by
  cases a <;> simp [asStr] at h
  subst h
  exact Rd.refl _
theorem asLst_rd {τ : Ty} {a : AV} {xs : List (den τ)} (h : asLst τ a = some xs) : Rd a (.lst τ xs none) := by
  cases a <;> simp [asLst] at h
  · rename_i σ ys o
    obtain ⟨e, rfl⟩ := castL_eq h
    subst e
    exact Rd.lst σ ys o
  · subst h
    exact Rd.nils τ

theorem castO_eq {n m : SN} {x : Option (SD n)} {y : Option (SD m)} (h : castO n m x = some y) : ∃ e : n = m, e ▸ x = y := by
  unfold castO at h
  split at h
  · rename_i e; simp at h; exact ⟨e, h⟩
  · simp at h
theorem asPt_rd {n : SN} {a : AV} {x : Option (SD n)} (h : asPt n a = some x) : Rd a (.pt n x) := by
  unfold asPt at h
  split at h
  · obtain ⟨e, h⟩ := castO_eq h
    subst e
    subst h
    exact Rd.refl _
  · simp at h
    subst h
    intro Ω v hv
    cases hv
    exact .ptNone n
  · obtain ⟨e, h⟩ := castO_eq h
    subst e
    subst h
    exact fun Ω v hv => .ptSome _ _ v hv
  · cases h

theorem packShape_rd {cs : List AV} {x : Shape} (h : packShape cs = some x) : RdL cs (shapeCells x) := by
  unfold packShape at h
  split at h
  · split at h
    · rename_i h1 h2 h3 h4 h5
      simp at h
      subst h
      exact .cons (asInt_rd h1) (.cons (asStr_rd h2) (.cons (asStr_rd h3) (.cons (asLst_rd h4) (.cons (asLst_rd h5) .nil))))
    · simp at h
  · simp at h

theorem pack_rd (τ : Ty) {cs : List AV} {x : den τ} (h : pack τ cs = some x) : RdL cs (cells τ x) := by
  unfold pack at h
  split at h
  · exact .cons (asInt_rd h) .nil
  · exact .cons (asBool_rd h) .nil
  · exact .cons (asStr_rd h) .nil
  · exact .cons (asLst_rd h) .nil
  · exact .cons (asPt_rd h) .nil
  · exact packShape_rd h
  · split at h
    · rename_i h1 h2 h3
      simp at h
      subst h
      exact .cons (asInt_rd h1) (.cons (asStr_rd h2) (packShape_rd h3))
    · simp at h
  · split at h
    · rename_i h1 h2
      simp at h
      subst h
      exact .cons (asInt_rd h1) (.cons (asStr_rd h2) .nil)
    · simp at h
  · simp at h

theorem RdL.refl : ∀ cs, RdL cs cs
  | [] => .nil
  | c :: cs => .cons (Rd.refl c) (RdL.refl cs)

theorem castS_eq {n m : SN} {x : SD n} {y : SD m} (h : castS n m x = some y) : ∃ e : n = m, e ▸ x = y := by
  unfold castS at h
  split at h
  · rename_i e; simp at h; exact ⟨e, h⟩
  · simp at h

theorem pack_one {τ : Ty} (hs : isSt τ = false) {a : AV} {x : den τ} (h : pack τ [a] = some x) : parts' a = [a] := by
  cases τ with
  | st n => cases hs
  | int k => cases a <;> first | rfl | cases h
  | bool => cases a <;> first | rfl | cases h
  | str => cases a <;> first | rfl | cases h
  | lst t => cases a <;> first | rfl | cases h
  | pt n => cases a <;> first | rfl | cases h

theorem arg_rd (τ : Ty) {a : AV} {x : den τ} (h : arg τ a = some x) : RdL (parts' a) (cells τ x) := by
  cases τ with
  | st m =>
    cases a with
    | st n y =>
      obtain ⟨e, h⟩ := castS_eq h
      subst e
      subst h
      exact RdL.refl _
    | agg cs => exact pack_rd (.st m) h
    | _ => cases h
  | int k => rw [pack_one rfl (τ := .int k) (x := x) h]; exact pack_rd (.int k) h
  | bool => rw [pack_one rfl (τ := .bool) (x := x) h]; exact pack_rd .bool h
  | str => rw [pack_one rfl (τ := .str) (x := x) h]; exact pack_rd .str h
  | lst t => rw [pack_one rfl (τ := .lst t) (x := x) h]; exact pack_rd (.lst t) h
  | pt n => rw [pack_one rfl (τ := .pt n) (x := x) h]; exact pack_rd (.pt n) h

/-! ### Data and values -/
theorem V.rd {Ω : Om} {a b : AV} {v : Value} (h : V Ω a v) (r : Rd a b) : V Ω b v := r _ _ h

theorem arg_V {Ω : Om} {τ : Ty} {a : AV} {x : den τ} {v : Value} (h : V Ω a v) (ha : arg τ a = some x) : V Ω (inj τ x) v := by
  have hr := arg_rd τ ha
  cases τ with
  | st m =>
    cases a with
    | st n y =>
      obtain ⟨e, ha⟩ := castS_eq ha
      subst e
      subst ha
      exact h
    | agg cs =>
      obtain ⟨vs, rfl, hv⟩ := h.agg_inv
      exact .st m x _ (V.of_agg (hv.rd hr))
    | _ => cases ha
  | int k => rw [pack_one rfl (τ := .int k) (x := x) ha] at hr; exact h.rd (hr.2 0 a _ rfl rfl)
  | bool => rw [pack_one rfl (τ := .bool) (x := x) ha] at hr; exact h.rd (hr.2 0 a _ rfl rfl)
  | str => rw [pack_one rfl (τ := .str) (x := x) ha] at hr; exact h.rd (hr.2 0 a _ rfl rfl)
  | lst t => rw [pack_one rfl (τ := .lst t) (x := x) ha] at hr; exact h.rd (hr.2 0 a _ rfl rfl)
  | pt n => rw [pack_one rfl (τ := .pt n) (x := x) ha] at hr; exact h.rd (hr.2 0 a _ rfl rfl)

section
variable {P : Program} {C : Cfg} {o : Oper}

/-- A block whose first cells are those of a list reads as that list. -/
theorem V_row {Ω : Om} {τ : Ty} {xs : List (den τ)} {o : Option Nat} {b cap : Nat} {vs : List Value} {ws : Array Value} {ty : Nat} {fz : Nat × Nat}
    (hb : Ω.w.heap[b]? = some (.cells ws ty fz)) (hp : ws.toList.take (xs.length * width τ) = vs) (hv : VL Ω (flat τ xs) vs)
    (hc1 : xs.length ≤ cap) (hc2 : cap ≤ maxN) (hpub : ∀ i, i < xs.length * width τ → Ω.pub b i)
    (ht : TokOK Ω o xs.length (.slice (some ⟨b, 0, none⟩) xs.length cap)) : V Ω (.lst τ xs o) (.slice (some ⟨b, 0, none⟩) xs.length cap) := by
  have key : ∀ (i : Nat) (x : den τ), xs[i]? = some x → ∀ (j : Nat) (c : AV), (cells τ x)[j]? = some c →
      i * width τ + j < xs.length * width τ ∧ ∃ v, vs[i * width τ + j]? = some v ∧ ws[i * width τ + j]? = some v ∧ V Ω c v := by
    intro i x hx j c hc
    have hf := flat_get τ xs i x j c hx hc
    have hlt : i * width τ + j < (flat τ xs).length := by
      rcases Nat.lt_or_ge (i * width τ + j) (flat τ xs).length with k | k
      · exact k
      · rw [List.getElem?_eq_none k] at hf; cases hf
    have hlt' : i * width τ + j < vs.length := by rw [← hv.1]; exact hlt
    rw [flat_length] at hlt
    obtain ⟨v, hvj⟩ : ∃ v, vs[i * width τ + j]? = some v := ⟨_, List.getElem?_eq_getElem hlt'⟩
    refine ⟨hlt, v, hvj, ?_, hv.2 _ c _ hf hvj⟩
    rw [← hp, List.getElem?_take, if_pos hlt, Array.getElem?_toList] at hvj
    exact hvj
  refine .lst τ xs o b 0 cap (fun i j => (vs[i * width τ + j]?).getD undef) hc1 hc2 ht (fun i x hx j c hc => ?_) (fun i x hx j c hc => ?_)
  · obtain ⟨h1, v, h2, h3, h4⟩ := key i x hx j c hc
    simp only [Nat.zero_add]
    refine ⟨hpub _ h1, ?_⟩
    rw [cell_of_cells hb, h3, h2]
    rfl
  · obtain ⟨h1, v, h2, h3, h4⟩ := key i x hx j c hc
    simp only [h2]
    exact h4

/-- The cells of a list that is read. -/
theorem V.row_cells {Ω : Om} {τ : Ty} {xs : List (den τ)} {b off : Nat} {vals : Nat → Nat → Value}
    (h4 : ∀ (i : Nat) (x : den τ), xs[i]? = some x → ∀ (j : Nat) (c : AV), (cells τ x)[j]? = some c →
        Ω.pub b (off + (i * width τ + j)) ∧ Ω.w.cell? ⟨b, off + (i * width τ + j), none⟩ = some (vals i j))
    (h5 : ∀ (i : Nat) (x : den τ), xs[i]? = some x → ∀ (j : Nat) (c : AV), (cells τ x)[j]? = some c → V Ω c (vals i j)) :
    ∃ us : List Value, us.length = xs.length * width τ ∧ VL Ω (flat τ xs) us ∧ ∀ j u, us[j]? = some u → Ω.w.cell? ⟨b, off + j, none⟩ = some u := by
  induction xs generalizing off vals with
  | nil => exact ⟨[], by simp, VL.nil, fun j u h => by simp at h⟩
  | cons x xs ih =>
    obtain ⟨us, u1, u2, u3⟩ := ih (off := off + width τ) (vals := fun i => vals (i + 1))
      (fun i y hy j c hc => by
        have := h4 (i + 1) y (by simpa using hy) j c hc
        rw [show off + width τ + (i * width τ + j) = off + ((i + 1) * width τ + j) from by rw [Nat.add_mul]; omega]
        exact this)
      (fun i y hy j c hc => h5 (i + 1) y (by simpa using hy) j c hc)
    have hx := V.elem (Ω := Ω) (xs := x :: xs) (b := b) (off := off) (vals := vals) 0 (by simp) h4 h5 (dfl τ)
    refine ⟨(List.ofFn fun j : Fin (width τ) => vals 0 j) ++ us, by simp [u1, Nat.add_mul]; omega, ?_, fun j u hj => ?_⟩
    · refine VL.append ⟨by simp [width_cells], fun j c v hc hv => ?_⟩ u2
      rw [List.getElem?_ofFn] at hv
      split at hv
      · simp at hv
        subst hv
        exact h5 0 x rfl j c hc
      · simp at hv
    · by_cases hlt : j < width τ
      · rw [List.getElem?_append_left (by simpa using hlt), List.getElem?_ofFn] at hj
        rw [dif_pos hlt] at hj
        simp at hj
        subst hj
        have hc : (cells τ x)[j]? = some ((cells τ x)[j]'(by rw [width_cells]; exact hlt)) := List.getElem?_eq_getElem _
        have := (h4 0 x rfl j _ hc).2
        simpa using this
      · rw [List.getElem?_append_right (by simp; omega)] at hj
        simp only [List.length_ofFn] at hj
        have := u3 _ u hj
        rw [show off + width τ + (j - width τ) = off + j from by omega] at this
        exact this

/-! ### Literal slices -/
theorem itemsF_sound {Ω : Om} {τ : Ty} : ∀ (ps : List (Nat × AV)) (qs : List (Nat × Value)) (i : Nat) (l : List (den τ)) (cur : Array Value),
    ps.map (·.1) = qs.map (·.1) → VL Ω (ps.map (·.2)) (qs.map (·.2)) → itemsF τ i ps = some l → (∀ p ∈ ps, (parts' p.2).all leaf = true) →
    (i + l.length) * width τ ≤ cur.size →
    ∃ us : List Value, VL Ω (flat τ l) us ∧ Instr.fill (fun i => some (i * width τ, width τ)) cur qs = some (cur.toList.take (i * width τ) ++ us ++ cur.toList.drop ((i + l.length) * width τ)).toArray
  | [], qs, i, l, cur, hq, _, hf, _, _ => by
    cases qs with
    | cons _ _ => simp at hq
    | nil =>
      simp [itemsF] at hf
      subst hf
      exact ⟨[], VL.nil, by simp [Instr.fill]⟩
  | (j, x) :: ps, [], i, l, cur, hq, _, _, _, _ => by simp at hq
  | (j, x) :: ps, (j', v) :: qs, i, l, cur, hq, hv, hf, hlf, hl => by
    simp only [List.map_cons, List.cons.injEq] at hq
    obtain ⟨rfl, hq⟩ := hq
    simp only [List.map_cons] at hv
    simp only [itemsF] at hf
    split at hf
    · rename_i hji
      simp at hji
      subst hji
      split at hf
      · rename_i y l' hy hl'
        simp at hf
        subst hf
        have hxl := hlf (j, x) (by simp)
        have hxv := hv.head
        have hp := (hxv.parts hxl).rd (arg_rd τ hy)
        have hvs : v.cells.size = width τ := by have := hp.1; rw [width_cells] at this; simpa using this.symm
        have hle : j * width τ + v.cells.size ≤ cur.size := by
          rw [hvs]
          simp only [List.length_cons] at hl
          have : (j + 1) * width τ ≤ (j + (l'.length + 1)) * width τ := Nat.mul_le_mul_right _ (by omega)
          rw [Nat.add_mul] at this
          omega
        rw [fill_cons (place := fun i => some (i * width τ, width τ)) rfl hvs hle]
        have hsz : (cur.toList.take (j * width τ) ++ v.cells.toList ++ cur.toList.drop (j * width τ + v.cells.size)).toArray.size = cur.size := by simp; omega
        obtain ⟨us, u1, u2⟩ := itemsF_sound ps qs (j + 1) l' _ hq hv.tail hl' (fun p hp => hlf p (by simp [hp])) (by
          rw [hsz]
          simp only [List.length_cons] at hl
          rw [show j + 1 + l'.length = j + (l'.length + 1) from by omega]
          exact hl)
        refine ⟨v.cells.toList ++ us, ?_, ?_⟩
        · have : flat τ (y :: l') = cells τ y ++ flat τ l' := by simp [flat]
          rw [this]
          exact hp.append u1
        · rw [u2]
          congr 1
          apply Array.ext'
          have e1 : (j + 1) * width τ = j * width τ + width τ := by rw [Nat.add_mul]; omega
          have t1 : (cur.toList.take (j * width τ) ++ v.cells.toList ++ cur.toList.drop (j * width τ + v.cells.size)).take ((j + 1) * width τ) = cur.toList.take (j * width τ) ++ v.cells.toList := by
            rw [List.take_left' (by simp; omega)]
          have t2 : (cur.toList.take (j * width τ) ++ v.cells.toList ++ cur.toList.drop (j * width τ + v.cells.size)).drop ((j + 1 + l'.length) * width τ) = cur.toList.drop ((j + (l'.length + 1)) * width τ) := by
            rw [List.drop_append, List.drop_of_length_le (by
              simp
              have : (j + 1) * width τ ≤ (j + 1 + l'.length) * width τ := Nat.mul_le_mul_right _ (by omega)
              omega), List.nil_append, List.drop_drop]
            congr 1
            simp
            have e2 : (j + 1 + l'.length) * width τ = j * width τ + width τ + l'.length * width τ := by rw [Nat.add_mul, Nat.add_mul]; omega
            have e3 : (j + (l'.length + 1)) * width τ = j * width τ + (l'.length * width τ + width τ) := by rw [Nat.add_mul, Nat.add_mul]; omega
            omega
          simp only [List.length_cons]
          rw [t1, t2]
          simp
      · simp at hf
    · simp at hf

theorem ok_buildSlice (hT : TblOK P C.tbl) {t len : Nat} {ps : Array (Nat × Operand)} (hop : o.op = .buildSlice t len ps) : OpOK P C o := by
  intro F s a Ω eff next Q h hd he ho hn
  simp only [effOf, hop] at he
  split at he
  · rename_i d e sz by' z ty hdst hr
    split at he
    · rename_i ti size by2 z2 τ hre
      split at he
      · rename_i l hl hB
        split at he
        · rename_i hck
          simp only [Bool.and_eq_true] at hck
          obtain ⟨⟨hlen, hbig⟩, hlf⟩ := hck
          simp only [Option.some.injEq] at he
          subst he
          have hlen' := lenIs_sound _ _ hlen
          subst hlen'
          obtain ⟨dd, hd1, hd2⟩ := desc_of hT hr rfl
          cases dd <;> simp [descOK] at hd2
          subst hd2
          obtain ⟨i, zz, i1, i2, i3, i4, i5⟩ := (hT _ _ hre).info
          have hw : width τ = size := ((hT _ _ hre).ty τ rfl).1
          have i2' : i.size = width τ := by rw [hw]; exact i2
          have hbig' : l.length * size ≤ 1000000 := by simpa using hbig
          have hzl : zz.cells.size = width τ := by
            have p1 := (hT _ _ hre).zlen
            have : (List.map ofConst zz.cells.toList).length = size := by rw [i5]; exact p1
            rw [hw]
            simpa using this
          let cur : Array Value := (Array.range (l.length * width τ)).map fun k => zz.cells[k % zz.cells.size]!
          have hcs : cur.size = l.length * width τ := by simp [cur]
          obtain ⟨us, u1, u2⟩ := itemsF_sound (Ω := Ω) (ps.toList.map fun (i, x) => (i, opd s.T x)) (ps.toList.map fun (i, x) => (i, a.eval x)) 0 l cur
            (by simp [Function.comp_def])
            (by
              refine ⟨by simp, fun j c v hc hv => ?_⟩
              simp only [List.map_map, List.getElem?_map, Option.map_eq_some_iff] at hc hv
              obtain ⟨x, hx, e⟩ := hc
              obtain ⟨x', hx', e'⟩ := hv
              rw [hx] at hx'
              simp at hx'
              subst hx'
              simp at e e'
              rw [← e, ← e']
              exact V_opd h x.2)
            hl
            (by
              intro p hp
              exact List.all_eq_true.1 hlf p hp)
            (by rw [hcs]; simp)
          have hul : us.length = l.length * width τ := by rw [← u1.1, flat_length]
          have hfin : (cur.toList.take (0 * width τ) ++ us ++ cur.toList.drop ((0 + l.length) * width τ)).toArray = us.toArray := by
            apply Array.ext'
            simp
            rw [hcs]
            omega
          rw [hfin] at u2
          have hh := h.alloc (d := d) (c := .tail l.length (some Ω.w.heap.size) l.length) (obj := .tail τ l.length) (x := .cells us.toArray e) (p := fun o => o < l.length * width τ)
            (dst := some d) (val := .lst τ l (some d)) (v := .slice (some ⟨Ω.w.heap.size, 0, none⟩) l.length l.length)
            (Or.inl (h.dom d hB)) (fun b o hb => by simpa [occ] using hb.symm)
            (fun hx => by
              refine ⟨some Ω.w.heap.size, l.length, by simp, Nat.le_refl _, ?_, by simp, fun b hb => ?_⟩
              · have : l.length * 1 ≤ l.length * size := Nat.mul_le_mul_left _ (by have := (hT _ _ hre).pos rfl; exact this)
                unfold maxN
                omega
              · simp at hb
                subst hb
                refine ⟨fun _ => Or.inl h.frame.size, us.toArray, e, (0, 0), heap_new _ _, Nat.zero_le _, by simp [hul], fun o ho hp => ?_⟩
                rcases hp with hp | ⟨_, hp⟩
                · have := h.cell_lt hp; omega
                · omega)
            (fun o ho => by
              rw [cell_of_cells (heap_new _ _)]
              exact ⟨us[o]'(by omega), by simp [hul, ho]⟩)
            (fun hx => by
              refine V_row (vs := us) (heap_new _ _) (by rw [← hul]; simp) (u1.ext hx) (Nat.le_refl _) ?_ (fun i hi => Or.inr ⟨rfl, hi⟩) ?_
              · have : l.length * 1 ≤ l.length * size := Nat.mul_le_mul_left _ (by have := (hT _ _ hre).pos rfl; exact this)
                unfold maxN
                omega
              · intro id hid
                simp at hid
                subst hid
                exact ⟨l.length, some Ω.w.heap.size, l.length, by simp, Nat.le_refl _, fun _ => rfl⟩)
            (fun d' hd' => by simp at hd'; subst hd'; exact hd d hdst)
          refine wp_value (v := .slice (some ⟨Ω.w.heap.size, 0, none⟩) l.length l.length) (w' := Ω.w.alloc (.cells us.toArray e)) ?_ ?_
          · have hps : (ps.map fun x => match x with | (i, x) => (i, a.eval x)).toList = ps.toList.map fun (i, x) => (i, a.eval x) := by simp
            simp only [execOp, hop, Instr.buildSlice, Sem.run_bind, run_und hd1, Result.andThen_ok, run_size i1, i2']
            rw [if_neg (by rw [hw]; omega)]
            split
            · rename_i h0
              have hcur : ((Array.range (l.length * width τ)).map fun x => (#[] : Array Value)[x % (#[] : Array Value).size]!) = cur := by simp [cur, h0]
              simp only [Sem.run_bind, Sem.run_pure, Result.andThen_ok]
              rw [hcur, hps, u2]
              simp [newRow]
            · rename_i h0
              simp only [Sem.run_bind, run_zero i1 i4, Sem.run_pure, Result.andThen_ok]
              rw [hps]
              have u2' : Instr.fill (fun i => some (i * width τ, width τ)) ((Array.range (l.length * width τ)).map fun x => zz.cells[x % zz.cells.size]!) (ps.toList.map fun (i, x) => (i, a.eval x)) = some us.toArray := u2
              rw [u2']
              simp [newRow]
          · rw [hdst] at hn ⊢
            exact hn _ _ hh
        · simp at he
      · simp at he
    · simp at he
  · simp at he

end
end Go.AL
