/-
  Each operation does what the evaluator says of it: new memory, literals, stores. No condition.
-/
import Derived.Test.YtjemjblnddfdbaaGreatAlF
set_option linter.unusedVariables false
set_option linter.unusedSimpArgs false
set_option linter.unnecessarySimpa false
set_option linter.deprecated false
namespace Go.AL

section
variable {P : Program} {C : Cfg} {o : Oper}

theorem VL.take {Ω : Om} {cs : List AV} {vs : List Value} (h : VL Ω cs vs) (n : Nat) : VL Ω (cs.take n) (vs.take n) := by
  refine ⟨by simp [h.1], fun j c v hc hv => ?_⟩
  rw [List.getElem?_take] at hc hv
  split at hc
  · rename_i hj
    rw [if_pos hj] at hv
    exact h.2 j c v hc hv
  · simp at hc
theorem VL.drop {Ω : Om} {cs : List AV} {vs : List Value} (h : VL Ω cs vs) (n : Nat) : VL Ω (cs.drop n) (vs.drop n) := by
  refine ⟨by simp [h.1], fun j c v hc hv => ?_⟩
  rw [List.getElem?_drop] at hc hv
  exact h.2 _ c v hc hv

theorem over_sound : ∀ (cs vs ds : List AV), over cs vs = some ds → vs.length ≤ cs.length ∧ ds = vs ++ cs.drop vs.length
  | cs, [], ds, h => by
    cases cs <;> simp [over] at h <;> simp [h]
  | [], _ :: _, ds, h => by simp [over] at h
  | c :: cs, v :: vs, ds, h => by
    simp only [over] at h
    split at h
    · rename_i l hl
      obtain ⟨h1, h2⟩ := over_sound cs vs l hl
      simp at h
      exact ⟨by simp; omega, by simp [← h, h2]⟩
    · simp at h
theorem splice_sound : ∀ (cs : List AV) (off : Nat) (vs ds : List AV), splice cs off vs = some ds →
    off + vs.length ≤ cs.length ∧ ds = cs.take off ++ vs ++ cs.drop (off + vs.length)
  | cs, 0, vs, ds, h => by
    have h' : over cs vs = some ds := by cases cs <;> simpa [splice] using h
    obtain ⟨h1, h2⟩ := over_sound _ _ _ h'
    exact ⟨by omega, by simp [h2]⟩
  | [], n + 1, vs, ds, h => by simp [splice] at h
  | c :: cs, n + 1, vs, ds, h => by
    simp only [splice] at h
    split at h
    · rename_i l hl
      obtain ⟨h1, h2⟩ := splice_sound cs n vs l hl
      simp at h
      refine ⟨by simp; omega, ?_⟩
      rw [← h, h2, show n + 1 + vs.length = (n + vs.length) + 1 from by omega]
      simp
    · simp at h

theorem VL.splice {Ω : Om} {cs ds es : List AV} {us ws : List Value} {off : Nat} (h : VL Ω cs us) (k : VL Ω ds ws) (hs : splice cs off ds = some es) :
    VL Ω es (us.take off ++ ws ++ us.drop (off + ws.length)) := by
  obtain ⟨h1, h2⟩ := splice_sound _ _ _ _ hs
  subst h2
  rw [← k.1]
  exact ((h.take off).append k).append (h.drop _)

/-! ### New things -/
theorem updB_one (B : Nat → Option SObj) (k : Nat) (x : SObj) : updB B [(k, x)] = fun j => if k = j then some x else B j := rfl

/-- One slot is new, or turns. -/
theorem Holds.slot {F : Fr} {s : AS} {a : Act} {Ω : Om} {k : Nat} {c : CObj} {obj : SObj} {w' : World} {pub' : Nat → Nat → Prop} {dst : Option Nat} {val : AV} {v : Value}
    (h : Holds F s a Ω) (hx : Ext Ω ⟨fun i => if k = i then some c else Ω.e i, w', pub'⟩)
    (hslot : SlotOK ⟨fun i => if k = i then some c else Ω.e i, w', pub'⟩ F.own k obj)
    (hold : ∀ i c', i ≠ k → Ω.e i = some c' → Kept Ω ⟨fun i => if k = i then some c else Ω.e i, w', pub'⟩ c')
    (hnew : ∀ i c' b o, i ≠ k → Ω.e i = some c' → occ c' b o → occ c b o → False)
    (hp : ∀ b o, pub' b o → ∃ v, w'.cell? ⟨b, o, none⟩ = some v)
    (hf : FrameOK F ⟨fun i => if k = i then some c else Ω.e i, w', pub'⟩)
    (hv : V ⟨fun i => if k = i then some c else Ω.e i, w', pub'⟩ val v) (hd : ∀ d, dst = some d → d < F.n) :
    Holds F ⟨updT s.T dst val, updB s.B [(k, obj)]⟩ (a.put dst v) ⟨fun i => if k = i then some c else Ω.e i, w', pub'⟩ := by
  refine h.step hx hv hd (fun id o ho => ?_) (fun id hid => ?_) (fun i j ci cj b o hi hj hbi hbj => ?_) hp hf
  · simp only [updB_one] at ho
    by_cases hk : k = id
    · subst hk
      simp at ho
      subst ho
      exact hslot
    · rw [if_neg hk] at ho
      exact (h.slots id o ho).keep hx (by simp [hk]) (fun c' hc' => hold id c' (fun e => hk e.symm) hc')
  · simp only [updB_one] at hid
    by_cases hk : k = id
    · subst hk; simp at hid
    · rw [if_neg hk] at hid
      simp only [if_neg hk]
      exact h.dom id hid
  · by_cases hi' : k = i <;> by_cases hj' : k = j
    · omega
    · simp only [if_pos hi', if_neg hj', Option.some.injEq] at hi hj
      subst hi
      exact (hnew j cj b o (fun e => hj' e.symm) hj hbj hbi).elim
    · simp only [if_neg hi', if_pos hj', Option.some.injEq] at hi hj
      subst hj
      exact (hnew i ci b o (fun e => hi' e.symm) hi hbi hbj).elim
    · simp only [if_neg hi', if_neg hj'] at hi hj
      exact h.inj i j ci cj b o hi hj hbi hbj

theorem heap_old (w : World) (x : Obj) (b : Nat) (hb : b < w.heap.size) : (w.alloc x).heap[b]? = w.heap[b]? := by
  show (w.heap.push x)[b]? = _
  rw [Array.getElem?_push, if_neg (by omega)]
theorem heap_new (w : World) (x : Obj) : (w.alloc x).heap[w.heap.size]? = some x := by
  show (w.heap.push x)[w.heap.size]? = _
  simp

theorem Holds.cell_lt {F : Fr} {s : AS} {a : Act} {Ω : Om} (h : Holds F s a Ω) {b o : Nat} (hp : Ω.pub b o) : b < Ω.w.heap.size := by
  obtain ⟨v, hv⟩ := h.pubok b o hp
  exact size_of_cell hv

/-- A new block behind a new slot; some of its cells stand fast from now on. -/
theorem Holds.alloc {F : Fr} {s : AS} {a : Act} {Ω : Om} {d : Nat} {c : CObj} {obj : SObj} {x : Obj} {p : Nat → Prop} {dst : Option Nat} {val : AV} {v : Value}
    (h : Holds F s a Ω) (hn : Ω.e d = none ∨ ∃ c0, Ω.e d = some c0 ∧ CLe c0 c) (hc : ∀ b o, occ c b o → b = Ω.w.heap.size)
    (hslot : Ext Ω ⟨fun i => if d = i then some c else Ω.e i, Ω.w.alloc x, fun b o => Ω.pub b o ∨ (b = Ω.w.heap.size ∧ p o)⟩ →
      SlotOK ⟨fun i => if d = i then some c else Ω.e i, Ω.w.alloc x, fun b o => Ω.pub b o ∨ (b = Ω.w.heap.size ∧ p o)⟩ F.own d obj)
    (hcell : ∀ o, p o → ∃ v, (Ω.w.alloc x).cell? ⟨Ω.w.heap.size, o, none⟩ = some v)
    (hv : Ext Ω ⟨fun i => if d = i then some c else Ω.e i, Ω.w.alloc x, fun b o => Ω.pub b o ∨ (b = Ω.w.heap.size ∧ p o)⟩ →
      V ⟨fun i => if d = i then some c else Ω.e i, Ω.w.alloc x, fun b o => Ω.pub b o ∨ (b = Ω.w.heap.size ∧ p o)⟩ val v) (hd : ∀ d, dst = some d → d < F.n) :
    Holds F ⟨updT s.T dst val, updB s.B [(d, obj)]⟩ (a.put dst v)
      ⟨fun i => if d = i then some c else Ω.e i, Ω.w.alloc x, fun b o => Ω.pub b o ∨ (b = Ω.w.heap.size ∧ p o)⟩ := by
  have hx : Ext Ω ⟨fun i => if d = i then some c else Ω.e i, Ω.w.alloc x, fun b o => Ω.pub b o ∨ (b = Ω.w.heap.size ∧ p o)⟩ := by
    refine ⟨fun id c' hc' => ?_, fun b o hp => Or.inl hp, fun b o hp => cell_of_block (heap_old _ _ _ (h.cell_lt hp)) o⟩
    by_cases hid : d = id
    · subst hid
      rcases hn with hn | ⟨c0, hn, hl⟩
      · rw [hn] at hc'; cases hc'
      · rw [hn] at hc'
        simp at hc'
        subst hc'
        exact ⟨c, by simp, hl⟩
    · exact ⟨c', by simp [hid, hc'], CLe.refl _⟩
  refine h.slot hx (hslot hx) (fun i c' hi he => Kept.of_blocks fun b o hb => ?_) (fun i c' b o hi he hb hb' => ?_) (fun b o hp => ?_) ?_ (hv hx) hd
  · have hlt := h.blk he hb
    exact ⟨heap_old _ _ _ hlt, fun o ho => ho.resolve_right (fun e => by omega)⟩
  · have hlt := h.blk he hb
    have := hc b o hb'
    omega
  · rcases hp with hp | ⟨rfl, hp⟩
    · obtain ⟨v, hv⟩ := h.pubok b o hp
      exact ⟨v, by rw [cell_of_block (heap_old _ _ _ (h.cell_lt hp)), hv]⟩
    · exact hcell o hp
  · have hsz := h.frame.size
    refine ⟨h.frame.os, h.frame.tape, h.frame.output, by simp; omega, fun b hb hnb => ?_, fun b o hb hnb => ?_, fun b hb => ?_, fun b o hp => ?_, fun b o hp => Or.inl (h.frame.old b o hp), fun b o hp => (hx.cell b o (h.frame.old b o hp)).trans (h.frame.pcell b o hp)⟩
    · show (Ω.w.alloc x).heap[b]? = _
      rw [heap_old _ _ _ (by omega)]
      exact h.frame.block b hb hnb
    · exact (cell_of_block (heap_old Ω.w x b (by omega)) o).trans (h.frame.cell b o hb hnb)
    · intro hnb
      obtain ⟨k1, k2⟩ := h.frame.kind b hb hnb
      exact ⟨(shape_of_block (heap_old Ω.w x b (by omega))).trans k1, fun o => (frozen_of_block (heap_old Ω.w x b (by omega)) o).trans (k2 o)⟩
    · rcases hp with hp | ⟨rfl, hp⟩
      · exact h.frame.pub b o hp
      · exact Or.inr (Or.inl h.frame.size)

/-- A new variable. -/
theorem Holds.newVar {F : Fr} {s : AS} {a : Act} {Ω : Om} {d : Nat} {c : AV} {vs : Array Value} {ty : Nat}
    (h : Holds F s a Ω) (hB : s.B d = none) (hv : VL Ω (parts' c) vs.toList) (hd : d < F.n) :
    ∃ Ω', Ω'.w = Ω.w.alloc (.cells vs ty) ∧
      Holds F ⟨updT s.T (some d) (.ptr d 0), updB s.B [(d, .box c)]⟩ (a.put (some d) (.pointer (some ⟨Ω.w.heap.size, 0, none⟩))) Ω' := by
  refine ⟨_, rfl, h.alloc (c := .box Ω.w.heap.size 0 (parts' c).length) (p := fun _ => False) (Or.inl (h.dom d hB)) (fun b o hb => hb.1) (fun hx => ?_) (fun _ hf => hf.elim) (fun hx => ?_) (fun d' hd' => by simp at hd'; subst hd'; exact hd)⟩
  · refine ⟨Ω.w.heap.size, 0, by simp, fun j c' hc => ?_⟩
    have hj : j < vs.size := by
      have h1 : (parts' c).length = vs.toList.length := hv.1
      have h2 : vs.toList.length = vs.size := Array.length_toList
      rcases Nat.lt_or_ge j (parts' c).length with k | k
      · rw [← h2, ← h1]; exact k
      · rw [List.getElem?_eq_none k] at hc; cases hc
    have hcells : (Ω.w.alloc (.cells vs ty)).heap[Ω.w.heap.size]? = some (.cells vs ty (0, 0)) := heap_new _ _
    refine ⟨Or.inl h.frame.size, fun hp => ?_, frozen_of_cells hcells _, vs[j], ?_, (hv.2 j c' _ hc (by simp [hj])).ext hx⟩
    · rcases hp with hp | ⟨_, hp⟩
      · have := h.cell_lt hp; omega
      · exact hp
    · simp only [Nat.zero_add]
      rw [cell_of_cells hcells]
      simp [hj]
  · have := V.ptr (Ω := ⟨fun i => if d = i then some (.box Ω.w.heap.size 0 (parts' c).length) else Ω.e i, Ω.w.alloc (.cells vs ty), fun b o => Ω.pub b o ∨ (b = Ω.w.heap.size ∧ False)⟩) d 0 Ω.w.heap.size 0 (parts' c).length (by simp)
    simpa using this

theorem run_newVar {w : World} {t : Nat} {v : Value} : (newVar t v).run P w = .ok ⟨w.heap.size, 0, none⟩ (w.alloc (.cells v.cells t)) := by
  simp [newVar, newRow]

theorem parts_const (v : Value) : parts' (ofConst v) = [ofConst v] := by
  unfold ofConst
  split <;> (try split) <;> rfl

theorem ofConst_nilp {v : Value} (h : ofConst v = .nilp) : v = .pointer none := by
  unfold ofConst at h
  split at h <;> (try split at h) <;> first | rfl | cases h
theorem ofConst_nils {v : Value} (h : ofConst v = .nils) : v = .slice none 0 0 := by
  unfold ofConst at h
  split at h <;> (try split at h) <;> first | rfl | cases h

theorem ok_alloc (hT : TblOK P C.tbl) {e : Nat} (hop : o.op = .alloc e) : OpOK P C o := by
  intro F s a Ω eff next Q h hd he ho hn
  simp only [effOf, hop] at he
  split at he
  · rename_i d r hdst hr
    split at he
    · rename_i u hu
      split at he
      · rename_i hB
        simp only [Option.some.injEq] at he
        subst he
        obtain ⟨i, z, i1, i2, i3, i4, i5⟩ := (hT _ _ hr).info
        have hz0 : r.zero = [.nilp, .nils] := by
          unfold bldOf at hu
          split at hu
          · assumption
          · cases hu
        rw [hz0] at i5
        have hz : z.cells = #[.pointer none, .slice none 0 0] := by
          match hl : z.cells.toList, i5 with
          | [], i5 => cases i5
          | [_], i5 => simp at i5
          | _ :: _ :: _ :: _, i5 => simp at i5
          | [x, y], i5 =>
            simp only [List.map_cons, List.map_nil, List.cons.injEq, and_true] at i5
            have hx : x = .pointer none := ofConst_nilp i5.1
            have hy : y = .slice none 0 0 := ofConst_nils i5.2
            subst hx hy
            exact Array.toList_inj.1 hl
        have hnew : (Ω.w.alloc (.cells #[.pointer none, .slice none 0 0] e)).heap[Ω.w.heap.size]? = some (.cells #[.pointer none, .slice none 0 0] e (0, 0)) := heap_new _ _
        have hh := h.alloc (d := d) (c := .bld Ω.w.heap.size none) (obj := .bld e u []) (x := .cells #[.pointer none, .slice none 0 0] e) (p := fun _ => False) (dst := some d) (val := .bptr d) (v := .pointer (some ⟨Ω.w.heap.size, 0, none⟩))
          (Or.inl (h.dom d hB)) (fun b o hb => by rcases hb with hb | hb; exact hb; cases hb)
          (fun hx => by
            refine ⟨Ω.w.heap.size, none, by simp, fun b' hb o => ?_, .pointer none, .slice none 0 0, hnew, .inl rfl, rfl, by simp, World.ownsRowF_nil _ _ _ _, fun _ => rfl⟩
            rcases hb with rfl | hb
            · refine ⟨Or.inl h.frame.size, fun hp => ?_⟩
              rcases hp with hp | ⟨_, hp⟩
              · have := h.cell_lt hp; omega
              · exact hp
            · cases hb)
          (fun _ hf => hf.elim) (fun hx => .bptr d Ω.w.heap.size none (by simp)) (fun d' hd' => by simp at hd'; subst hd'; exact hd d hdst)
        refine wp_value (v := .pointer (some ⟨Ω.w.heap.size, 0, none⟩)) (w' := Ω.w.alloc (.cells z.cells e)) ?_ ?_
        · simp [execOp, hop, Instr.alloc, run_zero i1 i4, run_newVar]
        · rw [hz]
          rw [hdst] at hn ⊢
          exact hn _ _ hh
      · simp at he
    split at he
    · rename_i c hB hz
      simp only [Option.some.injEq] at he
      subst he
      obtain ⟨i, z, i1, i2, i3, i4, i5⟩ := (hT _ _ hr).info
      have hc : parts' c = r.zero := by
        split at hz
        · simp only [Option.some.injEq] at hz
          subst hz
          rfl
        · split at hz
          · rename_i c1 hzz
            simp only [Option.some.injEq] at hz
            subst hz
            rw [hzz] at i5
            match hl : z.cells.toList, i5 with
            | [u], i5 =>
              simp only [List.map_cons, List.map_nil, List.cons.injEq, and_true] at i5
              rw [← i5, parts_const, i5, hzz]
          · cases hz
      have hvl : VL Ω (parts' c) z.cells.toList := by rw [hc, ← i5]; exact VL_const Ω _
      obtain ⟨Ω', hw, hh⟩ := h.newVar (ty := e) hB hvl (hd d hdst)
      refine wp_value (v := .pointer (some ⟨Ω.w.heap.size, 0, none⟩)) (w' := Ω.w.alloc (.cells z.cells e)) ?_ ?_
      · simp [execOp, hop, Instr.alloc, run_zero i1 i4, run_newVar]
      · rw [← hw]
        rw [hdst] at hn ⊢
        exact hn _ _ hh
    · simp at he
  · simp at he

theorem ok_box {e : Nat} {x : Operand} (hop : o.op = .box e x) : OpOK P C o := by
  intro F s a Ω eff next Q h hd he ho hn
  simp only [effOf, hop] at he
  split at he
  · rename_i d r hdst hr
    split at he
    · rename_i hB
      split at he
      · rename_i hl
        simp only [Option.some.injEq] at he
        subst he
        simp only [Bool.and_eq_true] at hl
        have hvl := (V_opd h x).parts hl.1
        obtain ⟨Ω', hw, hh⟩ := h.newVar (ty := e) hB hvl (hd d hdst)
        refine wp_value (v := .pointer (some ⟨Ω.w.heap.size, 0, none⟩)) (w' := Ω.w.alloc (.cells (a.eval x).cells e)) ?_ ?_
        · simp [execOp, hop, Instr.box, run_newVar]
        · rw [← hw]
          rw [hdst] at hn ⊢
          exact hn _ _ hh
      · simp at he
    · simp at he
  · simp at he

/-! ### Literals -/
theorem foldl_set (off : Nat) : ∀ (vs : List Value) (i : Nat) (cs : Array Value), off + i + vs.length ≤ cs.size →
    (vs.zipIdx i).foldl (fun (cs : Array Value) (x : Value × Nat) => cs.setIfInBounds (off + x.2) x.1) cs =
      (cs.toList.take (off + i) ++ vs ++ cs.toList.drop (off + i + vs.length)).toArray
  | [], i, cs, _ => by simp
  | v :: vs, i, cs, h => by
    simp at h
    simp only [List.zipIdx_cons, List.foldl_cons]
    rw [foldl_set off vs (i + 1) _ (by simp; omega)]
    apply Array.ext'
    have hi : off + i < cs.toList.length := by simp; omega
    simp only [Array.toList_setIfInBounds, List.length_cons]
    rw [List.set_eq_take_append_cons_drop, if_pos hi]
    have e1 : (List.take (off + i) cs.toList ++ v :: List.drop (off + i + 1) cs.toList).take (off + (i + 1)) = List.take (off + i) cs.toList ++ [v] := by
      rw [List.take_append, List.take_of_length_le (by simp; omega)]
      congr 1
      have : off + (i + 1) - (List.take (off + i) cs.toList).length = 1 := by simp; omega
      rw [this]
      rfl
    have e2 : (List.take (off + i) cs.toList ++ v :: List.drop (off + i + 1) cs.toList).drop (off + (i + 1) + vs.length) = List.drop (off + i + (vs.length + 1)) cs.toList := by
      rw [List.drop_append, List.drop_of_length_le (by simp; omega), List.nil_append]
      have : off + (i + 1) + vs.length - (List.take (off + i) cs.toList).length = vs.length + 1 := by simp; omega
      rw [this, List.drop_succ_cons, List.drop_drop]
      congr 1
      omega
    rw [e1, e2]
    simp

theorem fill_cons {place : Nat → Option (Nat × Nat)} {cells : Array Value} {i : Nat} {v : Value} {rest : List (Nat × Value)} {off size : Nat}
    (hp : place i = some (off, size)) (hs : v.cells.size = size) (hl : off + v.cells.size ≤ cells.size) :
    Instr.fill place cells ((i, v) :: rest) =
      Instr.fill place (cells.toList.take off ++ v.cells.toList ++ cells.toList.drop (off + v.cells.size)).toArray rest := by
  simp only [Instr.fill, hp]
  rw [if_neg (by simp; omega)]
  congr 1
  rw [← Array.foldl_toList]
  have := foldl_set off v.cells.toList 0 cells (by simpa using hl)
  simp only [Nat.add_zero, Array.length_toList] at this
  rw [← this]
  simp [Array.toList_zipIdx]

theorem lenIs_parts {Ω : Om} {x : AV} {v : Value} (h : V Ω x v) {n : Nat} (hl : lenIs (parts' x) n = true) (hn : (parts' x).all leaf = true) : v.cells.size = n := by
  have := (h.parts hn).1
  rw [lenIs_sound _ _ hl] at this
  simpa using this.symm

theorem fillF_sound {Ω : Om} (fs : List (Nat × Nat)) (sz : Nat → Option Nat) : ∀ (ps : List (Nat × AV)) (qs : List (Nat × Value)) (cs ds : List AV) (vs : List Value) (place : Nat → Option (Nat × Nat)),
    (∀ i off t n, nth fs i = some (off, t) → sz t = some n → place i = some (off, n)) →
    ps.map (·.1) = qs.map (·.1) → VL Ω (ps.map (·.2)) (qs.map (·.2)) → VL Ω cs vs → fillF fs sz cs ps = some ds →
    ∃ ws, Instr.fill place vs.toArray qs = some ws ∧ VL Ω ds ws.toList
  | [], qs, cs, ds, vs, place, _, hq, _, hc, hf => by
    cases qs with
    | cons _ _ => simp at hq
    | nil =>
      simp [fillF] at hf
      subst hf
      exact ⟨vs.toArray, rfl, by simpa using hc⟩
  | (i, x) :: ps, [], cs, ds, vs, place, _, hq, _, _, _ => by simp at hq
  | (i, x) :: ps, (i', v) :: qs, cs, ds, vs, place, hp, hq, hv, hc, hf => by
    simp only [List.map_cons, List.cons.injEq] at hq
    obtain ⟨rfl, hq⟩ := hq
    simp only [List.map_cons] at hv
    simp only [fillF] at hf
    split at hf
    · rename_i off t hft
      split at hf
      · rename_i n hn
        split at hf
        · rename_i hl
          simp only [Bool.and_eq_true] at hl
          split at hf
          · rename_i es hes
            have hxv := hv.head
            have hpl := hp _ _ _ _ hft hn
            have hsz := lenIs_parts hxv hl.2 hl.1
            have hsp := hc.splice (hxv.parts hl.1) hes
            obtain ⟨s1, s2⟩ := splice_sound _ _ _ _ hes
            obtain ⟨ws, h1, h2⟩ := fillF_sound fs sz ps qs es ds _ place hp hq hv.tail hsp hf
            refine ⟨ws, ?_, h2⟩
            rw [fill_cons hpl hsz (by
              have e1 := lenIs_sound _ _ hl.2
              simp only [List.size_toArray, ← hc.1]
              omega)]
            simpa using h1
          · simp at hf
        · simp at hf
      · simp at hf
    · simp at hf

theorem run_places {w : World} (hT : TblOK P C.tbl) : ∀ (fields : List Field), (∀ f ∈ fields, ∃ i, P.info? f.type = some i ∧ i.size ≠ 0) →
    (fields.mapM fun f => (do pure (f.offset, ← sizeOf f.type) : Sem (Nat × Nat))).run P w = .ok (fields.map fun f => (f.offset, P.cellsOf f.type)) w
  | [], _ => rfl
  | f :: fs, h => by
    obtain ⟨i, hi, _⟩ := h f (by simp)
    rw [List.mapM_cons]
    simp only [Sem.run_bind, run_size hi, Result.andThen_ok, Sem.run_pure, run_places hT fs (fun f hf => h f (by simp [hf])), List.map_cons, Program.cellsOf, hi, Option.map_some, Option.getD_some]

theorem ok_build (hT : TblOK P C.tbl) {t : Nat} {ps : Array (Nat × Operand)} (hop : o.op = .build t ps) : OpOK P C o := by
  refine OpOK.pure fun F s a Ω eff h he ho => ?_
  simp only [effOf, hop] at he
  split at he
  · rename_i fs sz by' z ty hr
    split at he
    · rename_i cs hcs
      simp only [Option.some.injEq] at he
      subst he
      obtain ⟨d, hd1, hd2⟩ := desc_of hT hr rfl
      cases d <;> simp [descOK] at hd2
      rename_i fields
      obtain ⟨hf1, hf2⟩ := hd2
      obtain ⟨i, zv, i1, i2, i3, i4, i5⟩ := (hT _ _ hr).info
      have i5' : List.map ofConst zv.cells.toList = z := i5
      have hz : VL Ω z zv.cells.toList := by rw [← i5']; exact VL_const Ω _
      have hfi : ∀ f ∈ fields.toList, ∃ i, P.info? f.type = some i ∧ i.size ≠ 0 := by
        intro f hf
        obtain ⟨j, hj, hje⟩ := Array.mem_iff_getElem.1 (Array.mem_toList_iff.1 hf)
        have := hf2 j hj
        rw [hje] at this
        split at this
        · rename_i i' hi'
          exact ⟨i', hi', fun h0 => by simp [h0] at this⟩
        · simp at this
      have hpl : ∀ w, (fields.mapM fun f => (do pure (f.offset, ← sizeOf f.type) : Sem (Nat × Nat))).run P w = .ok (fields.toList.map fun f => (f.offset, P.cellsOf f.type)).toArray w := by
        intro w
        rw [← Array.toArray_toList (xs := fields), List.mapM_toArray]
        simp only [Sem.run_map, run_places hT fields.toList hfi, Result.andThen_ok]
      obtain ⟨ws, h1, h2⟩ := fillF_sound (Ω := Ω) fs (fun t => (tlook C.tbl t).map (·.size)) (ps.toList.map fun (i, x) => (i, opd s.T x)) (ps.toList.map fun (i, x) => (i, a.eval x)) z cs zv.cells.toList
        (fun i => ((fields.toList.map fun f => (f.offset, P.cellsOf f.type)).toArray)[i]?)
        (by
          intro j off t' n hn1 hn2
          rw [nth_eq, ← hf1] at hn1
          simp only [List.getElem?_map, Option.map_eq_some_iff] at hn1 hn2
          obtain ⟨f, hf, e⟩ := hn1
          obtain ⟨r', hr', e'⟩ := hn2
          simp at e
          obtain ⟨i', z', j1, j2, j3, j4, j5⟩ := (hT _ _ hr').info
          simp only [List.getElem?_toArray, List.getElem?_map, hf, Option.map_some, Program.cellsOf, e.1, e.2, j1, Option.getD_some, j2, e'])
        (by simp [Function.comp_def])
        (by
          refine ⟨by simp, fun j c v hc hv => ?_⟩
          simp only [List.map_map, List.getElem?_map, Option.map_eq_some_iff] at hc hv
          obtain ⟨x, hx, e⟩ := hc
          obtain ⟨x', hx', e'⟩ := hv
          rw [hx] at hx'
          simp at hx'
          subst hx'
          simp at e e'
          rw [← e, ← e']
          exact V_opd h x.2)
        hz hcs
      refine ⟨rfl, .agg ws, ?_, ?_⟩
      · simp only [execOp, hop, Instr.build, Sem.run_bind, run_zero i1 i4, Result.andThen_ok, run_und hd1, hpl, Sem.run_pure]
        have e : ps.map (fun x => (x.1, a.eval x.2)) = (ps.toList.map fun (i, x) => (i, a.eval x)).toArray := by apply Array.ext'; simp
        have e2 : (ps.map fun x => match x with | (i, x) => (i, a.eval x)).toList = ps.toList.map fun (i, x) => (i, a.eval x) := by simp
        simp only [Array.toArray_toList] at h1
        rw [e2, h1]
        simp
      · have := V.of_agg h2
        show V Ω (.agg cs) _
        simpa using this
    · simp at he
  · simp at he

end
end Go.AL
