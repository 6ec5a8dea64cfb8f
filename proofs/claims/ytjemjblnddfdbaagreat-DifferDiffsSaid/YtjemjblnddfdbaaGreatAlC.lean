/-
  States that hold of the machine; what keeps them; types. No condition.
-/
import Derived.Test.YtjemjblnddfdbaaGreatAlB
import Derived.Lib.FrozenHead
set_option linter.unusedVariables false
set_option linter.unusedSimpArgs false
set_option linter.unnecessarySimpa false
set_option linter.deprecated false
namespace Go.AL

structure AS where
  T : Nat → AV
  B : Nat → Option SObj

def St.abs (s : St) : AS := ⟨tget s.t, bget s.b⟩

/-- The cells that a slot takes up. -/
def occ : CObj → Nat → Nat → Prop
  | .box b off len, b', o => b' = b ∧ off ≤ o ∧ o < off + len
  | .tail _ base _, b', _ => base = some b'
  | .obj r, b', _ => b' = r
  | .bld b g, b', _ => b' = b ∨ g = some b'

/-- The frame's own: the world at its beginning, what stood fast then, its temporaries, the cells that were lent to it. -/
structure Fr where
  w0 : World
  pub0 : Nat → Nat → Prop
  n : Nat
  e0 : Nat → Option CObj
  dom0 : ∀ id c, e0 id = some c → isLent id = true
  ds : List Deferred

/-- The cells that slots take up. -/
def occL (e : Nat → Option CObj) (b o : Nat) : Prop := ∃ id c, e id = some c ∧ occ c b o
def Fr.br (F : Fr) (b o : Nat) : Prop := occL F.e0 b o

def Fr.own (F : Fr) (b o : Nat) : Prop := F.w0.heap.size ≤ b ∨ F.br b o

/-- A map's entries are these, each key once; they are stamped rising. -/
structure MapOK (Ω : Om) (κ τ : Ty) (m : List (den κ × den τ)) (es : Array MapEntry) (clock : Nat) : Prop where
  size : es.size = m.length
  ent : ∀ (i : Nat) (e : MapEntry) (x : den κ × den τ), es[i]? = some e → m[i]? = some x → V Ω (inj κ x.1) e.key ∧ V Ω (inj τ x.2) e.val
  keys : (m.map (·.1)).Nodup
  born : ∀ (i : Nat) (e : MapEntry), es[i]? = some e → e.born < clock
  rise : ∀ (i j : Nat) (e f : MapEntry), es[i]? = some e → es[j]? = some f → i < j → e.born < f.born

/-- A thing that texts are written into: block b; its row lies in block g. -/
def BldOK (w : World) (t u b : Nat) (g : Option Nat) (l : Str) : Prop :=
  ∃ p v, w.heap[b]? = some (.cells #[p, v] t (0, 0)) ∧ (p = .pointer none ∨ p = .pointer (some ⟨b, 0, none⟩)) ∧ v.ownBlock = g ∧ g ≠ some b ∧ w.ownsRowF 0 u 1 v l.length (Lib.byteCells l) ∧ (l = [] → v = .slice none 0 0)

theorem BldOK.congr {w w' : World} {t u b : Nat} {g : Option Nat} {l : Str} (h : BldOK w t u b g l) (hb : ∀ b', (b' = b ∨ g = some b') → w'.heap[b']? = w.heap[b']?) : BldOK w' t u b g l := by
  obtain ⟨p, v, h1, h2, h3, h4, ⟨h5, h6⟩, h7⟩ := h
  refine ⟨p, v, by rw [hb b (.inl rfl), h1], h2, h3, h4, ⟨h5, ?_⟩, h7⟩
  rcases h6 with h6 | ⟨g', cap, cur, fz, rfl, k1, k2, k3⟩
  · exact .inl h6
  · refine .inr ⟨g', cap, cur, fz, rfl, k1, ?_, k3⟩
    rw [hb g' (.inr (by rw [← h3]; rfl)), k2]

theorem BldOK.lt {w : World} {t u b : Nat} {g : Option Nat} {l : Str} (h : BldOK w t u b g l) {b' : Nat} (hb : b' = b ∨ g = some b') : b' < w.heap.size := by
  obtain ⟨p, v, h1, h2, h3, h4, h5, _⟩ := h
  rcases hb with rfl | hb
  · exact (Array.getElem?_eq_some_iff.1 h1).1
  · exact (h5.lt b' (by rw [h3, hb])).2

def SlotOK (Ω : Om) (own : Nat → Nat → Prop) (id : Nat) : SObj → Prop
  | .box c => ∃ b off, Ω.e id = some (.box b off (parts' c).length) ∧ ∀ (j : Nat) (c' : AV), (parts' c)[j]? = some c' →
      own b (off + j) ∧ ¬ Ω.pub b (off + j) ∧ Ω.w.frozen? ⟨b, off + j, none⟩ = false ∧ ∃ v, Ω.w.cell? ⟨b, off + j, none⟩ = some v ∧ V Ω c' v
  | .tail τ n => ∃ base cap, Ω.e id = some (.tail n base cap) ∧ n ≤ cap ∧ cap ≤ maxN ∧
      (base = none → cap = 0) ∧
      ∀ b, base = some b → (∀ o, own b o) ∧ ∃ vs ty fz, Ω.w.heap[b]? = some (.cells vs ty fz) ∧ fz.2 ≤ n * width τ ∧ cap * width τ ≤ vs.size ∧ ∀ o, n * width τ ≤ o → ¬ Ω.pub b o
  | .map κ τ m => ∃ r, Ω.e id = some (.obj r) ∧ (∀ o, own r o) ∧ ∃ es clock, Ω.w.heap[r]? = some (.map es clock) ∧ MapOK Ω κ τ m es clock
  | .bld t u l => ∃ b g, Ω.e id = some (.bld b g) ∧ (∀ b', (b' = b ∨ g = some b') → ∀ o, own b' o ∧ ¬ Ω.pub b' o) ∧ BldOK Ω.w t u b g l

structure FrameOK (F : Fr) (Ω : Om) : Prop where
  os : Ω.w.os = F.w0.os
  tape : Ω.w.tape = F.w0.tape
  output : Ω.w.output = F.w0.output
  size : F.w0.heap.size ≤ Ω.w.heap.size
  block : ∀ b, b < F.w0.heap.size → (∀ o, ¬ F.br b o) → Ω.w.heap[b]? = F.w0.heap[b]?
  cell : ∀ b o, b < F.w0.heap.size → ¬ F.br b o → Ω.w.cell? ⟨b, o, none⟩ = F.w0.cell? ⟨b, o, none⟩
  kind : ∀ b, b < F.w0.heap.size → ¬ (∀ o, F.br b o) → Ω.w.shape? b = F.w0.shape? b ∧ ∀ o, Ω.w.frozen? ⟨b, o, none⟩ = F.w0.frozen? ⟨b, o, none⟩
  pub : ∀ b o, Ω.pub b o → F.pub0 b o ∨ F.own b o
  old : ∀ b o, F.pub0 b o → Ω.pub b o
  pcell : ∀ b o, F.pub0 b o → Ω.w.cell? ⟨b, o, none⟩ = F.w0.cell? ⟨b, o, none⟩

structure Holds (F : Fr) (s : AS) (a : Act) (Ω : Om) : Prop where
  tmps : ∀ i, V Ω (s.T i) (a.tmps.getD i undef)
  size : a.tmps.size = F.n
  defers : a.defers = F.ds
  slots : ∀ id o, s.B id = some o → SlotOK Ω F.own id o
  dom : ∀ id, s.B id = none → Ω.e id = none
  inj : ∀ i j c d b o, Ω.e i = some c → Ω.e j = some d → occ c b o → occ d b o → i = j
  pubok : ∀ b o, Ω.pub b o → ∃ v, Ω.w.cell? ⟨b, o, none⟩ = some v
  keep : ∀ id c, F.e0 id = some c → ∃ c', Ω.e id = some c' ∧ CLe c c'
  frame : FrameOK F Ω

def updT (T : Nat → AV) (d : Option Nat) (v : AV) : Nat → AV :=
  match d with
  | some d => fun i => if d = i then v else T i
  | none => T

theorem Holds.step {F : Fr} {s : AS} {a : Act} {Ω Ω' : Om} {B' : Nat → Option SObj} {dst : Option Nat} {val : AV} {v : Value}
    (h : Holds F s a Ω) (hx : Ext Ω Ω') (hv : V Ω' val v) (hd : ∀ d, dst = some d → d < F.n)
    (hs : ∀ id o, B' id = some o → SlotOK Ω' F.own id o) (hdom : ∀ id, B' id = none → Ω'.e id = none)
    (hinj : ∀ i j c d b o, Ω'.e i = some c → Ω'.e j = some d → occ c b o → occ d b o → i = j)
    (hp : ∀ b o, Ω'.pub b o → ∃ v, Ω'.w.cell? ⟨b, o, none⟩ = some v) (hf : FrameOK F Ω') :
    Holds F ⟨updT s.T dst val, B'⟩ (a.put dst v) Ω' := by
  refine ⟨fun i => ?_, ?_, ?_, hs, hdom, hinj, hp, fun id c hc => let ⟨c1, h1, l1⟩ := h.keep id c hc; let ⟨c2, h2, l2⟩ := hx.e id c1 h1; ⟨c2, h2, l1.trans l2⟩, hf⟩
  · cases dst with
    | none => exact (h.tmps i).ext hx
    | some d =>
      simp only [updT, Act.put]
      have hdn := hd d rfl
      by_cases hi : d = i
      · subst hi
        rw [if_pos rfl]
        have : (a.tmps.setIfInBounds d v).getD d undef = v := by
          simp [Array.getD_eq_getD_getElem?, h.size, hdn]
        rw [this]
        exact hv
      · rw [if_neg hi]
        have : (a.tmps.setIfInBounds d v).getD i undef = a.tmps.getD i undef := by
          simp [Array.getD_eq_getD_getElem?, hi]
        rw [this]
        exact (h.tmps i).ext hx
  · cases dst <;> simp [Act.put, h.size]
  · cases dst <;> simp [Act.put, h.defers]

theorem Holds.pure {F : Fr} {s : AS} {a : Act} {Ω : Om} {dst : Option Nat} {val : AV} {v : Value}
    (h : Holds F s a Ω) (hv : V Ω val v) (hd : ∀ d, dst = some d → d < F.n) : Holds F ⟨updT s.T dst val, s.B⟩ (a.put dst v) Ω :=
  h.step (Ext.refl Ω) hv hd h.slots h.dom h.inj h.pubok h.frame

theorem size_of_block {w : World} {b : Nat} {o : Obj} (h : w.heap[b]? = some o) : b < w.heap.size := by
  rcases Nat.lt_or_ge b w.heap.size with k | k
  · exact k
  · rw [Array.getElem?_eq_none k] at h; cases h

theorem size_of_cell {w : World} {b o : Nat} {v : Value} (h : w.cell? ⟨b, o, none⟩ = some v) : b < w.heap.size := World.block_lt_of_cell? w ⟨b, o, none⟩ h

theorem cell_of_block {w w' : World} {b : Nat} (h : w'.heap[b]? = w.heap[b]?) (o : Nat) : w'.cell? ⟨b, o, none⟩ = w.cell? ⟨b, o, none⟩ := by
  simp [World.cell?, h]
theorem frozen_of_block {w w' : World} {b : Nat} (h : w'.heap[b]? = w.heap[b]?) (o : Nat) : w'.frozen? ⟨b, o, none⟩ = w.frozen? ⟨b, o, none⟩ := by
  simp [World.frozen?, h]
theorem shape_of_block {w w' : World} {b : Nat} (h : w'.heap[b]? = w.heap[b]?) : w'.shape? b = w.shape? b := by
  simp [World.shape?, h]

theorem cell_of_cells {w : World} {b : Nat} {vs : Array Value} {ty : Nat} {fz : Nat × Nat} (h : w.heap[b]? = some (.cells vs ty fz)) (o : Nat) :
    w.cell? ⟨b, o, none⟩ = vs[o]? := by
  simp [World.cell?, h]

theorem frozen_of_cells {w : World} {b : Nat} {vs : Array Value} {ty : Nat} (h : w.heap[b]? = some (.cells vs ty (0, 0))) (o : Nat) :
    w.frozen? ⟨b, o, none⟩ = false := by
  simp [World.frozen?, h]

/-- What a slot takes up lies in the heap. -/
theorem Holds.blk {F : Fr} {s : AS} {a : Act} {Ω : Om} (h : Holds F s a Ω) {id b o : Nat} {c : CObj} (hc : Ω.e id = some c) (hb : occ c b o) : b < Ω.w.heap.size := by
  cases hB : s.B id with
  | none => rw [h.dom id hB] at hc; cases hc
  | some ob =>
    have hs := h.slots id ob hB
    cases ob with
    | box x =>
      obtain ⟨b', off, he, hh⟩ := hs
      rw [he] at hc
      simp only [Option.some.injEq] at hc
      subst hc
      obtain ⟨rfl, h1, h2⟩ := hb
      have hj : o - off < (parts' x).length := by omega
      obtain ⟨_, _, _, v, hv, _⟩ := hh (o - off) _ (List.getElem?_eq_getElem hj)
      exact size_of_cell hv
    | tail τ n =>
      obtain ⟨base, cap, he, _, _, _, hb'⟩ := hs
      rw [he] at hc
      simp only [Option.some.injEq] at hc
      subst hc
      obtain ⟨_, vs, ty, fz, hh, _⟩ := hb' b hb
      exact size_of_block hh
    | map κ τ m =>
      obtain ⟨r, he, _, es, clock, hh, _⟩ := hs
      rw [he] at hc
      simp only [Option.some.injEq] at hc
      subst hc
      have : b = r := hb
      subst this
      exact size_of_block hh
    | bld t u l =>
      obtain ⟨b0, g, he, _, hh⟩ := hs
      rw [he] at hc
      simp only [Option.some.injEq] at hc
      subst hc
      exact hh.lt hb

/-- A slot's cells stay as they are. -/
def Kept (Ω Ω' : Om) : CObj → Prop
  | .box b off len => ∀ o, off ≤ o → o < off + len → Ω'.w.cell? ⟨b, o, none⟩ = Ω.w.cell? ⟨b, o, none⟩ ∧ Ω'.w.frozen? ⟨b, o, none⟩ = Ω.w.frozen? ⟨b, o, none⟩ ∧ (Ω'.pub b o → Ω.pub b o)
  | .tail _ base _ => ∀ b, base = some b → Ω'.w.heap[b]? = Ω.w.heap[b]? ∧ ∀ o, Ω'.pub b o → Ω.pub b o
  | .obj r => Ω'.w.heap[r]? = Ω.w.heap[r]?
  | .bld b g => ∀ b', (b' = b ∨ g = some b') → Ω'.w.heap[b']? = Ω.w.heap[b']? ∧ ∀ o, Ω'.pub b' o → Ω.pub b' o

theorem Kept.of_blocks {Ω Ω' : Om} {c : CObj} (h : ∀ b o, occ c b o → Ω'.w.heap[b]? = Ω.w.heap[b]? ∧ ∀ o, Ω'.pub b o → Ω.pub b o) : Kept Ω Ω' c := by
  cases c with
  | box b off len =>
    intro o h1 h2
    obtain ⟨k1, k2⟩ := h b o ⟨rfl, h1, h2⟩
    exact ⟨cell_of_block k1 o, frozen_of_block k1 o, k2 o⟩
  | tail n base cap => exact fun b hb => h b 0 hb
  | obj r => exact (h r 0 rfl).1
  | bld b g => exact fun b' hb => h b' 0 hb

theorem MapOK.ext {Ω Ω' : Om} (hx : Ext Ω Ω') {κ τ : Ty} {m : List (den κ × den τ)} {es : Array MapEntry} {clock : Nat} (h : MapOK Ω κ τ m es clock) : MapOK Ω' κ τ m es clock :=
  ⟨h.size, fun i e x he hx' => ⟨(h.ent i e x he hx').1.ext hx, (h.ent i e x he hx').2.ext hx⟩, h.keys, h.born, h.rise⟩

theorem SlotOK.keep {Ω Ω' : Om} {own : Nat → Nat → Prop} {id : Nat} {o : SObj} (h : SlotOK Ω own id o) (hx : Ext Ω Ω') (he : Ω'.e id = Ω.e id)
    (hk : ∀ c, Ω.e id = some c → Kept Ω Ω' c) : SlotOK Ω' own id o := by
  cases o with
  | box c =>
    obtain ⟨b, off, h1, h2⟩ := h
    refine ⟨b, off, by rw [he, h1], fun j c' hc => ?_⟩
    obtain ⟨q1, q2, q3, v, q4, q5⟩ := h2 j c' hc
    have hj : j < (parts' c).length := by
      rcases Nat.lt_or_ge j (parts' c).length with k | k
      · exact k
      · rw [List.getElem?_eq_none k] at hc; cases hc
    obtain ⟨k1, k2, k3⟩ := hk _ h1 (off + j) (by omega) (by omega)
    exact ⟨q1, fun hp => q2 (k3 hp), by rw [k2, q3], v, by rw [k1, q4], q5.ext hx⟩
  | tail τ n =>
    obtain ⟨base, cap, h1, h2, h3, h4, h5⟩ := h
    refine ⟨base, cap, by rw [he, h1], h2, h3, h4, fun b hbb => ?_⟩
    obtain ⟨o1, vs, ty, fz, o2, of, o3, o4⟩ := h5 b hbb
    obtain ⟨k1, k2⟩ := hk _ h1 b hbb
    exact ⟨o1, vs, ty, fz, by rw [k1, o2], of, o3, fun o ho hp => o4 o ho (k2 o hp)⟩
  | map κ τ m =>
    obtain ⟨r, h1, h2, es, clock, h3, h4⟩ := h
    have k1 : Ω'.w.heap[r]? = Ω.w.heap[r]? := hk _ h1
    exact ⟨r, by rw [he, h1], h2, es, clock, by rw [k1, h3], h4.ext hx⟩
  | bld t u l =>
    obtain ⟨b, g, h1, h2, h3⟩ := h
    exact ⟨b, g, by rw [he, h1], fun b' hb o => ⟨(h2 b' hb o).1, fun hp => (h2 b' hb o).2 ((hk _ h1 b' hb).2 o hp)⟩, h3.congr fun b' hb => (hk _ h1 b' hb).1⟩

/-- A draw turns nothing. -/
theorem Holds.drew {F : Fr} {s : AS} {a : Act} {Ω : Om} (h : Holds F s a Ω) : Holds F s a ⟨Ω.e, Ω.w.drew, Ω.pub⟩ := by
  have hx : Ext Ω ⟨Ω.e, Ω.w.drew, Ω.pub⟩ := ⟨fun _ c hc => ⟨c, hc, CLe.refl c⟩, fun _ _ p => p, fun _ _ _ => rfl⟩
  exact ⟨fun i => (h.tmps i).ext hx, h.size, h.defers, fun id o ho => (h.slots id o ho).keep hx rfl (fun _ _ => Kept.of_blocks fun _ _ _ => ⟨rfl, fun _ p => p⟩), h.dom, h.inj, h.pubok, h.keep,
    ⟨h.frame.os, h.frame.tape, h.frame.output, h.frame.size, h.frame.block, h.frame.cell, h.frame.kind, h.frame.pub, h.frame.old, h.frame.pcell⟩⟩

/-! ### Types -/
def descOK (P : Program) : TI → TypeDesc → Bool
  | .int k, .int k' => decide (k = k')
  | .bool, .bool => true
  | .str, .string => true
  | .slice e, .slice e' => Nat.beq e e'
  | .ptr e, .pointer e' => Nat.beq e e'
  | .map k e, .map k' e' => Nat.beq k k' && Nat.beq e e'
  | .strct _ fs, .struct fields =>
    (decide ((fields.toList.map fun f => (f.offset, f.type)) = fs)) && fields.toList.all fun f => (match P.info? f.type with | some i => !Nat.beq i.size 0 | none => false) && !(f.name == "_")
  | .iface, .interface _ => true
  | .other, d => match d with | .struct _ | .array .. | .interface _ => false | _ => true
  | _, _ => false

def zAgg : Value → Bool
  | .agg _ => true
  | _ => false

structure TRok (P : Program) (t : Nat) (r : TR) : Prop where
  info : ∃ i z, P.info? t = some i ∧ i.size = r.size ∧ i.bytes = r.bytes ∧ i.zero = some z ∧ z.cells.toList.map ofConst = r.zero
  zlen : r.zero.length = r.size
  bpos : 0 < r.size → 0 < r.bytes
  desc : ∃ d, P.underlying t = some d ∧ descOK P r.ti d = true
  ty : ∀ τ, r.ty = some τ → width τ = r.size ∧ isSt τ = r.isAgg
  zagg : ∀ i z, P.info? t = some i → i.zero = some z → zAgg z = r.isAgg
  eqs : ∀ fs, r.ti = .strct true fs → P.stoodInHeld t = false ∧ P.eqGuardType P.depth t = false

theorem TRok.pos {P : Program} {t : Nat} {r : TR} (h : TRok P t r) {τ : Ty} (hτ : r.ty = some τ) : 0 < r.size := by rw [← (h.ty τ hτ).1]; exact width_pos τ
theorem TRok.bps {P : Program} {t : Nat} {r : TR} (h : TRok P t r) {τ : Ty} (hτ : r.ty = some τ) : 0 < r.bytes := h.bpos (h.pos hτ)

def TblOK (P : Program) (tbl : List (Nat × TR)) : Prop := ∀ t r, tlook tbl t = some r → TRok P t r

theorem okC_sound (k : IntKind) (n : Int) (h : okC k n = true) : k.min ≤ n ∧ n ≤ k.max := by
  cases n with
  | ofNat m =>
    simp only [okC, Nat.ble_eq] at h
    cases k <;> simp only [topC, IntKind.min, IntKind.max, IntKind.signed, IntKind.bits] at h ⊢ <;> constructor <;> simp <;> omega
  | negSucc m =>
    cases k <;> simp only [okC, signedC, Nat.ble_eq, if_true, if_false, Bool.false_eq_true, topC, IntKind.min, IntKind.max, IntKind.signed, IntKind.bits] at h ⊢ <;> (try exact h.elim) <;> constructor <;> simp <;> omega

theorem lenLe_sound {α : Type} : ∀ (l : List α) (n : Nat), lenLe l n = true → l.length ≤ n
  | [], _, _ => by simp
  | _ :: r, 0, h => by simp [lenLe] at h
  | _ :: r, n + 1, h => by simp only [lenLe] at h; have := lenLe_sound r n h; simp; omega
theorem lenIs_sound {α : Type} : ∀ (l : List α) (n : Nat), lenIs l n = true → l.length = n
  | [], 0, _ => rfl
  | [], n + 1, h => by simp [lenIs] at h
  | _ :: r, 0, h => by simp [lenIs] at h
  | _ :: r, n + 1, h => by simp only [lenIs] at h; simp [lenIs_sound r n h]
theorem nth_eq {α : Type} : ∀ (l : List α) (n : Nat), nth l n = l[n]?
  | [], n => by simp [nth]
  | a :: r, 0 => rfl
  | a :: r, n + 1 => by simp [nth, nth_eq r n]

theorem V_const (Ω : Om) (v : Value) : V Ω (ofConst v) v := by
  unfold ofConst
  split
  · split
    · rename_i k n h
      obtain ⟨h1, h2⟩ := okC_sound k n h
      exact .int k n h1 h2
    · exact .undef _
  · exact .bool _
  · split
    · rename_i s h
      have hl := lenLe_sound _ _ h
      have := V.str (Ω := Ω) s.data.toList (by unfold maxN; omega)
      simpa using this
    · exact .undef _
  · exact .nils
  · exact .nilp
  · exact .nilif
  · exact .undef _

theorem VL_const (Ω : Om) (vs : List Value) : VL Ω (vs.map ofConst) vs := by
  refine ⟨by simp, fun j c v hc hv => ?_⟩
  rw [List.getElem?_map, hv] at hc
  simp only [Option.map_some, Option.some.injEq] at hc
  subst hc
  exact V_const Ω v

theorem V_opd {F : Fr} {s : AS} {a : Act} {Ω : Om} (h : Holds F s a Ω) (x : Operand) : V Ω (opd s.T x) (a.eval x) := by
  cases x with
  | tmp t => exact h.tmps t
  | const v => exact V_const Ω v
  | global g => exact .undef _
  | func f => exact .fn f [] [] rfl (fun j c v hc => by simp at hc)

end Go.AL
