/-
  What symbolic values and states say of the machine's, and that it lasts while memory grows. No condition.
-/
import Derived.Test.YtjemjblnddfdbaaGreatAlA
import Derived.Laws.AppendOwn
import Derived.Laws.CopyRow
set_option linter.unusedVariables false
set_option linter.unusedSimpArgs false
set_option linter.unnecessarySimpa false
set_option linter.deprecated false
namespace Go.AL

inductive CObj where
  | box (b off len : Nat)
  | tail (n : Nat) (base : Option Nat) (cap : Nat)
  | obj (r : Nat)
  | bld (b : Nat) (g : Option Nat)

/-- What is known beside the machine: which block stands behind a slot; the world; the cells that do not turn any more. -/
structure Om where
  e : Nat → Option CObj
  w : World
  pub : Nat → Nat → Prop

def baseV : Option Nat → Option Addr
  | none => none
  | some b => some ⟨b, 0, none⟩

def maxN : Nat := 9223372036854775807

def TokOK (Ω : Om) (o : Option Nat) (n : Nat) (v : Value) : Prop :=
  ∀ id, o = some id → ∃ m base cap, Ω.e id = some (.tail m base cap) ∧ n ≤ m ∧ (n = m → v = .slice (baseV base) n cap)

inductive V (Ω : Om) : AV → Value → Prop
  | undef (v : Value) : V Ω .undef v
  | int (k : IntKind) (n : Int) : k.min ≤ n → n ≤ k.max → V Ω (.int k n) (.int k n)
  | bool (b : Bool) : V Ω (.bool b) (.bool b)
  | str (s : Str) : s.length ≤ maxN → V Ω (.str s) (.string ⟨s.toArray⟩)
  | lstNil (τ : Ty) (o : Option Nat) : TokOK Ω o 0 (.slice none 0 0) → V Ω (.lst τ [] o) (.slice none 0 0)
  | lst (τ : Ty) (xs : List (den τ)) (o : Option Nat) (b off cap : Nat) (vals : Nat → Nat → Value) :
      xs.length ≤ cap → cap ≤ maxN → TokOK Ω o xs.length (.slice (some ⟨b, off, none⟩) xs.length cap) →
      (∀ (i : Nat) (x : den τ), xs[i]? = some x → ∀ (j : Nat) (c : AV), (cells τ x)[j]? = some c →
        Ω.pub b (off + (i * width τ + j)) ∧ Ω.w.cell? ⟨b, off + (i * width τ + j), none⟩ = some (vals i j)) →
      (∀ (i : Nat) (x : den τ), xs[i]? = some x → ∀ (j : Nat) (c : AV), (cells τ x)[j]? = some c → V Ω c (vals i j)) →
      V Ω (.lst τ xs o) (.slice (some ⟨b, off, none⟩) xs.length cap)
  | lstVoid (τ : Ty) (a : Addr) : V Ω (.lst τ [] none) (.slice (some a) 0 0)
  | nils : V Ω .nils (.slice none 0 0)
  | ptr (id off b o len : Nat) : Ω.e id = some (.box b o len) → V Ω (.ptr id off) (.pointer (some ⟨b, o + off, none⟩))
  | cptr (c : AV) (b off : Nat) (vals : Nat → Value) :
      (∀ (j : Nat) (c' : AV), (parts' c)[j]? = some c' → Ω.pub b (off + j) ∧ Ω.w.cell? ⟨b, off + j, none⟩ = some (vals j)) →
      (∀ (j : Nat) (c' : AV), (parts' c)[j]? = some c' → V Ω c' (vals j)) →
      V Ω (.cptr c) (.pointer (some ⟨b, off, none⟩))
  | nilp : V Ω .nilp (.pointer none)
  | ptNone (n : SN) : V Ω (.pt n none) (.pointer none)
  | ptSome (n : SN) (x : SD n) (v : Value) : V Ω (.cptr (.st n x)) v → V Ω (.pt n (some x)) v
  | arr (id n w b len cap : Nat) (a : Option Addr) : Ω.e id = some (.box b 0 len) → n * w ≤ len → n ≤ cap → cap ≤ maxN → (a = some ⟨b, 0, none⟩ ∨ a = none ∧ n = 0 ∧ cap = 0) →
      V Ω (.arr id n w) (.slice a n cap)
  | aptr (id i w off b o len : Nat) : Ω.e id = some (.box b o len) → V Ω (.aptr id i w off) (.pointer (some ⟨b, o + (i * w + off), none⟩))
  | map (id r : Nat) : Ω.e id = some (.obj r) → V Ω (.map id) (.map (some r))
  | bptr (id b : Nat) (g : Option Nat) : Ω.e id = some (.bld b g) → V Ω (.bptr id) (.pointer (some ⟨b, 0, none⟩))
  | iface (t : Nat) (a : AV) (v : Value) : V Ω a v → V Ω (.iface t a) (.iface t v)
  | nilif : V Ω .nilif .nilIface
  | st (n : SN) (x : SD n) (v : Value) : V Ω (.agg (cells (.st n) x)) v → V Ω (.st n x) v
  | agg (cs : List AV) (vs : List Value) : cs.length = vs.length → (∀ (j : Nat) (c : AV) (v : Value), cs[j]? = some c → vs[j]? = some v → V Ω c v) →
      V Ω (.agg cs) (.agg vs.toArray)
  | tup (cs : List AV) (vs : List Value) : cs.length = vs.length → (∀ (j : Nat) (c : AV) (v : Value), cs[j]? = some c → vs[j]? = some v → V Ω c v) →
      V Ω (.tup cs) (.tuple vs.toArray)
  | fn (f : Nat) (cs : List AV) (vs : List Value) : cs.length = vs.length → (∀ (j : Nat) (c : AV) (v : Value), cs[j]? = some c → vs[j]? = some v → V Ω c v) →
      V Ω (.fn f cs) (.func (.func f) #[] vs.toArray)

/-- Many at once. -/
def VL (Ω : Om) (cs : List AV) (vs : List Value) : Prop := cs.length = vs.length ∧ ∀ (j : Nat) (c : AV) (v : Value), cs[j]? = some c → vs[j]? = some v → V Ω c v

/-! ### Growth -/
def CLe : CObj → CObj → Prop
  | .box b o l, .box b' o' l' => b = b' ∧ o = o' ∧ l = l'
  | .tail n base cap, .tail n' base' cap' => n ≤ n' ∧ (n = n' → base = base' ∧ cap = cap')
  | .obj r, .obj r' => r = r'
  | .bld b _, .bld b' _ => b = b'
  | _, _ => False

theorem CLe.refl (c : CObj) : CLe c c := by cases c <;> simp [CLe]
theorem CLe.box {b o l : Nat} {c : CObj} (h : CLe (.box b o l) c) : c = .box b o l := by
  cases c <;> simp [CLe] at h
  obtain ⟨rfl, rfl, rfl⟩ := h
  rfl
theorem CLe.obj {r : Nat} {c : CObj} (h : CLe (.obj r) c) : c = .obj r := by
  cases c <;> simp [CLe] at h
  subst h
  rfl
theorem CLe.bld {b : Nat} {g : Option Nat} {c : CObj} (h : CLe (.bld b g) c) : ∃ g', c = .bld b g' := by
  cases c <;> simp [CLe] at h
  subst h
  exact ⟨_, rfl⟩
theorem CLe.trans {a b c : CObj} (h : CLe a b) (k : CLe b c) : CLe a c := by
  cases a <;> cases b <;> cases c <;> simp_all [CLe]
  rename_i n1 b1 c1 n2 b2 c2 n3 b3 c3
  obtain ⟨h1, h2⟩ := h
  obtain ⟨k1, k2⟩ := k
  refine ⟨by omega, fun e => ?_⟩
  have e1 : n1 = n2 := by omega
  have e2 : n2 = n3 := by omega
  obtain ⟨h3, h4⟩ := h2 e1
  obtain ⟨k3, k4⟩ := k2 e2
  exact ⟨h3.trans k3, h4.trans k4⟩

structure Ext (Ω Ω' : Om) : Prop where
  e : ∀ id c, Ω.e id = some c → ∃ c', Ω'.e id = some c' ∧ CLe c c'
  pub : ∀ b o, Ω.pub b o → Ω'.pub b o
  cell : ∀ b o, Ω.pub b o → Ω'.w.cell? ⟨b, o, none⟩ = Ω.w.cell? ⟨b, o, none⟩

theorem Ext.refl (Ω : Om) : Ext Ω Ω := ⟨fun _ c h => ⟨c, h, CLe.refl c⟩, fun _ _ h => h, fun _ _ _ => rfl⟩
theorem Ext.trans {a b c : Om} (h : Ext a b) (k : Ext b c) : Ext a c :=
  ⟨fun id x hx => let ⟨y, hy, l⟩ := h.e id x hx; let ⟨z, hz, m⟩ := k.e id y hy; ⟨z, hz, l.trans m⟩,
   fun x o p => k.pub x o (h.pub x o p), fun x o p => (k.cell x o (h.pub x o p)).trans (h.cell x o p)⟩

theorem TokOK.ext {Ω Ω' : Om} (h : Ext Ω Ω') {o : Option Nat} {n : Nat} {v : Value} (t : TokOK Ω o n v) : TokOK Ω' o n v := by
  intro id hid
  obtain ⟨m, base, cap, he, hle, hv⟩ := t id hid
  obtain ⟨c', hc', hl⟩ := h.e id _ he
  cases c' with
  | box b o l => simp [CLe] at hl
  | obj r => simp [CLe] at hl
  | bld b g => simp [CLe] at hl
  | tail m' base' cap' =>
    obtain ⟨h1, h2⟩ := hl
    refine ⟨m', base', cap', hc', by omega, fun e => ?_⟩
    obtain ⟨e1, e2⟩ := h2 (by omega)
    rw [hv (by omega), e1, e2]

theorem V.ext {Ω Ω' : Om} (h : Ext Ω Ω') {a : AV} {v : Value} (hv : V Ω a v) : V Ω' a v := by
  induction hv with
  | undef v => exact .undef v
  | int k n h1 h2 => exact .int k n h1 h2
  | bool b => exact .bool b
  | str s hs => exact .str s hs
  | lstNil τ o ht => exact .lstNil τ o (ht.ext h)
  | lstVoid τ a => exact .lstVoid τ a
  | lst τ xs o b off cap vals h1 h2 h3 h4 h5 ih =>
    exact .lst τ xs o b off cap vals h1 h2 (h3.ext h)
      (fun i x hx j c hc => ⟨h.pub _ _ (h4 i x hx j c hc).1, (h.cell _ _ (h4 i x hx j c hc).1).trans (h4 i x hx j c hc).2⟩) ih
  | nils => exact .nils
  | ptr id off b o len he =>
    obtain ⟨c', hc', hl⟩ := h.e id _ he
    exact .ptr id off b o len (by rw [hc', hl.box])
  | ptNone n => exact .ptNone n
  | ptSome n x v _ ih => exact .ptSome n x v ih
  | arr id n w b len cap a he h1 h2 h3 h4 =>
    obtain ⟨c', hc', hl⟩ := h.e id _ he
    exact .arr id n w b len cap a (by rw [hc', hl.box]) h1 h2 h3 h4
  | aptr id i w off b o len he =>
    obtain ⟨c', hc', hl⟩ := h.e id _ he
    exact .aptr id i w off b o len (by rw [hc', hl.box])
  | map id r he =>
    obtain ⟨c', hc', hl⟩ := h.e id _ he
    exact .map id r (by rw [hc', hl.obj])
  | bptr id b g he =>
    obtain ⟨c', hc', hl⟩ := h.e id _ he
    obtain ⟨g', rfl⟩ := hl.bld
    exact .bptr id b g' hc'
  | iface t a v _ ih => exact .iface t a v ih
  | nilif => exact .nilif
  | st n x v _ ih => exact .st n x v ih
  | cptr cs b off vals h1 h2 ih =>
    exact .cptr cs b off vals (fun j c hc => ⟨h.pub _ _ (h1 j c hc).1, (h.cell _ _ (h1 j c hc).1).trans (h1 j c hc).2⟩) ih
  | nilp => exact .nilp
  | agg cs vs hl _ ih => exact .agg cs vs hl ih
  | tup cs vs hl _ ih => exact .tup cs vs hl ih
  | fn f cs vs hl _ ih => exact .fn f cs vs hl ih

theorem VL.ext {Ω Ω' : Om} (h : Ext Ω Ω') {cs : List AV} {vs : List Value} (hv : VL Ω cs vs) : VL Ω' cs vs :=
  ⟨hv.1, fun j c v hc hw => (hv.2 j c v hc hw).ext h⟩

/-! ### Lists of values -/
theorem VL.nil {Ω : Om} : VL Ω [] [] := ⟨rfl, fun _ _ _ h => by simp at h⟩
theorem VL.cons {Ω : Om} {c : AV} {cs : List AV} {v : Value} {vs : List Value} (h : V Ω c v) (hs : VL Ω cs vs) : VL Ω (c :: cs) (v :: vs) := by
  refine ⟨by simp [hs.1], fun j d u hd hu => ?_⟩
  cases j with
  | zero => simp at hd hu; subst hd hu; exact h
  | succ j => simp at hd hu; exact hs.2 j d u hd hu
theorem VL.head {Ω : Om} {c : AV} {cs : List AV} {v : Value} {vs : List Value} (h : VL Ω (c :: cs) (v :: vs)) : V Ω c v := h.2 0 c v rfl rfl
theorem VL.tail {Ω : Om} {c : AV} {cs : List AV} {v : Value} {vs : List Value} (h : VL Ω (c :: cs) (v :: vs)) : VL Ω cs vs :=
  ⟨by have := h.1; simp at this; exact this, fun j d u hd hu => h.2 (j + 1) d u (by simpa using hd) (by simpa using hu)⟩
theorem VL.cases {Ω : Om} {cs : List AV} {vs : List Value} (h : VL Ω cs vs) :
    (cs = [] ∧ vs = []) ∨ ∃ c cs' v vs', cs = c :: cs' ∧ vs = v :: vs' ∧ V Ω c v ∧ VL Ω cs' vs' := by
  cases cs with
  | nil => left; exact ⟨rfl, List.eq_nil_of_length_eq_zero (by rw [← h.1]; rfl)⟩
  | cons c cs =>
    cases vs with
    | nil => exact absurd h.1 (by simp)
    | cons v vs => exact Or.inr ⟨c, cs, v, vs, rfl, rfl, h.head, h.tail⟩

theorem VL.append {Ω : Om} {cs ds : List AV} {vs us : List Value} (h : VL Ω cs vs) (k : VL Ω ds us) : VL Ω (cs ++ ds) (vs ++ us) := by
  refine ⟨by simp [h.1, k.1], fun j c v hc hv => ?_⟩
  by_cases hj : j < cs.length
  · rw [List.getElem?_append_left hj] at hc
    rw [List.getElem?_append_left (by rw [← h.1]; exact hj)] at hv
    exact h.2 j c v hc hv
  · rw [List.getElem?_append_right (by omega)] at hc
    rw [List.getElem?_append_right (by rw [← h.1]; omega), ← h.1] at hv
    exact k.2 _ c v hc hv

theorem V.agg_inv {Ω : Om} {cs : List AV} {v : Value} (h : V Ω (.agg cs) v) : ∃ vs, v = .agg vs.toArray ∧ VL Ω cs vs := by
  cases h with
  | agg _ vs h1 h2 => exact ⟨vs, rfl, h1, h2⟩
theorem V.tup_inv {Ω : Om} {cs : List AV} {v : Value} (h : V Ω (.tup cs) v) : ∃ vs, v = .tuple vs.toArray ∧ VL Ω cs vs := by
  cases h with
  | tup _ vs h1 h2 => exact ⟨vs, rfl, h1, h2⟩
theorem V.of_agg {Ω : Om} {cs : List AV} {vs : List Value} (h : VL Ω cs vs) : V Ω (.agg cs) (.agg vs.toArray) := .agg cs vs h.1 h.2
theorem V.of_tup {Ω : Om} {cs : List AV} {vs : List Value} (h : VL Ω cs vs) : V Ω (.tup cs) (.tuple vs.toArray) := .tup cs vs h.1 h.2

theorem width_cells (τ : Ty) (x : den τ) : (cells τ x).length = width τ := by
  cases τ with
  | st n => cases n <;> rfl
  | _ => rfl

theorem cells_leaf (τ : Ty) (x : den τ) : (cells τ x).all leaf = true := by
  cases τ with
  | st n => cases n <;> rfl
  | _ => rfl

theorem flat_length (τ : Ty) : ∀ xs : List (den τ), (flat τ xs).length = xs.length * width τ
  | [] => by simp [flat]
  | x :: xs => by
    have := flat_length τ xs
    simp only [flat, List.flatMap_cons, List.length_append, width_cells, List.length_cons] at this ⊢
    rw [this, Nat.add_mul]
    omega

theorem width_pos (τ : Ty) : 0 < width τ := by
  cases τ with
  | st n => cases n <;> simp [width]
  | _ => simp [width]

theorem flat_get (τ : Ty) : ∀ (xs : List (den τ)) (i : Nat) (x : den τ) (j : Nat) (c : AV), xs[i]? = some x → (cells τ x)[j]? = some c → (flat τ xs)[i * width τ + j]? = some c
  | [], i, x, j, c, h, _ => by simp at h
  | y :: ys, 0, x, j, c, h, hc => by
    simp at h
    subst h
    have hj : j < (cells τ y).length := by
      rcases Nat.lt_or_ge j (cells τ y).length with k | k
      · exact k
      · rw [List.getElem?_eq_none k] at hc; cases hc
    simp only [flat, List.flatMap_cons, Nat.zero_mul, Nat.zero_add]
    rw [List.getElem?_append_left hj]
    exact hc
  | y :: ys, i + 1, x, j, c, h, hc => by
    simp at h
    have := flat_get τ ys i x j c h hc
    simp only [flat, List.flatMap_cons] at this ⊢
    rw [List.getElem?_append_right (by rw [width_cells, Nat.add_mul]; omega), width_cells]
    rw [show (i + 1) * width τ + j - width τ = i * width τ + j from by rw [Nat.add_mul]; omega]
    exact this

theorem flat_append (τ : Ty) (xs ys : List (den τ)) : flat τ (xs ++ ys) = flat τ xs ++ flat τ ys := by simp [flat]

theorem flat_leaf (τ : Ty) (xs : List (den τ)) : (flat τ xs).all leaf = true := by
  simp only [flat, List.all_flatMap]
  exact List.all_eq_true.2 fun x _ => cells_leaf τ x

/-! ### One cell, many cells -/
/-- The cells of a value, as a list. -/
theorem V.parts {Ω : Om} {a : AV} {v : Value} (h : V Ω a v) (hl : (parts' a).all leaf = true) : VL Ω (parts' a) v.cells.toList := by
  cases h with
  | agg cs vs h1 h2 => exact ⟨h1, h2⟩
  | undef v => simp [parts', leaf] at hl
  | tup cs vs h1 h2 => simp [parts', leaf] at hl
  | int k n h1 h2 => exact VL.cons (.int k n h1 h2) .nil
  | bool b => exact VL.cons (.bool b) .nil
  | str s hs => exact VL.cons (.str s hs) .nil
  | lstNil τ o ht => exact VL.cons (.lstNil τ o ht) .nil
  | lstVoid τ a => exact VL.cons (.lstVoid τ a) .nil
  | lst τ xs o b off cap vals h1 h2 h3 h4 h5 => exact VL.cons (.lst τ xs o b off cap vals h1 h2 h3 h4 h5) .nil
  | nils => exact VL.cons .nils .nil
  | ptr id off b o len hb => exact VL.cons (.ptr id off b o len hb) .nil
  | ptNone n => exact VL.cons (.ptNone n) .nil
  | ptSome n x v hv =>
    have hv' := hv
    cases hv with
    | cptr _ b off vals h1 h2 => exact VL.cons (.ptSome n x _ hv') .nil
  | arr id n w b len cap a h1 h2 h3 h4 h5 => exact VL.cons (.arr id n w b len cap a h1 h2 h3 h4 h5) .nil
  | aptr id i w off b o len h1 => exact VL.cons (.aptr id i w off b o len h1) .nil
  | map id r h1 => exact VL.cons (.map id r h1) .nil
  | bptr id b g h1 => exact VL.cons (.bptr id b g h1) .nil
  | iface t a v hv => exact VL.cons (.iface t a v hv) .nil
  | nilif => exact VL.cons .nilif .nil
  | cptr cs b off vals h1 h2 => exact VL.cons (.cptr cs b off vals h1 h2) .nil
  | st n x v h1 =>
    obtain ⟨vs, rfl, hv⟩ := h1.agg_inv
    exact hv
  | nilp => exact VL.cons .nilp .nil
  | fn f cs vs h1 h2 => exact VL.cons (.fn f cs vs h1 h2) .nil

theorem V.leaf_one {Ω : Om} {a : AV} {v : Value} (h : V Ω a v) (hl : leaf a = true) : v.oneCell' = true := by
  cases h with
  | ptSome n x v hv => cases hv; rfl
  | undef v => cases hl
  | agg cs vs h1 h2 => cases hl
  | tup cs vs h1 h2 => cases hl
  | st n x v h1 => cases hl
  | _ => rfl

theorem VL.leaf_one {Ω : Om} {cs : List AV} {vs : List Value} (h : VL Ω cs vs) (hl : cs.all leaf = true) : ∀ v ∈ vs, v.oneCell' = true := by
  intro v hv
  obtain ⟨j, hj, e⟩ := List.mem_iff_getElem.1 hv
  have hj' : j < cs.length := by rw [h.1]; exact hj
  have hc : cs[j]? = some cs[j] := List.getElem?_eq_getElem hj'
  have hw : vs[j]? = some v := by rw [List.getElem?_eq_getElem hj, e]
  exact (h.2 j _ _ hc hw).leaf_one (List.all_eq_true.1 hl _ (List.getElem_mem hj'))

end Go.AL
