/-
  From readings to data: types and items. No condition.
-/
import Derived.Test.YtjemjblnddfdbaaGreatAlJn
set_option linter.unusedVariables false
set_option linter.unusedSimpArgs false
set_option linter.unnecessarySimpa false
set_option linter.deprecated false
namespace Go.AL
open Go.ChangeShapes Go.WideShapes Go.RowKit

variable {H : Type} {enc : TypeId × Value → H} {P : Program} {w : World} {base : Nat} {held : Bool}

theorem trod_at {sp : Nat → Bool} {t : TypeId} {fs : Array Field} {fuel : Nat} {cs : List Value} {x : DataW H × List MemPlace} (ht : P.underlying t = some (.struct fs)) (h : DataW.trod enc P w base sp held fuel t cs = some x) :
    ∃ n, fuel = n + 1 ∧ cs.length = P.cellsOf t ∧ ∀ (i : Nat) (f : Field), fs[i]? = some f → ∃ y, DataW.trod enc P w base sp held n f.type ((cs.drop f.offset).take (P.cellsOf f.type)) = some y := by
  obtain ⟨xs, n, hn, _, hl, hx, hf⟩ := DataW.trod_struct ht h
  refine ⟨n, hn, hl, fun i f hif => ?_⟩
  have hi : i < xs.length := by
    rw [hx]
    rcases Nat.lt_or_ge i fs.size with k | k
    · exact k
    · rw [Array.getElem?_eq_none k] at hif; cases hif
  exact ⟨xs[i], by rw [hf i f hif]; exact List.getElem?_eq_getElem hi⟩

/-- A slice within data. -/
theorem V_lstI {t e : TypeId} {τ : Ty} {fuel : Nat} {cs : List Value} {x : DataW H × List MemPlace} (ht : P.underlying t = some (.slice e)) (hc : P.cellsOf e = width τ) (hw : 0 < width τ)
    (h : DataW.trod enc P w base (fun _ => true) held fuel t cs = some x)
    (hel : ∀ (n : Nat) (ds : List Value) (y : DataW H × List MemPlace), fuel = n + 1 → DataW.trod enc P w base (fun _ => true) held n e ds = some y → ∃ z : den τ, VL (Om0 w) (cells τ z) ds) :
    ∃ (l : List (den τ)) (v : Value), cs = [v] ∧ V (Om0 w) (.lst τ l none) v := by
  have h0 := h
  rcases DataW.trod_slice ht h with ⟨rfl, _⟩ | ⟨a, len, cap, elems, rest, n, hfu, rfl, _, _, hlc, hcm, hlen, hels, hrest, _⟩
  · exact ⟨[], _, rfl, .lstNil τ none (fun id hid => by cases hid)⟩
  · by_cases hcap : cap = 0
    · have : len = 0 := by omega
      subst hcap this
      exact ⟨[], _, rfl, .lstVoid τ a⟩
    · refine V_lst ht hc h0 hel fun a' len' cap' e' => ?_
      simp only [List.cons.injEq, Value.slice.injEq, Option.some.injEq, and_true] at e'
      obtain ⟨rfl, rfl, rfl⟩ := e'
      have hr : ∃ (ad : Addr) (y : DataW H × List MemPlace), ad = a ∧ (w.cells? base ad (P.cellsOf e)).bind (DataW.trod enc P w base (fun _ => true) held n e) = some y := by
        by_cases hl : len = 0
        · obtain ⟨r1, r2⟩ := hrest rfl
          have := r2 0 (by omega)
          rw [hl] at this
          refine ⟨_, _, ?_, this.trans (List.getElem?_eq_getElem (by omega))⟩
          simp [Addr.add]
        · have := hels 0 (by omega)
          refine ⟨_, _, ?_, this.trans (List.getElem?_eq_getElem (by omega))⟩
          simp [Addr.add]
      obtain ⟨ad, y, rfl, hy⟩ := hr
      rw [Option.bind_eq_some_iff] at hy
      obtain ⟨ds, hd, _⟩ := hy
      obtain ⟨_, hdl, hdc⟩ := World.cells?_some hd
      have := hdc 0 (by rw [hc]; exact hw)
      have ha : ad.add 0 = ad := by simp [Addr.add]
      rw [ha, List.getElem?_eq_getElem (by rw [hdl, hc]; exact hw)] at this
      unfold World.cell? at this
      split at this
      · split at this
        · cases this
        · rename_i hs
          cases hsp : ad.spot
          · rfl
          · rw [hsp] at hs; exact absurd rfl hs
      · cases this

/-- How the type of types lies. -/
structure ShapeAt (P : Program) (t : TypeId) : Prop where
  ex : ∃ (f0 f1 f2 f3 f4 : Field) (e : TypeId), P.underlying t = some (.struct #[f0, f1, f2, f3, f4]) ∧ P.cellsOf t = 5 ∧
    (f0.offset = 0 ∧ f1.offset = 1 ∧ f2.offset = 2 ∧ f3.offset = 3 ∧ f4.offset = 4) ∧
    (P.cellsOf f0.type = 1 ∧ P.cellsOf f1.type = 1 ∧ P.cellsOf f2.type = 1 ∧ P.cellsOf f3.type = 1 ∧ P.cellsOf f4.type = 1) ∧
    P.underlying f0.type = some (.int .i64) ∧ P.underlying f1.type = some .string ∧ P.underlying f2.type = some .string ∧ P.underlying f3.type = some (.slice e) ∧ P.underlying e = some .string ∧ P.cellsOf e = 1 ∧ P.underlying f4.type = some (.slice t)
theorem V_shape {t : TypeId} (hs : ShapeAt P t) : ∀ (fuel : Nat) (cs : List Value) (x : DataW H × List MemPlace), DataW.trod enc P w base (fun _ => true) held fuel t cs = some x → ∃ s : Shape, VL (Om0 w) (cells (.st .shape) s) cs := by
  obtain ⟨f0, f1, f2, f3, f4, e, ht, hc, ⟨o0, o1, o2, o3, o4⟩, ⟨c0, c1, c2, c3, c4⟩, u0, u1, u2, u3, us, ce, u4⟩ := hs
  intro fuel
  induction fuel using Nat.strongRecOn with
  | _ fuel ih =>
  intro cs x h
  obtain ⟨n, hn, hl, hf⟩ := trod_at ht h
  rw [hc] at hl
  obtain ⟨y0, h0⟩ := hf 0 f0 rfl
  obtain ⟨y1, h1⟩ := hf 1 f1 rfl
  obtain ⟨y2, h2⟩ := hf 2 f2 rfl
  obtain ⟨y3, h3⟩ := hf 3 f3 rfl
  obtain ⟨y4, h4⟩ := hf 4 f4 rfl
  match cs, hl with
  | [a0, a1, a2, a3, a4], _ =>
    rw [o0, c0] at h0
    rw [o1, c1] at h1
    rw [o2, c2] at h2
    rw [o3, c3] at h3
    rw [o4, c4] at h4
    simp only [List.drop_zero, List.drop_succ_cons, List.take_succ_cons, List.take_zero] at h0 h1 h2 h3 h4
    obtain ⟨k, e0, v0⟩ := V_int u0 h0
    obtain ⟨p, v, e1, v1⟩ := V_str u1 h1
    obtain ⟨m, v', e2, v2⟩ := V_str u2 h2
    obtain ⟨ns, v'', e3, v3⟩ := V_lstI (τ := .str) u3 (by rw [ce]; rfl) (by decide) h3 fun n' ds y _ hy => by
      obtain ⟨s, v, rfl, hv⟩ := V_str us hy
      exact ⟨s, VL.cons hv .nil⟩
    obtain ⟨ps, v''', e4, v4⟩ := V_lstI (τ := .st .shape) u4 (by rw [hc]; rfl) (by decide) h4 fun n' ds y hn' hy => ih n' (by omega) ds y hy
    simp only [List.cons.injEq, and_true] at e0 e1 e2 e3 e4
    subst e0 e1 e2 e3 e4
    exact ⟨⟨k, p, m, ns, ps⟩, VL.cons v0 (VL.cons v1 (VL.cons v2 (VL.cons v3 (VL.cons v4 .nil))))⟩
/-- How the type of items lies. -/
structure ItemAt (P : Program) (t : TypeId) : Prop where
  ex : ∃ (f0 f1 f2 : Field), P.underlying t = some (.struct #[f0, f1, f2]) ∧ P.cellsOf t = 7 ∧ (f0.offset = 0 ∧ f1.offset = 1 ∧ f2.offset = 2) ∧
    (P.cellsOf f0.type = 1 ∧ P.cellsOf f1.type = 1 ∧ P.cellsOf f2.type = 5) ∧ P.underlying f0.type = some (.int .i64) ∧ P.underlying f1.type = some .string ∧ ShapeAt P f2.type
theorem V_item {t : TypeId} (hs : ItemAt P t) (fuel : Nat) (cs : List Value) (x : DataW H × List MemPlace) (h : DataW.trod enc P w base (fun _ => true) held fuel t cs = some x) : ∃ s : AL.Item, VL (Om0 w) (cells (.st .item) s) cs := by
  obtain ⟨f0, f1, f2, ht, hc, ⟨o0, o1, o2⟩, ⟨c0, c1, c2⟩, u0, u1, u2⟩ := hs
  obtain ⟨n, hn, hl, hf⟩ := trod_at ht h
  rw [hc] at hl
  obtain ⟨y0, h0⟩ := hf 0 f0 rfl
  obtain ⟨y1, h1⟩ := hf 1 f1 rfl
  obtain ⟨y2, h2⟩ := hf 2 f2 rfl
  match cs, hl with
  | [a0, a1, a2, a3, a4, a5, a6], _ =>
    rw [o0, c0] at h0
    rw [o1, c1] at h1
    rw [o2, c2] at h2
    simp only [List.drop_zero, List.drop_succ_cons, List.take_succ_cons, List.take_zero] at h0 h1 h2
    obtain ⟨k, e0, v0⟩ := V_int u0 h0
    obtain ⟨p, v, e1, v1⟩ := V_str u1 h1
    obtain ⟨s, v2⟩ := V_shape u2 _ _ _ h2
    simp only [List.cons.injEq, and_true] at e0 e1
    subst e0 e1
    exact ⟨⟨k, p, s⟩, VL.cons v0 (VL.cons v1 v2)⟩
/-- An argument that is a list of items. -/
theorem V_items {t e : TypeId} (ht : P.underlying t = some (.slice e)) (hi : ItemAt P e) {r : Reach} {b0 fuel : Nat} {v : Value} {x : DataW H × List MemPlace} (hv : Value.okWide P w r b0 t v)
    (h : DataW.trod enc P w base (fun _ => true) held fuel t v.cells.toList = some x) : ∃ l : List AL.Item, V (Om0 w) (.lst (.st .item) l none) v := by
  obtain ⟨l, u, e', hl⟩ := V_lst (τ := .st .item) ht (by obtain ⟨_, _, _, _, hc, _⟩ := hi; rw [hc]; rfl) h (fun n ds y _ hy => V_item hi n ds y hy) (spot_arg ht hv)
  rw [arg_one ht hv] at e'
  simp only [List.cons.injEq, and_true] at e'
  subst e'
  exact ⟨l, hl⟩

end Go.AL
