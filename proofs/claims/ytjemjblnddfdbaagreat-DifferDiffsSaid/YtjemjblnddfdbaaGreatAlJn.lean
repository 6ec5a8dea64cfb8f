/-
  From contracts to the given statements: arguments that read as data stand for data; what a law leaves behind. No condition.
-/
import Derived.Test.YtjemjblnddfdbaaGreatAlR
import Derived.WalkKit
import Derived.ProofKit
import Derived.OpenShut
import Derived.JoinedCond
import Derived.WideKeyArgs
set_option linter.unusedVariables false
set_option linter.unusedSimpArgs false
set_option linter.unnecessarySimpa false
set_option linter.deprecated false
namespace Go.AL
open Go.ChangeShapes Go.WideShapes Go.RowKit

/-- All cells that are there. -/
def cellAll (w : World) (b o : Nat) : Prop := ∃ v, w.cell? ⟨b, o, none⟩ = some v
/-- No slot; all memory stands fast. -/
def Om0 (w : World) : Om := ⟨fun _ => none, w, cellAll w⟩

/-- A law that is called with data answers true; what was there is as it was. -/
theorem law_calls {P : Program} {f : Nat} {args : List AV} (h : Meets P f args [] (.ret (.bool true))) {w : World} {vs : List Value} (hv : VL (Om0 w) args vs) :
    Calls P f vs.toArray w fun e w' => e = .returned (.bool true) ∧ RowKit.Below w.heap.size w w' := by
  refine Calls.mono (h w (cellAll w) (fun _ => none) vs (fun _ _ h => h) hv (fun id o ho => by simp [bget] at ho) (fun _ _ => rfl) (fun i j c d b o hc => by cases hc)) ?_
  intro e w' hq
  obtain ⟨pub', e', hq⟩ := hq
  cases e with
  | returned v =>
    obtain ⟨_, hv, ha⟩ := hq
    have := hv.bool_inv
    subst this
    exact ⟨rfl, ha.os, ha.tape, ha.output, ha.size, fun b hb => ha.block b hb fun o ⟨id, c, hc, _⟩ => by cases hc⟩
  | panicked ch =>
    obtain ⟨pv, u, v, hp, _⟩ := hq
    cases hp
  | outgrown => exact hq.elim

section
variable {H : Type} {enc : TypeId × Value → H} {P : Program}

theorem trodAll_stays (hl : laidOutB P = true) {W W' : World} (hb : Below W.heap.size W W') {sp : Nat → Bool} : ∀ {ts : List TypeId} {vs : List Value} {ds : List (DataW H)} {p : List MemPlace},
    (∀ t ∈ ts, P.readableRec t = true ∧ t < P.types.size) → DataW.TrodAll enc P W 0 (fun _ => true) true ts vs ds p → (∀ x ∈ p, x.block < W.heap.size) → (∀ x ∈ p, sp x.block = true) → DataW.TrodAll enc P W' 0 sp true ts vs ds p
  | [], _, _, _, _, h, _, _ => by
    obtain ⟨rfl, rfl, rfl⟩ := trodAll_nil h
    exact h
  | t :: ts, _, _, _, hr, h, hlt, hsp => by
    obtain ⟨v, vs, d, ds, p, q, rfl, rfl, rfl, h1, h2⟩ := trodAll_cons h
    obtain ⟨r1, r2⟩ := hr t (by simp)
    exact ⟨p, q, WideElems.Trod_stays hl r1 r2 h1 (fun x hx => hb.same (hlt x (by simp [hx]))) (fun x hx => hsp x (by simp [hx])),
      trodAll_stays hl hb (fun t ht => hr t (by simp [ht])) h2 (fun x hx => hlt x (by simp [hx])) (fun x hx => hsp x (by simp [hx])), rfl⟩

/-- What is asked behind a law's call. -/
theorem post_law (hl : laidOutB P = true) {f : Func} {s : ChangeSpec} {apart fresh handsOn again : Bool} {W W' : World} {args : Array Value} {ds gs : List (DataW H)} {before : List MemPlace} {tb : TypeId}
    (hr : ∀ t ∈ f.params.toList, P.readableRec t = true ∧ t < P.types.size) (hvars : s.vars = []) (hfn : ∀ ds : List (DataW H), ds.length = f.params.size → s.fn H ds = { results := [.lit (.bool true)], args := ds }) (hrt : f.resultTypes = #[tb]) (htb : P.underlying tb = some .bool)
    (hW : DataW.Whole enc P f.params.toList s.vars apart W args.toList ds gs before) (hb : Below W.heap.size W W') : s.post enc P f apart fresh handsOn again W args (.bool true) W' := by
  have hlt : ∀ p ∈ before, p.block < W.heap.size := fun p hp => hW.lt p hp
  have hW0 := hW
  obtain ⟨p, q, hA, hV, e, hz, hn⟩ := hW
  rw [hvars] at hV
  obtain ⟨rfl, rfl⟩ := trodVars_none hV
  rw [List.append_nil] at e
  subst e
  have hlen : ds.length = f.params.size := by
    have : ∀ {ts : List TypeId} {vs : List Value} {ds : List (DataW H)} {p : List MemPlace}, DataW.TrodAll enc P W 0 (fun _ => true) true ts vs ds p → ds.length = ts.length := by
      intro ts
      induction ts with
      | nil => intro vs ds p h; obtain ⟨rfl, rfl, rfl⟩ := trodAll_nil h; rfl
      | cons t ts ih => intro vs ds p h; obtain ⟨v, vs, d, ds, p, q, rfl, rfl, rfl, h1, h2⟩ := trodAll_cons h; simp [ih h2]
    simpa using this hA
  have hf := hfn ds hlen
  have hs : ∀ sp : Nat → Bool, (∀ x ∈ before, sp x.block = true) → DataW.TrodAll enc P W' 0 sp true f.params.toList args.toList ds before := fun sp hsp => trodAll_stays hl hb hr hA hlt hsp
  have hres : ∀ (b : Nat) (sp : Nat → Bool) (hd : Bool), DataW.TrodAll enc P W' b sp hd f.resultTypes.toList ((Value.bool true).resultList f.resultTypes.size) [.lit (.bool true)] [] := by
    intro b sp hd
    rw [hrt]
    exact trodAll_cons_mk (shut_bool htb true) trodAll_mk0
  have hvs : DataW.TrodVars enc P W' (fun b => decide (b < W.heap.size)) s.vars [] [] := by rw [hvars]; rfl
  refine ⟨ds, [], before, [], before, [], hW0, ?_, ?_, ?_, World.keptBut_mono (fun x hx => ⟨hx, .inr (.inl hx)⟩) (hb.frame (· ∈ before)), fun _ => ⟨?_, ?_⟩⟩
  · rw [List.append_nil, hf]; exact hres _ _ _
  · rw [List.append_nil, hf]; exact hs _ fun x hx => by simpa using hlt x hx
  · rw [List.append_nil, hf]; exact hvs
  · intro j t r h1 h2
    rw [hrt] at h1 h2
    cases j with
    | zero =>
      simp at h1
      subst h1
      have : r = .bool true := by
        simp [Value.resultList] at h2
        exact h2.symm
      subst this
      simp [Value.okWide, htb, Cell.okWide, Cell.ok]
    | succ j => simp at h1
  · refine ⟨[.lit (.bool true)] ++ ds, [], [] ++ before, ⟨[] ++ before, [], trodAll_append (hs _ fun _ _ => rfl) (hres _ _ _), by rw [hvars]; rfl, by simp, fun b off hp => ?_, fun ha => by simpa using hn ha⟩, fun x hx _ => by simpa using hx⟩
    have hin : MemPlace.cell b off ∈ before := by simpa using hp
    rw [hb.frozen (p := ⟨b, off, none⟩) (hlt _ hin)]
    exact hz b off hin

/-! ### Data out of readings -/
variable {w : World} {base : Nat} {sp : Nat → Bool} {held : Bool}

theorem V_int {t : TypeId} {k : IntKind} {fuel : Nat} {cs : List Value} {x : DataW H × List MemPlace} (ht : P.underlying t = some (.int k)) (h : DataW.trod enc P w base sp held fuel t cs = some x) :
    ∃ n : Int, cs = [.int k n] ∧ V (Om0 w) (.int k n) (.int k n) := by
  obtain ⟨n, rfl, _, hw⟩ := DataW.trod_int ht h
  simp only [Lit.wf, Bool.and_eq_true, decide_eq_true_eq] at hw
  exact ⟨n, rfl, .int k n hw.1 hw.2⟩
theorem V_str {t : TypeId} {fuel : Nat} {cs : List Value} {x : DataW H × List MemPlace} (ht : P.underlying t = some .string) (h : DataW.trod enc P w base sp held fuel t cs = some x) :
    ∃ (s : Str) (v : Value), cs = [v] ∧ V (Om0 w) (.str s) v := by
  obtain ⟨s, rfl, _, hw⟩ := DataW.trod_string ht h
  refine ⟨s.data.toList, _, rfl, ?_⟩
  have e : s = ⟨s.data.toList.toArray⟩ := by cases s; simp
  have hl : s.data.toList.length ≤ maxN := by
    have : s.data.size = s.size := rfl
    unfold maxLen at hw
    unfold maxN
    simp only [Array.length_toList, this]
    omega
  have := V.str (Ω := Om0 w) s.data.toList hl
  rw [← e] at this
  exact this

/-- A slice, element by element. -/
theorem V_lst {t e : TypeId} {τ : Ty} {fuel : Nat} {cs : List Value} {x : DataW H × List MemPlace} (ht : P.underlying t = some (.slice e)) (hc : P.cellsOf e = width τ) (h : DataW.trod enc P w base sp held fuel t cs = some x)
    (hel : ∀ (n : Nat) (ds : List Value) (y : DataW H × List MemPlace), fuel = n + 1 → DataW.trod enc P w base sp held n e ds = some y → ∃ z : den τ, VL (Om0 w) (cells τ z) ds)
    (hsp : ∀ a len cap, cs = [.slice (some a) len cap] → a.spot = none) : ∃ (l : List (den τ)) (v : Value), cs = [v] ∧ V (Om0 w) (.lst τ l none) v := by
  rcases DataW.trod_slice ht h with ⟨rfl, _⟩ | ⟨a, len, cap, elems, rest, n, hfu, rfl, _, _, hlc, hcm, hlen, hels, _, _⟩
  · exact ⟨[], _, rfl, .lstNil τ none (fun id hid => by cases hid)⟩
  · have hs := hsp a len cap rfl
    obtain ⟨b, off, spot⟩ := a
    simp only at hs
    subst hs
    have each : ∀ i, i < len → ∃ z : den τ, ∃ ds : List Value, ds.length = width τ ∧ (∀ j, j < width τ → w.cell? ⟨b, off + (i * width τ + j), none⟩ = ds[j]?) ∧ VL (Om0 w) (cells τ z) ds := by
      intro i hi
      have h1 := hels i hi
      obtain ⟨y, hy⟩ : ∃ y, elems[i]? = some y := ⟨_, List.getElem?_eq_getElem (by omega)⟩
      rw [hy, hc, Option.bind_eq_some_iff] at h1
      obtain ⟨ds, hd, hy'⟩ := h1
      obtain ⟨_, hdl, hdc⟩ := World.cells?_some hd
      obtain ⟨z, hz⟩ := hel n ds y hfu hy'
      refine ⟨z, ds, hdl, fun j hj => ?_, hz⟩
      have := hdc j hj
      have ha : ∀ (o n : Nat), (⟨b, o, none⟩ : Addr).add n = ⟨b, o + n, none⟩ := by
        intro o n
        unfold Addr.add
        by_cases h0 : n = 0
        · subst h0; rfl
        · rw [if_neg h0]
      rw [ha, ha, Nat.add_assoc] at this
      exact this
    have hz : ∃ l : List (den τ), l.length = len ∧ ∀ i z, l[i]? = some z → ∃ ds : List Value, ds.length = width τ ∧ (∀ j, j < width τ → w.cell? ⟨b, off + (i * width τ + j), none⟩ = ds[j]?) ∧ VL (Om0 w) (cells τ z) ds := by
      refine ⟨(List.range len).attach.map fun i => (each i.1 (List.mem_range.1 i.2)).choose, by simp, fun i z hi => ?_⟩
      have hil : i < len := by
        have := (List.getElem?_eq_some_iff.1 hi).1
        simpa using this
      simp only [List.getElem?_map, Option.map_eq_some_iff] at hi
      obtain ⟨⟨k, hk⟩, h1, h2⟩ := hi
      have hki : k = i := by
        have := List.getElem?_eq_some_iff.1 h1
        obtain ⟨_, e⟩ := this
        have := congrArg Subtype.val e
        simpa using this.symm
      subst hki
      rw [← h2]
      exact (each k (List.mem_range.1 hk)).choose_spec
    obtain ⟨l, hll, hle⟩ := hz
    refine ⟨l, _, rfl, ?_⟩
    have key := V.lst (Ω := Om0 w) τ l none b off cap (fun i j => (w.cell? ⟨b, off + (i * width τ + j), none⟩).getD undef) (by omega) (by unfold maxLen at hcm; unfold maxN; omega) (fun id hid => by cases hid) (fun i z hz j c hj => ?_) (fun i z hz j c hj => ?_)
    · rw [hll] at key
      exact key
    · obtain ⟨ds, d1, d2, d3⟩ := hle i z hz
      have hjw : j < width τ := by
        rw [← width_cells τ z]
        exact (List.getElem?_eq_some_iff.1 hj).1
      have hv : w.cell? ⟨b, off + (i * width τ + j), none⟩ = some ds[j] := by rw [d2 j hjw]; exact List.getElem?_eq_getElem (by omega)
      refine ⟨⟨_, hv⟩, ?_⟩
      show w.cell? _ = _
      rw [hv]; rfl
    · obtain ⟨ds, d1, d2, d3⟩ := hle i z hz
      have hjw : j < width τ := by
        rw [← width_cells τ z]
        exact (List.getElem?_eq_some_iff.1 hj).1
      have hd : ds[j]? = some ds[j] := List.getElem?_eq_getElem (by omega)
      rw [d2 j hjw, hd]
      exact d3.2 j c ds[j] hj hd

/-- The slice of an argument begins at a place of its own. -/
theorem spot_arg {r : Reach} {b0 : Nat} {t e : TypeId} {v : Value} (ht : P.underlying t = some (.slice e)) (hv : Value.okWide P w r b0 t v) : ∀ a len cap, v.cells.toList = [.slice (some a) len cap] → a.spot = none := by
  intro a len cap hc
  have : Cell.okWide P w r b0 t v := by
    unfold Value.okWide at hv
    rw [ht] at hv
    exact hv
  unfold Cell.okWide at this
  rw [ht] at this
  have hok : Cell.ok P w r b0 t v := by
    cases v <;> exact this
  unfold Cell.ok at hok
  rw [ht] at hok
  cases v with
  | slice o l c =>
    simp [Value.cells] at hc
    obtain ⟨rfl, rfl, rfl⟩ := hc
    simp only at hok
    exact hok.2.2.2.1
  | _ => first | exact hok.elim | (simp [Value.cells] at hc)

theorem V_change {t : TypeId} {f0 f1 : Field} {fuel : Nat} {cs : List Value} {x : DataW H × List MemPlace} (ht : P.underlying t = some (.struct #[f0, f1])) (hc : P.cellsOf t = 2)
    (o0 : f0.offset = 0) (t0 : P.underlying f0.type = some (.int .i64)) (c0 : P.cellsOf f0.type = 1) (o1 : f1.offset = 1) (t1 : P.underlying f1.type = some .string) (c1 : P.cellsOf f1.type = 1)
    (h : DataW.trod enc P w base sp held fuel t cs = some x) : ∃ c : Change, VL (Om0 w) (cells (.st .change) c) cs := by
  obtain ⟨y0, y1, n, _, hl, h0, h1⟩ := trod_struct2 ht h
  rw [hc] at hl
  match cs, hl with
  | [a, b], _ =>
    rw [o0, c0] at h0
    rw [o1, c1] at h1
    obtain ⟨k, e0, v0⟩ := V_int t0 h0
    obtain ⟨s, v, e1, v1⟩ := V_str t1 h1
    simp only [List.drop_zero, List.drop_succ_cons, List.take_succ_cons, List.take_zero, List.cons.injEq, and_true] at e0 e1
    subst e0 e1
    exact ⟨⟨k, s⟩, VL.cons v0 (VL.cons v1 .nil)⟩

theorem arg_one {r : Reach} {b0 : Nat} {t e : TypeId} {v : Value} (ht : P.underlying t = some (.slice e)) (hv : Value.okWide P w r b0 t v) : v.cells.toList = [v] := by
  have : Cell.okWide P w r b0 t v := by
    unfold Value.okWide at hv
    rw [ht] at hv
    exact hv
  unfold Cell.okWide at this
  rw [ht] at this
  have hok : Cell.ok P w r b0 t v := by
    cases v <;> exact this
  unfold Cell.ok at hok
  rw [ht] at hok
  cases v with
  | slice o l c => rfl
  | _ => exact hok.elim

end
end Go.AL
