/-
  Values under other names for slots; contracts that lend slots. No condition.
-/
import Derived.Test.YtjemjblnddfdbaaGreatAlI2
set_option linter.unusedVariables false
set_option linter.unusedSimpArgs false
set_option linter.unnecessarySimpa false
set_option linter.deprecated false
namespace Go.AL

/-! ### Values under other names -/
section
variable {fp : Nat → Nat → Option (Nat × Nat)} {fi ft : Nat → Option Nat}

theorem mapVs_spec : ∀ {cs ds : List AV}, mapVs fp fi ft cs = some ds → cs.length = ds.length ∧ ∀ (j : Nat) (c d : AV), cs[j]? = some c → ds[j]? = some d → mapV fp fi ft c = some d
  | [], ds, h => by simp [mapVs] at h; subst h; exact ⟨rfl, fun j c d hc => by simp at hc⟩
  | a :: r, ds, h => by
    simp only [mapVs] at h
    split at h
    · rename_i a' r' ha hr
      simp at h
      subst h
      obtain ⟨h1, h2⟩ := mapVs_spec hr
      refine ⟨by simp [h1], fun j c d hc hd => ?_⟩
      cases j with
      | zero => simp at hc hd; subst hc hd; exact ha
      | succ j => exact h2 j c d (by simpa using hc) (by simpa using hd)
    · cases h

theorem mapV_cells (τ : Ty) (x : den τ) : ∀ c ∈ cells τ x, mapV fp fi ft c = some c := by
  cases τ with
  | st n => cases n <;> simp [cells, shapeCells, mapV]
  | _ => simp [cells, mapV]
theorem mapV_flat (τ : Ty) (xs : List (den τ)) : ∀ c ∈ flat τ xs, mapV fp fi ft c = some c := by
  intro c hc
  simp only [flat, List.mem_flatMap] at hc
  obtain ⟨x, _, hx⟩ := hc
  exact mapV_cells τ x c hx

/-- A value's cells under other names. -/
theorem mapV_parts {c c' : AV} (h : mapV fp fi ft c = some c') : (parts' c).length = (parts' c').length ∧
    ∀ (j : Nat) (a b : AV), (parts' c)[j]? = some a → (parts' c')[j]? = some b → mapV fp fi ft a = some b := by
  have one : ∀ {a b : AV}, parts' a = [a] → parts' b = [b] → mapV fp fi ft a = some b → (parts' a).length = (parts' b).length ∧
      ∀ (j : Nat) (x y : AV), (parts' a)[j]? = some x → (parts' b)[j]? = some y → mapV fp fi ft x = some y := by
    intro a b ha hb h
    rw [ha, hb]
    refine ⟨rfl, fun j x y hx hy => ?_⟩
    cases j with
    | zero => simp at hx hy; subst hx hy; exact h
    | succ j => simp at hx
  cases c with
  | agg cs =>
    simp only [mapV] at h
    split at h
    · rename_i ds hds
      simp at h
      subst h
      exact mapVs_spec hds
    · cases h
  | st n x =>
    simp only [mapV, Option.some.injEq] at h
    subst h
    exact ⟨rfl, fun j a b ha hb => by rw [ha] at hb; simp at hb; subst hb; exact mapV_cells (.st n) x a (List.mem_of_getElem? ha)⟩
  | row τ xs =>
    simp only [mapV, Option.some.injEq] at h
    subst h
    exact ⟨rfl, fun j a b ha hb => by rw [ha] at hb; simp at hb; subst hb; exact mapV_flat τ xs a (List.mem_of_getElem? ha)⟩
  | ptr i o =>
    have h0 := h
    simp only [mapV] at h
    split at h
    · simp at h; subst h; exact one rfl rfl h0
    · cases h
  | lst τ xs o =>
    have h0 := h
    simp only [mapV] at h
    split at h
    · simp at h; subst h; exact one rfl rfl h0
    · simp at h; subst h; exact one rfl rfl h0
  | cptr c =>
    have h0 := h
    simp only [mapV] at h
    split at h
    · simp at h; subst h; exact one rfl rfl h0
    · cases h
  | tup cs =>
    have h0 := h
    simp only [mapV] at h
    split at h
    · simp at h; subst h; exact one rfl rfl h0
    · cases h
  | fn f cs =>
    have h0 := h
    simp only [mapV] at h
    split at h
    · simp at h; subst h; exact one rfl rfl h0
    · cases h
  | arr i n w =>
    have h0 := h
    simp only [mapV] at h
    split at h
    · simp at h; subst h; exact one rfl rfl h0
    · cases h
  | aptr i n w o =>
    have h0 := h
    simp only [mapV] at h
    split at h
    · simp at h; subst h; exact one rfl rfl h0
    · cases h
  | map i =>
    have h0 := h
    simp only [mapV] at h
    split at h
    · simp at h; subst h; exact one rfl rfl h0
    · cases h
  | bptr i =>
    have h0 := h
    simp only [mapV] at h
    split at h
    · simp at h; subst h; exact one rfl rfl h0
    · cases h
  | iface t a =>
    have h0 := h
    simp only [mapV] at h
    split at h
    · simp at h; subst h; exact one rfl rfl h0
    · cases h
  | _ => simp only [mapV, Option.some.injEq] at h; subst h; exact one rfl rfl (by simp [mapV])

/-- What a change of names must do. -/
structure Names (fp : Nat → Nat → Option (Nat × Nat)) (fi ft : Nat → Option Nat) (e e' : Nat → Option CObj) : Prop where
  p : ∀ i o i' o', fp i o = some (i', o') → ∀ b p l, e i = some (.box b p l) → ∃ p' l', e' i' = some (.box b p' l') ∧ p + o = p' + o'
  i : ∀ i i', fi i = some i' → ∀ c, e i = some c → e' i' = some c
  t : ∀ i i', ft i = some i' → ∀ c, e i = some c → e' i' = some c

theorem V.mapV {Ω : Om} {e' : Nat → Option CObj} (hn : Names fp fi ft Ω.e e') {a : AV} {v : Value} (h : V Ω a v) : ∀ {a' : AV}, AL.mapV fp fi ft a = some a' → V ⟨e', Ω.w, Ω.pub⟩ a' v := by
  have tok : ∀ {o : Option Nat} {n : Nat} {v : Value}, TokOK Ω o n v → TokOK ⟨e', Ω.w, Ω.pub⟩ (o.bind ft) n v := by
    intro o n v ht id hid
    cases o with
    | none => simp at hid
    | some k =>
      obtain ⟨m, base, cap, h1, h2, h3⟩ := ht k rfl
      exact ⟨m, base, cap, hn.t k id hid _ h1, h2, h3⟩
  have many : ∀ {cs ds : List AV} {vs : List Value}, cs.length = vs.length → (∀ (j : Nat) (c : AV) (v : Value), cs[j]? = some c → vs[j]? = some v → ∀ {a' : AV}, AL.mapV fp fi ft c = some a' → V ⟨e', Ω.w, Ω.pub⟩ a' v) →
      mapVs fp fi ft cs = some ds → ds.length = vs.length ∧ ∀ (j : Nat) (c : AV) (v : Value), ds[j]? = some c → vs[j]? = some v → V ⟨e', Ω.w, Ω.pub⟩ c v := by
    intro cs ds vs hl ih hm
    obtain ⟨m1, m2⟩ := mapVs_spec hm
    refine ⟨by omega, fun j d v hd hv => ?_⟩
    have hj : j < cs.length := by
      rw [m1]
      rcases Nat.lt_or_ge j ds.length with k | k
      · exact k
      · rw [List.getElem?_eq_none k] at hd; cases hd
    exact ih j _ v (List.getElem?_eq_getElem hj) hv (m2 j _ d (List.getElem?_eq_getElem hj) hd)
  induction h with
  | undef v => intro a' h; simp [AL.mapV] at h; subst h; exact .undef v
  | int k n h1 h2 => intro a' h; simp [AL.mapV] at h; subst h; exact .int k n h1 h2
  | bool b => intro a' h; simp [AL.mapV] at h; subst h; exact .bool b
  | str s h1 => intro a' h; simp [AL.mapV] at h; subst h; exact .str s h1
  | lstNil τ o ht =>
    intro a' h
    cases o with
    | none => simp [AL.mapV] at h; subst h; exact .lstNil τ none (fun id hid => by simp at hid)
    | some k => simp [AL.mapV] at h; subst h; exact .lstNil τ _ (tok ht)
  | lstVoid τ a => intro a' h; simp [AL.mapV] at h; subst h; exact .lstVoid τ a
  | lst τ xs o b off cap vals h1 h2 h3 h4 h5 ih =>
    intro a' h
    have hc : ∀ (i : Nat) (x : den τ), xs[i]? = some x → ∀ (j : Nat) (c : AV), (cells τ x)[j]? = some c → V ⟨e', Ω.w, Ω.pub⟩ c (vals i j) :=
      fun i x hx j c hcj => ih i x hx j c hcj (mapV_cells τ x c (List.mem_of_getElem? hcj))
    cases o with
    | none => simp [AL.mapV] at h; subst h; exact .lst τ xs none b off cap vals h1 h2 (fun id hid => by simp at hid) h4 hc
    | some k => simp [AL.mapV] at h; subst h; exact .lst τ xs _ b off cap vals h1 h2 (tok h3) h4 hc
  | nils => intro a' h; simp [AL.mapV] at h; subst h; exact .nils
  | ptr id off b o len he =>
    intro a' h
    simp only [AL.mapV] at h
    split at h
    · rename_i j p hj
      simp at h
      subst h
      obtain ⟨p', l', q1, q2⟩ := hn.p _ _ _ _ hj _ _ _ he
      rw [q2]
      exact .ptr j p b p' l' q1
    · cases h
  | cptr c b off vals h1 h2 ih =>
    intro a' h
    simp only [AL.mapV] at h
    split at h
    · rename_i d hd
      simp at h
      subst h
      obtain ⟨m1, m2⟩ := mapV_parts hd
      have hj : ∀ (j : Nat) (d' : AV), (parts' d)[j]? = some d' → ∃ c', (parts' c)[j]? = some c' := by
        intro j d' hd'
        have : j < (parts' c).length := by
          rw [m1]
          rcases Nat.lt_or_ge j (parts' d).length with k | k
          · exact k
          · rw [List.getElem?_eq_none k] at hd'; cases hd'
        exact ⟨_, List.getElem?_eq_getElem this⟩
      refine .cptr d b off vals (fun j d' hd' => ?_) (fun j d' hd' => ?_)
      · obtain ⟨c', hc'⟩ := hj j d' hd'
        exact h1 j c' hc'
      · obtain ⟨c', hc'⟩ := hj j d' hd'
        exact ih j c' hc' (m2 j c' d' hc' hd')
    · cases h
  | nilp => intro a' h; simp [AL.mapV] at h; subst h; exact .nilp
  | ptNone n => intro a' h; simp [AL.mapV] at h; subst h; exact .ptNone n
  | ptSome n x v _ ih => intro a' h; simp [AL.mapV] at h; subst h; exact .ptSome n x v (ih (by simp [AL.mapV]))
  | arr id n w b len cap a he h1 h2 h3 h4 =>
    intro a' h
    simp only [AL.mapV] at h
    split at h
    · rename_i j hj
      simp at h
      subst h
      exact .arr j n w b len cap a (hn.i _ _ hj _ he) h1 h2 h3 h4
    · cases h
  | aptr id i w off b o len he =>
    intro a' h
    simp only [AL.mapV] at h
    split at h
    · rename_i j hj
      simp at h
      subst h
      exact .aptr j i w off b o len (hn.i _ _ hj _ he)
    · cases h
  | map id r he =>
    intro a' h
    simp only [AL.mapV] at h
    split at h
    · rename_i j hj
      simp at h
      subst h
      exact .map j r (hn.i _ _ hj _ he)
    · cases h
  | bptr id b g he =>
    intro a' h
    simp only [AL.mapV] at h
    split at h
    · rename_i j hj
      simp at h
      subst h
      exact .bptr j b g (hn.i _ _ hj _ he)
    · cases h
  | iface t a v _ ih =>
    intro a' h
    simp only [AL.mapV] at h
    split at h
    · rename_i d hd
      simp at h
      subst h
      exact .iface t d v (ih hd)
    · cases h
  | nilif => intro a' h; simp [AL.mapV] at h; subst h; exact .nilif
  | st n x v _ ih =>
    intro a' h
    simp only [AL.mapV, Option.some.injEq] at h
    subst h
    refine .st n x v (ih ?_)
    have : ∀ cs : List AV, (∀ c ∈ cs, AL.mapV fp fi ft c = some c) → mapVs fp fi ft cs = some cs := by
      intro cs
      induction cs with
      | nil => intro _; rfl
      | cons c r ih => intro hc; simp only [mapVs, hc c (by simp), ih (fun d hd => hc d (by simp [hd]))]
    simp only [AL.mapV, this _ (mapV_cells (.st n) x)]
  | agg cs vs hl _ ih =>
    intro a' h
    simp only [AL.mapV] at h
    split at h
    · rename_i ds hds
      simp at h
      subst h
      obtain ⟨q1, q2⟩ := many hl ih hds
      exact .agg ds vs q1 q2
    · cases h
  | tup cs vs hl _ ih =>
    intro a' h
    simp only [AL.mapV] at h
    split at h
    · rename_i ds hds
      simp at h
      subst h
      obtain ⟨q1, q2⟩ := many hl ih hds
      exact .tup ds vs q1 q2
    · cases h
  | fn f cs vs hl _ ih =>
    intro a' h
    simp only [AL.mapV] at h
    split at h
    · rename_i ds hds
      simp at h
      subst h
      obtain ⟨q1, q2⟩ := many hl ih hds
      exact .fn f ds vs q1 q2
    · cases h

theorem VL.mapVs {Ω : Om} {e' : Nat → Option CObj} (hn : Names fp fi ft Ω.e e') {cs ds : List AV} {vs : List Value} (h : VL Ω cs vs) (hm : AL.mapVs fp fi ft cs = some ds) : VL ⟨e', Ω.w, Ω.pub⟩ ds vs := by
  obtain ⟨m1, m2⟩ := mapVs_spec hm
  refine ⟨by rw [← m1, h.1], fun j d v hd hv => ?_⟩
  have hj : j < cs.length := by
    rw [m1]
    rcases Nat.lt_or_ge j ds.length with k | k
    · exact k
    · rw [List.getElem?_eq_none k] at hd; cases hd
  exact (h.2 j _ v (List.getElem?_eq_getElem hj) hv).mapV hn (m2 j _ d (List.getElem?_eq_getElem hj) hd)
end

theorem V.data {Ω : Om} {e' : Nat → Option CObj} {τ : Ty} {x : den τ} {v : Value} (h : V Ω (inj τ x) v) : V ⟨e', Ω.w, Ω.pub⟩ (inj τ x) v := by
  have hn : Names (fun _ _ => none) (fun _ => none) (fun _ => none) Ω.e e' := ⟨fun _ _ _ _ h => by simp at h, fun _ _ h => by simp at h, fun _ _ h => by simp at h⟩
  refine h.mapV hn ?_
  cases τ <;> simp [inj, AL.mapV]

theorem MapOK.data {Ω : Om} {e' : Nat → Option CObj} {κ τ : Ty} {m : List (den κ × den τ)} {es : Array MapEntry} {clock : Nat} (h : MapOK Ω κ τ m es clock) : MapOK ⟨e', Ω.w, Ω.pub⟩ κ τ m es clock :=
  ⟨h.size, fun i e x he hx => ⟨(h.ent i e x he hx).1.data, (h.ent i e x he hx).2.data⟩, h.keys, h.born, h.rise⟩

/-! ### Contracts -/
def PubOK (w : World) (pub : Nat → Nat → Prop) : Prop := ∀ b o, pub b o → ∃ v, w.cell? ⟨b, o, none⟩ = some v
def Inj (e : Nat → Option CObj) : Prop := ∀ i j c d b o, e i = some c → e j = some d → occ c b o → occ d b o → i = j

/-- What a call leaves behind, of lent slots and of the rest of memory. -/
structure After (w : World) (pub : Nat → Nat → Prop) (e : Nat → Option CObj) (B : Nat → Option SObj) (w' : World) (pub' : Nat → Nat → Prop) (e' : Nat → Option CObj) : Prop where
  os : w'.os = w.os
  tape : w'.tape = w.tape
  output : w'.output = w.output
  size : w.heap.size ≤ w'.heap.size
  block : ∀ b, b < w.heap.size → (∀ o, ¬ occL e b o) → w'.heap[b]? = w.heap[b]?
  cell : ∀ b o, b < w.heap.size → ¬ occL e b o → w'.cell? ⟨b, o, none⟩ = w.cell? ⟨b, o, none⟩
  kind : ∀ b, b < w.heap.size → ¬ (∀ o, occL e b o) → w'.shape? b = w.shape? b ∧ ∀ o, w'.frozen? ⟨b, o, none⟩ = w.frozen? ⟨b, o, none⟩
  ext : Ext ⟨e, w, pub⟩ ⟨e', w', pub'⟩
  fresh : ∀ b o, pub' b o → pub b o ∨ w.heap.size ≤ b ∨ occL e b o
  ok : PubOK w' pub'
  slots : ∀ id o, B id = some o → SlotOK ⟨e', w', pub'⟩ (fun b o => w.heap.size ≤ b ∨ occL e b o) id o
  dom : ∀ id, B id = none → e' id = none
  inj : Inj e'

/-- A call with these arguments, to which these slots are lent, answers so. -/
def Meets (P : Program) (f : Nat) (args : List AV) (S : List (Nat × SObj)) (A : Ans) : Prop :=
  ∀ w pub e vs, PubOK w pub → VL ⟨e, w, pub⟩ args vs → (∀ id o, bget S id = some o → SlotOK ⟨e, w, pub⟩ (fun _ _ => True) id o) → (∀ id, bget S id = none → e id = none) → Inj e →
    Calls P f vs.toArray w fun en w' => ∃ pub' e', match en with
      | .returned v => (∀ b pv u, A.pan = some (b, pv, u) → b = false) ∧ V ⟨e', w', pub'⟩ A.val v ∧ After w pub e (bget (putB S A.upd)) w' pub' e'
      | .panicked ch => ∃ pv u v, A.pan = some (true, pv, u) ∧ ch = [{ v, recovered := false }] ∧ V ⟨e', w', pub'⟩ pv v ∧ After w pub e (bget (putB S u)) w' pub' e'
      | .outgrown => False

def Enters (P : Program) (f : Nat) : Prop := ∃ fn, P.funcs[f]? = some fn ∧ fn.body.isNone = false ∧ (fn.name == "runtime.NumGoroutine") = false

def SpecOK (P : Program) (spec : Nat → List AV → List (Nat × SObj) → Option Ans) : Prop :=
  ∀ f args S A, spec f args S = some A → (∀ q, A.ob = some q → q) → (keysOf S).all isLent = true → Enters P f ∧ Meets P f args S A

end Go.AL
