/-
  Regions: the operations in the text's order, and in every order that the edges allow. Conditions: the table of types fits; the contracts hold.
-/
import Derived.Test.YtjemjblnddfdbaaGreatAlJ5
set_option linter.unusedVariables false
set_option linter.unusedSimpArgs false
set_option linter.unnecessarySimpa false
set_option linter.deprecated false
namespace Go.AL

theorem tget_tset : ∀ (l : List (Nat × AV)) (i : Nat) (v : AV) (j : Nat), tget (tset l i v) j = if i = j then v else tget l j
  | [], i, v, j => by simp [tset, tget]
  | (k, u) :: r, i, v, j => by
    simp only [tset]
    by_cases hk : k = i
    · subst hk
      simp only [beq_self_eq_true, if_true, tget, beq_iff_eq]
      by_cases h : k = j <;> simp [h]
    · simp only [beq_iff_eq, hk, if_false, tget, tget_tset r i v j]
      by_cases h : k = j
      · subst h
        have : ¬ i = k := fun e => hk e.symm
        simp [this]
      · simp [h]
theorem bget_bset : ∀ (l : List (Nat × SObj)) (i : Nat) (v : SObj) (j : Nat), bget (bset l i v) j = if i = j then some v else bget l j
  | [], i, v, j => by simp [bset, bget]
  | (k, u) :: r, i, v, j => by
    simp only [bset]
    by_cases hk : k = i
    · subst hk
      simp only [beq_self_eq_true, if_true, bget, beq_iff_eq]
      by_cases h : k = j <;> simp [h]
    · simp only [beq_iff_eq, hk, if_false, bget, bget_bset r i v j]
      by_cases h : k = j
      · subst h
        have : ¬ i = k := fun e => hk e.symm
        simp [this]
      · simp [h]

theorem abs_putT (t : List (Nat × AV)) (d : Option Nat) (v : AV) : tget (putT t d v) = updT (tget t) d v := by
  funext j
  cases d with
  | none => rfl
  | some d => simp [putT, updT, tget_tset]
theorem abs_putB : ∀ (u : List (Nat × SObj)) (b : List (Nat × SObj)), bget (putB b u) = updB (bget b) u
  | [], b => rfl
  | (i, o) :: r, b => by
    simp only [putB, updB]
    rw [abs_putB r]
    congr 1
    funext j
    exact bget_bset b i o j
theorem abs_put (s : St) (d : Option Nat) (e : Eff) : (s.put d e).abs = s.abs.put d e := by
  simp only [St.put, St.abs, AS.put, abs_putT, abs_putB]

/-- Is an operation carried out? -/
def gate (ops : List Oper) (o : Oper) (T : Nat → AV) : Option Bool :=
  match o.guard with
  | none => some true
  | some (j, want) =>
    match (nth ops j).bind (·.dst) with
    | none => none
    | some d => (match T d with | .bool b => some (b == want) | .tup [] => some false | _ => none)

/-- One operation, with what it looks at and what it turns; none that may panic. -/
def Step (C : Cfg) (ops : List Oper) (o : Oper) (s s' : AS) (f : Foot) : Prop :=
  (gate ops o s.T = some true ∧ ∃ e, effOf C o s.T s.B = some e ∧ e.asks ∧ panOf C o s.T s.B = none ∧ s' = s.put o.dst e ∧ f = (need C o s.T s.B, e.upd.map (·.1))) ∨
  (gate ops o s.T = some false ∧ s' = ⟨updT s.T o.dst (.tup []), s.B⟩ ∧ f = ([], []))

def RunAll (C : Cfg) (ops : List Oper) : List Oper → AS → List Foot → AS → Prop
  | [], s, fs, s' => s = s' ∧ fs = []
  | o :: r, s, fs, s' => ∃ s1 f fs', Step C ops o s s1 f ∧ RunAll C ops r s1 fs' s' ∧ fs = f :: fs'

theorem asks_of {e : Eff} {q : Prop} (h : addOb e.ob q) : e.asks ∧ q := by
  unfold addOb at h
  unfold Eff.asks
  cases hob : e.ob with
  | none => rw [hob] at h; exact ⟨trivial, h⟩
  | some p => rw [hob] at h; exact h

/-- What the evaluator says of one operation and of those behind it. -/
theorem runOps_step {C : Cfg} {ops : List Oper} {draw : Bool} {kp : AV → St → Prop} {o : Oper} {r : List Oper} {i : Nat} {s : St} {fs : List Foot} {k : St → List Foot → Prop}
    (h : runOps C ops draw kp (o :: r) i s fs k) :
    (gate ops o s.abs.T = some true ∧ ∃ e, effOf C o s.abs.T s.abs.B = some e ∧ e.asks ∧
      (match panOf C o s.abs.T s.abs.B with
        | none => runOps C ops draw kp r (i + 1) (s.put o.dst e) ((need C o s.abs.T s.abs.B, e.upd.map (·.1)) :: fs) k
        | some (b, pv, u) => draw = false ∧ (b = true → kp pv ⟨s.t, putB s.b u⟩) ∧ (b = false → runOps C ops draw kp r (i + 1) (s.put o.dst e) ((need C o s.abs.T s.abs.B, e.upd.map (·.1)) :: fs) k))) ∨
    (gate ops o s.abs.T = some false ∧ runOps C ops draw kp r (i + 1) ⟨putT s.t o.dst (.tup []), s.b⟩ (([], []) :: fs) k) := by
  have on : gate ops o s.abs.T = some true →
      (match effOf C o (tget s.t) (bget s.b) with
        | none => False
        | some e => addOb e.ob
          (match panOf C o (tget s.t) (bget s.b) with
          | none =>
            (match isGuard ops i, e.val with
            | true, .bool b =>
              sp b (runOps C ops draw kp r (i + 1) (s.put o.dst { e with val := .bool true }) ((need C o (tget s.t) (bget s.b), e.upd.map (·.1)) :: fs) k)
                (runOps C ops draw kp r (i + 1) (s.put o.dst { e with val := .bool false }) ((need C o (tget s.t) (bget s.b), e.upd.map (·.1)) :: fs) k)
            | true, _ => False
            | false, _ => runOps C ops draw kp r (i + 1) (s.put o.dst e) ((need C o (tget s.t) (bget s.b), e.upd.map (·.1)) :: fs) k)
          | some (b, pv, u) =>
            (match draw || isGuard ops i with
            | true => False
            | false => sp b (kp pv ⟨s.t, putB s.b u⟩) (runOps C ops draw kp r (i + 1) (s.put o.dst e) ((need C o (tget s.t) (bget s.b), e.upd.map (·.1)) :: fs) k)))) →
      (gate ops o s.abs.T = some true ∧ ∃ e, effOf C o s.abs.T s.abs.B = some e ∧ e.asks ∧
        (match panOf C o s.abs.T s.abs.B with
          | none => runOps C ops draw kp r (i + 1) (s.put o.dst e) ((need C o s.abs.T s.abs.B, e.upd.map (·.1)) :: fs) k
          | some (b, pv, u) => draw = false ∧ (b = true → kp pv ⟨s.t, putB s.b u⟩) ∧ (b = false → runOps C ops draw kp r (i + 1) (s.put o.dst e) ((need C o s.abs.T s.abs.B, e.upd.map (·.1)) :: fs) k))) := by
    intro hg hq
    split at hq
    · exact hq.elim
    · rename_i e he
      obtain ⟨hask, h2⟩ := asks_of hq
      refine ⟨hg, e, he, hask, ?_⟩
      show (match panOf C o (tget s.t) (bget s.b) with
          | none => runOps C ops draw kp r (i + 1) (s.put o.dst e) ((need C o (tget s.t) (bget s.b), e.upd.map (·.1)) :: fs) k
          | some (b, pv, u) => draw = false ∧ (b = true → kp pv ⟨s.t, putB s.b u⟩) ∧ (b = false → runOps C ops draw kp r (i + 1) (s.put o.dst e) ((need C o (tget s.t) (bget s.b), e.upd.map (·.1)) :: fs) k))
      cases hp : panOf C o (tget s.t) (bget s.b) with
      | none =>
        rw [hp] at h2
        simp only at h2 ⊢
        split at h2
        · rename_i b _ hb
          unfold sp at h2
          split at h2
          · rename_i hbt
            subst hbt
            have : ({ e with val := .bool true } : Eff) = e := by rw [← hb]
            rw [this] at h2
            exact h2
          · rename_i hbt
            have hbf : b = false := by simpa using hbt
            subst hbf
            have : ({ e with val := .bool false } : Eff) = e := by rw [← hb]
            rw [this] at h2
            exact h2
        · exact h2.elim
        · exact h2
      | some x =>
        obtain ⟨b, pv, u⟩ := x
        rw [hp] at h2
        simp only at h2 ⊢
        split at h2
        · exact h2.elim
        · rename_i hdr
          simp only [Bool.or_eq_false_iff] at hdr
          unfold sp at h2
          refine ⟨hdr.1, fun hb => ?_, fun hb => ?_⟩
          · rw [if_pos hb] at h2; exact h2
          · subst hb; simpa using h2
  simp only [runOps] at h
  split at h
  · rename_i hgd
    exact Or.inl (on (by simp [gate, hgd]) h)
  · rename_i j want hgd
    split at h
    · exact h.elim
    · rename_i d hd
      split at h
      · rename_i hb
        cases want
        · exact Or.inr ⟨by simp [gate, hgd, hd, St.abs, hb], h⟩
        · exact Or.inl (on (by simp [gate, hgd, hd, St.abs, hb]) h)
      · rename_i hb
        cases want
        · exact Or.inl (on (by simp [gate, hgd, hd, St.abs, hb]) h)
        · exact Or.inr ⟨by simp [gate, hgd, hd, St.abs, hb], h⟩
      · rename_i hb
        exact Or.inr ⟨by simp [gate, hgd, hd, St.abs, hb], h⟩
      · exact h.elim

theorem runOps_run (C : Cfg) (ops : List Oper) (kp : AV → St → Prop) (k : St → List Foot → Prop) : ∀ (l : List Oper) (i : Nat) (s : St) (fs : List Foot), runOps C ops true kp l i s fs k →
    ∃ s' fs', RunAll C ops l s.abs fs' s'.abs ∧ k s' (fs.reverse ++ fs')
  | [], i, s, fs, h => ⟨s, [], ⟨rfl, rfl⟩, by simpa [runOps] using h⟩
  | o :: r, i, s, fs, h => by
    rcases runOps_step h with ⟨hg, e, he, hask, hq⟩ | ⟨hg, hq⟩
    · cases hp : panOf C o s.abs.T s.abs.B with
      | none =>
        rw [hp] at hq
        obtain ⟨s', fs', h1, h2⟩ := runOps_run C ops kp k r (i + 1) _ _ hq
        rw [abs_put] at h1
        exact ⟨s', _ :: fs', ⟨_, _, fs', Or.inl ⟨hg, e, he, hask, hp, rfl, rfl⟩, h1, rfl⟩, by simpa [St.abs] using h2⟩
      | some x =>
        rw [hp] at hq
        cases hq.1
    · obtain ⟨s', fs', h1, h2⟩ := runOps_run C ops kp k r (i + 1) _ _ hq
      have e : (⟨putT s.t o.dst (.tup []), s.b⟩ : St).abs = ⟨updT s.abs.T o.dst (.tup []), s.abs.B⟩ := by simp only [St.abs, abs_putT]
      rw [e] at h1
      exact ⟨s', _ :: fs', ⟨_, _, fs', Or.inr ⟨hg, rfl, rfl⟩, h1, rfl⟩, by simpa [St.abs] using h2⟩

section
variable {P : Program} {C : Cfg} {ops : Array Oper} {Q : Exit → Act → World → Prop} {F : Fr}

theorem V.skip {Ω : Om} : V Ω (.tup []) Go.undef := .tup [] [] rfl (fun j c v h => by simp at h)
theorem V.tup0_inv {Ω : Om} {v : Value} (h : V Ω (.tup []) v) : v = .tuple #[] := by
  cases h with
  | tup _ vs h1 _ =>
    have : vs = [] := List.eq_nil_of_length_eq_zero h1.symm
    subst this
    rfl

theorem gate_wanted {o : Oper} {s : AS} {a : Act} {Ω : Om} (h : Holds F s a Ω) : ∀ b, gate ops.toList o s.T = some b → Region.wanted o (yielded ops a.tmps) = b := by
  intro b hb
  unfold gate at hb
  unfold Region.wanted
  split at hb
  · rename_i hg
    simp only [hg]
    simpa using hb
  · rename_i j want hg
    simp only [hg]
    split at hb
    · simp at hb
    · rename_i d hd'
      split at hb
      · rename_i c hc
        simp at hb
        have hv := h.tmps d
        rw [hc] at hv
        have hv := hv.bool_inv
        have hsome : a.tmps[d]? = some (.bool c) := by
          rw [Array.getD_eq_getD_getElem?] at hv
          cases ht : a.tmps[d]? with
          | none => rw [ht] at hv; simp [undef] at hv
          | some v => rw [ht] at hv; simp at hv; rw [hv]
        have hdst : (ops[j]?).bind (·.dst) = some d := by
          rw [nth_eq, Array.getElem?_toList] at hd'
          exact hd'
        simp only [yielded, hdst, Option.bind_some, hsome]
        rw [← hb]
        cases c <;> cases want <;> rfl
      · rename_i hc
        simp at hb
        subst hb
        have hv := h.tmps d
        rw [hc] at hv
        have hdst : (ops[j]?).bind (·.dst) = some d := by
          rw [nth_eq, Array.getElem?_toList] at hd'
          exact hd'
        have hsome : a.tmps[d]? = none ∨ a.tmps[d]? = some (.tuple #[]) := by
          rw [Array.getD_eq_getD_getElem?] at hv
          cases ht : a.tmps[d]? with
          | none => exact .inl rfl
          | some v =>
            rw [ht] at hv
            simp only [Option.getD_some] at hv
            exact .inr (by rw [hv.tup0_inv])
        rcases hsome with e | e <;> simp only [yielded, hdst, Option.bind_some, e] <;> cases want <;> rfl
      · simp at hb

/-- One operation, in the machine. -/
theorem step_sound (hT : TblOK P C.tbl) (hS : SpecOK P C.spec) {o : Oper} {i : Nat} (hi : ops[i]? = some o) (hd : ∀ d, o.dst = some d → d < F.n)
    {s s' : AS} {f : Foot} {a : Act} {Ω : Om} (h : Holds F s a Ω) (hs : Step C ops.toList o s s' f) {K : Act → World → Prop}
    (hK : ∀ a' Ω', Holds F s' a' Ω' → K a' Ω'.w) : wpOp P ops Q i K a Ω.w := by
  have hgate := gate_wanted (ops := ops) (o := o) h
  unfold wpOp
  rw [hi]
  rcases hs with ⟨hg, e, he, ho, hp, rfl, rfl⟩ | ⟨hg, rfl, rfl⟩
  · simp only [hgate true hg, if_true]
    refine Or.inl (op_ok hT hS o F s a Ω e K Q h hd he ho ?_)
    rw [hp]
    exact hK
  · simp only [hgate false hg, Bool.false_eq_true, if_false]
    exact hK _ Ω (h.pure V.skip hd)

/-- A region whose order is fixed. -/
theorem ops_sound (hT : TblOK P C.tbl) (hS : SpecOK P C.spec) (hd : ∀ (o : Oper), o ∈ ops.toList → ∀ d, o.dst = some d → d < F.n) {draw : Bool} {kp : AV → St → Prop} {k : St → List Foot → Prop}
    (hQ : ∀ s fs a' Ω', k s fs → Holds F s.abs a' Ω' → Q .normal a' Ω'.w) (hP : ∀ pv s a' Ω' v, kp pv s → Holds F s.abs a' Ω' → V Ω' pv v → Q (.panic [{ v, recovered := false }]) a' Ω'.w) :
    ∀ (l : List Oper) (i : Nat) (s : St) (fs : List Foot) (a : Act) (Ω : Om), ops.toList.drop i = l → runOps C ops.toList draw kp l i s fs k → Holds F s.abs a Ω →
      wpOps P ops Q (List.range' i l.length) a Ω.w
  | [], i, s, fs, a, Ω, _, hr, h => hQ s _ a Ω (by simpa [runOps] using hr) h
  | o :: r, i, s, fs, a, Ω, hl, hr, h => by
    have hi : ops[i]? = some o := by
      have : (ops.toList.drop i)[0]? = some o := by rw [hl]; rfl
      rw [List.getElem?_drop] at this
      simpa using this
    have hl' : ops.toList.drop (i + 1) = r := by
      rw [← List.tail_drop, hl]
      rfl
    have hdo := hd o (List.mem_of_getElem? (by rw [Array.getElem?_toList]; exact hi))
    have hgate := gate_wanted (ops := ops) (o := o) h
    simp only [List.length_cons, List.range'_succ]
    rw [wpOps_cons]
    unfold wpOp
    rw [hi]
    rcases runOps_step hr with ⟨hg, e, he, hask, hq⟩ | ⟨hg, hq⟩
    · simp only [hgate true hg, if_true]
      refine Or.inl (op_ok hT hS o F s.abs a Ω e _ Q h hdo he hask ?_)
      cases hp : panOf C o s.abs.T s.abs.B with
      | none =>
        rw [hp] at hq
        intro a' Ω' h'
        rw [← abs_put] at h'
        exact ops_sound hT hS hd hQ hP r (i + 1) _ _ a' Ω' hl' hq h'
      | some x =>
        obtain ⟨b, pv, u⟩ := x
        rw [hp] at hq
        refine ⟨fun hb a' Ω' h' => ?_, fun hb Ω' v h' hv => ?_⟩
        · rw [← abs_put] at h'
          exact ops_sound hT hS hd hQ hP r (i + 1) _ _ a' Ω' hl' (hq.2.2 hb) h'
        · refine hP pv _ a Ω' v (hq.2.1 hb) ?_ hv
          have e2 : (⟨s.t, putB s.b u⟩ : St).abs = ⟨s.abs.T, updB s.abs.B u⟩ := by simp only [St.abs, abs_putB]
          rw [e2]
          exact h'
    · simp only [hgate false hg, Bool.false_eq_true, if_false]
      have e2 : (⟨putT s.t o.dst (.tup []), s.b⟩ : St).abs = ⟨updT s.abs.T o.dst (.tup []), s.abs.B⟩ := by simp only [St.abs, abs_putT]
      exact ops_sound hT hS hd hQ hP r (i + 1) _ _ _ Ω hl' hq (by rw [e2]; exact h.pure V.skip hdo)

end
end Go.AL
