/-
  Contracts in lists; facts of data that stand in memory. No condition.
-/
import Derived.Test.YtjemjblnddfdbaaGreatAlP
set_option linter.unusedVariables false
set_option linter.unusedSimpArgs false
set_option linter.unnecessarySimpa false
set_option linter.deprecated false
namespace Go.AL

/-- Data that may stand in memory. -/
def Wf (τ : Ty) (x : den τ) : Prop := ∃ Ω v, V Ω (inj τ x) v
def WfL (args : List AV) : Prop := ∃ Ω vs, VL Ω args vs

theorem Wf.int {k : IntKind} {n : Int} (h : Wf (.int k) n) : k.min ≤ n ∧ n ≤ k.max := let ⟨_, _, h⟩ := h; h.int_inv.2
theorem Wf.i64 {n : Int} (h : Wf (.int .i64) n) : -9223372036854775808 ≤ n ∧ n ≤ 9223372036854775807 := by
  have := h.int
  simp [IntKind.min, IntKind.max, IntKind.signed, IntKind.bits] at this
  exact this
theorem Wf.str {s : Str} (h : Wf .str s) : s.length ≤ 9223372036854775807 := let ⟨_, _, h⟩ := h; h.str_inv.2
theorem Wf.len {τ : Ty} {xs : List (den τ)} (h : Wf (.lst τ) xs) : xs.length ≤ 9223372036854775807 := by
  obtain ⟨Ω, v, h⟩ := h
  rcases h.lst_inv with ⟨h1, _, _⟩ | ⟨h1, _, _⟩ | ⟨b, off, cap, vals, hv, h1, h2, _⟩
  · rw [h1]; simp
  · rw [h1]; simp
  · unfold maxN at h2; omega
theorem VL.inj {Ω : Om} {τ : Ty} {x : den τ} {vs : List Value} (h : VL Ω (cells τ x) vs) : ∃ v, V Ω (inj τ x) v := by
  cases τ with
  | st n => exact ⟨_, .st n x _ (V.of_agg h)⟩
  | int k => match vs, h with | [v], h => exact ⟨v, h.head⟩
  | bool => match vs, h with | [v], h => exact ⟨v, h.head⟩
  | str => match vs, h with | [v], h => exact ⟨v, h.head⟩
  | lst t => match vs, h with | [v], h => exact ⟨v, h.head⟩
  | pt n => match vs, h with | [v], h => exact ⟨v, h.head⟩
theorem Wf.mem {τ : Ty} {xs : List (den τ)} (h : Wf (.lst τ) xs) {x : den τ} (hx : x ∈ xs) : Wf τ x := by
  obtain ⟨Ω, v, h⟩ := h
  rcases h.lst_inv with ⟨h1, _, _⟩ | ⟨h1, _, _⟩ | ⟨b, off, cap, vals, hv, h1, h2, h3, h4, h5⟩
  · rw [h1] at hx; simp at hx
  · rw [h1] at hx; simp at hx
  · obtain ⟨i, hi⟩ := List.getElem?_of_mem hx
    have : VL Ω (cells τ x) ((List.range (cells τ x).length).map (vals i)) := by
      refine ⟨by simp, fun j c v hc hv => ?_⟩
      have hj : j < (cells τ x).length := by
        rcases Nat.lt_or_ge j (cells τ x).length with k | k
        · exact k
        · rw [List.getElem?_eq_none k] at hc; cases hc
      simp [hj] at hv
      subst hv
      exact h5 i x hi j c hc
    obtain ⟨v', hv'⟩ := this.inj
    exact ⟨Ω, v', hv'⟩
theorem Wf.cell {n : SN} {x : SD n} (h : Wf (.st n) x) (j : Nat) {τ : Ty} {y : den τ} (hc : (cells (.st n) x)[j]? = some (AL.inj τ y)) : Wf τ y := by
  obtain ⟨Ω, v, h⟩ := h
  cases h with
  | st _ _ v hv =>
    obtain ⟨vs, _, hl⟩ := hv.agg_inv
    have hj : j < vs.length := by
      rw [← hl.1]
      rcases Nat.lt_or_ge j (cells (.st n) x).length with k | k
      · exact k
      · rw [List.getElem?_eq_none k] at hc; cases hc
    exact ⟨Ω, _, hl.2 j _ _ hc (List.getElem?_eq_getElem hj)⟩
theorem Wf.kind {s : Shape} (h : Wf (.st .shape) s) : -9223372036854775808 ≤ s.kind ∧ s.kind ≤ 9223372036854775807 := (h.cell 0 (τ := .int .i64) (y := s.kind) rfl).i64
theorem Wf.pkg {s : Shape} (h : Wf (.st .shape) s) : Wf .str s.pkg := h.cell 1 (τ := .str) (y := s.pkg) rfl
theorem Wf.name {s : Shape} (h : Wf (.st .shape) s) : Wf .str s.name := h.cell 2 (τ := .str) (y := s.name) rfl
theorem Wf.names {s : Shape} (h : Wf (.st .shape) s) : Wf (.lst .str) s.names := h.cell 3 (τ := .lst .str) (y := s.names) rfl
theorem Wf.parts {s : Shape} (h : Wf (.st .shape) s) : Wf (.lst (.st .shape)) s.parts := h.cell 4 (τ := .lst (.st .shape)) (y := s.parts) rfl
theorem Wf.ikind {s : Item} (h : Wf (.st .item) s) : -9223372036854775808 ≤ s.kind ∧ s.kind ≤ 9223372036854775807 := (h.cell 0 (τ := .int .i64) (y := s.kind) rfl).i64
theorem Wf.iname {s : Item} (h : Wf (.st .item) s) : Wf .str s.name := h.cell 1 (τ := .str) (y := s.name) rfl
theorem Wf.ishape {s : Item} (h : Wf (.st .item) s) : Wf (.st .shape) s.shape := by
  obtain ⟨Ω, v, h⟩ := h
  cases h with
  | st _ _ v hv =>
    obtain ⟨vs, _, hl⟩ := hv.agg_inv
    have : VL Ω (cells (.st .shape) s.shape) (vs.drop 2) := hl.drop 2
    obtain ⟨v', hv'⟩ := this.inj
    exact ⟨Ω, v', hv'⟩
theorem Wf.ckind {s : Change} (h : Wf (.st .change) s) : -9223372036854775808 ≤ s.kind ∧ s.kind ≤ 9223372036854775807 := (h.cell 0 (τ := .int .i64) (y := s.kind) rfl).i64
theorem Wf.cname {s : Change} (h : Wf (.st .change) s) : Wf .str s.name := h.cell 1 (τ := .str) (y := s.name) rfl

theorem WfL.cons {a : AV} {l : List AV} (h : WfL (a :: l)) : (∃ Ω v, V Ω a v) ∧ WfL l := by
  obtain ⟨Ω, vs, h⟩ := h
  rcases h.cases with ⟨e, _⟩ | ⟨c, cs, v, vs', e, _, h1, h2⟩
  · cases e
  · cases e; exact ⟨⟨Ω, v, h1⟩, Ω, vs', h2⟩
theorem WfL.one {τ : Ty} {x : den τ} {l : List AV} (h : WfL (inj τ x :: l)) : Wf τ x := h.cons.1
theorem WfL.two {a : AV} {τ : Ty} {x : den τ} {l : List AV} (h : WfL (a :: inj τ x :: l)) : Wf τ x := h.cons.2.cons.1
theorem WfL.three {a b : AV} {τ : Ty} {x : den τ} {l : List AV} (h : WfL (a :: b :: inj τ x :: l)) : Wf τ x := h.cons.2.cons.2.cons.1

/-! ### Contracts -/
section
variable {P : Program}

theorem Meets.wf {f : Nat} {args : List AV} {S : List (Nat × SObj)} {A : Ans} (h : WfL args → Meets P f args S A) : Meets P f args S A :=
  fun w pub e vs hp hv hs hd hi => h ⟨_, vs, hv⟩ w pub e vs hp hv hs hd hi
theorem Meets.args {f : Nat} {args args' : List AV} {S : List (Nat × SObj)} {A : Ans} (ha : RdL args args') (h : Meets P f args' S A) : Meets P f args S A :=
  fun w pub e vs hp hv hs hd hi => h w pub e vs hp (hv.rd ha) hs hd hi

abbrev Pat := List AV → List (Nat × SObj) → Option Ans
def specL : List (Nat × Pat) → Nat → Pat
  | [], _ => fun _ _ => none
  | (i, g) :: l, f => fun args S =>
    match Nat.beq i f with
    | true => (match g args S with | some A => some A | none => specL l f args S)
    | false => specL l f args S

def PatOK (P : Program) (f : Nat) (g : Pat) : Prop :=
  ∀ args S A, g args S = some A → (∀ q, A.ob = some q → q) → (keysOf S).all isLent = true → Enters P f ∧ Meets P f args S A

theorem specL_nil : SpecOK P (specL []) := fun f args S A h => by simp [specL] at h
theorem specL_cons {f : Nat} {g : Pat} {l : List (Nat × Pat)} (h : PatOK P f g) (hl : SpecOK P (specL l)) : SpecOK P (specL ((f, g) :: l)) := by
  intro f' args S A hA ho hk
  simp only [specL] at hA
  split at hA
  · rename_i hb
    have e : f = f' := Nat.eq_of_beq_eq_true hb
    subst e
    split at hA
    · rename_i A' hg
      simp at hA
      subst hA
      exact h args S A' hg ho hk
    · exact hl f args S A hA ho hk
  · exact hl f' args S A hA ho hk

def p1 (τ : Ty) (F : den τ → Ans) : Pat
  | [a], [] => (match arg τ a with | some a => some (F a) | none => none)
  | _, _ => none
def p2 (τ σ : Ty) (F : den τ → den σ → Ans) : Pat
  | [a, b], [] => (match arg τ a, arg σ b with | some a, some b => some (F a b) | _, _ => none)
  | _, _ => none
/-- A datum, and a function without captured things. -/
def pf (τ : Ty) (n : Nat) (F : den τ → Ans) : Pat
  | [a, .fn f []], [] => (match Nat.beq f n with | true => (match arg τ a with | some a => some (F a) | none => none) | false => none)
  | _, _ => none
/-- Two data, and a function without captured things. -/
def pff (τ σ : Ty) (n : Nat) (F : den τ → den σ → Ans) : Pat
  | [a, b, .fn f []], [] => (match Nat.beq f n with | true => (match arg τ a, arg σ b with | some a, some b => some (F a b) | _, _ => none) | false => none)
  | _, _ => none
def p3 (τ σ ρ : Ty) (F : den τ → den σ → den ρ → Ans) : Pat
  | [a, b, c], [] => (match arg τ a, arg σ b, arg ρ c with | some a, some b, some c => some (F a b c) | _, _, _ => none)
  | _, _ => none

theorem Rd.arg {τ : Ty} {a : AV} {x : den τ} (h : AL.arg τ a = some x) : Rd a (inj τ x) := fun _ _ hv => arg_V hv h

theorem p1_ok {f : Nat} {τ : Ty} {F : den τ → Ans} (he : Enters P f) (h : ∀ x, Wf τ x → (∀ q, (F x).ob = some q → q) → Meets P f [inj τ x] [] (F x)) : PatOK P f (p1 τ F) := by
  intro args S A hA ho _
  unfold p1 at hA
  split at hA
  · split at hA
    · rename_i x hx
      simp at hA
      subst hA
      exact ⟨he, Meets.args (.cons (Rd.arg hx) .nil) (Meets.wf fun hw => h x hw.one ho)⟩
    · cases hA
  · cases hA
theorem p2_ok {f : Nat} {τ σ : Ty} {F : den τ → den σ → Ans} (he : Enters P f)
    (h : ∀ x y, Wf τ x → Wf σ y → (∀ q, (F x y).ob = some q → q) → Meets P f [inj τ x, inj σ y] [] (F x y)) : PatOK P f (p2 τ σ F) := by
  intro args S A hA ho _
  unfold p2 at hA
  split at hA
  · split at hA
    · rename_i x y hx hy
      simp at hA
      subst hA
      exact ⟨he, Meets.args (.cons (Rd.arg hx) (.cons (Rd.arg hy) .nil)) (Meets.wf fun hw => h x y hw.one hw.two ho)⟩
    · cases hA
  · cases hA
theorem pf_ok {f : Nat} {τ : Ty} {n : Nat} {F : den τ → Ans} (he : Enters P f) (h : ∀ x, Wf τ x → (∀ q, (F x).ob = some q → q) → Meets P f [inj τ x, .fn n []] [] (F x)) : PatOK P f (pf τ n F) := by
  intro args S A hA ho _
  unfold pf at hA
  split at hA
  · split at hA
    · rename_i hb
      have e := Nat.eq_of_beq_eq_true hb
      subst e
      split at hA
      · rename_i x hx
        simp at hA
        subst hA
        exact ⟨he, Meets.args (.cons (Rd.arg hx) (.cons (Rd.refl _) .nil)) (Meets.wf fun hw => h x hw.one ho)⟩
      · cases hA
    · cases hA
  · cases hA
theorem pff_ok {f : Nat} {τ σ : Ty} {n : Nat} {F : den τ → den σ → Ans} (he : Enters P f)
    (h : ∀ x y, Wf τ x → Wf σ y → (∀ q, (F x y).ob = some q → q) → Meets P f [inj τ x, inj σ y, .fn n []] [] (F x y)) : PatOK P f (pff τ σ n F) := by
  intro args S A hA ho _
  unfold pff at hA
  split at hA
  · split at hA
    · rename_i hb
      have e := Nat.eq_of_beq_eq_true hb
      subst e
      split at hA
      · rename_i x y hx hy
        simp at hA
        subst hA
        exact ⟨he, Meets.args (.cons (Rd.arg hx) (.cons (Rd.arg hy) (.cons (Rd.refl _) .nil))) (Meets.wf fun hw => h x y hw.one hw.two ho)⟩
      · cases hA
    · cases hA
  · cases hA
theorem p3_ok {f : Nat} {τ σ ρ : Ty} {F : den τ → den σ → den ρ → Ans} (he : Enters P f)
    (h : ∀ x y z, Wf τ x → Wf σ y → Wf ρ z → (∀ q, (F x y z).ob = some q → q) → Meets P f [inj τ x, inj σ y, inj ρ z] [] (F x y z)) : PatOK P f (p3 τ σ ρ F) := by
  intro args S A hA ho _
  unfold p3 at hA
  split at hA
  · split at hA
    · rename_i x y z hx hy hz
      simp at hA
      subst hA
      exact ⟨he, Meets.args (.cons (Rd.arg hx) (.cons (Rd.arg hy) (.cons (Rd.arg hz) .nil))) (Meets.wf fun hw => h x y z hw.one hw.two hw.three ho)⟩
    · cases hA
  · cases hA

end
end Go.AL
