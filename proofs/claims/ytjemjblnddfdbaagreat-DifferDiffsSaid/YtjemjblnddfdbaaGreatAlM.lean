/-
  Every order that a region's edges allow comes to the same. Conditions: the table of types fits; the contracts hold.
-/
import Derived.Test.YtjemjblnddfdbaaGreatAlL
set_option linter.unusedVariables false
set_option linter.unusedSimpArgs false
set_option linter.unnecessarySimpa false
set_option linter.deprecated false
namespace Go.AL

def aheadOf (acc : List (List Nat)) (o : Oper) : List Nat := (o.after.toList.filter (Region.binds .any)).flatMap fun e => e.on :: acc.getD e.on []

/-- All that must stand ahead of an operation, as a list. -/
def aheadsL (ops : List Oper) : List (List Nat) := ops.foldl (fun acc o => acc ++ [aheadOf acc o]) []
theorem aheadsL_eq (ops : List Oper) : aheadsL ops = ops.foldl (fun acc o => acc ++ [aheadOf acc o]) [] := rfl
theorem aheadM_bit {l : List Edge} {acc : List Nat} {i : Nat} : ∀ {m : Nat}, (l.foldl (fun m e => m ||| 2 ^ e.on ||| acc.getD e.on 0) m).testBit i = true →
    m.testBit i = true ∨ ∃ e ∈ l, e.on = i ∨ (acc.getD e.on 0).testBit i = true := by
  induction l with
  | nil => intro m h; exact Or.inl h
  | cons e r ih =>
    intro m h
    rcases ih h with h | ⟨x, hx, h⟩
    · simp only [Nat.testBit_or, Bool.or_eq_true, Nat.testBit_two_pow, decide_eq_true_eq] at h
      rcases h with (h | h) | h
      · exact Or.inl h
      · exact Or.inr ⟨e, by simp, Or.inl h⟩
      · exact Or.inr ⟨e, by simp, Or.inr h⟩
    · exact Or.inr ⟨x, List.mem_cons_of_mem _ hx, h⟩
theorem aheads_list (ops : List Oper) : (aheads ops).length = (aheadsL ops).length ∧ ∀ j i, ((aheads ops).getD j 0).testBit i = true → i ∈ (aheadsL ops).getD j [] := by
  suffices h : ∀ (ops : List Oper) (a : List Nat) (b : List (List Nat)), a.length = b.length → (∀ j i, (a.getD j 0).testBit i = true → i ∈ b.getD j []) →
      (ops.foldl (fun acc o => acc ++ [aheadM acc o]) a).length = (ops.foldl (fun acc o => acc ++ [aheadOf acc o]) b).length ∧
      ∀ j i, ((ops.foldl (fun acc o => acc ++ [aheadM acc o]) a).getD j 0).testBit i = true → i ∈ (ops.foldl (fun acc o => acc ++ [aheadOf acc o]) b).getD j [] by
    exact h ops [] [] rfl (by simp)
  intro ops
  induction ops with
  | nil => exact fun a b hl h => ⟨hl, h⟩
  | cons o r ih =>
    intro a b hl h
    refine ih (a ++ [aheadM a o]) (b ++ [aheadOf b o]) (by simp [hl]) fun j i hb => ?_
    rcases Nat.lt_trichotomy j a.length with hj | hj | hj
    · rw [List.getD_eq_getElem?_getD, List.getElem?_append_left hj, ← List.getD_eq_getElem?_getD] at hb
      rw [List.getD_eq_getElem?_getD, List.getElem?_append_left (by omega), ← List.getD_eq_getElem?_getD]
      exact h j i hb
    · subst hj
      rw [List.getD_eq_getElem?_getD, List.getElem?_append_right (Nat.le_refl _), Nat.sub_self] at hb
      rw [hl, List.getD_eq_getElem?_getD, List.getElem?_append_right (Nat.le_refl _), Nat.sub_self]
      simp only [List.getElem?_cons_zero, Option.getD_some] at hb ⊢
      unfold aheadM at hb
      rcases aheadM_bit hb with hz | ⟨e, he, hz⟩
      · simp at hz
      · unfold aheadOf
        rw [List.mem_flatMap]
        refine ⟨e, he, ?_⟩
        rcases hz with rfl | hz
        · simp
        · exact List.mem_cons_of_mem _ (h _ _ hz)
    · rw [List.getD_eq_getElem?_getD, List.getElem?_eq_none (by simp; omega)] at hb
      simp at hb

theorem aheadsL_snoc (l : List Oper) (o : Oper) : aheadsL (l ++ [o]) = aheadsL l ++ [aheadOf (aheadsL l) o] := by
  simp only [aheadsL_eq, List.foldl_append, List.foldl_cons, List.foldl_nil]

theorem aheadsL_app : ∀ (r l : List Oper), ∃ t, aheadsL (l ++ r) = aheadsL l ++ t
  | [], l => ⟨[], by simp⟩
  | o :: r, l => by
    obtain ⟨t, ht⟩ := aheadsL_app r (l ++ [o])
    refine ⟨aheadOf (aheadsL l) o :: t, ?_⟩
    rw [show l ++ o :: r = (l ++ [o]) ++ r from by simp, ht, aheadsL_snoc]
    simp

theorem aheadsL_length (l : List Oper) : (aheadsL l).length = l.length := by
  induction h : l.length generalizing l with
  | zero => rw [List.eq_nil_of_length_eq_zero h]; rfl
  | succ n ih =>
    have hne : l ≠ [] := fun e => by rw [e] at h; simp at h
    have hs := List.dropLast_concat_getLast hne
    rw [← hs, aheadsL_snoc]
    simp only [List.length_append, List.length_singleton]
    rw [ih l.dropLast (by simp [h])]

theorem aheadsL_at {l : List Oper} {i : Nat} {o : Oper} (h : l[i]? = some o) :
    (aheadsL l).getD i [] = aheadOf (aheadsL (l.take i)) o ∧ ∀ m, m < i → (aheadsL l).getD m [] = (aheadsL (l.take i)).getD m [] := by
  have hi : i < l.length := by
    rcases Nat.lt_or_ge i l.length with k | k
    · exact k
    · rw [List.getElem?_eq_none k] at h; cases h
  have ho : l[i] = o := by rw [List.getElem?_eq_getElem hi] at h; simpa using h
  have e : l = (l.take i ++ [o]) ++ l.drop (i + 1) := by
    rw [← ho, List.append_assoc, List.singleton_append, ← List.drop_eq_getElem_cons hi, List.take_append_drop]
  obtain ⟨t, ht⟩ := aheadsL_app (l.drop (i + 1)) (l.take i ++ [o])
  rw [← e, aheadsL_snoc] at ht
  have hl : (aheadsL (l.take i)).length = i := by rw [aheadsL_length]; simp; omega
  refine ⟨?_, fun m hm => ?_⟩
  · rw [ht, List.getD_eq_getElem?_getD, List.append_assoc, List.getElem?_append_right (by omega), hl]
    simp
  · rw [ht, List.getD_eq_getElem?_getD, List.append_assoc, List.getElem?_append_left (by omega), List.getD_eq_getElem?_getD]

/-- What is listed with all that must stand ahead of it holds all that must stand ahead of the next one. -/
theorem ahead_listed {l : List Oper} (he : ∀ (i : Nat) (o : Oper), l[i]? = some o → ∀ e ∈ o.after.toList, Region.binds .any e = true → e.on < i) {L : Nat → Prop}
    (hd : ∀ (i : Nat) (o : Oper), l[i]? = some o → L i → ∀ e ∈ o.after.toList, Region.binds .any e = true → L e.on) :
    ∀ (n i : Nat) (o : Oper), i < n → l[i]? = some o → (∀ e ∈ o.after.toList, Region.binds .any e = true → L e.on) → ∀ k ∈ (aheadsL l).getD i [], L k := by
  intro n
  induction n with
  | zero => intro i o hi; omega
  | succ n ih =>
    intro i o hi ho hp k hk
    obtain ⟨h1, h2⟩ := aheadsL_at ho
    rw [h1] at hk
    simp only [aheadOf, List.mem_flatMap, List.mem_filter, List.mem_cons] at hk
    obtain ⟨e, ⟨he1, he2⟩, hk⟩ := hk
    have hlt := he i o ho e he1 he2
    rcases hk with rfl | hk
    · exact hp e he1 he2
    · rw [← h2 e.on hlt] at hk
      have hlen : e.on < l.length := by
        have : i < l.length := by
          rcases Nat.lt_or_ge i l.length with k | k
          · exact k
          · rw [List.getElem?_eq_none k] at ho; cases ho
        omega
      have ho' : l[e.on]? = some l[e.on] := List.getElem?_eq_getElem hlen
      exact ih e.on _ (by omega) ho' (hd e.on _ ho' (hp e he1 he2)) k hk

theorem indepAll_spec {l : List Oper} {fl : List Foot} (h : indepAll l fl = true) :
    (∀ (i : Nat) (o : Oper), l[i]? = some o → ∀ e ∈ o.after.toList, Region.binds .any e = true → e.on < i) ∧
    ∀ j i, i < j → j < l.length → i ∈ (aheadsL l).getD j [] ∨ Apart l (fun k => fl.getD k ([], [])) i j := by
  simp only [indepAll, Bool.and_eq_true, List.all_eq_true] at h
  obtain ⟨h1, h2⟩ := h
  refine ⟨fun i o ho e he hb => ?_, fun j i hij hj => ?_⟩
  · have hm : (o, i) ∈ l.zipIdx := by
      rw [List.mem_zipIdx_iff_getElem?]
      exact ho
    have := h2 (o, i) hm
    simp only [Array.all_eq_true, Bool.or_eq_true, Bool.not_eq_true', Nat.blt_eq] at this
    obtain ⟨k, hk, hke⟩ := Array.mem_iff_getElem.1 (Array.mem_toList_iff.1 he)
    have := this k hk
    rw [hke] at this
    rcases this with h | h
    · rw [hb] at h; cases h
    · exact h
  · have := h1 j (List.mem_range.2 hj) i (List.mem_range.2 hij)
    simp only [Bool.or_eq_true] at this
    rcases this with h | h
    · left; exact (aheads_list l).2 j i h
    · right
      intro x y hx hy
      simp only [nth_eq, hx, hy] at h
      split at h
      · rename_i x' y' f g e1 e2 e3 e4
        simp at e1 e2
        subst e1 e2
        simp only [Bool.and_eq_true] at h
        simp only [List.getD_eq_getElem?_getD, e3, e4, Option.getD_some]
        exact h
      · simp at h

section
variable {P : Program} {C : Cfg} {ops : Array Oper} {Q : Exit → Act → World → Prop} {F : Fr}

theorem any_sound (hT : TblOK P C.tbl) (hS : SpecOK P C.spec) (hdst : ∀ (o : Oper), o ∈ ops.toList → ∀ d, o.dst = some d → d < F.n)
    {fs : Nat → Foot} {sN : AS} (he : ∀ (i : Nat) (o : Oper), ops.toList[i]? = some o → ∀ e ∈ o.after.toList, Region.binds .any e = true → e.on < i)
    (hi : ∀ j i, i < j → j < ops.size → i ∈ (aheadsL ops.toList).getD j [] ∨ Apart ops.toList fs i j)
    (hQ : ∀ a' Ω', Holds F sN a' Ω' → Q .normal a' Ω'.w) :
    ∀ (fuel : Nat) (R : List Nat) (listed : Array Bool) (s : AS) (a : Act) (Ω : Om), R.length = fuel → listed.size = ops.size →
      (∀ i, i < ops.size → (listed.getD i true = false ↔ i ∈ R)) → R.Pairwise (· < ·) → (∀ i ∈ R, i < ops.size) →
      (∀ (i : Nat) (o : Oper), ops.toList[i]? = some o → listed.getD i true = true → ∀ e ∈ o.after.toList, Region.binds .any e = true → listed.getD e.on true = true) →
      RunI C ops.toList fs R s sN → Holds F s a Ω → wpAny P .any ops Q fuel listed a Ω.w := by
  intro fuel
  have mem_ready : ∀ {listed : Array Bool} {i : Nat}, i ∈ Region.ready .any ops listed ↔
      i < ops.size ∧ listed.getD i true = false ∧ ∃ o, ops[i]? = some o ∧ ∀ e ∈ o.after.toList, Region.binds .any e = true → listed.getD e.on false = true := by
    intro listed i
    unfold Region.ready
    simp only [List.mem_filter, List.mem_range, Bool.and_eq_true, Bool.not_eq_true']
    constructor
    · rintro ⟨h1, h2, h3⟩
      refine ⟨h1, h2, ?_⟩
      cases ho : ops[i]? with
      | none => rw [ho] at h3; simp at h3
      | some o =>
        rw [ho] at h3
        refine ⟨o, rfl, fun e hem hb => ?_⟩
        simp only [Option.map_some, Option.getD_some, Array.all_eq_true, Bool.or_eq_true, Bool.not_eq_true'] at h3
        obtain ⟨k, hk, hke⟩ := Array.mem_iff_getElem.1 (Array.mem_toList_iff.1 hem)
        have := h3 k hk
        rw [hke] at this
        rcases this with h | h
        · rw [hb] at h; cases h
        · exact h
    · rintro ⟨h1, h2, o, ho, h3⟩
      refine ⟨h1, h2, ?_⟩
      rw [ho]
      simp only [Option.map_some, Option.getD_some, Array.all_eq_true, Bool.or_eq_true, Bool.not_eq_true']
      intro k hk
      cases hb : Region.binds .any o.after[k] with
      | false => exact Or.inl rfl
      | true => exact Or.inr (h3 _ (Array.mem_toList_iff.2 (Array.getElem_mem hk)) hb)
  have two : ∀ {listed : Array Bool} {i : Nat}, listed.size = ops.size → i < ops.size → listed.getD i true = listed.getD i false := by
    intro listed i hs hi'
    simp [Array.getD_eq_getD_getElem?, hs, hi']
  have least : ∀ (R : List Nat) (listed : Array Bool), listed.size = ops.size → (∀ i, i < ops.size → (listed.getD i true = false ↔ i ∈ R)) → R.Pairwise (· < ·) → (∀ i ∈ R, i < ops.size) →
      Region.ready .any ops listed = [] → R = [] := by
    intro R listed hs hl hp hlt hr
    cases R with
    | nil => rfl
    | cons m R =>
      have hm := hlt m (by simp)
      have : m ∈ Region.ready .any ops listed := by
        refine mem_ready.2 ⟨hm, (hl m hm).2 (by simp), ops[m], Array.getElem?_eq_getElem hm, fun e hem hb0 => ?_⟩
        have hon := he m ops[m] (by rw [Array.getElem?_toList]; exact Array.getElem?_eq_getElem hm) e hem hb0
        rw [← two hs (by omega)]
        cases hb : listed.getD e.on true with
        | true => rfl
        | false =>
          have hin := (hl e.on (by omega)).1 hb
          simp only [List.mem_cons] at hin
          rcases hin with hin | hin
          · omega
          · have := (List.pairwise_cons.1 hp).1 e.on hin
            omega
      rw [hr] at this
      cases this
  induction fuel with
  | zero =>
    intro R listed s a Ω hlen hs hl hp hlt hdc hrun h
    have hR := List.eq_nil_of_length_eq_zero hlen
    subst hR
    have hsn : s = sN := hrun
    subst hsn
    refine ⟨?_, hQ a Ω h⟩
    cases hr : Region.ready .any ops listed with
    | nil => rfl
    | cons i r =>
      have : i ∈ Region.ready .any ops listed := by rw [hr]; simp
      obtain ⟨h1, h2, _⟩ := mem_ready.1 this
      have := (hl i h1).1 h2
      cases this
  | succ fuel ih =>
    intro R listed s a Ω hlen hs hl hp hlt hdc hrun h
    refine ⟨fun hr => ?_, fun i hir => ?_⟩
    · have hR := least R listed hs hl hp hlt hr
      subst hR
      have hsn : s = sN := hrun
      subst hsn
      exact hQ a Ω h
    · obtain ⟨h1, h2, o, ho, h3⟩ := mem_ready.1 hir
      have hiR := (hl i h1).1 h2
      obtain ⟨r1, r2, hR⟩ := List.append_of_mem hiR
      subst hR
      have hpre : ∀ e ∈ o.after.toList, Region.binds .any e = true → listed.getD e.on true = true := by
        intro e hem hb
        have hon := he i o (by rw [Array.getElem?_toList]; exact ho) e hem hb
        rw [two hs (by omega)]
        exact h3 e hem hb
      have hal := ahead_listed (l := ops.toList) he (L := fun k => listed.getD k true = true) hdc (i + 1) i o (by omega) (by rw [Array.getElem?_toList]; exact ho) hpre
      have hp' := List.pairwise_append.1 hp
      have hfront := RunI.front r1 i r2 s sN hrun (fun j hj => by
        have hji : j < i := hp'.2.2 j hj i (by simp)
        rcases hi i j hji h1 with hk | hk
        · have := hal j hk
          have hjf := (hl j (by omega)).2 (by simp [hj])
          rw [this] at hjf
          cases hjf
        · exact hk)
      obtain ⟨o', s1, ho', hstep, hrest⟩ := hfront
      have hoo : o' = o := by
        rw [Array.getElem?_toList, ho] at ho'
        simpa using ho'.symm
      subst hoo
      refine step_sound hT hS ho (hdst o' (List.mem_of_getElem? ho')) h hstep (fun a' Ω' h' => ?_)
      have hnd : i ∉ r1 ∧ i ∉ r2 := by
        refine ⟨fun hm => ?_, fun hm => ?_⟩
        · have := hp'.2.2 i hm i (by simp); omega
        · have := (List.pairwise_cons.1 hp'.2.1).1 i hm; omega
      refine ih (r1 ++ r2) (listed.setIfInBounds i true) s1 a' Ω' (by simp at hlen ⊢; omega) (by simpa using hs) (fun k hk => ?_) ?_ (fun k hk => hlt k (by simp at hk ⊢; rcases hk with hk | hk <;> simp [hk])) (fun k ok hok hkl e hem hb => ?_) hrest h'
      · by_cases hik : i = k
        · subst hik
          simp [Array.getD_eq_getD_getElem?, hs, h1, hnd.1, hnd.2]
        · have : (listed.setIfInBounds i true).getD k true = listed.getD k true := by simp [Array.getD_eq_getD_getElem?, hik]
          rw [this, hl k hk]
          simp
          have : ¬ k = i := fun e => hik e.symm
          simp [this]
      · refine List.pairwise_append.2 ⟨hp'.1, (List.pairwise_cons.1 hp'.2.1).2, fun x hx y hy => hp'.2.2 x hx y (by simp [hy])⟩
      · have key : ∀ m, listed.getD m true = true → (listed.setIfInBounds i true).getD m true = true := by
          intro m hm
          by_cases him : i = m
          · subst him
            simp [Array.getD_eq_getD_getElem?, hs, h1]
          · have : (listed.setIfInBounds i true).getD m true = listed.getD m true := by simp [Array.getD_eq_getD_getElem?, him]
            rw [this, hm]
        by_cases hik : i = k
        · subst hik
          rw [Array.getElem?_toList, ho] at hok
          simp at hok
          subst hok
          exact key _ (hpre e hem hb)
        · have : (listed.setIfInBounds i true).getD k true = listed.getD k true := by simp [Array.getD_eq_getD_getElem?, hik]
          rw [this] at hkl
          exact key _ (hdc k ok hok hkl e hem hb)

/-- A region, whether or not it draws its order. -/
theorem region_sound (hm : P.follows .mixedOrders = true) (hT : TblOK P C.tbl) (hS : SpecOK P C.spec) {id : Nat} {draw : Bool}
    (hdst : ∀ (o : Oper), o ∈ ops.toList → ∀ d, o.dst = some d → d < F.n) {kp : AV → St → Prop} {k : St → List Foot → Prop} {s : St} {a : Act} {Ω : Om}
    (hrun : runOps C ops.toList draw kp ops.toList 0 s [] k) (hind : draw = true → ∀ s fs, k s fs → indepAll ops.toList fs = true) (h : Holds F s.abs a Ω)
    (hQ : ∀ s fs a' Ω', k s fs → Holds F s.abs a' Ω' → Q .normal a' Ω'.w) (hP : ∀ pv s a' Ω' v, kp pv s → Holds F s.abs a' Ω' → V Ω' pv v → Q (.panic [{ v, recovered := false }]) a' Ω'.w) :
    (Code.region id ops draw).wp P Q a Ω.w := by
  cases draw with
  | false =>
    refine wp_region ?_
    have := ops_sound (Q := Q) hT hS hdst hQ hP ops.toList 0 s [] a Ω rfl hrun h
    rw [List.range_eq_range']
    simpa using this
  | true =>
    obtain ⟨s', fl, hr0, hk⟩ := runOps_run C ops.toList kp k ops.toList 0 s [] hrun
    simp only [List.reverse_nil, List.nil_append] at hk
    obtain ⟨h1, h2⟩ := indepAll_spec (hind rfl s' fl hk)
    refine wp_region_any hm ?_
    have hr := runAll_runI C ops.toList ops.toList 0 s.abs s'.abs fl (fun k => fl.getD k ([], [])) rfl hr0 (fun k => by simp)
    have := any_sound (Q := Q) hT hS hdst (fs := fun k => fl.getD k ([], [])) h1 (fun j i hij hj => h2 j i hij (by simpa using hj)) (fun a' Ω' h' => hQ s' fl a' Ω' hk h') ops.size (List.range' 0 ops.toList.length)
      (Array.replicate ops.size false) s.abs a ⟨Ω.e, Ω.w.drew, Ω.pub⟩ (by simp) (by simp) (fun i hi => by simp [Array.getD_eq_getD_getElem?, hi, List.mem_range'])
      (List.pairwise_lt_range') (fun i hi => by simp [List.mem_range'] at hi; omega)
      (fun i o ho hl => by
        have hi : i < ops.size := by
          rw [Array.getElem?_toList] at ho
          rcases Nat.lt_or_ge i ops.size with k | k
          · exact k
          · rw [Array.getElem?_eq_none k] at ho; cases ho
        simp [Array.getD_eq_getD_getElem?, hi] at hl) hr h.drew
    exact this
end
end Go.AL
