/-
  What is the same both ways is the same; what is below goes on; the changes there and back, and by way of a third. No condition.
-/
import Derived.Test.YtjemjblnddfdbaaGreatPj
import Derived.Sort.Walk0
set_option linter.unusedVariables false
set_option linter.unusedSimpArgs false
set_option linter.unnecessarySimpa false
set_option linter.deprecated false
namespace Go.Pd
open Go.AL

/-! ### In order -/
theorem nameAt_sorted (names : List Str) (xs : List Int) : (sortIdx names xs).Pairwise fun i j => nameAt names i ≤ nameAt names j := by
  have := List.pairwise_mergeSort (le := fun i j => decide (nameAt names i ≤ nameAt names j)) (by
    intro a b c h1 h2
    simp only [decide_eq_true_eq] at h1 h2 ⊢
    exact List.le_trans h1 h2) (by
    intro a b
    simp only [Bool.or_eq_true, decide_eq_true_eq]
    exact List.le_total _ _) xs
  exact this.imp fun h => by simpa using h
theorem ord_names {s : Shape} (h : sortedS s = s) : s.names.Pairwise (· ≤ ·) := by
  obtain ⟨k, p, n, ns, ps⟩ := s
  simp only [sortedS, Shape.mk.injEq, true_and] at h
  obtain ⟨h, _⟩ := h
  show ns.Pairwise _
  split at h
  · rw [← h]; exact List.Pairwise.nil
  · rename_i hne
    rw [← h]
    unfold places
    rw [if_neg hne, List.pairwise_map]
    exact nameAt_sorted _ _
theorem ord_places {s : Shape} (ho : sortedS s = s) (h : s.names = [] ∨ s.names.length = s.parts.length ∧ s.names.Nodup) : places s = rangeI s.parts.length := by
  unfold places
  split
  · rfl
  · rename_i hne
    rcases h with h | ⟨h1, h2⟩
    · exact absurd h hne
    have hs := ord_names ho
    refine (sortIdx_eq h2 (fun x hx => ?_) (.refl _) ?_).symm
    · rw [h1]; exact mem_rangeI.1 hx
    · rw [← h1]
      unfold rangeI
      rw [List.pairwise_map]
      refine List.Pairwise.imp_of_mem ?_ (List.pairwise_lt_range (n := s.names.length))
      intro i j hi hj hij
      have hi := List.mem_range.1 hi
      have hj := List.mem_range.1 hj
      unfold nameAt
      simp only [Int.toNat_natCast, List.getD_eq_getElem?_getD, List.getElem?_eq_getElem hi, List.getElem?_eq_getElem hj, Option.getD_some]
      exact List.pairwise_iff_getElem.1 hs i j hi hj hij
theorem sortedL_fix : ∀ {l : List Shape}, sortedL l = l → ∀ {p : Shape}, p ∈ l → sortedS p = p
  | a :: r, h, p, hp => by
    simp only [sortedL, List.cons.injEq] at h
    rcases List.mem_cons.1 hp with rfl | hp
    · exact h.1
    · exact sortedL_fix h.2 hp
theorem ord_parts {s : Shape} (ho : sortedS s = s) (h : s.names = [] ∨ s.names.length = s.parts.length ∧ s.names.Nodup) {p : Shape} (hp : p ∈ s.parts) : sortedS p = p := by
  have hpl := ord_places ho h
  obtain ⟨k, pk, n, ns, ps⟩ := s
  simp only [sortedS, Shape.mk.injEq, true_and] at ho
  obtain ⟨_, ho⟩ := ho
  refine sortedL_fix (l := ps) ?_ hp
  rw [hpl] at ho
  have e := map_range_getD (sortedL ps) dflS
  rw [sortedL_length] at e
  exact e.symm.trans ho
theorem fits_parts {s : Shape} (h : fitsF s = true) : s.names = [] ∨ s.names.length = s.parts.length ∧ s.names.Nodup := by
  have := fits_orderly h
  unfold orderly at this
  simpa using this

/-! ### Parts of the same name -/
theorem partGo_inv : ∀ {ns : List Str} {ps : List Shape} {m : Str} {y : Shape}, partGo ns ps m = some y → ∃ i, i < ns.length ∧ i < ps.length ∧ ns.getD i [] = m ∧ ps.getD i dflS = y
  | [], ps, m, y, h => by cases ps <;> simp [partGo] at h
  | a :: r, [], m, y, h => by simp [partGo] at h
  | a :: r, p :: q, m, y, h => by
    simp only [partGo] at h
    split at h
    · rename_i e
      exact ⟨0, by simp, by simp, e, Option.some.inj h⟩
    · obtain ⟨i, h1, h2, h3, h4⟩ := partGo_inv h
      exact ⟨i + 1, by simp; omega, by simp; omega, h3, h4⟩
theorem partGo_at : ∀ {ns : List Str} {ps : List Shape} {i : Nat}, ns.Nodup → ns.length = ps.length → i < ns.length → partGo ns ps (ns.getD i []) = some (ps.getD i dflS)
  | a :: r, p :: q, 0, _, _, _ => by simp [partGo]
  | a :: r, p :: q, i + 1, hn, hl, hi => by
    obtain ⟨h1, h2⟩ := List.nodup_cons.1 hn
    have hi' : i < r.length := by simpa using hi
    simp only [partGo, List.getD_cons_succ]
    rw [if_neg ?_, partGo_at h2 (by simpa using hl) hi']
    intro e
    rw [e] at h1
    exact h1 (getD_mem r i [] hi')
theorem withinL_iff {F : Shape → Shape → Bool} {o : Shape} : ∀ {ns : List Str} {ps : List Shape}, ns.length = ps.length →
    (withinL F o ns ps = true ↔ ∀ i, i < ns.length → ∃ x, partOf o (ns.getD i []) = some x ∧ F (ps.getD i dflS) x = true)
  | [], [], _ => by simp [withinL]
  | n :: r, p :: q, h => by
    have ih := withinL_iff (F := F) (o := o) (ns := r) (ps := q) (by simpa using h)
    simp only [withinL, Bool.and_eq_true]
    rw [ih]
    constructor
    · rintro ⟨h1, h2⟩ i hi
      cases i with
      | zero =>
        simp only [List.getD_cons_zero]
        cases e : partOf o n with
        | none => rw [e] at h1; cases h1
        | some x => rw [e] at h1; exact ⟨x, rfl, h1⟩
      | succ i => exact h2 i (by simpa using hi)
    · intro hh
      refine ⟨?_, fun i hi => hh (i + 1) (by simpa using hi)⟩
      obtain ⟨x, h1, h2⟩ := hh 0 (by simp)
      simp only [List.getD_cons_zero] at h1 h2
      rw [h1]
      exact h2
theorem partOf_mem {o : Shape} {m : Str} {x : Shape} (h : partOf o m = some x) : m ∈ o.names ∧ x ∈ o.parts := by
  obtain ⟨i, h1, h2, h3, h4⟩ := partGo_inv h
  exact ⟨h3 ▸ getD_mem _ _ _ h1, h4 ▸ getD_mem _ _ _ h2⟩
theorem within_names {F : Shape → Shape → Bool} {o : Shape} {ns : List Str} {ps : List Shape} (hl : ns.length = ps.length) (h : withinL F o ns ps = true) {m : Str} (hm : m ∈ ns) : m ∈ o.names := by
  obtain ⟨i, hi, e⟩ := List.getElem_of_mem hm
  obtain ⟨x, h1, _⟩ := (withinL_iff hl).1 h i hi
  have : ns.getD i [] = m := by rw [List.getD_eq_getElem?_getD, List.getElem?_eq_getElem hi]; exact e
  rw [this] at h1
  exact (partOf_mem h1).1

/-! ### Below, both ways -/
theorem funL_anti {F : Shape → Shape → Bool} : ∀ {us vs : List Shape}, funL F us vs = true → funL F vs us = true → (∀ p ∈ us, ∀ q ∈ vs, F p q = true → F q p = true → p = q) → us = vs
  | [], [], _, _, _ => rfl
  | [], _ :: _, h, _, _ => by simp [funL] at h
  | [p], [], h, _, _ => by simp [funL] at h
  | p :: p' :: r, [], h, _, _ => by simp [funL] at h
  | [p], [q], h, k, hh => by
    simp only [funL] at h k
    rw [hh p (by simp) q (by simp) h k]
  | [p], q :: q' :: s, h, _, _ => by simp [funL] at h
  | p :: p' :: r, [q], h, _, _ => by simp [funL] at h
  | p :: p' :: r, q :: q' :: s, h, k, hh => by
    simp only [funL, Bool.and_eq_true] at h k
    rw [hh p (by simp) q (by simp) k.1 h.1, funL_anti (us := p' :: r) (vs := q' :: s) h.2 k.2 fun x hx y hy => hh x (List.mem_cons_of_mem _ hx) y (List.mem_cons_of_mem _ hy)]
theorem funL_trans {F : Shape → Shape → Bool} : ∀ {us vs ws : List Shape}, funL F us vs = true → funL F vs ws = true →
    (∀ p ∈ us, ∀ q ∈ vs, ∀ r ∈ ws, (F p q = true → F q r = true → F p r = true) ∧ (F r q = true → F q p = true → F r p = true)) → funL F us ws = true
  | [], [], [], _, _, _ => rfl
  | [], [], _ :: _, _, h, _ => by simp [funL] at h
  | [], _ :: _, _, h, _, _ => by simp [funL] at h
  | [p], [], _, h, _, _ => by simp [funL] at h
  | p :: p' :: r, [], _, h, _, _ => by simp [funL] at h
  | [p], q :: q' :: s, _, h, _, _ => by simp [funL] at h
  | p :: p' :: r, [q], _, h, _, _ => by simp [funL] at h
  | [p], [q], [], _, h, _ => by simp [funL] at h
  | [p], [q], w :: w' :: t, _, h, _ => by simp [funL] at h
  | [p], [q], [w], h, k, hh => by
    simp only [funL] at h k ⊢
    exact (hh p (by simp) q (by simp) w (by simp)).1 h k
  | p :: p' :: r, q :: q' :: s, [], _, h, _ => by simp [funL] at h
  | p :: p' :: r, q :: q' :: s, [w], _, h, _ => by simp [funL] at h
  | p :: p' :: r, q :: q' :: s, w :: w' :: t, h, k, hh => by
    simp only [funL, Bool.and_eq_true] at h k ⊢
    exact ⟨(hh p (by simp) q (by simp) w (by simp)).2 k.1 h.1,
      funL_trans (us := p' :: r) (vs := q' :: s) (ws := w' :: t) h.2 k.2 fun x hx y hy z hz => hh x (List.mem_cons_of_mem _ hx) y (List.mem_cons_of_mem _ hy) z (List.mem_cons_of_mem _ hz)⟩
theorem under_head {n : Nat} {a b : Shape} (h : under (n + 1) a b = true) : a.kind = b.kind ∧ a.pkg = b.pkg ∧ a.name = b.name ∧
    (if a.kind = 6 then withinL (fun p x => under n x p) a b.names b.parts else if a.kind = 7 then withinL (under n) b a.names a.parts else funL (under n) a.parts b.parts) = true := by
  simp only [under, Bool.and_eq_true, decide_eq_true_eq] at h
  exact ⟨h.1.1.1, h.1.1.2, h.1.2, h.2⟩
theorem fits_plain {s : Shape} (h : fitsF s = true) (h6 : s.kind ≠ 6) (h7 : s.kind ≠ 7) : s.names = [] := by
  have hk := fits_kind h
  have : s.kind = 1 ∨ s.kind = 2 ∨ s.kind = 3 ∨ s.kind = 4 ∨ s.kind = 5 ∨ s.kind = 8 ∨ s.kind = 9 ∨ s.kind = 10 := by omega
  rcases this with e | e | e | e | e | e | e | e
  · exact (fits_prim h (by omega)).2.1
  · exact (fits_prim h (by omega)).2.1
  · exact (fits_prim h (by omega)).2.1
  · exact (fits_prim h (by omega)).2.1
  · exact (fits_list h e).2.1
  · exact (fits_fun h e).2.1
  · exact (fits_ref h (by omega)).2
  · exact (fits_ref h (by omega)).2
theorem parts_ext {ps qs : List Shape} (hl : ps.length = qs.length) (h : ∀ i, i < ps.length → ps.getD i dflS = qs.getD i dflS) : ps = qs := by
  apply List.ext_getElem hl
  intro i h1 h2
  have := h i h1
  simpa [List.getD_eq_getElem?_getD, h1, h2] using this
theorem names_same {a b : Shape} (ha : a.names.Nodup) (hb : b.names.Nodup) (oa : a.names.Pairwise (· ≤ ·)) (ob : b.names.Pairwise (· ≤ ·)) (h : ∀ x, x ∈ a.names ↔ x ∈ b.names) : a.names = b.names :=
  sorted_perm_eq (nodup_perm ha hb h) oa ob
/-- What is below both ways is the same. -/
theorem under_anti : ∀ (n : Nat) (a b : Shape), allS fitsF a = true → allS fitsF b = true → sortedS a = a → sortedS b = b → under n a b = true → under n b a = true → a = b
  | 0, _, _, _, _, _, _, h, _ => by simp [under] at h
  | n + 1, a, b, fa, fb, oa, ob, h, k => by
    obtain ⟨h1, h2, h3, h4⟩ := under_head h
    obtain ⟨_, _, _, k4⟩ := under_head k
    obtain ⟨fa, la⟩ := allS_at fa
    obtain ⟨fb, lb⟩ := allS_at fb
    have ih : ∀ p ∈ a.parts, ∀ q ∈ b.parts, under n p q = true → under n q p = true → p = q := fun p hp q hq =>
      under_anti n p q (allL_mem la hp) (allL_mem lb hq) (ord_parts oa (fits_parts fa) hp) (ord_parts ob (fits_parts fb) hq)
    have hns : a.names = b.names ∧ a.parts = b.parts := by
      by_cases e67 : a.kind = 6 ∨ a.kind = 7
      · obtain ⟨na, da, _⟩ := fits_named fa e67
        obtain ⟨nb, db, _⟩ := fits_named fb (by omega)
        have key : ∀ {F G : Shape → Shape → Bool}, withinL F a b.names b.parts = true → withinL G b a.names a.parts = true →
            (∀ p ∈ a.parts, ∀ q ∈ b.parts, F q p = true → G p q = true → p = q) → a.names = b.names ∧ a.parts = b.parts := by
          intro F G hF hG hih
          have hn : a.names = b.names := names_same da db (ord_names oa) (ord_names ob) fun x => ⟨fun hx => within_names na hG hx, fun hx => within_names nb hF hx⟩
          refine ⟨hn, parts_ext (by rw [← na, ← nb, hn]) fun i hi => ?_⟩
          have hi' : i < a.names.length := by omega
          have hib : i < b.names.length := by rw [← hn]; exact hi'
          obtain ⟨x, x1, x2⟩ := (withinL_iff nb).1 hF i hib
          obtain ⟨y, y1, y2⟩ := (withinL_iff na).1 hG i hi'
          have ex := partGo_at (ns := a.names) (ps := a.parts) (i := i) da na hi'
          have ey := partGo_at (ns := b.names) (ps := b.parts) (i := i) db nb hib
          rw [← hn] at x1
          unfold partOf at x1 y1
          rw [hn] at y1
          rw [ex] at x1
          rw [ey] at y1
          cases x1
          cases y1
          exact hih _ (getD_mem _ _ _ (by omega)) _ (getD_mem _ _ _ (by omega)) x2 y2
        rcases e67 with e | e
        · rw [if_pos e] at h4
          rw [if_pos (h1 ▸ e)] at k4
          exact key h4 k4 fun p hp q hq u v => ih p hp q hq u v
        · rw [if_neg (by omega), if_pos e] at h4
          rw [if_neg (by omega), if_pos (h1 ▸ e)] at k4
          exact key k4 h4 fun p hp q hq u v => ih p hp q hq v u
      · rw [if_neg (by omega), if_neg (by omega)] at h4 k4
        refine ⟨?_, funL_anti h4 k4 ih⟩
        rw [fits_plain fa (by omega) (by omega), fits_plain fb (by omega) (by omega)]
    obtain ⟨ka, pa, na, nsa, psa⟩ := a
    obtain ⟨kb, pb, nb, nsb, psb⟩ := b
    simp only at h1 h2 h3 hns
    rw [h1, h2, h3, hns.1, hns.2]
/-- What is below what is below. -/
theorem under_trans : ∀ (n : Nat) (a b c : Shape), allS fitsF a = true → allS fitsF b = true → allS fitsF c = true → under n a b = true → under n b c = true → under n a c = true
  | 0, _, _, _, _, _, _, h, _ => by simp [under] at h
  | n + 1, a, b, c, fa, fb, fc, h, k => by
    obtain ⟨h1, h2, h3, h4⟩ := under_head h
    obtain ⟨k1, k2, k3, k4⟩ := under_head k
    obtain ⟨fa, la⟩ := allS_at fa
    obtain ⟨fb, lb⟩ := allS_at fb
    obtain ⟨fc, lc⟩ := allS_at fc
    simp only [under, Bool.and_eq_true, decide_eq_true_eq]
    refine ⟨⟨⟨h1.trans k1, h2.trans k2⟩, h3.trans k3⟩, ?_⟩
    by_cases e6 : a.kind = 6
    · rw [if_pos e6] at h4 ⊢
      rw [if_pos (h1 ▸ e6)] at k4
      obtain ⟨nb, _⟩ := fits_named fb (by omega)
      obtain ⟨nc, _⟩ := fits_named fc (by omega)
      refine (withinL_iff nc).2 fun i hi => ?_
      obtain ⟨y, y1, y2⟩ := (withinL_iff nc).1 k4 i hi
      obtain ⟨j, j1, j2, j3, j4⟩ := partGo_inv y1
      obtain ⟨x, x1, x2⟩ := (withinL_iff nb).1 h4 j j1
      rw [j3] at x1
      rw [j4] at x2
      exact ⟨x, x1, under_trans n x y _ (allL_mem la (partOf_mem x1).2) (allL_mem lb (partOf_mem y1).2) (allL_mem lc (getD_mem _ _ _ (by omega))) x2 y2⟩
    · rw [if_neg e6] at h4 ⊢
      rw [if_neg (h1 ▸ e6)] at k4
      by_cases e7 : a.kind = 7
      · rw [if_pos e7] at h4 ⊢
        rw [if_pos (h1 ▸ e7)] at k4
        obtain ⟨na, _⟩ := fits_named fa (by omega)
        obtain ⟨nb, _⟩ := fits_named fb (by omega)
        refine (withinL_iff na).2 fun i hi => ?_
        obtain ⟨y, y1, y2⟩ := (withinL_iff na).1 h4 i hi
        obtain ⟨j, j1, j2, j3, j4⟩ := partGo_inv y1
        obtain ⟨x, x1, x2⟩ := (withinL_iff nb).1 k4 j j1
        rw [j3] at x1
        rw [j4] at x2
        exact ⟨x, x1, under_trans n _ y x (allL_mem la (getD_mem _ _ _ (by omega))) (allL_mem lb (partOf_mem y1).2) (allL_mem lc (partOf_mem x1).2) y2 x2⟩
      · rw [if_neg e7] at h4 ⊢
        rw [if_neg (h1 ▸ e7)] at k4
        exact funL_trans h4 k4 fun p hp q hq r hr => ⟨under_trans n p q r (allL_mem la hp) (allL_mem lb hq) (allL_mem lc hr), under_trans n r q p (allL_mem lc hr) (allL_mem lb hq) (allL_mem la hp)⟩

theorem belowS_trans {a b c : Shape} (h : belowS a b = true) (k : belowS b c = true) : belowS a c = true := by
  unfold belowS at h k ⊢
  simp only [Bool.and_eq_true, decide_eq_true_eq] at h k ⊢
  exact ⟨⟨h.1.1, k.1.2⟩, under_trans 800 a b c (checkS_zero h.1.1).2.2 (checkS_zero h.1.2).2.2 (checkS_zero k.1.2).2.2 h.2 k.2⟩
theorem belowS_anti {a b : Shape} (oa : sortedS a = a) (ob : sortedS b = b) (h : belowS a b = true) (k : belowS b a = true) : a = b := by
  unfold belowS at h k
  simp only [Bool.and_eq_true, decide_eq_true_eq] at h k
  exact under_anti 800 a b (checkS_zero h.1.1).2.2 (checkS_zero h.1.2).2.2 oa ob h.2 k.2
theorem sameS_comm (a b : Shape) : sameS a b = sameS b a := by
  unfold sameS
  have : eqS (sortedS a) (sortedS b) = eqS (sortedS b) (sortedS a) := by
    rw [Bool.eq_iff_iff]
    exact ⟨fun h => by rw [eqS_eq h]; exact eqS_refl _, fun h => by rw [eqS_eq h]; exact eqS_refl _⟩
  rw [this, Bool.and_comm (decide (checkS a = 0))]
theorem sameS_refl {a : Shape} (h : checkS a = 0) : sameS a a = true := by
  unfold sameS
  rw [eqS_refl]
  simp [h]
theorem sameS_eq {a b : Shape} (oa : sortedS a = a) (ob : sortedS b = b) (h : sameS a b = true) : a = b := by
  unfold sameS at h
  simp only [Bool.and_eq_true] at h
  have := eqS_eq h.2
  rwa [oa, ob] at this

/-! ### Items that may be -/
theorem ok_shape {x : AL.Item} (h : itemF x = true) (hk : x.kind = 1 ∨ x.kind = 3) : checkS x.shape = 0 ∧ sortedS x.shape = x.shape := by
  have hc : closedS x.shape = true ∧ eqS (sortS' x.shape) x.shape = true := by
    unfold itemF at h
    rw [if_neg (by omega)] at h
    split at h
    · simp only [Bool.and_eq_true] at h; exact h.2
    · split at h
      · simp only [Bool.and_eq_true] at h; exact h.2
      · cases h
  have h0 : checkS x.shape = 0 := by
    have := hc.1
    unfold closedS at this
    simp only [Bool.and_eq_true, decide_eq_true_eq] at this
    exact this.1
  have h1 := eqS_eq hc.2
  unfold sortS' at h1
  rw [if_pos h0] at h1
  exact ⟨h0, h1⟩
theorem ifaceGo_ok : ∀ {l : List AL.Item} {p : Option Str}, ifaceGo l p = true → ∀ {x : AL.Item}, x ∈ l → itemF x = true
  | a :: r, p, h, x, hx => by
    simp only [ifaceGo, Bool.and_eq_true] at h
    rcases List.mem_cons.1 hx with rfl | hx
    · exact h.1.1
    · exact ifaceGo_ok h.2 hx
theorem ifaceF_ok {l : List AL.Item} (h : ifaceF l = 0) {x : AL.Item} (hx : x ∈ l) : itemF x = true := by
  unfold ifaceF at h
  split at h
  · cases h
  · split at h
    · rename_i e
      exact ifaceGo_ok e hx
    · cases h
theorem itemOf_mem : ∀ {l : List AL.Item} {n : Str} {x : AL.Item}, itemOf l n = some x → x ∈ l
  | a :: r, n, x, h => by
    simp only [itemOf] at h
    split at h
    · cases h; simp
    · exact List.mem_cons_of_mem _ (itemOf_mem h)

/-! ### Kinds of changes -/
theorem kind_self {x : AL.Item} (h : itemF x = true) : kindF x x = 0 := by
  unfold kindF
  rw [if_neg (by simp)]
  by_cases hk : x.kind = 1 ∨ x.kind = 3
  · rw [if_pos (Or.inr (sameS_refl (ok_shape h hk).1))]
  · rw [if_pos (Or.inl (by omega))]
theorem kind_zero (x y : AL.Item) : kindF x y = 0 ↔ x.kind = y.kind ∧ ((x.kind ≠ 1 ∧ x.kind ≠ 3) ∨ sameS x.shape y.shape = true) := by
  unfold kindF
  by_cases e : x.kind = y.kind
  · rw [if_neg (by simpa using e)]
    by_cases e2 : (x.kind ≠ 1 ∧ x.kind ≠ 3) ∨ sameS x.shape y.shape = true
    · rw [if_pos e2]; exact ⟨fun _ => ⟨e, e2⟩, fun _ => rfl⟩
    · rw [if_neg e2]
      constructor
      · intro h; split at h <;> cases h
      · exact fun h => absurd h.2 e2
  · rw [if_pos e]
    constructor
    · intro h; cases h
    · exact fun h => absurd h.1 e
theorem kind_three (x y : AL.Item) : kindF x y = 3 ↔ x.kind ≠ y.kind := by
  unfold kindF
  by_cases e : x.kind = y.kind
  · rw [if_neg (by simpa using e)]
    constructor
    · intro h
      split at h
      · cases h
      · split at h <;> cases h
    · exact fun h => absurd e h
  · rw [if_pos e]; exact ⟨fun _ => e, fun _ => rfl⟩
theorem kind_of (x y : AL.Item) : kindF x y = 0 ∨ kindF x y = 3 ∨ kindF x y = 4 ∨ kindF x y = 5 := by
  unfold kindF
  repeat' split
  all_goals omega
theorem kind_zero_comm (x y : AL.Item) : kindF x y = 0 ↔ kindF y x = 0 := by
  rw [kind_zero, kind_zero, sameS_comm]
  constructor
  · rintro ⟨e, h⟩; exact ⟨e.symm, by rw [← e]; exact h⟩
  · rintro ⟨e, h⟩; exact ⟨e.symm, by rw [← e]; exact h⟩
theorem kind_three_comm (x y : AL.Item) : kindF x y = 3 ↔ kindF y x = 3 := by
  rw [kind_three, kind_three]
  exact ⟨Ne.symm, Ne.symm⟩
theorem kind_five {x y : AL.Item} (h : kindF x y = 5) : x.kind = y.kind ∧ x.kind = 3 ∧ sameS x.shape y.shape = false ∧ belowS y.shape x.shape = true := by
  unfold kindF at h
  split at h
  · cases h
  rename_i e
  split at h
  · cases h
  rename_i e2
  split at h
  · rename_i e3
    refine ⟨by simpa using e, e3.1, ?_, e3.2⟩
    cases hs : sameS x.shape y.shape
    · rfl
    · exact absurd (Or.inr hs) e2
  · cases h
theorem kind_back {x y : AL.Item} (hx : itemF x = true) (hy : itemF y = true) (h : kindF x y = 5) : kindF y x = 4 := by
  obtain ⟨e, e3, hs, hb⟩ := kind_five h
  rcases kind_of y x with k | k | k | k
  · rw [← kind_zero_comm, h] at k; cases k
  · rw [← kind_three_comm, h] at k; cases k
  · exact k
  · obtain ⟨_, _, _, hb'⟩ := kind_five k
    obtain ⟨c1, o1⟩ := ok_shape hx (Or.inr e3)
    obtain ⟨c2, o2⟩ := ok_shape hy (Or.inr (e ▸ e3))
    have := belowS_anti o2 o1 hb hb'
    rw [this, sameS_refl c1] at hs
    cases hs

/-! ### Classes -/
def cl (k : Int) : Int := if k = 2 ∨ k = 3 ∨ k = 4 then 2 else if k = 1 ∨ k = 5 then 1 else 0
theorem cl_bd (k : Int) : 0 ≤ cl k ∧ cl k ≤ 2 := by unfold cl; repeat' split
                                                    all_goals omega
theorem classGo_spec : ∀ (l : List Change) (c : Int), 0 ≤ c → c ≤ 1 → c ≤ classGo l c ∧ classGo l c ≤ 2 ∧ (∀ x ∈ l, cl x.kind ≤ classGo l c) ∧ ∀ m, c ≤ m → (∀ x ∈ l, cl x.kind ≤ m) → classGo l c ≤ m
  | [], c, _, h => ⟨Int.le_refl _, by simp only [classGo]; omega, by simp, fun m hm _ => hm⟩
  | a :: r, c, h0, h1 => by
    simp only [classGo]
    split
    · rename_i e
      have : cl a.kind = 2 := by unfold cl; rw [if_pos e]
      exact ⟨by omega, by omega, fun x _ => (cl_bd _).2, fun m _ hm => by rw [← this]; exact hm a (by simp)⟩
    · rename_i e
      split
      · rename_i e2
        have : cl a.kind = 1 := by unfold cl; rw [if_neg e, if_pos e2]
        obtain ⟨i1, i2, i3, i4⟩ := classGo_spec r 1 (by omega) (by omega)
        refine ⟨by omega, i2, fun x hx => ?_, fun m hm hh => i4 m (by rw [← this]; exact hh a (by simp)) fun x hx => hh x (List.mem_cons_of_mem _ hx)⟩
        rcases List.mem_cons.1 hx with rfl | hx
        · omega
        · exact i3 x hx
      · rename_i e2
        have : cl a.kind = 0 := by unfold cl; rw [if_neg e, if_neg e2]
        obtain ⟨i1, i2, i3, i4⟩ := classGo_spec r c h0 h1
        refine ⟨i1, i2, fun x hx => ?_, fun m hm hh => i4 m hm fun x hx => hh x (List.mem_cons_of_mem _ hx)⟩
        rcases List.mem_cons.1 hx with rfl | hx
        · omega
        · exact i3 x hx

/-! ### Changes between interfaces -/
theorem diffGo_eq (old now : List AL.Item) : ∀ N : List Str, diffGo old now N = (N.filter fun n => decide (changeF old now n ≠ 0)).map fun n => ⟨changeF old now n, n⟩
  | [] => rfl
  | n :: r => by
    simp only [diffGo]
    rw [diffGo_eq old now r, List.filter_cons]
    by_cases h : changeF old now n = 0
    · rw [if_neg (by simp [h]), if_neg (by simp [h])]
    · rw [if_pos h, if_pos (by simp [h])]; rfl
theorem mem_namesU {a b : List AL.Item} {n : Str} : n ∈ namesU a b ↔ n ∈ a.map (·.name) ∨ n ∈ b.map (·.name) := by
  unfold namesU sortS
  rw [(List.mergeSort_perm _ _).mem_iff, mem_uniq, List.map_append, List.mem_append]
theorem namesU_comm (a b : List AL.Item) : namesU a b = namesU b a := by
  unfold namesU
  refine sortS_perm (nodup_perm (uniq_nodup _) (uniq_nodup _) fun x => ?_)
  rw [mem_uniq, mem_uniq, List.map_append, List.map_append, List.mem_append, List.mem_append]
  exact Or.comm
theorem change_none {a b : List AL.Item} {n : Str} (h : n ∈ namesU a b) : ¬ (itemOf a n = none ∧ itemOf b n = none) := by
  rintro ⟨h1, h2⟩
  rw [itemOf_none] at h1 h2
  rcases mem_namesU.1 h with h | h
  · exact h1 h
  · exact h2 h
/-- From an interface to itself. -/
theorem diff_self {a : List AL.Item} (h : ifaceF a = 0) : diffF a a = [] := by
  unfold diffF
  rw [diffGo_eq]
  have : (namesU a a).filter (fun n => decide (changeF a a n ≠ 0)) = [] := by
    rw [List.filter_eq_nil_iff]
    intro n hn
    simp only [decide_eq_true_eq, Classical.not_not]
    have hc := change_none hn
    unfold changeF
    cases e : itemOf a n with
    | none => exact absurd ⟨e, e⟩ hc
    | some x => exact kind_self (ifaceF_ok h (itemOf_mem e))
  rw [this]; rfl
/-- What there is, there and back. -/
theorem change_back {a b : List AL.Item} (ha : ifaceF a = 0) (hb : ifaceF b = 0) {n : Str} (hn : n ∈ namesU a b) :
    (changeF a b n = 0 ↔ changeF b a n = 0) ∧ (changeF a b n = 1 ↔ changeF b a n = 2) ∧ (changeF a b n = 2 ↔ changeF b a n = 1) ∧ (changeF a b n = 3 ↔ changeF b a n = 3) ∧ (changeF a b n = 5 → changeF b a n = 4) := by
  have hc := change_none hn
  unfold changeF
  cases ea : itemOf a n with
  | none =>
    cases eb : itemOf b n with
    | none => exact absurd ⟨ea, eb⟩ hc
    | some y => simp
  | some x =>
    cases eb : itemOf b n with
    | none => simp
    | some y =>
      simp only
      have h1 := kind_of x y
      have h2 := kind_of y x
      refine ⟨kind_zero_comm x y, by omega, by omega, kind_three_comm x y, kind_back (ifaceF_ok ha (itemOf_mem ea)) (ifaceF_ok hb (itemOf_mem eb))⟩
theorem lt_of_sorted {l : List Str} (hs : l.Pairwise (· ≤ ·)) (hn : l.Nodup) : l.Pairwise (· < ·) := by
  refine (List.pairwise_and_iff.2 ⟨hs, hn⟩).imp ?_
  rintro a b ⟨h1, h2⟩
  refine Classical.byContradiction fun h => h2 (List.le_antisymm h1 (List.not_lt.1 h))
theorem namesU_lt (a b : List AL.Item) : (namesU a b).Pairwise (· < ·) :=
  lt_of_sorted (sortS_sorted _) ((List.mergeSort_perm _ _).nodup_iff.2 (uniq_nodup _))
/-- The changes there and back stand side by side. -/
theorem diff_back {a b : List AL.Item} (ha : ifaceF a = 0) (hb : ifaceF b = 0) : ∃ N : List Str, N.Pairwise (· < ·) ∧ (∀ n ∈ N, n ∈ namesU a b) ∧ diffF a b = N.map (fun n => ⟨changeF a b n, n⟩) ∧ diffF b a = N.map (fun n => ⟨changeF b a n, n⟩) := by
  refine ⟨(namesU a b).filter fun n => decide (changeF a b n ≠ 0), (namesU_lt a b).filter _, fun n hn => (List.mem_filter.1 hn).1, ?_, ?_⟩
  · unfold diffF; rw [diffGo_eq]
  · unfold diffF
    rw [diffGo_eq, namesU_comm b a]
    congr 1
    refine List.filter_congr fun n hn => ?_
    rw [decide_eq_decide]
    exact not_congr (change_back ha hb hn).1.symm

/-! ### By way of a third -/
theorem kind_chain {x y z : AL.Item} (hx : itemF x = true) (hy : itemF y = true) (hz : itemF z = true) : cl (kindF x z) ≤ max (cl (kindF x y)) (cl (kindF y z)) := by
  have b1 := (cl_bd (kindF x z)).2
  have c3 : cl 3 = 2 := by decide
  have c4 : cl 4 = 2 := by decide
  have c5 : cl 5 = 1 := by decide
  have c0 : cl 0 = 0 := by decide
  by_cases e1 : kindF x y = 3
  · rw [e1, c3]; omega
  by_cases e2 : kindF y z = 3
  · rw [e2, c3]; omega
  by_cases e3 : kindF x y = 4
  · rw [e3, c4]; omega
  by_cases e4 : kindF y z = 4
  · rw [e4, c4]; omega
  have k1 : x.kind = y.kind := by rw [kind_three] at e1; simpa using e1
  have k2 : y.kind = z.kind := by rw [kind_three] at e2; simpa using e2
  by_cases hk : x.kind = 1 ∨ x.kind = 3
  · obtain ⟨cx, ox⟩ := ok_shape hx hk
    obtain ⟨cy, oy⟩ := ok_shape hy (k1 ▸ hk)
    obtain ⟨cz, oz⟩ := ok_shape hz (k2 ▸ k1 ▸ hk)
    rcases kind_of x y with p | p | p | p
    · have hs := ((kind_zero x y).1 p).2
      have he : x.shape = y.shape := sameS_eq ox oy (by rcases hs with h | h; · omega
                                                        · exact h)
      have : kindF x z = kindF y z := by unfold kindF; rw [k1, he]
      rw [this]; omega
    · exact absurd p e1
    · exact absurd p e3
    · rcases kind_of y z with q | q | q | q
      · have hs := ((kind_zero y z).1 q).2
        have he : y.shape = z.shape := sameS_eq oy oz (by rcases hs with h | h; · omega
                                                          · exact h)
        have : kindF x z = kindF x y := by unfold kindF; rw [k2, he]
        rw [this]; omega
      · exact absurd q e2
      · exact absurd q e4
      · obtain ⟨_, p3, _, pb⟩ := kind_five p
        obtain ⟨_, _, _, qb⟩ := kind_five q
        have hb := belowS_trans qb pb
        have : kindF x z = 0 ∨ kindF x z = 5 := by
          unfold kindF
          rw [if_neg (by rw [k1, k2]; simp)]
          split
          · exact Or.inl rfl
          · rw [if_pos ⟨p3, hb⟩]; exact Or.inr rfl
        rw [p, c5]
        rcases this with h | h
        · rw [h, c0]; omega
        · rw [h, c5]; omega
  · have : kindF x z = 0 := by rw [kind_zero]; exact ⟨k1.trans k2, Or.inl (by omega)⟩
    rw [this, c0]
    have := (cl_bd (kindF x y)).1
    omega
theorem cl_change {a b : List AL.Item} {n : Str} (h : ¬ (itemOf a n = none ∧ itemOf b n = none)) : cl (changeF a b n) ≤ classF (diffF a b) := by
  obtain ⟨i1, _, i3, _⟩ := classGo_spec (diffF a b) 0 (by omega) (by omega)
  by_cases e : changeF a b n = 0
  · rw [e]; exact i1
  · have hn : n ∈ namesU a b := by
      rw [mem_namesU]
      by_cases h1 : n ∈ a.map (·.name)
      · exact Or.inl h1
      · by_cases h2 : n ∈ b.map (·.name)
        · exact Or.inr h2
        · exact absurd ⟨itemOf_none.2 h1, itemOf_none.2 h2⟩ h
    have hm : (⟨changeF a b n, n⟩ : Change) ∈ diffF a b := by
      unfold diffF
      rw [diffGo_eq]
      exact List.mem_map.2 ⟨n, List.mem_filter.2 ⟨hn, by simpa using e⟩, rfl⟩
    exact i3 _ hm
/-- By way of a third interface no class comes up. -/
theorem diff_chain {a b c : List AL.Item} (ha : ifaceF a = 0) (hb : ifaceF b = 0) (hc : ifaceF c = 0) : classF (diffF a c) ≤ max (classF (diffF a b)) (classF (diffF b c)) := by
  obtain ⟨_, _, _, i4⟩ := classGo_spec (diffF a c) 0 (by omega) (by omega)
  have n1 := (classGo_spec (diffF a b) 0 (by omega) (by omega)).1
  refine i4 _ (by unfold classF; omega) fun x hx => ?_
  unfold diffF at hx
  rw [diffGo_eq] at hx
  obtain ⟨n, hn, rfl⟩ := List.mem_map.1 hx
  have hn := (List.mem_filter.1 hn).1
  have hno := change_none hn
  have h1 := cl_change (a := a) (b := b) (n := n)
  have h2 := cl_change (a := b) (b := c) (n := n)
  simp only
  have q1 : cl 1 = 1 := by decide
  have q2 : cl 2 = 2 := by decide
  unfold changeF at h1 h2 ⊢
  cases ea : itemOf a n with
  | none =>
    cases ec : itemOf c n with
    | none => exact absurd ⟨ea, ec⟩ hno
    | some z =>
      cases eb : itemOf b n with
      | none =>
        have := h2 (by simp [ec])
        simp only [eb, ec] at this ⊢
        omega
      | some y =>
        have := h1 (by simp [eb])
        simp only [ea, eb] at this ⊢
        omega
  | some x =>
    cases ec : itemOf c n with
    | none =>
      cases eb : itemOf b n with
      | none =>
        have := h1 (by simp [ea])
        simp only [eb] at this ⊢
        omega
      | some y =>
        have := h2 (by simp [eb])
        simp only [ec] at this ⊢
        omega
    | some z =>
      cases eb : itemOf b n with
      | none =>
        have := h1 (by simp [ea])
        simp only [eb] at this ⊢
        have := (cl_bd (kindF x z)).2
        omega
      | some y =>
        have h1 := h1 (by simp [ea])
        have h2 := h2 (by simp [eb])
        simp only [ea, eb, ec] at h1 h2 ⊢
        have := kind_chain (ifaceF_ok ha (itemOf_mem ea)) (ifaceF_ok hb (itemOf_mem eb)) (ifaceF_ok hc (itemOf_mem ec))
        omega

/-! ### Sizes -/
def szI : List AL.Item → Nat
  | [] => 0
  | x :: r => max (sz x.shape) (szI r)
theorem szI_le : ∀ (l : List AL.Item) (x : AL.Item), x ∈ l → sz x.shape ≤ szI l
  | a :: r, x, h => by
    simp only [szI]
    rcases List.mem_cons.1 h with rfl | h
    · exact Nat.le_max_left _ _
    · exact Nat.le_trans (szI_le r x h) (Nat.le_max_right _ _)

end Go.Pd
