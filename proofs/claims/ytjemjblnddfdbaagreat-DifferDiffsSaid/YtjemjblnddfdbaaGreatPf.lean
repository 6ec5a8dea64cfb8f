/-
  Types below types: what the functions compute. No condition.
-/
import Derived.Test.YtjemjblnddfdbaaGreatPe
set_option linter.unusedVariables false
set_option linter.unusedSimpArgs false
set_option linter.unnecessarySimpa false
set_option linter.deprecated false
namespace Go.Pd
open Go.AL

/-- A map of names, with their numbers; of a name that stands twice the last one. -/
def fieldsFrom : List Str → Int → List (Str × Int) → List (Str × Int)
  | [], _, m => m
  | n :: r, i, m => fieldsFrom r (i + 1) (mset m n i)
def partGo : List Str → List Shape → Str → Option Shape
  | n :: r, p :: q, name => if n = name then some p else partGo r q name
  | _, _, _ => none
def partOf (s : Shape) (name : Str) : Option Shape := partGo s.names s.parts name
def withinL (F : Shape → Shape → Bool) (others : Shape) : List Str → List Shape → Bool
  | n :: r, p :: q => (match partOf others n with | none => false | some x => F p x) && withinL F others r q
  | _, _ => true
def funL (F : Shape → Shape → Bool) : List Shape → List Shape → Bool
  | [], [] => true
  | [p], [q] => F p q
  | p :: r, q :: s => F q p && funL F r s
  | _, _ => false
/-- Is a type below another one? -/
def under : Nat → Shape → Shape → Bool
  | 0, _, _ => false
  | n + 1, a, b =>
    decide (a.kind = b.kind) && decide (a.pkg = b.pkg) && decide (a.name = b.name) &&
      (if a.kind = 6 then withinL (fun p x => under n x p) a b.names b.parts
      else if a.kind = 7 then withinL (under n) b a.names a.parts
      else funL (under n) a.parts b.parts)
def belowS (a b : Shape) : Bool := decide (checkS a = 0) && decide (checkS b = 0) && under 800 a b

theorem fieldsFrom_get : ∀ (l : List Str) (i : Int) (m : List (Str × Int)) (n : Str), l.Nodup → mget (fieldsFrom l i m) n = if n ∈ l then some (i + (l.findIdx (fun x => decide (x = n)) : Int)) else mget m n
  | [], i, m, n, _ => by simp [fieldsFrom]
  | a :: r, i, m, n, h => by
    obtain ⟨h1, h2⟩ := List.nodup_cons.1 h
    simp only [fieldsFrom]
    rw [fieldsFrom_get r (i + 1) (mset m a i) n h2, mget_mset, List.findIdx_cons]
    by_cases e : a = n
    · subst e
      simp [h1]
    · by_cases hn : n ∈ r
      · simp [hn, e, Ne.symm e]; omega
      · simp [hn, Ne.symm e]
theorem partGo_none : ∀ (ns : List Str) (ps : List Shape) (n : Str), ns.length = ps.length → (partGo ns ps n = none ↔ n ∉ ns)
  | [], ps, n, _ => by cases ps <;> simp [partGo]
  | a :: r, [], n, h => by simp at h
  | a :: r, p :: q, n, h => by
    simp only [partGo, List.mem_cons, not_or]
    by_cases e : a = n
    · simp [e]
    · rw [if_neg e, partGo_none r q n (by simpa using h)]
      simp [Ne.symm e]
theorem partGo_some : ∀ (ns : List Str) (ps : List Shape) (n : Str) (d : Shape), ns.length = ps.length → n ∈ ns → partGo ns ps n = some (ps.getD (ns.findIdx (fun x => decide (x = n))) d)
  | [], ps, n, d, _, h => by simp at h
  | a :: r, [], n, d, h, _ => by simp at h
  | a :: r, p :: q, n, d, h, hm => by
    simp only [partGo, List.findIdx_cons]
    by_cases e : a = n
    · simp [e]
    · rw [if_neg e]
      have hm' : n ∈ r := by
        rcases List.mem_cons.1 hm with h | h
        · exact absurd h.symm e
        · exact h
      rw [partGo_some r q n d (by simpa using h) hm']
      simp [e]
theorem partGo_mem : ∀ {ns : List Str} {ps : List Shape} {n : Str} {p : Shape}, partGo ns ps n = some p → p ∈ ps
  | [], ps, n, p, h => by cases ps <;> simp [partGo] at h
  | a :: r, [], n, p, h => by simp [partGo] at h
  | a :: r, b :: q, n, p, h => by
    simp only [partGo] at h
    split at h
    · simp at h; subst h; simp
    · exact List.mem_cons_of_mem _ (partGo_mem h)

/-! ### More steps change nothing -/
theorem withinL_congr {F G : Shape → Shape → Bool} (o : Shape) : ∀ (ns : List Str) (ps : List Shape), (∀ p ∈ ps, ∀ x ∈ o.parts, F p x = G p x) → withinL F o ns ps = withinL G o ns ps
  | [], ps, _ => by cases ps <;> rfl
  | n :: r, [], _ => rfl
  | n :: r, p :: q, h => by
    simp only [withinL]
    rw [withinL_congr o r q fun p hp x hx => h p (List.mem_cons_of_mem _ hp) x hx]
    cases hp : partOf o n with
    | none => rfl
    | some x => simp only [h p (by simp) x (partGo_mem hp)]
theorem funL_congr {F G : Shape → Shape → Bool} : ∀ (us vs : List Shape), (∀ p ∈ us, ∀ q ∈ vs, F p q = G p q ∧ F q p = G q p) → funL F us vs = funL G us vs
  | [], [], _ => rfl
  | [], _ :: _, _ => rfl
  | [p], [q], h => by simp only [funL]; exact (h p (by simp) q (by simp)).1
  | [p], [], _ => rfl
  | p :: p' :: r, [], _ => rfl
  | [p], q :: q' :: s, h => by
    simp only [funL]
    rw [(h p (by simp) q (by simp)).2]
  | p :: p' :: r, [q], h => by
    simp only [funL]
    rw [(h p (by simp) q (by simp)).2]
  | p :: p' :: r, q :: q' :: s, h => by
    simp only [funL]
    rw [(h p (by simp) q (by simp)).2, funL_congr (p' :: r) (q' :: s) fun x hx y hy => h x (List.mem_cons_of_mem _ hx) y (List.mem_cons_of_mem _ hy)]
theorem under_fuel : ∀ (n m : Nat) (a b : Shape), sz a + sz b ≤ n → sz a + sz b ≤ m → under n a b = under m a b
  | 0, m, a, b, h, _ => absurd (sz_pos a) (by omega)
  | n + 1, 0, a, b, _, h => absurd (sz_pos a) (by omega)
  | n + 1, m + 1, a, b, h, k => by
    have ea := sz_eq a
    have eb := sz_eq b
    have le : ∀ p ∈ a.parts, ∀ q ∈ b.parts, under n p q = under m p q ∧ under n q p = under m q p := fun p hp q hq => by
      have h1 := sz_mem hp
      have h2 := sz_mem hq
      exact ⟨under_fuel n m p q (by omega) (by omega), under_fuel n m q p (by omega) (by omega)⟩
    simp only [under]
    rw [withinL_congr (F := fun p x => under n x p) (G := fun p x => under m x p) a b.names b.parts fun p hp x hx => (le x hx p hp).1,
      withinL_congr b a.names a.parts fun p hp x hx => (le p hp x hx).1, funL_congr a.parts b.parts le]

/-! ### Parts of what fits -/
theorem fits_named {s : Shape} (h : fitsF s = true) (hk : s.kind = 6 ∨ s.kind = 7) : s.names.length = s.parts.length ∧ s.names.Nodup ∧ s.pkg = [] ∧ s.name = [] ∧ ∀ n ∈ s.names, nameF n = true := by
  unfold fitsF at h
  simp only at h
  rw [if_neg (by omega), if_neg (by omega), if_pos hk] at h
  simp only [namedOK, Bool.and_eq_true, decide_eq_true_eq, List.all_eq_true] at h
  exact ⟨h.2.1.1, h.2.2, h.1.1, h.1.2, h.2.1.2⟩
theorem fits_list {s : Shape} (h : fitsF s = true) (hk : s.kind = 5) : s.parts.length = 1 ∧ s.names = [] ∧ s.pkg = [] ∧ s.name = [] := by
  unfold fitsF at h
  simp only at h
  rw [if_neg (by omega), if_pos hk] at h
  simp only [Bool.and_eq_true, decide_eq_true_eq] at h
  exact ⟨h.2, h.1.2, h.1.1.1, h.1.1.2⟩
theorem fits_fun {s : Shape} (h : fitsF s = true) (hk : s.kind = 8) : 0 < s.parts.length ∧ s.names = [] ∧ s.pkg = [] ∧ s.name = [] := by
  unfold fitsF at h
  simp only at h
  rw [if_neg (by omega), if_neg (by omega), if_neg (by omega), if_pos hk] at h
  simp only [Bool.and_eq_true, decide_eq_true_eq, Bool.not_eq_true', decide_eq_false_iff_not] at h
  exact ⟨List.length_pos_iff.2 h.2, h.1.2, h.1.1.1, h.1.1.2⟩
theorem fits_prim {s : Shape} (h : fitsF s = true) (hk : s.kind = 1 ∨ s.kind = 2 ∨ s.kind = 3 ∨ s.kind = 4) : s.parts = [] ∧ s.names = [] ∧ s.pkg = [] ∧ s.name = [] := by
  unfold fitsF at h
  simp only at h
  rw [if_pos hk] at h
  simp only [Bool.and_eq_true, decide_eq_true_eq] at h
  exact ⟨h.2, h.1.2, h.1.1.1, h.1.1.2⟩
theorem fits_ref {s : Shape} (h : fitsF s = true) (hk : s.kind = 9 ∨ s.kind = 10) : s.parts = [] ∧ s.names = [] := by
  unfold fitsF at h
  simp only at h
  rw [if_neg (by omega), if_neg (by omega), if_neg (by omega), if_neg (by omega)] at h
  rcases hk with hk | hk
  · rw [if_pos hk] at h
    simp only [Bool.and_eq_true, decide_eq_true_eq] at h
    exact ⟨h.2, h.1.2⟩
  · rw [if_neg (by omega), if_pos hk] at h
    simp only [Bool.and_eq_true, decide_eq_true_eq] at h
    exact ⟨h.2, h.1.2⟩
theorem fits_kind {s : Shape} (h : fitsF s = true) : 1 ≤ s.kind ∧ s.kind ≤ 10 := by
  unfold fitsF at h
  simp only at h
  repeat' (split at h)
  all_goals first | omega | cases h
theorem allS_at {f : Shape → Bool} {s : Shape} (h : allS f s = true) : f s = true ∧ allL f s.parts = true := by
  rw [allS_eq, Bool.and_eq_true] at h
  exact h

/-! ### The last part, and the others -/
def contraL (F : Shape → Shape → Bool) : List Shape → List Shape → Bool
  | p :: r, q :: s => F q p && contraL F r s
  | _, _ => true
theorem funL_len {F : Shape → Shape → Bool} : ∀ {us vs : List Shape}, us.length ≠ vs.length → funL F us vs = false
  | [], [], h => absurd rfl h
  | [], _ :: _, _ => rfl
  | [_], [], _ => rfl
  | _ :: _ :: _, [], _ => rfl
  | [p], [q], h => absurd rfl h
  | [p], q :: q' :: s, _ => by simp [funL]
  | p :: p' :: r, [q], _ => by simp [funL]
  | p :: p' :: r, q :: q' :: s, h => by
    simp only [funL]
    rw [funL_len (us := p' :: r) (vs := q' :: s) (by simpa using h), Bool.and_false]
theorem funL_eq {F : Shape → Shape → Bool} : ∀ (us vs : List Shape) (d : Shape), us.length = vs.length → 0 < us.length →
    funL F us vs = (F (us.getD (us.length - 1) d) (vs.getD (us.length - 1) d) && contraL F (us.take (us.length - 1)) (vs.take (us.length - 1)))
  | [p], [q], d, _, _ => by simp [funL, contraL]
  | p :: p' :: r, [], d, h, _ => by simp at h
  | p :: p' :: r, [q], d, h, _ => by simp at h
  | p :: p' :: r, q :: q' :: s, d, h, _ => by
    have := funL_eq (F := F) (p' :: r) (q' :: s) d (by simpa using h) (by simp)
    simp only [funL]
    rw [this]
    simp only [List.length_cons, Nat.add_sub_cancel, List.getD_cons_succ, List.take_succ_cons, contraL]
    cases F q p <;> simp

end Go.Pd
