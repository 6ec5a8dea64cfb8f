/-
  What the functions on types compute, second part; entries of contracts with slots. No condition.
-/
import Derived.Test.YtjemjblnddfdbaaGreatPd
set_option linter.unusedVariables false
set_option linter.unusedSimpArgs false
set_option linter.unnecessarySimpa false
set_option linter.deprecated false
namespace Go.Pd
open Go.AL

/-! ### Counting -/
def checkS (s : Shape) : Int := if 400 < sz s then 3 else if 40 < deepS s 1 then 91 else if allS fitsF s = true then 0 else 70
def closedS (s : Shape) : Bool := decide (checkS s = 0) && allS (fun s => !decide (s.kind = 9)) s
def sortS' (s : Shape) : Shape := if checkS s = 0 then sortedS s else s
def sameS (a b : Shape) : Bool := decide (checkS a = 0) && decide (checkS b = 0) && eqS (sortedS a) (sortedS b)

def meetA (t : Nat) (c : Int) : Ans := ⟨some (0 ≤ c ∧ c ≤ 400), some (decide (400 < c + 1), .iface t (.agg []), [(900, .box (.int .i64 (c + 1)))]), .tup [], [(900, .box (.int .i64 (c + 1)))]⟩
def patMeet (t : Nat) : Pat := fun args S =>
  match args, S with
  | [.ptr 900 0], [(900, .box (.int .i64 c))] => some (meetA t c)
  | _, _ => none
theorem patMeet_ok {P : Program} {f t : Nat} (he : Enters P f) (h : ∀ c, 0 ≤ c ∧ c ≤ 400 → Meets P f [.ptr 900 0] [(900, .box (.int .i64 c))] (meetA t c)) : PatOK P f (patMeet t) := by
  intro args S A hA ho _
  unfold patMeet at hA
  split at hA
  · simp only [Option.some.injEq] at hA
    subst hA
    exact ⟨he, h _ (ho _ rfl)⟩
  · cases hA

def walkA (t : Nat) (s : Shape) (l c : Int) (q : Prop) : Ans :=
  ⟨some (q ∧ 0 ≤ c ∧ c ≤ 400 ∧ 1 ≤ l ∧ l ≤ c + 1), some (decide (400 < c + (sz s : Int)), .iface t (.agg []), [(900, .box (.int .i64 401))]), .int .i64 (deepS s l), [(900, .box (.int .i64 (c + (sz s : Int))))]⟩
def patWalk (t g : Nat) (n : Nat) : Pat := fun args S =>
  match args, S with
  | [a, .int .i64 l, .fn g' [.ptr 900 0]], [(900, .box (.int .i64 c))] =>
    (match Nat.beq g' g, arg (.st .shape) a with
    | true, some s => some (walkA t s l c (sz s ≤ n))
    | _, _ => none)
  | _, _ => none
theorem patWalk_ok {P : Program} {f t g n : Nat} (he : Enters P f) (h : ∀ s l c, Wf (.st .shape) s → sz s ≤ n → (0 ≤ c ∧ c ≤ 400 ∧ 1 ≤ l ∧ l ≤ c + 1) → Meets P f [.st .shape s, .int .i64 l, .fn g [.ptr 900 0]] [(900, .box (.int .i64 c))] (walkA t s l c (sz s ≤ n))) :
    PatOK P f (patWalk t g n) := by
  intro args S A hA ho _
  unfold patWalk at hA
  split at hA
  · split at hA
    · rename_i s hb hs
      simp only [Option.some.injEq] at hA
      subst hA
      have e := Nat.eq_of_beq_eq_true hb
      subst e
      obtain ⟨h1, h2⟩ := ho _ rfl
      exact ⟨he, Meets.args (.cons (Rd.arg hs) (.cons (Rd.refl _) (.cons (Rd.refl _) .nil))) (Meets.wf fun hw => h _ _ _ hw.one h1 h2)⟩
    · cases hA
  · cases hA

theorem deepS_ge : ∀ (s : Shape) (l : Int), l ≤ deepS s l
  | ⟨_, _, _, _, ps⟩, l => by
    simp only [deepS]
    have : ∀ (ps : List Shape) (m d : Int), d ≤ deepL ps m d := by
      intro ps
      induction ps with
      | nil => intro m d; exact Int.le_refl _
      | cons p r ih => intro m d; simp only [deepL]; exact Int.le_trans (Int.le_max_left _ _) (ih m _)
    exact this ps _ _
theorem szL_take_succ : ∀ (l : List Shape) (k : Nat) (d : Shape), k < l.length → szL (l.take (k + 1)) = szL (l.take k) + sz (l.getD k d)
  | a :: r, 0, d, _ => by simp [szL]
  | a :: r, k + 1, d, h => by
    have := szL_take_succ r k d (by simpa using h)
    simp only [List.take_succ_cons, szL, List.getD_cons_succ] at this ⊢
    omega
theorem szL_take_le (l : List Shape) (k : Nat) : szL (l.take k) ≤ szL l := by
  induction l generalizing k with
  | nil => simp [szL]
  | cons a r ih =>
    cases k with
    | zero => simp [szL]
    | succ k => have := ih k; simp only [List.take_succ_cons, szL]; omega

theorem checkS_zero {s : Shape} (h : checkS s = 0) : sz s ≤ 400 ∧ deepS s 1 ≤ 40 ∧ allS fitsF s = true := by
  unfold checkS at h
  split at h
  · omega
  split at h
  · omega
  split at h
  · exact ⟨by omega, by omega, by assumption⟩
  · omega
theorem fits_orderly {s : Shape} (h : fitsF s = true) : orderly s = true := by
  unfold orderly
  unfold fitsF at h
  simp only at h
  split at h
  · simp_all
  split at h
  · simp_all
  split at h
  · simp only [namedOK, Bool.and_eq_true, decide_eq_true_eq] at h
    simp [h.2.1.1, h.2.2]
  split at h
  · simp_all
  split at h
  · simp_all
  split at h
  · simp_all
  · cases h
mutual
theorem allS_imp {f g : Shape → Bool} (h : ∀ s, f s = true → g s = true) : ∀ s, allS f s = true → allS g s = true
  | ⟨k, p, n, ns, ps⟩, hs => by
    simp only [allS, Bool.and_eq_true] at hs ⊢
    exact ⟨h _ hs.1, allL_imp h ps hs.2⟩
theorem allL_imp {f g : Shape → Bool} (h : ∀ s, f s = true → g s = true) : ∀ l, allL f l = true → allL g l = true
  | [], _ => rfl
  | a :: r, hs => by
    simp only [allL, Bool.and_eq_true] at hs ⊢
    exact ⟨allS_imp h a hs.1, allL_imp h r hs.2⟩
end
theorem checkS_orderly {s : Shape} (h : checkS s = 0) : allS orderly s = true := allS_imp (fun _ => fits_orderly) s (checkS_zero h).2.2

/-! ### What is in order is as great -/
theorem szL_perm {l m : List Shape} (h : l.Perm m) : szL l = szL m := by
  induction h with
  | nil => rfl
  | cons x _ ih => simp only [szL, ih]
  | swap x y l => simp only [szL]; omega
  | trans _ _ h1 h2 => exact h1.trans h2
theorem map_range_getD {α : Type} (l : List α) (d : α) : (rangeI l.length).map (fun i => l.getD i.toNat d) = l := by
  apply List.ext_getElem?
  intro i
  simp only [rangeI, List.map_map, List.getElem?_map]
  by_cases h : i < l.length
  · rw [List.getElem?_range h]
    simp [List.getD_eq_getElem?_getD, h]
  · rw [List.getElem?_eq_none (by simpa using h), List.getElem?_eq_none (by omega)]
    rfl
/-- The parts of what is in order are those parts, in another order. -/
theorem places_parts (k : Int) (p n : Str) (ns : List Str) (ps : List Shape) (d : Shape) : ((places ⟨k, p, n, ns, ps⟩).map fun i => (sortedL ps).getD i.toNat d).Perm (sortedL ps) := by
  have h := (places_perm ⟨k, p, n, ns, ps⟩).map fun i : Int => (sortedL ps).getD i.toNat d
  have e := map_range_getD (sortedL ps) d
  rw [sortedL_length] at e
  rw [e] at h
  exact h
mutual
theorem sz_sorted : ∀ s : Shape, sz (sortedS s) = sz s
  | ⟨k, p, n, ns, ps⟩ => by
    simp only [sortedS, sz]
    rw [szL_perm (places_parts k p n ns ps dflS), szL_sorted ps]
theorem szL_sorted : ∀ l : List Shape, szL (sortedL l) = szL l
  | [] => rfl
  | a :: r => by simp only [sortedL, szL, sz_sorted a, szL_sorted r]
end

end Go.Pd
