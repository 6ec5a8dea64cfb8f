/-
  What has changed between interfaces: what the functions compute. No condition.
-/
import Derived.Test.YtjemjblnddfdbaaGreatPf
set_option linter.unusedVariables false
set_option linter.unusedSimpArgs false
set_option linter.unnecessarySimpa false
set_option linter.deprecated false
namespace Go.Pd
open Go.AL

def dflI : AL.Item := ⟨0, [], ⟨0, [], [], [], []⟩⟩
def namedGo : List AL.Item → Int → List (Str × Int) → List (Str × Int)
  | [], _, m => m
  | x :: r, i, m => namedGo r (i + 1) (if (mget m x.name).isSome = true then m else mset m x.name i)
def itemOf : List AL.Item → Str → Option AL.Item
  | [], _ => none
  | x :: r, n => if x.name = n then some x else itemOf r n
def kindF (a b : AL.Item) : Int :=
  if a.kind ≠ b.kind then 3
  else if (a.kind ≠ 1 ∧ a.kind ≠ 3) ∨ sameS a.shape b.shape = true then 0
  else if a.kind = 3 ∧ belowS b.shape a.shape = true then 5 else 4
/-- What has changed of one name. -/
def changeF (old now : List AL.Item) (n : Str) : Int :=
  match itemOf now n with
  | none => 2
  | some y => match itemOf old n with
    | none => 1
    | some x => kindF x y
def uniq : List Str → List Str
  | [] => []
  | x :: r => if x ∈ uniq r then uniq r else x :: uniq r
def namesU (old now : List AL.Item) : List Str := sortS (uniq ((old ++ now).map (·.name)))
def diffGo (old now : List AL.Item) : List Str → List Change
  | [] => []
  | n :: r => if changeF old now n ≠ 0 then ⟨changeF old now n, n⟩ :: diffGo old now r else diffGo old now r
def diffF (old now : List AL.Item) : List Change := diffGo old now (namesU old now)

def atI (l : List AL.Item) (o : Option Int) : AL.Item := match o with | none => dflI | some i => l.getD i.toNat (dfl (.st .item))
def patFind : Pat := fun args S =>
  match args, S with
  | [a, .map 900, .str n], [(900, .map .str (.int .i64) m)] =>
    (match arg (.lst (.st .item)) a with
    | some l => some ⟨some (∀ i, mget (K := Str) (V := Int) m n = some i → 0 ≤ i ∧ i < (l : List AL.Item).length), none,
        .tup [.st .item (atI l (mget (K := Str) (V := Int) m n)), .bool (mget (K := Str) (V := Int) m n).isSome], [(900, .map .str (.int .i64) m)]⟩
    | none => none)
  | _, _ => none
theorem patFind_ok {P : Program} {f : Nat} (he : Enters P f) (h : ∀ (l : List AL.Item) (m : List (Str × Int)) (n : Str), Wf (.lst (.st .item)) l → (∀ i, mget m n = some i → 0 ≤ i ∧ i < l.length) → Meets P f [.lst (.st .item) l none, .map 900, .str n] [(900, .map .str (.int .i64) m)]
    ⟨some (∀ i, mget m n = some i → 0 ≤ i ∧ i < l.length), none, .tup [.st .item (atI l (mget m n)), .bool (mget m n).isSome], [(900, .map .str (.int .i64) m)]⟩) : PatOK P f patFind := by
  intro args S A hA ho _
  unfold patFind at hA
  split at hA
  · split at hA
    · rename_i l hl
      simp only [Option.some.injEq] at hA
      subst hA
      exact ⟨he, Meets.args (.cons (Rd.arg hl) (.cons (Rd.refl _) (.cons (Rd.refl _) .nil))) (Meets.wf fun hw => h l _ _ hw.one (ho _ rfl))⟩
    · cases hA
  · cases hA
def patKeys (g : Nat) : Pat := fun args S =>
  match args, S with
  | [.map 900], [(900, .map .str (.int .i64) m)] => some ⟨none, none, .fn g [.ptr 1 0], [(1, .box (.map 900)), (900, .map .str (.int .i64) m)]⟩
  | _, _ => none
theorem patKeys_ok {P : Program} {f g : Nat} (he : Enters P f) (h : ∀ m : List (Str × Int), Meets P f [.map 900] [(900, .map .str (.int .i64) m)] ⟨none, none, .fn g [.ptr 1 0], [(1, .box (.map 900)), (900, .map .str (.int .i64) m)]⟩) : PatOK P f (patKeys g) := by
  intro args S A hA ho _
  unfold patKeys at hA
  split at hA
  · simp only [Option.some.injEq] at hA
    subst hA
    exact ⟨he, h _⟩
  · cases hA

/-! ### Text -/
def signs : Str := [43, 45, 33, 126, 60]
def signF (k : Int) : Str := if 1 ≤ k ∧ k ≤ 5 then (signs.take k.toNat).drop (k - 1).toNat else [63]
def showGo : List Change → Str → Str
  | [], o => o
  | c :: r, o => showGo r (o ++ (signF c.kind ++ [32] ++ c.name ++ [10]))
def showF (l : List Change) : Str := showGo l []
def showN : List Change → Nat
  | [] => 0
  | c :: r => c.name.length + 4 + showN r

/-! ### Names -/
theorem mem_uniq : ∀ {l : List Str} {x : Str}, x ∈ uniq l ↔ x ∈ l
  | [], x => by simp [uniq]
  | a :: r, x => by
    simp only [uniq]
    split
    · rename_i h
      rw [mem_uniq, List.mem_cons]
      constructor
      · exact Or.inr
      · rintro (rfl | h')
        · exact mem_uniq.1 h
        · exact h'
    · rw [List.mem_cons, List.mem_cons, mem_uniq]
theorem uniq_nodup : ∀ l : List Str, (uniq l).Nodup
  | [] => by simp [uniq]
  | a :: r => by
    simp only [uniq]
    split
    · exact uniq_nodup r
    · rename_i h
      exact List.nodup_cons.2 ⟨h, uniq_nodup r⟩
theorem sorted_perm_eq : ∀ {l m : List Str}, l.Perm m → l.Pairwise (· ≤ ·) → m.Pairwise (· ≤ ·) → l = m
  | [], m, h, _, _ => (List.nil_perm.1 h).symm
  | a :: r, [], h, _, _ => by simpa using h.length_eq
  | a :: r, b :: s, h, h1, h2 => by
    have e : a = b := by
      have ha : a ∈ b :: s := h.mem_iff.1 (by simp)
      have hb : b ∈ a :: r := h.mem_iff.2 (by simp)
      rcases List.mem_cons.1 ha with rfl | ha
      · rfl
      rcases List.mem_cons.1 hb with rfl | hb
      · rfl
      exact List.le_antisymm ((List.pairwise_cons.1 h1).1 b hb) ((List.pairwise_cons.1 h2).1 a ha)
    subst e
    rw [sorted_perm_eq ((List.perm_cons a).1 h) (List.pairwise_cons.1 h1).2 (List.pairwise_cons.1 h2).2]
theorem sortS_perm {l m : List Str} (h : l.Perm m) : sortS l = sortS m :=
  sorted_perm_eq (((List.mergeSort_perm l _).trans h).trans (List.mergeSort_perm m _).symm) (sortS_sorted l) (sortS_sorted m)
theorem nodup_perm {l m : List Str} (h1 : l.Nodup) (h2 : m.Nodup) (h : ∀ x, x ∈ l ↔ x ∈ m) : l.Perm m := by
  rw [List.perm_ext_iff_of_nodup h1 h2]
  exact h
theorem namesU_of {old now : List AL.Item} {d : List (Str × Int)} (hn : (d.map (·.1)).Nodup) (h : ∀ k, (mget d k).isSome = true ↔ k ∈ (old ++ now).map (·.name)) : sortS (d.map (·.1)) = namesU old now := by
  refine sortS_perm (nodup_perm hn (uniq_nodup _) fun x => ?_)
  rw [mem_uniq, ← h, mget_isSome, List.mem_map]
theorem namedGo_get : ∀ (l : List AL.Item) (i : Int) (m : List (Str × Int)) (n : Str), mget (namedGo l i m) n = if (mget m n).isSome = true then mget m n else if n ∈ l.map (·.name) then some (i + (l.findIdx (fun x => decide (x.name = n)) : Int)) else none
  | [], i, m, n => by
    simp only [namedGo, List.map_nil, List.not_mem_nil, if_false]
    cases h : mget m n <;> simp
  | x :: r, i, m, n => by
    simp only [namedGo]
    rw [namedGo_get r (i + 1) _ n, List.findIdx_cons]
    by_cases h : (mget m n).isSome = true
    · have : (mget (if (mget m x.name).isSome = true then m else mset m x.name i) n) = mget m n := by
        split
        · rfl
        · rw [mget_mset]
          split
          · rename_i h1 h2; subst h2; exact absurd h h1
          · rfl
      rw [this]
      simp [h]
    · by_cases e : x.name = n
      · subst e
        rw [if_neg h, mget_mset, if_pos rfl]
        simp [h]
      · have : (mget (if (mget m x.name).isSome = true then m else mset m x.name i) n) = mget m n := by
          split
          · rfl
          · rw [mget_mset, if_neg (Ne.symm e)]
        rw [this, if_neg h, if_neg h]
        by_cases hn : n ∈ r.map (·.name)
        · rw [if_pos hn, if_pos (by rw [List.map_cons]; exact List.mem_cons_of_mem _ hn)]
          simp [e]; omega
        · rw [if_neg hn, if_neg (by simp only [List.map_cons, List.mem_cons, not_or]; exact ⟨Ne.symm e, hn⟩)]
theorem itemOf_none : ∀ {l : List AL.Item} {n : Str}, itemOf l n = none ↔ n ∉ l.map (·.name)
  | [], n => by simp [itemOf]
  | x :: r, n => by
    simp only [itemOf, List.map_cons, List.mem_cons, not_or]
    by_cases e : x.name = n
    · simp [e]
    · rw [if_neg e, itemOf_none]
      exact ⟨fun h => ⟨Ne.symm e, h⟩, And.right⟩
theorem itemOf_some : ∀ {l : List AL.Item} {n : Str} (d : AL.Item), n ∈ l.map (·.name) → itemOf l n = some (l.getD (l.findIdx (fun x => decide (x.name = n))) d)
  | [], n, d, h => by simp at h
  | x :: r, n, d, h => by
    simp only [itemOf, List.findIdx_cons]
    by_cases e : x.name = n
    · simp [e]
    · rw [if_neg e]
      have h' : n ∈ r.map (·.name) := by
        rcases List.mem_cons.1 h with h | h
        · exact absurd h.symm e
        · exact h
      rw [itemOf_some d h']
      simp [e]
/-- What the map of names hands out is the item. -/
theorem named_find (l : List AL.Item) (n : Str) : (∀ i, mget (namedGo l 0 []) n = some i → 0 ≤ i ∧ i < l.length) ∧ (mget (namedGo l 0 []) n).isSome = (itemOf l n).isSome ∧
    ∀ x, itemOf l n = some x → atI l (mget (namedGo l 0 []) n) = x := by
  have h := namedGo_get l 0 [] n
  simp only [mget, Option.isSome_none, Bool.false_eq_true, if_false] at h
  by_cases hm : n ∈ l.map (·.name)
  · rw [if_pos hm] at h
    have hs := itemOf_some (dfl (.st .item)) hm
    rw [h, hs]
    have hl : l.findIdx (fun x => decide (x.name = n)) < l.length := by
      obtain ⟨x, hx, e⟩ := List.mem_map.1 hm
      exact List.findIdx_lt_length_of_exists ⟨x, hx, by simpa using e⟩
    refine ⟨fun i e => ?_, rfl, fun x e => ?_⟩
    · simp only [Int.zero_add, Option.some.injEq] at e; omega
    · simp only [atI, Int.zero_add, Int.toNat_natCast]
      exact Option.some.inj e
  · rw [if_neg hm] at h
    rw [h, itemOf_none.2 hm]
    refine ⟨fun i e => ?_, rfl, fun x e => ?_⟩ <;> cases e
theorem diffGo_append (old now : List AL.Item) : ∀ (l m : List Str), diffGo old now (l ++ m) = diffGo old now l ++ diffGo old now m
  | [], m => rfl
  | n :: r, m => by
    simp only [List.cons_append, diffGo]
    split
    · rw [diffGo_append old now r m]; rfl
    · exact diffGo_append old now r m
theorem diffGo_len (old now : List AL.Item) : ∀ l : List Str, (diffGo old now l).length ≤ l.length
  | [] => Nat.le_refl _
  | n :: r => by
    have := diffGo_len old now r
    simp only [diffGo]
    split <;> simp <;> omega
theorem uniq_len : ∀ l : List Str, (uniq l).length ≤ l.length
  | [] => Nat.le_refl _
  | a :: r => by
    have := uniq_len r
    simp only [uniq]
    split <;> simp <;> omega
theorem namesU_len (old now : List AL.Item) : (namesU old now).length ≤ old.length + now.length := by
  unfold namesU
  rw [sortS_length]
  have := uniq_len ((old ++ now).map (·.name))
  simpa using this

end Go.Pd
