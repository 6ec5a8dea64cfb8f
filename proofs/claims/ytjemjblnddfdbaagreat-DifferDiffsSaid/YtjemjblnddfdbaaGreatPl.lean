/-
  The document's answers on words and types: what its functions compute. No condition.
-/
import Derived.Test.YtjemjblnddfdbaaGreatPk
set_option linter.unusedVariables false
set_option linter.unusedSimpArgs false
set_option linter.unnecessarySimpa false
set_option linter.deprecated false
namespace Go.Pd
open Go.AL

/-- How many of the first letters may stand in a name. -/
def restN : Str → Nat
  | [] => 0
  | b :: r => if restI (bI b) = true then restN r + 1 else 0
theorem restN_all : ∀ s : Str, (restN s = s.length ↔ (s.all fun c => restI (bI c)) = true)
  | [] => by simp [restN]
  | b :: r => by
    simp only [restN, List.length_cons, List.all_cons, Bool.and_eq_true]
    by_cases h : restI (bI b) = true
    · rw [if_pos h, ← restN_all r]
      constructor
      · intro e; exact ⟨h, by omega⟩
      · rintro ⟨_, e⟩; omega
    · rw [if_neg h]
      constructor
      · intro e; omega
      · rintro ⟨e, _⟩; exact absurd e h
theorem restN_le : ∀ s : Str, restN s ≤ s.length
  | [] => Nat.le_refl _
  | b :: r => by
    have := restN_le r
    simp only [restN, List.length_cons]
    split <;> omega
theorem namedF_rest (first : Int → Bool) (s : Str) : namedF first s = (!decide (s = []) && decide (s.length ≤ 24) && first (bI (s.getD 0 0)) && decide (restN s = s.length)) := by
  unfold namedF
  congr 1
  rw [Bool.eq_iff_iff, decide_eq_true_eq]
  exact (restN_all s).symm

/-- Are these names, each unlike the ones ahead of it, so many? -/
def namesOK (ns : List Str) (n : Int) : Bool := decide ((ns.length : Int) = n) && ns.all nameF && decide ns.Nodup

mutual
/-- The number of levels. -/
def deepF : Shape → Nat
  | ⟨_, _, _, _, ps⟩ => maxDeep ps + 1
def maxDeep : List Shape → Nat
  | [] => 0
  | p :: r => max (deepF p) (maxDeep r)
end
mutual
theorem deepS_F : ∀ (s : Shape) (l : Int), deepS s l = l + deepF s - 1
  | ⟨_, _, _, _, ps⟩, l => by
    simp only [deepS, deepF]
    rw [deepL_F ps (l + 1) l (by omega)]
    omega
theorem deepL_F : ∀ (ps : List Shape) (m d : Int), m - 1 ≤ d → deepL ps m d = max d (m + maxDeep ps - 1)
  | [], m, d, h => by simp only [deepL, maxDeep]; omega
  | p :: r, m, d, h => by
    simp only [deepL, maxDeep]
    rw [deepL_F r m _ (by omega), deepS_F p m]
    omega
end
mutual
theorem deepF_sz : ∀ s : Shape, deepF s ≤ sz s
  | ⟨_, _, _, _, ps⟩ => by
    have := maxDeep_sz ps
    simp only [deepF, sz]
    omega
theorem maxDeep_sz : ∀ l : List Shape, maxDeep l ≤ szL l
  | [] => Nat.le_refl _
  | p :: r => by
    have := deepF_sz p
    have := maxDeep_sz r
    simp only [maxDeep, szL]
    omega
end
mutual
/-- What is counted is the number of parts, or one more than the most that is asked for. -/
theorem sizeF_eq : ∀ (s : Shape) (m : Int), 0 ≤ m → sizeF s m = min (sz s : Int) (m + 1)
  | ⟨_, _, _, _, ps⟩, m, h => by
    simp only [sizeF, sz]
    rw [sizeL_eq ps 1 m (by omega)]
    omega
theorem sizeL_eq : ∀ (l : List Shape) (n m : Int), n ≤ m + 1 → sizeL l n m = min (n + szL l) (m + 1)
  | [], n, m, h => by simp only [sizeL, szL]; omega
  | p :: r, n, m, h => by
    simp only [sizeL, szL]
    have := sz_pos p
    split
    · rw [sizeF_eq p (m - n) (by omega), sizeL_eq r _ m (by omega)]
      omega
    · omega
end
theorem checkR (s : Shape) : checkS s = if 400 < sizeF s 400 then 3 else if 40 < (deepF s : Int) then 91 else if allS fitsF s = true then 0 else 70 := by
  unfold checkS
  rw [sizeF_eq s 400 (by omega), deepS_F]
  have e : (1 : Int) + deepF s - 1 = deepF s := by omega
  rw [e]
  by_cases h : 400 < sz s
  · rw [if_pos h, if_pos (show (400 : Int) < min (sz s : Int) (400 + 1) by omega)]
  · rw [if_neg h, if_neg (show ¬ (400 : Int) < min (sz s : Int) (400 + 1) by omega)]

/-- The same changes? -/
def eqC : List Change → List Change → Bool
  | [], [] => true
  | a :: r, b :: s => (decide (a.kind = b.kind) && (decide (a.name = b.name) && true)) && eqC r s
  | _, _ => false
theorem eqC_len : ∀ {a b : List Change}, a.length ≠ b.length → eqC a b = false
  | [], [], h => absurd rfl h
  | [], _ :: _, _ => rfl
  | _ :: _, [], _ => rfl
  | a :: r, b :: s, h => by
    simp only [eqC]
    rw [eqC_len (fun e => h (by simp [e]))]
    simp
theorem eqC_refl : ∀ a : List Change, eqC a a = true
  | [] => rfl
  | a :: r => by simp [eqC, eqC_refl r]

/-! ### Names, one by one -/
def placeOf : List Str → Str → Nat
  | [], _ => 0
  | a :: r, n => if Op.bytesLess a n = true then placeOf r n + 1 else 0
def insAt (l : List Str) (n : Str) (j : Nat) : List Str := if j = l.length ∨ ¬ l.getD j [] = n then l.take j ++ [n] ++ l.drop j else l
def ins1 (l : List Str) (n : Str) : List Str := insAt l n (placeOf l n)
theorem insAt_succ (a : Str) (r : List Str) (n : Str) (j : Nat) : insAt (a :: r) n (j + 1) = a :: insAt r n j := by
  unfold insAt
  by_cases h : j = r.length ∨ ¬ r.getD j [] = n
  · rw [if_pos h, if_pos (by simpa using h)]; rfl
  · rw [if_neg h, if_neg (by simpa using h)]
def insGo : List AL.Item → List Str → List Str
  | [], a => a
  | x :: r, a => insGo r (ins1 a x.name)
def insAll (l : List AL.Item) : List Str := insGo l []
def insR : List Str → Str → List Str
  | [], n => [n]
  | a :: r, n => if Op.bytesLess a n = true then a :: insR r n else if a = n then a :: r else n :: a :: r
theorem ins1_R : ∀ (A : List Str) (n : Str), ins1 A n = insR A n
  | [], n => by simp [ins1, insAt, placeOf, insR]
  | a :: r, n => by
    have ih := ins1_R r n
    unfold ins1 at ih ⊢
    simp only [insR]
    by_cases h : Op.bytesLess a n = true
    · have hp : placeOf (a :: r) n = placeOf r n + 1 := by simp [placeOf, h]
      rw [hp, insAt_succ, ih, if_pos h]
    · have hp : placeOf (a :: r) n = 0 := by simp [placeOf, h]
      rw [hp, if_neg h]
      unfold insAt
      by_cases e : a = n
      · rw [if_pos e, if_neg (by simp [e])]
      · rw [if_neg e, if_pos (by simp [e])]; rfl
theorem mem_insR : ∀ {A : List Str} {n x : Str}, x ∈ insR A n ↔ x ∈ A ∨ x = n
  | [], n, x => by simp [insR]
  | a :: r, n, x => by
    simp only [insR]
    split
    · rw [List.mem_cons, mem_insR, List.mem_cons, or_assoc]
    · split
      · rename_i e
        subst e
        rw [List.mem_cons]
        constructor
        · exact Or.inl
        · rintro (h | h)
          · exact h
          · exact Or.inl h
      · rw [List.mem_cons, List.mem_cons]
        constructor
        · rintro (h | h)
          · exact Or.inr h
          · exact Or.inl h
        · rintro (h | h)
          · exact Or.inr h
          · exact Or.inl h
theorem insR_sorted : ∀ {A : List Str} {n : Str}, A.Pairwise (· < ·) → (insR A n).Pairwise (· < ·)
  | [], n, _ => by simp [insR]
  | a :: r, n, h => by
    obtain ⟨h1, h2⟩ := List.pairwise_cons.1 h
    simp only [insR]
    split
    · rename_i hlt
      rw [Go.Proofs.bytesLess_eq, decide_eq_true_eq] at hlt
      refine List.pairwise_cons.2 ⟨fun x hx => ?_, insR_sorted h2⟩
      rcases mem_insR.1 hx with hx | rfl
      · exact h1 x hx
      · exact hlt
    · rename_i hlt
      rw [Go.Proofs.bytesLess_eq, decide_eq_true_eq] at hlt
      split
      · exact h
      · rename_i hne
        have hna : n < a := Classical.byContradiction fun hc => hne (List.le_antisymm (List.not_lt.1 hc) (List.not_lt.1 hlt))
        refine List.pairwise_cons.2 ⟨fun x hx => ?_, h⟩
        rcases List.mem_cons.1 hx with rfl | hx
        · exact hna
        · exact List.lt_trans hna (h1 x hx)
theorem insGo_spec : ∀ (l : List AL.Item) (A : List Str), A.Pairwise (· < ·) → (insGo l A).Pairwise (· < ·) ∧ ∀ x, x ∈ insGo l A ↔ x ∈ A ∨ x ∈ l.map (·.name)
  | [], A, h => ⟨h, fun x => by simp [insGo]⟩
  | a :: r, A, h => by
    simp only [insGo]
    rw [ins1_R]
    obtain ⟨h1, h2⟩ := insGo_spec r (insR A a.name) (insR_sorted h)
    refine ⟨h1, fun x => ?_⟩
    rw [h2, mem_insR, List.map_cons, List.mem_cons, or_assoc]
theorem insGo_append : ∀ (l m : List AL.Item) (A : List Str), insGo (l ++ m) A = insGo m (insGo l A)
  | [], m, A => rfl
  | a :: r, m, A => by simp only [List.cons_append, insGo]; exact insGo_append r m _
theorem insAll_succ (l : List AL.Item) (k : Nat) (d : AL.Item) (h : k < l.length) : insAll (l.take (k + 1)) = ins1 (insAll (l.take k)) (l.getD k d).name := by
  unfold insAll
  rw [take_getD l k d h, insGo_append]
  rfl
theorem insAll_eq (l : List AL.Item) : insAll l = sortS (uniq (l.map (·.name))) := by
  obtain ⟨h1, h2⟩ := insGo_spec l [] List.Pairwise.nil
  refine sorted_perm_eq (nodup_perm (h1.imp fun h e => ?_) ((List.mergeSort_perm _ _).nodup_iff.2 (uniq_nodup _)) fun x => ?_) (h1.imp fun h => List.le_of_lt h) (sortS_sorted _)
  · subst e; exact absurd h (List.lt_irrefl _)
  · unfold insAll
    rw [h2]
    unfold sortS
    rw [(List.mergeSort_perm _ _).mem_iff, mem_uniq]
    simp
theorem insAll_len (l : List AL.Item) : (insAll l).length ≤ l.length := by
  rw [insAll_eq, sortS_length]
  have := uniq_len (l.map (·.name))
  simpa using this

/-! ### Parts in the order of their names, one by one -/
/-- Put at its place, with no look at what stands there. -/
def putAt {α : Type} (l : List α) (j : Nat) (x : α) : List α := l.take j ++ [x] ++ l.drop j
def insN2 : List Str → List Shape → List Str × List Shape → List Str × List Shape
  | n :: r, p :: q, a => insN2 r q (putAt a.1 (placeOf a.1 n) n, putAt a.2 (placeOf a.1 n) (sortedS p))
  | _, _, a => a
def insN (s : Shape) (k : Nat) : List Str × List Shape := insN2 (s.names.take k) (s.parts.take k) ([], [])

theorem placeOf_le : ∀ (l : List Str) (n : Str), placeOf l n ≤ l.length
  | [], _ => Nat.le_refl _
  | a :: r, n => by
    have := placeOf_le r n
    simp only [placeOf, List.length_cons]
    split <;> omega
theorem putAt_length {α : Type} {l : List α} {j : Nat} (x : α) (h : j ≤ l.length) : (putAt l j x).length = l.length + 1 := by
  unfold putAt
  simp only [List.length_append, List.length_take, List.length_drop, List.length_singleton]
  omega
theorem putAt_map {α β : Type} (f : α → β) (l : List α) (j : Nat) (x : α) : putAt (l.map f) j (f x) = (putAt l j x).map f := by
  unfold putAt
  simp only [List.map_append, List.map_take, List.map_drop, List.map_cons, List.map_nil]
theorem putAt_perm {α : Type} (l : List α) (j : Nat) (x : α) : (putAt l j x).Perm (l ++ [x]) := by
  unfold putAt
  have h : (l.take j ++ [x] ++ l.drop j).Perm (l.take j ++ l.drop j ++ [x]) := by
    rw [List.append_assoc, List.append_assoc]
    exact List.Perm.append_left _ (List.perm_append_comm)
  rwa [List.take_append_drop] at h
theorem putAt_ins {l : List Str} {n : Str} (h : n ∉ l) : putAt l (placeOf l n) n = insR l n := by
  rw [← ins1_R]
  unfold ins1 insAt putAt
  rw [if_pos]
  by_cases e : placeOf l n = l.length
  · exact Or.inl e
  · refine Or.inr fun hg => h ?_
    have := placeOf_le l n
    rw [← hg]
    exact getD_mem l _ [] (by omega)
theorem insN2_append : ∀ (ns : List Str) (ps : List Shape) (n : Str) (p : Shape) (a : List Str × List Shape), ns.length = ps.length →
    insN2 (ns ++ [n]) (ps ++ [p]) a = (putAt (insN2 ns ps a).1 (placeOf (insN2 ns ps a).1 n) n, putAt (insN2 ns ps a).2 (placeOf (insN2 ns ps a).1 n) (sortedS p))
  | [], [], n, p, a, _ => rfl
  | m :: r, q :: s, n, p, a, h => by
    simp only [List.cons_append, insN2]
    exact insN2_append r s n p _ (by simpa using h)
theorem insN_succ (s : Shape) (k : Nat) (hl : s.names.length = s.parts.length) (hk : k < s.parts.length) (d : Shape) :
    insN s (k + 1) = (putAt (insN s k).1 (placeOf (insN s k).1 (s.names.getD k [])) (s.names.getD k []), putAt (insN s k).2 (placeOf (insN s k).1 (s.names.getD k [])) (sortedS (s.parts.getD k d))) := by
  unfold insN
  rw [take_getD s.names k [] (by omega), take_getD s.parts k d hk, insN2_append _ _ _ _ _ (by rw [List.length_take, List.length_take]; omega)]
theorem insN_len (s : Shape) (hl : s.names.length = s.parts.length) : ∀ k, k ≤ s.parts.length → (insN s k).1.length = k ∧ (insN s k).2.length = k
  | 0, _ => by simp [insN, insN2]
  | k + 1, h => by
    obtain ⟨h1, h2⟩ := insN_len s hl k (by omega)
    have hp := placeOf_le (insN s k).1 (s.names.getD k [])
    rw [insN_succ s k hl (by omega) dflS]
    simp only
    rw [putAt_length _ hp, putAt_length _ (by omega)]
    omega
/-- The places, one by one. -/
def idxN (ns : List Str) : Nat → List Int
  | 0 => []
  | k + 1 => putAt (idxN ns k) (placeOf ((idxN ns k).map (nameAt ns)) (ns.getD k [])) (k : Int)
theorem idxN_perm (ns : List Str) : ∀ k, (idxN ns k).Perm (rangeI k)
  | 0 => .refl _
  | k + 1 => by
    simp only [idxN]
    rw [rangeI_succ]
    exact (putAt_perm _ _ _).trans ((idxN_perm ns k).append_right _)
theorem insN_idx (s : Shape) (hl : s.names.length = s.parts.length) : ∀ k, k ≤ s.parts.length → insN s k = ((idxN s.names k).map (nameAt s.names), (idxN s.names k).map fun i : Int => (sortedL s.parts).getD i.toNat dflS)
  | 0, _ => rfl
  | k + 1, h => by
    have ih := insN_idx s hl k (by omega)
    rw [insN_succ s k hl (by omega) dflS, ih]
    simp only [idxN]
    have e1 : s.names.getD k [] = nameAt s.names (k : Int) := rfl
    have e2 : sortedS (s.parts.getD k dflS) = (fun i : Int => (sortedL s.parts).getD i.toNat dflS) (k : Int) := by
      simp only [Int.toNat_natCast]
      rw [sortedL_getD s.parts k dflS dflS (by omega)]
    rw [e2, putAt_map]
    conv => lhs; lhs; rhs; rw [e1]
    rw [putAt_map]
theorem idxN_sorted (ns : List Str) (hn : ns.Nodup) : ∀ k, k ≤ ns.length → ((idxN ns k).map (nameAt ns)).Pairwise (· < ·)
  | 0, _ => List.Pairwise.nil
  | k + 1, h => by
    have ih := idxN_sorted ns hn k (by omega)
    have hni : ns.getD k [] ∉ (idxN ns k).map (nameAt ns) := by
      intro hm
      obtain ⟨i, hi, e⟩ := List.mem_map.1 hm
      have hi := mem_rangeI.1 ((idxN_perm ns k).mem_iff.1 hi)
      rw [List.nodup_iff_pairwise_ne] at hn
      have := List.pairwise_iff_getElem.1 hn i.toNat k (by omega) (by omega) (by omega)
      unfold nameAt at e
      rw [List.getD_eq_getElem?_getD, List.getD_eq_getElem?_getD, List.getElem?_eq_getElem (show i.toNat < ns.length by omega), List.getElem?_eq_getElem (show k < ns.length by omega)] at e
      exact this e
    simp only [idxN]
    have e1 : ns.getD k [] = nameAt ns (k : Int) := rfl
    rw [← putAt_map, ← e1, putAt_ins hni]
    exact insR_sorted ih
theorem insN_done (s : Shape) (hl : s.names.length = s.parts.length) (hn : s.names.Nodup) (h0 : s.names ≠ []) : (insN s s.parts.length).1 = (sortedS s).names ∧ (insN s s.parts.length).2 = (sortedS s).parts := by
  have hp : idxN s.names s.parts.length = places s := by
    unfold places
    rw [if_neg h0]
    refine sortIdx_eq hn (fun x hx => ?_) (idxN_perm _ _) ?_
    · rw [hl]; exact mem_rangeI.1 hx
    · have := idxN_sorted s.names hn s.parts.length (by omega)
      rw [List.pairwise_map] at this
      exact this.imp fun h => List.le_of_lt h
  rw [insN_idx s hl _ (Nat.le_refl _), hp]
  obtain ⟨k, p, m, ns, ps⟩ := s
  simp only at h0
  simp only [sortedS, if_neg h0, and_self]

/-! ### Changes -/
def changeR (old now : List AL.Item) (n : Str) : Int :=
  match itemOf old n with
  | none => 1
  | some x => match itemOf now n with
    | none => 2
    | some y => kindF x y
theorem changeR_F {old now : List AL.Item} {n : Str} (h : n ∈ namesU old now) : changeR old now n = changeF old now n := by
  have hc := change_none h
  unfold changeR changeF
  cases ea : itemOf old n with
  | none =>
    cases eb : itemOf now n with
    | none => exact absurd ⟨ea, eb⟩ hc
    | some y => rfl
  | some x => cases eb : itemOf now n <;> rfl
def p3c : Pat := fun args S =>
  match args, S with
  | [a, b, .str n], [] =>
    (match arg (.lst (.st .item)) a, arg (.lst (.st .item)) b with
    | some l, some m => some (.ret (.int .i64 (changeR (l : List AL.Item) (m : List AL.Item) n)))
    | _, _ => none)
  | _, _ => none
theorem p3c_ok {P : Program} {f : Nat} (he : Enters P f) (h : ∀ (l m : List AL.Item) (n : Str), Meets P f [.lst (.st .item) l none, .lst (.st .item) m none, .str n] [] (.ret (.int .i64 (changeR l m n)))) : PatOK P f p3c := by
  intro args S A hA ho _
  unfold p3c at hA
  split at hA
  · split at hA
    · rename_i l m hl hm
      simp only [Option.some.injEq] at hA
      subst hA
      exact ⟨he, Meets.args (.cons (Rd.arg hl) (.cons (Rd.arg hm) (.cons (Rd.refl _) .nil))) (h l m _)⟩
    · cases hA
  · cases hA

theorem funL_cons {F : Shape → Shape → Bool} {p q : Shape} : ∀ {r s : List Shape}, 0 < r.length → r.length = s.length → funL F (p :: r) (q :: s) = (F q p && funL F r s)
  | _ :: _, _ :: _, _, _ => rfl

end Go.Pd
