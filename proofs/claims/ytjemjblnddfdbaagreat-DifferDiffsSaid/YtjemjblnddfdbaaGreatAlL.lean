/-
  Regions that draw their order: every order that the edges allow comes to the same. Conditions: the table of types fits; the contracts hold.
-/
import Derived.Test.YtjemjblnddfdbaaGreatAlK
set_option linter.unusedVariables false
set_option linter.unusedSimpArgs false
set_option linter.unnecessarySimpa false
set_option linter.deprecated false
namespace Go.AL

/-! ### What an operation's effect hangs on -/
theorem reach_acc (look : Nat → Option SObj) : ∀ (n : Nat) (todo acc : List Nat), ∀ i ∈ acc, i ∈ reach look n todo acc
  | 0, todo, acc, i, h => by simpa [reach] using h
  | n + 1, [], acc, i, h => by simpa [reach] using h
  | n + 1, j :: r, acc, i, h => by
    simp only [reach]
    split
    · exact reach_acc look n r acc i h
    · exact reach_acc look n _ _ i (by simp [h])
theorem reach_congr {look look' : Nat → Option SObj} : ∀ (n : Nat) (todo acc : List Nat), (∀ i ∈ reach look n todo acc, look i = look' i) → reach look n todo acc = reach look' n todo acc
  | 0, todo, acc, h => rfl
  | n + 1, [], acc, h => rfl
  | n + 1, j :: r, acc, h => by
    simp only [reach] at h ⊢
    split
    · rename_i hc
      rw [if_pos hc] at h
      exact reach_congr n r acc h
    · rename_i hc
      rw [if_neg hc] at h
      have hj := h j (reach_acc look n _ _ j (by simp))
      rw [← hj]
      exact reach_congr n _ _ h
theorem lentOf_congr {C : Cfg} {f : Nat} {args : List AV} {look look' : Nat → Option SObj} (h : ∀ i ∈ (lentOf C f args look).map (·.1), look i = look' i) : lentOf C f args look = lentOf C f args look' := by
  have hm : (lentOf C f args look).map (·.1) = reach look 64 (ids.idsL args) [] := by simp [lentOf, Function.comp_def]
  rw [hm] at h
  have hr := reach_congr 64 (ids.idsL args) [] h
  unfold lentOf
  rw [← hr]
  apply List.map_congr_left
  intro i hi
  have hb : isBox look i = isBox look' i := by unfold isBox; rw [h i hi]
  rw [hb]

theorem canS_congr {look look' : Nat → Option SObj} {L : List Lent} : ∀ (l : List Lent) (j : Nat), (∀ i ∈ l.map (·.1), look i = look' i) → canS look L l j = canS look' L l j
  | [], j, _ => rfl
  | (i, r) :: l, j, h => by
    simp only [canS]
    rw [← h i (by simp), canS_congr l (j + 1) (fun k hk => h k (by simp only [List.map_cons]; exact List.mem_cons_of_mem _ hk))]

theorem backU_congr {look look' : Nat → Option SObj} {L : List Lent} {d : Nat} : ∀ (u : List (Nat × SObj)), (∀ i ∈ L.map (·.1), look i = look' i) → (∀ i ∈ newIds L d u, look i = look' i) → backU look L d u = backU look' L d u
  | [], _, _ => rfl
  | (k, o) :: u, h, hn => by
    simp only [backU]
    cases hk : lentAt L k with
    | some x =>
      obtain ⟨i, r⟩ := x
      have hm : i ∈ L.map (·.1) := List.mem_map.2 ⟨(i, r), nth_mem L _ _ (lentAt_spec hk).2, rfl⟩
      have ih := backU_congr u h (fun j hj => hn j (by simp only [newIds, List.filterMap_cons, hk] at hj ⊢; exact hj))
      simp only [← h i hm, ih]
    | none =>
      have ih := backU_congr u h (fun j hj => hn j (by
        simp only [newIds, List.filterMap_cons, hk] at hj ⊢
        exact List.mem_cons_of_mem _ hj))
      have h1 := hn (nid d k) (by simp only [newIds, List.filterMap_cons, hk]; exact List.mem_cons_self ..)
      simp only [← h1, ih]

theorem newIds_full {L : List Lent} {d : Nat} {S u : List (Nat × SObj)} (hS : ∀ x ∈ S, ∃ y, lentAt L x.1 = some y) : newIds L d (fullU S u) = newIds L d u := by
  have e : ∀ v w : List (Nat × SObj), newIds L d (v ++ w) = newIds L d v ++ newIds L d w := fun v w => List.filterMap_append
  have z : newIds L d (S.filter fun x => !(u.map (·.1)).contains x.1) = [] := by
    unfold newIds
    rw [List.filterMap_eq_nil_iff]
    intro x hx
    obtain ⟨y, hy⟩ := hS x (List.mem_filter.1 hx).1
    simp [hy]
  unfold fullU
  rw [e, z, List.append_nil]

/-- A call that comes to something comes to the same wherever the slots that it looks at are the same. -/
theorem callR_congr {C : Cfg} {d f : Nat} {args args' : List AV} {look look' : Nat → Option SObj} {r : CallR} (hr : callR C d f args look = some r) (hst : stripIf (C.keeps f) args = some args')
    (h1 : ∀ i ∈ (lentOf C f args' look).map (·.1), look i = look' i) (h2 : ∀ i ∈ r.foot, look i = look' i) : callR C d f args look' = some r := by
  unfold callR at hr ⊢
  rw [hst] at hr ⊢
  simp only at hr ⊢
  rw [← lentOf_congr h1]
  generalize lentOf C f args' look = L at hr h1 ⊢
  unfold callL at hr ⊢
  split at hr
  · rename_i hck
    have hd : distinct (L.map (·.1)) = true := by simp only [Bool.and_eq_true] at hck; exact hck.1.1
    rw [← canS_congr L 900 h1]
    split at hr
    · rename_i as S has hS
      split at hr
      · rename_i A hA
        have hSl : ∀ x ∈ S, ∃ y, lentAt L x.1 = some y := by
          intro x hx
          obtain ⟨q, i, r, o, e1, e2, _⟩ := (canS_spec L 900 S hS).1 x.1 x.2 (canS_mem L 900 S hS x hx)
          rw [e1]
          exact ⟨(i, r), lentAt_idx (idx_nth L i 900 q r hd e2)⟩
        unfold backR at hr ⊢
        split at hr
        · rename_i v u c1 c2 c3
          split at hr
          · rename_i hp
            simp at hr
            subst hr
            rw [c1, ← backU_congr (fullU S A.upd) h1 (by rw [newIds_full hSl]; exact h2), c2, c3]
          · rename_i b pv pu hp
            split at hr
            · rename_i pv' pu' q1 q2 q3
              simp at hr
              subst hr
              rw [c1, ← backU_congr (fullU S A.upd) h1 (by rw [newIds_full hSl]; exact fun i hi => h2 i (by simp [hi])), c2, c3]
              simp only
              rw [q1, ← backU_congr (fullU S pu) h1 (by rw [newIds_full hSl]; exact fun i hi => h2 i (by simp [hi])), q2, q3]
            · cases hr
        · cases hr
      · cases hr
    · cases hr
  · cases hr

/-- Is it a call of a function? -/
def isCall : Op → Bool
  | .call { callee := .value _, .. } => true
  | _ => false

theorem eff_local0 (C : Cfg) (o : Oper) (T T' : Nat → AV) (B B' : Nat → Option SObj) (hnc : isCall o.op = false) (h : ∀ x ∈ o.op.operands.toList, opd T x = opd T' x)
    (hb : ∀ id ∈ need C o T B, B id = B' id) : need C o T B = need C o T' B' ∧ effOf C o T B = effOf C o T' B' ∧ panOf C o T B = panOf C o T' B' := by
  suffices hs : need C o T B = need C o T' B' ∧ effOf C o T B = effOf C o T' B' by
    refine ⟨hs.1, hs.2, ?_⟩
    unfold panOf
    cases hop : o.op with
    | panic x => simp [hop, Op.operands] at h; simp [h]
    | call c =>
      obtain ⟨callee, args, ts⟩ := c
      cases callee with
      | builtin b => simp [callOf, hop, calleeOf]; cases o.dst <;> rfl
      | value f => rw [hop] at hnc; cases hnc
      | invoke r m => simp [callOf, hop, calleeOf]; cases o.dst <;> rfl
    | _ => rfl
  have mapEq : ∀ ps : Array (Nat × Operand), (∀ x ∈ (ps.toList.map (·.2)), opd T x = opd T' x) →
      (ps.toList.map fun (i, x) => (i, opd T x)) = (ps.toList.map fun (i, x) => (i, opd T' x)) := by
    intro ps hps
    apply List.map_congr_left
    rintro ⟨i, x⟩ hx
    simp only [Prod.mk.injEq, true_and]
    exact hps x (List.mem_map.2 ⟨(i, x), hx, rfl⟩)
  have bndEq : ∀ x : Option Operand, (∀ y ∈ x.toArray.toList, opd T y = opd T' y) → bnd T x = bnd T' x := by
    intro x hx
    cases x with
    | none => rfl
    | some y => simp only [bnd]; rw [hx y (by simp)]
  cases hop : o.op with
  | move x => simp [hop, Op.operands] at h; simp [need, effOf, hop, h]
  | assign x => simp [hop, Op.operands] at h; simp [need, effOf, hop, h]
  | pick c x y =>
    simp [hop, Op.operands] at h
    obtain ⟨h1, h2, h3⟩ := h
    simp only [need, effOf, hop, h1, h2, h3, and_self]
  | alloc e =>
    simp only [need, hop] at hb
    refine ⟨by simp only [need, hop], ?_⟩
    simp only [effOf, hop]
    split
    · rename_i d r h1 h2
      rw [hb d (by simp [h1])]
    · rfl
  | box e x =>
    simp [hop, Op.operands] at h
    simp only [need, hop] at hb
    refine ⟨by simp only [need, hop], ?_⟩
    simp only [effOf, hop]
    split
    · rename_i d r h1 h2
      rw [hb d (by simp [h1]), h]
    · rfl
  | build t ps =>
    simp only [hop, Op.operands] at h
    refine ⟨by simp only [need, hop], ?_⟩
    simp only [effOf, hop]
    rw [mapEq ps (by simpa using h)]
  | buildSlice t n ps =>
    simp only [hop, Op.operands] at h
    simp only [need, hop] at hb
    refine ⟨by simp only [need, hop], ?_⟩
    simp only [effOf, hop]
    split
    · rename_i d e sz by' z ty h1 h2
      rw [hb d (by simp [h1]), mapEq ps (by simpa using h)]
    · rfl
  | load t x =>
    simp [hop, Op.operands] at h
    simp only [need, hop] at hb
    refine ⟨by simp only [need, hop, h], ?_⟩
    simp only [effOf, hop]
    split
    · rw [← h]
      split
      · rename_i id off hx
        rw [hx] at hb
        rw [hb id (by simp)]
      · rfl
      · rename_i id i w off hx
        rw [hx] at hb
        rw [hb id (by simp)]
      · rfl
    · rfl
  | store t x y =>
    simp [hop, Op.operands] at h
    simp only [need, hop] at hb
    refine ⟨by simp only [need, hop, h.1], ?_⟩
    simp only [effOf, hop]
    split
    · rw [← h.1, ← h.2]
      split
      · rfl
      split
      · rename_i id off hx
        rw [hx] at hb
        rw [hb id (by simp)]
      · rename_i id i w off hx
        rw [hx] at hb
        rw [hb id (by simp)]
      · rfl
    · rfl
  | nilCheck x => simp [hop, Op.operands] at h; simp only [need, effOf, hop, h, and_self]
  | binOp op t x y t' =>
    simp [hop, Op.operands] at h
    simp only [need, effOf, hop, h.1, h.2, and_self]
  | unOp op t x => simp [hop, Op.operands] at h; simp only [need, effOf, hop, h, and_self]
  | convert t t' x => simp [hop, Op.operands] at h; simp only [need, effOf, hop, h, and_self]
  | fieldAddr t x f => simp [hop, Op.operands] at h; simp only [need, effOf, hop, h, and_self]
  | field t x f => simp [hop, Op.operands] at h; simp only [need, effOf, hop, h, and_self]
  | indexAddr t x y =>
    simp [hop, Op.operands] at h
    simp only [need, effOf, hop, h.1, h.2, and_self]
  | index t x y =>
    simp [hop, Op.operands] at h
    simp only [need, effOf, hop, h.1, h.2, and_self]
  | slice t x lo hi mx =>
    cases mx with
    | some _ => simp only [need, effOf, hop, and_self]
    | none =>
      simp only [hop, Op.operands] at h
      have h1 : opd T x = opd T' x := h x (by simp)
      have h2 : bnd T lo = bnd T' lo := bndEq lo (fun y hy => h y (by simp at hy ⊢; simp [hy]))
      have h3 : bnd T hi = bnd T' hi := bndEq hi (fun y hy => h y (by simp at hy ⊢; simp [hy]))
      simp only [need, effOf, hop, h1, h2, h3, and_self]
  | extract x i => simp [hop, Op.operands] at h; simp only [need, effOf, hop, h, and_self]
  | call c =>
    obtain ⟨callee, args, ts⟩ := c
    cases callee with
    | builtin b =>
      cases b with
      | len =>
        simp only [hop, Op.operands, Call.operands] at h
        simp only [need, hop] at hb
        refine ⟨?_, ?_⟩
        · simp only [need, hop]
          split
          · rename_i x hx
            rw [h x (by simp [hx])]
          · rfl
        · simp only [effOf, hop]
          split
          · rename_i x t hx ht
            rw [hx] at hb
            simp only at hb
            have hx' := h x (by simp [hx])
            rw [← hx']
            split
            · rfl
            · rfl
            · rfl
            · rfl
            · rename_i id _ hxe
              rw [hxe] at hb
              rw [hb id (by simp)]
            · rfl
          · rfl
      | append =>
        simp only [hop, Op.operands, Call.operands] at h
        simp only [need, hop] at hb
        refine ⟨?_, ?_⟩
        · simp only [need, hop]
          split
          · rename_i x y hx
            rw [h x (by simp [hx])]
          · rfl
        · simp only [effOf, hop]
          split
          · rename_i x y t t' d hx ht hdst
            split
            · rw [← h x (by simp [hx]), ← h y (by simp [hx])]
              rw [hx] at hb
              simp only at hb
              unfold appendF
              split
              · split
                · split
                  · rfl
                  · rfl
                  · rename_i hxe hye
                    rw [hxe] at hb
                    simp only at hb
                    rw [hb _ (by simp)]
                  · rename_i hxe hye
                    rw [hxe] at hb
                    simp only at hb
                    rw [hb d (by simp [hdst])]
                  · rfl
                · rfl
              · rfl
            · rfl
          · rfl
      | max =>
        simp only [hop, Op.operands, Call.operands] at h
        refine ⟨by simp only [need, hop, calleeOf], ?_⟩
        simp only [effOf, hop]
        split
        · rename_i x y hx
          rw [h x (by simp [hx]), h y (by simp [hx])]
        · rfl
      | min =>
        simp only [hop, Op.operands, Call.operands] at h
        refine ⟨by simp only [need, hop, calleeOf], ?_⟩
        simp only [effOf, hop]
        split
        · rename_i x y hx
          rw [h x (by simp [hx]), h y (by simp [hx])]
        · rfl
      | _ => simp only [need, effOf, hop, calleeOf, and_self]
    | value f => rw [hop] at hnc; cases hnc
    | invoke r m =>
      simp only [need, effOf, hop, callOf, calleeOf]
      exact ⟨trivial, by cases o.dst <;> rfl⟩
  | lookup t x k ok =>
    simp [hop, Op.operands] at h
    simp only [need, hop] at hb
    refine ⟨by simp only [need, hop, h.1], ?_⟩
    simp only [effOf, hop, ← h.1, ← h.2, lookupF]
    split
    · rename_i kt e sz by' z ty id hr hxe
      rw [hxe] at hb
      rw [hb id (by simp)]
    · rfl
  | mapUpdate t x k v =>
    simp [hop, Op.operands] at h
    simp only [need, hop] at hb
    refine ⟨by simp only [need, hop, h.1], ?_⟩
    simp only [effOf, hop, ← h.1, ← h.2.1, ← h.2.2, updateF]
    split
    · rename_i kt e sz by' z ty id hr hxe
      rw [hxe] at hb
      rw [hb id (by simp)]
    · rfl
  | insert t x k v =>
    simp [hop, Op.operands] at h
    simp only [need, hop] at hb
    refine ⟨by simp only [need, hop, h.1], ?_⟩
    simp only [effOf, hop, ← h.1, ← h.2.1, ← h.2.2, updateF]
    split
    · rename_i kt e sz by' z ty id hr hxe
      rw [hxe] at hb
      rw [hb id (by simp)]
    · rfl
  | makeMap t r =>
    simp only [hop, Op.operands] at h
    simp only [need, hop] at hb
    refine ⟨by simp only [need, hop], ?_⟩
    have hr : r.map (opd T) = r.map (opd T') := by
      cases r with
      | none => rfl
      | some y => simp only [Option.map_some]; rw [h y (by simp)]
    simp only [effOf, hop, hr]
    split
    · rename_i d k e sz by' z ty hd ht
      rw [hb d (by simp [hd])]
    · rfl
  | makeSlice t x y =>
    simp [hop, Op.operands] at h
    simp only [need, hop] at hb
    refine ⟨by simp only [need, hop], ?_⟩
    simp only [effOf, hop, h.1, h.2]
    split
    · rename_i d e sz by' z ty m n hd ht hx hy
      rw [hb d (by simp [hd])]
    · rfl
  | makeFunc f x y =>
    refine ⟨by simp only [need, hop], ?_⟩
    simp only [hop, Op.operands] at h
    have hy : y.toList.map (opd T) = y.toList.map (opd T') := List.map_congr_left fun z hz => h z (by simp at hz ⊢; simp [hz])
    cases f <;> simp only [effOf, hop, hy]
  | makeInterface t x => simp [hop, Op.operands] at h; simp only [need, effOf, hop, h, and_self]
  | typeAssert x t t' b => cases b <;> (simp [hop, Op.operands] at h; simp only [need, effOf, hop, h, and_self])
  | panic x => simp [hop, Op.operands] at h; simp only [need, effOf, hop, h, and_self]
  | _ => simp only [need, effOf, hop, and_self]

theorem eff_local (C : Cfg) (o : Oper) (T T' : Nat → AV) (B B' : Nat → Option SObj) {e : Eff} (h : ∀ x ∈ o.op.operands.toList, opd T x = opd T' x)
    (hb : ∀ id ∈ need C o T B, B id = B' id) (he : effOf C o T B = some e) : need C o T B = need C o T' B' ∧ effOf C o T' B' = some e ∧ panOf C o T B = panOf C o T' B' := by
  cases hc : isCall o.op with
  | false =>
    obtain ⟨h1, h2, h3⟩ := eff_local0 C o T T' B B' hc h hb
    exact ⟨h1, by rw [← h2, he], h3⟩
  | true =>
    obtain ⟨f0, args0, ts, hop⟩ : ∃ f0 args0 ts, o.op = .call { callee := .value f0, args := args0, argTypes := ts } := by
      cases hop : o.op with
      | call c =>
        obtain ⟨callee, args, ts⟩ := c
        cases callee with
        | value f => exact ⟨f, args, ts, rfl⟩
        | builtin b => rw [hop] at hc; cases hc
        | invoke r m => rw [hop] at hc; cases hc
      | _ => rw [hop] at hc; cases hc
    have hcal : calleeOf T { callee := .value f0, args := args0, argTypes := ts } = calleeOf T' { callee := .value f0, args := args0, argTypes := ts } := by
      simp only [hop, Op.operands, Call.operands] at h
      have ha : args0.toList.map (opd T) = args0.toList.map (opd T') := List.map_congr_left fun z hz => h z (by simp at hz ⊢; simp [hz])
      cases f0 with
      | func f => simp only [calleeOf, ha]
      | tmp t =>
        have ht : T t = T' t := h (.tmp t) (by simp)
        simp only [calleeOf, ha, ht]
      | _ => rfl
    have heff : ∃ r, callOf C o T B = some r ∧ r.eff = e := by
      simp only [effOf, hop] at he
      split at he
      · rename_i r hr; simp at he; exact ⟨r, hr, he⟩
      · cases he
    obtain ⟨r, hr, rfl⟩ := heff
    have hr0 := hr
    simp only [callOf, hop] at hr
    split at hr
    · rename_i c d hc' hdst
      simp at hc'
      subst hc'
      split at hr
      · rename_i f args hca
        have hca' := hca
        rw [hcal] at hca'
        obtain ⟨args', hst⟩ : ∃ args', stripIf (C.keeps f) args = some args' := by
          cases hs : stripIf (C.keeps f) args with
          | none => simp [callR, hs] at hr
          | some x => exact ⟨x, rfl⟩
        have hneed : need C o T B = (lentOf C f args' B).map (·.1) ++ r.foot := by
          simp only [need, hop, hca, hst]
          simp only [hr0]
        rw [hneed] at hb
        have h1 : ∀ i ∈ (lentOf C f args' B).map (·.1), B i = B' i := fun i hi => hb i (by simp only [List.mem_append]; exact Or.inl hi)
        have hr1 := callR_congr hr hst h1 (fun i hi => hb i (by simp only [List.mem_append]; exact Or.inr hi))
        have hr2 : callOf C o T' B' = some r := by simp only [callOf, hop, hdst, hca', hr1]
        refine ⟨?_, ?_, ?_⟩
        · rw [hneed]
          simp only [need, hop, hca', hst, hr2]
          rw [lentOf_congr h1]
        · simp only [effOf, hop, hr2]
        · simp only [panOf, hop, hr0, hr2]
      · cases hr
    · cases hr

theorem opd_congr {o : Oper} {T T' : Nat → AV} (h : ∀ t ∈ tmpsOf o, T t = T' t) : ∀ x ∈ o.op.operands.toList, opd T x = opd T' x := by
  intro x hx
  cases x with
  | tmp t =>
    simp only [opd]
    exact h t (by simp only [tmpsOf, List.mem_filterMap]; exact ⟨.tmp t, hx, rfl⟩)
  | _ => rfl

theorem gate_congr {ops : List Oper} {o : Oper} {T T' : Nat → AV} (h : ∀ t ∈ looksT ops o, T t = T' t) : gate ops o T = gate ops o T' := by
  unfold gate
  split
  · rfl
  · rename_i j want hg
    split
    · rfl
    · rename_i d hd
      rw [h d (by simp only [looksT, hg, List.mem_append]; right; simp [hd])]

/-- One operation's effect. -/
def StepE (C : Cfg) (ops : List Oper) (o : Oper) (s : AS) (v : AV) (u : List (Nat × SObj)) (f : Foot) : Prop :=
  (gate ops o s.T = some true ∧ ∃ e, effOf C o s.T s.B = some e ∧ e.asks ∧ panOf C o s.T s.B = none ∧ v = e.val ∧ u = e.upd ∧ f = (need C o s.T s.B, e.upd.map (·.1))) ∨
  (gate ops o s.T = some false ∧ v = .tup [] ∧ u = [] ∧ f = ([], []))

theorem Step.eff {C : Cfg} {ops : List Oper} {o : Oper} {s s1 : AS} {f : Foot} (hs : Step C ops o s s1 f) :
    ∃ v u, StepE C ops o s v u f ∧ s1 = ⟨updT s.T o.dst v, updB s.B u⟩ ∧ f.2 = u.map (·.1) := by
  rcases hs with ⟨h1, e, h2, h3, hp, rfl, rfl⟩ | ⟨h1, rfl, rfl⟩
  · exact ⟨e.val, e.upd, Or.inl ⟨h1, e, h2, h3, hp, rfl, rfl, rfl⟩, rfl, rfl⟩
  · exact ⟨.tup [], [], Or.inr ⟨h1, rfl, rfl, rfl⟩, rfl, rfl⟩
theorem StepE.step {C : Cfg} {ops : List Oper} {o : Oper} {s : AS} {v : AV} {u : List (Nat × SObj)} {f : Foot} (hs : StepE C ops o s v u f) :
    Step C ops o s ⟨updT s.T o.dst v, updB s.B u⟩ f := by
  rcases hs with ⟨h1, e, h2, h3, hp, rfl, rfl, rfl⟩ | ⟨h1, rfl, rfl, rfl⟩
  · exact Or.inl ⟨h1, e, h2, h3, hp, rfl, rfl⟩
  · exact Or.inr ⟨h1, rfl, rfl⟩
theorem StepE.other {C : Cfg} {ops : List Oper} {o : Oper} {s s' : AS} {v : AV} {u : List (Nat × SObj)} {f : Foot} (hs : StepE C ops o s v u f)
    (hT : ∀ t ∈ looksT ops o, s.T t = s'.T t) (hB : ∀ id ∈ f.1, s.B id = s'.B id) : StepE C ops o s' v u f := by
  have hg := gate_congr hT
  rcases hs with ⟨h1, e, h2, h3, hp, rfl, rfl, rfl⟩ | ⟨h1, rfl, rfl, rfl⟩
  · obtain ⟨l1, l2, l3⟩ := eff_local C o s.T s'.T s.B s'.B (opd_congr fun t ht => hT t (by simp [looksT, ht])) hB h2
    exact Or.inl ⟨by rw [← hg, h1], e, l2, h3, by rw [← l3, hp], rfl, rfl, by rw [l1]⟩
  · exact Or.inr ⟨by rw [← hg, h1], rfl, rfl, rfl⟩

theorem updB_at : ∀ (u : List (Nat × SObj)) (B : Nat → Option SObj) (j : Nat), j ∉ u.map (·.1) → updB B u j = B j
  | [], B, j, _ => rfl
  | (i, o) :: r, B, j, h => by
    simp at h
    simp only [updB]
    rw [updB_at r _ j (by simpa using h.2)]
    have : ¬ i = j := fun e => h.1 e.symm
    simp [this]

theorem updB_congr : ∀ (u : List (Nat × SObj)) (B B' : Nat → Option SObj) (j : Nat), B j = B' j → updB B u j = updB B' u j
  | [], B, B', j, h => h
  | (i, o) :: r, B, B', j, h => by
    simp only [updB]
    exact updB_congr r _ _ j (by show (if i = j then _ else _) = (if i = j then _ else _); rw [h])

theorem updB_comm (u v : List (Nat × SObj)) (B : Nat → Option SObj) (h : ∀ x ∈ u.map (·.1), x ∉ v.map (·.1)) : updB (updB B u) v = updB (updB B v) u := by
  funext j
  by_cases hu : j ∈ u.map (·.1)
  · rw [updB_at v _ j (h j hu)]
    exact updB_congr u _ _ j (updB_at v B j (h j hu)).symm
  · rw [updB_at u _ j hu]
    exact updB_congr v _ _ j (updB_at u B j hu)

theorem updT_comm {T : Nat → AV} {d d' : Option Nat} {x y : AV} (h : ∀ i, d = some i → d' ≠ some i) : updT (updT T d x) d' y = updT (updT T d' y) d x := by
  cases d with
  | none => rfl
  | some i =>
    cases d' with
    | none => rfl
    | some j =>
      have hij : ¬ i = j := fun e => h i rfl (by rw [e])
      funext k
      simp only [updT]
      by_cases h1 : i = k
      · subst h1
        have : ¬ j = i := fun e => hij e.symm
        simp [this]
      · simp [h1]

theorem updT_at {T : Nat → AV} {d : Option Nat} {v : AV} {t : Nat} (h : d ≠ some t) : updT T d v t = T t := by
  cases d with
  | none => rfl
  | some d =>
    simp only [updT]
    rw [if_neg (fun e => h (by rw [e]))]

theorem disj_spec {a b : List Nat} (h : disj a b = true) : ∀ x ∈ a, x ∉ b := by
  intro x hx
  have := List.all_eq_true.1 h x hx
  simpa using this

/-- Two that lie apart may change places. -/
theorem Step.swap {C : Cfg} {ops : List Oper} {x y : Oper} {s s1 s2 : AS} {f g : Foot} (hy : Step C ops y s s1 g) (hx : Step C ops x s1 s2 f)
    (ha : apartT ops y x = true) (hf : apartF g f = true) : ∃ s1', Step C ops x s s1' f ∧ Step C ops y s1' s2 g := by
  simp only [apartT, Bool.and_eq_true] at ha
  obtain ⟨ha1, ha2⟩ := ha
  simp only [apartF, Bool.and_eq_true] at hf
  have hf1 := disj_spec hf.1
  have hf2 := disj_spec hf.2
  have yd : ∀ t, y.dst = some t → t ∉ looksT ops x ∧ x.dst ≠ some t := by
    intro t ht
    rw [ht] at ha1
    simp at ha1
    exact ha1
  have xd : ∀ t, x.dst = some t → t ∉ looksT ops y := by
    intro t ht
    rw [ht] at ha2
    simpa using ha2
  obtain ⟨vy, uy, hy0, e1, ey⟩ := hy.eff
  subst e1
  obtain ⟨vx, ux, hx0, e2, ex⟩ := hx.eff
  subst e2
  have hx1 := hx0.other (s' := s)
    (fun t ht => updT_at (fun e => (yd t e).1 ht))
    (fun id hid => updB_at uy _ id (fun hm => hf1 id (by rw [ey]; exact hm) (by simp [hid])))
  have hy1 := hy0.other (s' := ⟨updT s.T x.dst vx, updB s.B ux⟩)
    (fun t ht => (updT_at (fun e => xd t e ht)).symm)
    (fun id hid => (updB_at ux _ id (fun hm => hf2 id (by rw [ex]; exact hm) hid)).symm)
  refine ⟨_, hx1.step, ?_⟩
  have h2 := hy1.step
  have hgoal : (⟨updT (updT s.T y.dst vy) x.dst vx, updB (updB s.B uy) ux⟩ : AS) = ⟨updT (updT s.T x.dst vx) y.dst vy, updB (updB s.B ux) uy⟩ := by
    rw [updT_comm (fun i hi => (yd i hi).2), updB_comm uy ux _ (fun i hi hi' => hf1 i (by rw [ey]; exact hi) (by simp [ex, hi']))]
  rw [hgoal]
  exact h2

/-! ### Every order -/
/-- The operations of some places, one behind the other. -/
def RunI (C : Cfg) (ops : List Oper) (fs : Nat → Foot) : List Nat → AS → AS → Prop
  | [], s, s' => s = s'
  | i :: r, s, s' => ∃ o s1, ops[i]? = some o ∧ Step C ops o s s1 (fs i) ∧ RunI C ops fs r s1 s'

def Apart (ops : List Oper) (fs : Nat → Foot) (j i : Nat) : Prop :=
  ∀ x y, ops[j]? = some x → ops[i]? = some y → apartT ops x y = true ∧ apartF (fs j) (fs i) = true

theorem RunI.front {C : Cfg} {ops : List Oper} {fs : Nat → Foot} : ∀ (r1 : List Nat) (i : Nat) (r2 : List Nat) (s sN : AS),
    RunI C ops fs (r1 ++ i :: r2) s sN → (∀ j ∈ r1, Apart ops fs j i) → RunI C ops fs (i :: (r1 ++ r2)) s sN
  | [], i, r2, s, sN, h, _ => h
  | j :: r1, i, r2, s, sN, h, ha => by
    obtain ⟨o, s1, ho, hs, hr⟩ := h
    obtain ⟨o', s2, ho', hs', hr'⟩ := RunI.front r1 i r2 s1 sN hr (fun j hj => ha j (by simp [hj]))
    obtain ⟨a1, a2⟩ := ha j (by simp) o o' ho ho'
    obtain ⟨s1', k1, k2⟩ := hs.swap hs' a1 a2
    exact ⟨o', s1', ho', k1, o, s2, ho, k2, hr'⟩

theorem runAll_runI (C : Cfg) (ops : List Oper) : ∀ (l : List Oper) (i : Nat) (s sN : AS) (fl : List Foot) (fs : Nat → Foot), ops.drop i = l → RunAll C ops l s fl sN →
    (∀ k, fs (i + k) = fl.getD k ([], [])) → RunI C ops fs (List.range' i l.length) s sN
  | [], i, s, sN, fl, fs, _, h, _ => h.1
  | o :: r, i, s, sN, fl, fs, hl, h, hf => by
    obtain ⟨s1, f, fs', hs, hr, rfl⟩ := h
    have hi : ops[i]? = some o := by
      have : (ops.drop i)[0]? = some o := by rw [hl]; rfl
      rw [List.getElem?_drop] at this
      simpa using this
    have hl' : ops.drop (i + 1) = r := by rw [← List.tail_drop, hl]; rfl
    refine ⟨o, s1, hi, ?_, runAll_runI C ops r (i + 1) s1 sN fs' fs hl' hr (fun k => ?_)⟩
    · have := hf 0
      simp at this
      rw [this]
      exact hs
    · have := hf (k + 1)
      simp at this
      rw [List.getD_eq_getElem?_getD, ← this]
      congr 1
      omega

end Go.AL
