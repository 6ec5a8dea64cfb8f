/-
  Each operation does what the evaluator says of it: maps, slices that are made, functions, interface values, the greater and the less. No condition.
-/
import Derived.Test.YtjemjblnddfdbaaGreatAlI
import Derived.MapKept
set_option linter.unusedVariables false
set_option linter.unusedSimpArgs false
set_option linter.unnecessarySimpa false
set_option linter.deprecated false
namespace Go.AL

/-! ### Association lists -/
section
variable {K V : Type} [DecidableEq K]
theorem mget_none {k : K} : ∀ {m : List (K × V)}, (∀ x ∈ m, x.1 ≠ k) → mget m k = none
  | [], _ => rfl
  | (a, v) :: r, h => by
    have h1 : ¬ k = a := fun e => h (a, v) (by simp) e.symm
    simp only [mget, h1, if_false]
    exact mget_none (fun x hx => h x (by simp [hx]))
theorem mget_at {k : K} {v : V} : ∀ {m : List (K × V)} {j : Nat}, (m.map (·.1)).Nodup → m[j]? = some (k, v) → mget m k = some v
  | [], j, _, h => by simp at h
  | (a, u) :: r, 0, _, h => by simp at h; obtain ⟨rfl, rfl⟩ := h; simp [mget]
  | (a, u) :: r, j + 1, hn, h => by
    simp only [List.map_cons, List.nodup_cons] at hn
    have hm : (k, v) ∈ r := List.mem_of_getElem? (by simpa using h)
    have h1 : ¬ k = a := fun e => hn.1 (by rw [← e]; exact List.mem_map.2 ⟨(k, v), hm, rfl⟩)
    simp only [mget, h1, if_false]
    exact mget_at hn.2 (by simpa using h)
theorem mset_none {k : K} {v : V} : ∀ {m : List (K × V)}, (∀ x ∈ m, x.1 ≠ k) → mset m k v = m ++ [(k, v)]
  | [], _ => rfl
  | (a, u) :: r, h => by
    have h1 : ¬ k = a := fun e => h (a, u) (by simp) e.symm
    simp only [mset, h1, if_false, List.cons_append]
    rw [mset_none (fun x hx => h x (by simp [hx]))]
theorem mset_at {k : K} {u v : V} : ∀ {m : List (K × V)} {j : Nat}, (m.map (·.1)).Nodup → m[j]? = some (k, u) → mset m k v = m.set j (k, v)
  | [], j, _, h => by simp at h
  | (a, w) :: r, 0, _, h => by simp at h; obtain ⟨rfl, rfl⟩ := h; simp [mset]
  | (a, w) :: r, j + 1, hn, h => by
    simp only [List.map_cons, List.nodup_cons] at hn
    have hm : (k, u) ∈ r := List.mem_of_getElem? (by simpa using h)
    have h1 : ¬ k = a := fun e => hn.1 (by rw [← e]; exact List.mem_map.2 ⟨(k, u), hm, rfl⟩)
    simp only [mset, h1, if_false, List.set_cons_succ]
    rw [mset_at hn.2 (by simpa using h)]
end

def keyV : (κ : Ty) → den κ → Value
  | .str, k => .string ⟨(show Str from k).toArray⟩
  | .int j, n => .int j n
  | _, _ => undef

theorem keyOK_cases {ti : TI} {κ : Ty} (h : keyOK ti κ = true) : (ti = .str ∧ κ = .str) ∨ ∃ j, ti = .int j ∧ κ = .int j := by
  unfold keyOK at h
  split at h
  · exact Or.inl ⟨rfl, rfl⟩
  · simp at h; subst h; exact Or.inr ⟨_, rfl, rfl⟩
  · cases h

theorem keyV_inj {ti : TI} {κ : Ty} (h : keyOK ti κ = true) {a b : den κ} (e : keyV κ a = keyV κ b) : a = b := by
  rcases keyOK_cases h with ⟨_, rfl⟩ | ⟨j, _, rfl⟩
  · simpa [keyV] using e
  · simpa [keyV] using e
theorem V_keyV {ti : TI} {κ : Ty} (h : keyOK ti κ = true) {Ω : Om} {k : den κ} {v : Value} (hv : V Ω (inj κ k) v) : v = keyV κ k := by
  rcases keyOK_cases h with ⟨_, rfl⟩ | ⟨j, _, rfl⟩
  · exact hv.str_inv.1
  · exact hv.int_inv.1
theorem keyV_isKey {ti : TI} {κ : Ty} (h : keyOK ti κ = true) {P : Program} {d : TypeDesc} (hd : descOK P ti d = true) (k : den κ) : MapKept.IsKey d (keyV κ k) := by
  rcases keyOK_cases h with ⟨rfl, rfl⟩ | ⟨j, rfl, rfl⟩
  · cases d <;> simp [descOK] at hd; trivial
  · cases d <;> simp [descOK] at hd; subst hd; trivial

/-- A key's place among a map's entries. -/
theorem MapOK.find {Ω : Om} {ti : TI} {κ τ : Ty} {m : List (den κ × den τ)} {es : Array MapEntry} {clock : Nat} (h : MapOK Ω κ τ m es clock) (hk : keyOK ti κ = true)
    {P : Program} {d : TypeDesc} (hd : descOK P ti d = true) {k : AV} {g : Option (den τ)} (hg : mapGet κ τ m k = some g) : ∃ k0 : den κ, k = inj κ k0 ∧
    ((Instr.findNow d (keyV κ k0) es.toList 0 = some none ∧ g = none ∧ (∀ x ∈ m, x.1 ≠ k0) ∧ ∀ v, mapSet κ τ m k v = some (m ++ [(k0, v)])) ∨
      ∃ j e v, Instr.findNow d (keyV κ k0) es.toList 0 = some (some (j, e.val)) ∧ es[j]? = some e ∧ m[j]? = some (k0, v) ∧ g = some v ∧ e.key = keyV κ k0 ∧
        ∀ u, mapSet κ τ m k u = some (m.set j (k0, u))) := by
  have hkeys : ∀ x ∈ es.toList, MapKept.IsKey d x.key := by
    intro x hx
    obtain ⟨j, hj, e⟩ := List.mem_iff_getElem.1 hx
    have hj' : j < m.length := by rw [← h.size]; simpa using hj
    have hej : es[j]? = some x := by
      rw [← Array.getElem?_toList, List.getElem?_eq_getElem hj, e]
    obtain ⟨h1, _⟩ := h.ent j x _ hej (List.getElem?_eq_getElem hj')
    rw [V_keyV hk h1]
    exact keyV_isKey hk hd _
  -- both kinds of keys at once
  have main : ∀ (k0 : den κ) (get : den κ → Option (den τ)) (set : den κ → den τ → List (den κ × den τ)),
      ((∀ x ∈ m, x.1 ≠ k0) → get k0 = none ∧ ∀ v, set k0 v = m ++ [(k0, v)]) →
      (∀ j v, m[j]? = some (k0, v) → get k0 = some v ∧ ∀ u, set k0 u = m.set j (k0, u)) →
      ((Instr.findNow d (keyV κ k0) es.toList 0 = some none ∧ get k0 = none ∧ (∀ x ∈ m, x.1 ≠ k0) ∧ ∀ v, set k0 v = m ++ [(k0, v)]) ∨
        ∃ j e v, Instr.findNow d (keyV κ k0) es.toList 0 = some (some (j, e.val)) ∧ es[j]? = some e ∧ m[j]? = some (k0, v) ∧ get k0 = some v ∧ e.key = keyV κ k0 ∧
          ∀ u, set k0 u = m.set j (k0, u)) := by
    intro k0 get set hn hs
    rcases MapKept.findNow_spec (keyV_isKey hk hd k0) es.toList 0 hkeys with ⟨h1, h2⟩ | ⟨j, e, h1, h2, h3⟩
    · have hne : ∀ x ∈ m, x.1 ≠ k0 := by
        intro x hx e
        obtain ⟨j, hj, e2⟩ := List.mem_iff_getElem.1 hx
        have hj' : j < es.size := by rw [h.size]; exact hj
        obtain ⟨q1, _⟩ := h.ent j es[j] x (Array.getElem?_eq_getElem hj') (by rw [List.getElem?_eq_getElem hj, e2])
        refine h2 es[j] (by simp) ?_
        rw [V_keyV hk q1, e]
      exact Or.inl ⟨h1, (hn hne).1, hne, (hn hne).2⟩
    · have hej : es[j]? = some e := by rw [← Array.getElem?_toList]; exact h2
      have hj : j < m.length := by
        rw [← h.size]
        rcases Nat.lt_or_ge j es.size with k | k
        · exact k
        · rw [Array.getElem?_eq_none k] at hej; cases hej
      obtain ⟨q1, _⟩ := h.ent j e m[j] hej (List.getElem?_eq_getElem hj)
      have hk0 : m[j].1 = k0 := by
        have := V_keyV hk q1
        rw [h3] at this
        exact (keyV_inj hk this).symm
      have hmj : m[j]? = some (k0, m[j].2) := by rw [List.getElem?_eq_getElem hj, ← hk0]
      obtain ⟨r1, r2⟩ := hs j _ hmj
      exact Or.inr ⟨j, e, _, by simpa using h1, hej, hmj, r1, h3, r2⟩
  rcases keyOK_cases hk with ⟨_, rfl⟩ | ⟨i, _, rfl⟩
  · cases k <;> simp only [mapGet, Option.some.injEq, reduceCtorEq] at hg
    rename_i k0
    refine ⟨k0, rfl, ?_⟩
    have := main k0 (fun k => mget (K := Str) m k) (fun k v => mset (K := Str) m k v)
      (fun hn => ⟨mget_none hn, fun v => mset_none hn⟩) (fun j v hj => ⟨mget_at h.keys hj, fun u => mset_at h.keys hj⟩)
    rw [← hg]
    simpa [mapSet] using this
  · cases k <;> simp only [mapGet, Option.some.injEq, reduceCtorEq] at hg
    rename_i i' k0
    split at hg
    · rename_i hii
      subst hii
      refine ⟨k0, rfl, ?_⟩
      have := main k0 (fun k => mget (K := Int) m k) (fun k v => mset (K := Int) m k v)
        (fun hn => ⟨mget_none hn, fun v => mset_none hn⟩) (fun j v hj => ⟨mget_at h.keys hj, fun u => mset_at h.keys hj⟩)
      simp only [Option.some.injEq] at hg
      rw [← hg]
      simpa [mapSet] using this
    · cases hg

section
variable {P : Program} {C : Cfg} {o : Oper}

/-- A type's zero, as a datum. -/
theorem zero_V (hT : TblOK P C.tbl) {e : Nat} {re : TR} (hre : tlook C.tbl e = some re) {τ : Ty} (hty : re.ty = some τ) {z : den τ} (hz : pack τ re.zero = some z) (Ω : Om) :
    ∃ i v, P.info? e = some i ∧ i.zero = some v ∧ V Ω (inj τ z) v ∧ VL Ω (cells τ z) v.cells.toList := by
  obtain ⟨i, v, i1, i2, i3, i4, i5⟩ := (hT _ _ hre).info
  have hag := (hT _ _ hre).zagg i v i1 i4
  have hst := ((hT _ _ hre).ty τ hty).2
  have hvl : VL Ω (cells τ z) v.cells.toList := by
    have := VL_const Ω v.cells.toList
    rw [i5] at this
    exact this.rd (pack_rd τ hz)
  refine ⟨i, v, i1, i4, ?_, hvl⟩
  cases τ with
  | st n =>
    have : zAgg v = true := by rw [hag, ← hst]; rfl
    cases v <;> simp [zAgg] at this
    rename_i cs
    have e : (Value.agg cs).cells.toList.toArray = cs := by simp [Value.cells]
    have := V.st (Ω := Ω) n z (.agg (Value.agg cs).cells.toList.toArray) (V.of_agg hvl)
    rw [e] at this
    exact this
  | _ =>
    have : zAgg v = false := by rw [hag, ← hst]; rfl
    have hc : v.cells.toList = [v] := by cases v <;> simp [zAgg] at this <;> rfl
    rw [hc] at hvl
    exact hvl.head

theorem ok_lookup (hT : TblOK P C.tbl) {t : Nat} {x k : Operand} {ok : Bool} (hop : o.op = .lookup t x k ok) : OpOK P C o := by
  refine OpOK.pure fun F s a Ω eff h he ho => ?_
  simp only [effOf, hop, lookupF] at he
  have hx := V_opd h x
  have hk := V_opd h k
  split at he
  · rename_i kt e sz by' z0 ty id hr hxe
    rw [hxe] at hx
    split at he
    · rename_i rk re κ τ m hrk hre hm
      split at he
      · rename_i z g hz hg
        split at he
        · rename_i hc
          simp only [Bool.and_eq_true, decide_eq_true_eq] at hc
          obtain ⟨hko, hty⟩ := hc
          simp only [Option.some.injEq] at he
          subst he
          obtain ⟨d, hd1, hd2⟩ := desc_of hT hr rfl
          cases d <;> simp [descOK] at hd2
          obtain ⟨rfl, rfl⟩ := hd2
          obtain ⟨dk, hk1, hk2⟩ := desc_of hT hrk rfl
          generalize hxv : a.eval x = xv at hx
          cases hx with
          | map _ r her =>
            obtain ⟨r', e1, e2, es, clock, e3, e4⟩ := h.slots _ _ hm
            rw [her] at e1
            simp only [Option.some.injEq, CObj.obj.injEq] at e1
            subst e1
            obtain ⟨k0, hk0, hf⟩ := e4.find hko hk2 hg
            rw [hk0] at hk
            have hkv := V_keyV hko hk
            obtain ⟨i, zv, i1, i4, zV, _⟩ := zero_V hT hre hty hz Ω
            have hck := fun em => MapKept.run_checkKey (P := P) (w := Ω.w) hk1 (keyV_isKey hko hk2 k0) em 9999
            have hgo := MapKept.run_getObj_map (P := P) e3
            rcases hf with ⟨h1, h2, h3, h4⟩ | ⟨j, en, v, h1, h2, h3, h4, h5, h6⟩
            · have hfk := MapKept.run_findKey (P := P) (w := Ω.w) hk1 h1
              subst h2
              cases ok with
              | true =>
                refine ⟨rfl, .tuple #[zv, .bool false], ?_, ?_⟩
                · simp [execOp, hop, hxv, hkv, Instr.lookup, run_und hd1, hgo, hck, hfk, run_zero i1 i4]
                · exact V.of_tup (VL.cons zV (VL.cons (.bool false) .nil))
              | false =>
                refine ⟨rfl, zv, ?_, zV⟩
                simp [execOp, hop, hxv, hkv, Instr.lookup, run_und hd1, hgo, hck, hfk, run_zero i1 i4]
            · have hfk := MapKept.run_findKey (P := P) (w := Ω.w) hk1 h1
              subst h4
              have hv := (e4.ent j en _ h2 h3).2
              cases ok with
              | true =>
                refine ⟨rfl, .tuple #[en.val, .bool true], ?_, ?_⟩
                · simp [execOp, hop, hxv, hkv, Instr.lookup, run_und hd1, hgo, hck, hfk]
                · exact V.of_tup (VL.cons hv (VL.cons (.bool true) .nil))
              | false =>
                refine ⟨rfl, en.val, ?_, hv⟩
                simp [execOp, hop, hxv, hkv, Instr.lookup, run_und hd1, hgo, hck, hfk]
        · simp at he
      · simp at he
    · simp at he
  · simp at he

theorem ok_makeFunc {f : Fn} {first caps : Array Operand} (hop : o.op = .makeFunc f first caps) : OpOK P C o := by
  refine OpOK.pure fun F s a Ω eff h he ho => ?_
  cases f with
  | func f =>
    simp only [effOf, hop] at he
    split at he
    · rename_i hem
      simp only [Option.some.injEq] at he
      subst he
      have hf0 : first = #[] := by simpa using hem
      subst hf0
      refine ⟨rfl, .func (.func f) #[] (caps.map a.eval), by simp [execOp, hop, Instr.makeFunc], ?_⟩
      have : (caps.map a.eval) = (caps.toList.map a.eval).toArray := by apply Array.ext'; simp
      rw [this]
      refine V.fn f _ _ (by simp) (fun j c v hc hv => ?_)
      simp only [List.getElem?_map, Option.map_eq_some_iff] at hc hv
      obtain ⟨y, hy, rfl⟩ := hc
      obtain ⟨y', hy', rfl⟩ := hv
      rw [hy] at hy'
      simp at hy'
      subst hy'
      exact V_opd h y
    · simp at he
  | _ => simp [effOf, hop] at he

theorem ok_makeInterface (hT : TblOK P C.tbl) {t : Nat} {x : Operand} (hop : o.op = .makeInterface t x) : OpOK P C o := by
  refine OpOK.pure fun F s a Ω eff h he ho => ?_
  simp only [effOf, hop] at he
  split at he
  · rename_i r hr
    split at he
    · cases he
    · rename_i hti
      simp only [Option.some.injEq] at he
      subst he
      obtain ⟨d, hd1, hd2⟩ := desc_of hT hr rfl
      refine ⟨rfl, .iface t (a.eval x), ?_, .iface t _ _ (V_opd h x)⟩
      have hn : ∀ ms, d ≠ .interface ms := by
        intro ms e
        subst e
        generalize r.ti = ti at hti hd2
        cases ti <;> first | exact hti rfl | cases hd2
      simp only [execOp, hop, Instr.makeInterface, Sem.run_bind, run_und hd1, Result.andThen_ok]
      cases d <;> first | exact absurd rfl (hn _) | rfl
  · simp at he

theorem ok_typeAssert (hT : TblOK P C.tbl) {t t' : Nat} {b : Bool} {x : Operand} (hop : o.op = .typeAssert x t' t b) : OpOK P C o := by
  refine OpOK.pure fun F s a Ω eff h he ho => ?_
  cases b with
  | false => simp [effOf, hop] at he
  | true =>
    simp only [effOf, hop] at he
    split at he
    · rename_i t1 c r hx0 hr
      have hx := V_opd h x
      rw [hx0] at hx
      split at he
      · cases he
      · rename_i hti
        split at he
        · rename_i et
          subst et
          simp only [Option.some.injEq] at he
          subst he
          obtain ⟨d, hd1, hd2⟩ := desc_of hT hr rfl
          have hn : ∀ ms, d ≠ .interface ms := by
            intro ms e
            subst e
            generalize r.ti = ti at hti hd2
            cases ti <;> first | exact hti rfl | cases hd2
          generalize hxv : a.eval x = xv at hx
          cases hx with
          | iface _ _ v hv =>
            refine ⟨rfl, .tuple #[v, .bool true], ?_, ?_⟩
            · simp only [execOp, hop, hxv, Instr.typeAssert, Sem.run_bind, run_und hd1, Result.andThen_ok]
              cases d <;> first | exact absurd rfl (hn _) | simp
            · exact .tup [c, .bool true] [v, .bool true] rfl (VL.cons hv (VL.cons (.bool true) .nil)).2
        · cases he
    · simp at he

theorem run_min2 {k : IntKind} {m n : Int} {w : World} : (Builtin.min2 (.int k m) (.int k n)).run P w = .ok (.int k (min m n)) w := by
  simp only [Builtin.min2, Sem.run_pure]
  congr 2
  split <;> omega
theorem run_max2 {k : IntKind} {m n : Int} {w : World} : (Builtin.max2 (.int k m) (.int k n)).run P w = .ok (.int k (max m n)) w := by
  simp only [Builtin.max2, Sem.run_pure]
  congr 2
  split <;> omega

theorem ok_max {args : Array Operand} {ts : Array Nat} (hop : o.op = .call { callee := .builtin .max, args := args, argTypes := ts }) : OpOK P C o := by
  refine OpOK.pure fun F s a Ω eff h he ho => ?_
  simp only [effOf, hop] at he
  split at he
  · rename_i x y hargs
    have ha : args = #[x, y] := by apply Array.ext'; simpa using hargs
    subst ha
    have hx := V_opd h x
    have hy := V_opd h y
    split at he
    · rename_i k m k' n hm hn
      rw [hm] at hx
      rw [hn] at hy
      split at he
      · rename_i hk
        subst hk
        simp only [Option.some.injEq] at he
        subst he
        obtain ⟨hx1, hx2, hx3⟩ := hx.int_inv
        obtain ⟨hy1, hy2, hy3⟩ := hy.int_inv
        refine ⟨rfl, .int k (max m n), ?_, .int k _ (by omega) (by omega)⟩
        simp [execOp, hop, resolve, invoke, builtin, hx1, hy1, Builtin.max_, run_max2]
      · cases he
    · cases he
  · cases he

theorem ok_min {args : Array Operand} {ts : Array Nat} (hop : o.op = .call { callee := .builtin .min, args := args, argTypes := ts }) : OpOK P C o := by
  refine OpOK.pure fun F s a Ω eff h he ho => ?_
  simp only [effOf, hop] at he
  split at he
  · rename_i x y hargs
    have ha : args = #[x, y] := by apply Array.ext'; simpa using hargs
    subst ha
    have hx := V_opd h x
    have hy := V_opd h y
    split at he
    · rename_i k m k' n hm hn
      rw [hm] at hx
      rw [hn] at hy
      split at he
      · rename_i hk
        subst hk
        simp only [Option.some.injEq] at he
        subst he
        obtain ⟨hx1, hx2, hx3⟩ := hx.int_inv
        obtain ⟨hy1, hy2, hy3⟩ := hy.int_inv
        refine ⟨rfl, .int k (min m n), ?_, .int k _ (by omega) (by omega)⟩
        simp [execOp, hop, resolve, invoke, builtin, hx1, hy1, Builtin.min_, run_min2]
      · cases he
    · cases he
  · cases he

theorem run_makeMap0 {t : Nat} {w : World} : (Instr.makeMap t none).run P w = .ok (.map (some w.heap.size)) (w.alloc (.map #[] 0)) := rfl
theorem run_makeMap1 {t k e : Nat} (hu : P.underlying t = some (.map k e)) {i : IntKind} {n : Int} {w : World} : (Instr.makeMap t (some (.int i n))).run P w = .ok (.map (some w.heap.size)) (w.alloc (.map #[] 0)) := by
  unfold Instr.makeMap
  simp only [Sem.run_bind, run_und hu, Result.andThen_ok]
  rfl

/-- A new block of another kind behind a new slot. -/
theorem ok_makeMap (hT : TblOK P C.tbl) {t : Nat} {hint : Option Operand} (hop : o.op = .makeMap t hint) : OpOK P C o := by
  intro F s a Ω eff next Q h hd he ho hn
  simp only [effOf, hop] at he
  split at he
  · rename_i d k e sz by' z ty hdst hr
    split at he
    · rename_i _ _ _ _ κ _ _ _ _ τ hrk hre hB
      obtain ⟨dd, hd1, hd2⟩ := desc_of hT hr rfl
      cases dd <;> simp [descOK] at hd2
      have hh : Holds F ⟨updT s.T o.dst (.map d), updB s.B [(d, .map κ τ [])]⟩ (a.put o.dst (.map (some Ω.w.heap.size)))
          ⟨fun i => if d = i then some (.obj Ω.w.heap.size) else Ω.e i, Ω.w.alloc (.map #[] 0), fun b o => Ω.pub b o ∨ (b = Ω.w.heap.size ∧ False)⟩ := by
        refine h.alloc (p := fun _ => False) (Or.inl (h.dom d hB)) (fun b o hb => hb) (fun hx => ?_) (fun _ hf => hf.elim) (fun hx => ?_) hd
        · refine ⟨Ω.w.heap.size, by simp, fun _ => Or.inl h.frame.size, #[], 0, heap_new _ _, ⟨rfl, fun i e x he => by simp at he, by simp, fun i e he => by simp at he, fun i j e f he => by simp at he⟩⟩
        · exact .map d _ (by simp)
      split at he
      · simp only [Option.some.injEq] at he
        subst he
        rename_i hh'
        have hnone : hint = none := by cases hint with | none => rfl | some y => simp at hh'
        subst hnone
        exact wp_value (v := .map (some Ω.w.heap.size)) (w' := Ω.w.alloc (.map #[] 0)) (by simp [execOp, hop, run_makeMap0]) (hn _ _ hh)
      · simp only [Option.some.injEq] at he
        subst he
        rename_i kk nn hh'
        cases hint with
        | none => cases hh'
        | some y =>
          simp only [Option.map_some, Option.some.injEq] at hh'
          have hy := V_opd h y
          rw [hh'] at hy
          exact wp_value (v := .map (some Ω.w.heap.size)) (w' := Ω.w.alloc (.map #[] 0)) (by simp [execOp, hop, hy.int_inv.1, run_makeMap1 hd1]) (hn _ _ hh)
      · cases he
    · cases he
  · cases he

/-- A map takes an entry; no other block turns. -/
theorem ok_update' (hT : TblOK P C.tbl) {t : Nat} {x k v : Operand} (hop : o.op = .mapUpdate t x k v ∨ o.op = .insert t x k v) {F : Fr} {s : AS} {a : Act} {Ω : Om} {eff : Eff} {next : Act → World → Prop} {Q : Exit → Act → World → Prop}
    (h : Holds F s a Ω) (hd : ∀ d, o.dst = some d → d < F.n) (he : effOf C o s.T s.B = some eff)
    (hn : ∀ a' Ω', Holds F (s.put o.dst eff) a' Ω' → a' = a.put o.dst undef → (∀ id, opd s.T x = .map id → ∀ r, Ω.e id = some (.obj r) → ∀ b, b ≠ r → Ω'.w.heap[b]? = Ω.w.heap[b]?) → (∀ i, Ω'.e i = Ω.e i) → (∀ b o, Ω'.pub b o ↔ Ω.pub b o) → next a' Ω'.w) : o.wp P a Ω.w next Q := by
  have he : updateF C t (opd s.T x) (opd s.T k) (opd s.T v) s.B = some eff := by
    rcases hop with hop | hop <;> simpa only [effOf, hop] using he
  have hex : ∀ w, (execOp a.eval o).run P w = ((Instr.mapUpdate t (a.eval x) (a.eval k) (a.eval v)).run P w).andThen fun _ w' => .ok .skip w' := by
    intro w
    rcases hop with hop | hop <;> simp [execOp, hop]
  unfold updateF at he
  have hx := V_opd h x
  have hk := V_opd h k
  have hv := V_opd h v
  split at he
  · rename_i kt e sz by' z0 ty id hr hxe
    rw [hxe] at hx
    split at he
    · rename_i rk κ τ m hrk hm
      split at he
      · rename_i u hu
        split at he
        · rename_i m' hm'
          split at he
          · rename_i hko
            simp only [Option.some.injEq] at he
            subst he
            obtain ⟨d, hd1, hd2⟩ := desc_of hT hr rfl
            cases d <;> simp [descOK] at hd2
            obtain ⟨rfl, rfl⟩ := hd2
            obtain ⟨dk, hk1, hk2⟩ := desc_of hT hrk rfl
            have hvu := arg_V hv hu
            generalize hxv : a.eval x = xv at hx
            cases hx with
            | map _ r her =>
              obtain ⟨r', e1, e2, es, clock, e3, e4⟩ := h.slots _ _ hm
              rw [her] at e1
              simp only [Option.some.injEq, CObj.obj.injEq] at e1
              subst e1
              obtain ⟨g, hg⟩ : ∃ g, mapGet κ τ m (opd s.T k) = some g := by
                rcases keyOK_cases hko with ⟨_, rfl⟩ | ⟨i, _, rfl⟩
                · cases hkk : opd s.T k <;> rw [hkk] at hm' <;> simp [mapSet] at hm'
                  exact ⟨_, rfl⟩
                · cases hkk : opd s.T k <;> rw [hkk] at hm' <;> simp [mapSet] at hm'
                  exact ⟨_, by simp [mapGet, hm'.1]; rfl⟩
              obtain ⟨k0, hk0, hf⟩ := e4.find hko hk2 hg
              have hkV := hk
              rw [hk0] at hkV
              have hkv := V_keyV hko hkV
              have hck := fun em => MapKept.run_checkKey (P := P) (w := Ω.w) hk1 (keyV_isKey hko hk2 k0) em 9999
              have hgo := MapKept.run_getObj_map (P := P) e3
              -- whatever the entries become
              have fin : ∀ (es' : Array MapEntry) (clock' : Nat), MapOK Ω κ τ m' es' clock' → (Instr.mapUpdate t (a.eval x) (a.eval k) (a.eval v)).run P Ω.w = .ok () { Ω.w with heap := Ω.w.heap.setIfInBounds r (.map es' clock') } →
                  o.wp P a Ω.w next Q := by
                intro es' clock' hmo hrun
                have hheap := MapKept.heap_set (o' := .map es' clock') e3
                have hpne : ∀ b o, Ω.pub b o → b ≠ r := by
                  intro b o hp e
                  subst e
                  obtain ⟨v, hv⟩ := h.pubok b o hp
                  simp [World.cell?, e3] at hv
                have hxx : Ext Ω ⟨fun i => if id = i then some (.obj r) else Ω.e i, { Ω.w with heap := Ω.w.heap.setIfInBounds r (.map es' clock') }, Ω.pub⟩ := by
                  refine ⟨fun i c hc => ?_, fun _ _ p => p, fun b o hp => cell_of_block (hheap.2 b (hpne b o hp)) o⟩
                  by_cases hid : id = i
                  · subst hid; rw [her] at hc; simp at hc; subst hc; exact ⟨.obj r, by simp, CLe.refl _⟩
                  · exact ⟨c, by simp [hid, hc], CLe.refl _⟩
                have hsz : (Ω.w.heap.setIfInBounds r (.map es' clock')).size = Ω.w.heap.size := by simp
                have hh := h.slot (k := id) (c := .obj r) (obj := .map κ τ m') (dst := o.dst) (val := .undef) (v := undef) hxx
                  ⟨r, by simp, e2, es', clock', hheap.1, hmo.ext hxx⟩
                  (fun i c' hi hc => Kept.of_blocks fun b o hb => ⟨hheap.2 b (fun e => by
                    subst e
                    exact hi (h.inj i id _ _ b o hc her hb rfl)), fun _ p => p⟩)
                  (fun i c' b o hi hc hb hb' => absurd (h.inj i id _ _ b o hc her hb hb') hi)
                  (fun b o hp => by
                    obtain ⟨v, hv⟩ := h.pubok b o hp
                    exact ⟨v, by rw [cell_of_block (hheap.2 b (hpne b o hp)) o, hv]⟩)
                  (by
                    have hold : ∀ b, b < F.w0.heap.size → (¬ ∀ o, F.br b o) → b ≠ r := by
                      intro b hb hnb e
                      subst e
                      refine hnb (fun o => ?_)
                      rcases e2 o with k | k
                      · omega
                      · exact k
                    exact ⟨h.frame.os, h.frame.tape, h.frame.output, by simpa using h.frame.size,
                      fun b hb hnb => (hheap.2 b (hold b hb (fun k => hnb 0 (k 0)))).trans (h.frame.block b hb hnb),
                      fun b o hb hnb => (cell_of_block (hheap.2 b (hold b hb (fun k => hnb (k o)))) o).trans (h.frame.cell b o hb hnb),
                      fun b hb hnb => ⟨(shape_of_block (hheap.2 b (hold b hb hnb))).trans (h.frame.kind b hb hnb).1, fun o => (frozen_of_block (hheap.2 b (hold b hb hnb)) o).trans ((h.frame.kind b hb hnb).2 o)⟩,
                      h.frame.pub, h.frame.old, fun b o hp => (hxx.cell b o (h.frame.old b o hp)).trans (h.frame.pcell b o hp)⟩)
                  (.undef undef) hd
                exact wp_skip' (w' := { Ω.w with heap := Ω.w.heap.setIfInBounds r (.map es' clock') }) (by rw [hex, hrun]; rfl) (hn _ _ hh rfl (fun id' hid' r' hr' b hb => by
                  rw [hxe] at hid'
                  cases hid'
                  rw [her] at hr'
                  cases hr'
                  exact hheap.2 b hb) (fun i => by
                  show (if id = i then some (CObj.obj r) else Ω.e i) = Ω.e i
                  by_cases hid : id = i
                  · subst hid; simp [her]
                  · simp [hid]) (fun b o => Iff.rfl))
              rcases hf with ⟨h1, h2, h3, h4⟩ | ⟨j, en, v0, h1, h2, h3, h4, h5, h6⟩
              · have hfk := MapKept.run_findKey (P := P) (w := Ω.w) hk1 h1
                have hmm : m' = m ++ [(k0, u)] := by
                  have := h4 u
                  rw [hm'] at this
                  exact Option.some.inj this
                subst hmm
                refine fin (es.push { key := keyV κ k0, val := a.eval v, born := clock }) (clock + 1) ⟨by simp [e4.size], fun i en x hen hx => ?_, ?_, fun i en hen => ?_, fun i j en en' hen hen' hij => ?_⟩ ?_
                · rw [Array.getElem?_push] at hen
                  split at hen
                  · rename_i hi
                    simp at hen
                    subst hen
                    rw [List.getElem?_append_right (by rw [← e4.size]; omega), hi, e4.size] at hx
                    simp at hx
                    subst hx
                    rw [← hkv]
                    exact ⟨hkV, hvu⟩
                  · have hi : i < es.size := by
                      rcases Nat.lt_or_ge i es.size with k | k
                      · exact k
                      · rw [Array.getElem?_eq_none k] at hen; cases hen
                    rw [List.getElem?_append_left (by rw [← e4.size]; exact hi)] at hx
                    exact e4.ent i en x hen hx
                · rw [List.map_append]
                  refine List.nodup_append.2 ⟨e4.keys, by simp, fun y hy z hz => ?_⟩
                  obtain ⟨x, hx, rfl⟩ := List.mem_map.1 hy
                  simp at hz
                  subst hz
                  exact h3 x hx
                · rw [Array.getElem?_push] at hen
                  split at hen
                  · simp at hen; subst hen; simp
                  · have := e4.born i en hen; omega
                · rw [Array.getElem?_push] at hen hen'
                  split at hen'
                  · rename_i hj
                    simp at hen'
                    subst hen'
                    split at hen
                    · omega
                    · exact e4.born i en hen
                  · split at hen
                    · rename_i hi
                      have : j < es.size := by
                        rcases Nat.lt_or_ge j es.size with k | k
                        · exact k
                        · rw [Array.getElem?_eq_none k] at hen'; cases hen'
                      omega
                    · exact e4.rise i j en en' hen hen' hij
                · rw [hxv, hkv]
                  simp [Instr.mapUpdate, run_und hd1, hgo, hck, hfk, MapKept.run_setObj_map _ e3]
              · have hfk := MapKept.run_findKey (P := P) (w := Ω.w) hk1 h1
                have hmm : m' = m.set j (k0, u) := by
                  have := h6 u
                  rw [hm'] at this
                  exact Option.some.inj this
                subst hmm
                have hjl : j < es.size := by
                  rcases Nat.lt_or_ge j es.size with k | k
                  · exact k
                  · rw [Array.getElem?_eq_none k] at h2; cases h2
                have hkk : ((m.set j (k0, u)).map (·.1)) = m.map (·.1) := by
                  rw [List.map_set]
                  apply List.ext_getElem?
                  intro i
                  rw [List.getElem?_set]
                  by_cases hij : j = i
                  · subst hij
                    simp only [List.length_map, List.getElem?_map, h3, Option.map_some, if_true]
                    rw [if_pos (by rw [← e4.size]; exact hjl)]
                  · simp [hij]
                refine fin (es.modify j fun e => { e with key := keyV κ k0, val := a.eval v }) clock ⟨by simp [e4.size], fun i en' x hen hx => ?_, by rw [hkk]; exact e4.keys, fun i en' hen => ?_, fun i i' en1 en2 hen hen' hij => ?_⟩ ?_
                · rw [Array.getElem?_modify] at hen
                  rw [List.getElem?_set] at hx
                  by_cases hij : j = i
                  · subst hij
                    simp [h2] at hen
                    simp [← e4.size, hjl] at hx
                    subst hen hx
                    rw [← hkv]
                    exact ⟨hkV, hvu⟩
                  · simp [hij] at hen hx
                    exact e4.ent i en' x hen hx
                · rw [Array.getElem?_modify] at hen
                  by_cases hij : j = i
                  · subst hij
                    simp [h2] at hen
                    subst hen
                    exact e4.born j en h2
                  · simp [hij] at hen
                    exact e4.born i en' hen
                · have hb : ∀ (i : Nat) (e1 : MapEntry), (es.modify j fun e => { e with key := keyV κ k0, val := a.eval v })[i]? = some e1 → ∃ e2, es[i]? = some e2 ∧ e2.born = e1.born := by
                    intro i e1 h1
                    rw [Array.getElem?_modify] at h1
                    by_cases hij : j = i
                    · subst hij
                      simp [h2] at h1
                      subst h1
                      exact ⟨en, h2, rfl⟩
                    · simp [hij] at h1
                      exact ⟨e1, h1, rfl⟩
                  obtain ⟨f1, g1, g2⟩ := hb i en1 hen
                  obtain ⟨f2, g3, g4⟩ := hb i' en2 hen'
                  rw [← g2, ← g4]
                  exact e4.rise i i' f1 f2 g1 g3 hij
                · rw [hxv, hkv]
                  simp [Instr.mapUpdate, run_und hd1, hgo, hck, hfk, h2, h5, MapKept.run_keyThatStays (keyV_isKey hko hk2 k0), MapKept.run_setObj_map _ e3]
          · cases he
        · cases he
      · cases he
    · cases he
  · cases he

theorem ok_update (hT : TblOK P C.tbl) {t : Nat} {x k v : Operand} (hop : o.op = .mapUpdate t x k v ∨ o.op = .insert t x k v) : OpOK P C o :=
  fun _ _ _ _ _ _ _ h hd he _ hn => ok_update' hT hop h hd he fun a' Ω' hh _ _ _ _ => hn a' Ω' hh

theorem flat_inv (τ : Ty) : ∀ (xs : List (den τ)) (q : Nat) (c : AV), (flat τ xs)[q]? = some c → ∃ i x j, xs[i]? = some x ∧ (cells τ x)[j]? = some c ∧ q = i * width τ + j ∧ j < width τ
  | [], q, c, h => by simp [flat] at h
  | x :: xs, q, c, h => by
    simp only [flat, List.flatMap_cons] at h
    by_cases hq : q < (cells τ x).length
    · rw [List.getElem?_append_left hq] at h
      exact ⟨0, x, q, rfl, h, by simp, by rw [← width_cells τ x]; exact hq⟩
    · rw [List.getElem?_append_right (by omega)] at h
      obtain ⟨i, y, j, h1, h2, h3, h4⟩ := flat_inv τ xs _ c h
      rw [width_cells] at h3 hq
      exact ⟨i + 1, y, j, by simpa using h1, h2, by rw [Nat.add_mul]; omega, h4⟩

theorem run_goInt {k : IntKind} {n : Int} {w : World} : (Go.asInt (.int k n)).run P w = .ok n w := by simp [Go.asInt, asIntOf]

theorem run_makeSlice {t e : Nat} {i : TypeInfo} {z : Value} {a b : Int} {w : World} (hu : P.underlying t = some (.slice e)) (hi : P.info? e = some i) (hz : i.zero = some z)
    (h0 : 0 ≤ a) (h1 : a ≤ b) (h2 : b * i.bytes ≤ 140737488355328) (hb : 0 < i.bytes) :
    ∃ cs : Array Value, (Instr.makeSlice t (.int .i64 a) (.int .i64 b)).run P w = .ok (.slice (some ⟨w.heap.size, 0, none⟩) a.toNat b.toNat) (w.alloc (.cells cs e)) ∧
      cs.size = b.toNat * i.size ∧ ∀ q, q < cs.size → cs[q]? = some (z.cells[q % z.cells.size]!) := by
  have hbb : b ≤ 140737488355328 := by
    have : b * 1 ≤ b * i.bytes := Int.mul_le_mul_of_nonneg_left (by omega) (by omega)
    omega
  have w1 : IntKind.i64.wrap a = a := wrap_in _ _ (by simp [IntKind.min, IntKind.signed, IntKind.bits]; omega) (by simp [IntKind.max, IntKind.signed, IntKind.bits]; omega)
  have w2 : IntKind.i64.wrap b = b := wrap_in _ _ (by simp [IntKind.min, IntKind.signed, IntKind.bits]; omega) (by simp [IntKind.max, IntKind.signed, IntKind.bits]; omega)
  have hmul : (i.bytes : Int) * b = b * i.bytes := Int.mul_comm _ _
  have c1 : ¬ (2 ^ 48 < (i.bytes : Int) * b) := by rw [hmul]; omega
  have c2 : ¬ (b < 0) := by omega
  have c3 : ¬ (a < 0) := by omega
  have c4 : ¬ (b < a) := by omega
  have hask : (askRoom (b.toNat * i.bytes)).run P w = .ok () w := by
    have : ¬ (140737488355328 < b.toNat * i.bytes) := by
      have e : ((b.toNat * i.bytes : Nat) : Int) = b * i.bytes := by
        rw [Int.natCast_mul, Int.toNat_of_nonneg (by omega)]
      omega
    simp [askRoom, roomBytes, this]
  refine ⟨(Array.range (b.toNat * i.size)).map fun q => (if b.toNat * i.size = 0 then #[] else z.cells)[q % (if b.toNat * i.size = 0 then #[] else z.cells).size]!, ?_, by simp, fun q hq => ?_⟩
  · simp only [Instr.makeSlice, Sem.run_bind, run_und hu, Result.andThen_ok, run_goInt, run_info hi, w1, w2]
    simp only [gt_iff_lt, c1, c2, c3, c4, decide_false, Bool.or_false, Bool.or_self, Bool.false_eq_true, if_false, hask, Result.andThen_ok, Sem.run_bind, Sem.run_pure, run_size hi]
    by_cases hn : b.toNat * i.size = 0
    · simp only [hn, if_true, Sem.run_pure, Result.andThen_ok, newRow, Sem.run_bind]
      rfl
    · simp only [hn, if_false, Sem.run_bind, run_zero hi hz, Sem.run_pure, Result.andThen_ok, newRow]
      rfl
  · have hq' : q < b.toNat * i.size := by simpa using hq
    have hn : ¬ b.toNat * i.size = 0 := by omega
    simp [hq', hn]

theorem ok_makeSlice (hT : TblOK P C.tbl) {t : Nat} {x y : Operand} (hop : o.op = .makeSlice t x y) : OpOK P C o := by
  intro F s a Ω eff next Q h hd he ho hn
  simp only [effOf, hop] at he
  split at he
  · rename_i d e sz by' z0 ty m n hdst hr hxe hye
    have hx := V_opd h x
    have hy := V_opd h y
    rw [hxe] at hx
    rw [hye] at hy
    obtain ⟨hx1, _⟩ := hx.int_inv
    obtain ⟨hy1, _⟩ := hy.int_inv
    split at he
    · rename_i ti size bytes zero τ hre hB
      split at he
      · rename_i z hz
        obtain ⟨dd, hd1, hd2⟩ := desc_of hT hr rfl
        cases dd <;> simp [descOK] at hd2
        subst hd2
        obtain ⟨i, zv, i1, i4, zV, zvl⟩ := zero_V hT hre rfl hz Ω
        obtain ⟨i', zv', j1, j2, j3, j4, _⟩ := (hT _ _ hre).info
        rw [i1] at j1
        simp at j1
        subst j1
        have hw : width τ = size := ((hT _ _ hre).ty τ rfl).1
        have hpos := (hT _ _ hre).pos rfl
        have hbpos : 0 < i.bytes := by rw [j3]; exact (hT _ _ hre).bps rfl
        have hsz : i.size = width τ := by rw [j2, hw]
        have hzs : zv.cells.size = width τ := by
          have := zvl.1
          rw [width_cells] at this
          simpa using this.symm
        have hmax : 0 ≤ n → n * bytes ≤ 140737488355328 → n.toNat ≤ maxN := by
          intro h0 h1
          have : n * 1 ≤ n * bytes := Int.mul_le_mul_of_nonneg_left (by have := (hT _ _ hre).bps rfl; simp at this; omega) h0
          unfold maxN
          omega
        split at he
        · rename_i kk
          simp only [Option.some.injEq] at he
          subst he
          obtain ⟨h0, h1⟩ := ho
          have hm0 : m = 0 := by
            have : opd s.T (.const (.int kk (.ofNat 0))) = .int .i64 m := hxe
            simp only [opd, ofConst] at this
            split at this
            · simp at this; exact this.2.symm
            · cases this
          subst hm0
          obtain ⟨cs, r1, r2, r3⟩ := run_makeSlice (P := P) (w := Ω.w) hd1 i1 i4 (Int.le_refl 0) h0 (by rw [j3]; exact h1) hbpos
          have hh : Holds F ⟨updT s.T o.dst (.lst τ [] (some d)), updB s.B [(d, .tail τ 0)]⟩ (a.put o.dst (.slice (some ⟨Ω.w.heap.size, 0, none⟩) 0 n.toNat))
              ⟨fun i => if d = i then some (.tail 0 (some Ω.w.heap.size) n.toNat) else Ω.e i, Ω.w.alloc (.cells cs e), fun b o => Ω.pub b o ∨ (b = Ω.w.heap.size ∧ False)⟩ := by
            refine h.alloc (p := fun _ => False) (Or.inl (h.dom d hB)) (fun b o hb => by simp [occ] at hb; exact hb.symm) (fun hx => ?_) (fun _ hf => hf.elim) (fun hx => ?_) hd
            · refine ⟨some Ω.w.heap.size, n.toNat, by simp, Nat.zero_le _, hmax h0 h1, by simp, fun b hb => ?_⟩
              simp at hb
              subst hb
              refine ⟨fun _ => Or.inl h.frame.size, cs, e, (0, 0), heap_new _ _, Nat.zero_le _, by rw [r2, hsz]; exact Nat.le_refl _, fun o _ hp => ?_⟩
              rcases hp with hp | ⟨_, hp⟩
              · have := h.cell_lt hp; omega
              · exact hp
            · refine .lst τ [] (some d) _ 0 n.toNat (fun _ _ => undef) (Nat.zero_le _) (hmax h0 h1) ?_ (fun i x hx => by simp at hx) (fun i x hx => by simp at hx)
              intro id hid
              simp at hid
              subst hid
              exact ⟨0, some Ω.w.heap.size, n.toNat, by simp, Nat.le_refl _, fun _ => rfl⟩
          exact wp_value (by simp only [execOp, hop, hx1, hy1, Sem.run_bind, r1, Result.andThen_ok, Sem.run_pure]; rfl) (hn _ _ hh)
        · simp only [Option.some.injEq] at he
          subst he
          obtain ⟨h0, h1, h2⟩ := ho
          obtain ⟨cs, r1, r2, r3⟩ := run_makeSlice (P := P) (w := Ω.w) hd1 i1 i4 h0 h1 (by rw [j3]; exact h2) hbpos
          have hmn : m.toNat ≤ n.toNat := by omega
          have hmulle : m.toNat * width τ ≤ n.toNat * width τ := Nat.mul_le_mul_right _ hmn
          have hh : Holds F ⟨updT s.T o.dst (.arr d m.toNat size), updB s.B [(d, .box (.row τ (List.replicate m.toNat z)))]⟩ (a.put o.dst (.slice (some ⟨Ω.w.heap.size, 0, none⟩) m.toNat n.toNat))
              ⟨fun i => if d = i then some (.box Ω.w.heap.size 0 (m.toNat * width τ)) else Ω.e i, Ω.w.alloc (.cells cs e), fun b o => Ω.pub b o ∨ (b = Ω.w.heap.size ∧ False)⟩ := by
            refine h.alloc (p := fun _ => False) (Or.inl (h.dom d hB)) (fun b o hb => hb.1) (fun hx => ?_) (fun _ hf => hf.elim) (fun hx => ?_) hd
            · refine ⟨Ω.w.heap.size, 0, by simp [parts', flat_length], fun q c hc => ?_⟩
              obtain ⟨i2, x2, j, q1, q2, q3, q4⟩ := flat_inv τ _ q c hc
              have hxz : x2 = z := by
                have := List.mem_of_getElem? q1
                exact (List.mem_replicate.1 this).2
              subst hxz
              have hi2 : i2 < m.toNat := by
                rcases Nat.lt_or_ge i2 m.toNat with k | k
                · exact k
                · rw [List.getElem?_eq_none (by simpa using k)] at q1; cases q1
              have hqlt : q < cs.size := by
                have : (i2 + 1) * width τ ≤ m.toNat * width τ := Nat.mul_le_mul_right _ hi2
                rw [Nat.add_mul] at this
                rw [r2, hsz, q3]
                omega
              have hmod : q % width τ = j := by rw [q3, Nat.mul_comm, Nat.mul_add_mod, Nat.mod_eq_of_lt q4]
              have hcells : (Ω.w.alloc (.cells cs e)).heap[Ω.w.heap.size]? = some (.cells cs e (0, 0)) := heap_new _ _
              refine ⟨Or.inl h.frame.size, fun hp => ?_, frozen_of_cells hcells _, zv.cells[j]!, ?_, ?_⟩
              · rcases hp with hp | ⟨_, hp⟩
                · have := h.cell_lt hp; omega
                · exact hp
              · rw [cell_of_cells hcells, Nat.zero_add, r3 q hqlt, hzs, hmod]
              · have hj : j < zv.cells.toList.length := by simp [hzs, q4]
                refine V.ext hx (zvl.2 j c _ q2 ?_)
                rw [List.getElem?_eq_getElem hj]
                simp [hzs, q4]
            · refine .arr d m.toNat size Ω.w.heap.size (m.toNat * width τ) n.toNat _ (by simp) (Nat.le_of_eq (congrArg (m.toNat * ·) hw.symm)) hmn (hmax (by omega) h2) (.inl rfl)
          exact wp_value (by simp only [execOp, hop, hx1, hy1, Sem.run_bind, r1, Result.andThen_ok, Sem.run_pure]) (hn _ _ hh)
      · cases he
    · cases he
  · cases he

end
end Go.AL
