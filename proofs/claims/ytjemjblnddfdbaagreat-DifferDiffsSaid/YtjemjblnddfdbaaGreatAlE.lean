/-
  Each operation does what the evaluator says of it: arithmetic, texts, addresses, slices of slices. No condition.
-/
import Derived.Test.YtjemjblnddfdbaaGreatAlD
import Derived.Laws.StructEq
set_option linter.unusedVariables false
set_option linter.unusedSimpArgs false
set_option linter.unnecessarySimpa false
set_option linter.deprecated false
namespace Go.AL

section
variable {P : Program} {C : Cfg} {o : Oper}

theorem wrap_in (k : IntKind) (n : Int) (h1 : k.min ≤ n) (h2 : n ≤ k.max) : k.wrap n = n := by
  cases k <;> simp only [IntKind.min, IntKind.max, IntKind.signed, IntKind.bits, IntKind.wrap] at * <;> simp at * <;> omega

theorem guard_int {op : BinOp} {t : Nat} {x y : Operand} {k k' : IntKind} {a b : Int} : eqGuard op t x y (.int k a) (.int k' b) = pure () := by
  unfold eqGuard
  cases op <;> rfl
theorem guard_str {op : BinOp} {t : Nat} {x y : Operand} {a b : ByteArray} : eqGuard op t x y (.string a) (.string b) = pure () := by
  unfold eqGuard
  cases op <;> rfl
theorem guard_bool {op : BinOp} {t : Nat} {x y : Operand} {a b : Bool} : eqGuard op t x y (.bool a) (.bool b) = pure () := by
  unfold eqGuard
  cases op <;> rfl

theorem bin_int {Ω : Om} {op : BinOp} {t : Nat} {k : IntKind} {m n : Int} {eff : Eff} (he : binInt op k m n = some eff) (ho : eff.asks) {w : World}
    (hm : k.min ≤ m ∧ m ≤ k.max) (hn : k.min ≤ n ∧ n ≤ k.max) :
    eff.upd = [] ∧ ∃ v, (binOp op t (.int k m) (.int k n)).run P w = .ok v w ∧ V Ω eff.val v := by
  have hmax : k.min ≤ 0 ∧ 0 ≤ k.max := by cases k <;> simp [IntKind.min, IntKind.max, IntKind.signed, IntKind.bits]
  cases op <;> simp only [binInt, Option.some.injEq, reduceCtorEq] at he <;> subst he <;> refine ⟨rfl, ?_⟩
  case add =>
    obtain ⟨h1, h2⟩ := ho
    exact ⟨_, by simp [binOp, Op.intArith, wrap_in k _ h1 h2], .int k _ h1 h2⟩
  case sub =>
    obtain ⟨h1, h2⟩ := ho
    exact ⟨_, by simp [binOp, Op.intArith, wrap_in k _ h1 h2], .int k _ h1 h2⟩
  case mul =>
    obtain ⟨h1, h2⟩ := ho
    exact ⟨_, by simp [binOp, Op.intArith, wrap_in k _ h1 h2], .int k _ h1 h2⟩
  case quo =>
    obtain ⟨h0, h1, h2⟩ := ho
    exact ⟨_, by simp [binOp, Op.intDiv, wrap_in k _ h1 h2, h0], .int k _ h1 h2⟩
  case rem =>
    obtain ⟨h0, h1, h2⟩ := ho
    exact ⟨_, by simp [binOp, Op.intDiv, h0], .int k _ h1 h2⟩
  case eql => exact ⟨.bool (decide (m = n)), by simp [binOp, Op.intCmp]; by_cases h : m = n <;> simp [h], .bool _⟩
  case neq => exact ⟨.bool (!decide (m = n)), by simp [binOp, Op.intCmp]; by_cases h : m = n <;> simp [h], .bool _⟩
  case lss => exact ⟨_, by simp [binOp, Op.intCmp], .bool _⟩
  case leq => exact ⟨_, by simp [binOp, Op.intCmp], .bool _⟩
  case gtr => exact ⟨_, by simp [binOp, Op.intCmp], .bool _⟩
  case geq => exact ⟨_, by simp [binOp, Op.intCmp], .bool _⟩

theorem toList_mk (l : List UInt8) : (⟨l.toArray⟩ : ByteArray).toList = l := by
  have h : ∀ (b : ByteArray) (i : Nat) (r : List UInt8), ByteArray.toList.loop b i r = r.reverse ++ b.data.toList.drop i := by
    intro b i r
    induction hk : b.size - i generalizing i r with
    | zero =>
      unfold ByteArray.toList.loop
      rw [if_neg (by omega)]
      have : b.data.toList.drop i = [] := List.drop_eq_nil_of_le (by simp; exact Nat.le_of_sub_eq_zero hk)
      simp [this]
    | succ k ih =>
      unfold ByteArray.toList.loop
      have hlt : i < b.size := by omega
      rw [if_pos hlt, ih (i + 1) _ (by omega)]
      have hlt' : i < b.data.toList.length := by simpa using hlt
      rw [List.drop_eq_getElem_cons hlt']
      simp [ByteArray.get!, hlt]
  unfold ByteArray.toList
  rw [h]
  simp

theorem beq_dec (m n : Str) : (m == n) = decide (m = n) := by rw [Bool.eq_iff_iff]; simp

theorem bin_str {Ω : Om} {op : BinOp} {t : Nat} {m n : Str} {eff : Eff} (he : binStr op m n = some eff) (ho : eff.asks) {w : World} :
    eff.upd = [] ∧ ∃ v, (binOp op t (.string ⟨m.toArray⟩) (.string ⟨n.toArray⟩)).run P w = .ok v w ∧ V Ω eff.val v := by
  cases op <;> simp only [binStr, Option.some.injEq, reduceCtorEq] at he <;> subst he <;> refine ⟨rfl, ?_⟩
  case add =>
    have h1 : m.length + n.length ≤ 9223372036854775807 := ho
    have e : (⟨m.toArray⟩ : ByteArray) ++ ⟨n.toArray⟩ = ⟨(m ++ n).toArray⟩ := by
      apply ByteArray.ext
      simp
    refine ⟨.string ⟨(m ++ n).toArray⟩, ?_, .str (m ++ n) (by unfold maxN; simp; omega)⟩
    have e2 : ¬ (((ByteArray.size ⟨m.toArray⟩ + ByteArray.size ⟨n.toArray⟩ : Nat) : Int) > IntKind.i64.max) := by
      simp [ByteArray.size, IntKind.max, IntKind.signed, IntKind.bits]
      omega
    simp only [binOp, Op.stringOp]
    rw [if_neg e2, e]
    rfl
  case eql => exact ⟨.bool (decide (m = n)), by simp [binOp, Op.stringOp, toList_mk, beq_dec], .bool _⟩
  case neq => exact ⟨.bool (!decide (m = n)), by simp [binOp, Op.stringOp, toList_mk, beq_dec], .bool _⟩
  case lss => exact ⟨.bool (Op.bytesLess m n), by simp [binOp, Op.stringOp, toList_mk], .bool _⟩
  case leq => exact ⟨.bool (Op.bytesLess m n || decide (m = n)), by simp [binOp, Op.stringOp, toList_mk, beq_dec], .bool _⟩
  case gtr => exact ⟨.bool (!(Op.bytesLess m n || decide (m = n))), by simp [binOp, Op.stringOp, toList_mk, beq_dec], .bool _⟩
  case geq => exact ⟨.bool (!Op.bytesLess m n), by simp [binOp, Op.stringOp, toList_mk], .bool _⟩

theorem run_equalIn_bool (d : Nat) {t : Nat} {m n : Bool} (hu : P.underlying t = some .bool) {w : World} :
    (Op.equalIn (d + 1) t (.bool m) (.bool n)).run P w = .ok (m == n) w := by
  unfold Op.equalIn
  simp only [Sem.run_bind, run_und hu, Result.andThen_ok]
  rfl
theorem run_equal_bool {t : Nat} {m n : Bool} (hu : P.underlying t = some .bool) {w : World} :
    (Op.equal t (.bool m) (.bool n)).run P w = .ok (m == n) w := run_equalIn_bool 9999 hu

theorem bin_bool {Ω : Om} {op : BinOp} {t : Nat} {m n : Bool} {eff : Eff} (hu : P.underlying t = some .bool) (he : binBool op m n = some eff) {w : World} :
    eff.upd = [] ∧ ∃ v, (binOp op t (.bool m) (.bool n)).run P w = .ok v w ∧ V Ω eff.val v := by
  cases op <;> simp only [binBool, Option.some.injEq, reduceCtorEq] at he <;> subst he <;> refine ⟨rfl, ?_⟩
  case eql => exact ⟨.bool (m == n), by simp [binOp, run_equal_bool hu], .bool _⟩
  case neq => exact ⟨.bool (!(m == n)), by simp [binOp, run_equal_bool hu], .bool _⟩

theorem desc_of (hT : TblOK P C.tbl) {t : Nat} {r : TR} (hr : tlook C.tbl t = some r) {ti : TI} (hti : r.ti = ti) :
    ∃ d, P.underlying t = some d ∧ descOK P ti d = true := by
  obtain ⟨d, h1, h2⟩ := (hT t r hr).desc
  exact ⟨d, h1, by rw [← hti]; exact h2⟩

theorem leafEq_sound (hT : TblOK P C.tbl) {ft : Nat} {rt : TR} (hr : tlook C.tbl ft = some rt) {Ω : Om} {c d : AV} {u v : Value} {b : Bool} (h : leafEq rt.ti c d = some b)
    (hu : V Ω c u) (hv : V Ω d v) (dep : Nat) (w : World) : (Op.equalIn (dep + 1) ft u v).run P w = .ok b w ∧ rt.isAgg = false := by
  obtain ⟨dd, hd1, hd2⟩ := desc_of hT hr rfl
  unfold TR.isAgg
  generalize rt.ti = ti at h hd2
  unfold leafEq at h
  split at h
  · split at h
    · rename_i j a k b' hjk
      subst hjk
      cases dd <;> simp [descOK] at hd2
      simp at h
      subst h
      rw [hu.int_inv.1, hv.int_inv.1]
      refine ⟨?_, rfl⟩
      rw [run_equalIn_int _ _ _ _ _ _ _ hd1]
      congr 1
    · cases h
  · cases dd <;> simp [descOK] at hd2
    simp at h
    subst h
    rw [hu.bool_inv, hv.bool_inv]
    exact ⟨run_equalIn_bool' _ _ _ _ _ hd1, rfl⟩
  · cases dd <;> simp [descOK] at hd2
    simp at h
    subst h
    rw [hu.str_inv.1, hv.str_inv.1]
    refine ⟨?_, rfl⟩
    rw [run_equalIn_string _ _ _ _ _ hd1, toList_mk, toList_mk, beq_dec]
  · cases h

theorem run_eqFields (hT : TblOK P C.tbl) {Ω : Om} {cs ds : List AV} {xs ys : List Value} (hx : VL Ω cs xs) (hy : VL Ω ds ys) (dep : Nat) (w : World) :
    ∀ (fields : List Field) (b : Bool), (∀ f ∈ fields, f.name ≠ "_") → eqFs C (fields.map fun f => (f.offset, f.type)) cs ds = some b →
      (Op.eqFields (dep + 1) xs.toArray ys.toArray fields).run P w = .ok b w
  | [], b, _, h => by simp [eqFs] at h; subst h; simp [Op.eqFields]
  | f :: r, b, hn, h => by
    simp only [List.map_cons, eqFs] at h
    split at h
    · rename_i rt c d hr hc hd
      split at h
      · rename_i b1 b2 h1 h2
        simp only [Option.some.injEq] at h
        subst h
        rw [nth_eq] at hc hd
        have getv : ∀ {cs : List AV} {vs : List Value} {c : AV}, VL Ω cs vs → cs[f.offset]? = some c → ∃ v, vs[f.offset]? = some v ∧ V Ω c v := by
          intro cs vs c hv hc
          have hl : f.offset < cs.length := by
            rcases Nat.lt_or_ge f.offset cs.length with k | k
            · exact k
            · rw [List.getElem?_eq_none k] at hc; cases hc
          have hl' : f.offset < vs.length := by rw [← hv.1]; exact hl
          exact ⟨vs[f.offset], List.getElem?_eq_getElem hl', hv.2 _ c _ hc (List.getElem?_eq_getElem hl')⟩
        obtain ⟨u, hu1, hu2⟩ := getv hx hc
        obtain ⟨v, hv1, hv2⟩ := getv hy hd
        obtain ⟨k1, k2⟩ := leafEq_sound hT hr h1 hu2 hv2 dep w
        have hpart : ∀ {vs : List Value} {u : Value}, vs[f.offset]? = some u → (part f.type vs.toArray f.offset).run P w = .ok u w := by
          intro vs u hu
          simp [part, (hT _ _ hr).tf.agg, k2, hu]
        have ih := run_eqFields hT hx hy dep w r b2 (fun g hg => hn g (by simp [hg])) h2
        simp only [Op.eqFields, ne_eq, hn f (by simp), not_false_eq_true, if_true, Sem.run_bind, hpart hu1, hpart hv1, Result.andThen_ok, k1]
        cases b1
        · simp
        · simp [ih]
      · cases h
    · cases h

theorem aggCells_V {Ω : Om} {x : AV} {cs : List AV} {v : Value} (h : V Ω x v) (hc : aggCells x = some cs) : ∃ vs : List Value, v = .agg vs.toArray ∧ VL Ω cs vs := by
  unfold aggCells at hc
  split at hc
  · simp at hc; subst hc; exact h.agg_inv
  · simp at hc
    subst hc
    cases h with
    | st _ _ v hv => exact hv.agg_inv
  · cases hc

theorem bin_agg (hT : TblOK P C.tbl) {o : Oper} {op : BinOp} {t t' : Nat} {x y : Operand} (hop : o.op = .binOp op t x y t') {a : Act} {Ω : Om} {cs ds : List AV} {xs ys : List Value}
    (hx : VL Ω cs xs) (hxv : a.eval x = .agg xs.toArray) (hyl : VL Ω ds ys) (hyv : a.eval y = .agg ys.toArray) {eff : Eff} (he : binAgg C op t cs ds = some eff) :
    eff.upd = [] ∧ ∃ v, (execOp a.eval o).run P Ω.w = .ok (.value v) Ω.w ∧ V Ω eff.val v := by
  unfold binAgg at he
  split at he
  · rename_i fs sz by' z ty hr
    split at he
    · rename_i b hb
      obtain ⟨d, hd1, hd2⟩ := desc_of hT hr rfl
      obtain ⟨e1, e2⟩ := (hT _ _ hr).eqs fs rfl
      cases d <;> try (simp [descOK] at hd2; done)
      rename_i fields
      simp only [descOK, Bool.and_eq_true, decide_eq_true_eq, List.all_eq_true] at hd2
      obtain ⟨hf1, hf2⟩ := hd2
      have hfo : P.fieldsOf t = fields := by simp [Program.fieldsOf, hd1]
      have hrun : (Op.equalIn 10000 t (.agg xs.toArray) (.agg ys.toArray)).run P Ω.w = .ok b Ω.w := by
        rw [run_equalIn_struct Ω.w 9999 t _ _ (by rw [hfo]; exact hd1) e1, hfo]
        exact run_eqFields hT hx hyl 9998 Ω.w fields.toList b (fun f hf => by simpa using (hf2 f hf).2) (by rw [hf1]; exact hb)
      have hg := run_eqGuard_agg Ω.w op t x y xs.toArray ys.toArray e2
      split at he
      · simp only [Option.some.injEq] at he
        subst he
        exact ⟨rfl, .bool b, by simp [execOp, hop, hxv, hyv, hg, run_eql_struct, hrun], .bool _⟩
      · simp only [Option.some.injEq] at he
        subst he
        exact ⟨rfl, .bool (!b), by simp [execOp, hop, hxv, hyv, hg, run_neq_struct, hrun], .bool _⟩
      · simp at he
    · simp at he
  · simp at he

theorem ok_binOp (hT : TblOK P C.tbl) {op : BinOp} {t t' : Nat} {x y : Operand} (hop : o.op = .binOp op t x y t') : OpOK P C o := by
  refine OpOK.pure fun F s a Ω eff h he ho => ?_
  simp only [effOf, hop] at he
  have hx := V_opd h x
  have hy := V_opd h y
  split at he
  · rename_i k m k' n hm hn
    rw [hm] at hx
    rw [hn] at hy
    split at he
    · rename_i hk
      subst hk
      obtain ⟨hx1, hx2⟩ := hx.int_inv
      obtain ⟨hy1, hy2⟩ := hy.int_inv
      obtain ⟨h1, v, h2, h3⟩ := bin_int (P := P) (Ω := Ω) (t := t) (w := Ω.w) he ho hx2 hy2
      exact ⟨h1, v, by simp [execOp, hop, hx1, hy1, guard_int, h2], h3⟩
    · simp at he
  · rename_i m n hm hn
    rw [hm] at hx
    rw [hn] at hy
    obtain ⟨hx1, hx2⟩ := hx.str_inv
    obtain ⟨hy1, hy2⟩ := hy.str_inv
    obtain ⟨h1, v, h2, h3⟩ := bin_str (P := P) (Ω := Ω) (t := t) (w := Ω.w) he ho
    exact ⟨h1, v, by simp [execOp, hop, hx1, hy1, guard_str, h2], h3⟩
  · rename_i m n hm hn
    rw [hm] at hx
    rw [hn] at hy
    have hx1 := hx.bool_inv
    have hy1 := hy.bool_inv
    split at he
    · rename_i sz by' z ty hr
      obtain ⟨d, hd1, hd2⟩ := desc_of hT hr rfl
      cases d <;> simp [descOK] at hd2
      obtain ⟨h1, v, h2, h3⟩ := bin_bool (P := P) (Ω := Ω) (t := t) (w := Ω.w) hd1 he
      exact ⟨h1, v, by simp [execOp, hop, hx1, hy1, guard_bool, h2], h3⟩
    · simp at he
  · rename_i n m hm hn
    rw [hm] at hx
    rw [hn] at hy
    split at he
    · rename_i e sz by' z ty hr
      obtain ⟨d, hd1, hd2⟩ := desc_of hT hr rfl
      cases d <;> simp [descOK] at hd2
      have key : ∃ p, a.eval x = .pointer p ∧ p.isNone = m.isNone ∧ p.isSome = m.isSome := by
        generalize a.eval x = xv at hx
        cases hx with
        | ptNone _ => exact ⟨none, rfl, rfl, rfl⟩
        | ptSome _ _ _ hv => cases hv with
          | cptr _ b off vals _ _ => exact ⟨_, rfl, rfl, rfl⟩
      obtain ⟨p, hp, hp1, hp2⟩ := key
      have hy1 : a.eval y = .pointer none := by
        generalize a.eval y = yv at hy
        cases hy
        rfl
      have hq : (Op.equal t (.pointer p) (.pointer none)).run P Ω.w = .ok p.isNone Ω.w := by
        unfold Op.equal Op.maxDepth Op.equalIn
        simp only [Sem.run_bind, run_und hd1, Result.andThen_ok]
        cases p <;> rfl
      have hg : (eqGuard op t x y (.pointer p) (.pointer none)).run P Ω.w = .ok () Ω.w := by
        cases op <;> rfl
      split at he
      · simp only [Option.some.injEq] at he
        subst he
        exact ⟨rfl, .bool m.isNone, by rw [← hp1]; simp [execOp, hop, hp, hy1, hg, binOp, hq], .bool _⟩
      · simp only [Option.some.injEq] at he
        subst he
        exact ⟨rfl, .bool m.isSome, by rw [← hp2]; simp [execOp, hop, hp, hy1, hg, binOp, hq], .bool _⟩
      · simp at he
    · simp at he
  · rename_i ti ia hm hn
    rw [hm] at hx
    rw [hn] at hy
    split at he
    · rename_i sz by' z ty hr
      obtain ⟨d, hd1, hd2⟩ := desc_of hT hr rfl
      cases d <;> simp [descOK] at hd2
      have key : ∃ v, a.eval x = .iface ti v := by
        generalize a.eval x = xv at hx
        cases hx
        exact ⟨_, rfl⟩
      obtain ⟨xv, hp⟩ := key
      have hy1 : a.eval y = .nilIface := by
        generalize a.eval y = yv at hy
        cases hy
        rfl
      have hq : (Op.equal t (.iface ti xv) .nilIface).run P Ω.w = .ok false Ω.w := by
        unfold Op.equal Op.maxDepth Op.equalIn
        simp only [Sem.run_bind, run_und hd1, Result.andThen_ok]
        rfl
      have hg : (eqGuard op t x y (.iface ti xv) .nilIface).run P Ω.w = .ok () Ω.w := by
        cases op <;> rfl
      split at he
      · simp only [Option.some.injEq] at he
        subst he
        exact ⟨rfl, .bool false, by simp [execOp, hop, hp, hy1, hg, binOp, hq], .bool _⟩
      · simp only [Option.some.injEq] at he
        subst he
        exact ⟨rfl, .bool true, by simp [execOp, hop, hp, hy1, hg, binOp, hq], .bool _⟩
      · simp at he
    · simp at he
  · rename_i hm hn
    rw [hm] at hx
    rw [hn] at hy
    split at he
    · rename_i sz by' z ty yc hr
      obtain ⟨d, hd1, hd2⟩ := desc_of hT hr rfl
      cases d <;> simp [descOK] at hd2
      have hp : a.eval x = .nilIface := by
        generalize a.eval x = xv at hx
        cases hx
        rfl
      have hy1 : a.eval (.const yc) = .nilIface := by
        generalize a.eval (.const yc) = yv at hy
        cases hy
        rfl
      have hq : (Op.equal t .nilIface .nilIface).run P Ω.w = .ok true Ω.w := by
        unfold Op.equal Op.maxDepth Op.equalIn
        simp only [Sem.run_bind, run_und hd1, Result.andThen_ok]
        rfl
      have hg : (eqGuard op t x (.const yc) .nilIface .nilIface).run P Ω.w = .ok () Ω.w := by
        cases op <;> first | rfl | (simp [eqGuard]) | (cases x <;> rfl)
      split at he
      · simp only [Option.some.injEq] at he
        subst he
        exact ⟨rfl, .bool true, by simp [execOp, hop, hp, hy1, hg, binOp, hq], .bool _⟩
      · simp only [Option.some.injEq] at he
        subst he
        exact ⟨rfl, .bool false, by simp [execOp, hop, hp, hy1, hg, binOp, hq], .bool _⟩
      · simp at he
    · simp at he
  · split at he
    · rename_i cs ds hc hd
      obtain ⟨xs, hxv, hxl⟩ := aggCells_V hx hc
      obtain ⟨ys, hyv, hyl⟩ := aggCells_V hy hd
      exact bin_agg hT hop hxl hxv hyl hyv he
    · simp at he

theorem ok_unOp {op : UnOp} {t : Nat} {x : Operand} (hop : o.op = .unOp op t x) : OpOK P C o := by
  refine OpOK.pure fun F s a Ω eff h he ho => ?_
  simp only [effOf, hop] at he
  have hx := V_opd h x
  split at he
  · rename_i b hb
    rw [hb] at hx
    simp only [Option.some.injEq] at he
    subst he
    exact ⟨rfl, .bool (!b), by simp [execOp, hop, hx.bool_inv, Op.unary], .bool _⟩
  · rename_i k n hn
    rw [hn] at hx
    simp only [Option.some.injEq] at he
    subst he
    obtain ⟨h1, h2⟩ := ho
    have e := wrap_in k _ h1 h2
    exact ⟨rfl, .int k (0 - n), by simp only [execOp, hop, hx.int_inv.1, Op.unary, Op.intArith, e]; simp, .int k _ h1 h2⟩
  · simp at he

theorem ok_convert (hT : TblOK P C.tbl) {t t' : Nat} {x : Operand} (hop : o.op = .convert t t' x) : OpOK P C o := by
  refine OpOK.pure fun F s a Ω eff h he ho => ?_
  simp only [effOf, hop] at he
  have hx := V_opd h x
  split at he
  · rename_i r k sz by' z ty k' n h1 h2 hn
    rw [hn] at hx
    simp only [Option.some.injEq] at he
    subst he
    obtain ⟨d, hd1, hd2⟩ := desc_of hT h2 rfl
    cases d <;> simp [descOK] at hd2
    subst hd2
    obtain ⟨d', hd3, hd4⟩ := (hT _ _ h1).desc
    obtain ⟨h3, h4⟩ := ho
    refine ⟨rfl, .int k n, ?_, .int k _ h3 h4⟩
    simp [execOp, hop, hx.int_inv.1, convert, run_und hd1, run_und hd3, Conv.intToInt, wrap_in k _ h3 h4]
  · rename_i r sz by' z ty s' h1 h2 hn
    rw [hn] at hx
    simp only [Option.some.injEq] at he
    subst he
    obtain ⟨d, hd1, hd2⟩ := desc_of hT h2 rfl
    cases d <;> simp [descOK] at hd2
    obtain ⟨d', hd3, hd4⟩ := (hT _ _ h1).desc
    refine ⟨rfl, _, ?_, hx⟩
    simp [execOp, hop, hx.str_inv.1, convert, run_und hd1, run_und hd3]
  · simp at he

theorem place_plain {w : World} {b off : Nat} {f : Field} {i : TypeInfo} (hi : P.info? f.type = some i) (h0 : i.size ≠ 0) :
    (fieldPlace ⟨b, off, none⟩ f).run P w = .ok ⟨b, off + f.offset, none⟩ w := by
  simp only [fieldPlace, Sem.run_bind, run_size hi, Result.andThen_ok]
  rw [if_neg h0]
  simp [Addr.add]

/-- A field of a struct type, as the model has it. -/
theorem field_of (hT : TblOK P C.tbl) {t : Nat} {r : TR} (hr : tlook C.tbl t = some r) {f off ft : Nat} (hf : fieldOf r f = some (off, ft)) :
    ∃ fields fd i, P.underlying t = some (.struct fields) ∧ fields[f]? = some fd ∧ fd.offset = off ∧ fd.type = ft ∧ P.info? ft = some i ∧ i.size ≠ 0 := by
  unfold fieldOf at hf
  split at hf
  · rename_i fs hti
    obtain ⟨d, hd1, hd2⟩ := desc_of hT hr hti
    cases d <;> simp [descOK] at hd2
    rename_i fields
    obtain ⟨h1, h2⟩ := hd2
    rw [nth_eq, ← h1] at hf
    simp only [List.getElem?_map, Array.getElem?_toList, Option.map_eq_some_iff] at hf
    obtain ⟨fd, hfd, e⟩ := hf
    simp at e
    have hm : fd ∈ fields := Array.mem_of_getElem? hfd
    obtain ⟨j, hj, hje⟩ := Array.mem_iff_getElem.1 hm
    have := h2 j hj
    rw [hje] at this
    split at this
    · rename_i i hi
      exact ⟨fields, fd, i, hd1, hfd, e.1, e.2, by rw [← e.2]; exact hi, fun h0 => by simp [h0] at this⟩
    · simp at this
  · simp at hf

/-- Whatever `cptr` the address of a field is: its cells are those behind the place. -/
theorem ok_fieldAddr (hT : TblOK P C.tbl) {t f : Nat} {x : Operand} (hop : o.op = .fieldAddr t x f) : OpOK P C o := by
  refine OpOK.pure fun F s a Ω eff h he ho => ?_
  simp only [effOf, hop] at he
  have hx := V_opd h x
  split at he
  · rename_i r hr
    split at he
    · rename_i off ft id o' hf hopd
      simp only [Option.some.injEq] at he
      subst he
      rw [hopd] at hx
      obtain ⟨b, bo, len, hxv, hxb⟩ := hx.ptr_inv
      obtain ⟨fields, fd, i, h1, h2, h3, h4, h5, h6⟩ := field_of hT hr hf
      refine ⟨rfl, .pointer (some ⟨b, bo + o' + off, none⟩), ?_, ?_⟩
      · simp [execOp, hop, hxv, Instr.fieldAt, run_und h1, h2, Instr.sureAddr, place_plain (P := P) (w := Ω.w) (b := b) (off := bo + o') (f := fd) (by rw [h4]; exact h5) h6, h3]
      · have := V.ptr (Ω := Ω) id (o' + off) b bo len hxb
        rwa [← Nat.add_assoc] at this
    · rename_i off ft id n w o' hf hopd
      simp only [Option.some.injEq] at he
      subst he
      rw [hopd] at hx
      obtain ⟨b, bo, len, hxv, hxb⟩ := hx.aptr_inv
      obtain ⟨fields, fd, i, h1, h2, h3, h4, h5, h6⟩ := field_of hT hr hf
      refine ⟨rfl, .pointer (some ⟨b, bo + (n * w + o') + off, none⟩), ?_, ?_⟩
      · simp [execOp, hop, hxv, Instr.fieldAt, run_und h1, h2, Instr.sureAddr, place_plain (P := P) (w := Ω.w) (b := b) (off := bo + (n * w + o')) (f := fd) (by rw [h4]; exact h5) h6, h3]
      · have := V.aptr (Ω := Ω) id n w (o' + off) b bo len hxb
        have e : bo + (n * w + o') + off = bo + (n * w + (o' + off)) := by omega
        rw [e]
        exact this
    · rename_i off ft c hf hopd
      rw [hopd] at hx
      obtain ⟨fields, fd, i, h1, h2, h3, h4, h5, h6⟩ := field_of hT hr hf
      have plain : ∀ {c' : AV}, V Ω (.cptr c) (a.eval x) → (∃ n, (parts' c').length ≤ n ∧ sub (parts' c) off (parts' c').length = some (parts' c')) →
          eff = .pure (.cptr c') → eff.upd = [] ∧ ∃ v, (execOp a.eval o).run P Ω.w = .ok (.value v) Ω.w ∧ V Ω eff.val v := by
        intro c' hx hs he
        obtain ⟨_, _, hs⟩ := hs
        subst he
        obtain ⟨s1, s2⟩ := sub_sound hs
        generalize hxe : a.eval x = xv at hx
        cases hx with
        | cptr _ b o' vals k1 k2 =>
          refine ⟨rfl, .pointer (some ⟨b, o' + off, none⟩), ?_, ?_⟩
          · simp [execOp, hop, hxe, Instr.fieldAt, run_und h1, h2, Instr.sureAddr, place_plain (P := P) (w := Ω.w) (b := b) (off := o') (f := fd) (by rw [h4]; exact h5) h6, h3]
          · simp only [Eff.pure]
            have key : ∀ (j : Nat) (d : AV), (parts' c')[j]? = some d → (parts' c)[off + j]? = some d := by
              intro j d hd
              rw [s2, List.getElem?_take] at hd
              split at hd
              · rwa [List.getElem?_drop] at hd
              · cases hd
            refine .cptr _ b _ (fun j => vals (off + j)) (fun j d hd => ?_) (fun j d hd => k2 _ _ (key j d hd))
            have := k1 _ _ (key j d hd)
            rwa [← Nat.add_assoc] at this
      have drops : ∀ {c1 : AV} {r1 : List AV}, dropN (parts' c) off = some (c1 :: r1) → ∃ n, (parts' (.agg (c1 :: r1))).length ≤ n ∧ sub (parts' c) off (parts' (.agg (c1 :: r1))).length = some (parts' (.agg (c1 :: r1))) := by
        intro c1 r1 hdr
        exact ⟨_, Nat.le_refl _, sub_drop hdr⟩
      split at he
      · rename_i n y m hrt hft
        split at he
        · rename_i m' z hz
          split at he
          · rename_i hm
            simp only [Option.some.injEq] at he
            refine plain hx ⟨_, Nat.le_refl _, ?_⟩ he.symm
            have hs := subSt_sound hz
            rw [← width_cells] at hs
            exact hs
          · simp at he
        · split at he
          · rename_i hdr
            simp only [Option.some.injEq] at he
            exact plain hx (drops hdr) he.symm
          · simp at he
      · split at he
        · rename_i hdr
          simp only [Option.some.injEq] at he
          exact plain hx (drops hdr) he.symm
        · simp at he
    · simp at he
  · simp at he

theorem run_part {w : World} {t : Nat} {r : TR} (ht : TF P t r) {cs ds : List AV} {x : AV} {off : Nat} {Ω : Om} {vs : List Value} (hv : VL Ω cs vs)
    (hs : sub cs off r.size = some ds) (ho : oneOrAgg r ds = some x) : ∃ v, (part t vs.toArray off).run P w = .ok v w ∧ V Ω x v := by
  have hd := hv.sub hs
  obtain ⟨s1, s2⟩ := sub_sound hs
  unfold oneOrAgg at ho
  simp only [part, Sem.run_bind, ht.agg, Result.andThen_ok]
  split at ho
  · rename_i hagg
    simp at ho
    subst ho
    rw [hagg]
    simp only [if_true, Sem.run_bind, ht.size, Result.andThen_ok]
    refine ⟨_, rfl, ?_⟩
    have e : vs.toArray.extract off (off + r.size) = ((vs.drop off).take r.size).toArray := by
      apply Array.ext'
      simp [List.extract_eq_take_drop]
    rw [e]
    exact V.of_agg hd
  · rename_i hagg
    have hagg' : r.isAgg = false := by simpa using hagg
    rw [hagg']
    split at ho
    · rename_i c
      simp at ho
      subst ho
      have hl := hd.1
      generalize hds : (vs.drop off).take r.size = us at hd hl
      cases us with
      | nil => simp at hl
      | cons v us =>
        cases us with
        | cons _ _ => simp at hl
        | nil =>
          have hv0 : vs[off]? = some v := by
            have e1 : ((vs.drop off).take r.size)[0]? = some v := by rw [hds]; rfl
            rw [List.getElem?_take] at e1
            split at e1
            · rw [List.getElem?_drop] at e1; simpa using e1
            · simp at e1
          exact ⟨v, by simp [hv0], hd.head⟩
    · simp at ho

theorem ok_field (hT : TblOK P C.tbl) {t f : Nat} {x : Operand} (hop : o.op = .field t x f) : OpOK P C o := by
  refine OpOK.pure fun F s a Ω eff h he ho => ?_
  simp only [effOf, hop] at he
  have hx := V_opd h x
  split at he
  · rename_i r hr
    split at he
    · rename_i off ft hf
      obtain ⟨fields, fd, i, h1, h2, h3, h4, h5, h6⟩ := field_of hT hr hf
      have go : ∀ {rt : TR} {c : AV} {vs : List Value}, tlook C.tbl ft = some rt → a.eval x = .agg vs.toArray → VL Ω (parts' c) vs → (loadF rt c off).map Eff.pure = some eff →
          eff.upd = [] ∧ ∃ v, (execOp a.eval o).run P Ω.w = .ok (.value v) Ω.w ∧ V Ω eff.val v := by
        intro rt c vs hrt hxv hvl he
        simp only [Option.map_eq_some_iff] at he
        obtain ⟨av, ho1, rfl⟩ := he
        obtain ⟨ds, z, q1, q2, q3⟩ := loadF_sound (hT ft rt hrt) ho1
        obtain ⟨v, hv1, hv2⟩ := run_part (P := P) (w := Ω.w) (hT ft rt hrt).tf hvl q1 q2
        exact ⟨rfl, v, by simp [execOp, hop, hxv, Instr.field, run_und h1, h2, asAgg, h4, h3, hv1], q3 _ _ hv2⟩
      split at he
      · rename_i rt cs hrt hopd
        rw [hopd] at hx
        obtain ⟨vs, hxv, hvl⟩ := hx.agg_inv
        exact go (c := .agg cs) hrt hxv hvl he
      · rename_i rt n y hrt hopd
        rw [hopd] at hx
        split at he
        · generalize hxe : a.eval x = xv at hx
          cases hx with
          | st _ _ _ hx =>
            obtain ⟨vs, hxv, hvl⟩ := hx.agg_inv
            exact go (c := .st n y) hrt (by rw [hxe, hxv]) hvl he
        · simp at he
      · simp at he
    · simp at he
  · simp at he

end
end Go.AL
