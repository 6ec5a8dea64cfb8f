/-
  Each operation does what the evaluator says of it: indexes, slices of slices, lengths, literals. No condition.
-/
import Derived.Test.YtjemjblnddfdbaaGreatAlE
set_option linter.unusedVariables false
set_option linter.unusedSimpArgs false
set_option linter.unnecessarySimpa false
set_option linter.deprecated false
namespace Go.AL

section
variable {P : Program} {C : Cfg} {o : Oper}

theorem castL_eq {τ σ : Ty} {xs : List (den τ)} {ys : List (den σ)} (h : castL τ σ xs = some ys) : ∃ e : τ = σ, e ▸ xs = ys := by
  unfold castL at h
  split at h
  · rename_i e; simp at h; exact ⟨e, h⟩
  · simp at h

theorem asIntOf_int {k : IntKind} {n : Int} : asIntOf (.int k n) = pure (k, n) := rfl

/-- What is known of a slice's value. -/
theorem V.lst_inv {Ω : Om} {τ : Ty} {xs : List (den τ)} {o : Option Nat} {v : Value} (h : V Ω (.lst τ xs o) v) :
    (xs = [] ∧ v = .slice none 0 0 ∧ TokOK Ω o 0 v) ∨ (xs = [] ∧ o = none ∧ ∃ a, v = .slice (some a) 0 0) ∨
    ∃ b off cap, ∃ vals : Nat → Nat → Value, v = .slice (some ⟨b, off, none⟩) xs.length cap ∧ xs.length ≤ cap ∧ cap ≤ maxN ∧ TokOK Ω o xs.length v ∧
      (∀ (i : Nat) (x : den τ), xs[i]? = some x → ∀ (j : Nat) (c : AV), (cells τ x)[j]? = some c →
        Ω.pub b (off + (i * width τ + j)) ∧ Ω.w.cell? ⟨b, off + (i * width τ + j), none⟩ = some (vals i j)) ∧
      (∀ (i : Nat) (x : den τ), xs[i]? = some x → ∀ (j : Nat) (c : AV), (cells τ x)[j]? = some c → V Ω c (vals i j)) := by
  cases h with
  | lstNil _ _ ht => exact Or.inl ⟨rfl, rfl, ht⟩
  | lstVoid _ a => exact Or.inr (Or.inl ⟨rfl, rfl, a, rfl⟩)
  | lst _ _ _ b off cap vals h1 h2 h3 h4 h5 => exact Or.inr (Or.inr ⟨b, off, cap, vals, rfl, h1, h2, h3, h4, h5⟩)

/-- The cell of an element. -/
theorem V.elem {Ω : Om} {τ : Ty} {xs : List (den τ)} {b off : Nat} {vals : Nat → Nat → Value} (i : Nat) (hi : i < xs.length)
    (h4 : ∀ (i : Nat) (x : den τ), xs[i]? = some x → ∀ (j : Nat) (c : AV), (cells τ x)[j]? = some c →
        Ω.pub b (off + (i * width τ + j)) ∧ Ω.w.cell? ⟨b, off + (i * width τ + j), none⟩ = some (vals i j))
    (h5 : ∀ (i : Nat) (x : den τ), xs[i]? = some x → ∀ (j : Nat) (c : AV), (cells τ x)[j]? = some c → V Ω c (vals i j)) (d : den τ) :
    V Ω (.cptr (inj τ (xs.getD i d))) (.pointer (some ⟨b, off + i * width τ, none⟩)) := by
  have e : xs[i]? = some (xs.getD i d) := by simp [List.getD_eq_getElem?_getD, hi]
  refine .cptr _ b _ (fun j => vals i j) (fun j c hc => ?_) (fun j c hc => h5 i _ e j c (by rwa [parts_inj] at hc))
  rw [parts_inj] at hc
  have := h4 i _ e j c hc
  rw [Nat.add_assoc]
  exact this

theorem ok_indexAddr (hT : TblOK P C.tbl) {t : Nat} {x y : Operand} (hop : o.op = .indexAddr t x y) : OpOK P C o := by
  refine OpOK.pure fun F s a Ω eff h he ho => ?_
  simp only [effOf, hop] at he
  have hx := V_opd h x
  have hy := V_opd h y
  split at he
  · rename_i e sz by' z ty τ xs o' k n hr hopx hopy
    rw [hopx] at hx
    rw [hopy] at hy
    split at he
    · rename_i re hre
      split at he
      · rename_i hty
        simp only [Option.some.injEq] at he
        subst he
        obtain ⟨ho1, ho2⟩ := ho
        obtain ⟨d, hd1, hd2⟩ := desc_of hT hr rfl
        cases d <;> simp [descOK] at hd2
        subst hd2
        obtain ⟨i, zz, i1, i2, i3, i4, i5⟩ := (hT _ _ hre).info
        have hw := ((hT _ _ hre).ty τ hty).1
        obtain ⟨hy1, hy2⟩ := hy.int_inv
        rcases hx.lst_inv with ⟨h1, _, _⟩ | ⟨h1, _, _⟩ | ⟨b, off, cap, vals, hv, h1, h2, h3, h4, h5⟩
        · subst h1
          simp at ho2
          omega
        · subst h1
          simp at ho2
          omega
        · refine ⟨rfl, .pointer (some ⟨b, off + n.toNat * width τ, none⟩), ?_, V.elem n.toNat (by omega) h4 h5 _⟩
          have c1 : (0 ≤ n ∧ n < (xs.length : Int)) := ⟨ho1, ho2⟩
          simp [execOp, hop, hv, hy1, Instr.indexAt, asIntOf_int, run_und hd1, c1, run_size i1, i2, ← hw, Addr.add]
      · simp at he
    · simp at he
  · rename_i e sz by' z ty id m w k n hr hopx hopy
    rw [hopx] at hx
    rw [hopy] at hy
    split at he
    · rename_i re hre
      split at he
      · rename_i hty
        subst hty
        simp only [Option.some.injEq] at he
        subst he
        obtain ⟨ho1, ho2⟩ := ho
        obtain ⟨d, hd1, hd2⟩ := desc_of hT hr rfl
        cases d <;> simp [descOK] at hd2
        subst hd2
        obtain ⟨i, zz, i1, i2, i3, i4, i5⟩ := (hT _ _ hre).info
        obtain ⟨hy1, hy2⟩ := hy.int_inv
        generalize hxe : a.eval x = xv at hx
        cases hx with
        | arr _ _ _ b len cap a' he hl hc1 hc2 hc3 =>
          rcases hc3 with rfl | ⟨_, h0, _⟩
          rotate_left
          · omega
          refine ⟨rfl, .pointer (some ⟨b, n.toNat * re.size, none⟩), ?_, ?_⟩
          · have c1 : (0 ≤ n ∧ n < (m : Int)) := ⟨ho1, ho2⟩
            simp [execOp, hop, hxe, hy1, Instr.indexAt, asIntOf_int, run_und hd1, c1, run_size i1, i2, Addr.add]
            exact fun h0 => h0.symm
          · have := V.aptr (Ω := Ω) id n.toNat re.size 0 b 0 len he
            simpa using this
      · simp at he
    · simp at he
  · simp at he

theorem ok_index (hT : TblOK P C.tbl) {t : Nat} {x y : Operand} (hop : o.op = .index t x y) : OpOK P C o := by
  refine OpOK.pure fun F s a Ω eff h he ho => ?_
  simp only [effOf, hop] at he
  have hx := V_opd h x
  have hy := V_opd h y
  split at he
  · rename_i sz by' z ty s' k n hr hopx hopy
    rw [hopx] at hx
    rw [hopy] at hy
    simp only [Option.some.injEq] at he
    subst he
    obtain ⟨ho1, ho2⟩ := ho
    obtain ⟨d, hd1, hd2⟩ := desc_of hT hr rfl
    cases d <;> simp [descOK] at hd2
    obtain ⟨hy1, hy2⟩ := hy.int_inv
    obtain ⟨hx1, hx2⟩ := hx.str_inv
    have hlt : n.toNat < s'.length := by omega
    have hb : (⟨s'.toArray⟩ : ByteArray)[n.toNat]? = some s'[n.toNat] := by
      have e : n.toNat < (⟨s'.toArray⟩ : ByteArray).size := by simpa [ByteArray.size] using hlt
      exact getElem?_pos (⟨s'.toArray⟩ : ByteArray) n.toNat e
    refine ⟨rfl, .int .u8 (s'[n.toNat].toNat : Int), ?_, ?_⟩
    · simp only [execOp, hop, hx1, hy1, Instr.index, asIntOf_int, Sem.run_bind, Sem.run_pure, Result.andThen_ok, run_und hd1]
      rw [if_pos ho1, hb]
      rfl
    · have e : s'.getD n.toNat 0 = s'[n.toNat] := by simp [List.getD_eq_getElem?_getD, hlt]
      rw [e]
      refine .int .u8 _ ?_ ?_
      · simp [IntKind.min, IntKind.signed]
      · have := s'[n.toNat].toNat_lt
        simp [IntKind.max, IntKind.signed, IntKind.bits]
        omega
  · simp at he

theorem bnd_ok {F : Fr} {s : AS} {a : Act} {Ω : Om} (h : Holds F s a Ω) {x : Option Operand} {n : Option Int} (hb : bnd s.T x = some n) :
    x.map a.eval = n.map fun n => .int .i64 n := by
  cases x with
  | none => simp [bnd] at hb; subst hb; rfl
  | some x =>
    simp only [bnd] at hb
    split at hb
    · rename_i m hm
      simp at hb
      subst hb
      have := V_opd h x
      rw [hm] at this
      simp [this.int_inv.1]
    · simp at hb

theorem run_bound {w : World} {n : Int} {y : Nat} {code : BoundsCode} (h0 : 0 ≤ n) (h1 : n ≤ (y : Int)) : (Instr.sliceBound (.int .i64 n) y code).run P w = .ok n.toNat w := by
  simp [Instr.sliceBound, asIntOf_int, h0, h1]

theorem run_bounds {w : World} {isSlice : Bool} {len cap : Nat} {l h : Option Int} (hl : 0 ≤ l.getD 0) (hlh : l.getD 0 ≤ h.getD len) (hh : h.getD len ≤ len) (hc : len ≤ cap) :
    (Instr.sliceBounds isSlice len cap (l.map fun n => .int .i64 n) (h.map fun n => .int .i64 n) none).run P w =
      .ok ((l.getD 0).toNat, (h.getD len).toNat, cap) w := by
  cases l <;> cases h <;> simp [Instr.sliceBounds] at * <;> (try simp [run_bound, *])
  · rename_i h'
    have : (h' : Int) ≤ cap := by omega
    rw [run_bound hlh this]
    simp
  · rename_i l' h'
    have : (h' : Int) ≤ cap := by omega
    rw [run_bound (by omega) this]
    simp
    rw [run_bound hl (by omega)]
    simp

theorem ok_slice (hT : TblOK P C.tbl) {t : Nat} {x : Operand} {lo hi : Option Operand} (hop : o.op = .slice t x lo hi none) : OpOK P C o := by
  refine OpOK.pure fun F s a Ω eff h he ho => ?_
  simp only [effOf, hop] at he
  have hx := V_opd h x
  split at he
  · rename_i sz by' z ty s' l u hr hopx hlo hhi
    rw [hopx] at hx
    simp only [Option.some.injEq] at he
    subst he
    obtain ⟨ho1, ho2, ho3⟩ := ho
    obtain ⟨d, hd1, hd2⟩ := desc_of hT hr rfl
    cases d <;> simp [descOK] at hd2
    obtain ⟨hx1, hx2⟩ := hx.str_inv
    have hb := run_bounds (P := P) (w := Ω.w) (isSlice := false) (len := s'.length) (cap := s'.length) ho1 ho2 ho3 (Nat.le_refl _)
    have e : (⟨s'.toArray⟩ : ByteArray).extract (l.getD 0).toNat (u.getD s'.length).toNat = ⟨((s'.take (u.getD s'.length).toNat).drop (l.getD 0).toNat).toArray⟩ := by
      apply ByteArray.ext
      apply Array.ext'
      simp [List.extract_eq_take_drop, List.drop_take]
    refine ⟨rfl, .string ⟨((s'.take (u.getD s'.length).toNat).drop (l.getD 0).toNat).toArray⟩, ?_, .str _ ?_⟩
    · simp only [execOp, hop, hx1, Instr.sliceAt, Instr.slice, Sem.run_bind, run_und hd1, Result.andThen_ok, bnd_ok h hlo, bnd_ok h hhi, Option.map_none]
      simp only [Option.isSome_none, Bool.false_eq_true, if_false, Sem.run_bind]
      have hsz : (⟨s'.toArray⟩ : ByteArray).size = s'.length := rfl
      rw [hsz, hb]
      simp [e]
    · have : ((s'.take (u.getD s'.length).toNat).drop (l.getD 0).toNat).length ≤ s'.length := by simp; omega
      omega
  · rename_i e sz by' z ty τ xs o' l u hr hopx hlo hhi
    rw [hopx] at hx
    split at he
    · rename_i re hre
      split at he
      · rename_i hty
        simp only [Option.some.injEq] at he
        subst he
        obtain ⟨ho1, ho2, ho3⟩ := ho
        obtain ⟨d, hd1, hd2⟩ := desc_of hT hr rfl
        cases d <;> simp [descOK] at hd2
        subst hd2
        obtain ⟨i, zz, i1, i2, i3, i4, i5⟩ := (hT _ _ hre).info
        have hw := ((hT _ _ hre).ty τ hty).1
        rcases hx.lst_inv with ⟨h1, hv, _⟩ | ⟨h1, _, a0, hv⟩ | ⟨b, off, cap, vals, hv, h1, h2, h3, h4, h5⟩
        rotate_left
        · subst h1
          simp only [List.length_nil] at ho2 ho3
          have el : (l.getD 0).toNat = 0 := by simp at ho2 ho3; omega
          have eu : (u.getD ((0 : Nat) : Int)).toNat = 0 := by simp at ho2 ho3 ⊢; omega
          have hb := run_bounds (P := P) (w := Ω.w) (isSlice := true) (len := 0) (cap := 0) ho1 ho2 ho3 (Nat.le_refl _)
          refine ⟨rfl, .slice (some a0) 0 0, ?_, ?_⟩
          · simp only [execOp, hop, hv, Instr.sliceAt, Instr.slice, Sem.run_bind, run_und hd1, Result.andThen_ok, bnd_ok h hlo, bnd_ok h hhi, Option.map_none]
            rw [hb]
            simp only [el, eu, Result.andThen_ok, run_size i1, Sem.run_pure]
            simp
          · have e0 : ∀ m n : Nat, (([] : List (den τ)).take m).drop n = [] := by simp
            show V Ω (.lst τ _ none) _
            rw [e0]
            exact .lstVoid τ a0
        rotate_right
        · subst h1
          simp only [List.length_nil] at ho2 ho3
          have el : (l.getD 0).toNat = 0 := by simp at ho2 ho3; omega
          have eu : (u.getD ((0 : Nat) : Int)).toNat = 0 := by simp at ho2 ho3 ⊢; omega
          have hb := run_bounds (P := P) (w := Ω.w) (isSlice := true) (len := 0) (cap := 0) ho1 ho2 ho3 (Nat.le_refl _)
          refine ⟨rfl, .slice none 0 0, ?_, ?_⟩
          · simp only [execOp, hop, hv, Instr.sliceAt, Instr.slice, Sem.run_bind, run_und hd1, Result.andThen_ok, bnd_ok h hlo, bnd_ok h hhi, Option.map_none]
            rw [hb]
            simp only [el, eu, Result.andThen_ok, run_size i1, Sem.run_pure]
            simp
          · have e0 : ∀ m n : Nat, (([] : List (den τ)).take m).drop n = [] := by simp
            show V Ω (.lst τ _ none) _
            rw [e0]
            exact .lstNil τ none (fun id hid => by simp at hid)
        · have hb := run_bounds (P := P) (w := Ω.w) (isSlice := true) (len := xs.length) (cap := cap) ho1 ho2 ho3 h1
          generalize hln : (l.getD 0).toNat = ln at *
          generalize hun : (u.getD (xs.length : Int)).toNat = un at *
          have hle : ln ≤ un := by omega
          have hue : un ≤ xs.length := by omega
          have hlen : ((xs.take un).drop ln).length = un - ln := by simp; omega
          have hsz : i.size = width τ := by rw [i2, ← hw]
          have hget : ∀ (j : Nat) (y : den τ), ((xs.take un).drop ln)[j]? = some y → xs[ln + j]? = some y := by
            intro j y hj
            rw [List.getElem?_drop, List.getElem?_take] at hj
            split at hj
            · exact hj
            · simp at hj
          refine ⟨rfl, .slice (some (if cap = ln then ⟨b, off, none⟩ else ⟨b, off + ln * width τ, none⟩)) (un - ln) (cap - ln), ?_, ?_⟩
          · simp only [execOp, hop, hv, Instr.sliceAt, Instr.slice, Sem.run_bind, run_und hd1, Result.andThen_ok, bnd_ok h hlo, bnd_ok h hhi, Option.map_none]
            rw [hb]
            simp [run_size i1, hsz, Addr.add]
            split
            · rfl
            · simp
          · by_cases hcl : cap = ln
            · rw [if_pos hcl]
              have : un = ln := by omega
              have hnil : (xs.take un).drop ln = [] := List.eq_nil_of_length_eq_zero (by omega)
              rw [hnil]
              have := V.lst (Ω := Ω) τ [] none b off (cap - ln) (fun _ _ => undef) (by simp) (by omega) (fun id hid => by simp at hid) (fun i x hx => by simp at hx) (fun i x hx => by simp at hx)
              simpa [show un - ln = 0 from by omega] using this
            · rw [if_neg hcl]
              rw [← hlen]
              refine .lst τ _ none b _ (cap - ln) (fun j => vals (ln + j)) (by omega) (by omega) (fun id hid => by simp at hid) (fun j y hj k c hc => ?_) (fun j y hj k c hc => ?_)
              · have := h4 _ y (hget j y hj) k c hc
                have e : off + ln * width τ + (j * width τ + k) = off + ((ln + j) * width τ + k) := by rw [Nat.add_mul]; omega
                rw [e]
                exact this
              · exact h5 _ y (hget j y hj) k c hc
      · simp at he
    · simp at he
  · simp at he

theorem ok_extract {x : Operand} {i : Nat} (hop : o.op = .extract x i) : OpOK P C o := by
  refine OpOK.pure fun F s a Ω eff h he ho => ?_
  simp only [effOf, hop] at he
  have hx := V_opd h x
  split at he
  · rename_i cs hcs
    rw [hcs] at hx
    obtain ⟨vs, hv, hvl⟩ := hx.tup_inv
    simp only [Option.map_eq_some_iff] at he
    obtain ⟨c, hc, rfl⟩ := he
    rw [nth_eq] at hc
    have hi : i < vs.length := by
      rw [← hvl.1]
      rcases Nat.lt_or_ge i cs.length with k | k
      · exact k
      · rw [List.getElem?_eq_none k] at hc; simp at hc
    refine ⟨rfl, vs[i], ?_, hvl.2 i c _ hc (List.getElem?_eq_getElem hi)⟩
    simp [execOp, hop, hv, Instr.extract, hi]
  · simp at he

theorem i64_len {n : Nat} (h : n ≤ maxN) : IntKind.i64.min ≤ (n : Int) ∧ (n : Int) ≤ IntKind.i64.max := by
  unfold maxN at h
  simp [IntKind.min, IntKind.max, IntKind.signed, IntKind.bits]
  omega

theorem ok_len (hT : TblOK P C.tbl) {args : Array Operand} {ts : Array Nat} (hop : o.op = .call { callee := .builtin .len, args := args, argTypes := ts }) : OpOK P C o := by
  refine OpOK.pure fun F s a Ω eff h he ho => ?_
  simp only [effOf, hop] at he
  split at he
  · rename_i x t hargs hts
    have ha : args = #[x] := by apply Array.ext'; simpa using hargs
    have ht : ts = #[t] := by apply Array.ext'; simpa using hts
    subst ha ht
    have hx := V_opd h x
    split at he
    · rename_i sz by' z ty s' hr hopx
      rw [hopx] at hx
      simp only [Option.some.injEq] at he
      subst he
      obtain ⟨d, hd1, hd2⟩ := desc_of hT hr rfl
      cases d <;> simp [descOK] at hd2
      obtain ⟨hx1, hx2⟩ := hx.str_inv
      obtain ⟨b1, b2⟩ := i64_len hx2
      refine ⟨rfl, .int .i64 (s'.length : Int), ?_, .int .i64 _ b1 b2⟩
      simp [execOp, hop, resolve, invoke, builtin, hx1, Builtin.len_, run_und hd1, goInt]
      rfl
    · rename_i e sz by' z ty τ xs o' hr hopx
      rw [hopx] at hx
      simp only [Option.some.injEq] at he
      subst he
      obtain ⟨d, hd1, hd2⟩ := desc_of hT hr rfl
      cases d <;> simp [descOK] at hd2
      rcases hx.lst_inv with ⟨h1, hv, _⟩ | ⟨h1, _, a0, hv⟩ | ⟨b, off, cap, vals, hv, h1, h2, h3, h4, h5⟩
      rotate_left
      · subst h1
        obtain ⟨b1, b2⟩ := i64_len (n := 0) (by unfold maxN; omega)
        refine ⟨rfl, .int .i64 0, ?_, .int .i64 _ b1 b2⟩
        simp [execOp, hop, resolve, invoke, builtin, hv, Builtin.len_, run_und hd1, goInt]
      rotate_right
      · subst h1
        obtain ⟨b1, b2⟩ := i64_len (n := 0) (by unfold maxN; omega)
        refine ⟨rfl, .int .i64 0, ?_, .int .i64 _ b1 b2⟩
        simp [execOp, hop, resolve, invoke, builtin, hv, Builtin.len_, run_und hd1, goInt]
      · obtain ⟨b1, b2⟩ := i64_len (n := xs.length) (by omega)
        refine ⟨rfl, .int .i64 (xs.length : Int), ?_, .int .i64 _ b1 b2⟩
        simp [execOp, hop, resolve, invoke, builtin, hv, Builtin.len_, run_und hd1, goInt]
    · rename_i e sz by' z ty hr hopx
      rw [hopx] at hx
      simp only [Option.some.injEq] at he
      subst he
      obtain ⟨d, hd1, hd2⟩ := desc_of hT hr rfl
      cases d <;> simp [descOK] at hd2
      obtain ⟨b1, b2⟩ := i64_len (n := 0) (by unfold maxN; omega)
      refine ⟨rfl, .int .i64 0, ?_, .int .i64 _ b1 b2⟩
      simp [execOp, hop, resolve, invoke, builtin, hx.nils_inv, Builtin.len_, run_und hd1, goInt]
    · rename_i e sz by' z ty id n w hr hopx
      rw [hopx] at hx
      simp only [Option.some.injEq] at he
      subst he
      obtain ⟨d, hd1, hd2⟩ := desc_of hT hr rfl
      cases d <;> simp [descOK] at hd2
      generalize hxe : a.eval x = xv at hx
      cases hx with
      | arr _ _ _ b len cap a' he hl hc1 hc2 hc3 =>
        obtain ⟨b1, b2⟩ := i64_len (n := n) (by omega)
        refine ⟨rfl, .int .i64 n, ?_, .int .i64 _ b1 b2⟩
        simp [execOp, hop, resolve, invoke, builtin, hxe, Builtin.len_, run_und hd1, goInt]
    · rename_i e sz by' z ty id k' hr hopx
      rw [hopx] at hx
      split at he
      · rename_i κ τ m hm
        simp only [Option.some.injEq] at he
        subst he
        obtain ⟨d, hd1, hd2⟩ := desc_of hT hr rfl
        cases d <;> simp [descOK] at hd2
        generalize hxe : a.eval x = xv at hx
        cases hx with
        | map _ r he =>
          obtain ⟨r', e1, e2, es, clock, e3, e4⟩ := h.slots _ _ hm
          rw [he] at e1
          simp only [Option.some.injEq, CObj.obj.injEq] at e1
          subst e1
          have hle : m.length ≤ maxN := ho
          obtain ⟨b1, b2⟩ := i64_len (n := m.length) hle
          refine ⟨rfl, .int .i64 m.length, ?_, .int .i64 _ b1 b2⟩
          simp [execOp, hop, resolve, invoke, builtin, hxe, Builtin.len_, run_und hd1, goInt, getObj, Sem.run, e3, e4.size]
      · simp at he
    · simp at he
  · simp at he

end
end Go.AL
