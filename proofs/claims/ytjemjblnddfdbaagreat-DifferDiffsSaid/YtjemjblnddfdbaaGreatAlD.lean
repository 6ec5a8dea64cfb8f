/-
  Each operation does what the evaluator says of it: the operations that only reckon. No condition.
-/
import Derived.Test.YtjemjblnddfdbaaGreatAlC
set_option linter.unusedVariables false
set_option linter.unusedSimpArgs false
set_option linter.unnecessarySimpa false
set_option linter.deprecated false
namespace Go.AL

def updB : (Nat → Option SObj) → List (Nat × SObj) → (Nat → Option SObj)
  | B, [] => B
  | B, (i, o) :: r => updB (fun j => if i = j then some o else B j) r

def AS.put (s : AS) (d : Option Nat) (e : Eff) : AS := ⟨updT s.T d e.val, updB s.B e.upd⟩

theorem wp_value {P : Program} {o : Oper} {a : Act} {w w' : World} {next : Act → World → Prop} {Q : Exit → Act → World → Prop} {v : Value}
    (h : (execOp a.eval o).run P w = .ok (.value v) w') (hn : next (a.put o.dst v) w') : o.wp P a w next Q := by
  unfold Oper.wp
  rw [h]
  exact hn

theorem wp_skip' {P : Program} {o : Oper} {a : Act} {w w' : World} {next : Act → World → Prop} {Q : Exit → Act → World → Prop}
    (h : (execOp a.eval o).run P w = .ok .skip w') (hn : next (a.put o.dst undef) w') : o.wp P a w next Q := by
  unfold Oper.wp
  rw [h]
  exact hn

theorem run_und {P : Program} {w : World} {t : Nat} {d : TypeDesc} (h : P.underlying t = some d) : (underlying t).run P w = .ok d w := by
  simp [underlying, program, Sem.run, h]
theorem run_info {P : Program} {w : World} {t : Nat} {i : TypeInfo} (h : P.info? t = some i) : (typeInfo t).run P w = .ok i w := by
  simp [typeInfo, program, Sem.run, h]
theorem run_size {P : Program} {w : World} {t : Nat} {i : TypeInfo} (h : P.info? t = some i) : (sizeOf t).run P w = .ok i.size w := by
  simp [sizeOf, run_info h]
theorem run_zero {P : Program} {w : World} {t : Nat} {i : TypeInfo} {z : Value} (h : P.info? t = some i) (hz : i.zero = some z) :
    (zeroValue t).run P w = .ok z w := by
  simp [zeroValue, run_info h, hz]

/-- The facts of a type, for a run. -/
structure TF (P : Program) (t : Nat) (r : TR) where
  size : ∀ w, (sizeOf t).run P w = .ok r.size w
  agg : ∀ w, (isAgg t).run P w = .ok r.isAgg w

theorem TRok.tf {P : Program} {t : Nat} {r : TR} (h : TRok P t r) : TF P t r := by
  obtain ⟨i, z, h1, h2, h3, h4, h5⟩ := h.info
  obtain ⟨d, h6, h7⟩ := h.desc
  refine ⟨fun w => by rw [run_size h1, h2], fun w => ?_⟩
  simp only [isAgg, Sem.run_bind, run_und h6, Result.andThen_ok]
  cases hti : r.ti <;> rw [hti] at h7 <;> cases d <;> simp [descOK] at h7 <;> simp [TR.isAgg, hti]

theorem dropN_sound : ∀ (cs : List AV) (n : Nat) (ds : List AV), dropN cs n = some ds → n ≤ cs.length ∧ ds = cs.drop n
  | cs, 0, ds, h => by simp [dropN] at h; simp [h]
  | [], n + 1, ds, h => by simp [dropN] at h
  | c :: r, n + 1, ds, h => by
    simp only [dropN] at h
    obtain ⟨h1, h2⟩ := dropN_sound r n ds h
    exact ⟨by simp; omega, by simp [h2]⟩
theorem takeN_sound : ∀ (cs : List AV) (n : Nat) (ds : List AV), takeN cs n = some ds → n ≤ cs.length ∧ ds = cs.take n
  | cs, 0, ds, h => by simp [takeN] at h; simp [← h]
  | [], n + 1, ds, h => by simp [takeN] at h
  | c :: r, n + 1, ds, h => by
    simp only [takeN] at h
    split at h
    · rename_i l hl
      obtain ⟨h1, h2⟩ := takeN_sound r n l hl
      simp at h
      exact ⟨by simp; omega, by simp [← h, h2]⟩
    · simp at h
theorem sub_sound {cs ds : List AV} {off n : Nat} (h : sub cs off n = some ds) : off + n ≤ cs.length ∧ ds = (cs.drop off).take n := by
  unfold sub at h
  split at h
  · rename_i l hl
    obtain ⟨h1, h2⟩ := dropN_sound _ _ _ hl
    obtain ⟨h3, h4⟩ := takeN_sound _ _ _ h
    subst h2
    simp at h3
    exact ⟨by omega, h4⟩
  · simp at h

theorem VL.sub {Ω : Om} {cs ds : List AV} {vs : List Value} {off n : Nat} (h : VL Ω cs vs) (hs : sub cs off n = some ds) :
    VL Ω ds ((vs.drop off).take n) := by
  obtain ⟨h1, h2⟩ := sub_sound hs
  subst h2
  refine ⟨by simp [h.1], fun j c v hc hv => ?_⟩
  rw [List.getElem?_take] at hc hv
  split at hc
  · rename_i hj
    rw [if_pos hj, List.getElem?_drop] at hv
    rw [List.getElem?_drop] at hc
    exact h.2 _ c v hc hv
  · simp at hc

/-- A load of a whole variable out of cells that are known. -/
theorem run_loadVar {P : Program} {w : World} {t : Nat} {r : TR} (ht : TF P t r) {cs : List AV} {x : AV} (ho : oneOrAgg r cs = some x) {Ω : Om}
    {b off : Nat} {vs : List Value} (hv : VL Ω cs vs) (hlen : cs.length = r.size) (hc : ∀ j v, vs[j]? = some v → w.cell? ⟨b, off + j, none⟩ = some v) :
    ∃ v, (loadVar t ⟨b, off, none⟩).run P w = .ok v w ∧ V Ω x v := by
  unfold oneOrAgg at ho
  simp only [loadVar, Sem.run_bind, ht.agg, Result.andThen_ok]
  split at ho
  · rename_i hagg
    simp at ho
    subst ho
    refine ⟨.agg vs.toArray, ?_, V.of_agg hv⟩
    rw [hagg]
    simp only [if_true, Sem.run_bind, ht.size, Result.andThen_ok]
    have := run_loadCells_list (P := P) w ⟨b, off, none⟩ vs (fun j v hj => by
      have := hc j v hj
      unfold Addr.add
      split
      · rename_i h0; subst h0; simpa using this
      · simpa using this)
    rw [← hlen, hv.1, this]
    simp
  · rename_i hagg
    have hagg' : r.isAgg = false := by simpa using hagg
    rw [hagg']
    cases cs with
    | nil => simp at ho
    | cons c cs =>
      cases cs with
      | cons _ _ => simp at ho
      | nil =>
        simp at ho
        subst ho
        cases vs with
        | nil => exact absurd hv.1 (by simp)
        | cons v vs =>
          cases vs with
          | cons _ _ => exact absurd hv.1 (by simp)
          | nil =>
            refine ⟨v, ?_, hv.head⟩
            have := hc 0 v rfl
            simp only [Nat.add_zero] at this
            simp [this]

/-- Values of cells that lie in a row. -/
theorem rowVals {Ω : Om} {w : World} {b : Nat} : ∀ (cs : List AV) (off : Nat), (∀ (j : Nat) (c : AV), cs[j]? = some c → ∃ v, w.cell? ⟨b, off + j, none⟩ = some v ∧ V Ω c v) →
    ∃ vs, VL Ω cs vs ∧ ∀ j v, vs[j]? = some v → w.cell? ⟨b, off + j, none⟩ = some v
  | [], _, _ => ⟨[], .nil, fun j v h => by simp at h⟩
  | c :: cs, off, h => by
    obtain ⟨v, h1, h2⟩ := h 0 c rfl
    obtain ⟨vs, h3, h4⟩ := rowVals (w := w) (b := b) cs (off + 1) (fun j d hd => by
      have := h (j + 1) d (by simpa using hd)
      rwa [show off + (j + 1) = off + 1 + j by omega] at this)
    refine ⟨v :: vs, .cons h2 h3, fun j u hu => ?_⟩
    cases j with
    | zero => simp at hu; subst hu; exact h1
    | succ j =>
      have := h4 j u (by simpa using hu)
      rwa [show off + 1 + j = off + (j + 1) by omega] at this

theorem takeN_all (l : List AV) : takeN l l.length = some l := by
  induction l with
  | nil => rfl
  | cons a l ih => simp [takeN, ih]
theorem sub_drop {l ds : List AV} {off : Nat} (h : dropN l off = some ds) : sub l off ds.length = some ds := by
  simp [sub, h, takeN_all]
theorem sub_all (cs : List AV) (n : Nat) (hn : n = cs.length) : sub cs 0 n = some cs := by
  subst hn
  exact sub_drop (by cases cs <;> rfl)

theorem subSt_sound {n m : SN} {off : Nat} {y : SD n} {z : SD m} (h : subSt n off y = some (.st m z)) : sub (cells (.st n) y) off (width (.st m)) = some (cells (.st m) z) := by
  cases n with
  | shape => cases h
  | change => cases h
  | item =>
    match off, h with
    | 2, h =>
      simp only [subSt, Option.some.injEq] at h
      cases h
      rfl
theorem subSt_st {n : SN} {off : Nat} {y : SD n} {a : AV} (h : subSt n off y = some a) : ∃ m z, a = .st m z := by
  unfold subSt at h
  split at h
  · simp at h; exact ⟨_, _, h.symm⟩
  · cases h

/-- What a load hands back is what stands in the cells. -/
theorem loadF_sound {P : Program} {t : Nat} {r : TR} (hr : TRok P t r) {c : AV} {off : Nat} {x : AV} (h : loadF r c off = some x) :
    ∃ ds z, sub (parts' c) off r.size = some ds ∧ oneOrAgg r ds = some z ∧ ∀ Ω v, V Ω z v → V Ω x v := by
  have plain : ∀ {off : Nat}, (match sub (parts' c) off r.size with | some cs => oneOrAgg r cs | none => none) = some x →
      ∃ ds z, sub (parts' c) off r.size = some ds ∧ oneOrAgg r ds = some z ∧ ∀ Ω v, V Ω z v → V Ω x v := by
    intro off h
    split at h
    · rename_i cs hcs
      exact ⟨cs, x, hcs, h, fun _ _ h => h⟩
    · simp at h
  unfold loadF at h
  split at h
  · rename_i n y m hty
    obtain ⟨hw, ha⟩ := hr.ty _ hty
    split at h
    · rename_i hnm
      subst hnm
      simp only [Option.some.injEq] at h
      subst h
      refine ⟨cells (.st n) y, .agg (cells (.st n) y), sub_all _ _ (by show r.size = (cells (.st n) y).length; rw [width_cells, hw]), ?_, fun Ω v hv => .st n y v hv⟩
      have ha' : r.isAgg = true := by rw [← ha]; rfl
      simp [oneOrAgg, ha']
    · exact plain h
  · rename_i n y o m hty
    obtain ⟨hw, ha⟩ := hr.ty _ hty
    have ha' : r.isAgg = true := by rw [← ha]; rfl
    split at h
    · rename_i m' z hz
      split at h
      · rename_i hm
        subst hm
        simp only [Option.some.injEq] at h
        subst h
        have hs := subSt_sound hz
        rw [hw] at hs
        exact ⟨cells (.st _) z, .agg (cells (.st _) z), hs, by simp [oneOrAgg, ha'], fun Ω v hv => .st _ z v hv⟩
      · simp at h
    · exact plain h
  · exact plain h

section
variable {P : Program} {C : Cfg} {F : Fr} {s : AS} {a : Act} {Ω : Om} {o : Oper} {eff : Eff} {next : Act → World → Prop} {Q : Exit → Act → World → Prop}

/-- What each operation's lemma says. -/
def OpOK (P : Program) (C : Cfg) (o : Oper) : Prop :=
  ∀ (F : Fr) (s : AS) (a : Act) (Ω : Om) (eff : Eff) (next : Act → World → Prop) (Q : Exit → Act → World → Prop),
    Holds F s a Ω → (∀ d, o.dst = some d → d < F.n) → effOf C o s.T s.B = some eff → eff.asks →
    (∀ a' Ω', Holds F (s.put o.dst eff) a' Ω' → next a' Ω'.w) → o.wp P a Ω.w next Q

/-- An operation that turns no slot and no memory. -/
theorem OpOK.pure (hv : ∀ (F : Fr) (s : AS) (a : Act) (Ω : Om) (eff : Eff), Holds F s a Ω → effOf C o s.T s.B = some eff → eff.asks →
    eff.upd = [] ∧ ∃ v, (execOp a.eval o).run P Ω.w = .ok (.value v) Ω.w ∧ V Ω eff.val v) : OpOK P C o := by
  intro F s a Ω eff next Q h hd he ho hn
  obtain ⟨h1, v, h2, h3⟩ := hv F s a Ω eff h he ho
  refine wp_value h2 (hn _ _ ?_)
  have := h.pure h3 hd
  simpa [AS.put, h1, updB] using this

theorem ok_move {x : Operand} (hop : o.op = .move x) : OpOK P C o := by
  refine OpOK.pure fun F s a Ω eff h he ho => ?_
  simp only [effOf, hop, Option.some.injEq] at he
  subst he
  exact ⟨rfl, _, by simp [execOp, hop], V_opd h x⟩
theorem ok_assign {x : Operand} (hop : o.op = .assign x) : OpOK P C o := by
  refine OpOK.pure fun F s a Ω eff h he ho => ?_
  simp only [effOf, hop, Option.some.injEq] at he
  subst he
  exact ⟨rfl, _, by simp [execOp, hop], V_opd h x⟩

theorem V.bool_inv {Ω : Om} {b : Bool} {v : Value} (h : V Ω (.bool b) v) : v = .bool b := by cases h; rfl
theorem V.int_inv {Ω : Om} {k : IntKind} {n : Int} {v : Value} (h : V Ω (.int k n) v) : v = .int k n ∧ k.min ≤ n ∧ n ≤ k.max := by cases h; exact ⟨rfl, by assumption, by assumption⟩
theorem V.str_inv {Ω : Om} {s : Str} {v : Value} (h : V Ω (.str s) v) : v = .string ⟨s.toArray⟩ ∧ s.length ≤ maxN := by cases h; exact ⟨rfl, by assumption⟩
theorem V.nils_inv {Ω : Om} {v : Value} (h : V Ω .nils v) : v = .slice none 0 0 := by cases h; rfl
theorem V.ptr_inv {Ω : Om} {i off : Nat} {v : Value} (h : V Ω (.ptr i off) v) : ∃ b o len, v = .pointer (some ⟨b, o + off, none⟩) ∧ Ω.e i = some (.box b o len) := by
  cases h; exact ⟨_, _, _, rfl, by assumption⟩

theorem ok_pick {c x y : Operand} (hop : o.op = .pick c x y) : OpOK P C o := by
  refine OpOK.pure fun F s a Ω eff h he ho => ?_
  simp only [effOf, hop] at he
  split at he
  · rename_i b hb
    simp only [Option.some.injEq] at he
    subst he
    have hc := V_opd h c
    rw [hb] at hc
    have hc := hc.bool_inv
    cases b
    · exact ⟨rfl, _, by simp [execOp, hop, hc, asBool], V_opd h y⟩
    · exact ⟨rfl, _, by simp [execOp, hop, hc, asBool], V_opd h x⟩
  · simp at he

/-- A load out of cells in a row. -/
theorem run_loadRow (hT : TblOK P C.tbl) {t : Nat} {r : TR} (hr : tlook C.tbl t = some r) {Ω : Om} {w : World} {c x : AV} {b o' off : Nat} (hl : loadF r c off = some x)
    (hc : ∀ (j : Nat) (c' : AV), (parts' c)[j]? = some c' → ∃ v, w.cell? ⟨b, o' + j, none⟩ = some v ∧ V Ω c' v) :
    ∃ v, (loadVar t ⟨b, o' + off, none⟩).run P w = .ok v w ∧ V Ω x v := by
  obtain ⟨ds, z, h1, h2, h3⟩ := loadF_sound (hT t r hr) hl
  obtain ⟨vs, h4, h5⟩ := rowVals _ _ hc
  obtain ⟨s1, s2⟩ := sub_sound h1
  obtain ⟨v, h6, h7⟩ := run_loadVar (w := w) (hT t r hr).tf h2 (h4.sub h1) (b := b) (off := o' + off) (by rw [s2]; simp; omega) (fun j u hj => by
    rw [List.getElem?_take] at hj
    split at hj
    · rw [List.getElem?_drop] at hj
      have := h5 _ _ hj
      rwa [← Nat.add_assoc] at this
    · simp at hj)
  exact ⟨v, h6, h3 _ _ h7⟩

theorem parts_inj (τ : Ty) (x : den τ) : parts' (inj τ x) = cells τ x := by cases τ <;> rfl

theorem V.aptr_inv {Ω : Om} {i n w off : Nat} {v : Value} (h : V Ω (.aptr i n w off) v) : ∃ b o len, v = .pointer (some ⟨b, o + (n * w + off), none⟩) ∧ Ω.e i = some (.box b o len) := by
  cases h; exact ⟨_, _, _, rfl, by assumption⟩

/-- The cells of one datum in a row. -/
theorem SlotOK.row {Ω : Om} {own : Nat → Nat → Prop} {id b o len : Nat} {τ : Ty} {xs : List (den τ)} (h : SlotOK Ω own id (.box (.row τ xs))) (he : Ω.e id = some (.box b o len))
    {i : Nat} (hi : i < xs.length) (j : Nat) (c : AV) (hc : (parts' (inj τ (xs.getD i (dfl τ))))[j]? = some c) :
    (flat τ xs)[i * width τ + j]? = some c ∧ own b (o + (i * width τ + j)) ∧ ¬ Ω.pub b (o + (i * width τ + j)) ∧ Ω.w.frozen? ⟨b, o + (i * width τ + j), none⟩ = false ∧
      ∃ v, Ω.w.cell? ⟨b, o + (i * width τ + j), none⟩ = some v ∧ V Ω c v := by
  obtain ⟨b', o', e1, e2⟩ := h
  rw [he] at e1
  simp only [Option.some.injEq, CObj.box.injEq] at e1
  obtain ⟨rfl, rfl, rfl⟩ := e1
  have hx : xs[i]? = some (xs.getD i (dfl τ)) := by simp [List.getD_eq_getElem?_getD, hi]
  rw [parts_inj] at hc
  have hf := flat_get τ xs i _ j c hx hc
  exact ⟨hf, e2 _ c hf⟩

theorem ok_load (hT : TblOK P C.tbl) {t : Nat} {x : Operand} (hop : o.op = .load t x) : OpOK P C o := by
  refine OpOK.pure fun F s a Ω eff h he ho => ?_
  simp only [effOf, hop] at he
  split at he
  · rename_i r hr
    have hx := V_opd h x
    split at he
    · rename_i id off hopd
      rw [hopd] at hx
      obtain ⟨b, o', len, hxv, hxb⟩ := hx.ptr_inv
      split at he
      · rename_i c hcs
        simp only [Option.map_eq_some_iff] at he
        obtain ⟨av, ho1, rfl⟩ := he
        obtain ⟨b', off', e1, e2⟩ := h.slots id _ hcs
        rw [hxb] at e1
        simp only [Option.some.injEq, CObj.box.injEq] at e1
        obtain ⟨rfl, rfl, rfl⟩ := e1
        obtain ⟨v, hv1, hv2⟩ := run_loadRow (w := Ω.w) hT hr ho1 (b := b) (o' := o') (fun j c' hc => (e2 j c' hc).2.2.2)
        exact ⟨rfl, v, by simp [execOp, hop, hxv, Instr.loadAt, Instr.sureAddr, hv1], hv2⟩
      · simp at he
    · rename_i c hopd
      rw [hopd] at hx
      simp only [Option.map_eq_some_iff] at he
      obtain ⟨av, ho1, rfl⟩ := he
      generalize hxe : a.eval x = xv at hx
      cases hx with
      | cptr _ b off vals h1 h2 =>
        obtain ⟨v, hv1, hv2⟩ := run_loadRow (w := Ω.w) hT hr ho1 (b := b) (o' := off) (fun j c' hc => ⟨_, (h1 j c' hc).2, h2 j c' hc⟩)
        simp only [Nat.add_zero] at hv1
        exact ⟨rfl, v, by simp [execOp, hop, hxe, Instr.loadAt, Instr.sureAddr, hv1], hv2⟩
    · rename_i id i w off hopd
      rw [hopd] at hx
      obtain ⟨b, o', len, hxv, hxb⟩ := hx.aptr_inv
      split at he
      · rename_i τ xs hcs
        unfold loadRow at he
        split at he
        · rename_i hw
          subst hw
          split at he
          · rename_i av hav
            simp only [Option.some.injEq] at he
            subst he
            have hi : i < xs.length := ho
            obtain ⟨v, hv1, hv2⟩ := run_loadRow (w := Ω.w) hT hr hav (b := b) (o' := o' + i * width τ) (fun j c' hc => by
              obtain ⟨_, _, _, _, v, h1, h2⟩ := (h.slots id _ hcs).row hxb hi j c' hc
              exact ⟨v, by rw [Nat.add_assoc]; exact h1, h2⟩)
            rw [Nat.add_assoc] at hv1
            exact ⟨rfl, v, by simp [execOp, hop, hxv, Instr.loadAt, Instr.sureAddr, hv1], hv2⟩
          · simp at he
        · simp at he
      · simp at he
    · simp at he
  · simp at he

theorem ok_nilCheck {x : Operand} (hop : o.op = .nilCheck x) : OpOK P C o := by
  refine OpOK.pure fun F s a Ω eff h he ho => ?_
  simp only [effOf, hop] at he
  have hx := V_opd h x
  split at he
  · rename_i id off hopd
    simp only [Option.some.injEq] at he
    subst he
    rw [hopd] at hx
    obtain ⟨b, o', len, hxv, hxb⟩ := hx.ptr_inv
    exact ⟨rfl, .pointer (some ⟨b, o' + off, none⟩), by simp [execOp, hop, hxv], .ptr id off b o' len hxb⟩
  · rename_i cs hopd
    simp only [Option.some.injEq] at he
    subst he
    rw [hopd] at hx
    generalize hxe : a.eval x = xv at hx
    have hx' := hx
    cases hx with
    | cptr _ b off vals h1 h2 => exact ⟨rfl, _, by simp [execOp, hop, hxe], hx'⟩
  · rename_i id i w off hopd
    simp only [Option.some.injEq] at he
    subst he
    rw [hopd] at hx
    obtain ⟨b, o', len, hxv, hxb⟩ := hx.aptr_inv
    rw [hxv] at hx
    exact ⟨rfl, _, by simp [execOp, hop, hxv], hx⟩
  · rename_i f cs hopd
    simp only [Option.some.injEq] at he
    subst he
    rw [hopd] at hx
    generalize hxe : a.eval x = xv at hx
    have hx' := hx
    cases hx with
    | fn f cs vs h1 h2 => exact ⟨rfl, _, by simp [execOp, hop, hxe], hx'⟩
  · rename_i n y hopd
    simp only [Option.some.injEq] at he
    subst he
    rw [hopd] at hx
    have hs : y.isSome = true := ho
    cases y with
    | none => cases hs
    | some y =>
      generalize hxe : a.eval x = xv at hx
      cases hx with
      | ptSome n y v hv =>
        have hv' := hv
        cases hv with
        | cptr _ b off vals h1 h2 => exact ⟨rfl, _, by simp [execOp, hop, hxe], hv'⟩
  · simp at he
end

end Go.AL
