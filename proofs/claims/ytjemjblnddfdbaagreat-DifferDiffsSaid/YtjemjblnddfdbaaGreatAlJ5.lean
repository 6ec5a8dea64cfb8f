/-
  Calls by contract, panics; all operations together. Conditions: the table of types fits the program; the contracts hold.
-/
import Derived.Test.YtjemjblnddfdbaaGreatAlJ4
set_option linter.unusedVariables false
set_option linter.unusedSimpArgs false
set_option linter.unnecessarySimpa false
set_option linter.deprecated false
namespace Go.AL

theorem args_array {a : Act} {l : List Operand} {args : Array Operand} (h : args.toList = l) : (args.map a.eval) = (l.map a.eval).toArray := by
  subst h
  apply Array.ext'
  simp

/-- What each operation's lemma says, with panics. -/
def OpOKP (P : Program) (C : Cfg) (o : Oper) : Prop :=
  ∀ (F : Fr) (s : AS) (a : Act) (Ω : Om) (eff : Eff) (next : Act → World → Prop) (Q : Exit → Act → World → Prop),
    Holds F s a Ω → (∀ d, o.dst = some d → d < F.n) → effOf C o s.T s.B = some eff → eff.asks →
    (match panOf C o s.T s.B with
      | none => ∀ a' Ω', Holds F (s.put o.dst eff) a' Ω' → next a' Ω'.w
      | some (b, pv, u) => (b = false → ∀ a' Ω', Holds F (s.put o.dst eff) a' Ω' → next a' Ω'.w) ∧
          (b = true → ∀ Ω' v, Holds F ⟨s.T, updB s.B u⟩ a Ω' → V Ω' pv v → Q (.panic [{ v, recovered := false }]) a Ω'.w)) → o.wp P a Ω.w next Q

theorem OpOK.p {P : Program} {C : Cfg} {o : Oper} (h : OpOK P C o) (hp : ∀ T B, panOf C o T B = none) : OpOKP P C o := by
  intro F s a Ω eff next Q hh hd he ho hn
  rw [hp] at hn
  exact h F s a Ω eff next Q hh hd he ho hn

theorem names_id (e : Nat → Option CObj) : Names (fun i o => some (i, o)) some (fun _ => none) e e := by
  refine ⟨fun i o i' o' h b p l he => ?_, fun i i' h c hc => ?_, fun i i' h => by simp at h⟩
  · simp at h
    obtain ⟨rfl, rfl⟩ := h
    exact ⟨p, l, he, rfl⟩
  · simp at h
    subst h
    exact hc

theorem strip_V {Ω : Om} {k : Bool} {cs ds : List AV} {vs : List Value} (h : VL Ω cs vs) (hs : stripIf k cs = some ds) : VL Ω ds vs := by
  cases k with
  | true => simp [stripIf] at hs; subst hs; exact h
  | false => exact h.mapVs (names_id Ω.e) hs

section
variable {P : Program} {C : Cfg} {o : Oper}

/-- The call of a function, with arguments that are known. -/
theorem call_ok (hS : SpecOK P C.spec) {F : Fr} {s : AS} {a : Act} {Ω : Om} (h : Holds F s a Ω) {d f : Nat} {args : List AV} {vs : List Value} (hv : VL Ω args vs) {r : CallR}
    (hr : callR C d f args s.B = some r) (ho : r.eff.asks) (hdn : d < F.n) {next : Act → World → Prop} {Q : Exit → Act → World → Prop}
    (hn : (match r.pan with
      | none => ∀ a' Ω', Holds F (s.put (some d) r.eff) a' Ω' → next a' Ω'.w
      | some (b, pv, u) => (b = false → ∀ a' Ω', Holds F (s.put (some d) r.eff) a' Ω' → next a' Ω'.w) ∧
          (b = true → ∀ Ω' v, Holds F ⟨s.T, updB s.B u⟩ a Ω' → V Ω' pv v → Q (.panic [{ v, recovered := false }]) a Ω'.w))) :
    Enters P f ∧ Calls P f vs.toArray Ω.w fun
      | .returned v, w'' => next (a.put (some d) v) w''
      | .panicked chain, w'' => Q (.panic chain) a w''
      | .outgrown, _ => LetsOut Q := by
  unfold callR at hr
  split at hr
  · cases hr
  · rename_i args' hst
    have hv' := strip_V hv hst
    generalize hL : lentOf C f args' s.B = L at hr
    unfold callL at hr
    split at hr
    · rename_i hck
      simp only [Bool.and_eq_true, Nat.blt_eq, Nat.ble_eq] at hck
      obtain ⟨⟨hdist, hd⟩, hlen⟩ := hck
      split at hr
      · rename_i as S has hS'
        split at hr
        · rename_i A hA
          obtain ⟨k1, k2, k3⟩ := canS_spec L 900 S hS'
          have hob : (∀ q, A.ob = some q → q) := by
            intro q hq
            have : r.eff.ob = A.ob := by
              unfold backR at hr
              split at hr
              · split at hr
                · simp at hr; subst hr; rfl
                · split at hr
                  · simp at hr; subst hr; rfl
                  · cases hr
              · cases hr
            unfold Eff.asks at ho
            rw [this, hq] at ho
            exact ho
          have hkeys : (keysOf S).all isLent = true := by
            simp only [keysOf, List.all_eq_true, List.mem_map]
            rintro k ⟨x, hx, rfl⟩
            have := k3 x hx
            simp only [isLent, Bool.and_eq_true, Nat.ble_eq, Nat.blt_eq]
            omega
          obtain ⟨hent, hmeets⟩ := hS f as S A hA hob hkeys
          have hlent : ∀ k i r, lentAt L k = some (i, r) → ∃ o o', s.B i = some o ∧ canO L r o = some o' ∧ bget S k = some o' := by
            intro k i r hk
            obtain ⟨h1, h2⟩ := lentAt_spec hk
            obtain ⟨o, o', q1, q2, q3⟩ := k2 _ i r h2
            rw [show 900 + (k - 900) = k by omega] at q3
            exact ⟨o, o', q1, q2, q3⟩
          have hLs : ∀ q i r, nth L q = some (i, r) → ∃ o o', s.B i = some o ∧ canO L r o = some o' := fun q i r hq => let ⟨o, o', q1, q2, _⟩ := k2 q i r hq; ⟨o, o', q1, q2⟩
          have hc := hmeets Ω.w Ω.pub (eCan L Ω.e) vs h.pubok (hv'.mapVs (names_to L Ω.e) has)
            (fun id o' ho' => by
              obtain ⟨q, i, r, o2, e1, e2, e3, e4⟩ := k1 id o' ho'
              subst e1
              exact slot_can (lentAt_idx (idx_nth L i 900 q r hdist e2)) (h.slots i o2 e3) e4)
            (fun id hid => by
              unfold eCan
              cases hl : lentAt L id with
              | none => rfl
              | some x =>
                obtain ⟨o1, o2, _, _, q3⟩ := hlent id x.1 x.2 hl
                rw [hid] at q3
                cases q3)
            (fun i j c c' b oo hi hj ho1 ho2 => by
              obtain ⟨i1, r1, c1, p1, p2, p3⟩ := eCan_occ h.slots hLs hi
              obtain ⟨i2, r2, c2, p4, p5, p6⟩ := eCan_occ h.slots hLs hj
              have := h.inj i1 i2 c1 c2 b oo p2 p5 (p3 b oo ho1) (p6 b oo ho2)
              subst this
              have a1 := idx_lentAt hdist p1
              have a2 := idx_lentAt hdist p4
              rw [a1] at a2
              simp at a2
              exact a2.1)
          refine ⟨hent, Calls.mono hc (fun en w' hq => ?_)⟩
          obtain ⟨pub', e', hq⟩ := hq
          unfold backR at hr
          split at hr
          · rename_i v1 u1 b1 b2 b3
            cases en with
            | outgrown => exact hq.elim
            | returned v =>
              obtain ⟨q1, q2, q3⟩ := hq
              obtain ⟨Ω', w1, w2, w3⟩ := call_back h hd hdist hS' b3 b2 b1 q2 q3
              subst w1
              have fin : Holds F (s.put (some d) ⟨A.ob, v1, u1⟩) (a.put (some d) v) Ω' := by
                have := w3.pure (dst := some d) w2 (fun d' hd' => by simp at hd'; subst hd'; exact hdn)
                exact this
              split at hr
              · rename_i hp
                simp at hr
                subst hr
                exact hn _ _ fin
              · rename_i b pv pu hp
                split at hr
                · simp at hr
                  subst hr
                  exact hn.1 (q1 b pv pu hp) _ _ fin
                · cases hr
            | panicked ch =>
              obtain ⟨pv, u, v, q0, rfl, q2, q3⟩ := hq
              split at hr
              · rename_i hp
                rw [q0] at hp
                cases hp
              · rename_i b pv' pu' hp
                rw [q0] at hp
                simp at hp
                obtain ⟨rfl, rfl, rfl⟩ := hp
                split at hr
                · rename_i pv1 pu1 c1 c2 c3
                  simp at hr
                  subst hr
                  obtain ⟨Ω', w1, w2, w3⟩ := call_back h hd hdist hS' c3 c2 c1 q2 q3
                  subst w1
                  exact hn.2 rfl Ω' v w3 w2
                · cases hr
          · cases hr
        · cases hr
      · cases hr
    · cases hr

theorem ok_call (hS : SpecOK P C.spec) {c : Call} (hop : o.op = .call c) (hc : ∀ b, c.callee ≠ .builtin b) : OpOKP P C o := by
  intro F s a Ω eff next Q h hd he ho hn
  have hef : ∃ r, callOf C o s.T s.B = some r ∧ r.eff = eff := by
    obtain ⟨callee, args, ts⟩ := c
    cases callee with
    | builtin b => exact absurd rfl (hc b)
    | value f =>
      simp only [effOf, hop] at he
      split at he
      · rename_i r hr; simp at he; exact ⟨r, hr, he⟩
      · cases he
    | invoke r m =>
      simp only [effOf, hop] at he
      split at he
      · rename_i r hr; simp at he; exact ⟨r, hr, he⟩
      · cases he
  obtain ⟨r, hr, rfl⟩ := hef
  have hpan : panOf C o s.T s.B = r.pan := by simp only [panOf, hop, hr]
  rw [hpan] at hn
  unfold callOf at hr
  split at hr
  · rename_i c' d hop' hdst
    rw [hop] at hop'
    simp at hop'
    subst hop'
    rw [hdst] at hn
    have hdn := hd d hdst
    split at hr
    · rename_i f args hcal
      -- the values of the arguments
      have hargs : ∃ vs : List Value, VL Ω args vs ∧ ∀ fn, P.funcs[f]? = some fn → fn.body.isNone = false → (fn.name == "runtime.NumGoroutine") = false →
          (execOp a.eval o).run P Ω.w = .ok (.enter f vs.toArray) Ω.w := by
        have hvl : VL Ω (c.args.toList.map (opd s.T)) (c.args.toList.map a.eval) := by
          refine ⟨by simp, fun j x v hx hv => ?_⟩
          simp only [List.getElem?_map, Option.map_eq_some_iff] at hx hv
          obtain ⟨y, hy, rfl⟩ := hx
          obtain ⟨y', hy', rfl⟩ := hv
          rw [hy] at hy'
          simp at hy'
          subst hy'
          exact V_opd h y
        obtain ⟨callee, cargs, ts⟩ := c
        unfold calleeOf at hcal
        split at hcal
        · rename_i f' hf'
          simp at hcal hf'
          obtain ⟨rfl, rfl⟩ := hcal
          subst hf'
          refine ⟨_, hvl, fun fn h1 h2 h3 => ?_⟩
          simp only [execOp, hop, resolve, Act.eval, Deferred.ofValue, Sem.run_bind, Sem.run_pure, Result.andThen_ok, invoke, callFunc, run_program, h1]
          simp [h2, h3]
          exact args_array rfl
        · rename_i t hf'
          simp at hf'
          subst hf'
          split at hcal
          · rename_i f' caps hT
            simp at hcal
            obtain ⟨rfl, rfl⟩ := hcal
            have ht := h.tmps t
            rw [hT] at ht
            generalize hxv : a.tmps.getD t undef = xv at ht
            cases ht with
            | fn _ _ us h1 h2 =>
              refine ⟨_, hvl.append ⟨h1, h2⟩, fun fn e1 e2 e3 => ?_⟩
              have hxv' : a.tmps[t]?.getD undef = Value.func (Fn.func f') #[] us.toArray := by rw [← hxv]; simp [Array.getD_eq_getD_getElem?]
              simp only [execOp, hop, resolve, Act.eval, hxv, Deferred.ofValue, Sem.run_bind, Sem.run_pure, Result.andThen_ok, invoke, callFunc, run_program, e1]
              simp [e2, e3]
          · cases hcal
        · cases hcal
      obtain ⟨vs, hv, hrun⟩ := hargs
      obtain ⟨⟨fn, e1, e2, e3⟩, hcalls⟩ := call_ok hS h hv hr ho hdn hn
      unfold Oper.wp
      rw [hrun fn e1 e2 e3, Oper.upon_enter, hdst]
      exact hcalls
    · cases hr
  · cases hr

theorem ok_panic {x : Operand} (hop : o.op = .panic x) : OpOKP P C o := by
  intro F s a Ω eff next Q h hd he ho hn
  simp only [effOf, hop] at he
  simp only [panOf, hop] at hn
  have hx := V_opd h x
  split at he
  · rename_i t y hxe
    rw [hxe] at hx hn
    generalize hxv : a.eval x = xv at hx
    have hx' := hx
    cases hx with
    | iface _ _ v hv =>
      have hrun : (execOp a.eval o).run P Ω.w = .halt (.panic (.iface t v)) Ω.w := by
        simp [execOp, hop, hxv, Instr.panic, goPanic, Sem.run, Result.andThen]
      unfold Oper.wp
      rw [hrun, Oper.upon_panic]
      exact hn.2 trivial Ω _ h hx'
  · cases he

/-- Each operation does what the evaluator says of it. -/
theorem op_ok (hT : TblOK P C.tbl) (hS : SpecOK P C.spec) (o : Oper) : OpOKP P C o := by
  have np : ∀ {op : Op}, o.op = op → (∀ x, op ≠ .panic x) → (∀ c, op ≠ .call c) → ∀ T B, panOf C o T B = none := by
    intro op hop h1 h2 T B
    unfold panOf
    split
    · rename_i x hx; exact absurd (hop.symm.trans hx) (h1 x)
    · rename_i c hx; exact absurd (hop.symm.trans hx) (h2 c)
    · rfl
  have nb : ∀ {b : Builtin} {args : Array Operand} {ts : Array Nat}, o.op = .call { callee := .builtin b, args := args, argTypes := ts } → ∀ T B, panOf C o T B = none := by
    intro b args ts hop T B
    simp only [panOf, hop, callOf]
    cases o.dst <;> simp [calleeOf]
  cases hop : o.op with
  | move x => exact (ok_move hop).p (np hop (by simp) (by simp))
  | assign x => exact (ok_assign hop).p (np hop (by simp) (by simp))
  | pick c x y => exact (ok_pick hop).p (np hop (by simp) (by simp))
  | alloc e => exact (ok_alloc hT hop).p (np hop (by simp) (by simp))
  | box e x => exact (ok_box hop).p (np hop (by simp) (by simp))
  | build t ps => exact (ok_build hT hop).p (np hop (by simp) (by simp))
  | buildSlice t n ps => exact (ok_buildSlice hT hop).p (np hop (by simp) (by simp))
  | load t x => exact (ok_load hT hop).p (np hop (by simp) (by simp))
  | store t x y => exact (ok_store hT hop).p (np hop (by simp) (by simp))
  | nilCheck x => exact (ok_nilCheck hop).p (np hop (by simp) (by simp))
  | binOp op t x y t' => exact (ok_binOp hT hop).p (np hop (by simp) (by simp))
  | unOp op t x => exact (ok_unOp hop).p (np hop (by simp) (by simp))
  | convert t t' x => exact (ok_convert hT hop).p (np hop (by simp) (by simp))
  | fieldAddr t x f => exact (ok_fieldAddr hT hop).p (np hop (by simp) (by simp))
  | field t x f => exact (ok_field hT hop).p (np hop (by simp) (by simp))
  | indexAddr t x y => exact (ok_indexAddr hT hop).p (np hop (by simp) (by simp))
  | index t x y => exact (ok_index hT hop).p (np hop (by simp) (by simp))
  | slice t x lo hi mx =>
    cases mx with
    | none => exact (ok_slice hT hop).p (np hop (by simp) (by simp))
    | some _ => intro F s a Ω eff next Q h hd he ho hn; simp [effOf, hop] at he
  | extract x i => exact (ok_extract hop).p (np hop (by simp) (by simp))
  | lookup t x k ok => exact (ok_lookup hT hop).p (np hop (by simp) (by simp))
  | mapUpdate t x k v => exact (ok_update hT (Or.inl hop)).p (np hop (by simp) (by simp))
  | insert t x k v => exact (ok_update hT (Or.inr hop)).p (np hop (by simp) (by simp))
  | makeMap t r => exact (ok_makeMap hT hop).p (np hop (by simp) (by simp))
  | makeSlice t x y => exact (ok_makeSlice hT hop).p (np hop (by simp) (by simp))
  | makeFunc f x y => exact (ok_makeFunc hop).p (np hop (by simp) (by simp))
  | makeInterface t x => exact (ok_makeInterface hT hop).p (np hop (by simp) (by simp))
  | typeAssert x t t' b => exact (ok_typeAssert hT hop).p (np hop (by simp) (by simp))
  | panic x => exact ok_panic hop
  | call c =>
    obtain ⟨callee, args, ts⟩ := c
    cases callee with
    | builtin b =>
      cases b with
      | len => exact (ok_len hT hop).p (nb hop)
      | append => exact (ok_append hT hop).p (nb hop)
      | max => exact (ok_max hop).p (nb hop)
      | min => exact (ok_min hop).p (nb hop)
      | _ => intro F s a Ω eff next Q h hd he ho hn; simp [effOf, hop] at he
    | value f => exact ok_call hS hop (by simp)
    | invoke r m => exact ok_call hS hop (by simp)
  | _ => intro F s a Ω eff next Q h hd he ho hn; simp [effOf, hop] at he

end
end Go.AL
