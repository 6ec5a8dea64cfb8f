/-
  Functions that defer one closure, which recovers. Conditions: as of the evaluator.
-/
import Derived.Test.YtjemjblnddfdbaaGreatAlO
import Derived.Recover
set_option linter.unusedVariables false
set_option linter.unusedSimpArgs false
set_option linter.unnecessarySimpa false
set_option linter.deprecated false
namespace Go.AL

def ptrK : AV → Bool
  | .ptr k 0 => isLent k
  | _ => false
/-- A pointer to one of these slots. -/
def ptrIn (ks : List Nat) : AV → Bool
  | .ptr k _ => ks.contains k
  | _ => false
/-- What is known of pointers to these slots alone. -/
def pinT (ks : List Nat) (t : List (Nat × AV)) : List (Nat × AV) := t.map fun x => (x.1, if ptrIn ks x.2 then x.2 else .undef)

structure RC where
  r0 : Code
  rest : Code
  crest : Code
  t5 : Nat
  caps : List Operand
  t6 : Nat
  t3 : Nat
def recL (g : Nat) (c cc : Code) : Option RC :=
  match c, cc with
  | .seq r0 (.seq (.region _ o1 false) rest), .seq (.region _ o2 false) crest =>
    match o1.toList, o2.toList with
    | [⟨some t5, .makeFunc (.func g') fst caps, _, _, _, none⟩, ⟨none, .defer ⟨.value (.tmp t5'), as, _⟩, _, _, _, none⟩],
      [⟨some t6, .call ⟨.builtin .recover, as2, _⟩, _, _, _, none⟩, ⟨some t3, .assign (.tmp t6'), _, _, _, none⟩] =>
      if Nat.beq g' g && Nat.beq t5' t5 && Nat.beq t6' t6 && fst.isEmpty && as.isEmpty && as2.isEmpty then some ⟨r0, rest, crest, t5, caps.toList, t6, t3⟩ else none
    | _, _ => none
  | _, _ => none

/-- The end: the results out of their cells, under the names that they had. -/
def finR (C : Cfg) (rs : List ResultVar) (L : List Lent) (s1 : St) (S1 : List (Nat × SObj)) (S : List (Nat × SObj)) (A : Ans) (t2 : List (Nat × AV)) (s3 : St) : Prop :=
  match distinct (keysOf s3.b) && (keysOf S1).all (fun k => (keysOf s3.b).contains k) with
  | true =>
    match resOf C.tbl ⟨pinT (keysOf S1) t2, s3.b⟩ rs with
    | some l =>
      (match backU (bget s1.b) L 998 (fullU S1 s3.b), mapVs (fromP L 998) (fromI L 998) (fromI L 998) l with
      | some u', some l' => force ⟨[], putB s1.b u'⟩ fun s4 => endOK (some l') s4 A.val (putB S A.upd)
      | _, _ => False)
    | none => False
  | false => False
/-- The closure, with what recover hands it. -/
def closR (C : Cfg) (annC : An) (clo : Func) (R : RC) (caps : List AV) (v : AV) (s2 : St) (fin : St → Prop) : Prop :=
  forceNs (List.range clo.ntmps) fun keep => force ⟨tset (initT 0 caps) R.t3 v, s2.b⟩ fun s => swp C keep annC R.crest s fun
    | .exit _, _ => False
    | .pan _, _ => False
    | _, s3 => fin s3
def fwpR (C : Cfg) (ann annC : An) (fn : Func) (g : Nat) (clo : Func) (args : List AV) (S : List (Nat × SObj)) (A : Ans) : Prop :=
  match fn.body, clo.body, A.pan with
  | some c, some cc, none =>
    match recL g c cc with
    | none => False
    | some R =>
      match dstsOK fn.ntmps c && dstsOK clo.ntmps cc && Nat.blt R.t5 fn.ntmps && lenLe args fn.ntmps && (keysOf S).all isLent && clo.results.isEmpty && lenLe R.caps clo.ntmps && lenLe R.caps R.t6 with
      | false => False
      | true => forceNs ((List.range fn.ntmps)) fun keep => force ⟨initT 0 args, S⟩ fun i => swp C keep ann R.r0 i fun
        | .normal, s1 =>
          (match (keysOf s1.b).map (fun i => (i, (none : Option (Nat × Nat)))) with
          | L =>
            (match distinct (L.map (·.1)) && Nat.ble L.length 100, mapVs (toP L) (toI L) (toI L) ((List.range fn.ntmps).map (tget s1.t)), mapVs (toP L) (toI L) (toI L) (R.caps.map (opd (tget s1.t))), canS (bget s1.b) L L 900 with
            | true, some as1, some caps, some S1 =>
              (match caps.all ptrK with
              | true => force ⟨tset (initT 0 as1) R.t5 .undef, S1⟩ fun i => swp C keep ann R.rest i fun
                | .exit _, _ => False
                | .pan v, s2 => closR C annC clo R caps v s2 (finR C fn.results.toList L s1 S1 S A s2.t)
                | _, s2 => closR C annC clo R caps .nilif s2 (finR C fn.results.toList L s1 S1 S A s2.t)
              | false => False)
            | _, _, _, _ => False))
        | _, _ => False
  | _, _, _ => False

theorem bget_putB : ∀ (u S : List (Nat × SObj)) (i : Nat), distinct (u.map (·.1)) = true → bget (putB S u) i = (bget u i).or (bget S i)
  | [], S, i, _ => by simp [putB, bget]
  | (j, o) :: r, S, i, h => by
    simp only [List.map_cons, distinct, Bool.and_eq_true, Bool.not_eq_true'] at h
    simp only [putB]
    rw [bget_putB r _ i h.2, bget_bset]
    simp only [bget]
    by_cases e : j = i
    · subst e
      have : bget r j = none := by
        cases hb : bget r j with
        | none => rfl
        | some o' =>
          have := bget_mem r j o' hb
          have h1 := h.1
          simp only [List.contains_eq_mem, decide_eq_false_iff_not, List.mem_map, not_exists, not_and] at h1
          exact absurd rfl (h1 _ this)
      simp [this]
    · simp [e]

section
variable {P : Program} {C : Cfg}

/-- Pinned cells stay where they were. -/
theorem V.pinned {e0 e : Nat → Option CObj} {w0 w : World} {p0 p : Nat → Nat → Prop} (hk : ∀ id c, e0 id = some c → ∃ c', e id = some c' ∧ CLe c c') {a : AV} {v : Value} (ha : ptrK a = true) (h : V ⟨e0, w0, p0⟩ a v) : V ⟨e, w, p⟩ a v := by
  cases h with
  | ptr i o b q len he =>
    obtain ⟨c', h1, h2⟩ := hk i _ he
    have := h2.box
    subst this
    exact .ptr i o b q len h1
  | _ => simp [ptrK] at ha

theorem Holds.retmp' {F : Fr} {s : AS} {a a' : Act} {Ω : Om} (h : Holds F s a Ω) {n : Nat} {ds : List Deferred} {T : Nat → AV} (hT : ∀ i, V Ω (T i) (a'.tmps.getD i undef)) (hs : a'.tmps.size = n) (hd : a'.defers = ds) :
    Holds ⟨F.w0, F.pub0, n, F.e0, F.dom0, ds⟩ ⟨T, s.B⟩ a' Ω :=
  ⟨hT, hs, hd, h.slots, h.dom, h.inj, h.pubok, h.keep, ⟨h.frame.os, h.frame.tape, h.frame.output, h.frame.size, h.frame.block, h.frame.cell, h.frame.kind, h.frame.pub, h.frame.old, h.frame.pcell⟩⟩

/-- What recover hands out, and how the frame below goes on. -/
inductive Rcv : FrameMode → AV → Om → Value → FrameMode → Prop
  | ret (Ω : Om) : Rcv .returning .nilif Ω .nilIface .returning
  | pan (Ω : Om) (a : AV) (v : Value) : V Ω a v → Rcv (.panicking [{ v, recovered := false }]) a Ω v (.panicking [{ v, recovered := true }])

/-- The code of such a function, and of its closure. -/
structure RCcode (g : Nat) (R : RC) (c cc : Code) : Prop where
  code : ∃ i1 i2 ty1 ps1 af1 ty2 ps2 af2 ts2 ty3 ps3 af3 ts3 ty4 ps4 af4,
    c = .seq R.r0 (.seq (.region i1 #[⟨some R.t5, .makeFunc (.func g) #[] R.caps.toArray, ty1, ps1, af1, none⟩, ⟨none, .defer ⟨.value (.tmp R.t5), #[], ts2⟩, ty2, ps2, af2, none⟩] false) R.rest) ∧
    cc = .seq (.region i2 #[⟨some R.t6, .call ⟨.builtin .recover, #[], ts3⟩, ty3, ps3, af3, none⟩, ⟨some R.t3, .assign (.tmp R.t6), ty4, ps4, af4, none⟩] false) R.crest

theorem recL_inv {g : Nat} {c cc : Code} {R : RC} (h : recL g c cc = some R) : RCcode g R c cc := by
  unfold recL at h
  split at h
  · rename_i r0 i1 o1 rest i2 o2 crest
    split at h
    · rename_i h1 h2
      split at h
      · rename_i hc
        simp only [Bool.and_eq_true, Nat.beq_eq, Array.isEmpty_iff] at hc
        obtain ⟨⟨⟨⟨⟨rfl, rfl⟩, rfl⟩, rfl⟩, rfl⟩, rfl⟩ := hc
        simp only [Option.some.injEq] at h
        subst h
        have e1 := congrArg List.toArray h1
        have e2 := congrArg List.toArray h2
        simp only [Array.toArray_toList] at e1 e2
        subst e1 e2
        exact ⟨_, _, _, _, _, _, _, _, _, _, _, _, _, _, _, _, rfl, rfl⟩
      · cases h
    · cases h
  · cases h

theorem recover_run {ts : Array Nat} {d : Option Nat} {ty : Nat} {ps : String} {af : Array Edge} {ρ : Operand → Value} {w : World} :
    (execOp ρ ⟨d, .call ⟨.builtin .recover, #[], ts⟩, ty, ps, af, none⟩).run P w = .ok .recover w := by
  simp [execOp, resolve, invoke, builtin]

theorem clos_sound (hm : P.follows .mixedOrders = true) (hT : TblOK P C.tbl) (hS : SpecOK P C.spec) {g : Nat} {clo : Func} {c cc : Code} {R : RC} (hR : RCcode g R c cc) (hg : P.funcs[g]? = some clo) (hb : clo.body = some cc)
    (hd : dstsOK clo.ntmps cc = true) (hres : clo.results = #[]) {caps : List AV} (hcl : caps.length ≤ clo.ntmps) (hc6 : caps.length ≤ R.t6) {F : Fr} {s2 : St} {a2 : Act} {Ω2 : Om} (h : Holds F s2.abs a2 Ω2) {vs : List Value} (hv : VL Ω2 caps vs)
    {u u' : FrameMode} {av : AV} {v : Value} (hrc : Rcv u av Ω2 v u') {annC : An} {fin : St → Prop} (hc : closR C annC clo R caps av s2 fin) :
    CallsD P g vs.toArray u Ω2.w fun en u2 w' => u2 = u' ∧ en = .returned (.tuple #[]) ∧ ∃ s3 Ω3 a3 T, Ω3.w = w' ∧ fin s3 ∧ Holds ⟨F.w0, F.pub0, clo.ntmps, F.e0, F.dom0, []⟩ ⟨T, bget s3.b⟩ a3 Ω3 := by
  obtain ⟨i1, i2, ty1, ps1, af1, ty2, ps2, af2, ts2, ty3, ps3, af3, ts3, ty4, ps4, af4, _, rfl⟩ := hR
  refine callsD_of_wpS hg hb (fun c₀ cs hu => ?_)
  apply wpS_seq
  apply wpS_region
  simp only [dstsOK, Bool.and_eq_true, List.all_cons, List.all_nil, Bool.and_true, Nat.blt_eq] at hd
  obtain ⟨⟨hd6, hd3⟩, hdc⟩ := hd
  have hvs : vs.length ≤ clo.ntmps := by rw [← hv.1]; exact hcl
  -- the closure's frame, in the same memory
  have hbase : Holds ⟨F.w0, F.pub0, clo.ntmps, F.e0, F.dom0, []⟩ ⟨tget (initT 0 caps), bget s2.b⟩ { tmps := vs.toArray ++ Array.replicate (clo.ntmps - vs.toArray.size) undef, defers := [] } Ω2 :=
    h.retmp' (fun i => tmps_init _ hv i) (by simp; omega) rfl
  have key : ∃ cs', (∃ c1, cs' = c1 :: cs ∧ c1 = { c₀ with mode := u' }) ∧ ∀ Q' : Exit → Act → List Frame → World → Prop, Q' .normal (({ tmps := vs.toArray ++ Array.replicate (clo.ntmps - vs.toArray.size) undef, defers := [] } : Act).put (some R.t6) v |>.put (some R.t3) v) cs' Ω2.w →
      wpOpsS P #[⟨some R.t6, .call ⟨.builtin .recover, #[], ts3⟩, ty3, ps3, af3, none⟩, ⟨some R.t3, .assign (.tmp R.t6), ty4, ps4, af4, none⟩] Q' [0, 1] { tmps := vs.toArray ++ Array.replicate (clo.ntmps - vs.toArray.size) undef, defers := [] } (c₀ :: cs) Ω2.w := by
    have two : ∀ (cs' : List Frame) (Q' : Exit → Act → List Frame → World → Prop), Q' .normal (({ tmps := vs.toArray ++ Array.replicate (clo.ntmps - vs.toArray.size) undef, defers := [] } : Act).put (some R.t6) v |>.put (some R.t3) v) cs' Ω2.w →
        wpOpsS P #[⟨some R.t6, .call ⟨.builtin .recover, #[], ts3⟩, ty3, ps3, af3, none⟩, ⟨some R.t3, .assign (.tmp R.t6), ty4, ps4, af4, none⟩] Q' [1] (({ tmps := vs.toArray ++ Array.replicate (clo.ntmps - vs.toArray.size) undef, defers := [] } : Act).put (some R.t6) v) cs' Ω2.w := by
      intro cs' Q' hq
      have he : (({ tmps := vs.toArray ++ Array.replicate (clo.ntmps - vs.toArray.size) undef, defers := [] } : Act).put (some R.t6) v).eval (.tmp R.t6) = v := by
        show (Act.put _ (some R.t6) v).tmps.getD R.t6 undef = v
        rw [put_get hbase.size hd6, if_pos rfl]
      unfold wpOpsS
      simp only [List.getElem?_toArray, List.getElem?_cons_succ, List.getElem?_cons_zero, Region.wanted, if_true]
      have hr : (execOp (({ tmps := vs.toArray ++ Array.replicate (clo.ntmps - vs.toArray.size) undef, defers := [] } : Act).put (some R.t6) v).eval ⟨some R.t3, .assign (.tmp R.t6), ty4, ps4, af4, none⟩).run P Ω2.w = .ok (.value v) Ω2.w := by
        show (pure (Next.value (Act.eval _ (.tmp R.t6))) : Sem Next).run P Ω2.w = _
        rw [he]
        rfl
      rw [hr]
      simp only [Oper.upon]
      exact hq
    cases hrc with
    | ret =>
      refine ⟨_, ⟨c₀, rfl, by cases c₀; simp only at hu; subst hu; rfl⟩, fun Q' hq => ?_⟩
      unfold wpOpsS
      simp only [List.getElem?_toArray, List.getElem?_cons_zero, Region.wanted, if_true]
      rw [recover_run]
      simp only [recoverD, hu]
      exact two _ Q' hq
    | pan _ _ hv' =>
      refine ⟨_, ⟨_, rfl, rfl⟩, fun Q' hq => ?_⟩
      unfold wpOpsS
      simp only [List.getElem?_toArray, List.getElem?_cons_zero, Region.wanted, if_true]
      rw [recover_run]
      simp only [recoverD, hu]
      exact two _ Q' hq
  obtain ⟨cs', ⟨c1, rfl, hc1⟩, key⟩ := key
  refine key _ ?_
  refine wpS_of_wp ?_
  unfold closR at hc
  rw [forceNs_eq, force_eq] at hc
  have hav : V Ω2 av v := by
    cases hrc <;> first | exact .nilif | assumption
  have h1 := (hbase.pure (dst := some R.t6) (val := .undef) (v := v) (.undef v) (fun d e => by cases e; exact hd6)).pure (dst := some R.t3) (val := av) (v := v) hav (fun d e => by cases e; exact hd3)
  have h2 : Holds ⟨F.w0, F.pub0, clo.ntmps, F.e0, F.dom0, []⟩ (St.abs ⟨tset (initT 0 caps) R.t3 av, s2.b⟩) _ Ω2 := h1.weak (s' := St.abs ⟨tset (initT 0 caps) R.t3 av, s2.b⟩) (fun i => by
    simp only [St.abs, tget_tset, updT]
    by_cases e3 : R.t3 = i
    · right; simp [e3]
    · by_cases e6 : R.t6 = i
      · left
        subst e6
        rw [if_neg e3, tget_init, if_pos (Nat.zero_le _), Nat.sub_zero]
        simp [List.getD_eq_getElem?_getD, List.getElem?_eq_none hc6]
      · right; simp [e3, e6]) rfl
  refine wp_mono (swp_sound hm hT hS _ annC R.crest _ _ _ Ω2 hc hdc h2) ?_
  intro e a' w' hq
  obtain ⟨z, s3, Ω3, q1, q2, q3, q4⟩ := hq
  have fin3 : fin s3 → bodyPostS P clo c₀ cs (fun en u2 w' => u2 = u' ∧ en = .returned (.tuple #[]) ∧ ∃ s3 Ω3 a3 T, Ω3.w = w' ∧ fin s3 ∧ Holds ⟨F.w0, F.pub0, clo.ntmps, F.e0, F.dom0, []⟩ ⟨T, bget s3.b⟩ a3 Ω3) .ret a' (c1 :: cs) w' := by
    intro hf
    refine ⟨q3.defers, u', by rw [hc1], .tuple #[], by simp [results, hres], rfl, rfl, s3, Ω3, a', _, q2, hf, q3⟩
  cases z with
  | normal => cases q1; exact fin3 q4
  | ret => cases q1; exact fin3 q4
  | exit id => exact q4.elim
  | pan v => exact q4.elim

/-- The results, and the slots, at the end. -/
theorem end_sound {w : World} {pub : Nat → Nat → Prop} {e : Nat → Option CObj} {n : Nat} {hl : ∀ id c, e id = some c → isLent id = true} {ds : List Deferred} {T : Nat → AV} {t : List (Nat × AV)} {b b' : List (Nat × SObj)} {a : Act} {Ω : Om} {l : List AV} {us : List Value} {val : AV}
    (hh : Holds ⟨w, pub, n, e, hl, ds⟩ ⟨T, bget b⟩ a Ω) (k2 : VL Ω l us) (hend : endOK (some l) ⟨t, b⟩ val b') :
    ∃ pub' e', V ⟨e', Ω.w, pub'⟩ val (if h : us.toArray.size = 1 then us.toArray[0] else .tuple us.toArray) ∧ After w pub e (bget b') Ω.w pub' e' := by
  unfold endOK at hend
  split at hend
  · rename_i x hres
    cases hres
    obtain ⟨u, rfl⟩ := list_one (by rw [← k2.1]; rfl)
    have h1 := hh.retmp' (T := tget (initT 0 [x])) (a' := { tmps := [u].toArray ++ Array.replicate 0 undef, defers := [] }) (n := 1) (ds := []) (fun i => tmps_init 0 k2 i) (by simp) rfl
    obtain ⟨Ω2, e2, hh2⟩ := LeS_sound (s := ⟨[(0, x)], b⟩) h1 (cS_spec hend)
    refine ⟨Ω2.pub, Ω2.e, ?_, ?_⟩
    · have := hh2.tmps 0
      rw [← e2]
      exact this
    · rw [← e2]
      exact after_of hh2
  · rename_i l' hne hres
    cases hres
    split at hend
    · rename_i rs
      split at hend
      · rename_i hln
        have hl2 := lenIs_sound _ _ hln
        have h1 := hh.retmp' (T := tget (initT 0 l)) (a' := { tmps := us.toArray ++ Array.replicate 0 undef, defers := [] }) (n := us.length) (ds := []) (fun i => tmps_init 0 k2 i) (by simp) rfl
        obtain ⟨Ω2, e2, hh2⟩ := LeS_sound (s := ⟨initT 0 l, b⟩) h1 (cS_spec hend)
        have hsz : ¬ us.toArray.size = 1 := by
          intro h1
          obtain ⟨x, hx⟩ := list_one (l := l) (by rw [k2.1]; simpa using h1)
          exact hne x hx
        rw [dif_neg hsz]
        refine ⟨Ω2.pub, Ω2.e, ?_, ?_⟩
        · refine .tup rs us (by rw [← k2.1, ← hl2]) (fun j c v hc hv => ?_)
          have := hh2.tmps j
          simp only [St.abs, tget_init, Nat.zero_le, if_true, Nat.sub_zero, List.getD_eq_getElem?_getD, hc, Option.getD_some] at this
          have e3 : (us.toArray ++ Array.replicate 0 undef).getD j undef = v := by
            simp [Array.getD_eq_getD_getElem?, hv]
          rw [e3] at this
          rw [← e2]
          exact this
        · rw [← e2]
          exact after_of hh2
      · exact hend.elim
    · exact hend.elim
  · rename_i h; cases h

theorem CLe.to_box {c : CObj} {b o l : Nat} (h : CLe c (.box b o l)) : c = .box b o l := by
  cases c <;> simp [CLe] at h
  obtain ⟨rfl, rfl, rfl⟩ := h
  rfl

theorem V.ptrIn {F : Fr} {Ω2 Ω3 : Om} {ks : List Nat} (h2 : ∀ id c, F.e0 id = some c → ∃ c', Ω2.e id = some c' ∧ CLe c c') (h3 : ∀ id c, F.e0 id = some c → ∃ c', Ω3.e id = some c' ∧ CLe c c')
    (hk : ∀ k ∈ ks, ∃ c, F.e0 k = some c) {a : AV} {v : Value} (h : V Ω2 a v) : V Ω3 (if AL.ptrIn ks a = true then a else .undef) v := by
  split
  · rename_i hp
    cases h with
    | ptr i o b q len he =>
      simp only [AL.ptrIn, List.contains_eq_mem, decide_eq_true_eq] at hp
      obtain ⟨c, hc⟩ := hk i hp
      obtain ⟨c2, e2, l2⟩ := h2 i c hc
      rw [he] at e2
      cases e2
      have := l2.to_box
      subst this
      obtain ⟨c3, e3, l3⟩ := h3 i _ hc
      have := l3.box
      subst this
      exact .ptr i o b q len e3
    | _ => simp [AL.ptrIn] at hp
  · exact .undef v

/-- Behind the closure: the results, the slots under their names. -/
theorem fin_sound (hT : TblOK P C.tbl) {w : World} {pub : Nat → Nat → Prop} {e : Nat → Option CObj} {n n1 : Nat} {hl : ∀ id c, e id = some c → isLent id = true} {s1 : St} {a1 : Act} {Ω1 : Om} (h3 : Holds ⟨w, pub, n, e, hl, []⟩ s1.abs a1 Ω1)
    {L : List Lent} (hdist : distinct (L.map (·.1)) = true) {S1 : List (Nat × SObj)} (hS1 : canS (bget s1.b) L L 900 = some S1) {hl1 : ∀ id c, eCan L Ω1.e id = some c → isLent id = true} (hk1 : ∀ k ∈ keysOf S1, ∃ c, eCan L Ω1.e k = some c)
    {ds : List Deferred} {s2 : St} {a2 : Act} {Ω2 : Om} (q3 : Holds ⟨Ω1.w, Ω1.pub, n, eCan L Ω1.e, hl1, ds⟩ s2.abs a2 Ω2) {s3 : St} {a3 : Act} {Ω3 : Om} {T : Nat → AV} (h5 : Holds ⟨Ω1.w, Ω1.pub, n1, eCan L Ω1.e, hl1, []⟩ ⟨T, bget s3.b⟩ a3 Ω3)
    {fn : Func} {S : List (Nat × SObj)} {A : Ans} (hpan : A.pan = none) (hf : finR C fn.results.toList L s1 S1 S A s2.t s3) :
    ∃ v, (results fn a2.tmps).run P Ω3.w = .ok v Ω3.w ∧ ∃ pub' e', (∀ b pv u, A.pan = some (b, pv, u) → b = false) ∧ V ⟨e', Ω3.w, pub'⟩ A.val v ∧ After w pub e (bget (putB S A.upd)) Ω3.w pub' e' := by
  unfold finR at hf
  split at hf
  · rename_i hck
    simp only [Bool.and_eq_true, List.all_eq_true] at hck
    obtain ⟨hd3, hin⟩ := hck
    split at hf
    · rename_i l hres
      split at hf
      · rename_i u' l' hu' hl'
        rw [force_eq] at hf
        have hR : Holds ⟨Ω1.w, Ω1.pub, n, eCan L Ω1.e, hl1, ds⟩ (St.abs ⟨pinT (keysOf S1) s2.t, s3.b⟩) a2 Ω3 := by
          have := h5.retmp' (T := tget (pinT (keysOf S1) s2.t)) (a' := a2) (n := n) (ds := ds) (fun i => by
            rw [show tget (pinT (keysOf S1) s2.t) i = if ptrIn (keysOf S1) (tget s2.t i) = true then tget s2.t i else .undef from tget_map (fun x => if ptrIn (keysOf S1) x = true then x else .undef) (by simp [ptrIn]) s2.t i]
            exact V.ptrIn (F := ⟨Ω1.w, Ω1.pub, n, eCan L Ω1.e, hl1, ds⟩) q3.keep h5.keep hk1 (q3.tmps i)) q3.size q3.defers
          exact this
        obtain ⟨us, k1, k2⟩ := run_results hT hR _ _ hres
        have hmap : (results fn a2.tmps).run P Ω3.w = .ok (if h : us.toArray.size = 1 then us.toArray[0] else .tuple us.toArray) Ω3.w := by
          rw [results_eq, ← Array.toArray_toList (xs := fn.results), List.mapM_toArray]
          simp only [Sem.run_bind, Sem.run_map, k1, Result.andThen_ok, Sem.run_pure]
        have hB : bget (putB S1 s3.b) = bget s3.b := by
          funext i
          rw [bget_putB _ _ _ hd3]
          cases h : bget s3.b i with
          | some o => rfl
          | none =>
            cases h' : bget S1 i with
            | none => rfl
            | some o =>
              have := hin i (List.mem_map.2 ⟨(i, o), bget_mem _ _ _ h', rfl⟩)
              simp only [List.contains_eq_mem, decide_eq_true_eq] at this
              exact absurd this (bget_none _ _ h)
        have hA : After Ω1.w Ω1.pub (eCan L Ω1.e) (bget (putB S1 s3.b)) Ω3.w Ω3.pub Ω3.e := by
          rw [hB]
          exact after_of (h5.retmp' (T := T) (a' := a3) (n := n1) (ds := []) h5.tmps h5.size h5.defers)
        obtain ⟨Ω', w1, w2, w3⟩ := call_back h3 (d := 998) (by omega) hdist hS1 hd3 hu' (val := .tup l) (val' := .tup l') (by simp only [mapV, hl']) (v := .tuple us.toArray) (V.of_tup k2) hA
        obtain ⟨us', e1, k3⟩ := w2.tup_inv
        have e2 : us = us' := by
          have := congrArg Array.toList (Value.tuple.inj e1)
          simpa using this
        subst e2
        rw [show s1.abs.B = bget s1.b from rfl, ← abs_putB] at w3
        obtain ⟨pub', e', p1, p2⟩ := end_sound (T := s1.abs.T) (b := putB s1.b u') (t := []) w3 k3 hf
        rw [w1] at p1 p2
        exact ⟨_, hmap, pub', e', (fun b pv u h => by rw [hpan] at h; cases h), p1, p2⟩
      · exact hf.elim
    · exact hf.elim
  · exact hf.elim

theorem fwpR_sound (hm : P.follows .mixedOrders = true) (hT : TblOK P C.tbl) (hS : SpecOK P C.spec) {ann annC : An} {f g : Nat} {fn clo : Func} (hf : P.funcs[f]? = some fn) (hg : P.funcs[g]? = some clo)
    (eg : ∀ args w, (callFunc g args).run P w = .ok (.enter g args) w) {args : List AV} {S : List (Nat × SObj)} {A : Ans} (h : fwpR C ann annC fn g clo args S A) : Meets P f args S A := by
  intro w pub e vs hp hv hs hdom hinj
  unfold fwpR at h
  split at h
  · rename_i c cc hb hcb hpan
    split at h
    · exact h.elim
    · rename_i R hR
      split at h
      · exact h.elim
      · rename_i hck
        simp only [Bool.and_eq_true, List.all_eq_true, Array.isEmpty_iff, Nat.blt_eq] at hck
        obtain ⟨⟨⟨⟨⟨⟨⟨hk1, hk2⟩, hk5⟩, hk3⟩, hk4⟩, hres⟩, hcl⟩, hc6⟩ := hck
        have hlen := lenLe_sound _ _ hk3
        have hcl := lenLe_sound _ _ hcl
        have hc6 := lenLe_sound _ _ hc6
        rw [forceNs_eq, force_eq] at h
        have hlent : ∀ id c, e id = some c → isLent id = true := by
          intro id c hc
          cases hg : bget S id with
          | none => rw [hdom id hg] at hc; cases hc
          | some o => exact hk4 id (List.mem_map.2 ⟨(id, o), bget_mem _ _ _ hg, rfl⟩)
        have hRc := recL_inv hR
        obtain ⟨i1, i2, ty1, ps1, af1, ty2, ps2, af2, ts2, ty3, ps3, af3, ts3, ty4, ps4, af4, rfl, _⟩ := id hRc
        refine calls_of_wp_defers hf hb ?_
        have hh := holds_init (n := fn.ntmps) hp hv hlen hs hdom hinj hlent
        have hdr : dstsOK fn.ntmps R.r0 = true ∧ dstsOK fn.ntmps R.rest = true := by
          simp only [dstsOK, Bool.and_eq_true] at hk1
          exact ⟨hk1.1, hk1.2.2⟩
        refine wp_seq (wp_mono (swp_sound (F := ⟨w, pub, fn.ntmps, e, hlent, []⟩) hm hT hS _ ann R.r0 _ _ _ _ h hdr.1 hh) ?_)
        intro en a1 w1 hq
        obtain ⟨z, s1, Ω1, q1, rfl, h3, h4⟩ := hq
        cases z with
        | exit id => exact h4.elim
        | ret => exact h4.elim
        | pan pv => exact h4.elim
        | normal =>
          cases q1
          simp only at h4
          generalize hLL : (keysOf s1.b).map (fun i => (i, (none : Option (Nat × Nat)))) = L at h4
          split at h4
          · rename_i as1 caps S1 hdl has hcaps hS1
            simp only [Bool.and_eq_true, Nat.ble_eq] at hdl
            obtain ⟨hdist, hL100⟩ := hdl
            split at h4
            · rename_i hcp
              rw [force_eq] at h4
              obtain ⟨k1, k2, k3⟩ := canS_spec L 900 S1 hS1
              -- the closure is made, and laid
              refine wp_seq (wp_region ?_)
              show wpOps P _ _ [0, 1] a1 Ω1.w
              refine wpOps_op (o := ⟨some R.t5, .makeFunc (.func g) #[] R.caps.toArray, ty1, ps1, af1, none⟩) rfl rfl (wp_value (v := .func (.func g) #[] (R.caps.toArray.map a1.eval)) (w' := Ω1.w) (by simp [execOp, Instr.makeFunc]) ?_)
              have he5 : (a1.put (some R.t5) (.func (.func g) #[] (R.caps.toArray.map a1.eval))).eval (.tmp R.t5) = .func (.func g) #[] (R.caps.toArray.map a1.eval) := by
                show (Act.put a1 (some R.t5) _).tmps.getD R.t5 undef = _
                rw [put_get h3.size hk5, if_pos rfl]
              refine wpOps_op (o := ⟨none, .defer ⟨.value (.tmp R.t5), #[], ts2⟩, ty2, ps2, af2, none⟩) rfl rfl ?_
              have hrun : (execOp (a1.put (some R.t5) (.func (.func g) #[] (R.caps.toArray.map a1.eval))).eval ⟨none, .defer ⟨.value (.tmp R.t5), #[], ts2⟩, ty2, ps2, af2, none⟩).run P Ω1.w = .ok (.defer { target := .fn (.func g) (R.caps.toArray.map a1.eval), args := #[] }) Ω1.w := by
                have he5' := he5
                simp only [List.map_toArray] at he5'
                simp [execOp, resolve, he5', Deferred.ofValue]
              unfold Oper.wp
              rw [hrun]
              have hcv : R.caps.toArray.map a1.eval = (R.caps.map a1.eval).toArray := by simp
              -- the rest, in a frame in which all slots are pinned
              have hdef0 : a1.defers = [] := h3.defers
              have hvl1 : VL Ω1 ((List.range fn.ntmps).map (tget s1.t)) a1.tmps.toList := by
                have hz : a1.tmps.size = fn.ntmps := h3.size
                refine ⟨by simp; omega, fun j c v hc hv => ?_⟩
                simp only [List.getElem?_map, Option.map_eq_some_iff] at hc
                obtain ⟨q, hq, rfl⟩ := hc
                have hqj : q = j := by
                  have := List.getElem?_eq_some_iff.1 hq
                  obtain ⟨_, e⟩ := this
                  simpa using e.symm
                subst hqj
                have := h3.tmps q
                rw [Array.getElem?_toList] at hv
                simp only [Array.getD_eq_getD_getElem?, hv, Option.getD_some] at this
                exact this
              have hvc1 : VL Ω1 (R.caps.map (opd (tget s1.t))) (R.caps.map a1.eval) := by
                refine ⟨by simp, fun j c v hc hv => ?_⟩
                simp only [List.getElem?_map, Option.map_eq_some_iff] at hc hv
                obtain ⟨x, hx, rfl⟩ := hc
                obtain ⟨y, hy, rfl⟩ := hv
                rw [hx] at hy
                cases hy
                exact V_opd h3 x
              have hvl := hvl1.mapVs (names_to L Ω1.e) has
              have hvc := hvc1.mapVs (names_to L Ω1.e) hcaps
              have hlent1 : ∀ k i r, lentAt L k = some (i, r) → ∃ o o', s1.abs.B i = some o ∧ canO L r o = some o' ∧ bget S1 k = some o' := by
                intro k i r hk
                obtain ⟨h1, h2⟩ := lentAt_spec hk
                obtain ⟨o, o', q1, q2, q3⟩ := k2 _ i r h2
                rw [show 900 + (k - 900) = k by omega] at q3
                exact ⟨o, o', q1, q2, q3⟩
              have hLs : ∀ q i r, nth L q = some (i, r) → ∃ o o', s1.abs.B i = some o ∧ canO L r o = some o' := fun q i r hq => let ⟨o, o', q1, q2, _⟩ := k2 q i r hq; ⟨o, o', q1, q2⟩
              have hslots : ∀ id o, bget S1 id = some o → SlotOK ⟨eCan L Ω1.e, Ω1.w, Ω1.pub⟩ (fun _ _ => True) id o := fun id o' ho' => by
                obtain ⟨q, i, r, o2, e1, e2, e3, e4⟩ := k1 id o' ho'
                subst e1
                exact slot_can (lentAt_idx (idx_nth L i 900 q r hdist e2)) (h3.slots i o2 e3) e4
              have hdom1 : ∀ id, bget S1 id = none → eCan L Ω1.e id = none := fun id hid => by
                unfold eCan
                cases hl : lentAt L id with
                | none => rfl
                | some x =>
                  obtain ⟨o1, o2, _, _, q3⟩ := hlent1 id x.1 x.2 hl
                  rw [hid] at q3
                  cases q3
              have hinj1 : Inj (eCan L Ω1.e) := fun i j c c' b oo hi hj ho1 ho2 => by
                obtain ⟨i1, r1, c1, p1, p2, p3⟩ := eCan_occ h3.slots hLs hi
                obtain ⟨i2, r2, c2, p4, p5, p6⟩ := eCan_occ h3.slots hLs hj
                have := h3.inj i1 i2 c1 c2 b oo p2 p5 (p3 b oo ho1) (p6 b oo ho2)
                subst this
                have a1 := idx_lentAt hdist p1
                have a2 := idx_lentAt hdist p4
                rw [a1] at a2
                simp at a2
                exact a2.1
              have hpin : ∀ id c, eCan L Ω1.e id = some c → isLent id = true := by
                intro id c hc
                cases hg : bget S1 id with
                | none => rw [hdom1 id hg] at hc; cases hc
                | some o =>
                  have := k3 (id, o) (bget_mem _ _ _ hg)
                  simp only [isLent, Bool.and_eq_true, Nat.ble_eq, Nat.blt_eq]
                  simp only at this
                  omega
              have hkS : ∀ k ∈ keysOf S1, ∃ c, eCan L Ω1.e k = some c := by
                intro k hk
                obtain ⟨x, hx, rfl⟩ := List.mem_map.1 hk
                cases hg : bget S1 x.1 with
                | none => exact absurd (List.mem_map.2 ⟨x, hx, rfl⟩) (bget_none _ _ hg)
                | some o =>
                  have hso := hslots x.1 o hg
                  cases o with
                  | box c => obtain ⟨_, _, e1, _⟩ := hso; exact ⟨_, e1⟩
                  | tail τ n => obtain ⟨_, _, e1, _⟩ := hso; exact ⟨_, e1⟩
                  | map κ τ m => obtain ⟨_, e1, _⟩ := hso; exact ⟨_, e1⟩
                  | bld t u l => obtain ⟨_, _, e1, _⟩ := hso; exact ⟨_, e1⟩
              have hlen1 : as1.length ≤ fn.ntmps := by
                have := hvl.1
                rw [this, Array.length_toList, h3.size]
                exact Nat.le_refl _
              have hi1 := holds_init (n := fn.ntmps) h3.pubok hvl hlen1 hslots hdom1 hinj1 hpin
              have hi2 := hi1.retmp' (T := tget (initT 0 as1)) (a' := { tmps := a1.tmps, defers := [{ target := .fn (.func g) (R.caps.toArray.map a1.eval), args := #[] }] }) (n := fn.ntmps) (ds := [{ target := .fn (.func g) (R.caps.toArray.map a1.eval), args := #[] }])
                (fun i => by
                  have := hi1.tmps i
                  have e0 : (a1.tmps.toList.toArray ++ Array.replicate (fn.ntmps - a1.tmps.toList.toArray.size) undef) = a1.tmps := by
                    have hz : a1.tmps.size = fn.ntmps := h3.size
                    apply Array.ext'
                    simp [hz]
                  rw [e0] at this
                  exact this) h3.size rfl
              have hi3 := hi2.pure (dst := some R.t5) (val := .undef) (v := .func (.func g) #[] (R.caps.toArray.map a1.eval)) (.undef _) (fun d e => by cases e; exact hk5)
              have hi4 := hi3.weak (s' := St.abs ⟨tset (initT 0 as1) R.t5 .undef, S1⟩) (fun i => by
                simp only [St.abs, tget_tset, updT]
                by_cases e5 : R.t5 = i
                · left; simp [e5]
                · right; simp [e5]) rfl
              have hact : (({ tmps := a1.tmps, defers := [{ target := .fn (.func g) (R.caps.toArray.map a1.eval), args := #[] }] } : Act).put (some R.t5) (.func (.func g) #[] (R.caps.toArray.map a1.eval))) =
                  ({ (a1.put (some R.t5) (.func (.func g) #[] (R.caps.toArray.map a1.eval))) with defers := { target := .fn (.func g) (R.caps.toArray.map a1.eval), args := #[] } :: (a1.put (some R.t5) (.func (.func g) #[] (R.caps.toArray.map a1.eval))).defers } : Act).put none undef := by
                simp [Act.put, hdef0]
              show Code.wp P R.rest _ (({ (a1.put (some R.t5) (.func (.func g) #[] (R.caps.toArray.map a1.eval))) with defers := { target := .fn (.func g) (R.caps.toArray.map a1.eval), args := #[] } :: (a1.put (some R.t5) (.func (.func g) #[] (R.caps.toArray.map a1.eval))).defers } : Act).put none undef) Ω1.w
              rw [← hact]
              refine wp_mono (swp_sound hm hT hS _ ann R.rest _ _ _ ⟨eCan L Ω1.e, Ω1.w, Ω1.pub⟩ h4 hdr.2 hi4) ?_
              intro en a2 w2 hq
              obtain ⟨z, s2, Ω2, g1, rfl, g3, g4⟩ := hq
              have hcv2 : VL Ω2 caps (R.caps.map a1.eval) := by
                refine ⟨hvc.1, fun j c v hc hv => ?_⟩
                exact V.pinned g3.keep (List.all_eq_true.1 hcp c (List.mem_of_getElem? hc)) (hvc.2 j c v hc hv)
              have hcl' : caps.length ≤ clo.ntmps := by rw [hvc.1, List.length_map]; exact hcl
              have hc6' : caps.length ≤ R.t6 := by rw [hvc.1, List.length_map]; exact hc6
              have close : ∀ (u u' : FrameMode) (av : AV) (v : Value), u ≠ .run → settle u' = .returning → Rcv u av Ω2 v u' → closR C annC clo R caps av s2 (finR C fn.results.toList L s1 S1 S A s2.t) →
                  Leaves P fn a2.tmps (fun en w' => ∃ pub' e', match en with
                    | .returned v => (∀ b pv u, A.pan = some (b, pv, u) → b = false) ∧ V ⟨e', w', pub'⟩ A.val v ∧ After w pub e (bget (putB S A.upd)) w' pub' e'
                    | .panicked ch => ∃ pv u v, A.pan = some (true, pv, u) ∧ ch = [{ v, recovered := false }] ∧ V ⟨e', w', pub'⟩ pv v ∧ After w pub e (bget (putB S u)) w' pub' e'
                    | .outgrown => False) [{ target := .fn (.func g) (R.caps.toArray.map a1.eval), args := #[] }] u Ω2.w := by
                intro u u' av v hu hse hrc hcr
                refine leaves_cons (f := g) (args := (R.caps.map a1.eval).toArray) hu (by simp [invoke, eg]) ?_
                refine (clos_sound hm hT hS hRc hg hcb hk2 hres hcl' hc6' g3 hcv2 hrc hcr).mono ?_
                rintro en u2 w3 ⟨rfl, rfl, s3, Ω3, a3, T3, rfl, hfin, h5⟩
                simp only [hse, Leaves]
                obtain ⟨v, r1, pub', e', r2, r3, r4⟩ := fin_sound hT h3 hdist hS1 hkS g3 h5 hpan hfin
                exact ⟨v, r1, pub', e', r2, r3, r4⟩
              have hds : a2.defers = [{ target := .fn (.func g) (R.caps.toArray.map a1.eval), args := #[] }] := g3.defers
              cases z with
              | normal => cases g1; show Leaves P fn a2.tmps _ a2.defers .returning Ω2.w; rw [hds]; exact close .returning .returning .nilif .nilIface (by simp) rfl (.ret Ω2) g4
              | ret => cases g1; show Leaves P fn a2.tmps _ a2.defers .returning Ω2.w; rw [hds]; exact close .returning .returning .nilif .nilIface (by simp) rfl (.ret Ω2) g4
              | exit id => exact g4.elim
              | pan pv =>
                obtain ⟨v, rfl, hv⟩ := g1
                show Leaves P fn a2.tmps _ a2.defers (.panicking [{ v, recovered := false }]) Ω2.w
                rw [hds]
                exact close _ (.panicking [{ v, recovered := true }]) pv v (by simp) (by simp [settle]) (.pan Ω2 pv v hv) g4
            · exact h4.elim
          · exact h4.elim
  · exact h.elim

end
end Go.AL
