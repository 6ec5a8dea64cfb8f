/-
  What the evaluator says of a function's code holds of every call of it. Conditions: the table of types fits; the contracts of what it calls hold.
-/
import Derived.Test.YtjemjblnddfdbaaGreatAlN3
import Derived.Deep.LoopGhost
set_option linter.unusedVariables false
set_option linter.unusedSimpArgs false
set_option linter.unnecessarySimpa false
set_option linter.deprecated false
namespace Go.AL

def exitOf : SX → Exit
  | .normal => .normal
  | .exit id => .exit id
  | .ret => .ret
  | .pan _ => .outgrown

/-- An end, and the machine's. -/
def Ends (Ω : Om) : SX → Exit → Prop
  | .pan pv, e => ∃ v, e = .panic [{ v, recovered := false }] ∧ V Ω pv v
  | x, e => exitOf x = e

/-- What is said of a symbolic end, said of the machine's. -/
def QL (F : Fr) (Q : SX → St → Prop) : Exit → Act → World → Prop := fun e a w => ∃ x s Ω, Ends Ω x e ∧ Ω.w = w ∧ Holds F s.abs a Ω ∧ Q x s

theorem QL.mono {F : Fr} {Q Q' : SX → St → Prop} (h : ∀ x s, Q x s → Q' x s) {e : Exit} {a : Act} {w : World} (hq : QL F Q e a w) : QL F Q' e a w := by
  obtain ⟨x, s, Ω, h1, h2, h3, h4⟩ := hq
  exact ⟨x, s, Ω, h1, h2, h3, h x s h4⟩

mutual
theorem forceV_eq : ∀ (a : AV) (k : AV → Prop), forceV a k = k a
  | .undef, k => rfl
  | .int κ n, k => rfl
  | .bool b, k => rfl
  | .str s, k => rfl
  | .lst τ xs none, k => rfl
  | .lst τ xs (some i), k => rfl
  | .nils, k => rfl
  | .ptr i o, k => rfl
  | .cptr c, k => by simp only [forceV]; rw [forceV_eq c]
  | .st n x, k => rfl
  | .nilp, k => rfl
  | .row τ xs, k => rfl
  | .arr i n w, k => rfl
  | .aptr i n w o, k => rfl
  | .map i, k => rfl
  | .bptr i, k => rfl
  | .iface t a, k => by simp only [forceV]; rw [forceV_eq a]
  | .nilif, k => rfl
  | .pt n x, k => rfl
  | .agg cs, k => by simp only [forceV]; rw [forceL_eq cs]
  | .tup cs, k => by simp only [forceV]; rw [forceL_eq cs]
  | .fn f cs, k => by simp only [forceV]; rw [forceL_eq cs]
theorem forceL_eq : ∀ (l : List AV) (k : List AV → Prop), forceL l k = k l
  | [], k => rfl
  | a :: r, k => by simp only [forceL]; rw [forceV_eq a, forceL_eq r]
end
theorem forceT_eq : ∀ (l : List (Nat × AV)) (k : List (Nat × AV) → Prop), forceT l k = k l
  | [], k => rfl
  | (i, a) :: r, k => by simp only [forceT]; rw [forceV_eq a, forceT_eq r]
theorem forceB_eq : ∀ (l : List (Nat × SObj)) (k : List (Nat × SObj) → Prop), forceB l k = k l
  | [], k => rfl
  | (i, .box c) :: r, k => by simp only [forceB]; rw [forceV_eq c, forceB_eq r]
  | (i, .tail τ n) :: r, k => by simp only [forceB]; rw [forceB_eq r]
  | (i, .map κ τ m) :: r, k => by simp only [forceB]; rw [forceB_eq r]
  | (i, .bld t u l) :: r, k => by simp only [forceB]; rw [forceB_eq r]
theorem force_eq (s : St) (k : St → Prop) : force s k = k s := by
  unfold force
  rw [forceT_eq, forceB_eq]

theorem forceNs_eq : ∀ (l : List Nat) (k : List Nat → Prop), forceNs l k = k l
  | [], k => rfl
  | 0 :: r, k => by simp only [forceNs]; rw [forceNs_eq r]
  | (n + 1) :: r, k => by simp only [forceNs]; rw [forceNs_eq r]

theorem Holds.trim {F : Fr} {s : St} {a : Act} {Ω : Om} (h : Holds F s.abs a Ω) (keep : List Nat) : Holds F (trim keep s).abs a Ω := by
  refine ⟨fun i => ?_, h.size, h.defers, h.slots, h.dom, h.inj, h.pubok, h.keep, h.frame⟩
  have := tget_filter s.t (fun i => keep.contains i) i
  simp only [AL.trim, St.abs]
  rw [this]
  split
  · exact h.tmps i
  · exact .undef _

section
variable {P : Program} {C : Cfg} {F : Fr}

theorem swp_sound (hm : P.follows .mixedOrders = true) (hT : TblOK P C.tbl) (hS : SpecOK P C.spec) (keep : List Nat) (ann : An) :
    ∀ (c : Code) (s : St) (Q : SX → St → Prop) (a : Act) (Ω : Om), swp C keep ann c s Q → dstsOK F.n c = true → Holds F s.abs a Ω → c.wp P (QL F Q) a Ω.w := by
  intro c
  induction c with
  | skip => exact fun s Q a Ω h _ hh => wp_skip ⟨.normal, s, Ω, rfl, rfl, hh, h⟩
  | region id ops draw =>
    intro s Q a Ω h hd hh
    simp only [swp] at h
    split at h
    · exact h.elim
    · rename_i s0 hp0
      obtain ⟨Ω0, e0, hh0⟩ := pubAll_sound _ hh hp0
      split at h
      · exact h.elim
      · rename_i s1 he
        obtain ⟨Ω1, e1, hh1⟩ := enter_sound hh0 he
        have hdst : ∀ (o : Oper), o ∈ ops.toList → ∀ d, o.dst = some d → d < F.n := by
          intro o ho d hod
          simp only [dstsOK, List.all_eq_true] at hd
          have := hd o ho
          rw [hod] at this
          simpa using this
        rw [← e0, ← e1]
        have key : ∀ s' fs, (force (trim keep s') fun s' => if draw = true then (if indepAll ops.toList fs = true then Q .normal s' else False) else Q .normal s') →
            (draw = true → indepAll ops.toList fs = true) ∧ Q .normal (trim keep s') := by
          intro s' fs hk
          simp only [force_eq] at hk
          cases draw with
          | false => exact ⟨fun h => by simp at h, by simpa using hk⟩
          | true =>
            simp only [if_true] at hk
            rcases Classical.em (indepAll ops.toList fs = true) with k | k
            · rw [if_pos k] at hk; exact ⟨fun _ => k, hk⟩
            · rw [if_neg k] at hk; exact hk.elim
        refine region_sound hm hT hS hdst h (fun hdr s' fs hk => (key s' fs hk).1 hdr) hh1 (fun s' fs a' Ω' hk h' => ⟨.normal, trim keep s', Ω', rfl, rfl, h'.trim keep, (key s' fs hk).2⟩)
          (fun pv s' a' Ω' v hk h' hv => ?_)
        simp only [force_eq, forceV_eq] at hk
        exact ⟨.pan pv, s', Ω', ⟨v, rfl, hv⟩, rfl, h', hk⟩
  | seq x y ihx ihy =>
    intro s Q a Ω h hd hh
    have hd0 := hd
    simp only [dstsOK, Bool.and_eq_true] at hd
    simp only [swp] at h
    split at h
    · rename_i L hL
      refine wp_mono (keys_sound hT hL h hd0 hh) ?_
      rintro e a' w' ⟨rfl, s', Ω', h2, h3, h4⟩
      rw [force_eq] at h4
      exact ⟨.normal, s', Ω', rfl, h2, h3, h4⟩
    refine wp_seq (wp_mono (ihx s _ a Ω h hd.1 hh) ?_)
    intro e a' w' hq
    obtain ⟨z, s', Ω', h1, h2, h3, h4⟩ := hq
    subst h2
    cases z with
    | normal => cases h1; exact ihy s' Q a' Ω' h4 hd.2 h3
    | exit id => cases h1; exact ⟨.exit id, s', Ω', rfl, rfl, h3, h4⟩
    | ret => cases h1; exact ⟨.ret, s', Ω', rfl, rfl, h3, h4⟩
    | pan pv => obtain ⟨v, rfl, hv⟩ := h1; exact ⟨.pan pv, s', Ω', ⟨v, rfl, hv⟩, rfl, h3, h4⟩
  | cond c x y ihx ihy =>
    intro s Q a Ω h hd hh
    simp only [dstsOK, Bool.and_eq_true] at hd
    simp only [swp] at h
    split at h
    · rename_i b hb
      have hv := V_opd hh c
      have hb' : opd s.abs.T c = .bool b := hb
      rw [hb'] at hv
      have hv := hv.bool_inv
      refine wp_cond hv ?_
      unfold sp at h
      have hset : Holds F (setC c b s).abs a Ω := by
        cases c with
        | tmp t =>
          refine ⟨fun i => ?_, hh.size, hh.defers, hh.slots, hh.dom, hh.inj, hh.pubok, hh.keep, hh.frame⟩
          have e : (setC (.tmp t) b s).abs.T i = if t = i then .bool b else tget s.t i := tget_tset s.t t (.bool b) i
          rw [e]
          by_cases ht : t = i
          · subst ht
            rw [if_pos rfl]
            have := hh.tmps t
            rw [show s.abs.T t = .bool b from hb'] at this
            exact this
          · rw [if_neg ht]
            exact hh.tmps i
        | _ => exact hh
      cases b with
      | true => exact ihx _ Q a Ω (by simpa using h) hd.1 hset
      | false => exact ihy _ Q a Ω (by simpa using h) hd.2 hset
    · exact h.elim
  | block id c ih =>
    intro s Q a Ω h hd hh
    simp only [dstsOK] at hd
    simp only [swp] at h
    refine wp_block (wp_mono (ih s _ a Ω h hd hh) ?_)
    intro e a' w' hq
    obtain ⟨z, s', Ω', h1, h2, h3, h4⟩ := hq
    subst h2
    cases z with
    | normal => cases h1; exact ⟨.normal, s', Ω', rfl, rfl, h3, h4⟩
    | ret => cases h1; exact ⟨.ret, s', Ω', rfl, rfl, h3, h4⟩
    | pan pv => obtain ⟨v, rfl, hv⟩ := h1; exact ⟨.pan pv, s', Ω', ⟨v, rfl, hv⟩, rfl, h3, h4⟩
    | exit j =>
      cases h1
      simp only [exitOf, Exit.inBlock]
      by_cases hj : j = id
      · subst hj
        simp only [if_true]
        simp only [beq_self_eq_true, if_true] at h4
        exact ⟨.normal, s', Ω', rfl, rfl, h3, h4⟩
      · rw [if_neg hj]
        simp only [beq_iff_eq, hj, if_false] at h4
        exact ⟨.exit j, s', Ω', rfl, rfl, h3, h4⟩
  | loop c ih =>
    intro s Q a Ω h hd hh
    simp only [dstsOK] at hd
    simp only [swp] at h
    split at h
    · exact h.elim
    · rename_i A hA
      simp only [force_eq] at h
      obtain ⟨⟨x0, hp0, hle0⟩, hround⟩ := h
      obtain ⟨Ω0, e0, hh0⟩ := LeS_sound hh (cS_spec hle0)
      rw [← e0]
      refine wp_loop_ghost (fun k a w => ∃ x Ω, A.pre x ∧ A.m x = k ∧ Ω.w = w ∧ Holds F (loopSt (assigned c) s (A.t x) (A.b x)).abs a Ω) (A.m x0) ⟨x0, Ω0, hp0, rfl, rfl, hh0⟩ ?_
      intro k a1 w1 hI
      obtain ⟨x, Ω1, hp, hmx, hw1, hh1⟩ := hI
      subst hw1
      refine wp_mono (ih (loopSt (assigned c) s (A.t x) (A.b x)) _ a1 Ω1 (hround x hp) hd hh1) ?_
      intro e a' w' hq
      obtain ⟨z, s', Ω', h1, h2, h3, h4⟩ := hq
      subst h2
      cases z with
      | normal =>
        cases h1
        obtain ⟨y, hy1, hy2, hy3⟩ := h4
        obtain ⟨Ω2, e2, hh2⟩ := LeS_sound h3 (cS_spec hy3)
        exact ⟨A.m y, by omega, y, Ω2, hy1, rfl, e2, hh2⟩
      | exit id => cases h1; exact ⟨.exit id, s', Ω', rfl, rfl, h3, h4⟩
      | ret => cases h1; exact ⟨.ret, s', Ω', rfl, rfl, h3, h4⟩
      | pan pv => obtain ⟨v, rfl, hv⟩ := h1; exact ⟨.pan pv, s', Ω', ⟨v, rfl, hv⟩, rfl, h3, h4⟩
  | exit id => exact fun s Q a Ω h _ hh => wp_exit ⟨.exit id, s, Ω, rfl, rfl, hh, h⟩
  | ret => exact fun s Q a Ω h _ hh => wp_ret ⟨.ret, s, Ω, rfl, rfl, hh, h⟩
  | rangeFunc g ps x y _ _ => exact fun s Q a Ω h => by simp [swp] at h
  | scope c _ => exact fun s Q a Ω h => by simp [swp] at h
  | label l => exact fun s Q a Ω h => by simp [swp] at h
  | goto l => exact fun s Q a Ω h => by simp [swp] at h
  | refuse why => exact fun s Q a Ω h => by simp [swp] at h

theorem tget_init : ∀ (l : List AV) (i j : Nat), tget (initT i l) j = if i ≤ j then l.getD (j - i) .undef else .undef
  | [], i, j => by simp [initT, tget]
  | v :: r, i, j => by
    simp only [initT, tget, tget_init r (i + 1) j]
    by_cases h : i = j
    · subst h; simp
    · simp only [beq_iff_eq, h, if_false]
      by_cases h2 : i ≤ j
      · have e : j - i = (j - (i + 1)) + 1 := by omega
        rw [if_pos h2, if_pos (by omega), e]
        simp
      · rw [if_neg h2, if_neg (by omega)]

theorem tmps_init {w : World} {pub : Nat → Nat → Prop} {e : Nat → Option CObj} {args : List AV} {vs : List Value} (k : Nat) (hv : VL ⟨e, w, pub⟩ args vs) (i : Nat) :
    V ⟨e, w, pub⟩ (tget (initT 0 args) i) ((vs.toArray ++ Array.replicate k undef).getD i undef) := by
  simp only [tget_init, Nat.zero_le, if_true, Nat.sub_zero]
  by_cases h : i < args.length
  · have h' : i < vs.length := by rw [← hv.1]; exact h
    have e1 : args.getD i .undef = args[i] := by simp [List.getD_eq_getElem?_getD, h]
    have e2 : (vs.toArray ++ Array.replicate k undef).getD i undef = vs[i] := by
      simp [Array.getD_eq_getD_getElem?, Array.getElem?_append, h']
    rw [e1, e2]
    exact hv.2 i _ _ (List.getElem?_eq_getElem h) (List.getElem?_eq_getElem h')
  · have e1 : args.getD i .undef = .undef := by simp [List.getD_eq_getElem?_getD, h]
    rw [e1]
    exact .undef _

theorem holds_init {w : World} {pub : Nat → Nat → Prop} {e : Nat → Option CObj} {args : List AV} {vs : List Value} {n : Nat} {S : List (Nat × SObj)} (hp : PubOK w pub) (hv : VL ⟨e, w, pub⟩ args vs) (hn : args.length ≤ n)
    (hs : ∀ id o, bget S id = some o → SlotOK ⟨e, w, pub⟩ (fun _ _ => True) id o) (hd : ∀ id, bget S id = none → e id = none) (hi : Inj e) (hl : ∀ id c, e id = some c → isLent id = true) :
    Holds ⟨w, pub, n, e, hl, []⟩ (St.abs ⟨initT 0 args, S⟩) { tmps := vs.toArray ++ Array.replicate (n - vs.toArray.size) undef, defers := [] } ⟨e, w, pub⟩ :=
  ⟨fun i => tmps_init _ hv i, by simp; have := hv.1; omega, rfl, fun id o ho => (hs id o ho).own_of (fun c b oo hc hoc => Or.inr ⟨id, c, hc, hoc⟩), fun id hid => hd id hid, hi, hp, fun id c hc => ⟨c, hc, CLe.refl c⟩,
    ⟨rfl, rfl, rfl, Nat.le_refl _, fun _ _ _ => rfl, fun _ _ _ _ => rfl, fun _ _ _ => ⟨rfl, fun _ => rfl⟩, fun _ _ h => Or.inl h, fun _ _ h => h, fun _ _ _ => rfl⟩⟩

def resVal (tmps : Array Value) : ResultVar → Sem Value
  | .tmp t => pure (tmps.getD t undef)
  | .cell a t => do loadVar t (← asAddr (tmps.getD a undef))

theorem results_eq (fn : Func) (tmps : Array Value) : results fn tmps = (do
    let vs ← fn.results.mapM (resVal tmps)
    pure (if h : vs.size = 1 then vs[0] else .tuple vs)) := by
  unfold results
  congr 1

/-- The results, one by one. -/
theorem run_results (hT : TblOK P C.tbl) {s : St} {a : Act} {Ω : Om} (hh : Holds F s.abs a Ω) : ∀ (rs : List ResultVar) (l : List AV), resOf C.tbl s rs = some l →
    ∃ vs, (rs.mapM (resVal a.tmps)).run P Ω.w = .ok vs Ω.w ∧ VL Ω l vs
  | [], l, h => by
    simp [resOf] at h
    subst h
    exact ⟨[], rfl, VL.nil⟩
  | .tmp t :: rs, l, h => by
    simp only [resOf] at h
    split at h
    · rename_i l' hl'
      simp at h
      subst h
      obtain ⟨vs, k1, k2⟩ := run_results hT hh rs l' hl'
      exact ⟨_, by rw [List.mapM_cons]; simp only [resVal, Sem.run_bind, Sem.run_pure, Result.andThen_ok, k1], VL.cons (hh.tmps t) k2⟩
    · cases h
  | .cell b t :: rs, l, h => by
    simp only [resOf] at h
    split at h
    · rename_i id off rt hb hrt
      have hv := hh.tmps b
      have e : s.abs.T b = .ptr id off := hb
      rw [e] at hv
      obtain ⟨g, o', len, hv1, hv2⟩ := hv.ptr_inv
      split at h
      · rename_i c hcs
        split at h
        · rename_i x l' hx hl'
          simp at h
          subst h
          obtain ⟨vs, k1, k2⟩ := run_results hT hh rs l' hl'
          obtain ⟨b', off', e1, e2⟩ := hh.slots id _ hcs
          rw [hv2] at e1
          simp only [Option.some.injEq, CObj.box.injEq] at e1
          obtain ⟨rfl, rfl, rfl⟩ := e1
          obtain ⟨v, w1, w2⟩ := run_loadRow (P := P) (C := C) (w := Ω.w) hT hrt hx (b := g) (o' := o') (fun j c' hc => (e2 j c' hc).2.2.2)
          exact ⟨v :: vs, by rw [List.mapM_cons]; simp only [resVal, Sem.run_bind, hv1, asAddr, Sem.run_pure, Result.andThen_ok, w1, k1], VL.cons w2 k2⟩
        · cases h
      · cases h
    · cases h

/-- A state at the end, with other temporaries. -/
theorem Holds.retmp {s : AS} {a : Act} {Ω : Om} (h : Holds F s a Ω) {l : List AV} {vs : List Value} (hv : VL Ω l vs) :
    Holds ⟨F.w0, F.pub0, vs.length, F.e0, F.dom0, []⟩ ⟨tget (initT 0 l), s.B⟩ { tmps := vs.toArray ++ Array.replicate 0 undef, defers := [] } Ω :=
  ⟨fun i => tmps_init 0 hv i, by simp, rfl, h.slots, h.dom, h.inj, h.pubok, h.keep,
    ⟨h.frame.os, h.frame.tape, h.frame.output, h.frame.size, h.frame.block, h.frame.cell, h.frame.kind, h.frame.pub, h.frame.old, h.frame.pcell⟩⟩

/-- What a promised state at the end says of the call. -/
theorem after_of {w : World} {pub : Nat → Nat → Prop} {e : Nat → Option CObj} {n : Nat} {hl : ∀ id c, e id = some c → isLent id = true} {T : Nat → AV} {B : List (Nat × SObj)} {a : Act} {Ω : Om}
    (h : Holds ⟨w, pub, n, e, hl, []⟩ ⟨T, bget B⟩ a Ω) : After w pub e (bget B) Ω.w Ω.pub Ω.e := by
  refine ⟨h.frame.os, h.frame.tape, h.frame.output, h.frame.size, h.frame.block, h.frame.cell, h.frame.kind, ⟨h.keep, h.frame.old, h.frame.pcell⟩, fun b o hp => ?_, h.pubok, h.slots, h.dom, h.inj⟩
  rcases h.frame.pub b o hp with q | q | q
  · exact Or.inl q
  · exact Or.inr (Or.inl q)
  · exact Or.inr (Or.inr q)

theorem list_one {α : Type} {l : List α} (h : l.length = 1) : ∃ x, l = [x] := by
  match l, h with
  | [x], _ => exact ⟨x, rfl⟩

/-- What the evaluator says of a function holds of every call of it. -/
theorem fwp_sound (hm : P.follows .mixedOrders = true) (hT : TblOK P C.tbl) (hS : SpecOK P C.spec) {ann : An} {f : Nat} {fn : Func} (hf : P.funcs[f]? = some fn)
    {args : List AV} {S : List (Nat × SObj)} {A : Ans} (h : fwp C ann fn args S A) : Meets P f args S A := by
  intro w pub e vs hp hv hs hdom hinj
  unfold fwp at h
  split at h
  · exact h.elim
  · rename_i c hb
    split at h
    · exact h.elim
    · rename_i hck
      simp only [Bool.and_eq_true, List.all_eq_true] at hck
      obtain ⟨⟨hck1, hck2⟩, hck3⟩ := hck
      have hlen := lenLe_sound _ _ hck2
      rw [forceNs_eq, force_eq] at h
      have hlent : ∀ id c, e id = some c → isLent id = true := by
        intro id c hc
        cases hg : bget S id with
        | none => rw [hdom id hg] at hc; cases hc
        | some o => exact hck3 id (List.mem_map.2 ⟨(id, o), bget_mem _ _ _ hg, rfl⟩)
      refine calls_of_wp hf hb ?_
      have hh := holds_init (n := fn.ntmps) hp hv hlen hs hdom hinj hlent
      refine wp_mono (swp_sound (F := ⟨w, pub, fn.ntmps, e, hlent, []⟩) hm hT hS _ ann c _ _ _ _ h hck1 hh) ?_
      intro en a' w' hq
      obtain ⟨z, s', Ω', h1, h2, h3, h4⟩ := hq
      subst h2
      have hmap : ∀ us, (fn.results.toList.mapM (resVal a'.tmps)).run P Ω'.w = .ok us Ω'.w →
          (results fn a'.tmps).run P Ω'.w = .ok (if h : us.toArray.size = 1 then us.toArray[0] else .tuple us.toArray) Ω'.w := by
        intro us hus
        rw [results_eq, ← Array.toArray_toList (xs := fn.results), List.mapM_toArray]
        simp only [Sem.run_bind, Sem.run_map, hus, Result.andThen_ok, Sem.run_pure]
      have key : ((match A.pan with | some (b, _, _) => b = false | none => True) ∧ endOK (resOf C.tbl s' fn.results.toList) s' A.val (putB S A.upd)) →
          a'.defers = [] ∧ ∃ v, (results fn a'.tmps).run P Ω'.w = .ok v Ω'.w ∧ ∃ pub' e', (∀ b pv u, A.pan = some (b, pv, u) → b = false) ∧ V ⟨e', Ω'.w, pub'⟩ A.val v ∧ After w pub e (bget (putB S A.upd)) Ω'.w pub' e' := by
        rintro ⟨hpan, hend⟩
        refine ⟨h3.defers, ?_⟩
        have hpan' : ∀ b pv u, A.pan = some (b, pv, u) → b = false := by
          intro b pv u hpa
          rw [hpa] at hpan
          exact hpan
        unfold endOK at hend
        split at hend
        · rename_i x hres
          obtain ⟨us, k1, k2⟩ := run_results hT h3 _ _ hres
          obtain ⟨u, rfl⟩ := list_one (by rw [← k2.1]; rfl)
          obtain ⟨Ω2, e2, hh2⟩ := LeS_sound (s := ⟨[(0, x)], s'.b⟩) (h3.retmp k2) (cS_spec hend)
          refine ⟨u, by simpa using hmap [u] k1, Ω2.pub, Ω2.e, hpan', ?_, ?_⟩
          · have := hh2.tmps 0
            rw [← e2]
            exact this
          · rw [← e2]
            exact after_of hh2
        · rename_i l hne hres
          split at hend
          · rename_i rs hval
            split at hend
            · rename_i hln
              have hl2 := lenIs_sound _ _ hln
              obtain ⟨us, k1, k2⟩ := run_results hT h3 _ _ hres
              obtain ⟨Ω2, e2, hh2⟩ := LeS_sound (s := ⟨initT 0 l, s'.b⟩) (h3.retmp k2) (cS_spec hend)
              have hsz : ¬ us.toArray.size = 1 := by
                intro h1
                obtain ⟨x, hx⟩ := list_one (l := l) (by rw [k2.1]; simpa using h1)
                exact hne x hx
              refine ⟨.tuple us.toArray, ?_, Ω2.pub, Ω2.e, hpan', ?_, ?_⟩
              · rw [hmap us k1, dif_neg hsz]
              · rw [hval]
                refine .tup rs us (by rw [← k2.1, ← hl2]) (fun j c v hc hv => ?_)
                have := hh2.tmps j
                simp only [St.abs, tget_init, Nat.zero_le, if_true, Nat.sub_zero, List.getD_eq_getElem?_getD, hc, Option.getD_some] at this
                have e3 : (us.toArray ++ Array.replicate 0 undef).getD j undef = v := by
                  simp [Array.getD_eq_getD_getElem?, hv]
                rw [e3, ] at this
                rw [← e2]
                exact this
              · rw [← e2]
                exact after_of hh2
            · exact hend.elim
          · exact hend.elim
        · exact hend.elim
      cases z with
      | normal => cases h1; exact key h4
      | exit id => exact h4.elim
      | ret => cases h1; exact key h4
      | pan pv =>
        obtain ⟨v, rfl, hv⟩ := h1
        simp only at h4
        split at h4
        · rename_i b pv' pu hpa
          obtain ⟨hbt, hend⟩ := h4
          subst hbt
          obtain ⟨Ω2, e2, hh2⟩ := LeS_sound (s := ⟨[(0, pv)], s'.b⟩) (h3.retmp (VL.cons hv .nil)) (cS_spec hend)
          refine ⟨h3.defers, Ω2.pub, Ω2.e, pv', pu, v, hpa, rfl, ?_, ?_⟩
          · have := hh2.tmps 0
            rw [← e2]
            exact this
          · rw [← e2]
            exact after_of hh2
        · exact h4.elim

end
end Go.AL
