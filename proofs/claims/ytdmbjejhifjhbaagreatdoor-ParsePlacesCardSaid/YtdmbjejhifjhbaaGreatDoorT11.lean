/- The layer: Go code as conditions, and that they are sound. No condition. -/
import Derived.Test.YtdmbjejhifjhbaaGreatDoorT10
import Derived.ChangeMaps
import Derived.Deep.LoopGhost
import Derived.JoinedCond
import Derived.KernelRfl
import Derived.OpenShut
import Derived.ProofKit
import Derived.Scope
import Derived.Shelf.Strings.BuilderF
import Derived.WalkKit
import Derived.WideKeyArgs
set_option linter.unusedVariables false
set_option linter.unusedSimpArgs false
set_option linter.unnecessarySimpa false
set_option linter.deprecated false
set_option linter.unusedSectionVars false
set_option maxRecDepth 100000
section
namespace Go.AL
variable [Tabs]
def D4:SX→Exit
 | .normal=>.normal
 | .exit id=>.exit id
 | .ret=>.ret
 | .pan _=>.outgrown
def Ends (Ω:Om):SX→Exit→Prop
 | .pan pv,e=>∃v,e=.panic [{v,recovered:=false}]/\V Ω pv v
 | x,e=>D4 x=e
def QL (F:Fr) (Q:SX→St→Prop):Exit→Act→World→Prop:=fun e a w=>∃x s Ω,Ends Ω x e/\Ω.w=w/\Holds F s.abs a Ω/\Q x s
mutual
theorem forceV_eq:∀(a:AV) (k:AV→Prop),forceV a k=k a
 | .undef,k=>rfl
 | .int κ n,k=>rfl
 | .bool b,k=>rfl
 | .str s,k=>rfl
 | .lst τ xs none,k=>rfl
 | .lst τ xs (some i),k=>rfl
 | .nils,k=>rfl
 | .ptr i o,k=>rfl
 | .cptr c,k=>by simp only [forceV];rw [forceV_eq c]
 | .st n x,k=>rfl
 | .nilp,k=>rfl
 | .row τ xs,k=>rfl
 | .arr i n w,k=>rfl
 | .aptr i n w o,k=>rfl
 | .map i,k=>rfl
 | .bptr i,k=>rfl
 | .lstp τ xs i,k=>rfl
 | .tptr τ n i,k=>rfl
 | .iface t a,k=>by simp only [forceV];rw [forceV_eq a]
 | .nilif,k=>rfl
 | .pt n x,k=>rfl
 | .agg cs,k=>by simp only [forceV];rw [forceL_eq cs]
 | .tup cs,k=>by simp only [forceV];rw [forceL_eq cs]
 | .fn f cs,k=>by simp only [forceV];rw [forceL_eq cs]
theorem forceL_eq:∀(l:List AV) (k:List AV→Prop),forceL l k=k l
 | [],k=>rfl
 | a ::r,k=>by simp only [forceL];rw [forceV_eq a,forceL_eq r]
end
theorem sg:∀(l:List (Nat × AV)) (k:List (Nat × AV)→Prop),t8 l k=k l
 | [],k=>rfl
 | (i,a) ::r,k=>by simp only [t8];rw [forceV_eq a,sg r]
theorem ig:∀(l:List (Nat × SObj)) (k:List (Nat × SObj)→Prop),gI l k=k l
 | [],k=>rfl
 | (i,.box c) ::r,k=>by simp only [gI];rw [forceV_eq c,ig r]
 | (i,.tail τ n) ::r,k=>by simp only [gI];rw [ig r]
 | (i,.map κ τ m) ::r,k=>by simp only [gI];rw [ig r]
 | (i,.bld t u l) ::r,k=>by simp only [gI];rw [ig r]
 | (i,.tailp τ n x) ::r,k=>by simp only [gI];rw [ig r]
theorem eB (s:St) (k:St→Prop):gO s k=k s:=by
 unfold gO
 rw [sg,ig]
theorem iz:∀(l:List Nat) (k:List Nat→Prop),iM l k=k l
 | [],k=>rfl
 | 0 ::r,k=>by simp only [iM];rw [iz r]
 | (n+1) ::r,k=>by simp only [iM];rw [iz r]
theorem Holds.trim {F:Fr} {s:St} {a:Act} {Ω:Om} (h:Holds F s.abs a Ω) (keep:List Nat):Holds F (trim keep s).abs a Ω:=by
 refine ⟨fun i=>?_,h.size,h.defers,h.slots,h.dom,h.inj,h.pubok,h.keep,h.frame⟩
 have:=kE s.t (fun i=>keep.contains i) i
 simp only [AL.trim,St.abs]
 rw [this]
 split
 ·exact h.tmps i
 ·exact .undef _
section
variable {P:Program} {C:Cfg} {F:Fr}
theorem lN (hm:P.follows .mixedOrders=true) (hT:bH P C.tbl) (hS:dG P C.spec) (keep:List Nat) {id:Nat} {ops:Array Oper} {draw:Bool} {s1:St} {Q:SX→St→Prop} {a:Act} {Ω1:Om}
  (hdst:∀(o:Oper),o∈ops.toList→∀d,o.dst=some d→d < F.n) (h:pc C keep ops draw s1 Q) (hh1:Holds F s1.abs a Ω1):(Code.region id ops draw).wp P (QL F Q) a Ω1.w:=by
 unfold pc at h
 have key:∀s' fs,(gO (trim keep s') fun s'=>if draw=true then (if iq ops.toList fs=true then Q .normal s' else False) else Q .normal s')→
   (draw=true→iq ops.toList fs=true)/\Q .normal (trim keep s'):=by
  intro s' fs hk
  simp only [eB] at hk
  cases draw with
  | false=>exact ⟨fun h=>by simp at h,by simpa using hk⟩
  | true=>
   simp only [if_true] at hk
   rcases Classical.em (iq ops.toList fs=true) with k | k
   ·rw [if_pos k] at hk;exact ⟨fun _=>k,hk⟩
   ·rw [if_neg k] at hk;exact hk.elim
 refine tH hm hT hS hdst h (fun hdr s' fs hk=>let ⟨s2,h2⟩:=sf _ hk;(key s2 fs h2).1 hdr) hh1 (fun s' fs a' Ω' hk h'=>
   let ⟨s2,Ω2,g1,g2,g3⟩:=xP h' hk
   ⟨.normal,trim keep s2,Ω2,rfl,g1,g2.trim keep,(key s2 fs g3).2⟩)
  (fun pv s' a' Ω' v hk h' hv=>?_)
 simp only [eB,forceV_eq] at hk
 exact ⟨.pan pv,s',Ω',⟨v,rfl,hv⟩,rfl,h',hk⟩
theorem lh (hm:P.follows .mixedOrders=true) (hT:bH P C.tbl) (hS:dG P C.spec) (keep:List Nat) (ann:An) :
  ∀(c:Code) (s:St) (Q:SX→St→Prop) (a:Act) (Ω:Om),swp C keep ann c s Q→cY F.n c=true→Holds F s.abs a Ω→c.wp P (QL F Q) a Ω.w:=by
 intro c
 induction c with
 | skip=>exact fun s Q a Ω h _ hh=>wp_skip ⟨.normal,s,Ω,rfl,rfl,hh,h⟩
 | region id ops draw=>
  intro s Q a Ω h hd hh
  simp only [swp] at h
  split at h
  ·exact h.elim
  ·rename_i s0 hp0
   obtain ⟨Ω0,e0,hh0⟩:=mW _ hh hp0
   split at h
   ·exact h.elim
   ·rename_i s1 he
    obtain ⟨Ω1,e1,hh1⟩:=vk hh0 he
    have hdst:∀(o:Oper),o∈ops.toList→∀d,o.dst=some d→d < F.n:=by
     intro o ho d hod
     simp only [cY,List.all_eq_true] at hd
     have:=hd o ho
     rw [hod] at this
     simpa using this
    rw [←e0,←e1]
    split at h
    ·exact lN hm hT hS keep hdst h hh1
    ·rename_i J hJ
     obtain ⟨h1,h2⟩:=h
     rw [eB] at h2
     refine wp_mono (lN hm hT hS keep hdst h1 hh1) ?_
     intro e a' w' hq
     obtain ⟨z,s',Ω',g1,g2,g3,g4⟩:=hq
     subst g2
     cases z with
     | normal=>
      cases g1
      obtain ⟨Ω2,e2,hh2⟩:=eG g3 (gS g4)
      exact ⟨.normal,_,Ω2,rfl,e2,hh2,h2⟩
     | exit id=>exact ⟨.exit id,s',Ω',g1,rfl,g3,g4⟩
     | ret=>exact ⟨.ret,s',Ω',g1,rfl,g3,g4⟩
     | pan pv=>exact ⟨.pan pv,s',Ω',g1,rfl,g3,g4⟩
 | seq x y ihx ihy=>
  intro s Q a Ω h hd hh
  have hd0:=hd
  simp only [cY,Bool.and_eq_true] at hd
  simp only [swp] at h
  split at h
  ·rename_i L hL
   refine wp_mono (xM hT hL h hd0 hh) ?_
   rintro e a' w' ⟨rfl,s',Ω',h2,h3,h4⟩
   rw [eB] at h4
   exact ⟨.normal,s',Ω',rfl,h2,h3,h4⟩
  split at h
  rotate_left
  ·rename_i J hJ
   obtain ⟨h1,h2⟩:=h
   rw [eB] at h2
   refine wp_seq (wp_mono (ihx s _ a Ω h1 hd.1 hh) ?_)
   intro e a' w' hq
   obtain ⟨z,s',Ω',g1,g2,g3,g4⟩:=hq
   subst g2
   cases z with
   | normal=>
    cases g1
    obtain ⟨Ω2,e2,hh2⟩:=eG g3 (gS g4)
    rw [←e2]
    exact ihy _ Q a' Ω2 h2 hd.2 hh2
   | exit id=>cases g1;exact ⟨.exit id,s',Ω',rfl,rfl,g3,g4⟩
   | ret=>cases g1;exact ⟨.ret,s',Ω',rfl,rfl,g3,g4⟩
   | pan pv=>obtain ⟨v,rfl,hv⟩:=g1;exact ⟨.pan pv,s',Ω',⟨v,rfl,hv⟩,rfl,g3,g4⟩
  refine wp_seq (wp_mono (ihx s _ a Ω h hd.1 hh) ?_)
  intro e a' w' hq
  obtain ⟨z,s',Ω',h1,h2,h3,h4⟩:=hq
  subst h2
  cases z with
  | normal=>cases h1;exact ihy s' Q a' Ω' h4 hd.2 h3
  | exit id=>cases h1;exact ⟨.exit id,s',Ω',rfl,rfl,h3,h4⟩
  | ret=>cases h1;exact ⟨.ret,s',Ω',rfl,rfl,h3,h4⟩
  | pan pv=>obtain ⟨v,rfl,hv⟩:=h1;exact ⟨.pan pv,s',Ω',⟨v,rfl,hv⟩,rfl,h3,h4⟩
 | cond c x y ihx ihy=>
  intro s Q a Ω h hd hh
  simp only [cY,Bool.and_eq_true] at hd
  simp only [swp] at h
  split at h
  ·rename_i b hb
   have hv:=bC hh c
   have hb':opd s.abs.T c=.bool b:=hb
   rw [hb'] at hv
   have hv:=hv.bool_inv
   refine wp_cond hv ?_
   unfold sp at h
   have hset:Holds F (F3 c b s).abs a Ω:=by
    cases c with
    | tmp t=>
     refine ⟨fun i=>?_,hh.size,hh.defers,hh.slots,hh.dom,hh.inj,hh.pubok,hh.keep,hh.frame⟩
     have e:(F3 (.tmp t) b s).abs.T i=if t=i then .bool b else bD s.t i:=jg s.t t (.bool b) i
     rw [e]
     by_cases ht:t=i
     ·subst ht
      rw [if_pos rfl]
      have:=hh.tmps t
      rw [show s.abs.T t=.bool b from hb'] at this
      exact this
     ·rw [if_neg ht]
      exact hh.tmps i
    | _=>exact hh
   cases b with
   | true=>exact ihx _ Q a Ω (by simpa using h) hd.1 hset
   | false=>exact ihy _ Q a Ω (by simpa using h) hd.2 hset
  ·exact h.elim
 | block id c ih=>
  intro s Q a Ω h hd hh
  simp only [cY] at hd
  simp only [swp] at h
  refine wp_block (wp_mono (ih s _ a Ω h hd hh) ?_)
  intro e a' w' hq
  obtain ⟨z,s',Ω',h1,h2,h3,h4⟩:=hq
  subst h2
  cases z with
  | normal=>cases h1;exact ⟨.normal,s',Ω',rfl,rfl,h3,h4⟩
  | ret=>cases h1;exact ⟨.ret,s',Ω',rfl,rfl,h3,h4⟩
  | pan pv=>obtain ⟨v,rfl,hv⟩:=h1;exact ⟨.pan pv,s',Ω',⟨v,rfl,hv⟩,rfl,h3,h4⟩
  | exit j=>
   cases h1
   simp only [D4,Exit.inBlock]
   by_cases hj:j=id
   ·subst hj
    simp only [if_true]
    simp only [beq_self_eq_true,if_true] at h4
    exact ⟨.normal,s',Ω',rfl,rfl,h3,h4⟩
   ·rw [if_neg hj]
    simp only [beq_iff_eq,hj,if_false] at h4
    exact ⟨.exit j,s',Ω',rfl,rfl,h3,h4⟩
 | loop c ih=>
  intro s Q a Ω h hd hh
  simp only [cY] at hd
  simp only [swp] at h
  split at h
  ·exact h.elim
  ·rename_i A hA
   simp only [eB] at h
   obtain ⟨⟨x0,hp0,hle0⟩,hround⟩:=h
   obtain ⟨Ω0,e0,hh0⟩:=eG hh (gS hle0)
   rw [←e0]
   refine wp_loop_ghost (fun k a w=>∃x Ω,A.pre x/\A.m x=k/\Ω.w=w/\Holds F (jC (dx c) s (A.t x) (A.b x)).abs a Ω) (A.m x0) ⟨x0,Ω0,hp0,rfl,rfl,hh0⟩ ?_
   intro k a1 w1 hI
   obtain ⟨x,Ω1,hp,hmx,hw1,hh1⟩:=hI
   subst hw1
   refine wp_mono (ih (jC (dx c) s (A.t x) (A.b x)) _ a1 Ω1 (hround x hp) hd hh1) ?_
   intro e a' w' hq
   obtain ⟨z,s',Ω',h1,h2,h3,h4⟩:=hq
   subst h2
   cases z with
   | normal=>
    cases h1
    obtain ⟨y,hy1,hy2,hy3⟩:=h4
    obtain ⟨Ω2,e2,hh2⟩:=eG h3 (gS hy3)
    exact ⟨A.m y,by omega,y,Ω2,hy1,rfl,e2,hh2⟩
   | exit id=>cases h1;exact ⟨.exit id,s',Ω',rfl,rfl,h3,h4⟩
   | ret=>cases h1;exact ⟨.ret,s',Ω',rfl,rfl,h3,h4⟩
   | pan pv=>obtain ⟨v,rfl,hv⟩:=h1;exact ⟨.pan pv,s',Ω',⟨v,rfl,hv⟩,rfl,h3,h4⟩
 | exit id=>exact fun s Q a Ω h _ hh=>wp_exit ⟨.exit id,s,Ω,rfl,rfl,hh,h⟩
 | ret=>exact fun s Q a Ω h _ hh=>wp_ret ⟨.ret,s,Ω,rfl,rfl,hh,h⟩
 | rangeFunc g ps x y _ _=>exact fun s Q a Ω h=>by simp [swp] at h
 | scope c ih=>
  intro s Q a Ω h hd hh
  simp only [cY] at hd
  simp only [swp] at h
  refine wp_scope_straight (wp_mono (ih s _ a Ω h hd hh) ?_)
  intro e a' w' hq
  obtain ⟨z,s',Ω',h1,h2,h3,h4⟩:=hq
  cases z with
  | normal=>cases h1;exact ⟨.normal,s',Ω',rfl,h2,h3,h4⟩
  | exit id=>cases h1;exact ⟨.exit id,s',Ω',rfl,h2,h3,h4⟩
  | ret=>cases h1;exact ⟨.ret,s',Ω',rfl,h2,h3,h4⟩
  | pan pv=>obtain ⟨v,rfl,hv⟩:=h1;exact ⟨.pan pv,s',Ω',⟨v,rfl,hv⟩,h2,h3,h4⟩
 | label l=>exact fun s Q a Ω h _ hh=>wp_label ⟨.normal,s,Ω,rfl,rfl,hh,h⟩
 | goto l=>exact fun s Q a Ω h=>by simp [swp] at h
 | refuse why=>exact fun s Q a Ω h=>by simp [swp] at h
theorem jh:∀(l:List AV) (i j:Nat),bD (eJ i l) j=if i<=j then l.getD (j - i) .undef else .undef
 | [],i,j=>by simp [eJ,bD]
 | v ::r,i,j=>by
  simp only [eJ,bD,jh r (i+1) j]
  by_cases h:i=j
  ·subst h;simp
  ·simp only [beq_iff_eq,h,if_false]
   by_cases h2:i<=j
   ·have e:j - i=(j - (i+1))+1:=by omega
    rw [if_pos h2,if_pos (by omega),e]
    simp
   ·rw [if_neg h2,if_neg (by omega)]
theorem ji {w:World} {pub:Nat→Nat→Prop} {e:Nat→Option CObj} {args:List AV} {vs:List Value} (k:Nat) (hv:VL ⟨e,w,pub⟩ args vs) (i:Nat) :
  V ⟨e,w,pub⟩ (bD (eJ 0 args) i) ((vs.toArray++Array.replicate k undef).getD i undef):=by
 simp only [jh,Nat.zero_le,if_true,Nat.sub_zero]
 by_cases h:i < args.length
 ·have h':i < vs.length:=by rw [←hv.1];exact h
  have e1:args.getD i .undef=args[i]:=by simp [List.getD_eq_getElem?_getD,h]
  have e2:(vs.toArray++Array.replicate k undef).getD i undef=vs[i]:=by
   simp [Array.getD_eq_getD_getElem?,Array.getElem?_append,h']
  rw [e1,e2]
  exact hv.2 i _ _ (List.getElem?_eq_getElem h) (List.getElem?_eq_getElem h')
 ·have e1:args.getD i .undef=.undef:=by simp [List.getD_eq_getElem?_getD,h]
  rw [e1]
  exact .undef _
theorem me {w:World} {pub:Nat→Nat→Prop} {e:Nat→Option CObj} {args:List AV} {vs:List Value} {n:Nat} {S:List (Nat × SObj)} (hp:lL w pub) (ht:iY w pub) (hv:VL ⟨e,w,pub⟩ args vs) (hn:args.length<=n)
  (hs:∀id o,ax S id=some o→bv ⟨e,w,pub⟩ (fun _ _=>True) id o) (hd:∀id,ax S id=none→e id=none) (hi:Inj e) (hl:∀id c,e id=some c→cD id=true) :
  Holds ⟨w,pub,n,e,hl,[],ht⟩ (St.abs ⟨eJ 0 args,S⟩) {tmps:=vs.toArray++Array.replicate (n - vs.toArray.size) undef,defers:=[]} ⟨e,w,pub⟩:=
 ⟨fun i=>ji _ hv i,by simp;have:=hv.1;omega,rfl,fun id o ho=>(hs id o ho).own_of (fun c b oo hc hoc=>Or.inr ⟨id,c,hc,hoc⟩),fun id hid=>hd id hid,hi,hp,fun id c hc=>⟨c,hc,CLe.refl c⟩,
  ⟨rfl,rfl,rfl,Nat.le_refl _,fun _ _ _=>rfl,fun _ _ _ _=>rfl,fun _ _ _=>⟨rfl,fun _=>rfl⟩,fun _ _ h=>Or.inl h,fun _ _ h=>h,fun _ _ _=>rfl⟩⟩
def qm (tmps:Array Value):ResultVar→Sem Value
 | .tmp t=>pure (tmps.getD t undef)
 | .cell a t=>do loadVar t (←asAddr (tmps.getD a undef))
theorem qn (fn:Func) (tmps:Array Value):results fn tmps=(do
  let vs ←fn.results.mapM (qm tmps)
  pure (if h:vs.size=1 then vs[0] else .tuple vs)):=by
 unfold results
 congr 1
theorem gB (hT:bH P C.tbl) {s:St} {a:Act} {Ω:Om} (hh:Holds F s.abs a Ω):∀(rs:List ResultVar) (l:List AV),mK C.tbl s rs=some l→
  ∃vs,(rs.mapM (qm a.tmps)).run P Ω.w=.ok vs Ω.w/\VL Ω l vs
 | [],l,h=>by
  simp [mK] at h
  subst h
  exact ⟨[],rfl,VL.nil⟩
 | .tmp t ::rs,l,h=>by
  simp only [mK] at h
  split at h
  ·rename_i l' hl'
   simp at h
   subst h
   obtain ⟨vs,k1,k2⟩:=gB hT hh rs l' hl'
   exact ⟨_,by rw [List.mapM_cons];simp only [qm,Sem.run_bind,Sem.run_pure,Result.andThen_ok,k1],VL.cons (hh.tmps t) k2⟩
  ·cases h
 | .cell b t ::rs,l,h=>by
  simp only [mK] at h
  split at h
  ·rename_i id off rt hb hrt
   have hv:=hh.tmps b
   have e:s.abs.T b=.ptr id off:=hb
   rw [e] at hv
   obtain ⟨g,o',len,hv1,hv2⟩:=hv.ptr_inv
   split at h
   ·rename_i c hcs
    split at h
    ·rename_i x l' hx hl'
     simp at h
     subst h
     obtain ⟨vs,k1,k2⟩:=gB hT hh rs l' hl'
     obtain ⟨b',off',e1,e2⟩:=hh.slots id _ hcs
     rw [hv2] at e1
     simp only [Xs,CObj.box.injEq] at e1
     obtain ⟨rfl,rfl,rfl⟩:=e1
     obtain ⟨v,w1,w2⟩:=iN (P:=P) (C:=C) (w:=Ω.w) hT hrt hx (b:=g) (o':=o') (fun j c' hc=>(e2 j c' hc).2.2.2)
     exact ⟨v ::vs,by rw [List.mapM_cons];simp only [qm,Sem.run_bind,hv1,asAddr,Sem.run_pure,Result.andThen_ok,w1,k1],VL.cons w2 k2⟩
    ·cases h
   ·cases h
  ·cases h
theorem Holds.retmp {s:AS} {a:Act} {Ω:Om} (h:Holds F s a Ω) {l:List AV} {vs:List Value} (hv:VL Ω l vs) :
  Holds ⟨F.w0,F.pub0,vs.length,F.e0,F.dom0,[],F.tab0⟩ ⟨bD (eJ 0 l),s.B⟩ {tmps:=vs.toArray++Array.replicate 0 undef,defers:=[]} Ω:=
 ⟨fun i=>ji 0 hv i,by simp,rfl,h.slots,h.dom,h.inj,h.pubok,h.keep,
  ⟨h.frame.os,h.frame.tape,h.frame.output,h.frame.size,h.frame.block,h.frame.cell,h.frame.kind,h.frame.pub,h.frame.old,h.frame.pcell⟩⟩
theorem jj {w:World} {pub:Nat→Nat→Prop} {e:Nat→Option CObj} {n:Nat} {hl:∀id c,e id=some c→cD id=true} {ht:iY w pub} {T:Nat→AV} {B:List (Nat × SObj)} {a:Act} {Ω:Om}
  (h:Holds ⟨w,pub,n,e,hl,[],ht⟩ ⟨T,ax B⟩ a Ω):After w pub e (ax B) Ω.w Ω.pub Ω.e:=by
 refine ⟨h.frame.os,h.frame.tape,h.frame.output,h.frame.size,h.frame.block,h.frame.cell,h.frame.kind,⟨h.keep,h.frame.old,h.frame.pcell⟩,fun b o hp=>?_,h.pubok,h.slots,h.dom,h.inj⟩
 rcases h.frame.pub b o hp with q | q | q
 ·exact Or.inl q
 ·exact Or.inr (Or.inl q)
 ·exact Or.inr (Or.inr q)
theorem mX {α:Type} {l:List α} (h:l.length=1):∃x,l=[x]:=by
 match l,h with
 | [x],_=>exact ⟨x,rfl⟩
theorem AP (hm:P.follows .mixedOrders=true) (hT:bH P C.tbl) (hS:dG P C.spec) {ann:An} {f:Nat} {fn:Func} (hf:P.funcs[f]?=some fn)
  {args:List AV} {S:List (Nat × SObj)} {A:Ans} (h:fwp C ann fn args S A):ar P f args S A:=by
 intro w pub e vs hp ht hv hs hdom hinj
 unfold fwp at h
 split at h
 ·exact h.elim
 ·rename_i c hb
  split at h
  ·exact h.elim
  ·rename_i hck
   simp only [Bool.and_eq_true,List.all_eq_true] at hck
   obtain ⟨⟨hck1,hck2⟩,hck3⟩:=hck
   have hlen:=fj _ _ hck2
   rw [iz,eB] at h
   have hlent:∀id c,e id=some c→cD id=true:=by
    intro id c hc
    cases hg:ax S id with
    | none=>rw [hdom id hg] at hc;cases hc
    | some o=>exact hck3 id (List.mem_map.2 ⟨(id,o),dN _ _ _ hg,rfl⟩)
   refine calls_of_wp hf hb ?_
   have hh:=me (n:=fn.ntmps) hp ht hv hlen hs hdom hinj hlent
   refine wp_mono (lh (F:=⟨w,pub,fn.ntmps,e,hlent,[],ht⟩) hm hT hS _ ann c _ _ _ _ h hck1 hh) ?_
   intro en a' w' hq
   obtain ⟨z,s',Ω',h1,h2,h3,h4⟩:=hq
   subst h2
   have hmap:∀us,(fn.results.toList.mapM (qm a'.tmps)).run P Ω'.w=.ok us Ω'.w→
     (results fn a'.tmps).run P Ω'.w=.ok (if h:us.toArray.size=1 then us.toArray[0] else .tuple us.toArray) Ω'.w:=by
    intro us hus
    rw [qn,←Array.toArray_toList (xs:=fn.results),List.mapM_toArray]
    simp only [Sem.run_bind,Sem.run_map,hus,Result.andThen_ok,Sem.run_pure]
   have key:((match A.pan with | some (b,_,_)=>b=false | none=>True)/\rX (mK C.tbl s' fn.results.toList) s' A.val (putB S A.upd))→
     a'.defers=[]/\∃v,(results fn a'.tmps).run P Ω'.w=.ok v Ω'.w/\∃pub' e',(∀b pv u,A.pan=some (b,pv,u)→b=false)/\V ⟨e',Ω'.w,pub'⟩ A.val v/\After w pub e (ax (putB S A.upd)) Ω'.w pub' e':=by
    rintro ⟨hpan,hend⟩
    refine ⟨h3.defers,?_⟩
    have hpan':∀b pv u,A.pan=some (b,pv,u)→b=false:=by
     intro b pv u hpa
     rw [hpa] at hpan
     exact hpan
    unfold rX at hend
    split at hend
    ·rename_i x hres
     obtain ⟨us,k1,k2⟩:=gB hT h3 _ _ hres
     obtain ⟨u,rfl⟩:=mX (by rw [←k2.1];rfl)
     obtain ⟨Ω2,e2,hh2⟩:=eG (s:=⟨[(0,x)],s'.b⟩) (h3.retmp k2) (gS hend)
     refine ⟨u,by simpa using hmap [u] k1,Ω2.pub,Ω2.e,hpan',?_,?_⟩
     ·have:=hh2.tmps 0
      rw [←e2]
      exact this
     ·rw [←e2]
      exact jj hh2
    ·rename_i l hne hres
     split at hend
     ·rename_i rs hval
      split at hend
      ·rename_i hln
       have hl2:=cn _ _ hln
       obtain ⟨us,k1,k2⟩:=gB hT h3 _ _ hres
       obtain ⟨Ω2,e2,hh2⟩:=eG (s:=⟨eJ 0 l,s'.b⟩) (h3.retmp k2) (gS hend)
       have hsz:¬us.toArray.size=1:=by
        intro h1
        obtain ⟨x,hx⟩:=mX (l:=l) (by rw [k2.1];simpa using h1)
        exact hne x hx
       refine ⟨.tuple us.toArray,?_,Ω2.pub,Ω2.e,hpan',?_,?_⟩
       ·rw [hmap us k1,dif_neg hsz]
       ·rw [hval]
        refine .tup rs us (by rw [←k2.1,←hl2]) (fun j c v hc hv=>?_)
        have:=hh2.tmps j
        simp only [St.abs,jh,Nat.zero_le,if_true,Nat.sub_zero,List.getD_eq_getElem?_getD,hc,Option.getD_some] at this
        have e3:(us.toArray++Array.replicate 0 undef).getD j undef=v:=by
         simp [Array.getD_eq_getD_getElem?,hv]
        rw [e3,] at this
        rw [←e2]
        exact this
       ·rw [←e2]
        exact jj hh2
      ·exact hend.elim
     ·exact hend.elim
    ·exact hend.elim
   cases z with
   | normal=>cases h1;exact key h4
   | exit id=>exact h4.elim
   | ret=>cases h1;exact key h4
   | pan pv=>
    obtain ⟨v,rfl,hv⟩:=h1
    simp only at h4
    split at h4
    ·rename_i b pv' pu hpa
     obtain ⟨hbt,hend⟩:=h4
     subst hbt
     obtain ⟨Ω2,e2,hh2⟩:=eG (s:=⟨[(0,pv)],s'.b⟩) (h3.retmp (VL.cons hv .nil)) (gS hend)
     refine ⟨h3.defers,Ω2.pub,Ω2.e,pv',pu,v,hpa,rfl,?_,?_⟩
     ·have:=hh2.tmps 0
      rw [←e2]
      exact this
     ·rw [←e2]
      exact jj hh2
    ·exact h4.elim
end
end Go.AL
end
section
namespace Go.AL
variable [Tabs]
theorem TRok.mk' {P:Program} {t:Nat} {r:TR}
  (h1:(P.info? t).map (fun i=>(i.size,i.bytes,i.zero.map fun z=>z.cells.toList.map ct))=some (r.size,r.bytes,some r.zero))
  (h2:(P.underlying t).map (aZ P r.ti)=some true)
  (h3:(gu r.zero r.size && (Nat.beq r.size 0 || Nat.blt 0 r.bytes) && (match r.ty with | some τ=>Nat.beq (ac τ) r.size && (EY τ ==r.isAgg) | none=>true))=true)
  (h8:(P.info? t).map (fun i=>i.zero.map fun z=>xo z ==r.isAgg)=some (some true))
  (h9:(match r.ti with | .strct true _=>!P.stoodInHeld t && !P.eqGuardType P.depth t | _=>true)=true):TRok P t r:=by
 simp only [Bool.and_eq_true,Bool.or_eq_true,Nat.beq_eq,Nat.blt_eq] at h3
 obtain ⟨⟨h5,h6⟩,h7⟩:=h3
 refine ⟨?_,cn _ _ h5,fun hz=>?_,?_,fun τ hτ=>?_,fun i z hi hz=>?_,fun fs hfs=>?_⟩
 ·cases hi:P.info? t with
  | none=>rw [hi] at h1;simp at h1
  | some i=>
   rw [hi] at h1
   simp only [Option.map_some,Xs,Prod.mk.injEq,Option.map_eq_some_iff] at h1
   obtain ⟨e1,e2,z,e3,e4⟩:=h1
   exact ⟨i,z,rfl,e1,e2,e3,e4⟩
 ·rcases h6 with h6 | h6
  ·omega
  ·exact h6
 ·cases hd:P.underlying t with
  | none=>rw [hd] at h2;simp at h2
  | some d=>
   rw [hd] at h2
   exact ⟨d,rfl,by simpa using h2⟩
 ·rw [hτ] at h7
  simpa using h7
 ·rw [hi] at h8
  simp [hz] at h8
  exact h8
 ·rw [hfs] at h9
  simpa using h9
theorem bH.nil {P:Program}:bH P []:=fun t r h=>by simp [aT] at h
theorem bH.cons {P:Program} {t:Nat} {r:TR} {l:List (Nat × TR)} (h:TRok P t r) (hl:bH P l):bH P ((t,r) ::l):=by
 intro t' r' h'
 simp only [aT] at h'
 by_cases e:t=t'
 ·subst e
  simp at h'
  subst h'
  exact h
 ·simp only [beq_iff_eq,e,if_false] at h'
  exact hl t' r' h'
theorem au.mk' {P:Program} {f:Nat} {fn:Func} (h:P.funcs[f]?=some fn) (h2:(fn.body.isNone || (fn.name == "runtime.NumGoroutine"))=false):au P f:=by
 simp only [Bool.or_eq_false_iff] at h2
 exact ⟨fn,h,h2.1,h2.2⟩
end Go.AL
end
section
namespace Go.AL
def Wf (τ:Ty) (x:den τ):Prop:=∃Ω v,V Ω (inj τ x) v
def WfL (args:List AV):Prop:=∃Ω vs,VL Ω args vs
theorem Wf.str {s:Str} (h:Wf .str s):s.length<=9223372036854775807:=letI:=tc;let ⟨_,_,h⟩:=h;h.str_inv.2
theorem Wf.len {τ:Ty} {xs:List (den τ)} (h:Wf (.lst τ) xs):xs.length<=9223372036854775807:=by
 letI:=tc
 obtain ⟨Ω,v,h⟩:=h
 rcases h.lst_inv with ⟨h1,_,_⟩ | ⟨h1,_,_⟩ | ⟨b,off,cap,vals,hv,h1,h2,_⟩
 ·rw [h1];simp
 ·rw [h1];simp
 ·unfold ck at h2;omega
theorem VL.inj {Ω:Om} {τ:Ty} {x:den τ} {vs:List Value} (h:VL Ω (cells τ x) vs):∃v,V Ω (inj τ x) v:=by
 cases τ with
 | st n=>exact ⟨_,.st n x _ (V.of_agg h)⟩
 | int k=>match vs,h with | [v],h=>exact ⟨v,h.head⟩
 | bool=>match vs,h with | [v],h=>exact ⟨v,h.head⟩
 | str=>match vs,h with | [v],h=>exact ⟨v,h.head⟩
 | lst t=>match vs,h with | [v],h=>exact ⟨v,h.head⟩
 | pt n=>match vs,h with | [v],h=>exact ⟨v,h.head⟩
theorem Wf.mem {τ:Ty} {xs:List (den τ)} (h:Wf (.lst τ) xs) {x:den τ} (hx:x∈xs):Wf τ x:=by
 letI:=tc
 obtain ⟨Ω,v,h⟩:=h
 rcases h.lst_inv with ⟨h1,_,_⟩ | ⟨h1,_,_⟩ | ⟨b,off,cap,vals,hv,h1,h2,h3,h4,h5⟩
 ·rw [h1] at hx;simp at hx
 ·rw [h1] at hx;simp at hx
 ·obtain ⟨i,hi⟩:=List.getElem?_of_mem hx
  have:VL Ω (cells τ x) ((List.range (cells τ x).length).map (vals i)):=by
   refine ⟨by simp,fun j c v hc hv=>?_⟩
   have hj:j < (cells τ x).length:=by
    rcases Nat.lt_or_ge j (cells τ x).length with k | k
    ·exact k
    ·rw [List.getElem?_eq_none k] at hc;cases hc
   simp [hj] at hv
   subst hv
   exact h5 i x hi j c hc
  obtain ⟨v',hv'⟩:=this.inj
  exact ⟨Ω,v',hv'⟩
theorem Wf.cell {n:SN} {x:SD n} (h:Wf (.st n) x) (j:Nat) {τ:Ty} {y:den τ} (hc:(cells (.st n) x)[j]?=some (AL.inj τ y)):Wf τ y:=by
 obtain ⟨Ω,v,h⟩:=h
 cases h with
 | st _ _ v hv=>
  obtain ⟨vs,_,hl⟩:=hv.agg_inv
  have hj:j < vs.length:=by
   rw [←hl.1]
   rcases Nat.lt_or_ge j (cells (.st n) x).length with k | k
   ·exact k
   ·rw [List.getElem?_eq_none k] at hc;cases hc
  exact ⟨Ω,_,hl.2 j _ _ hc (List.getElem?_eq_getElem hj)⟩
theorem Wf.names {s:Shape} (h:Wf (.st .shape) s):Wf (.lst .str) s.names:=h.cell 3 (τ:=.lst .str) (y:=s.names) rfl
theorem Wf.parts {s:Shape} (h:Wf (.st .shape) s):Wf (.lst (.st .shape)) s.parts:=h.cell 4 (τ:=.lst (.st .shape)) (y:=s.parts) rfl
theorem Wf.term_parts {x:Trm} (h:Wf (.st .term) x):Wf (.lst (.st .term)) x.parts:=(h.cell 7 (τ:=.lst (.st .term)) (y:=x.parts) rfl)
theorem WfL.cons {a:AV} {l:List AV} (h:WfL (a ::l)):(∃Ω v,V Ω a v)/\WfL l:=by
 obtain ⟨Ω,vs,h⟩:=h
 rcases h.cases with ⟨e,_⟩ | ⟨c,cs,v,vs',e,_,h1,h2⟩
 ·cases e
 ·cases e;exact ⟨⟨Ω,v,h1⟩,Ω,vs',h2⟩
theorem WfL.one {τ:Ty} {x:den τ} {l:List AV} (h:WfL (inj τ x ::l)):Wf τ x:=h.cons.1
theorem WfL.two {a:AV} {τ:Ty} {x:den τ} {l:List AV} (h:WfL (a ::inj τ x ::l)):Wf τ x:=h.cons.2.cons.1
theorem WfL.three {a b:AV} {τ:Ty} {x:den τ} {l:List AV} (h:WfL (a ::b ::inj τ x ::l)):Wf τ x:=h.cons.2.cons.2.cons.1
section
variable [Tabs]
variable {P:Program}
theorem ar.wf {f:Nat} {args:List AV} {S:List (Nat × SObj)} {A:Ans} (h:WfL args→ar P f args S A):ar P f args S A:=
 fun w pub e vs hp ht hv hs hd hi=>h ⟨_,vs,hv⟩ w pub e vs hp ht hv hs hd hi
theorem ar.args {f:Nat} {args args':List AV} {S:List (Nat × SObj)} {A:Ans} (ha:RdL args args') (h:ar P f args' S A):ar P f args S A:=
 fun w pub e vs hp ht hv hs hd hi=>h w pub e vs hp ht (hv.rd ha) hs hd hi
abbrev Pat:=List AV→List (Nat × SObj)→Option Ans
def lO:List (Nat × Pat)→Nat→Pat
 | [],_=>fun _ _=>none
 | (i,g) ::l,f=>fun args S=>
  match Nat.beq i f with
  | true=>(match g args S with | some A=>some A | none=>lO l f args S)
  | false=>lO l f args S
def ad (P:Program) (f:Nat) (g:Pat):Prop:=
 ∀args S A,g args S=some A→(∀q,A.ob=some q→q)→(am S).all cD=true→au P f/\ar P f args S A
theorem sh:dG P (lO []):=fun f args S A h=>by simp [lO] at h
theorem qo {f:Nat} {g:Pat} {l:List (Nat × Pat)} (h:ad P f g) (hl:dG P (lO l)):dG P (lO ((f,g) ::l)):=by
 intro f' args S A hA ho hk
 simp only [lO] at hA
 split at hA
 ·rename_i hb
  have e:f=f':=Nat.eq_of_beq_eq_true hb
  subst e
  split at hA
  ·rename_i A' hg
   simp at hA
   subst hA
   exact h args S A' hg ho hk
  ·exact hl f args S A hA ho hk
 ·exact hl f' args S A hA ho hk
def p1 (τ:Ty) (F:den τ→Ans):Pat
 | [a],[]=>(match arg τ a with | some a=>some (F a) | none=>none)
 | _,_=>none
def p2 (τ σ:Ty) (F:den τ→den σ→Ans):Pat
 | [a,b],[]=>(match arg τ a,arg σ b with | some a,some b=>some (F a b) | _,_=>none)
 | _,_=>none
def pf (τ:Ty) (n:Nat) (F:den τ→Ans):Pat
 | [a,.fn f []],[]=>(match Nat.beq f n with | true=>(match arg τ a with | some a=>some (F a) | none=>none) | false=>none)
 | _,_=>none
def p3 (τ σ ρ:Ty) (F:den τ→den σ→den ρ→Ans):Pat
 | [a,b,c],[]=>(match arg τ a,arg σ b,arg ρ c with | some a,some b,some c=>some (F a b c) | _,_,_=>none)
 | _,_=>none
theorem Rd.arg {τ:Ty} {a:AV} {x:den τ} (h:AL.arg τ a=some x):Rd a (inj τ x):=fun _ _ hv=>Gd hv h
theorem be {f:Nat} {τ:Ty} {F:den τ→Ans} (he:au P f) (h:∀x,Wf τ x→(∀q,(F x).ob=some q→q)→ar P f [inj τ x] [] (F x)):ad P f (p1 τ F):=by
 intro args S A hA ho _
 unfold p1 at hA
 split at hA
 ·split at hA
  ·rename_i x hx
   simp at hA
   subst hA
   exact ⟨he,ar.args (.cons (Rd.arg hx) .nil) (ar.wf fun hw=>h x hw.one ho)⟩
  ·cases hA
 ·cases hA
theorem iA {f:Nat} {τ σ:Ty} {F:den τ→den σ→Ans} (he:au P f)
  (h:∀x y,Wf τ x→Wf σ y→(∀q,(F x y).ob=some q→q)→ar P f [inj τ x,inj σ y] [] (F x y)):ad P f (p2 τ σ F):=by
 intro args S A hA ho _
 unfold p2 at hA
 split at hA
 ·split at hA
  ·rename_i x y hx hy
   simp at hA
   subst hA
   exact ⟨he,ar.args (.cons (Rd.arg hx) (.cons (Rd.arg hy) .nil)) (ar.wf fun hw=>h x y hw.one hw.two ho)⟩
  ·cases hA
 ·cases hA
theorem oE {f:Nat} {τ:Ty} {n:Nat} {F:den τ→Ans} (he:au P f) (h:∀x,Wf τ x→(∀q,(F x).ob=some q→q)→ar P f [inj τ x,.fn n []] [] (F x)):ad P f (pf τ n F):=by
 intro args S A hA ho _
 unfold pf at hA
 split at hA
 ·split at hA
  ·rename_i hb
   have e:=Nat.eq_of_beq_eq_true hb
   subst e
   split at hA
   ·rename_i x hx
    simp at hA
    subst hA
    exact ⟨he,ar.args (.cons (Rd.arg hx) (.cons (Rd.refl _) .nil)) (ar.wf fun hw=>h x hw.one ho)⟩
   ·cases hA
  ·cases hA
 ·cases hA
theorem Gf {f:Nat} {τ σ ρ:Ty} {F:den τ→den σ→den ρ→Ans} (he:au P f)
  (h:∀x y z,Wf τ x→Wf σ y→Wf ρ z→(∀q,(F x y z).ob=some q→q)→ar P f [inj τ x,inj σ y,inj ρ z] [] (F x y z)):ad P f (p3 τ σ ρ F):=by
 intro args S A hA ho _
 unfold p3 at hA
 split at hA
 ·split at hA
  ·rename_i x y z hx hy hz
   simp at hA
   subst hA
   exact ⟨he,ar.args (.cons (Rd.arg hx) (.cons (Rd.arg hy) (.cons (Rd.arg hz) .nil))) (ar.wf fun hw=>h x y z hw.one hw.two hw.three ho)⟩
  ·cases hA
 ·cases hA
end
end Go.AL
end
section
namespace Go.AL
theorem bf {α:Type} (l:List α) (k:Nat) (d:α) (h:k < l.length):l.drop k=l.getD k d ::l.drop (k+1):=by
 rw [List.drop_eq_getElem_cons h]
 simp [List.getD_eq_getElem?_getD,h]
theorem eU {α:Type} (l:List α) (k:Nat) (d:α) (h:k < l.length):l.getD k d∈l:=by
 simp [List.getD_eq_getElem?_getD,h]
theorem nR {α:Type} (l:List α) (k:Nat) (d:α) (h:k < l.length):l.take (k+1)=l.take k++[l.getD k d]:=by
 rw [List.take_succ_eq_append_getElem h]
 simp [List.getD_eq_getElem?_getD,h]
theorem an {n:Int} (h1:-9223372036854775808<=n) (h2:n<=9223372036854775807):inR .i64 n:=by
 constructor <;> simp [IntKind.min,IntKind.max,IntKind.signed,IntKind.bits] <;> omega
theorem cp {n m:Nat} (h1:n < m) (h2:m<=9223372036854775807):inR .i64 ((n:Int)+1):=an (by omega) (by omega)
theorem kI {p:Prop} [Decidable p]:(decide p=true)=p:=by simp
theorem a6 {c p q:Prop} [Decidable c] (h1:c→p) (h2:¬c→q):if c then p else q:=by
 by_cases h:c
 ·rw [if_pos h];exact h1 h
 ·rw [if_neg h];exact h2 h
abbrev jk (α:Type):List α:=[]
theorem D5 [Tabs] {P:Program} {C:Cfg} (hm:P.follows .mixedOrders=true) (hT:bH P C.tbl) (hS:dG P C.spec) {ann:An} {f:Nat} {fn:Func} (hf:P.funcs[f]?=some fn)
  {args:List AV} {S:List (Nat × SObj)} {A:Ans} {Q:Prop} (q:Q) (h:fwp C ann fn args S A=Q):ar P f args S A:=AP hm hT hS hf (h.mpr q)
end Go.AL
end
section
namespace Go.AL
variable [Tabs]
open Go.ChangeShapes Go.WideShapes Go.RowKit
def zQ (w:World) (b o:Nat):Prop:=∃v,w.cell? ⟨b,o,none⟩=some v
def Om0 (w:World):Om:=⟨fun _=>none,w,zQ w⟩
theorem AQ {P:Program} {f:Nat} {args:List AV} (h:ar P f args [] (.ret (.bool true))) {w:World} {vs:List Value} (htab:∀b o v,Tabs.tab b o v→w.cell? ⟨b,o,none⟩=some v) (hv:VL (Om0 w) args vs) :
  Calls P f vs.toArray w fun e w'=>e=.returned (.bool true)/\RowKit.Below w.heap.size w w':=by
 refine Calls.mono (h w (zQ w) (fun _=>none) vs (fun _ _ h=>h) (fun b o v ht=>⟨⟨v,htab b o v ht⟩,htab b o v ht⟩) hv (fun id o ho=>by simp [ax] at ho) (fun _ _=>rfl) (fun i j c d b o hc=>by cases hc)) ?_
 intro e w' hq
 obtain ⟨pub',e',hq⟩:=hq
 cases e with
 | returned v=>
  obtain ⟨_,hv,ha⟩:=hq
  have:=hv.bool_inv
  subst this
  exact ⟨rfl,ha.os,ha.tape,ha.output,ha.size,fun b hb=>ha.block b hb fun o ⟨id,c,hc,_⟩=>by cases hc⟩
 | panicked ch=>
  obtain ⟨pv,u,v,hp,_⟩:=hq
  cases hp
 | outgrown=>exact hq.elim
section
variable {H:Type} {enc:TypeId × Value→H} {P:Program}
theorem lP (hl:laidOutB P=true) {W W':World} (hb:Below W.heap.size W W') {sp:Nat→Bool}:∀{ts:List TypeId} {vs:List Value} {ds:List (DataW H)} {p:List MemPlace},
  (∀t∈ts,P.readableRec t=true/\t < P.types.size)→DataW.TrodAll enc P W 0 (fun _=>true) true ts vs ds p→(∀x∈p,x.block < W.heap.size)→(∀x∈p,sp x.block=true)→DataW.TrodAll enc P W' 0 sp true ts vs ds p
 | [],_,_,_,_,h,_,_=>by
  obtain ⟨rfl,rfl,rfl⟩:=trodAll_nil h
  exact h
 | t ::ts,_,_,_,hr,h,hlt,hsp=>by
  obtain ⟨v,vs,d,ds,p,q,rfl,rfl,rfl,h1,h2⟩:=trodAll_cons h
  obtain ⟨r1,r2⟩:=hr t (by simp)
  exact ⟨p,q,WideElems.Trod_stays hl r1 r2 h1 (fun x hx=>hb.same (hlt x (by simp [hx]))) (fun x hx=>hsp x (by simp [hx])),
   lP hl hb (fun t ht=>hr t (by simp [ht])) h2 (fun x hx=>hlt x (by simp [hx])) (fun x hx=>hsp x (by simp [hx])),rfl⟩
theorem D6 (hl:laidOutB P=true) {f:Func} {s:ChangeSpec} {apart fresh handsOn again:Bool} {W W':World} {args:Array Value} {ds gs:List (DataW H)} {before:List MemPlace} {tb:TypeId}
  (hr:∀t∈f.params.toList,P.readableRec t=true/\t < P.types.size) (hvars:s.vars=[]) (hfn:∀ds:List (DataW H),ds.length=f.params.size→s.fn H ds={results:=[.lit (.bool true)],args:=ds}) (hrt:f.resultTypes=#[tb]) (htb:P.underlying tb=some .bool)
  (hW:DataW.Whole enc P f.params.toList s.vars apart W args.toList ds gs before) (hb:Below W.heap.size W W'):s.post enc P f apart fresh handsOn again W args (.bool true) W':=by
 have hlt:∀p∈before,p.block < W.heap.size:=fun p hp=>hW.lt p hp
 have hW0:=hW
 obtain ⟨p,q,hA,hV,e,hz,hn⟩:=hW
 rw [hvars] at hV
 obtain ⟨rfl,rfl⟩:=trodVars_none hV
 rw [List.append_nil] at e
 subst e
 have hlen:ds.length=f.params.size:=by
  have:∀{ts:List TypeId} {vs:List Value} {ds:List (DataW H)} {p:List MemPlace},DataW.TrodAll enc P W 0 (fun _=>true) true ts vs ds p→ds.length=ts.length:=by
   intro ts
   induction ts with
   | nil=>intro vs ds p h;obtain ⟨rfl,rfl,rfl⟩:=trodAll_nil h;rfl
   | cons t ts ih=>intro vs ds p h;obtain ⟨v,vs,d,ds,p,q,rfl,rfl,rfl,h1,h2⟩:=trodAll_cons h;simp [ih h2]
  simpa using this hA
 have hf:=hfn ds hlen
 have hs:∀sp:Nat→Bool,(∀x∈before,sp x.block=true)→DataW.TrodAll enc P W' 0 sp true f.params.toList args.toList ds before:=fun sp hsp=>lP hl hb hr hA hlt hsp
 have hres:∀(b:Nat) (sp:Nat→Bool) (hd:Bool),DataW.TrodAll enc P W' b sp hd f.resultTypes.toList ((Value.bool true).resultList f.resultTypes.size) [.lit (.bool true)] []:=by
  intro b sp hd
  rw [hrt]
  exact trodAll_cons_mk (shut_bool htb true) trodAll_mk0
 have hvs:DataW.TrodVars enc P W' (fun b=>decide (b < W.heap.size)) s.vars [] []:=by rw [hvars];rfl
 refine ⟨ds,[],before,[],before,[],hW0,?_,?_,?_,World.keptBut_mono (fun x hx=>⟨hx,.inr (.inl hx)⟩) (hb.frame (·∈before)),fun _=>⟨?_,?_⟩⟩
 ·rw [List.append_nil,hf];exact hres _ _ _
 ·rw [List.append_nil,hf];exact hs _ fun x hx=>by simpa using hlt x hx
 ·rw [List.append_nil,hf];exact hvs
 ·intro j t r h1 h2
  rw [hrt] at h1 h2
  cases j with
  | zero=>
   simp at h1
   subst h1
   have:r=.bool true:=by
    simp [Value.resultList] at h2
    exact h2.symm
   subst this
   simp [Value.okWide,htb,Cell.okWide,Cell.ok]
  | succ j=>simp at h1
 ·refine ⟨[.lit (.bool true)]++ds,[],[]++before,⟨[]++before,[],trodAll_append (hs _ fun _ _=>rfl) (hres _ _ _),by rw [hvars];rfl,by simp,fun b off hp=>?_,fun ha=>by simpa using hn ha⟩,fun x hx _=>by simpa using hx⟩
  have hin:MemPlace.cell b off∈before:=by simpa using hp
  rw [hb.frozen (p:=⟨b,off,none⟩) (hlt _ hin)]
  exact hz b off hin
variable {w:World} {base:Nat} {sp:Nat→Bool} {held:Bool}
end
end Go.AL
end
section
namespace Go.AL
variable [Tabs]
open Go.ChangeShapes Go.WideShapes Go.RowKit
variable {H:Type} {enc:TypeId × Value→H} {P:Program} {w:World} {base:Nat} {held:Bool}
structure ShapeAt (P:Program) (t:TypeId):Prop where
 ex:∃(f0 f1 f2 f3 f4:Field) (e:TypeId),P.underlying t=some (.struct #[f0,f1,f2,f3,f4])/\P.cellsOf t=5/\
  (f0.offset=0/\f1.offset=1/\f2.offset=2/\f3.offset=3/\f4.offset=4)/\
  (P.cellsOf f0.type=1/\P.cellsOf f1.type=1/\P.cellsOf f2.type=1/\P.cellsOf f3.type=1/\P.cellsOf f4.type=1)/\
  P.underlying f0.type=some (.int .i64)/\P.underlying f1.type=some .string/\P.underlying f2.type=some .string/\P.underlying f3.type=some (.slice e)/\P.underlying e=some .string/\P.cellsOf e=1/\P.underlying f4.type=some (.slice t)
structure ItemAt (P:Program) (t:TypeId):Prop where
 ex:∃(f0 f1 f2:Field),P.underlying t=some (.struct #[f0,f1,f2])/\P.cellsOf t=7/\(f0.offset=0/\f1.offset=1/\f2.offset=2)/\
  (P.cellsOf f0.type=1/\P.cellsOf f1.type=1/\P.cellsOf f2.type=5)/\P.underlying f0.type=some (.int .i64)/\P.underlying f1.type=some .string/\ShapeAt P f2.type
end Go.AL
end
section
namespace Go.AL
open Go.ChangeShapes Go.WideShapes Go.RowKit
abbrev qp (w:World):Tabs:=⟨fun b o v=>b < 3/\w.cell? ⟨b,o,none⟩=some v⟩
variable [Tabs]
variable {H:Type} {enc:TypeId × Value→H} {P:Program} {w:World} {base:Nat} {held:Bool}
structure TokAt (P:Program) (t:TypeId):Prop where
 ex:∃(f0 f1 f2:Field),P.underlying t=some (.struct #[f0,f1,f2])/\P.cellsOf t=3/\(f0.offset=0/\f1.offset=1/\f2.offset=2)/\
  (P.cellsOf f0.type=1/\P.cellsOf f1.type=1/\P.cellsOf f2.type=1)/\P.underlying f0.type=some (.int .i64)/\P.underlying f1.type=some .string/\P.underlying f2.type=some (.int .i64)
theorem D7 {t:TypeId} (ht:P.underlying t=some .string) {r:Reach} {b0:Nat} {v:Value} {d:DataW H} {ps:List MemPlace} (hv:Value.okWide P w r b0 t v) (h:DataW.Trod enc P w base (fun _=>true) held t v d ps):∃s:Str,V (Om0 w) (.str s) v:=by
 obtain ⟨s,rfl,_,_,hw⟩:=Go.ChangeMaps.open_string ht hv h
 have e:s=⟨s.data.toList.toArray⟩:=by cases s;simp
 have hl:s.data.toList.length<=ck:=by
  have:s.data.size=s.size:=rfl
  unfold maxLen at hw
  unfold ck
  simp only [Array.length_toList,this]
  omega
 have:=V.str (Ω:=Om0 w) s.data.toList hl
 rw [←e] at this
 exact ⟨_,this⟩
end Go.AL
end
section
namespace Go.AL
variable [Tabs]
theorem bv.blk {Ω:Om} {own:Nat→Nat→Prop} {id:Nat} {ob:SObj} (hs:bv Ω own id ob) {c:CObj} (hc:Ω.e id=some c) {b o:Nat} (hb:occ c b o):b < Ω.w.heap.size:=by
 cases ob with
 | box x=>
  obtain ⟨b',off,he,hh⟩:=hs
  rw [he] at hc
  simp only [Xs] at hc
  subst hc
  obtain ⟨rfl,h1,h2⟩:=hb
  have hj:o - off < (aa x).length:=by omega
  obtain ⟨_,_,_,v,hv,_⟩:=hh (o - off) _ (List.getElem?_eq_getElem hj)
  exact bd hv
 | tail τ n=>
  obtain ⟨base,cap,he,_,_,_,hb'⟩:=hs
  rw [he] at hc
  simp only [Xs] at hc
  subst hc
  obtain ⟨_,vs,ty,fz,hh,_⟩:=hb' b hb
  exact de hh
 | map κ τ m=>
  obtain ⟨r,he,_,es,clock,hh,_⟩:=hs
  rw [he] at hc
  simp only [Xs] at hc
  subst hc
  have:b=r:=hb
  subst this
  exact de hh
 | bld t u l=>
  obtain ⟨b0,g,he,_,hh⟩:=hs
  rw [he] at hc
  simp only [Xs] at hc
  subst hc
  exact hh.lt hb
 | tailp τ n x=>
  obtain ⟨b0,cap,he,_,_,_,⟨vs,ty,fz,hh,_⟩,_⟩:=hs
  rw [he] at hc
  simp only [Xs] at hc
  subst hc
  have:b0=b:=by simpa [occ] using hb
  subst this
  exact de hh
def tI (e:Nat→Option CObj) (k b o:Nat):Prop:=∃c,e k=some c/\occ c b o
theorem After.slot {w w':World} {pub:Nat→Nat→Prop} {e:Nat→Option CObj} {S:List (Nat × SObj)}
  (hp:lL w pub) (hs:∀id o,ax S id=some o→bv ⟨e,w,pub⟩ (fun _ _=>True) id o) (hd:∀id,ax S id=none→e id=none) (hi:Inj e)
  {k:Nat} {obj:SObj} {c:CObj} {Q:Nat→Nat→Prop}
  (os:w'.os=w.os) (tape:w'.tape=w.tape) (output:w'.output=w.output) (size:w.heap.size<=w'.heap.size)
  (block:∀b,b < w.heap.size→(∀o,¬tI e k b o)→w'.heap[b]?=w.heap[b]?)
  (cell:∀b o,b < w.heap.size→¬tI e k b o→w'.cell? ⟨b,o,none⟩=w.cell? ⟨b,o,none⟩)
  (kind:∀b,b < w.heap.size→¬(∀o,tI e k b o)→w'.shape? b=w.shape? b/\∀o,w'.frozen? ⟨b,o,none⟩=w.frozen? ⟨b,o,none⟩)
  (hpub:∀b o,pub b o→w'.cell? ⟨b,o,none⟩=w.cell? ⟨b,o,none⟩)
  (hQ:∀b o,Q b o→w.heap.size<=b/\∃v,w'.cell? ⟨b,o,none⟩=some v)
  (hle:∀c0,e k=some c0→CLe c0 c) (hnew:∀b o,occ c b o→w.heap.size<=b∨tI e k b o)
  (hobj:Ext ⟨e,w,pub⟩ ⟨fun i=>if k=i then some c else e i,w',fun b o=>pub b o∨Q b o⟩→
   bv ⟨fun i=>if k=i then some c else e i,w',fun b o=>pub b o∨Q b o⟩ (fun b o=>w.heap.size<=b∨lZ e b o) k obj) :
  After w pub e (ax (putB S [(k,obj)])) w' (fun b o=>pub b o∨Q b o) (fun i=>if k=i then some c else e i):=by
 have blk:∀{id c b o},e id=some c→occ c b o→b < w.heap.size:=by
  intro id c b o hc ho
  cases hg:ax S id with
  | none=>rw [hd id hg] at hc;cases hc
  | some ob=>exact (hs id ob hg).blk (Ω:=⟨e,w,pub⟩) hc ho
 have hx:Ext ⟨e,w,pub⟩ ⟨fun i=>if k=i then some c else e i,w',fun b o=>pub b o∨Q b o⟩:=by
  refine ⟨fun id c' hc'=>?_,fun b o h=>Or.inl h,fun b o h=>hpub b o h⟩
  by_cases hid:k=id
  ·subst hid;exact ⟨c,by simp,hle c' hc'⟩
  ·exact ⟨c',by simp only [if_neg hid];exact hc',CLe.refl _⟩
 have toL:∀{b o},tI e k b o→lZ e b o:=fun ⟨c,h1,h2⟩=>⟨k,c,h1,h2⟩
 have stay:∀{id c' b o},k≠id→e id=some c'→occ c' b o→¬tI e k b o:=by
  rintro id c' b o hid hc ho ⟨c0,h1,h2⟩
  exact hid (hi k id c0 c' b o h1 hc h2 ho)
 refine ⟨os,tape,output,size,fun b hb h=>block b hb fun o ho=>h o (toL ho),fun b o hb h=>cell b o hb fun ho=>h (toL ho),
  fun b hb h=>kind b hb fun ho=>h fun o=>toL (ho o),hx,fun b o h=>?_,fun b o h=>?_,fun id o h=>?_,fun id h=>?_,?_⟩
 ·rcases h with h | h
  ·exact Or.inl h
  ·exact Or.inr (Or.inl (hQ b o h).1)
 ·rcases h with h | h
  ·obtain ⟨v,hv⟩:=hp b o h;exact ⟨v,(hpub b o h).trans hv⟩
  ·exact (hQ b o h).2
 ·rw [iy,iv] at h
  by_cases hid:k=id
  ·subst hid
   simp only [if_true] at h
   cases h
   exact hobj hx
  ·simp only [if_neg hid] at h
   have h0:=hs id o h
   refine bv.own_of (bv.keep h0 hx (by simp only [if_neg hid]) fun c' hc'=>?_) (fun c' b o hc ho=>?_)
   ·have hc':e id=some c':=hc'
    cases c' with
    | box b off len=>
     intro oo h1 h2
     have ho:occ (.box b off len) b oo:=⟨rfl,h1,h2⟩
     refine ⟨cell b oo (blk hc' ho) (stay hid hc' ho),(kind b (blk hc' ho) fun hall=>stay hid hc' ho (hall oo)).2 oo,fun hp'=>?_⟩
     rcases hp' with hp' | hp'
     ·exact hp'
     ·have:=(hQ _ _ hp').1;have:=blk hc' ho;omega
    | tail n base cap=>
     intro b hb
     have ho:∀oo,occ (.tail n base cap) b oo:=fun _=>hb
     refine ⟨block b (blk hc' (ho 0)) fun oo=>stay hid hc' (ho oo),fun oo hp'=>?_⟩
     rcases hp' with hp' | hp'
     ·exact hp'
     ·have:=(hQ _ _ hp').1;have:=blk hc' (ho 0);omega
    | obj r=>
     have ho:∀oo,occ (.obj r) r oo:=fun _=>rfl
     exact block r (blk hc' (ho 0)) fun oo=>stay hid hc' (ho oo)
    | bld b g=>
     intro b' hb'
     have ho:∀oo,occ (.bld b g) b' oo:=fun _=>hb'
     refine ⟨block b' (blk hc' (ho 0)) fun oo=>stay hid hc' (ho oo),fun oo hp'=>?_⟩
     rcases hp' with hp' | hp'
     ·exact hp'
     ·have:=(hQ _ _ hp').1;have:=blk hc' (ho 0);omega
   ·simp only [if_neg hid] at hc
    exact Or.inr ⟨id,c',hc,ho⟩
 ·rw [iy,iv] at h
  by_cases hid:k=id
  ·simp [hid] at h
  ·simp only [if_neg hid] at h ⊢
   exact hd id h
 ·intro i j ci cj b o hci hcj hoi hoj
  simp only at hci hcj
  by_cases h1:k=i <;> by_cases h2:k=j
  ·omega
  ·simp only [if_pos h1,if_neg h2,Xs] at hci hcj
   subst hci
   rcases hnew b o hoi with h | h
   ·have:=blk hcj hoj;omega
   ·exact absurd h (stay h2 hcj hoj)
  ·simp only [if_neg h1,if_pos h2,Xs] at hci hcj
   subst hcj
   rcases hnew b o hoj with h | h
   ·have:=blk hci hoi;omega
   ·exact absurd h (stay h1 hci hoi)
  ·simp only [if_neg h1,if_neg h2] at hci hcj
   exact hi i j ci cj b o hci hcj hoi hoj
theorem After.fresh1 {w w':World} {pub:Nat→Nat→Prop} {e:Nat→Option CObj} {S:List (Nat × SObj)}
  (hp:lL w pub) (hs:∀id o,ax S id=some o→bv ⟨e,w,pub⟩ (fun _ _=>True) id o) (hd:∀id,ax S id=none→e id=none) (hi:Inj e)
  {k:Nat} {obj:SObj} {c:CObj} (hb:RowKit.Below w.heap.size w w') (hk:ax S k=none) (hnew:∀b o,occ c b o→w.heap.size<=b)
  (hobj:bv ⟨fun i=>if k=i then some c else e i,w',fun b o=>pub b o∨False⟩ (fun b o=>w.heap.size<=b∨lZ e b o) k obj) :
  After w pub e (ax (putB S [(k,obj)])) w' (fun b o=>pub b o∨False) (fun i=>if k=i then some c else e i):=
 After.slot hp hs hd hi (Q:=fun _ _=>False) hb.os hb.tape hb.output hb.size (fun b h _=>hb.block b h) (fun b o h _=>ay (hb.block b h) o)
  (fun b h _=>⟨bA (hb.block b h),fun o=>ba (hb.block b h) o⟩)
  (fun b o h=>by obtain ⟨v,hv⟩:=hp b o h;exact ay (hb.block b (bd hv)) o)
  (fun _ _ h=>h.elim) (fun c0 h=>by rw [hd k hk] at h;cases h) (fun b o h=>Or.inl (hnew b o h)) (fun _=>hobj)
theorem VL.one_inv {Ω:Om} {a:AV} {vs:List Value} (h:VL Ω [a] vs):∃v,vs=[v]/\V Ω a v:=by
 obtain ⟨hl,h⟩:=h
 match vs,hl,h with
 | [v],_,h=>exact ⟨v,rfl,h 0 a v rfl rfl⟩
theorem VL.two_inv {Ω:Om} {a b:AV} {vs:List Value} (h:VL Ω [a,b] vs):∃v u,vs=[v,u]/\V Ω a v/\V Ω b u:=by
 obtain ⟨hl,h⟩:=h
 match vs,hl,h with
 | [v,u],_,h=>exact ⟨v,u,rfl,h 0 a v rfl rfl,h 1 b u rfl rfl⟩
end Go.AL
end
section
namespace Go.AL
variable [Tabs]
open Go.Proofs Go.Shelf Go.RowKit
variable {P:Program} {ρ:Ren}
structure But (w w':World) (b:Nat) (g:Option Nat):Prop where
 os:w'.os=w.os
 tape:w'.tape=w.tape
 output:w'.output=w.output
 size:w.heap.size<=w'.heap.size
 block:∀k,k < w.heap.size→k≠b→g≠some k→w'.heap[k]?=w.heap[k]?
structure WL (P:Program) (ρ:Ren):Prop where
 mixed:P.follows .mixedOrders=true
 f166:P.funcs[ρ.f 166]?=some (Body.n166 ρ)
 t3:P.underlying (ρ.t 3)=some (TypeDesc.int IntKind.i64)
 a3:∀w,(isAgg (ρ.t 3)).run P w=.ok false w
 z3:∀w,(Go.sizeOf (ρ.t 3)).run P w=.ok 1 w
 v3:∀w,(zeroValue (ρ.t 3)).run P w=.ok (Value.int IntKind.i64 0) w
 t9:P.underlying (ρ.t 9)=some (TypeDesc.string)
 a9:∀w,(isAgg (ρ.t 9)).run P w=.ok false w
 z9:∀w,(Go.sizeOf (ρ.t 9)).run P w=.ok 1 w
 v9:∀w,(zeroValue (ρ.t 9)).run P w=.ok (Value.string {data:=#[]}) w
 t37:P.underlying (ρ.t 37)=some (TypeDesc.slice (ρ.t 5))
 a37:∀w,(isAgg (ρ.t 37)).run P w=.ok false w
 z37:∀w,(Go.sizeOf (ρ.t 37)).run P w=.ok 1 w
 v37:∀w,(zeroValue (ρ.t 37)).run P w=.ok (Value.slice none 0 0) w
 t70:P.underlying (ρ.t 70)=some (TypeDesc.pointer (ρ.t 72))
 a70:∀w,(isAgg (ρ.t 70)).run P w=.ok false w
 z70:∀w,(Go.sizeOf (ρ.t 70)).run P w=.ok 1 w
 v70:∀w,(zeroValue (ρ.t 70)).run P w=.ok (Value.pointer none) w
 t72:P.underlying (ρ.t 72)=some (TypeDesc.struct #[{name:= "addr",type:=ρ.t 70,offset:=0,embedded:=false,tag:= "",pkgPath:= "strings",byteOffset:=0},{name:= "buf",type:=ρ.t 37,offset:=1,embedded:=false,tag:= "",pkgPath:= "strings",byteOffset:=8}])
 a72:∀w,(isAgg (ρ.t 72)).run P w=.ok true w
 z72:∀w,(Go.sizeOf (ρ.t 72)).run P w=.ok 2 w
 v72:∀w,(zeroValue (ρ.t 72)).run P w=.ok (Value.agg #[Value.pointer none,Value.slice none 0 0]) w
end Go.AL
end
