/- The layer: Go code as conditions, and that they are sound. Plain facts. No condition. -/
import Derived.Test.YtldkmcedeenlnaaGreatDoorT03
import Derived.ChangeMaps
import Derived.Deep.DeepWitnessRowRef
import Derived.Deep.LoopGhost
import Derived.JoinedCond
import Derived.KernelRfl
import Derived.Lib.AtoiErrMem
import Derived.Lib.DecodeN
import Derived.Lib.LaidIn
import Derived.Lib.LaidU8T
import Derived.LoopIn
import Derived.LoopN
import Derived.LoopNIn
import Derived.OpenShut
import Derived.OwnWalkIn
import Derived.PinnedBridge
import Derived.ProofKit
import Derived.RangeFuncBox
import Derived.RangeFuncLeaves
import Derived.Recover
import Derived.Scope
import Derived.Shelf.SlIter.Sorted
import Derived.Shelf.SlSortCmp.Whole1
import Derived.Shelf.Slices.CompactS
import Derived.Shelf.Slices.In.SortNone
import Derived.Shelf.Small.Strs
import Derived.Shelf.Sort.Plain
import Derived.Shelf.Strconv.Atoi
import Derived.Shelf.Strconv.Itoa0
import Derived.Shelf.Strings.BuilderF
import Derived.Shelf.Strings.Cut
import Derived.Shelf.Strings.OnBuilder
import Derived.Shelf.Strings.Search3
import Derived.Shelf.Strings.SlTrimAscii
import Derived.Shelf.Strings.Split
import Derived.Shelf.Unicode.DecodeAny
import Derived.Shelf.Unicode.ValidAny
import Derived.Shelf.Vars
import Derived.TacticsInMore
import Derived.Test.YtldkmcedeenlnaaGreatDoorCards
import Derived.Test.YtldkmcedeenlnaaGreatDoorProg
import Derived.Test.YtldkmcedeenlnaaGreatDoorTie
import Derived.WalkKit
import Derived.WideKeyArgs
set_option linter.all false
set_option maxRecDepth 100000
noncomputable section
namespace Go.AL
variable [Tabs]
def vY:SX→Exit
 | .normal=>.normal
 | .exit id=>.exit id
 | .ret=>.ret
 | .pan _=>.outgrown
def Ends (Ω:Om):SX→Exit→Prop
 | .pan pv,e=>∃v,e=.panic [{v,recovered:=false}]/\V Ω pv v
 | x,e=>vY x=e
def QL (F:Fr) (Q:SX→St→Prop):Exit→Act→World→Prop:=fun e a w=>∃x s Ω,Ends Ω x e/\Ω.w=w/\Holds F s.abs a Ω/\Q x s
mutual
theorem forceV_eq:∀(a:AV) (k:AV→Prop),forceV a k=k a
 | .undef,k=>rfl
 | .int κ n,k=>rfl
 | .bool b,k=>rfl
 | .str s,k=>rfl
 | .lst τ xs none,k=>rfl
 | .lst τ xs (some i),k=>rfl
 | .nils,k=>rfl
 | .ptr i o,k=>rfl
 | .cptr c,k=>by simp only [forceV];rw [forceV_eq c]
 | .st n x,k=>rfl
 | .nilp,k=>rfl
 | .row τ xs,k=>rfl
 | .arr i n w,k=>rfl
 | .aptr i n w o,k=>rfl
 | .map i,k=>rfl
 | .bptr i,k=>rfl
 | .lstp τ xs i,k=>rfl
 | .glst s n i,k=>rfl
 | .gptr i s n w o,k=>rfl
 | .tptr τ n i,k=>rfl
 | .iface t a,k=>by simp only [forceV];rw [forceV_eq a]
 | .nilif,k=>rfl
 | .nilm,k=>rfl
 | .pt n x,k=>rfl
 | .agg cs,k=>by simp only [forceV];rw [forceL_eq cs]
 | .tup cs,k=>by simp only [forceV];rw [forceL_eq cs]
 | .fn f cs,k=>by simp only [forceV];rw [forceL_eq cs]
theorem forceL_eq:∀(l:List AV) (k:List AV→Prop),forceL l k=k l
 | [],k=>rfl
 | a ::r,k=>by simp only [forceL];rw [forceV_eq a,forceL_eq r]
end
theorem rm:∀(l:List (Nat × AV)) (k:List (Nat × AV)→Prop),sk l k=k l
 | [],k=>rfl
 | (i,a) ::r,k=>by simp only [sk];rw [forceV_eq a,rm r]
theorem fB:∀(l:List (Nat × SObj)) (k:List (Nat × SObj)→Prop),eR l k=k l
 | [],k=>rfl
 | (i,.box c) ::r,k=>by simp only [eR];rw [forceV_eq c,fB r]
 | (i,.tail τ n) ::r,k=>by simp only [eR];rw [fB r]
 | (i,.map κ τ m) ::r,k=>by simp only [eR];rw [fB r]
 | (i,.bld t u l) ::r,k=>by simp only [eR];rw [fB r]
 | (i,.tailp τ n x) ::r,k=>by simp only [eR];rw [fB r]
 | (i,.grow τ s xs) ::r,k=>by simp only [eR];rw [fB r]
theorem eZ (s:St) (k:St→Prop):gM s k=k s:=by
 unfold gM
 rw [rm,fB]
theorem l8:∀(l:List Nat) (k:List Nat→Prop),kn l k=k l
 | [],k=>rfl
 | 0 ::r,k=>by simp only [kn];rw [l8 r]
 | (n+1) ::r,k=>by simp only [kn];rw [l8 r]
theorem Holds.trim {F:Fr} {s:St} {a:Act} {Ω:Om} (h:Holds F s.abs a Ω) (keep:List Nat):Holds F (trim keep s).abs a Ω:=by
 refine ⟨fun i=>?_,h.size,h.defers,h.slots,h.dom,h.inj,h.pubok,h.keep,h.frame⟩
 have:=hU s.t (fun i=>keep.contains i) i
 simp only [AL.trim,St.abs]
 rw [this]
 split
 ·exact h.tmps i
 ·exact .undef _
section
variable {P:Program} {C:Cfg} {F:Fr}
theorem kR (hm:P.follows .mixedOrders=true) (hT:aH P C.tbl) (hS:bK P C.spec) (keep:List Nat) {id:Nat} {ops:Array Oper} {draw:Bool} {s1:St} {Q:SX→St→Prop} {a:Act} {Ω1:Om}
  (hdst:∀(o:Oper),o∈ops.toList→∀d,o.dst=some d→d < F.n) (h:nR C keep ops draw s1 Q) (hh1:Holds F s1.abs a Ω1):(Code.region id ops draw).wp P (QL F Q) a Ω1.w:=by
 unfold nR at h
 have key:∀s' fs,(gM (trim keep s') fun s'=>if draw=true then (if dQ ops.toList fs=true then Q .normal s' else False) else Q .normal s')→
   (draw=true→dQ ops.toList fs=true)/\Q .normal (trim keep s'):=by
  intro s' fs hk
  simp only [eZ] at hk
  cases draw with
  | false=>exact ⟨fun h=>by simp at h,by simpa using hk⟩
  | true=>
   simp only [if_true] at hk
   rcases Classical.em (dQ ops.toList fs=true) with k | k
   ·rw [if_pos k] at hk;exact ⟨fun _=>k,hk⟩
   ·rw [if_neg k] at hk;exact hk.elim
 refine lL hm hT hS hdst h (fun hdr s' fs hk=>let ⟨s2,h2⟩:=mE _ hk;(key s2 fs h2).1 hdr) hh1 (fun s' fs a' Ω' hk h'=>
   let ⟨s2,Ω2,g1,g2,g3⟩:=pD h' hk
   ⟨.normal,trim keep s2,Ω2,rfl,g1,g2.trim keep,(key s2 fs g3).2⟩)
  (fun pv s' a' Ω' v hk h' hv=>?_)
 simp only [eZ,forceV_eq] at hk
 exact ⟨.pan pv,s',Ω',⟨v,rfl,hv⟩,rfl,h',hk⟩
theorem vZ (hT:aH P C.tbl) {keep:List Nat} {id:Nat} {ops:Array Oper} {draw:Bool} {s:St} {p:Prop} {f:Bool→St} {a:Act} {Ω:Om} (hn:DW C keep ops draw s=some (p,f))
  (hdst:∀(o:Oper),o∈ops.toList→∀d,o.dst=some d→d < F.n) (hh:Holds F s.abs a Ω):(Code.region id ops draw).wp P (QL F fun x t=>x=.normal/\∃b,(b=true→p)/\t=f b) a Ω.w:=by
 unfold DW at hn
 split at hn
 ·rename_i m src ty1 ps1 af1 c t m' t2 ty2 ps2 af2 hops
  split at hn
  ·rename_i e sz by' z ty τ xs o hc ht hsrc
   cases hn
   simp only [Bool.and_eq_true,Bool.not_eq_true'] at hc
   obtain ⟨hm,hcm⟩:=hc
   obtain rfl:=Nat.eq_of_beq_eq_true hm
   have hne:¬m'=c:=fun e=>by rw [e,Nat.beq_refl] at hcm;cases hcm
   have d1:m' < F.n:=hdst _ (by rw [hops];exact List.mem_cons_self ..) m' rfl
   have d2:c < F.n:=hdst _ (by rw [hops];exact List.mem_cons_of_mem _ (List.mem_cons_self ..)) c rfl
   obtain ⟨dd,u1,u2⟩:=aw hT ht rfl
   cases dd <;> simp [aA] at u2
   have hv:=aO hh src
   rw [show opd s.abs.T src=.lst τ xs o from hsrc] at hv
   have hv2:V Ω (.lst τ xs none) (a.eval src):=hv.le (G:=[]) (fun k hk=>by cases hk) (bC (by simp [LeF,eA]))
   obtain ⟨q,n,cp,hev,hq⟩:∃q n cp,a.eval src=.slice q n cp/\(q.isNone=true→xs=[]):=by
    generalize a.eval src=sv at hv2
    cases hv2 with
    | lstNil _ _ _=>exact ⟨_,_,_,rfl,fun _=>rfl⟩
    | lstVoid _ _=>exact ⟨_,_,_,rfl,fun _=>rfl⟩
    | lst _ _ _ b off cap vals h1 h2 tok hc hv=>exact ⟨_,_,_,rfl,fun q=>by cases q⟩
   have hsz:=hh.size
   have eqs:ops=#[⟨some m',.move src,ty1,ps1,af1,none⟩,⟨some c,.binOp .eql t (.tmp m') (.const (.slice none 0 0)) t2,ty2,ps2,af2,none⟩]:=by
    cases ops;simp at hops;rw [hops]
   subst eqs
   rw [hev] at hv2
   have hp1:=hh.pure (dst:=some m') (val:=.lst τ xs none) (v:=.slice q n cp) hv2 (fun d e=>by cases e;exact d1)
   have hp2:=hp1.pure (dst:=some c) (val:=.bool q.isNone) (v:=.bool q.isNone) (.bool _) (fun d e=>by cases e;exact d2)
   refine wp_region ?_
   show wpOps P _ _ [0,1] a Ω.w
   refine cI (o:=⟨some m',.move src,ty1,ps1,af1,none⟩) rfl rfl (ai (v:=.slice q n cp) (w':=Ω.w) (by simp [execOp,hev]) ?_)
   have hm1:(a.put (some m') (.slice q n cp)).eval (.tmp m')=.slice q n cp:=by
    show (a.put (some m') (.slice q n cp)).tmps.getD m' undef=_
    rw [cA hsz d1,if_pos rfl]
   have hq2:(Op.equal t (.slice q n cp) (.slice none 0 0)).run P Ω.w=.ok q.isNone Ω.w:=by
    unfold Op.equal Op.maxDepth Op.equalIn
    simp only [Sem.run_bind,ax u1,Result.andThen_ok]
    cases q <;> rfl
   have hg:(eqGuard .eql t (.tmp m') (.const (.slice none 0 0)) (.slice q n cp) (.slice none 0 0)).run P Ω.w=.ok () Ω.w:=rfl
   refine cI (o:=⟨some c,.binOp .eql t (.tmp m') (.const (.slice none 0 0)) t2,ty2,ps2,af2,none⟩) rfl rfl (ai (v:=.bool q.isNone) (w':=Ω.w) (by
    have hk:(a.put (some m') (.slice q n cp)).eval (.const (.slice none 0 0))=.slice none 0 0:=rfl
    simp [execOp,hm1,hev,hk,hg,binOp,hq2]) ?_)
   refine ⟨.normal,_,Ω,rfl,rfl,?_,rfl,q.isNone,hq,rfl⟩
   refine Holds.trim (s:=⟨lr (lr s.t m' (.lst τ xs none)) c (.bool q.isNone),s.b⟩) ?_ keep
   have eT:(St.abs ⟨lr (lr s.t m' (.lst τ xs none)) c (.bool q.isNone),s.b⟩)=⟨bq (bq s.abs.T (some m') (.lst τ xs none)) (some c) (.bool q.isNone),s.abs.B⟩:=by
    show AS.mk _ _=AS.mk _ _
    congr 1
    funext k
    show aM (lr (lr s.t m' (.lst τ xs none)) c (.bool q.isNone)) k=_
    rw [iL,iL]
    rfl
   rw [eT]
   exact hp2
  ·cases hn
 ·cases hn
theorem sP {P:Program} {Q:Exit→Act→World→Prop} {a:Act} {w:World} {c:Code} (I:Nat→Act→World→Prop) (h₀:c.wp P (Exit.then (fun a w=>∃n,I n a w) Q) a w)
  (round:∀n a w,I n a w→c.wp P (Exit.then (fun a' w'=>∃n',n' < n/\I n' a' w') Q) a w):(Code.loop c).wp P Q a w:=by
 intro b k cs
 have key:∀n a w,I n a w→∃e a' w',Q e a' w'/\Arrives P (lone (b.at a (.code c ::.inLoop c ::k)) cs w) b k cs e a' w':=by
  intro n
  induction n using Nat.strongRecOn with
  | _ n ih=>
   intro a w hI
   obtain ⟨e,a₁,w₁,hq,harr⟩:=round n a w hI b (.inLoop c ::k) cs
   cases e with
   | normal=>
    obtain ⟨m,hlt,hI₁⟩:=hq
    obtain ⟨e₂,a₂,w₂,hq₂,harr₂⟩:=ih m hlt a₁ w₁ hI₁
    exact ⟨e₂,a₂,w₂,hq₂,.of_steps (Steps.trans harr (.one step_inLoop)) harr₂⟩
   | exit id=>exact ⟨_,a₁,w₁,hq,.pass (x:=.inLoop c) rfl (fun _ _=>.inl (by simp)) harr⟩
   | goto l=>exact ⟨_,a₁,w₁,hq,.pass (x:=.inLoop c) rfl (fun _ _=>.inl (by simp)) harr⟩
   | ret=>exact ⟨_,a₁,w₁,hq,.pass (x:=.inLoop c) rfl (fun _ _=>.inl (by simp)) harr⟩
   | panic ch=>exact ⟨_,a₁,w₁,hq,.pass (x:=.inLoop c) rfl (fun _ _=>.inl (by simp)) harr⟩
   | outgrown=>exact ⟨_,a₁,w₁,hq,.pass (x:=.inLoop c) rfl (fun _ _=>.inl (by simp)) harr⟩
 obtain ⟨e,a₁,w₁,hq,harr⟩:=h₀ b (.inLoop c ::k) cs
 cases e with
 | normal=>
  obtain ⟨m,hI⟩:=hq
  obtain ⟨e₂,a₂,w₂,hq₂,harr₂⟩:=key m a₁ w₁ hI
  exact ⟨e₂,a₂,w₂,hq₂,.of_steps (.one step_loop) (.of_steps (Steps.trans harr (.one step_inLoop)) harr₂)⟩
 | exit id=>exact ⟨_,a₁,w₁,hq,.of_steps (.one step_loop) (.pass (x:=.inLoop c) rfl (fun _ _=>.inl (by simp)) harr)⟩
 | goto l=>exact ⟨_,a₁,w₁,hq,.of_steps (.one step_loop) (.pass (x:=.inLoop c) rfl (fun _ _=>.inl (by simp)) harr)⟩
 | ret=>exact ⟨_,a₁,w₁,hq,.of_steps (.one step_loop) (.pass (x:=.inLoop c) rfl (fun _ _=>.inl (by simp)) harr)⟩
 | panic ch=>exact ⟨_,a₁,w₁,hq,.of_steps (.one step_loop) (.pass (x:=.inLoop c) rfl (fun _ _=>.inl (by simp)) harr)⟩
 | outgrown=>exact ⟨_,a₁,w₁,hq,.of_steps (.one step_loop) (.pass (x:=.inLoop c) rfl (fun _ _=>.inl (by simp)) harr)⟩
def ua (F:Fr) (ann:An) (c:Code) (W:St→(SX→St→Prop)→Prop) (Q:SX→St→Prop) (k:Nat) (a:Act) (w:World):Prop:=
 ∃(s:St) (A:LA) (x:A.ι) (Ω:Om),(∀x,A.pre x→W (gL (cg c) s (A.t x) (A.b x)) fun
   | .normal,s'=>∃y,A.pre y/\A.m y < A.m x/\cS s' (gL (cg c) s (A.t y) (A.b y))
   | e,s'=>Q e s')/\A.pre x/\A.m x=k/\Ω.w=w/\Holds F (gL (cg c) s (A.t x) (A.b x)).abs a Ω
theorem ni {ann:An} {c:Code} {W:St→(SX→St→Prop)→Prop} {Q:SX→St→Prop} {s:St} {a:Act} {Ω:Om} (h:xz ann c W s Q) (hh:Holds F s.abs a Ω):∃k,ua F ann c W Q k a Ω.w:=by
 unfold xz at h
 split at h
 ·exact h.elim
 ·rename_i A hA
  simp only [eZ] at h
  obtain ⟨⟨x0,hp0,hle0⟩,hround⟩:=h
  obtain ⟨Ω0,e0,hh0⟩:=eE hh (jh hle0)
  exact ⟨A.m x0,s,A,x0,Ω0,hround,hp0,rfl,e0,hh0⟩
theorem nj {ann:An} {c:Code} {W:St→(SX→St→Prop)→Prop} {Q:SX→St→Prop} (hW:∀(s:St) (Q:SX→St→Prop) (a:Act) (Ω:Om),W s Q→Holds F s.abs a Ω→c.wp P (QL F Q) a Ω.w)
  {k:Nat} {a:Act} {w:World} (hI:ua F ann c W Q k a w):c.wp P (Exit.then (fun a' w'=>∃n',n' < k/\ua F ann c W Q n' a' w') (QL F Q)) a w:=by
 obtain ⟨s,A,x,Ω1,hround,hp,hmx,hw1,hh1⟩:=hI
 subst hw1
 refine wp_mono (hW (gL (cg c) s (A.t x) (A.b x)) _ a Ω1 (hround x hp) hh1) ?_
 intro e a' w' hq
 obtain ⟨z,s',Ω',h1,h2,h3,h4⟩:=hq
 subst h2
 cases z with
 | normal=>
  cases h1
  obtain ⟨y,hy1,hy2,hy3⟩:=h4
  obtain ⟨Ω2,e2,hh2⟩:=eE h3 (jh hy3)
  exact ⟨A.m y,by omega,s,A,y,Ω2,hround,hy1,rfl,e2,hh2⟩
 | exit id=>cases h1;exact ⟨.exit id,s',Ω',rfl,rfl,h3,h4⟩
 | ret=>cases h1;exact ⟨.ret,s',Ω',rfl,rfl,h3,h4⟩
 | pan pv=>obtain ⟨v,rfl,hv⟩:=h1;exact ⟨.pan pv,s',Ω',⟨v,rfl,hv⟩,rfl,h3,h4⟩
theorem yP (hm:P.follows .mixedOrders=true) (hT:aH P C.tbl) (hS:bK P C.spec) (keep:List Nat) (ann:An) :
  ∀(c:Code) (s:St) (Q:SX→St→Prop) (a:Act) (Ω:Om),swp C keep ann c s Q→bR F.n c=true→Holds F s.abs a Ω→c.wp P (QL F Q) a Ω.w:=by
 intro c
 induction c with
 | skip=>exact fun s Q a Ω h _ hh=>wp_skip ⟨.normal,s,Ω,rfl,rfl,hh,h⟩
 | region id ops draw=>
  intro s Q a Ω h hd hh
  simp only [swp] at h
  have hdst:∀(o:Oper),o∈ops.toList→∀d,o.dst=some d→d < F.n:=by
   intro o ho d hod
   simp only [bR,List.all_eq_true] at hd
   have:=hd o ho
   rw [hod] at this
   simpa using this
  split at h
  ·rename_i p f hn
   refine wp_mono (vZ hT hn hdst hh) ?_
   rintro e a' w' ⟨z,s',Ω',h1,h2,h3,h4,b,h5,h6⟩
   subst h2 h4 h6
   have:=h b h5
   rw [eZ] at this
   exact ⟨.normal,f b,Ω',h1,rfl,h3,this⟩
  split at h
  ·exact h.elim
  rename_i sr hr0
  obtain ⟨Ωr,er,hhr⟩:=l7 _ hh hr0
  rw [←er]
  split at h
  ·exact h.elim
  ·rename_i s0 hp0
   obtain ⟨Ω0,e0,hh0⟩:=jj _ hhr hp0
   split at h
   ·exact h.elim
   ·rename_i s1 he
    obtain ⟨Ω1,e1,hh1⟩:=jQ hh0 he
    rw [←e0,←e1]
    split at h
    ·exact kR hm hT hS keep hdst h hh1
    ·rename_i J hJ
     obtain ⟨h1,h2⟩:=h
     rw [eZ] at h2
     refine wp_mono (kR hm hT hS keep hdst h1 hh1) ?_
     intro e a' w' hq
     obtain ⟨z,s',Ω',g1,g2,g3,g4⟩:=hq
     subst g2
     cases z with
     | normal=>
      cases g1
      obtain ⟨Ω2,e2,hh2⟩:=eE g3 (jh g4)
      exact ⟨.normal,_,Ω2,rfl,e2,hh2,h2⟩
     | exit id=>exact ⟨.exit id,s',Ω',g1,rfl,g3,g4⟩
     | ret=>exact ⟨.ret,s',Ω',g1,rfl,g3,g4⟩
     | pan pv=>exact ⟨.pan pv,s',Ω',g1,rfl,g3,g4⟩
 | seq x y ihx ihy=>
  intro s Q a Ω h hd hh
  have hd0:=hd
  simp only [bR,Bool.and_eq_true] at hd
  simp only [swp] at h
  split at h
  ·rename_i L hL
   refine wp_mono (vU hT hL h hd0 hh) ?_
   rintro e a' w' ⟨rfl,s',Ω',h2,h3,h4⟩
   rw [eZ] at h4
   exact ⟨.normal,s',Ω',rfl,h2,h3,h4⟩
  split at h
  rotate_left
  ·rename_i J hJ
   obtain ⟨h1,h2⟩:=h
   rw [eZ] at h2
   refine wp_seq (wp_mono (ihx s _ a Ω h1 hd.1 hh) ?_)
   intro e a' w' hq
   obtain ⟨z,s',Ω',g1,g2,g3,g4⟩:=hq
   subst g2
   cases z with
   | normal=>
    cases g1
    obtain ⟨Ω2,e2,hh2⟩:=eE g3 (jh g4)
    rw [←e2]
    exact ihy _ Q a' Ω2 h2 hd.2 hh2
   | exit id=>cases g1;exact ⟨.exit id,s',Ω',rfl,rfl,g3,g4⟩
   | ret=>cases g1;exact ⟨.ret,s',Ω',rfl,rfl,g3,g4⟩
   | pan pv=>obtain ⟨v,rfl,hv⟩:=g1;exact ⟨.pan pv,s',Ω',⟨v,rfl,hv⟩,rfl,g3,g4⟩
  refine wp_seq (wp_mono (ihx s _ a Ω h hd.1 hh) ?_)
  intro e a' w' hq
  obtain ⟨z,s',Ω',h1,h2,h3,h4⟩:=hq
  subst h2
  cases z with
  | normal=>cases h1;exact ihy s' Q a' Ω' h4 hd.2 h3
  | exit id=>cases h1;exact ⟨.exit id,s',Ω',rfl,rfl,h3,h4⟩
  | ret=>cases h1;exact ⟨.ret,s',Ω',rfl,rfl,h3,h4⟩
  | pan pv=>obtain ⟨v,rfl,hv⟩:=h1;exact ⟨.pan pv,s',Ω',⟨v,rfl,hv⟩,rfl,h3,h4⟩
 | cond c x y ihx ihy=>
  intro s Q a Ω h hd hh
  simp only [bR,Bool.and_eq_true] at hd
  simp only [swp] at h
  split at h
  ·rename_i b hb
   have hv:=aO hh c
   have hb':opd s.abs.T c=.bool b:=hb
   rw [hb'] at hv
   have hv:=hv.bool_inv
   refine wp_cond hv ?_
   unfold sp at h
   have hset:Holds F (Cz c b s).abs a Ω:=by
    cases c with
    | tmp t=>
     refine ⟨fun i=>?_,hh.size,hh.defers,hh.slots,hh.dom,hh.inj,hh.pubok,hh.keep,hh.frame⟩
     have e:(Cz (.tmp t) b s).abs.T i=if t=i then .bool b else aM s.t i:=iL s.t t (.bool b) i
     rw [e]
     by_cases ht:t=i
     ·subst ht
      rw [if_pos rfl]
      have:=hh.tmps t
      rw [show s.abs.T t=.bool b from hb'] at this
      exact this
     ·rw [if_neg ht]
      exact hh.tmps i
    | _=>exact hh
   cases b with
   | true=>exact ihx _ Q a Ω (by simpa using h) hd.1 hset
   | false=>exact ihy _ Q a Ω (by simpa using h) hd.2 hset
  ·exact h.elim
 | block id c ih=>
  intro s Q a Ω h hd hh
  simp only [bR] at hd
  simp only [swp] at h
  refine wp_block (wp_mono (ih s _ a Ω h hd hh) ?_)
  intro e a' w' hq
  obtain ⟨z,s',Ω',h1,h2,h3,h4⟩:=hq
  subst h2
  cases z with
  | normal=>cases h1;exact ⟨.normal,s',Ω',rfl,rfl,h3,h4⟩
  | ret=>cases h1;exact ⟨.ret,s',Ω',rfl,rfl,h3,h4⟩
  | pan pv=>obtain ⟨v,rfl,hv⟩:=h1;exact ⟨.pan pv,s',Ω',⟨v,rfl,hv⟩,rfl,h3,h4⟩
  | exit j=>
   cases h1
   simp only [vY,Exit.inBlock]
   by_cases hj:j=id
   ·subst hj
    simp only [if_true]
    simp only [beq_self_eq_true,if_true] at h4
    exact ⟨.normal,s',Ω',rfl,rfl,h3,h4⟩
   ·rw [if_neg hj]
    simp only [beq_iff_eq,hj,if_false] at h4
    exact ⟨.exit j,s',Ω',rfl,rfl,h3,h4⟩
 | loop c ih=>
  intro s Q a Ω h hd hh
  simp only [bR] at hd
  simp only [swp] at h
  have hW:∀(s:St) (Q:SX→St→Prop) (a:Act) (Ω:Om),swp C keep ann c s Q→Holds F s.abs a Ω→c.wp P (QL F Q) a Ω.w:=fun s Q a Ω h hh=>ih s Q a Ω h hd hh
  split at h
  ·refine sP (ua F ann c (swp C keep ann c) Q) (wp_mono (hW s _ a Ω h hh) ?_) fun k a w hI=>nj hW hI
   intro e a' w' hq
   obtain ⟨z,s',Ω',h1,h2,h3,h4⟩:=hq
   subst h2
   cases z with
   | normal=>
    cases h1
    simp only [eZ] at h4
    split at h4
    ·rename_i s2 h5
     obtain ⟨Ω2,e2,hh2⟩:=l7 _ h3 h5
     obtain ⟨k,hI⟩:=ni h4 hh2
     exact ⟨k,e2 ▸ hI⟩
    ·exact h4.elim
   | exit id=>cases h1;exact ⟨.exit id,s',Ω',rfl,rfl,h3,h4⟩
   | ret=>cases h1;exact ⟨.ret,s',Ω',rfl,rfl,h3,h4⟩
   | pan pv=>obtain ⟨v,rfl,hv⟩:=h1;exact ⟨.pan pv,s',Ω',⟨v,rfl,hv⟩,rfl,h3,h4⟩
  ·obtain ⟨k,hI⟩:=ni h hh
   exact wp_loop_ghost (ua F ann c (swp C keep ann c) Q) k hI fun k a w hI=>nj hW hI
 | exit id=>exact fun s Q a Ω h _ hh=>wp_exit ⟨.exit id,s,Ω,rfl,rfl,hh,h⟩
 | ret=>exact fun s Q a Ω h _ hh=>wp_ret ⟨.ret,s,Ω,rfl,rfl,hh,h⟩
 | rangeFunc g ps x y _ _=>exact fun s Q a Ω h=>by simp [swp] at h
 | scope c ih=>
  intro s Q a Ω h hd hh
  simp only [bR] at hd
  simp only [swp] at h
  refine wp_scope_straight (wp_mono (ih s _ a Ω h hd hh) ?_)
  intro e a' w' hq
  obtain ⟨z,s',Ω',h1,h2,h3,h4⟩:=hq
  cases z with
  | normal=>cases h1;exact ⟨.normal,s',Ω',rfl,h2,h3,h4⟩
  | exit id=>cases h1;exact ⟨.exit id,s',Ω',rfl,h2,h3,h4⟩
  | ret=>cases h1;exact ⟨.ret,s',Ω',rfl,h2,h3,h4⟩
  | pan pv=>obtain ⟨v,rfl,hv⟩:=h1;exact ⟨.pan pv,s',Ω',⟨v,rfl,hv⟩,h2,h3,h4⟩
 | label l=>exact fun s Q a Ω h _ hh=>wp_label ⟨.normal,s,Ω,rfl,rfl,hh,h⟩
 | goto l=>exact fun s Q a Ω h=>by simp [swp] at h
 | refuse why=>exact fun s Q a Ω h=>by simp [swp] at h
theorem iO:∀(l:List AV) (i j:Nat),aM (eU i l) j=if i<=j then l.getD (j - i) .undef else .undef
 | [],i,j=>by simp [eU,dc,cC]
 | v ::r,i,j=>by
  simp only [eU,dc,cC,iO r (i+1) j]
  by_cases h:i=j
  ·subst h;simp
  ·simp only [beq_iff_eq,h,if_false]
   by_cases h2:i<=j
   ·have e:j - i=(j - (i+1))+1:=by omega
    rw [if_pos h2,if_pos (by omega),e]
    simp
   ·rw [if_neg h2,if_neg (by omega)]
theorem rn {w:World} {pub:Nat→Nat→Prop} {e:Nat→Option CObj} {args:List AV} {vs:List Value} (k:Nat) (hv:VL ⟨e,w,pub⟩ args vs) (i:Nat) :
  V ⟨e,w,pub⟩ (aM (eU 0 args) i) ((vs.toArray++Array.replicate k undef).getD i undef):=by
 simp only [iO,Nat.zero_le,if_true,Nat.sub_zero]
 by_cases h:i < args.length
 ·have h':i < vs.length:=by rw [←hv.1];exact h
  have e1:args.getD i .undef=args[i]:=by simp [List.getD_eq_getElem?_getD,h]
  have e2:(vs.toArray++Array.replicate k undef).getD i undef=vs[i]:=by
   simp [Array.getD_eq_getD_getElem?,Array.getElem?_append,h']
  rw [e1,e2]
  exact hv.2 i _ _ (List.getElem?_eq_getElem h) (List.getElem?_eq_getElem h')
 ·have e1:args.getD i .undef=.undef:=by simp [List.getD_eq_getElem?_getD,h]
  rw [e1]
  exact .undef _
theorem pG {w:World} {pub:Nat→Nat→Prop} {e:Nat→Option CObj} {args:List AV} {vs:List Value} {n:Nat} {S:List (Nat × SObj)} (hp:jK w pub) (ht:jD w pub e) (hv:VL ⟨e,w,pub⟩ args vs) (hn:args.length<=n)
  (hs:∀id o,ah S id=some o→aX ⟨e,w,pub⟩ (fun _ _=>True) id o) (hd:∀id,ah S id=none→e id=none) (hi:Inj e) (hl:∀id c,e id=some c→bJ id=true) :
  Holds ⟨w,pub,n,e,hl,[],ht⟩ (St.abs ⟨eU 0 args,S⟩) {tmps:=vs.toArray++Array.replicate (n - vs.toArray.size) undef,defers:=[]} ⟨e,w,pub⟩:=
 ⟨fun i=>rn _ hv i,by simp;have:=hv.1;omega,rfl,fun id o ho=>(hs id o ho).own_of (fun c b oo hc hoc=>Or.inr ⟨id,c,hc,hoc⟩),fun id hid=>hd id hid,hi,hp,fun id c hc=>⟨c,hc,CLe.refl c⟩,
  ⟨rfl,rfl,rfl,Nat.le_refl _,fun _ _ _=>rfl,fun _ _ _ _=>rfl,fun _ _ _=>⟨rfl,fun _=>rfl⟩,fun _ _ h=>Or.inl h,fun _ _ h=>h,fun _ _ _=>rfl⟩⟩
def mF (tmps:Array Value):ResultVar→Sem Value
 | .tmp t=>pure (tmps.getD t undef)
 | .cell a t=>do loadVar t (←asAddr (tmps.getD a undef))
theorem pH (fn:Func) (tmps:Array Value):results fn tmps=(do
  let vs ←fn.results.mapM (mF tmps)
  pure (if h:vs.size=1 then vs[0] else .tuple vs)):=by
 unfold results
 congr 1
theorem fU (hT:aH P C.tbl) {s:St} {a:Act} {Ω:Om} (hh:Holds F s.abs a Ω):∀(rs:List ResultVar) (l:List AV),jC C.tbl s rs=some l→
  ∃vs,(rs.mapM (mF a.tmps)).run P Ω.w=.ok vs Ω.w/\VL Ω l vs
 | [],l,h=>by
  simp [jC] at h
  subst h
  exact ⟨[],rfl,VL.nil⟩
 | .tmp t ::rs,l,h=>by
  simp only [jC] at h
  split at h
  ·rename_i l' hl'
   simp at h
   subst h
   obtain ⟨vs,k1,k2⟩:=fU hT hh rs l' hl'
   exact ⟨_,by rw [List.mapM_cons];simp only [mF,Sem.run_bind,Sem.run_pure,Result.andThen_ok,k1],VL.cons (hh.tmps t) k2⟩
  ·cases h
 | .cell b t ::rs,l,h=>by
  simp only [jC] at h
  split at h
  ·rename_i id off rt hb hrt
   have hv:=hh.tmps b
   have e:s.abs.T b=.ptr id off:=hb
   rw [e] at hv
   obtain ⟨g,o',len,hv1,hv2⟩:=hv.ptr_inv
   split at h
   ·rename_i c hcs
    split at h
    ·rename_i x l' hx hl'
     simp at h
     subst h
     obtain ⟨vs,k1,k2⟩:=fU hT hh rs l' hl'
     obtain ⟨b',off',e1,e2⟩:=hh.slots id _ hcs
     rw [hv2] at e1
     simp only [Xs,CObj.box.injEq] at e1
     obtain ⟨rfl,rfl,rfl⟩:=e1
     obtain ⟨v,w1,w2⟩:=fN (P:=P) (C:=C) (w:=Ω.w) hT hrt hx (b:=g) (o':=o') (fun j c' hc=>(e2 j c' hc).2.2.2)
     exact ⟨v ::vs,by rw [List.mapM_cons];simp only [mF,Sem.run_bind,hv1,asAddr,Sem.run_pure,Result.andThen_ok,w1,k1],VL.cons w2 k2⟩
    ·cases h
   ·cases h
  ·cases h
theorem Holds.retmp {s:AS} {a:Act} {Ω:Om} (h:Holds F s a Ω) {l:List AV} {vs:List Value} (hv:VL Ω l vs) :
  Holds ⟨F.w0,F.pub0,vs.length,F.e0,F.dom0,[],F.tab0⟩ ⟨aM (eU 0 l),s.B⟩ {tmps:=vs.toArray++Array.replicate 0 undef,defers:=[]} Ω:=
 ⟨fun i=>rn 0 hv i,by simp,rfl,h.slots,h.dom,h.inj,h.pubok,h.keep,
  ⟨h.frame.os,h.frame.tape,h.frame.output,h.frame.size,h.frame.block,h.frame.cell,h.frame.kind,h.frame.pub,h.frame.old,h.frame.pcell⟩⟩
theorem lM {w:World} {pub:Nat→Nat→Prop} {e:Nat→Option CObj} {n:Nat} {hl:∀id c,e id=some c→bJ id=true} {ht:jD w pub e} {T:Nat→AV} {B:List (Nat × SObj)} {a:Act} {Ω:Om}
  (h:Holds ⟨w,pub,n,e,hl,[],ht⟩ ⟨T,ah B⟩ a Ω):After w pub e (ah B) Ω.w Ω.pub Ω.e:=by
 refine ⟨h.frame.os,h.frame.tape,h.frame.output,h.frame.size,h.frame.block,h.frame.cell,h.frame.kind,⟨h.keep,h.frame.old,h.frame.pcell⟩,fun b o hp=>?_,h.pubok,h.slots,h.dom,h.inj⟩
 rcases h.frame.pub b o hp with q | q | q
 ·exact Or.inl q
 ·exact Or.inr (Or.inl q)
 ·exact Or.inr (Or.inr q)
theorem lN {α:Type} {l:List α} (h:l.length=1):∃x,l=[x]:=by
 match l,h with
 | [x],_=>exact ⟨x,rfl⟩
theorem yQ (hm:P.follows .mixedOrders=true) (hT:aH P C.tbl) (hS:bK P C.spec) {ann:An} {f:Nat} {fn:Func} (hf:P.funcs[f]?=some fn)
  {args:List AV} {S:List (Nat × SObj)} {A:Ans} (h:fwp C ann fn args S A):bd P f args S A:=by
 intro w pub e vs hp ht hv hs hdom hinj
 unfold fwp at h
 split at h
 ·exact h.elim
 ·rename_i c hb
  split at h
  ·exact h.elim
  ·rename_i hck
   simp only [Bool.and_eq_true,List.all_eq_true] at hck
   obtain ⟨⟨hck1,hck2⟩,hck3⟩:=hck
   have hlen:=gX _ _ hck2
   rw [l8,eZ] at h
   have hlent:∀id c,e id=some c→bJ id=true:=by
    intro id c hc
    cases hg:ah S id with
    | none=>rw [hdom id hg] at hc;cases hc
    | some o=>exact hck3 id (List.mem_map.2 ⟨(id,o),cH _ _ _ hg,rfl⟩)
   refine calls_of_wp hf hb ?_
   have hh:=pG (n:=fn.ntmps) hp ht hv hlen hs hdom hinj hlent
   refine wp_mono (yP (F:=⟨w,pub,fn.ntmps,e,hlent,[],ht⟩) hm hT hS _ ann c _ _ _ _ h hck1 hh) ?_
   intro en a' w' hq
   obtain ⟨z,s',Ω',h1,h2,h3,h4⟩:=hq
   subst h2
   have hmap:∀us,(fn.results.toList.mapM (mF a'.tmps)).run P Ω'.w=.ok us Ω'.w→
     (results fn a'.tmps).run P Ω'.w=.ok (if h:us.toArray.size=1 then us.toArray[0] else .tuple us.toArray) Ω'.w:=by
    intro us hus
    rw [pH,←Array.toArray_toList (xs:=fn.results),List.mapM_toArray]
    simp only [Sem.run_bind,Sem.run_map,hus,Result.andThen_ok,Sem.run_pure]
   have key:((match A.pan with | some (b,_,_)=>b=false | none=>True)/\Ao (jC C.tbl s' fn.results.toList) s' A.val (ct S A.upd))→
     a'.defers=[]/\∃v,(results fn a'.tmps).run P Ω'.w=.ok v Ω'.w/\∃pub' e',(∀b pv u,A.pan=some (b,pv,u)→b=false)/\V ⟨e',Ω'.w,pub'⟩ A.val v/\After w pub e (ah (ct S A.upd)) Ω'.w pub' e':=by
    rintro ⟨hpan,hend⟩
    refine ⟨h3.defers,?_⟩
    have hpan':∀b pv u,A.pan=some (b,pv,u)→b=false:=by
     intro b pv u hpa
     rw [hpa] at hpan
     exact hpan
    unfold Ao at hend
    split at hend
    ·rename_i x hres
     obtain ⟨us,k1,k2⟩:=fU hT h3 _ _ hres
     obtain ⟨u,rfl⟩:=lN (by rw [←k2.1];rfl)
     obtain ⟨Ω2,e2,hh2⟩:=eE (s:=⟨[(0,x)],s'.b⟩) (h3.retmp k2) (jh hend)
     refine ⟨u,by simpa using hmap [u] k1,Ω2.pub,Ω2.e,hpan',?_,?_⟩
     ·have:=hh2.tmps 0
      rw [←e2]
      exact this
     ·rw [←e2]
      exact lM hh2
    ·rename_i l hne hres
     split at hend
     ·rename_i rs hval
      split at hend
      ·rename_i hln
       have hl2:=bN _ _ hln
       obtain ⟨us,k1,k2⟩:=fU hT h3 _ _ hres
       obtain ⟨Ω2,e2,hh2⟩:=eE (s:=⟨eU 0 l,s'.b⟩) (h3.retmp k2) (jh hend)
       have hsz:¬us.toArray.size=1:=by
        intro h1
        obtain ⟨x,hx⟩:=lN (l:=l) (by rw [k2.1];simpa using h1)
        exact hne x hx
       refine ⟨.tuple us.toArray,?_,Ω2.pub,Ω2.e,hpan',?_,?_⟩
       ·rw [hmap us k1,dif_neg hsz]
       ·rw [hval]
        refine .tup rs us (by rw [←k2.1,←hl2]) (fun j c v hc hv=>?_)
        have:=hh2.tmps j
        simp only [St.abs,iO,Nat.zero_le,if_true,Nat.sub_zero,List.getD_eq_getElem?_getD,hc,Option.getD_some] at this
        have e3:(us.toArray++Array.replicate 0 undef).getD j undef=v:=by
         simp [Array.getD_eq_getD_getElem?,hv]
        rw [e3,] at this
        rw [←e2]
        exact this
       ·rw [←e2]
        exact lM hh2
      ·exact hend.elim
     ·exact hend.elim
    ·exact hend.elim
   cases z with
   | normal=>cases h1;exact key h4
   | exit id=>exact h4.elim
   | ret=>cases h1;exact key h4
   | pan pv=>
    obtain ⟨v,rfl,hv⟩:=h1
    simp only at h4
    split at h4
    ·rename_i b pv' pu hpa
     obtain ⟨hbt,hend⟩:=h4
     subst hbt
     obtain ⟨Ω2,e2,hh2⟩:=eE (s:=⟨[(0,pv)],s'.b⟩) (h3.retmp (VL.cons hv .nil)) (jh hend)
     refine ⟨h3.defers,Ω2.pub,Ω2.e,pv',pu,v,hpa,rfl,?_,?_⟩
     ·have:=hh2.tmps 0
      rw [←e2]
      exact this
     ·rw [←e2]
      exact lM hh2
    ·exact h4.elim
end
end Go.AL
end
noncomputable section
namespace Go.AL
variable [Tabs]
theorem TRok.mk' {P:Program} {t:Nat} {r:TR}
  (h1:(P.info? t).map (fun i=>(i.size,i.bytes,i.zero.map fun z=>z.cells.toList.map bH))=some (r.size,r.bytes,some r.zero))
  (h2:(P.underlying t).map (aA P r.ti)=some true)
  (h3:(eI r.zero r.size && (Nat.beq r.size 0 || Nat.blt 0 r.bytes) && (match r.ty with | some τ=>Nat.beq (a8 τ) r.size && (Cs τ ==r.isAgg) | none=>true))=true)
  (h8:(P.info? t).map (fun i=>i.zero.map fun z=>vu z ==r.isAgg)=some (some true))
  (h9:(match r.ti with | .strct true _=>!P.stoodInHeld t && !P.eqGuardType P.depth t | _=>true)=true):TRok P t r:=by
 simp only [Bool.and_eq_true,Bool.or_eq_true,Nat.beq_eq,Nat.blt_eq] at h3
 obtain ⟨⟨h5,h6⟩,h7⟩:=h3
 refine ⟨?_,bN _ _ h5,fun hz=>?_,?_,fun τ hτ=>?_,fun i z hi hz=>?_,fun fs hfs=>?_⟩
 ·cases hi:P.info? t with
  | none=>rw [hi] at h1;simp at h1
  | some i=>
   rw [hi] at h1
   simp only [Option.map_some,Xs,Prod.mk.injEq,Option.map_eq_some_iff] at h1
   obtain ⟨e1,e2,z,e3,e4⟩:=h1
   exact ⟨i,z,rfl,e1,e2,e3,e4⟩
 ·rcases h6 with h6 | h6
  ·omega
  ·exact h6
 ·cases hd:P.underlying t with
  | none=>rw [hd] at h2;simp at h2
  | some d=>
   rw [hd] at h2
   exact ⟨d,rfl,by simpa using h2⟩
 ·rw [hτ] at h7
  simpa using h7
 ·rw [hi] at h8
  simp [hz] at h8
  exact h8
 ·rw [hfs] at h9
  simpa using h9
theorem aH.nil {P:Program}:aH P []:=fun t r h=>by simp [qU,og] at h
theorem aH.cons {P:Program} {t:Nat} {r:TR} {l:List (Nat × TR)} (h:TRok P t r) (hl:aH P l):aH P ((t,r) ::l):=by
 intro t' r' h'
 simp only [qU,og] at h'
 by_cases e:t=t'
 ·subst e
  simp at h'
  subst h'
  exact h
 ·simp only [beq_iff_eq,e,if_false] at h'
  exact hl t' r' h'
theorem aV.mk' {P:Program} {f:Nat} {fn:Func} (h:P.funcs[f]?=some fn) (h2:(fn.body.isNone || (fn.name == "runtime.NumGoroutine"))=false):aV P f:=by
 simp only [Bool.or_eq_false_iff] at h2
 exact ⟨fn,h,h2.1,h2.2⟩
end Go.AL
end
noncomputable section
namespace Go.AL
def Wf (τ:Ty) (x:den τ):Prop:=∃Ω v,V Ω (inj τ x) v
def WfL (args:List AV):Prop:=∃Ω vs,VL Ω args vs
theorem Wf.int {k:IntKind} {n:Int} (h:Wf (.int k) n):k.min<=n/\n<=k.max:=letI:=oH;let ⟨_,_,h⟩:=h;h.int_inv.2
theorem Wf.i64 {n:Int} (h:Wf (.int .i64) n):-9223372036854775808<=n/\n<=9223372036854775807:=by
 have:=h.int
 simp [IntKind.min,IntKind.max,IntKind.signed,IntKind.bits] at this
 exact this
theorem Wf.str {s:Str} (h:Wf .str s):s.length<=9223372036854775807:=letI:=oH;let ⟨_,_,h⟩:=h;h.str_inv.2
theorem Wf.len {τ:Ty} {xs:List (den τ)} (h:Wf (.lst τ) xs):xs.length<=9223372036854775807:=by
 letI:=oH
 obtain ⟨Ω,v,h⟩:=h
 rcases h.lst_inv with ⟨h1,_,_⟩ | ⟨h1,_,_⟩ | ⟨b,off,cap,vals,hv,h1,h2,_⟩
 ·rw [h1];simp
 ·rw [h1];simp
 ·unfold aS at h2;omega
theorem VL.inj {Ω:Om} {τ:Ty} {x:den τ} {vs:List Value} (h:VL Ω (cells τ x) vs):∃v,V Ω (inj τ x) v:=by
 cases τ with
 | st n=>exact ⟨_,.st n x _ (V.of_agg h)⟩
 | int k=>match vs,h with | [v],h=>exact ⟨v,h.head⟩
 | bool=>match vs,h with | [v],h=>exact ⟨v,h.head⟩
 | str=>match vs,h with | [v],h=>exact ⟨v,h.head⟩
 | lst t=>match vs,h with | [v],h=>exact ⟨v,h.head⟩
 | pt n=>match vs,h with | [v],h=>exact ⟨v,h.head⟩
theorem Wf.mem {τ:Ty} {xs:List (den τ)} (h:Wf (.lst τ) xs) {x:den τ} (hx:x∈xs):Wf τ x:=by
 letI:=oH
 obtain ⟨Ω,v,h⟩:=h
 rcases h.lst_inv with ⟨h1,_,_⟩ | ⟨h1,_,_⟩ | ⟨b,off,cap,vals,hv,h1,h2,h3,h4,h5⟩
 ·rw [h1] at hx;simp at hx
 ·rw [h1] at hx;simp at hx
 ·obtain ⟨i,hi⟩:=List.getElem?_of_mem hx
  have:VL Ω (cells τ x) ((List.range (cells τ x).length).map (vals i)):=by
   refine ⟨by simp,fun j c v hc hv=>?_⟩
   have hj:j < (cells τ x).length:=by
    rcases Nat.lt_or_ge j (cells τ x).length with k | k
    ·exact k
    ·rw [List.getElem?_eq_none k] at hc;cases hc
   simp [hj] at hv
   subst hv
   exact h5 i x hi j c hc
  obtain ⟨v',hv'⟩:=this.inj
  exact ⟨Ω,v',hv'⟩
theorem Wf.cell {n:SN} {x:SD n} (h:Wf (.st n) x) (j:Nat) {τ:Ty} {y:den τ} (hc:(cells (.st n) x)[j]?=some (AL.inj τ y)):Wf τ y:=by
 obtain ⟨Ω,v,h⟩:=h
 cases h with
 | st _ _ v hv=>
  obtain ⟨vs,_,hl⟩:=hv.agg_inv
  have hj:j < vs.length:=by
   rw [←hl.1]
   rcases Nat.lt_or_ge j (cells (.st n) x).length with k | k
   ·exact k
   ·rw [List.getElem?_eq_none k] at hc;cases hc
  exact ⟨Ω,_,hl.2 j _ _ hc (List.getElem?_eq_getElem hj)⟩
theorem Wf.op_n {x:Opn} (h:Wf (.st .op) x):-9223372036854775808<=x.n/\x.n<=9223372036854775807:=(h.cell 1 (τ:=.int .i64) (y:=x.n) rfl).i64
theorem Wf.op_names {x:Opn} (h:Wf (.st .op) x):Wf (.lst .str) x.names:=(h.cell 3 (τ:=.lst .str) (y:=x.names) rfl)
theorem Wf.op_tos {x:Opn} (h:Wf (.st .op) x):Wf (.lst (.int .i64)) x.tos:=(h.cell 4 (τ:=.lst (.int .i64)) (y:=x.tos) rfl)
theorem Wf.chunk_ops {x:Chnk} (h:Wf (.st .chunk) x):Wf (.lst (.st .op)) x.ops:=(h.cell 1 (τ:=.lst (.st .op)) (y:=x.ops) rfl)
theorem WfL.cons {a:AV} {l:List AV} (h:WfL (a ::l)):(∃Ω v,V Ω a v)/\WfL l:=by
 obtain ⟨Ω,vs,h⟩:=h
 rcases h.cases with ⟨e,_⟩ | ⟨c,cs,v,vs',e,_,h1,h2⟩
 ·cases e
 ·cases e;exact ⟨⟨Ω,v,h1⟩,Ω,vs',h2⟩
theorem WfL.one {τ:Ty} {x:den τ} {l:List AV} (h:WfL (inj τ x ::l)):Wf τ x:=h.cons.1
theorem WfL.two {a:AV} {τ:Ty} {x:den τ} {l:List AV} (h:WfL (a ::inj τ x ::l)):Wf τ x:=h.cons.2.cons.1
theorem WfL.three {a b:AV} {τ:Ty} {x:den τ} {l:List AV} (h:WfL (a ::b ::inj τ x ::l)):Wf τ x:=h.cons.2.cons.2.cons.1
section
variable [Tabs]
variable {P:Program}
theorem bd.wf {f:Nat} {args:List AV} {S:List (Nat × SObj)} {A:Ans} (h:WfL args→bd P f args S A):bd P f args S A:=
 fun w pub e vs hp ht hv hs hd hi=>h ⟨_,vs,hv⟩ w pub e vs hp ht hv hs hd hi
theorem bd.args {f:Nat} {args args':List AV} {S:List (Nat × SObj)} {A:Ans} (ha:RdL args args') (h:bd P f args' S A):bd P f args S A:=
 fun w pub e vs hp ht hv hs hd hi=>h w pub e vs hp ht (hv.rd ha) hs hd hi
abbrev Pat:=List AV→List (Nat × SObj)→Option Ans
def fV:List (Nat × Pat)→Nat→Pat
 | [],_=>fun _ _=>none
 | (i,g) ::l,f=>fun args S=>
  match Nat.beq i f with
  | true=>(match g args S with | some A=>some A | none=>fV l f args S)
  | false=>fV l f args S
def an (P:Program) (f:Nat) (g:Pat):Prop:=
 ∀args S A,g args S=some A→(∀q,A.ob=some q→q)→(aI S).all bJ=true→aV P f/\bd P f args S A
theorem yR:bK P (fV []):=fun f args S A h=>by simp [fV] at h
theorem w4 {f:Nat} {g:Pat} {l:List (Nat × Pat)} (h:an P f g) (hl:bK P (fV l)):bK P (fV ((f,g) ::l)):=by
 intro f' args S A hA ho hk
 simp only [fV] at hA
 split at hA
 ·rename_i hb
  have e:f=f':=Nat.eq_of_beq_eq_true hb
  subst e
  split at hA
  ·rename_i A' hg
   simp at hA
   subst hA
   exact h args S A' hg ho hk
  ·exact hl f args S A hA ho hk
 ·exact hl f' args S A hA ho hk
def p1 (τ:Ty) (F:den τ→Ans):Pat
 | [a],[]=>(match arg τ a with | some a=>some (F a) | none=>none)
 | _,_=>none
def p2 (τ σ:Ty) (F:den τ→den σ→Ans):Pat
 | [a,b],[]=>(match arg τ a,arg σ b with | some a,some b=>some (F a b) | _,_=>none)
 | _,_=>none
def pf (τ:Ty) (n:Nat) (F:den τ→Ans):Pat
 | [a,.fn f []],[]=>(match Nat.beq f n with | true=>(match arg τ a with | some a=>some (F a) | none=>none) | false=>none)
 | _,_=>none
def p3 (τ σ ρ:Ty) (F:den τ→den σ→den ρ→Ans):Pat
 | [a,b,c],[]=>(match arg τ a,arg σ b,arg ρ c with | some a,some b,some c=>some (F a b c) | _,_,_=>none)
 | _,_=>none
theorem Rd.arg {τ:Ty} {a:AV} {x:den τ} (h:AL.arg τ a=some x):Rd a (inj τ x):=fun _ _ hv=>Az hv h
theorem bV {f:Nat} {τ:Ty} {F:den τ→Ans} (he:aV P f) (h:∀x,Wf τ x→(∀q,(F x).ob=some q→q)→bd P f [inj τ x] [] (F x)):an P f (p1 τ F):=by
 intro args S A hA ho _
 unfold p1 at hA
 split at hA
 ·split at hA
  ·rename_i x hx
   simp at hA
   subst hA
   exact ⟨he,bd.args (.cons (Rd.arg hx) .nil) (bd.wf fun hw=>h x hw.one ho)⟩
  ·cases hA
 ·cases hA
theorem eF {f:Nat} {τ σ:Ty} {F:den τ→den σ→Ans} (he:aV P f)
  (h:∀x y,Wf τ x→Wf σ y→(∀q,(F x y).ob=some q→q)→bd P f [inj τ x,inj σ y] [] (F x y)):an P f (p2 τ σ F):=by
 intro args S A hA ho _
 unfold p2 at hA
 split at hA
 ·split at hA
  ·rename_i x y hx hy
   simp at hA
   subst hA
   exact ⟨he,bd.args (.cons (Rd.arg hx) (.cons (Rd.arg hy) .nil)) (bd.wf fun hw=>h x y hw.one hw.two ho)⟩
  ·cases hA
 ·cases hA
theorem DB {f:Nat} {τ:Ty} {n:Nat} {F:den τ→Ans} (he:aV P f) (h:∀x,Wf τ x→(∀q,(F x).ob=some q→q)→bd P f [inj τ x,.fn n []] [] (F x)):an P f (pf τ n F):=by
 intro args S A hA ho _
 unfold pf at hA
 split at hA
 ·split at hA
  ·rename_i hb
   have e:=Nat.eq_of_beq_eq_true hb
   subst e
   split at hA
   ·rename_i x hx
    simp at hA
    subst hA
    exact ⟨he,bd.args (.cons (Rd.arg hx) (.cons (Rd.refl _) .nil)) (bd.wf fun hw=>h x hw.one ho)⟩
   ·cases hA
  ·cases hA
 ·cases hA
theorem DC {f:Nat} {τ σ ρ:Ty} {F:den τ→den σ→den ρ→Ans} (he:aV P f)
  (h:∀x y z,Wf τ x→Wf σ y→Wf ρ z→(∀q,(F x y z).ob=some q→q)→bd P f [inj τ x,inj σ y,inj ρ z] [] (F x y z)):an P f (p3 τ σ ρ F):=by
 intro args S A hA ho _
 unfold p3 at hA
 split at hA
 ·split at hA
  ·rename_i x y z hx hy hz
   simp at hA
   subst hA
   exact ⟨he,bd.args (.cons (Rd.arg hx) (.cons (Rd.arg hy) (.cons (Rd.arg hz) .nil))) (bd.wf fun hw=>h x y z hw.one hw.two hw.three ho)⟩
  ·cases hA
 ·cases hA
end
end Go.AL
end
noncomputable section
namespace Go.AL
theorem bS {α:Type} (l:List α) (k:Nat) (d:α) (h:k < l.length):l.drop k=l.getD k d ::l.drop (k+1):=by
 rw [List.drop_eq_getElem_cons h]
 simp [List.getD_eq_getElem?_getD,h]
theorem fW {α:Type} (l:List α) (k:Nat) (d:α) (h:k < l.length):l.getD k d∈l:=by
 simp [List.getD_eq_getElem?_getD,h]
theorem ag {n:Int} (h1:-9223372036854775808<=n) (h2:n<=9223372036854775807):inR .i64 n:=by
 constructor <;> simp [IntKind.min,IntKind.max,IntKind.signed,IntKind.bits] <;> omega
theorem kA {n m:Nat} (h1:n < m) (h2:m<=9223372036854775807):inR .i64 ((n:Int)+1):=ag (by omega) (by omega)
theorem jW {p:Prop} [Decidable p]:(decide p=true)=p:=by simp
theorem a7 {c p q:Prop} [Decidable c] (h1:c→p) (h2:¬c→q):if c then p else q:=by
 by_cases h:c
 ·rw [if_pos h];exact h1 h
 ·rw [if_neg h];exact h2 h
abbrev kI (α:Type):List α:=[]
theorem AO [Tabs] {P:Program} {C:Cfg} (hm:P.follows .mixedOrders=true) (hT:aH P C.tbl) (hS:bK P C.spec) {ann:An} {f:Nat} {fn:Func} (hf:P.funcs[f]?=some fn)
  {args:List AV} {S:List (Nat × SObj)} {A:Ans} {Q:Prop} (q:Q) (h:fwp C ann fn args S A=Q):bd P f args S A:=yQ hm hT hS hf (h.mpr q)
end Go.AL
end
noncomputable section
namespace Go.AL
variable [Tabs]
open Go.ChangeShapes Go.WideShapes Go.RowKit
def xK (w:World) (b o:Nat):Prop:=∃v,w.cell? ⟨b,o,none⟩=some v
def Om0 (w:World):Om:=⟨fun _=>none,w,xK w⟩
theorem yS {P:Program} {f:Nat} {args:List AV} (h:bd P f args [] (.ret (.bool true))) {w:World} {vs:List Value} (htab:∀b o v,Tabs.tab b o v→w.cell? ⟨b,o,none⟩=some v) (hobj:∀b x,Tabs.obj b x→w.heap[b]?=some x) (hv:VL (Om0 w) args vs) :
  Calls P f vs.toArray w fun e w'=>e=.returned (.bool true)/\RowKit.Below w.heap.size w w':=by
 refine Calls.mono (h w (xK w) (fun _=>none) vs (fun _ _ h=>h) ⟨fun b o v ht=>⟨⟨v,htab b o v ht⟩,htab b o v ht⟩,fun b x hx=>⟨hobj b x hx,fun o ⟨_,_,hc,_⟩=>by cases hc⟩⟩ hv (fun id o ho=>by simp [aD,aC] at ho) (fun _ _=>rfl) (fun i j c d b o hc=>by cases hc)) ?_
 intro e w' hq
 obtain ⟨pub',e',hq⟩:=hq
 cases e with
 | returned v=>
  obtain ⟨_,hv,ha⟩:=hq
  have:=hv.bool_inv
  subst this
  exact ⟨rfl,ha.os,ha.tape,ha.output,ha.size,fun b hb=>ha.block b hb fun o ⟨id,c,hc,_⟩=>by cases hc⟩
 | panicked ch=>
  obtain ⟨pv,u,v,hp,_⟩:=hq
  cases hp
 | outgrown=>exact hq.elim
section
variable {H:Type} {enc:TypeId × Value→H} {P:Program}
theorem kS (hl:laidOutB P=true) {W W':World} (hb:Below W.heap.size W W') {sp:Nat→Bool}:∀{ts:List TypeId} {vs:List Value} {ds:List (DataW H)} {p:List MemPlace},
  (∀t∈ts,P.readableRec t=true/\t < P.types.size)→DataW.TrodAll enc P W 0 (fun _=>true) true ts vs ds p→(∀x∈p,x.block < W.heap.size)→(∀x∈p,sp x.block=true)→DataW.TrodAll enc P W' 0 sp true ts vs ds p
 | [],_,_,_,_,h,_,_=>by
  obtain ⟨rfl,rfl,rfl⟩:=trodAll_nil h
  exact h
 | t ::ts,_,_,_,hr,h,hlt,hsp=>by
  obtain ⟨v,vs,d,ds,p,q,rfl,rfl,rfl,h1,h2⟩:=trodAll_cons h
  obtain ⟨r1,r2⟩:=hr t (by simp)
  exact ⟨p,q,WideElems.Trod_stays hl r1 r2 h1 (fun x hx=>hb.same (hlt x (by simp [hx]))) (fun x hx=>hsp x (by simp [hx])),
   kS hl hb (fun t ht=>hr t (by simp [ht])) h2 (fun x hx=>hlt x (by simp [hx])) (fun x hx=>hsp x (by simp [hx])),rfl⟩
theorem AP (hl:laidOutB P=true) {f:Func} {s:ChangeSpec} {apart fresh handsOn again:Bool} {W W':World} {args:Array Value} {ds gs:List (DataW H)} {before:List MemPlace} {tb:TypeId}
  (hr:∀t∈f.params.toList,P.readableRec t=true/\t < P.types.size) (hvars:s.vars=[]) (hfn:∀ds:List (DataW H),ds.length=f.params.size→s.fn H ds={results:=[.lit (.bool true)],args:=ds}) (hrt:f.resultTypes=#[tb]) (htb:P.underlying tb=some .bool)
  (hW:DataW.Whole enc P f.params.toList s.vars apart W args.toList ds gs before) (hb:Below W.heap.size W W'):s.post enc P f apart fresh handsOn again W args (.bool true) W':=by
 have hlt:∀p∈before,p.block < W.heap.size:=fun p hp=>hW.lt p hp
 have hW0:=hW
 obtain ⟨p,q,hA,hV,e,hz,hn⟩:=hW
 rw [hvars] at hV
 obtain ⟨rfl,rfl⟩:=trodVars_none hV
 rw [List.append_nil] at e
 subst e
 have hlen:ds.length=f.params.size:=by
  have:∀{ts:List TypeId} {vs:List Value} {ds:List (DataW H)} {p:List MemPlace},DataW.TrodAll enc P W 0 (fun _=>true) true ts vs ds p→ds.length=ts.length:=by
   intro ts
   induction ts with
   | nil=>intro vs ds p h;obtain ⟨rfl,rfl,rfl⟩:=trodAll_nil h;rfl
   | cons t ts ih=>intro vs ds p h;obtain ⟨v,vs,d,ds,p,q,rfl,rfl,rfl,h1,h2⟩:=trodAll_cons h;simp [ih h2]
  simpa using this hA
 have hf:=hfn ds hlen
 have hs:∀sp:Nat→Bool,(∀x∈before,sp x.block=true)→DataW.TrodAll enc P W' 0 sp true f.params.toList args.toList ds before:=fun sp hsp=>kS hl hb hr hA hlt hsp
 have hres:∀(b:Nat) (sp:Nat→Bool) (hd:Bool),DataW.TrodAll enc P W' b sp hd f.resultTypes.toList ((Value.bool true).resultList f.resultTypes.size) [.lit (.bool true)] []:=by
  intro b sp hd
  rw [hrt]
  exact trodAll_cons_mk (shut_bool htb true) trodAll_mk0
 have hvs:DataW.TrodVars enc P W' (fun b=>decide (b < W.heap.size)) s.vars [] []:=by rw [hvars];rfl
 refine ⟨ds,[],before,[],before,[],hW0,?_,?_,?_,World.keptBut_mono (fun x hx=>⟨hx,.inr (.inl hx)⟩) (hb.frame (·∈before)),fun _=>⟨?_,?_⟩⟩
 ·rw [List.append_nil,hf];exact hres _ _ _
 ·rw [List.append_nil,hf];exact hs _ fun x hx=>by simpa using hlt x hx
 ·rw [List.append_nil,hf];exact hvs
 ·intro j t r h1 h2
  rw [hrt] at h1 h2
  cases j with
  | zero=>
   simp at h1
   subst h1
   have:r=.bool true:=by
    simp [Value.resultList] at h2
    exact h2.symm
   subst this
   simp [Value.okWide,htb,Cell.okWide,Cell.ok]
  | succ j=>simp at h1
 ·refine ⟨[.lit (.bool true)]++ds,[],[]++before,⟨[]++before,[],trodAll_append (hs _ fun _ _=>rfl) (hres _ _ _),by rw [hvars];rfl,by simp,fun b off hp=>?_,fun ha=>by simpa using hn ha⟩,fun x hx _=>by simpa using hx⟩
  have hin:MemPlace.cell b off∈before:=by simpa using hp
  rw [hb.frozen (p:=⟨b,off,none⟩) (hlt _ hin)]
  exact hz b off hin
variable {w:World} {base:Nat} {sp:Nat→Bool} {held:Bool}
end
end Go.AL
end
noncomputable section
namespace Go.AL
variable [Tabs]
open Go.ChangeShapes Go.WideShapes Go.RowKit
variable {H:Type} {enc:TypeId × Value→H} {P:Program} {w:World} {base:Nat} {held:Bool}
structure ShapeAt (P:Program) (t:TypeId):Prop where
 ex:∃(f0 f1 f2 f3 f4:Field) (e:TypeId),P.underlying t=some (.struct #[f0,f1,f2,f3,f4])/\P.cellsOf t=5/\
  (f0.offset=0/\f1.offset=1/\f2.offset=2/\f3.offset=3/\f4.offset=4)/\
  (P.cellsOf f0.type=1/\P.cellsOf f1.type=1/\P.cellsOf f2.type=1/\P.cellsOf f3.type=1/\P.cellsOf f4.type=1)/\
  P.underlying f0.type=some (.int .i64)/\P.underlying f1.type=some .string/\P.underlying f2.type=some .string/\P.underlying f3.type=some (.slice e)/\P.underlying e=some .string/\P.cellsOf e=1/\P.underlying f4.type=some (.slice t)
structure ItemAt (P:Program) (t:TypeId):Prop where
 ex:∃(f0 f1 f2:Field),P.underlying t=some (.struct #[f0,f1,f2])/\P.cellsOf t=7/\(f0.offset=0/\f1.offset=1/\f2.offset=2)/\
  (P.cellsOf f0.type=1/\P.cellsOf f1.type=1/\P.cellsOf f2.type=5)/\P.underlying f0.type=some (.int .i64)/\P.underlying f1.type=some .string/\ShapeAt P f2.type
end Go.AL
end
noncomputable section
namespace Go.AL
open Go.ChangeShapes Go.WideShapes Go.RowKit
abbrev pI (w:World):Tabs:=⟨fun b o v=>b < 4/\w.cell? ⟨b,o,none⟩=some v,fun b x=>b < 4/\w.heap[b]?=some x⟩
variable [Tabs]
variable {H:Type} {enc:TypeId × Value→H} {P:Program} {w:World} {base:Nat} {held:Bool}
structure TokAt (P:Program) (t:TypeId):Prop where
 ex:∃(f0 f1 f2:Field),P.underlying t=some (.struct #[f0,f1,f2])/\P.cellsOf t=3/\(f0.offset=0/\f1.offset=1/\f2.offset=2)/\
  (P.cellsOf f0.type=1/\P.cellsOf f1.type=1/\P.cellsOf f2.type=1)/\P.underlying f0.type=some (.int .i64)/\P.underlying f1.type=some .string/\P.underlying f2.type=some (.int .i64)
theorem AQ {t:TypeId} (ht:P.underlying t=some .string) {r:Reach} {b0:Nat} {v:Value} {d:DataW H} {ps:List MemPlace} (hv:Value.okWide P w r b0 t v) (h:DataW.Trod enc P w base (fun _=>true) held t v d ps):∃s:Str,V (Om0 w) (.str s) v:=by
 obtain ⟨s,rfl,_,_,hw⟩:=Go.ChangeMaps.open_string ht hv h
 have e:s=⟨s.data.toList.toArray⟩:=by cases s;simp
 have hl:s.data.toList.length<=aS:=by
  have:s.data.size=s.size:=rfl
  unfold maxLen at hw
  unfold aS
  simp only [Array.length_toList,this]
  omega
 have:=V.str (Ω:=Om0 w) s.data.toList hl
 rw [←e] at this
 exact ⟨_,this⟩
end Go.AL
end
noncomputable section
namespace Go.AL
open Go.ChangeShapes Go.WideShapes Go.RowKit
variable [Tabs]
variable {H:Type} {enc:TypeId × Value→H} {P:Program} {w:World} {base:Nat} {held:Bool}
structure BindAt (P:Program) (t:TypeId):Prop where
 ex:∃(f0 f1 f2:Field),P.underlying t=some (.struct #[f0,f1,f2])/\P.cellsOf t=7/\(f0.offset=0/\f1.offset=1/\f2.offset=2)/\
  (P.cellsOf f0.type=1/\P.cellsOf f1.type=1/\P.cellsOf f2.type=5)/\P.underlying f0.type=some .string/\P.underlying f1.type=some .string/\ShapeAt P f2.type
structure EnvAt (P:Program) (t:TypeId):Prop where
 ex:∃(f0 f1 f2 f3:Field) (e:TypeId),P.underlying t=some (.struct #[f0,f1,f2,f3])/\P.cellsOf t=4/\(f0.offset=0/\f1.offset=1/\f2.offset=2/\f3.offset=3)/\
  (P.cellsOf f0.type=1/\P.cellsOf f1.type=1/\P.cellsOf f2.type=1/\P.cellsOf f3.type=1)/\P.underlying f0.type=some .string/\
  (P.underlying f1.type=some (.slice e)/\P.underlying f2.type=some (.slice e)/\P.underlying f3.type=some (.slice e))/\BindAt P e
end Go.AL
end
noncomputable section
namespace Go.AL
variable [Tabs]
theorem aX.blk {Ω:Om} {own:Nat→Nat→Prop} {id:Nat} {ob:SObj} (hs:aX Ω own id ob) {c:CObj} (hc:Ω.e id=some c) {b o:Nat} (hb:occ c b o):b < Ω.w.heap.size:=by
 cases ob with
 | box x=>
  obtain ⟨b',off,he,hh⟩:=hs
  rw [he] at hc
  simp only [Xs] at hc
  subst hc
  obtain ⟨rfl,h1,h2⟩:=hb
  have hj:o - off < (aa x).length:=by omega
  obtain ⟨_,_,_,v,hv,_⟩:=hh (o - off) _ (List.getElem?_eq_getElem hj)
  exact aN hv
 | tail τ n=>
  obtain ⟨base,cap,he,_,_,_,hb'⟩:=hs
  rw [he] at hc
  simp only [Xs] at hc
  subst hc
  obtain ⟨_,vs,ty,fz,hh,_⟩:=hb' b hb
  exact bG hh
 | grow τ n xs=>
  obtain ⟨base,cap,he,_,_,_,hb'⟩:=hs
  rw [he] at hc
  simp only [Xs] at hc
  subst hc
  obtain ⟨_,⟨vs,ty,fz,hh,_⟩,_⟩:=hb' b hb
  exact bG hh
 | map κ τ m=>
  obtain ⟨r,he,_,es,clock,hh,_⟩:=hs
  rw [he] at hc
  simp only [Xs] at hc
  subst hc
  have:b=r:=hb
  subst this
  exact bG hh
 | bld t u l=>
  obtain ⟨b0,g,he,_,hh⟩:=hs
  rw [he] at hc
  simp only [Xs] at hc
  subst hc
  exact hh.lt hb
 | tailp τ n x=>
  obtain ⟨b0,cap,he,_,_,_,⟨vs,ty,fz,hh,_⟩,_⟩:=hs
  rw [he] at hc
  simp only [Xs] at hc
  subst hc
  have:b0=b:=by simpa [occ] using hb
  subst this
  exact bG hh
def pJ (e:Nat→Option CObj) (k b o:Nat):Prop:=∃c,e k=some c/\occ c b o
theorem After.slot {w w':World} {pub:Nat→Nat→Prop} {e:Nat→Option CObj} {S:List (Nat × SObj)}
  (hp:jK w pub) (hs:∀id o,ah S id=some o→aX ⟨e,w,pub⟩ (fun _ _=>True) id o) (hd:∀id,ah S id=none→e id=none) (hi:Inj e)
  {k:Nat} {obj:SObj} {c:CObj} {Q:Nat→Nat→Prop}
  (os:w'.os=w.os) (tape:w'.tape=w.tape) (output:w'.output=w.output) (size:w.heap.size<=w'.heap.size)
  (block:∀b,b < w.heap.size→(∀o,¬pJ e k b o)→w'.heap[b]?=w.heap[b]?)
  (cell:∀b o,b < w.heap.size→¬pJ e k b o→w'.cell? ⟨b,o,none⟩=w.cell? ⟨b,o,none⟩)
  (kind:∀b,b < w.heap.size→¬(∀o,pJ e k b o)→w'.shape? b=w.shape? b/\∀o,w'.frozen? ⟨b,o,none⟩=w.frozen? ⟨b,o,none⟩)
  (hpub:∀b o,pub b o→w'.cell? ⟨b,o,none⟩=w.cell? ⟨b,o,none⟩)
  (hQ:∀b o,Q b o→w.heap.size<=b/\∃v,w'.cell? ⟨b,o,none⟩=some v)
  (hle:∀c0,e k=some c0→CLe c0 c) (hnew:∀b o,occ c b o→w.heap.size<=b∨pJ e k b o)
  (hobj:Ext ⟨e,w,pub⟩ ⟨fun i=>if k=i then some c else e i,w',fun b o=>pub b o∨Q b o⟩→
   aX ⟨fun i=>if k=i then some c else e i,w',fun b o=>pub b o∨Q b o⟩ (fun b o=>w.heap.size<=b∨kH e b o) k obj) :
  After w pub e (ah (ct S [(k,obj)])) w' (fun b o=>pub b o∨Q b o) (fun i=>if k=i then some c else e i):=by
 have blk:∀{id c b o},e id=some c→occ c b o→b < w.heap.size:=by
  intro id c b o hc ho
  cases hg:ah S id with
  | none=>rw [hd id hg] at hc;cases hc
  | some ob=>exact (hs id ob hg).blk (Ω:=⟨e,w,pub⟩) hc ho
 have hx:Ext ⟨e,w,pub⟩ ⟨fun i=>if k=i then some c else e i,w',fun b o=>pub b o∨Q b o⟩:=by
  refine ⟨fun id c' hc'=>?_,fun b o h=>Or.inl h,fun b o h=>hpub b o h⟩
  by_cases hid:k=id
  ·subst hid;exact ⟨c,by simp,hle c' hc'⟩
  ·exact ⟨c',by simp only [if_neg hid];exact hc',CLe.refl _⟩
 have toL:∀{b o},pJ e k b o→kH e b o:=fun ⟨c,h1,h2⟩=>⟨k,c,h1,h2⟩
 have stay:∀{id c' b o},k≠id→e id=some c'→occ c' b o→¬pJ e k b o:=by
  rintro id c' b o hid hc ho ⟨c0,h1,h2⟩
  exact hid (hi k id c0 c' b o h1 hc h2 ho)
 refine ⟨os,tape,output,size,fun b hb h=>block b hb fun o ho=>h o (toL ho),fun b o hb h=>cell b o hb fun ho=>h (toL ho),
  fun b hb h=>kind b hb fun ho=>h fun o=>toL (ho o),hx,fun b o h=>?_,fun b o h=>?_,fun id o h=>?_,fun id h=>?_,?_⟩
 ·rcases h with h | h
  ·exact Or.inl h
  ·exact Or.inr (Or.inl (hQ b o h).1)
 ·rcases h with h | h
  ·obtain ⟨v,hv⟩:=hp b o h;exact ⟨v,(hpub b o h).trans hv⟩
  ·exact (hQ b o h).2
 ·rw [iM,fP] at h
  by_cases hid:k=id
  ·subst hid
   simp only [if_true] at h
   cases h
   exact hobj hx
  ·simp only [if_neg hid] at h
   have h0:=hs id o h
   refine aX.own_of (aX.keep h0 hx (by simp only [if_neg hid]) fun c' hc'=>?_) (fun c' b o hc ho=>?_)
   ·have hc':e id=some c':=hc'
    cases c' with
    | box b off len=>
     intro oo h1 h2
     have ho:occ (.box b off len) b oo:=⟨rfl,h1,h2⟩
     refine ⟨cell b oo (blk hc' ho) (stay hid hc' ho),(kind b (blk hc' ho) fun hall=>stay hid hc' ho (hall oo)).2 oo,fun hp'=>?_⟩
     rcases hp' with hp' | hp'
     ·exact hp'
     ·have:=(hQ _ _ hp').1;have:=blk hc' ho;omega
    | tail n base cap=>
     intro b hb
     have ho:∀oo,occ (.tail n base cap) b oo:=fun _=>hb
     refine ⟨block b (blk hc' (ho 0)) fun oo=>stay hid hc' (ho oo),fun oo hp'=>?_⟩
     rcases hp' with hp' | hp'
     ·exact hp'
     ·have:=(hQ _ _ hp').1;have:=blk hc' (ho 0);omega
    | obj r=>
     have ho:∀oo,occ (.obj r) r oo:=fun _=>rfl
     exact block r (blk hc' (ho 0)) fun oo=>stay hid hc' (ho oo)
    | bld b g=>
     intro b' hb'
     have ho:∀oo,occ (.bld b g) b' oo:=fun _=>hb'
     refine ⟨block b' (blk hc' (ho 0)) fun oo=>stay hid hc' (ho oo),fun oo hp'=>?_⟩
     rcases hp' with hp' | hp'
     ·exact hp'
     ·have:=(hQ _ _ hp').1;have:=blk hc' (ho 0);omega
   ·simp only [if_neg hid] at hc
    exact Or.inr ⟨id,c',hc,ho⟩
 ·rw [iM,fP] at h
  by_cases hid:k=id
  ·simp [hid] at h
  ·simp only [if_neg hid] at h ⊢
   exact hd id h
 ·intro i j ci cj b o hci hcj hoi hoj
  simp only at hci hcj
  by_cases h1:k=i <;> by_cases h2:k=j
  ·omega
  ·simp only [if_pos h1,if_neg h2,Xs] at hci hcj
   subst hci
   rcases hnew b o hoi with h | h
   ·have:=blk hcj hoj;omega
   ·exact absurd h (stay h2 hcj hoj)
  ·simp only [if_neg h1,if_pos h2,Xs] at hci hcj
   subst hcj
   rcases hnew b o hoj with h | h
   ·have:=blk hci hoi;omega
   ·exact absurd h (stay h1 hci hoi)
  ·simp only [if_neg h1,if_neg h2] at hci hcj
   exact hi i j ci cj b o hci hcj hoi hoj
theorem After.fresh1 {w w':World} {pub:Nat→Nat→Prop} {e:Nat→Option CObj} {S:List (Nat × SObj)}
  (hp:jK w pub) (hs:∀id o,ah S id=some o→aX ⟨e,w,pub⟩ (fun _ _=>True) id o) (hd:∀id,ah S id=none→e id=none) (hi:Inj e)
  {k:Nat} {obj:SObj} {c:CObj} (hb:RowKit.Below w.heap.size w w') (hk:ah S k=none) (hnew:∀b o,occ c b o→w.heap.size<=b)
  (hobj:aX ⟨fun i=>if k=i then some c else e i,w',fun b o=>pub b o∨False⟩ (fun b o=>w.heap.size<=b∨kH e b o) k obj) :
  After w pub e (ah (ct S [(k,obj)])) w' (fun b o=>pub b o∨False) (fun i=>if k=i then some c else e i):=
 After.slot hp hs hd hi (Q:=fun _ _=>False) hb.os hb.tape hb.output hb.size (fun b h _=>hb.block b h) (fun b o h _=>af (hb.block b h) o)
  (fun b h _=>⟨aQ (hb.block b h),fun o=>aG (hb.block b h) o⟩)
  (fun b o h=>by obtain ⟨v,hv⟩:=hp b o h;exact af (hb.block b (aN hv)) o)
  (fun _ _ h=>h.elim) (fun c0 h=>by rw [hd k hk] at h;cases h) (fun b o h=>Or.inl (hnew b o h)) (fun _=>hobj)
theorem VL.one_inv {Ω:Om} {a:AV} {vs:List Value} (h:VL Ω [a] vs):∃v,vs=[v]/\V Ω a v:=by
 obtain ⟨hl,h⟩:=h
 match vs,hl,h with
 | [v],_,h=>exact ⟨v,rfl,h 0 a v rfl rfl⟩
theorem VL.two_inv {Ω:Om} {a b:AV} {vs:List Value} (h:VL Ω [a,b] vs):∃v u,vs=[v,u]/\V Ω a v/\V Ω b u:=by
 obtain ⟨hl,h⟩:=h
 match vs,hl,h with
 | [v,u],_,h=>exact ⟨v,u,rfl,h 0 a v rfl rfl,h 1 b u rfl rfl⟩
end Go.AL
end
noncomputable section
namespace Go.AL
variable [Tabs]
open Go.Proofs Go.Shelf Go.RowKit
variable {P:Program} {ρ:Ren}
structure But (w w':World) (b:Nat) (g:Option Nat):Prop where
 os:w'.os=w.os
 tape:w'.tape=w.tape
 output:w'.output=w.output
 size:w.heap.size<=w'.heap.size
 block:∀k,k < w.heap.size→k≠b→g≠some k→w'.heap[k]?=w.heap[k]?
theorem But.refl (w:World) (b:Nat) (g:Option Nat):But w w b g:=⟨rfl,rfl,rfl,Nat.le_refl _,fun _ _ _ _=>rfl⟩
theorem But.drew {w w':World} {b:Nat} {g:Option Nat} (h:But w w' b g):But w w'.drew b g:=⟨h.os,h.tape,h.output,h.size,h.block⟩
theorem But.set {w w':World} {b:Nat} {g:Option Nat} (h:But w w' b g) (o:Nat) (v:Value):But w (w'.setCell ⟨b,o,none⟩ v) b g:=
 ⟨h.os,h.tape,h.output,by simpa using h.size,fun k h1 h2 h3=>(Below.heap_setCell w' ⟨b,o,none⟩ v k h2).trans (h.block k h1 h2 h3)⟩
theorem But.grown {w w' w2:World} {b:Nat} {g:Option Nat} (h:But w w' b g) (k:w'.grownBy w2 g):But w w2 b g:=
 ⟨k.os.trans h.os,k.tape.trans h.tape,k.output.trans h.output,Nat.le_trans h.size k.size,fun j h1 h2 h3=>(k.block j (Nat.lt_of_lt_of_le h1 h.size) fun e=>h3 e.symm).trans (h.block j h1 h2 h3)⟩
theorem But.freeze {w w':World} {b g:Nat} (h:But w w' b (some g)) (n:Nat):But w (w'.freeze ⟨g,0,none⟩ n) b (some g):=by
 unfold World.freeze
 split
 ·exact h
 ·refine ⟨h.os,h.tape,h.output,by simpa using h.size,fun k h1 h2 h3=>?_⟩
  simp only [Array.getElem?_modify]
  rw [if_neg (fun e=>h3 (by rw [e]))]
  exact h.block k h1 h2 h3
theorem qH (s:Str):Lib.strCells ⟨s.toArray⟩=Lib.byteCells s:=by
 simp [Lib.strCells,Lib.byteCells]
structure CC (P:Program) (ρ:Ren):Prop where
 enters:∀args w,(callFunc (ρ.f 240) args).run P w=.ok (.enter (ρ.f 240) args) w
 used:∀(b:Nat) (w:World),w.cell? ⟨b,0,none⟩=some (.pointer (some ⟨b,0,none⟩))→Calls P (ρ.f 240) #[.pointer (some ⟨b,0,none⟩)] w fun e w'=>e=.returned (.tuple #[])/\w'=w
 fresh:∀(b:Nat) (w:World),w.cell? ⟨b,0,none⟩=some (.pointer none)→w.shape? b=some ((ρ.t 72),2)→w.frozen? ⟨b,0,none⟩=false→
  Calls P (ρ.f 240) #[.pointer (some ⟨b,0,none⟩)] w fun e w'=>e=.returned (.tuple #[])/\w'=w.setCell ⟨b,0,none⟩ (.pointer (some ⟨b,0,none⟩))
structure WL (P:Program) (ρ:Ren):Prop where
 mixed:P.follows .mixedOrders=true
 f166:P.funcs[ρ.f 166]?=some (Body.n166 ρ)
 t3:P.underlying (ρ.t 3)=some (TypeDesc.int IntKind.i64)
 a3:∀w,(isAgg (ρ.t 3)).run P w=.ok false w
 z3:∀w,(Go.sizeOf (ρ.t 3)).run P w=.ok 1 w
 v3:∀w,(zeroValue (ρ.t 3)).run P w=.ok (Value.int IntKind.i64 0) w
 t9:P.underlying (ρ.t 9)=some (TypeDesc.string)
 a9:∀w,(isAgg (ρ.t 9)).run P w=.ok false w
 z9:∀w,(Go.sizeOf (ρ.t 9)).run P w=.ok 1 w
 v9:∀w,(zeroValue (ρ.t 9)).run P w=.ok (Value.string {data:=#[]}) w
 t37:P.underlying (ρ.t 37)=some (TypeDesc.slice (ρ.t 5))
 a37:∀w,(isAgg (ρ.t 37)).run P w=.ok false w
 z37:∀w,(Go.sizeOf (ρ.t 37)).run P w=.ok 1 w
 v37:∀w,(zeroValue (ρ.t 37)).run P w=.ok (Value.slice none 0 0) w
 t70:P.underlying (ρ.t 70)=some (TypeDesc.pointer (ρ.t 72))
 a70:∀w,(isAgg (ρ.t 70)).run P w=.ok false w
 z70:∀w,(Go.sizeOf (ρ.t 70)).run P w=.ok 1 w
 v70:∀w,(zeroValue (ρ.t 70)).run P w=.ok (Value.pointer none) w
 t72:P.underlying (ρ.t 72)=some (TypeDesc.struct #[{name:= "addr",type:=ρ.t 70,offset:=0,embedded:=false,tag:= "",pkgPath:= "strings",byteOffset:=0},{name:= "buf",type:=ρ.t 37,offset:=1,embedded:=false,tag:= "",pkgPath:= "strings",byteOffset:=8}])
 a72:∀w,(isAgg (ρ.t 72)).run P w=.ok true w
 z72:∀w,(Go.sizeOf (ρ.t 72)).run P w=.ok 2 w
 v72:∀w,(zeroValue (ρ.t 72)).run P w=.ok (Value.agg #[Value.pointer none,Value.slice none 0 0]) w
set_option maxHeartbeats 2000000 in
set_option maxRecDepth 100000 in
theorem qI (C:CC P ρ) (b:Nat) (g:Option Nat) (l:Str) (w:World) (h:iI w (ρ.t 72) (ρ.t 5) b g l) :
  Calls P (ρ.f 240) #[.pointer (some ⟨b,0,none⟩)] w fun e w'=>e=.returned (.tuple #[])/\But w w' b g/\
   ∃v,v.ownBlock=g/\w'.heap[b]?=some (.cells #[.pointer (some ⟨b,0,none⟩),v] (ρ.t 72) (0,0))/\w'.ownsRowF 0 (ρ.t 5) 1 v l.length (Lib.byteCells l)/\g≠some b/\(l=[]→v=.slice none 0 0):=by
 obtain ⟨p,v,h1,h2,h3,h4,h5,h6⟩:=h
 rcases h2 with rfl | rfl
 ·refine (C.fresh b w (by rw [Lib.cell_of_heap h1];rfl) (by simp [World.shape?,h1]) (Lib.frozen_of_heap h1 0)).mono ?_
  rintro e w' ⟨rfl,rfl⟩
  have hA:Lib.BuilderAtF (ρ.t 72) (ρ.t 5) 0 b (.pointer none) (Lib.byteCells l) w:=⟨Nat.zero_le _,v,h1,by rwa [Lib.byteCells_length],by rw [h3];exact h4⟩
  obtain ⟨_,v',k1,k2,k3⟩:=hA.used (.pointer (some ⟨b,0,none⟩))
  have hv:v'=v:=by
   have e1:(w.setCell ⟨b,0,none⟩ (.pointer (some ⟨b,0,none⟩))).cell? ⟨b,1,none⟩=some v':=by rw [Lib.cell_of_heap k1];rfl
   have e2:w.cell? ⟨b,1,none⟩=some v:=by rw [Lib.cell_of_heap h1];rfl
   have e3:(w.setCell ⟨b,0,none⟩ (.pointer (some ⟨b,0,none⟩))).cell? ⟨b,1,none⟩=w.cell? ⟨b,1,none⟩:=by
    simp [World.cell?,World.setCell,h1,Array.getElem?_modify]
   rw [e3,e2] at e1
   exact (Option.some.inj e1).symm
  subst hv
  exact ⟨rfl,(But.refl w b g).set 0 _,v',h3,k1,by rwa [Lib.byteCells_length] at k2,h4,h6⟩
 ·refine (C.used b w (by rw [Lib.cell_of_heap h1];rfl)).mono ?_
  rintro e w' ⟨rfl,rfl⟩
  exact ⟨rfl,But.refl _ _ _,v,h3,h1,h5,h4,h6⟩
theorem sQ {w:World} (t u ty e:TypeId) (i:TypeInfo) (ht:P.underlying t=some (.slice e)) (hu:P.underlying u=some .string) (hi:P.info? e=some i) (hz:i.zero=some (.int .u8 0))
  (hsize:i.size=1) (hby:i.bytes=1) (v:Value) (n:Nat) (xs:List Value) (hown:w.ownsRowF 0 e 1 v n xs) (s:ByteArray)
  (h63:n+s.size<=maxLen) (hbytes:n+s.size<=140737488355328) {v':Value} {w':World} (hr:(Builtin.append_ #[t,u] ty #[v,.string s]).run P w=.ok v' w') :
  ∀k,v'.ownBlock=some k→v.ownBlock=some k∨w.heap.size<=k:=by
 intro k hk
 rcases hown.2 with ⟨rfl,rfl⟩ | ⟨g,cap,cur,fz,rfl,hbg,hg,hfz,hnc,hcm,hcs,htake⟩
 ·obtain ⟨v2,w2,h1,h2,_,_⟩:=Lib.run_append_own_string (P:=P) w w.heap.size t u ty e i ht hu hi hz hsize hby (.slice none 0 0) 0 xs ⟨hown.1,.inl ⟨rfl,rfl⟩⟩ s h63 hbytes (Nat.le_refl _)
  rw [hr] at h1
  cases h1
  exact .inr (h2.lt k hk).1
 ·have hsmall:n+s.size<=9223372036854775807:=by simp only [maxLen] at h63;omega
  by_cases hroom:n+s.size<=cap
  ·have hcs':cur.size=cap:=by simpa using hcs
   have h1:=Lib.run_append_room_stringF (P:=P) w t u ty e i ht hu hi hsize g n cap cur fz hg (by simpa using hfz) s hroom (by omega)
   rw [hr] at h1
   cases h1
   exact .inl hk
  ·have hxl:xs.length=n:=by simpa using hown.1
   have holds:∀j u,xs[j]?=some u→w.cell? ((⟨g,0,none⟩:Addr).add j)=some u:=hown.cells (g:=g) rfl
   have h1:=Lib.run_append_grow_string (P:=P) w t u ty e i (.int .u8 0) ht hu hi hz ⟨g,0,none⟩ n cap xs (by rw [hsize];simpa using hxl) holds s (by omega) (by omega) (by rw [hby];exact growslice_fits (by omega) (by omega))
   rw [hr] at h1
   cases h1
   cases hk
   exact .inr (Nat.le_refl _)
theorem lP {ops:Array Oper} {rest:List Oper} {o:Oper} {a:Act} {w:World} {Q:Exit→Act→World→Prop} (hgd:o.guard=none) (sl x:Operand) (t u:TypeId)
  (ho:o.op=.call {callee:=.builtin .append,args:=#[sl,x],argTypes:=#[t,u]})
  (e:TypeId) (i:TypeInfo) (ht:P.underlying t=some (.slice e)) (hu:P.underlying u=some .string) (hi:P.info? e=some i) (hz:i.zero=some (.int .u8 0))
  (hsize:i.size=1) (hby:i.bytes=1)
  (v:Value) (n:Nat) (xs:List Value) (hs:a.eval sl=v) (hown:w.ownsRowF 0 e 1 v n xs) (s:ByteArray) (hx:a.eval x=.string s)
  (h63:n+s.size<=maxLen) (hbytes:n+s.size<=140737488355328)
  (h:∀v' w',w'.ownsRowF 0 e 1 v' (n+s.size) (xs++Lib.strCells s)→w.grownBy w' v.ownBlock→(v'=.slice none 0 0↔v=.slice none 0 0/\s.size=0)→(∀k,v'.ownBlock=some k→v.ownBlock=some k∨w.heap.size<=k)→wpList P ops Q rest (a.put o.dst v') w'):wpList P ops Q (o ::rest) a w:=by
 refine wpList_plain hgd fun K hK=>?_
 obtain ⟨v',w',hr,h2,h3,h4⟩:=Lib.run_append_own_stringF (P:=P) w 0 t u o.type e i ht hu hi hz hsize hby v n xs hown s h63 hbytes (Nat.zero_le _)
 have hw:=sQ t u o.type e i ht hu hi hz hsize hby v n xs hown s h63 hbytes hr
 unfold Oper.wp execOp
 simp only [ho,resolve,invoke,builtin,Sem.run_bind,Sem.run_pure,Result.andThen_ok,List.map_toArray,List.map_cons,List.map_nil,hs,hx,hr]
 exact hK _ _ (h v' w' h2 h3 h4 hw)
set_option maxHeartbeats 2000000 in
set_option maxRecDepth 100000 in
theorem nG (L:WL P ρ) (C:CC P ρ) (X:Builder.Extra P ρ) (b:Nat) (g:Option Nat) (l s:Str) (w:World) (h:iI w (ρ.t 72) (ρ.t 5) b g l) (hlen:l.length+s.length<=140737488355328) :
  Calls P (ρ.f 166) #[.pointer (some ⟨b,0,none⟩),.string ⟨s.toArray⟩] w fun e w'=>e=.returned (.tuple #[.int .i64 s.length,.nilIface])/\But w w' b g/\
   ∃g',iI w' (ρ.t 72) (ρ.t 5) b g' (l++s)/\∀k,g'=some k→g=some k∨w.heap.size<=k:=by
 obtain ⟨i0,hi,hz0,hz1,hz2⟩:=info_parts X.infoByte
 have mixed:=L.mixed
 have t72:=L.t72;have a72:=L.a72;have z72:=L.z72;have v72:=L.v72;have u72:=run_underlying L.t72
 have t70:=L.t70;have a70:=L.a70;have z70:=L.z70;have v70:=L.v70;have u70:=run_underlying L.t70
 have t37:=L.t37;have a37:=L.a37;have z37:=L.z37;have v37:=L.v37;have u37:=run_underlying L.t37
 have t3:=L.t3;have a3:=L.a3;have z3:=L.z3;have v3:=L.v3;have u3:=run_underlying L.t3
 have t9:=L.t9;have a9:=L.a9;have z9:=L.z9;have v9:=L.v9;have u9:=run_underlying L.t9
 have t5:=X.t5;have a5:=X.a5;have z5:=X.z5;have v5:=X.v5;have u5:=run_underlying X.t5
 have e240:=C.enters
 have hss:(⟨s.toArray⟩:ByteArray).size=s.length:=by simp [ByteArray.size]
 rw [←hss]
 rw [←hss] at hlen
 go_enter L.f166,Body.n166_ntmps ρ
 go_wp2_with (go_at_fn (ρ.f 240);refine (qI C b g l _ h).mono ?_)
 rintro e w1 ⟨rfl,hb1,v,hvg,hbk,hown,hne,hem⟩
 have c0:w1.cell? ⟨b,0,none⟩=some (.pointer (some ⟨b,0,none⟩)):=by rw [Lib.cell_of_heap hbk];rfl
 have c1:w1.cell? ⟨b,1,none⟩=some v:=by rw [Lib.cell_of_heap hbk];rfl
 go_wp2_with (at_builtin;refine lP rfl _ _ (ρ.t 37) (ρ.t 9) rfl (ρ.t 5) i0 L.t37 L.t9 hi hz0 hz1 hz2 _ _ _ rfl hown ⟨s.toArray⟩ rfl ?c3 ?c4 ?_)
 case c3=>unfold maxLen;omega
 case c4=>omega
 intro v' w2 hown' hgrow hnil hwh
 have hlt:b < w1.heap.size:=(Array.getElem?_eq_some_iff.1 hbk).1
 have hb2:w2.heap[b]?=some (.cells #[.pointer (some ⟨b,0,none⟩),v] (ρ.t 72) (0,0)):=by
  rw [hgrow.block b hlt (fun e=>hne (hvg ▸ e.symm))]
  exact hbk
 have d0:w2.cell? ⟨b,0,none⟩=some (.pointer (some ⟨b,0,none⟩)):=by rw [Lib.cell_of_heap hb2];rfl
 have d1:w2.cell? ⟨b,1,none⟩=some v:=by rw [Lib.cell_of_heap hb2];rfl
 have f1:w2.frozen? ⟨b,1,none⟩=false:=Lib.frozen_of_heap hb2 1
 obtain ⟨ao,n',cap,rfl⟩:∃ao n' cap,v'=.slice ao n' cap:=by
  rcases hown'.2 with ⟨hv,_⟩ | ⟨g,cap,cur,fz,hv,_⟩
  ·exact ⟨_,_,_,hv⟩
  ·exact ⟨_,_,_,hv⟩
 go_wp2
 go_ret2
 have hcat:Lib.byteCells l++Lib.strCells ⟨s.toArray⟩=Lib.byteCells (l++s):=by rw [qH];simp [Lib.byteCells]
 have hA:Lib.BuilderAtF (ρ.t 72) (ρ.t 5) 0 b (.pointer (some ⟨b,0,none⟩)) (Lib.byteCells (l++s)) (w2.setCell ⟨b,1,none⟩ (.slice ao n' cap)):=
  Lib.BuilderAtF.put (T:=(ρ.t 72)) (e:=(ρ.t 5)) (Nat.zero_le _) hb2 (bs':=Lib.byteCells (l++s)) (by rw [←hcat,List.length_append,Lib.byteCells_length,Lib.strCells_length];exact hown') X.neB5
 refine ⟨rfl,(hb1.grown (hvg ▸ hgrow)).set 1 _,?_⟩
 obtain ⟨_,v2,k1,k2,k3⟩:=hA
 have hv2:v2=.slice ao n' cap:=by
  have e1:(w2.setCell ⟨b,1,none⟩ (.slice ao n' cap)).cell? ⟨b,1,none⟩=some v2:=by rw [Lib.cell_of_heap k1];rfl
  have e3:(w2.setCell ⟨b,1,none⟩ (.slice ao n' cap)).cell? ⟨b,1,none⟩=some (.slice ao n' cap):=by
   simp [World.cell?,World.setCell,hb2,Array.getElem?_modify]
  rw [e3] at e1
  exact (Option.some.inj e1).symm
 subst hv2
 refine ⟨_,⟨_,_,k1,.inr rfl,rfl,k3,by rwa [Lib.byteCells_length] at k2,fun e=>hnil.2 ⟨hem (List.append_eq_nil_iff.1 e).1,by rw [(List.append_eq_nil_iff.1 e).2]⟩⟩,fun k hk=>?_⟩
 rcases hwh k hk with h' | h'
 ·exact .inl (hvg ▸ h')
 ·exact .inr (Nat.le_trans hb1.size h')
set_option maxHeartbeats 2000000 in
set_option maxRecDepth 100000 in
theorem w5 (L:Lays.n169 P ρ) (X:Builder.Extra P ρ) (b:Nat) (g:Option Nat) (l:Str) (w:World) (h:iI w (ρ.t 72) (ρ.t 5) b g l) :
  Calls P (ρ.f 169) #[.pointer (some ⟨b,0,none⟩)] w fun e w'=>e=.returned (.string ⟨l.toArray⟩)/\But w w' b g/\iI w' (ρ.t 72) (ρ.t 5) b g l:=by
 obtain ⟨p,v,hbk,hp,hvg,hne,hown,hem⟩:=h
 by_cases h0:l=[]
 ·obtain rfl:=hem h0
  subst h0
  refine (Any.Builder_String_nil L X w.heap.size b p w hbk).mono ?_
  rintro e w' ⟨rfl,hb⟩
  have hlt:b < w.heap.size:=(Array.getElem?_eq_some_iff.1 hbk).1
  exact ⟨rfl,⟨hb.os,hb.tape,hb.output,hb.size,fun k hk _ _=>hb.block k hk⟩,p,_,(hb.block b hlt).trans hbk,hp,hvg,hne,World.ownsRowF_nil _ _ _ _,fun _=>rfl⟩
 have hl0:l.length≠0:=by simpa using h0
 obtain ⟨g',cap,cur,fz,rfl,hbg,hg,hfz,hnc,hcm,hcs,htake⟩:∃g cap cur fz,v=.slice (some ⟨g,0,none⟩) l.length cap/\0<=g/\w.heap[g]?=some (.cells cur (ρ.t 5) fz)/\fz.2<=l.length *1/\l.length<=cap/\cap<=maxLen/\cur.size=cap *1/\cur.toList.take (l.length *1)=Lib.byteCells l:=by
  rcases hown.2 with ⟨_,hz⟩ | ⟨g,cap,cur,fz,hv,r⟩
  ·exact absurd hz hl0
  ·exact ⟨g,cap,cur,fz,hv,r⟩
 obtain rfl:some g'=g:=hvg
 have c1:w.drew.cell? ⟨b,1,none⟩=some (.slice (some ⟨g',0,none⟩) l.length cap):=by
  have:w.drew.heap[b]?=some (.cells #[p,.slice (some ⟨g',0,none⟩) l.length cap] (ρ.t 72) (0,0)):=hbk
  rw [Lib.cell_of_heap this];rfl
 have hSD:(Builtin.unsafeSliceData_ #[(ρ.t 37)] (ρ.t 127) #[.slice (some ⟨g',0,none⟩) l.length cap]).run P w.drew=.ok (.pointer (some ⟨g',0,none⟩)) w.drew:=
  Lib.run_unsafeSliceData_row _ _ _ _ _ _ (by omega)
 have hUS:(Builtin.unsafeString_ #[(ρ.t 127),(ρ.t 3)] (ρ.t 9) #[.pointer (some ⟨g',0,none⟩),.int .i64 l.length]).run P w.drew=.ok (.string ⟨l.toArray⟩) (w.drew.freeze ⟨g',0,none⟩ l.length):=by
  refine Lib.run_unsafeString_row w.drew (ρ.t 127) (ρ.t 3) (ρ.t 9) (ρ.t 5) L.t127 X.cellsByte g' cur.size (by have hg':w.drew.heap[g']?=some (.cells cur (ρ.t 5) fz):=hg;simp [World.shape?,hg']) l h0 (by omega) (by unfold maxLen at hcm;omega) ?_
  intro j x hx
  have:=hown.cells (g:=g') rfl j (.int .u8 x.toNat) (by simp [Lib.byteCells,hx])
  exact this
 have hA:Lib.BuilderAtF (ρ.t 72) (ρ.t 5) 0 b p (Lib.byteCells l) w.drew:=⟨Nat.zero_le _,_,hbk,by rw [Lib.byteCells_length];exact hown,hne⟩
 have hF:=hA.froze (g:=g') (cap:=cap) (by rw [Lib.byteCells_length];exact c1)
 rw [Lib.byteCells_length] at hF
 have hbut:But w (w.drew.freeze ⟨g',0,none⟩ l.length) b (some g'):=(But.refl w b (some g')).drew.freeze _
 have hkeep:iI (w.drew.freeze ⟨g',0,none⟩ l.length) (ρ.t 72) (ρ.t 5) b (some g') l:=by
  obtain ⟨_,v2,k1,k2,k3⟩:=hF
  have hbg':b≠g':=fun e=>hne (by rw [e])
  have hv2:v2=.slice (some ⟨g',0,none⟩) l.length cap:=by
   have e1:(w.drew.freeze ⟨g',0,none⟩ l.length).cell? ⟨b,1,none⟩=some v2:=by rw [Lib.cell_of_heap k1];rfl
   have e2:(w.drew.freeze ⟨g',0,none⟩ l.length).heap[b]?=w.drew.heap[b]?:=by
    unfold World.freeze
    split
    ·rfl
    ·simp only [Array.getElem?_modify]
     rw [if_neg (fun e=>hbg' e.symm)]
   rw [af e2,c1] at e1
   exact (Option.some.inj e1).symm
  subst hv2
  exact ⟨p,_,k1,hp,rfl,hne,by rwa [Lib.byteCells_length] at k2,fun e=>absurd e h0⟩
 have mixed:=L.mixed
 have t72:=L.t72;have a72:=L.a72;have z72:=L.z72;have v72:=L.v72;have u72:=run_underlying L.t72
 have t70:=L.t70;have a70:=L.a70;have z70:=L.z70;have v70:=L.v70;have u70:=run_underlying L.t70
 have t37:=L.t37;have a37:=L.a37;have z37:=L.z37;have v37:=L.v37;have u37:=run_underlying L.t37
 have t127:=L.t127;have a127:=L.a127;have z127:=L.z127;have v127:=L.v127;have u127:=run_underlying L.t127
 have t3:=L.t3;have a3:=L.a3;have z3:=L.z3;have v3:=L.v3;have u3:=run_underlying L.t3
 have t9:=L.t9;have a9:=L.a9;have z9:=L.z9;have v9:=L.v9;have u9:=run_underlying L.t9
 have t5:=X.t5;have a5:=X.a5;have z5:=X.z5;have v5:=X.v5;have u5:=run_underlying X.t5
 go_enter L.f169,Body.n169_ntmps ρ
 go_wp2
 go_region_o
 all_goals (go_wp2;go_ret;exact ⟨rfl,hbut,hkeep⟩)
theorem After.bld {w w':World} {pub:Nat→Nat→Prop} {e:Nat→Option CObj} {S:List (Nat × SObj)}
  (hp:jK w pub) (hs:∀id o,ah S id=some o→aX ⟨e,w,pub⟩ (fun _ _=>True) id o) (hd:∀id,ah S id=none→e id=none) (hi:Inj e)
  {k b:Nat} {g g':Option Nat} {t u t' u':Nat} {l l':Str} (hk:ah S k=some (.bld t u l)) (he:e k=some (.bld b g)) (hb:But w w' b g) (hB:iI w' t' u' b g' l') (hg:∀x,g'=some x→g=some x∨w.heap.size<=x) :
  After w pub e (ah (ct S [(k,.bld t' u' l')])) w' (fun b o=>pub b o∨False) (fun i=>if k=i then some (.bld b g') else e i):=by
 obtain ⟨b0,g0,he0,hown,_⟩:=hs k _ hk
 have he0:e k=some (.bld b0 g0):=he0
 rw [he] at he0
 cases he0
 have off:∀{b' o},¬pJ e k b' o→b'≠b/\g≠some b':=fun h=>⟨fun hb=>h ⟨_,he,.inl hb⟩,fun hg=>h ⟨_,he,.inr hg⟩⟩
 have hnew:∀b' o,occ (.bld b g') b' o→w.heap.size<=b'∨pJ e k b' o:=by
  intro b' o ho
  rcases ho with ho | ho
  ·exact .inr ⟨_,he,.inl ho⟩
  ·rcases hg b' ho with h | h
   ·exact .inr ⟨_,he,.inr h⟩
   ·exact .inl h
 refine After.slot hp hs hd hi (Q:=fun _ _=>False) hb.os hb.tape hb.output hb.size (fun b' h1 h2=>hb.block b' h1 (off (h2 0)).1 (off (h2 0)).2)
  (fun b' o h1 h2=>af (hb.block b' h1 (off h2).1 (off h2).2) o) (fun b' h1 h2=>?_) (fun b' o h=>?_) (fun _ _ h=>h.elim) (fun c0 h=>?_) hnew (fun _=>?_)
 ·obtain ⟨o,ho⟩:=Classical.not_forall.1 h2
  have:=hb.block b' h1 (off ho).1 (off ho).2
  exact ⟨aQ this,fun o=>aG this o⟩
 ·obtain ⟨v,hv⟩:=hp b' o h
  refine af (hb.block b' (aN hv) (fun e=>?_) (fun e=>?_)) o
  ·exact (hown b' (.inl e) o).2 h
  ·exact (hown b' (.inr e) o).2 h
 ·rw [he] at h
  cases h
  exact rfl
 ·refine ⟨b,g',by simp,fun b' hb' o=>⟨?_,fun h=>?_⟩,hB⟩
  ·rcases hnew b' o hb' with h | ⟨c,h1,h2⟩
   ·exact .inl h
   ·exact .inr ⟨k,c,h1,h2⟩
  ·rcases h with h | h
   ·have h:pub b' o:=h
    rcases hnew b' o hb' with h2 | ⟨c,h1,h2⟩
    ·obtain ⟨v,hv⟩:=hp b' o h
     have:=aN hv
     omega
    ·rw [he] at h1
     cases h1
     exact (hown b' h2 o).2 h
   ·exact h
theorem V.bptr_inv {Ω:Om} {id:Nat} {v:Value} (h:V Ω (.bptr id) v):∃b g,Ω.e id=some (.bld b g)/\v=.pointer (some ⟨b,0,none⟩):=by
 cases h with
 | bptr _ b g he=>exact ⟨b,g,he,rfl⟩
theorem lQ (L:WL P ρ) (C:CC P ρ) (X:Builder.Extra P ρ) (l s:Str) (hlen:l.length+s.length<=140737488355328) :
  bd P (ρ.f 166) [.bptr 900,.str s] [(900,.bld (ρ.t 72) (ρ.t 5) l)] ⟨some (l.length+s.length<=140737488355328),none,.tup [.int .i64 s.length,.nilif],[(900,.bld (ρ.t 72) (ρ.t 5) (l++s))]⟩:=by
 intro w pub e vs hp ht hv hs hd hi
 obtain ⟨v1,v2,rfl,h1,h2⟩:=VL.two_inv hv
 obtain ⟨b,g,he,rfl⟩:=h1.bptr_inv
 have he:e 900=some (.bld b g):=he
 obtain ⟨rfl,hsl⟩:v2=.string ⟨s.toArray⟩/\s.length<=aS:=by cases h2 with | str _ h=>exact ⟨rfl,h⟩
 obtain ⟨b0,g0,he0,hown,hB⟩:=hs 900 _ rfl
 have he0:e 900=some (.bld b0 g0):=he0
 rw [he] at he0
 cases he0
 refine (nG L C X b g l s w hB hlen).mono ?_
 rintro en w' ⟨rfl,hb,g',hB',hg'⟩
 refine ⟨_,_,fun _ _ _ h=>(by cases h),?_,After.bld hp hs hd hi rfl he hb hB' hg'⟩
 refine .tup _ [_,_] rfl fun j c v hc hv=>?_
 match j,hc,hv with
 | 0,hc,hv=>simp at hc hv;subst hc hv;obtain ⟨b1,b2⟩:=gh (n:=s.length) hsl;exact .int .i64 _ b1 b2
 | 1,hc,hv=>simp at hc hv;subst hc hv;exact .nilif
 | j+2,hc,hv=>simp at hc
theorem sR (L:Lays.n169 P ρ) (X:Builder.Extra P ρ) (l:Str) (hl:l.length<=aS) :
  bd P (ρ.f 169) [.bptr 900] [(900,.bld (ρ.t 72) (ρ.t 5) l)] ⟨some (l.length<=aS),none,.str l,[(900,.bld (ρ.t 72) (ρ.t 5) l)]⟩:=by
 intro w pub e vs hp ht hv hs hd hi
 obtain ⟨v1,rfl,h1⟩:=VL.one_inv hv
 obtain ⟨b,g,he,rfl⟩:=h1.bptr_inv
 have he:e 900=some (.bld b g):=he
 obtain ⟨b0,g0,he0,hown,hB⟩:=hs 900 _ rfl
 have he0:e 900=some (.bld b0 g0):=he0
 rw [he] at he0
 cases he0
 refine (w5 L X b g l w hB).mono ?_
 rintro en w' ⟨rfl,hb,hB'⟩
 exact ⟨_,_,fun _ _ _ h=>(by cases h),.str l hl,After.bld hp hs hd hi rfl he hb hB' (fun x h=>.inl h)⟩
def pK (t u:Nat):Pat:=fun args S=>
 match args,S with
 | [.bptr 900,.str s],[(900,.bld t' u' l)]=>if t'=t/\u'=u then some ⟨some (l.length+s.length<=140737488355328),none,.tup [.int .i64 s.length,.nilif],[(900,.bld t u (l++s))]⟩ else none
 | _,_=>none
def mG (t u:Nat):Pat:=fun args S=>
 match args,S with
 | [.bptr 900],[(900,.bld t' u' l)]=>if t'=t/\u'=u then some ⟨some (l.length<=aS),none,.str l,[(900,.bld t u l)]⟩ else none
 | _,_=>none
theorem ub {f t u:Nat} (L:WL P ρ) (C:CC P ρ) (X:Builder.Extra P ρ) (hf:ρ.f 166=f) (ht:ρ.t 72=t) (hu:ρ.t 5=u) (he:aV P f):an P f (pK t u):=by
 subst hf ht hu
 intro args S A h hob hkeys
 unfold pK at h
 split at h
 ·split at h
  ·rename_i e
   obtain ⟨rfl,rfl⟩:=e
   cases h
   exact ⟨he,lQ L C X _ _ (hob _ rfl)⟩
  ·cases h
 ·cases h
theorem sS {f t u:Nat} (L:Lays.n169 P ρ) (X:Builder.Extra P ρ) (hf:ρ.f 169=f) (ht:ρ.t 72=t) (hu:ρ.t 5=u) (he:aV P f):an P f (mG t u):=by
 subst hf ht hu
 intro args S A h hob hkeys
 unfold mG at h
 split at h
 ·split at h
  ·rename_i e
   obtain ⟨rfl,rfl⟩:=e
   cases h
   exact ⟨he,sR L X _ (hob _ rfl)⟩
  ·cases h
 ·cases h
end Go.AL
end
noncomputable section
namespace Go.AL
variable [Tabs]
open Go.Proofs Go.RowKit Go.Maps Go.Sort Go.Shelf
variable {P:Program} {ρ:Ren}
def dH {α:Type} (F:Fence) (n:Nat) (P:Program) (g:Nat) (lb:Array Value) (enc:α→Value) (S:List α→Prop) (N:Nat) (w:World):Prop:=
 ∀(l:Nat) (J:List α→World→Prop) (W:World),Below w.heap.size w W→AbidesFrom W.heap.size J→(∀pre W1,J pre W1→Below w.heap.size w W1)→
  (∀pre x W1,J pre W1→pre.length < N→YieldAt F (n - 1) P l #[enc x] W1 fun e W'=>e=.returned (.bool true)/\J (pre++[x]) W'/\KeepsWalks W1 W')→
  J [] W→
  CallsIn F n P g (#[.func (.yield l) #[] #[]]++lb) W fun e W'=>(∃v,e=.returned v)/\∃xs,S xs/\J xs W'
theorem dH.bounded {α:Type} {F:Fence} {n:Nat} {g:Nat} {lb:Array Value} {enc:α→Value} {S:List α→Prop} {N:Nat} {w:World}
  (h:dH F n P g lb enc S N w):dH F n P g lb enc (fun xs=>S xs/\xs.length<=N) N w:=fun l J W hW hJ hB hY h0=>by
 refine (h l (fun xs W'=>J xs W'/\xs.length<=N) W hW (fun s A B row hs hg hr=>⟨hJ s A B row hs.1 hg hr,hs.2⟩) (fun pre W1 h=>hB pre W1 h.1)
  (fun pre x W1 hj hl=>(hY pre x W1 hj.1 hl).mono (fun e w' hr=>⟨hr.1,⟨hr.2.1,by simp;omega⟩,hr.2.2⟩)) ⟨h0,Nat.zero_le _⟩).mono ?_
 rintro e W' ⟨hv,xs,hS,hJ',hlen⟩
 exact ⟨hv,xs,⟨hS,hlen⟩,hJ'⟩
set_option maxRecDepth 100000 in
set_option maxHeartbeats 2000000 in
theorem w6 (L:SlLaysZ.n11 P ρ) (F:Fence) (n:Nat) (h11:F.fn (ρ.f 11)) (hro:F.round=none) (hn:2<=n) (g:Nat) (lb:Array Value) (hFg:F.fn g) (eg:∀args w,(callFunc g args).run P w=.ok (.enter g args) w)
  (S:List (List UInt8)→Prop) (N:Nat) (hN:N<=maxLen) (hNb:N *16<=140737488355328) (w:World) (hseq:dH F (n - 1) P g lb encStr S N w) :
  CallsIn F n P (ρ.f 11) #[.slice none 0 0,.func (.func g) #[] lb] w fun e w'=>∃(v:Value) (ss:List (List UInt8)),e=.returned v/\S ss/\w'.ownsRow w.heap.size (ρ.t 26) 1 v ss.length (ss.map encStr)/\(v=.slice none 0 0↔ss=[])/\Below w.heap.size w w':=by
 have h1:1<=n:=by omega
 have mixed:=L.mixed;have t0:=L.t0;have a0:=L.a0;have z0:=L.z0;have v0:=L.v0;have t24:=L.t24;have a24:=L.a24;have z24:=L.z24;have v24:=L.v24;have t26:=L.t26;have a26:=L.a26;have z26:=L.z26;have v26:=L.v26;have t28:=L.t28;have a28:=L.a28;have z28:=L.z28;have v28:=L.v28
 have hne:ρ.t 24≠ρ.t 26:=fun e=>by have h:=L.t24;rw [e,L.t26] at h;cases h
 have u0:=run_underlying L.t0;have u24:=run_underlying L.t24;have u26:=run_underlying L.t26;have u28:=run_underlying L.t28
 obtain ⟨_,_,FG⟩:=L.f11
 refine callsIn_of_wp_marks FG rfl h11 ?_ hro
 simp only [SlBodyZ.n11_ntmps ρ,List.size_toArray,List.length_cons,List.length_nil,Nat.reduceAdd,Nat.reduceSub,Array.replicate_succ,Array.replicate_zero,List.push_toArray,List.append_toArray,List.nil_append,List.cons_append]
 gi_wp2
 refine wpIn_rangeFunc ?_
 intro fn hfn
 rw [hro]
 obtain ⟨W0,hW0⟩:∃W0,w.alloc (.cells #[.slice none 0 0] (ρ.t 24))=W0:=⟨_,rfl⟩
 have hs0:W0.heap.size=w.heap.size+1:=by rw [←hW0];simp
 have hv0:W0.heap[w.heap.size]?=some (.cells #[.slice none 0 0] (ρ.t 24) (0,0)):=by rw [←hW0];exact World.alloc_heap_new w _
 have hb0:Below w.heap.size w W0:=by rw [←hW0];exact (Below.refl _ w).alloc (Nat.le_refl _) _
 rw [hW0]
 obtain ⟨W1,hW1⟩:∃W1,(W0.alloc (.deferred (some []))).alloc (.loop (AnyZ.apRec ρ fn (.func (.func g) #[] lb) w.heap.size W0.heap.size .ready none))=W1:=⟨_,rfl⟩
 have hold:∀k,k < W0.heap.size→W1.heap[k]?=W0.heap[k]?:=fun k hk=>by
  rw [←hW1];exact (Below.heap_alloc _ _ k (by simp;omega)).trans (Below.heap_alloc _ _ k hk)
 have hb1:Below w.heap.size w W1:=by rw [←hW1];exact (hb0.alloc hb0.size _).alloc (by have:=hb0.size;simp;omega) _
 have hs1:W1.heap.size=W0.heap.size+2:=by rw [←hW1];simp
 have hM:AnyZ.ApAt ρ w fn (.func (.func g) #[] lb) w.heap.size (W0.heap.size+1) W0.heap.size [] W1:=
  ⟨⟨_,(hold w.heap.size (by omega)).trans hv0,⟨rfl,.inl ⟨rfl,rfl⟩⟩,by simp⟩,
   by rw [←hW1];have:=World.alloc_heap_new (W0.alloc (.deferred (some []))) (.loop (AnyZ.apRec ρ fn (.func (.func g) #[] lb) w.heap.size W0.heap.size .ready none));rwa [World.size_alloc] at this,
   by rw [←hW1];exact (Below.heap_alloc _ _ _ (by simp)).trans (World.alloc_heap_new W0 _),hb1⟩
 refine ⟨W0.heap.size+1,[{target:=.collected W0.heap.size,args:=#[]}],W1,{target:=.fn (.func g) lb,args:=#[.func (.yield (W0.heap.size+1)) #[] #[]]},W1,g,
  #[.func (.yield (W0.heap.size+1)) #[] #[]]++lb,W1,?_,?_,?_,?_,fun _=>h1,?_⟩
 ·rw [←hW1];exact run_enterLoop_outer _ _ _ _ _
 ·simp [resolve,go_sem]
 ·intro f' hf';simp [Target.leads] at hf';subst hf';exact hFg
 ·simp [invoke,go_sem,eg]
 ·refine (hseq (W0.heap.size+1) (AnyZ.ApAt ρ w fn (.func (.func g) #[] lb) w.heap.size (W0.heap.size+1) W0.heap.size) W1 hb1 (AnyZ.ap_abides ρ _ _ _ _ _ _ _ hb1.size) (fun _ _ h=>h.below)
   (fun pre x W hJ hl=>AnyZ.apYield {L with} F (n - 1 - 1) w fn hfn _ w.heap.size (W0.heap.size+1) W0.heap.size (by omega) (by omega) (by omega) (Nat.le_refl _) (by omega) N hN hNb pre x W hJ hl) hM).mono ?_
  rintro e W2 ⟨⟨v0,rfl⟩,ss,hS,h2⟩
  obtain ⟨v,hv,hrow,hnil⟩:=h2.box
  have hend:=run_endLoop (P:=P) h2.L (by simp [AnyZ.apRec])
  obtain ⟨W3,hW3⟩:∃W3,W2.putObj (W0.heap.size+1) (.loop {AnyZ.apRec ρ fn (.func (.func g) #[] lb) w.heap.size W0.heap.size .ready none with state:=.exhausted})=W3:=⟨_,rfl⟩
  rw [hW3] at hend
  have hg3:W2.grownBy W3 (some (W0.heap.size+1)):=by rw [←hW3];exact grownBy_putObj_a _ _ _
  have hv3:W3.heap[w.heap.size]?=some (.cells #[v] (ρ.t 24) (0,0)):=by rw [←hW3];exact (World.putObj_heap_other (by omega)).trans hv
  have hK3:W3.heap[W0.heap.size]?=some (.deferred (some [])):=by rw [←hW3];exact (World.putObj_heap_other (by omega)).trans h2.K
  have hrow3:=hrow.kept hg3 (ownsRow_ne_a hrow h2.L (fun cur e=>by first | cases e | exact hne (Obj.cells.inj e).2.1))
  have hb3:Below w.heap.size w W3:=h2.below.grown hg3 h2.below.size (fun k e=>by cases e;omega)
  obtain ⟨hc3,hf3⟩:=cell_of_box_a hv3
  clear hW3
  refine ⟨none,W3,hend,?_⟩
  gi_wp2
  rw [←hs0]
  refine ⟨by simp,.inl ⟨_,_,rfl,run_takeDeferred hK3,?_⟩⟩
  exact ⟨_,results_tmp rfl _ _ _,v,ss,rfl,hS,hrow3.kept (grownBy_putObj_a _ _ _) (ownsRow_ne_a hrow3 hK3 (fun cur e=>by first | cases e | exact hne (Obj.cells.inj e).2.1)),hnil,hb3.grown (grownBy_putObj_a _ _ _) hb3.size (fun k e=>by cases e;omega)⟩
set_option maxRecDepth 100000 in
set_option maxHeartbeats 2000000 in
theorem AR (L:SlLaysZ.n8 P ρ) (F:Fence) (n:Nat) (h8:F.fn (ρ.f 8)) (h11:F.fn (ρ.f 11)) (hro:F.round=none) (hn:3<=n) (g:Nat) (lb:Array Value) (hFg:F.fn g) (eg:∀args w,(callFunc g args).run P w=.ok (.enter g args) w)
  (S:List (List UInt8)→Prop) (N:Nat) (hN:N<=maxLen) (hNb:N *16<=140737488355328) (w:World) (hseq:dH F (n - 1 - 1) P g lb encStr S N w) :
  CallsIn F n P (ρ.f 8) #[.func (.func g) #[] lb] w fun e w'=>∃(v:Value) (ss:List (List UInt8)),e=.returned v/\S ss/\w'.ownsRow w.heap.size (ρ.t 26) 1 v ss.length (ss.map encStr)/\(v=.slice none 0 0↔ss=[])/\Below w.heap.size w w':=by
 have h1:1<=n:=by omega
 have e11:∀args w,(callFunc (ρ.f 11) args).run P w=.ok (.enter (ρ.f 11) args) w:=L.f11.enters rfl
 have mixed:=L.mixed;have t0:=L.t0;have a0:=L.a0;have z0:=L.z0;have v0:=L.v0;have t24:=L.t24;have a24:=L.a24;have z24:=L.z24;have v24:=L.v24;have t26:=L.t26;have a26:=L.a26;have z26:=L.z26;have v26:=L.v26;have t28:=L.t28;have a28:=L.a28;have z28:=L.z28;have v28:=L.v28
 have u0:=run_underlying L.t0;have u24:=run_underlying L.t24;have u26:=run_underlying L.t26;have u28:=run_underlying L.t28
 obtain ⟨_,_,FG⟩:=L.f8
 refine callsIn_of_wp FG rfl h8 ?_ hro
 simp only [SlBodyZ.n8_ntmps ρ,List.size_toArray,List.length_cons,List.length_nil,Nat.reduceAdd,Nat.reduceSub,Array.replicate_succ,Array.replicate_zero,List.push_toArray,List.append_toArray,List.nil_append,List.cons_append]
 gi_wp2_with (gi_at_fn (ρ.f 11);refine (w6 {L with} F (n - 1) h11 hro (by omega) g lb hFg eg S N hN hNb _ hseq).mono ?_;rintro e w' ⟨v,ss,rfl,hS,hrow,hnil,hb⟩)
 go_ret
 exact ⟨v,ss,rfl,hS,hrow,hnil,hb⟩
set_option maxRecDepth 100000 in
set_option maxHeartbeats 2000000 in
theorem CN (L:SlLaysZ.n6 P ρ) (F:Fence) (n:Nat) (h6:F.fn (ρ.f 6)) (h8:F.fn (ρ.f 8)) (h9:F.fn (ρ.f 9)) (h11:F.fn (ρ.f 11)) (hro:F.round=none) (hn:4<=n) (hsort:AnyZ.SortsIn P ρ F (n - 1)) (e9:∀args w,(callFunc (ρ.f 9) args).run P w=.ok (.enter (ρ.f 9) args) w) (g:Nat) (lb:Array Value) (hFg:F.fn g) (eg:∀args w,(callFunc g args).run P w=.ok (.enter g args) w)
  (S:List (List UInt8)→Prop) (N:Nat) (hN:N<=maxLen) (hNb:N *16<=140737488355328) (w:World) (hseq:dH F (n - 1 - 1 - 1) P g lb encStr S N w) :
  CallsIn F n P (ρ.f 6) #[.func (.func g) #[] lb] w fun e w'=>∃(v:Value) (ss:List (List UInt8)),e=.returned v/\S ss/\
   w'.ownsRow w.heap.size (ρ.t 26) 1 v ss.length ((ss.mergeSort (fun x y=>decide (x<=y))).map encStr)/\(v=.slice none 0 0↔ss=[])/\Below w.heap.size w w':=by
 have h1:1<=n:=by omega
 have e8:∀args w,(callFunc (ρ.f 8) args).run P w=.ok (.enter (ρ.f 8) args) w:=L.f8.enters rfl
 have mixed:=L.mixed;have t0:=L.t0;have a0:=L.a0;have z0:=L.z0;have v0:=L.v0;have t24:=L.t24;have a24:=L.a24;have z24:=L.z24;have v24:=L.v24;have t26:=L.t26;have a26:=L.a26;have z26:=L.z26;have v26:=L.v26;have t28:=L.t28;have a28:=L.a28;have z28:=L.z28;have v28:=L.v28
 have u0:=run_underlying L.t0;have u24:=run_underlying L.t24;have u26:=run_underlying L.t26;have u28:=run_underlying L.t28
 obtain ⟨_,_,FG⟩:=L.f6
 refine callsIn_of_wp FG rfl h6 ?_ hro
 simp only [SlBodyZ.n6_ntmps ρ,List.size_toArray,List.length_cons,List.length_nil,Nat.reduceAdd,Nat.reduceSub,Array.replicate_succ,Array.replicate_zero,List.push_toArray,List.append_toArray,List.nil_append,List.cons_append]
 gi_wp2_with (gi_at_fn (ρ.f 8);refine (AR {L with} F (n - 1) h8 h11 hro (by omega) g lb hFg eg _ N hN hNb _ (dH.bounded hseq)).mono ?_;rintro e W ⟨v,ss,rfl,⟨hS,hlen⟩,hrow,hnil,hb⟩)
 rcases hrow.2 with ⟨rfl,hz⟩ | ⟨gb,cap,cur,rfl,hbase,hgb,r1,r2,r3,r4⟩
 ·
  have hss:ss=[]:=List.eq_nil_of_length_eq_zero hz
  subst hss
  gi_wp2_with (gi_at_fn (ρ.f 9);refine (hsort.2 none 0 W).mono ?_;rintro e w' ⟨rfl,rfl⟩)
  go_ret
  exact ⟨.slice none 0 0,[],rfl,hS,by simpa using hrow,by simp,hb⟩
 ·have hH:Go.Sort.Holds encStr W gb 0 ss.toArray:=holds_of_block hgb (by simpa using r4)
  have hgl:gb < W.heap.size:=(Array.getElem?_eq_some_iff.1 hgb).1
  have hsz:ss.length < 4611686018427387904:=by omega
  have cS:=hsort.1 gb 0 cap ss W hH hgl hsz
  gi_wp2_with (gi_at_fn (ρ.f 9);refine cS.mono ?_;rintro e w' ⟨rfl,nn,os,rfl⟩)
  go_ret
  exact ⟨_,ss,rfl,hS,ownsRow_sorted (by simp) hbase hgb r1 r2 r3,hnil,hb.grown (grownBy_sorted _) hb.size (fun j hj=>by cases hj;exact hbase)⟩
theorem yT {f:Nat} {args:List AV} {S:List (Nat × SObj)} {ob:Option Prop} {T:TypeId} {ss:List Str} (hk:ah S 0=none)
  (hC:∀w pub e vs,jK w pub→VL ⟨e,w,pub⟩ args vs→(∀id o,ah S id=some o→aX ⟨e,w,pub⟩ (fun _ _=>True) id o)→
   (∀s∈ss,s.length<=aS)/\Calls P f vs.toArray w fun en w'=>∃v,en=.returned v/\w'.ownsRow w.heap.size T 1 v ss.length (ss.map encStr)/\Below w.heap.size w w') :
  bd P f args S ⟨ob,none,.arr 0 ss.length 1,[(0,.box (.row .str ss))]⟩:=by
 intro w pub e vs hp ht hv hs hd hi
 obtain ⟨hlen,hC⟩:=hC w pub e vs hp hv hs
 refine hC.mono ?_
 rintro en w' ⟨v,rfl,⟨hl,hrow⟩,hb⟩
 have hpl:(aa (.row .str ss)).length=ss.length:=by
  have:=aK .str ss
  rw [show a8 .str=1 from rfl,Nat.mul_one] at this
  exact this
 rcases hrow with ⟨rfl,hz⟩ | ⟨g,cap,cur,rfl,hbase,hg,h1,h2,h3,h4⟩
 ·have hss:ss=[]:=List.eq_nil_of_length_eq_zero hz
  subst hss
  refine ⟨_,_,fun _ _ _ h=>(by cases h),?_,After.fresh1 (c:=.box w.heap.size 0 0) hp hs hd hi hb hk (fun b o ho=>by obtain ⟨_,_,h⟩:=ho;omega) ⟨w.heap.size,0,by simp;rfl,fun j c' hc=>?_⟩⟩
  ·exact .arr 0 0 1 w.heap.size 0 0 none (by simp) (by omega) (by omega) (by unfold aS;omega) (.inr ⟨rfl,rfl,rfl⟩)
  ·simp [aa,flat] at hc
 ·refine ⟨_,_,fun _ _ _ h=>(by cases h),?_,After.fresh1 (c:=.box g 0 (aa (.row .str ss)).length) hp hs hd hi hb hk (fun b o ho=>by obtain ⟨rfl,_,_⟩:=ho;exact hbase) ⟨g,0,by simp,fun j c' hc=>?_⟩⟩
  ·exact .arr 0 ss.length 1 g (aa (.row .str ss)).length cap (some ⟨g,0,none⟩) (by simp) (by omega) h1 (by unfold maxLen at h2;unfold aS;omega) (.inl rfl)
  ·have hj:j < ss.length:=by
    rw [←hpl]
    rcases Nat.lt_or_ge j (aa (.row .str ss)).length with k | k
    ·exact k
    ·rw [List.getElem?_eq_none k] at hc;cases hc
   have hcx:=fM .str ss j ss[j] 0 (.str ss[j]) (by simp [hj]) rfl
   have hc0:(aa (.row .str ss))[j]?=some (.str ss[j]):=by rw [show j *a8 .str+0=j by rw [show a8 .str=1 from rfl];omega] at hcx;exact hcx
   rw [hc0] at hc
   cases hc
   have hcur:cur[j]?=some (encStr ss[j]):=by
    have:(cur.toList.take (ss.length *1))[j]?=some (encStr ss[j]):=by rw [h4];simp [hj]
    rw [List.getElem?_take] at this
    split at this
    ·simpa using this
    ·cases this
   refine ⟨.inl hbase,fun h=>?_,dV hg _,encStr ss[j],by rw [Nat.zero_add,ak hg];exact hcur,.str _ (hlen _ (List.getElem_mem hj))⟩
   rcases h with h | h
   ·obtain ⟨v,hv⟩:=hp _ _ h
    have:=aN hv
    omega
   ·exact h
def fh (l:List Str):List Str:=l.mergeSort fun x y=>decide (x<=y)
theorem lR (l:List Str):(fh l).length=l.length:=List.length_mergeSort _
theorem yU {l:List Str} {s:Str}:s∈fh l↔s∈l:=List.mem_mergeSort
structure SortL (P:Program) (ρ:Ren):Prop where
 lay:SlLaysZ.n6 P ρ
 sorts:AnyZ.SortsIn P ρ Fence.wide 4
 e9:∀args w,(callFunc (ρ.f 9) args).run P w=.ok (.enter (ρ.f 9) args) w
theorem sU (L:SortL P ρ) {g:Nat} {lb:Array Value} (eg:∀args w,(callFunc g args).run P w=.ok (.enter g args) w) {ks:List Str} (hN:ks.length *16<=140737488355328) {w:World}
  (hseq:dH Fence.wide 2 P g lb encStr (fun ss=>ss.Perm ks) ks.length w) :
  Calls P (ρ.f 6) #[.func (.func g) #[] lb] w fun en w'=>∃v,en=.returned v/\w'.ownsRow w.heap.size (ρ.t 26) 1 v (fh ks).length ((fh ks).map encStr)/\Below w.heap.size w w':=by
 refine callsIn_wide.1 ((CN L.lay Fence.wide 5 trivial trivial trivial trivial rfl (by omega) L.sorts L.e9 g lb trivial eg _ ks.length (by unfold maxLen;omega) hN w hseq).mono ?_)
 rintro en w' ⟨v,ss,rfl,hS,hrow,_,hb⟩
 have e:ss.mergeSort (fun x y=>decide (x<=y))=fh ks:=mergeSort_of_perm hS
 have hl:ss.length=(fh ks).length:=by rw [lR];exact hS.length_eq
 rw [e,hl] at hrow
 exact ⟨v,rfl,hrow,hb⟩
theorem V.fn_inv {Ω:Om} {f:Nat} {cs:List AV} {v:Value} (h:V Ω (.fn f cs) v):∃vs,v=.func (.func f) #[] vs.toArray/\VL Ω cs vs:=by
 cases h with
 | fn _ _ vs h1 h2=>exact ⟨vs,rfl,h1,h2⟩
def Strs (n₀:Nat) (W:World) (sv:Value) (zs:List Str):Prop:=
 ((∃a cap,sv=.slice a 0 cap)/\zs=[])∨∃b off cap,sv=.slice (some ⟨b,off,none⟩) zs.length cap/\b < n₀/\∀j,j < zs.length→W.cell? ⟨b,off+j,none⟩=some (encStr (zs[j]?.getD []))
def qJ {α:Type} (f:Nat→α) (k:Nat):List α:=(List.range k).map f
theorem yV {α:Type} (f:Nat→α) (k:Nat):qJ f (k+1)=qJ f k++[f k]:=by simp [qJ,List.range_succ]
theorem uc {α:Type} (f:Nat→α) (k:Nat):(qJ f k).length=k:=by simp [qJ]
theorem AT (zs:List Str):qJ (fun j=>zs[j]?.getD []) zs.length=zs:=by
 apply List.ext_getElem
 ·simp [qJ]
 ·intro i h1 h2
  simp [qJ,h2]
def sV (P:Program) (g:Nat):Prop:=
 ∀(w:World) (b o:Nat) (sv:Value) (zs:List Str),zs.length<=maxLen→w.cell? ⟨b,o,none⟩=some sv→Strs w.heap.size w sv zs→
  dH Fence.wide 2 P g #[.pointer (some ⟨b,o,none⟩)] encStr (fun ss=>ss=zs) zs.length w
theorem V.dropTok {Ω:Om} {τ:Ty} {xs:List (den τ)} {o:Option Nat} {v:Value} (h:V Ω (.lst τ xs o) v):V Ω (.lst τ xs none) v:=by
 cases h with
 | lstNil=>exact .lstNil τ none (fun _ h=>by cases h)
 | lstVoid _ a=>exact .lstVoid τ a
 | lst _ _ _ b off cap vals h1 h2 h3 h4 h5=>exact .lst τ xs none b off cap vals h1 h2 (fun _ h=>by cases h) h4 h5
theorem l9 (L:SortL P ρ) {g:Nat} (eg:∀args w,(callFunc g args).run P w=.ok (.enter g args) w) (K:sV P g) (zs:List Str) (hN:zs.length *16<=140737488355328) (tok:Option Nat) :
  bd P (ρ.f 6) [.fn g [.ptr 900 0]] [(900,.box (.lst .str zs tok))] ⟨some (zs.length *16<=140737488355328),none,.arr 0 (fh zs).length 1,[(0,.box (.row .str (fh zs)))]⟩:=by
 refine yT (T:=ρ.t 26) rfl fun w pub e vs hp hv hs=>?_
 obtain ⟨v1,rfl,h1⟩:=VL.one_inv hv
 obtain ⟨us,rfl,hus⟩:=h1.fn_inv
 obtain ⟨u,rfl,hu⟩:=VL.one_inv hus
 obtain ⟨b,o,len,rfl,he⟩:=hu.ptr_inv
 obtain ⟨b',o',he',hbox⟩:=hs 900 _ rfl
 rw [he] at he'
 cases he'
 obtain ⟨_,_,_,v,hcell,hvm⟩:=hbox 0 (.lst .str zs tok) rfl
 have hst:Strs w.heap.size w v zs:=by
  cases hvm with
  | lstNil=>exact .inl ⟨⟨_,_,rfl⟩,rfl⟩
  | lstVoid=>exact .inl ⟨⟨_,_,rfl⟩,rfl⟩
  | lst _ _ _ g0 off cap vals h1 h2 h3 h4 h5=>
   rcases Nat.eq_zero_or_pos zs.length with hz | hz
   ·have:=List.eq_nil_of_length_eq_zero hz
    subst this
    exact .inl ⟨⟨_,_,rfl⟩,rfl⟩
   ·have at_:∀j (hj:j < zs.length),w.cell? ⟨g0,off+j,none⟩=some (encStr zs[j]):=by
     intro j hj
     have q:=h4 j zs[j] (by simp [hj]) 0 (.str zs[j]) rfl
     have r:=h5 j zs[j] (by simp [hj]) 0 (.str zs[j]) rfl
     obtain ⟨r1,_⟩:=r.str_inv
     have:=q.2
     rw [r1] at this
     simpa [a8] using this
    exact .inr ⟨g0,off,cap,rfl,aN (at_ 0 hz),fun j hj=>by rw [at_ j hj];simp [hj]⟩
 refine ⟨fun s hs=>?_,?_⟩
 ·have hw:Wf (.lst .str) zs:=⟨_,_,V.dropTok hvm⟩
  exact (hw.mem (yU.1 hs)).str
 have hsq:=K w b (o+0) v zs (by unfold maxLen;omega) hcell hst
 refine sU L eg hN (w:=w) ?_
 intro l J W a1 a2 a3 a4 a5
 refine (hsq l J W a1 a2 a3 a4 a5).mono ?_
 rintro e W' ⟨h1,xs,rfl,h3⟩
 exact ⟨h1,xs,.refl _,h3⟩
end Go.AL
end
noncomputable section
namespace Go.AL
variable [Tabs]
open Go.Proofs Go.RowKit Go.Maps Go.Sort Go.Shelf
variable {P:Program} {ρ:Ren}
theorem After.row {w w':World} {pub:Nat→Nat→Prop} {e:Nat→Option CObj} {S:List (Nat × SObj)}
  (hp:jK w pub) (hs:∀id o,ah S id=some o→aX ⟨e,w,pub⟩ (fun _ _=>True) id o) (hd:∀id,ah S id=none→e id=none) (hi:Inj e)
  {k b:Nat} {c c':AV} (hk:ah S k=some (.box c)) (he:e k=some (.box b 0 (aa c).length)) (hl:(aa c').length=(aa c).length)
  (os:w'.os=w.os) (tape:w'.tape=w.tape) (output:w'.output=w.output) (size:w.heap.size<=w'.heap.size)
  (hblock:∀b',b' < w.heap.size→b'≠b∨(aa c).length=0→w'.heap[b']?=w.heap[b']?)
  (hcell:∀j,(aa c).length<=j→w'.cell? ⟨b,j,none⟩=w.cell? ⟨b,j,none⟩)
  (hkind:w'.shape? b=w.shape? b/\∀o,w'.frozen? ⟨b,o,none⟩=w.frozen? ⟨b,o,none⟩)
  (hval:∀(j:Nat) (c0:AV),(aa c')[j]?=some c0→∃v,w'.cell? ⟨b,j,none⟩=some v/\∀Ω',V Ω' c0 v) :
  After w pub e (ah (ct S [(k,.box c')])) w' (fun b o=>pub b o∨False) (fun i=>if k=i then some (.box b 0 (aa c).length) else e i):=by
 obtain ⟨b0,off0,he0,hbox⟩:=hs k _ hk
 have he0:e k=some (.box b0 off0 (aa c).length):=he0
 rw [he] at he0
 simp only [Xs,CObj.box.injEq] at he0
 obtain ⟨rfl,rfl,_⟩:=he0
 have inE:∀{o},o < (aa c).length→pJ e k b o:=fun h=>⟨_,he,rfl,by omega,by omega⟩
 have outE:∀{b' o},¬pJ e k b' o→b'≠b∨(aa c).length<=o:=by
  intro b' o h
  rcases Nat.lt_or_ge o (aa c).length with h' | h'
  ·exact .inl fun e=>h (e ▸ inE h')
  ·exact .inr h'
 have cell:∀b' o,b' < w.heap.size→¬pJ e k b' o→w'.cell? ⟨b',o,none⟩=w.cell? ⟨b',o,none⟩:=by
  intro b' o h1 h2
  by_cases hb:b'=b
  ·subst hb
   rcases outE h2 with h | h
   ·exact absurd rfl h
   ·exact hcell o h
  ·exact af (hblock b' h1 (.inl hb)) o
 refine After.slot hp hs hd hi (Q:=fun _ _=>False) os tape output size (fun b' h1 h2=>?_) cell (fun b' h1 h2=>?_) (fun b' o h=>?_) (fun _ _ h=>h.elim) (fun c0 h=>?_) (fun b' o h=>?_) (fun _=>?_)
 ·refine hblock b' h1 ?_
  rcases outE (h2 0) with h | h
  ·exact .inl h
  ·exact .inr (by omega)
 ·by_cases hb:b'=b
  ·subst hb;exact hkind
  ·have:=hblock b' h1 (.inl hb)
   exact ⟨aQ this,fun o=>aG this o⟩
 ·obtain ⟨v,hv⟩:=hp b' o h
  refine cell b' o (aN hv) ?_
  rintro ⟨c1,h1,h2⟩
  rw [he] at h1
  cases h1
  obtain ⟨rfl,_,h3⟩:=h2
  have hj:o < (aa c).length:=by omega
  have:=(hbox o _ (List.getElem?_eq_getElem hj)).2.1
  exact this (by simpa using h)
 ·rw [he] at h
  cases h
  exact ⟨rfl,rfl,rfl⟩
 ·exact .inr ⟨_,he,h⟩
 ·refine ⟨b,0,by simp [hl],fun j c0 hc=>?_⟩
  have hj:j < (aa c).length:=by
   rw [←hl]
   rcases Nat.lt_or_ge j (aa c').length with q | q
   ·exact q
   ·rw [List.getElem?_eq_none q] at hc;cases hc
  obtain ⟨_,q2,q3,_⟩:=hbox j _ (List.getElem?_eq_getElem hj)
  obtain ⟨v,hv,hV⟩:=hval j c0 hc
  rw [Nat.zero_add] at q2 q3 ⊢
  refine ⟨.inr ⟨k,_,he,rfl,by omega,by omega⟩,fun h=>?_,?_,v,hv,hV _⟩
  ·rcases h with h | h
   ·exact q2 h
   ·exact h
  ·exact (hkind.2 j).trans q3
theorem ud {α:Type} [Inhabited α] (enc:α→Value) (w:World) (b:Nat) (d:Array α) (k:Nat) (h:k≠b∨d.size=0):(putRow enc w b 0 d).heap[k]?=w.heap[k]?:=by
 unfold putRow mapBlock
 simp only [Array.getElem?_modify]
 by_cases hk:b=k
 ·subst hk
  rcases h with h | h
  ·exact absurd rfl h
  ·simp only [if_true]
   cases hw:w.heap[b]? with
   | none=>rfl
   | some o=>
    simp only [Option.map_some,Xs]
    cases o with
    | cells c e f=>
     simp only [onCells,Obj.cells.injEq,and_true,true_and]
     apply Array.ext
     ·simp [putCells]
     ·intro i h1 h2
      simp [putCells,h]
    | _=>rfl
 ·rw [if_neg hk]
theorem sW {α:Type} [Inhabited α] (enc:α→Value) (w:World) (b:Nat) (d:Array α):(putRow enc w b 0 d).shape? b=w.shape? b:=by
 unfold putRow mapBlock World.shape?
 simp only [Array.getElem?_modify,if_true]
 cases w.heap[b]? with
 | none=>rfl
 | some o=>cases o <;> simp [onCells,putCells]
theorem fC {τ:Ty} (hw:a8 τ=1) (xs:List (den τ)):(aa (.row τ xs)).length=xs.length:=by
 have:=aK τ xs
 rw [hw,Nat.mul_one] at this
 exact this
theorem jX {τ:Ty} (hw:a8 τ=1) (xs:List (den τ)) (j:Nat) (x:den τ) (c:AV) (hx:xs[j]?=some x) (hc:(cells τ x)[0]?=some c):(aa (.row τ xs))[j]?=some c:=by
 have:=fM τ xs j x 0 c hx hc
 rw [hw,Nat.mul_one,Nat.add_zero] at this
 exact this
theorem strRow {Ω:Om} {own:Nat→Nat→Prop} {id b:Nat} {ss:List Str} (h:aX Ω own id (.box (.row .str ss))) {len:Nat} (he:Ω.e id=some (.box b 0 len)) :
  len=ss.length/\Go.Sort.Holds encStr Ω.w b 0 ss.toArray/\∀s∈ss,s.length<=aS:=by
 obtain ⟨b',off,h1,h2⟩:=h
 rw [he] at h1
 simp only [Xs,CObj.box.injEq] at h1
 obtain ⟨rfl,rfl,h1⟩:=h1
 have at_:∀j (hj:j < ss.length),Ω.w.frozen? ⟨b,0+j,none⟩=false/\Ω.w.cell? ⟨b,0+j,none⟩=some (encStr ss[j])/\ss[j].length<=aS:=by
  intro j hj
  obtain ⟨_,_,q3,v,q4,q5⟩:=h2 j _ (jX (τ:=.str) rfl ss j ss[j] (.str ss[j]) (by simp [hj]) rfl)
  obtain ⟨rfl,q6⟩:=q5.str_inv
  exact ⟨q3,q4,q6⟩
 refine ⟨by rw [h1];exact fC (τ:=.str) rfl ss,fun j hj=>?_,fun s hs=>?_⟩
 ·have hj':j < ss.length:=by simpa using hj
  obtain ⟨q1,q2,_⟩:=at_ j hj'
  exact ⟨by rw [q2];simp [hj'],q1⟩
 ·obtain ⟨j,hj,rfl⟩:=List.getElem_of_mem hs
  exact (at_ j hj).2.2
theorem ue {ss:List Str} {s:Str} (h:s∈Lib.compact ss):s∈ss:=by
 unfold Lib.compact Lib.compactUpTo at h
 obtain ⟨j,hj,rfl⟩:=List.mem_map.1 h
 have:=(List.mem_filter.1 hj).1
 rw [List.mem_range] at this
 simp [this]
theorem After.strRow {w:World} {pub:Nat→Nat→Prop} {e:Nat→Option CObj} {S:List (Nat × SObj)}
  (hp:jK w pub) (hs:∀id o,ah S id=some o→aX ⟨e,w,pub⟩ (fun _ _=>True) id o) (hd:∀id,ah S id=none→e id=none) (hi:Inj e)
  {k b len q:Nat} {ss ts:List Str} {gs:Array Obj} (hk:ah S k=some (.box (.row .str ss))) (he:e k=some (.box b 0 len)) (hl:ts.length=ss.length) (hb:b < w.heap.size) (ht:∀s∈ts,s.length<=aS) :
  After w pub e (ah (ct S [(k,.box (.row .str ts))])) (grow (putRow encStr (Sort.ahead w q) b 0 ts.toArray) gs) (fun b o=>pub b o∨False) (fun i=>if k=i then some (.box b 0 (aa (.row .str ss)).length) else e i):=by
 obtain ⟨rfl,hH,_⟩:=AL.strRow (hs k _ hk) he
 have hsz:(putRow encStr (Sort.ahead w q) b 0 ts.toArray).heap.size=w.heap.size:=by simp
 have old:∀j,j < w.heap.size→(grow (putRow encStr (Sort.ahead w q) b 0 ts.toArray) gs).heap[j]?=(putRow encStr (Sort.ahead w q) b 0 ts.toArray).heap[j]?:=by
  intro j hj
  unfold grow
  simp only
  rw [Array.getElem?_append_left (by rw [hsz];exact hj)]
 have hpl:=fC (τ:=.str) rfl ss
 refine After.row hp hs hd hi hk (by rw [he,hpl]) (by rw [fC rfl,fC rfl,hl]) rfl rfl rfl (by simp [grow]) (fun b' h1 h2=>?_) (fun j hj=>?_) ⟨?_,fun o=>?_⟩ (fun j c0 hc=>?_)
 ·rw [old b' h1,ud encStr (Sort.ahead w q) b ts.toArray b' (by rw [hpl] at h2;simpa [hl] using h2)]
  rfl
 ·rw [af (old b hb) j,cell?_putRow_other encStr (Sort.ahead w q) b 0 ts.toArray ⟨b,j,none⟩ (.inr (.inr (by rw [hpl] at hj;simp;omega)))]
  rfl
 ·rw [aQ (old b hb),sW]
  rfl
 ·rw [aG (old b hb) o,frozen?_putRow]
  rfl
 ·have hj:j < ts.length:=by
   rw [←fC (τ:=.str) rfl ts]
   rcases Nat.lt_or_ge j (aa (.row .str ts)).length with q | q
   ·exact q
   ·rw [List.getElem?_eq_none q] at hc;cases hc
  rw [jX (τ:=.str) rfl ts j ts[j] (.str ts[j]) (by simp [hj]) rfl] at hc
  cases hc
  refine ⟨encStr ts[j],?_,fun Ω'=>.str _ (ht _ (List.getElem_mem hj))⟩
  rw [af (old b hb) j]
  have:=cell?_putRow encStr (Sort.ahead w q) b 0 ss.toArray ts.toArray hH (by simp [hl]) j (by simpa using hj)
  rw [Nat.zero_add] at this
  rw [this]
  simp [hj]
theorem qK (L:Lays.n194 P ρ) (n:Nat) (ss:List Str) (hn:n=ss.length) :
  bd P (ρ.f 194) [.arr 900 n 1] [(900,.box (.row .str ss))]
   ⟨some (n=ss.length),none,.arr 900 (Lib.compact ss).length 1,[(900,.box (.row .str (Lib.compact ss++List.replicate (ss.length - (Lib.compact ss).length) [])))]⟩:=by
 subst hn
 intro w pub e vs hp ht hv hs hd hi
 obtain ⟨v,rfl,h1⟩:=VL.one_inv hv
 have hcl:(Lib.compact ss).length<=ss.length:=by
  unfold Lib.compact Lib.compactUpTo
  rw [List.length_map]
  exact Nat.le_trans (List.length_filter_le _ _) (by simp)
 cases h1 with
 | arr _ _ _ b len cap a he h2 h3 h4 h5=>
  have he:e 900=some (.box b 0 len):=he
  obtain ⟨rfl,hH,hlen⟩:=strRow (hs 900 _ rfl) he
  have hpl:=fC (τ:=.str) rfl ss
  rcases h5 with rfl | ⟨rfl,hz,rfl⟩
  ·by_cases h0:ss=[]
   ·subst h0
    refine (Any.slices_Compact_string_empty L (some ⟨b,0,none⟩) cap w).mono ?_
    rintro en w' ⟨rfl,rfl⟩
    refine ⟨_,_,fun _ _ _ h=>(by cases h),?_,After.row (c':=.row .str []) hp hs hd hi rfl (show e 900=some (.box b 0 (aa (.row .str [])).length) from he) rfl rfl rfl rfl (Nat.le_refl _) (fun _ _ _=>rfl) (fun _ _=>rfl) ⟨rfl,fun _=>rfl⟩ (fun j c0 hc=>by simp [aa,flat] at hc)⟩
    exact .arr 900 0 1 b (aa (.row .str [])).length cap _ (by simp) (by omega) (by omega) h4 (.inl rfl)
   ·have hpos:0 < ss.length:=List.length_pos_iff.2 h0
    have hb:b < w.heap.size:=aN (hH 0 (by simpa using hpos)).1
    refine (Any.slices_Compact_string L b 0 cap ss w hH (by unfold aS at h4;omega) h3).mono ?_
    rintro en w' ⟨rfl,q,rfl⟩
    have hA:=After.strRow (q:=q) (gs:=#[]) (ts:=Lib.compact ss++List.replicate (ss.length - (Lib.compact ss).length) []) hp hs hd hi rfl he (by simp;omega) hb (fun s hs'=>by
     rcases List.mem_append.1 hs' with h | h
     ·exact hlen s (ue h)
     ·obtain ⟨_,rfl⟩:=List.mem_replicate.1 h;exact Nat.zero_le _)
    rw [grow_empty] at hA
    exact ⟨_,_,fun _ _ _ h=>(by cases h),.arr 900 (Lib.compact ss).length 1 b (aa (.row .str ss)).length cap _ (by simp) (by rw [hpl];omega) (by omega) h4 (.inl rfl),hA⟩
  ·have h0:ss=[]:=List.eq_nil_of_length_eq_zero hz
   subst h0
   refine (Any.slices_Compact_string_empty L none 0 w).mono ?_
   rintro en w' ⟨rfl,rfl⟩
   refine ⟨_,_,fun _ _ _ h=>(by cases h),?_,After.row (c':=.row .str []) hp hs hd hi rfl (show e 900=some (.box b 0 (aa (.row .str [])).length) from he) rfl rfl rfl rfl (Nat.le_refl _) (fun _ _ _=>rfl) (fun _ _=>rfl) ⟨rfl,fun _=>rfl⟩ (fun j c0 hc=>by simp [aa,flat] at hc)⟩
   exact .arr 900 0 1 b (aa (.row .str [])).length 0 _ (by simp) (by omega) (by omega) h4 (.inr ⟨rfl,rfl,rfl⟩)
end Go.AL
end
noncomputable section
namespace Go.AL
variable [Tabs]
open Go.Proofs Go.Shelf
variable {P:Program} {ρ:Ren}
def Eu (gv gk:Nat):Pat:=fun args S=>
 match args,S with
 | [.fn g [.ptr 900 0]],[(900,.box (.lst .str zs _))]=>
  if g=gv then some ⟨some (zs.length *16<=140737488355328),none,.arr 0 (fh zs).length 1,[(0,.box (.row .str (fh zs)))]⟩ else none
 | [.fn g [.ptr 900 0]],[(900,.box (.map 901)),(901,.map .str _ m)]=>
  if g=gk then some ⟨some (m.length *16<=140737488355328),none,.arr 0 (fh (m.map (·.1))).length 1,[(0,.box (.row .str (fh (m.map (·.1)))))]⟩ else none
 | _,_=>none
def la (gv:Nat):Pat:=fun args S=>
 match args,S with
 | [.fn g [.ptr 900 0]],[(900,.box (.lst .str zs _))]=>
  if g=gv then some ⟨some (zs.length *16<=140737488355328),none,.arr 0 (fh zs).length 1,[(0,.box (.row .str (fh zs)))]⟩ else none
 | _,_=>none
theorem qL {f gv:Nat} (L:SortL P ρ) (hf:ρ.f 6=f) (eg:∀args w,(callFunc gv args).run P w=.ok (.enter gv args) w) (V:sV P gv) (he:aV P f):an P f (la gv):=by
 subst hf
 intro args S A h hob hkeys
 unfold la at h
 split at h
 ·split at h
  ·rename_i e
   subst e
   cases h
   exact ⟨he,l9 L eg V _ (hob _ rfl) _⟩
  ·cases h
 ·cases h
def ld:Pat:=fun args S=>
 match args,S with
 | [.arr 900 n 1],[(900,.box (.row .str ss))]=>
  some ⟨some (n=ss.length),none,.arr 900 (Lib.compact ss).length 1,[(900,.box (.row .str (Lib.compact ss++List.replicate (ss.length - (Lib.compact ss).length) [])))]⟩
 | _,_=>none
theorem qM {f:Nat} (L:Lays.n194 P ρ) (hf:ρ.f 194=f) (he:aV P f):an P f ld:=by
 subst hf
 intro args S A h hob hkeys
 unfold ld at h
 split at h
 ·cases h
  exact ⟨he,qK L _ _ (hob _ rfl)⟩
 ·cases h
end Go.AL
end
noncomputable section
namespace Go.AL
open Go.Lib
theorem uf {l:List Str} (hs:l.Pairwise (·<= ·)):(Lib.compact l).length=l.length↔l.Nodup:=by
 unfold Lib.compact Lib.compactUpTo
 rw [List.length_map]
 have e:((List.range l.length).filter (keeps l.toArray)).length=l.length↔∀j,j < l.length→keeps l.toArray j=true:=by
  have h:=List.length_filter_eq_length_iff (p:=keeps l.toArray) (l:=List.range l.length)
  rw [List.length_range] at h
  rw [h]
  simp
 rw [e,List.nodup_iff_pairwise_ne,List.pairwise_iff_getElem]
 rw [List.pairwise_iff_getElem] at hs
 constructor
 ·intro h i j hi hj hij eq
  have hk:=h j hj
  have hj1:j - 1 < l.length:=by omega
  have h1:l[i]<=l[j - 1]:=by
   rcases Nat.lt_or_ge i (j - 1) with q | q
   ·exact hs i (j - 1) hi hj1 q
   ·have:i=j - 1:=by omega
    subst this
    exact List.le_refl _
  have h2:l[j - 1]<=l[j]:=hs (j - 1) j hj1 hj (by omega)
  have h3:l[j - 1]=l[j]:=List.le_antisymm h2 (by rw [←eq];exact h1)
  unfold keeps at hk
  simp [hj,hj1,h3] at hk
  omega
 ·intro h j hj
  unfold keeps
  rcases Nat.eq_zero_or_pos j with q | q
  ·simp [q]
  ·have hj1:j - 1 < l.length:=by omega
   have:=h (j - 1) j hj1 hj (by omega)
   simp [hj,hj1]
   exact .inr fun e=>this e.symm
theorem sX (l:List Str):(fh l).Pairwise (·<= ·):=by
 have tr:∀a b c:Str,decide (a<=b)=true→decide (b<=c)=true→decide (a<=c)=true:=fun a b c h1 h2=>by
  simp only [decide_eq_true_eq] at *;exact List.le_trans h1 h2
 have tot:∀a b:Str,(decide (a<=b) || decide (b<=a))=true:=fun a b=>by
  simp only [Bool.or_eq_true,decide_eq_true_eq];exact List.le_total _ _
 exact (List.pairwise_mergeSort tr tot l).imp fun h=>by simpa using h
theorem ug {l:List Str}:(fh l).Nodup↔l.Nodup:=(List.mergeSort_perm l _).nodup_iff
theorem pL (l:List Str):(Lib.compact (fh l)).length=l.length↔l.Nodup:=by
 letI:=oH
 rw [←lR l,uf (sX l),ug]
end Go.AL
end
section
namespace Go.Pd
open Go.AL
def bT (c:Int):Bool:=decide (97<=c) && decide (c<=122)
def bY (c:Int):Bool:=decide (65<=c) && decide (c<=90)
def fa (c:Int):Bool:=decide (48<=c) && decide (c<=57)
def dK (c:Int):Bool:=bT c || bY c || fa c || decide (c=95)
def bI (b:UInt8):Int:=(b.toNat:Int)
def cw (first:Int→Bool) (s:Str):Bool:=!decide (s=[]) && decide (s.length<=24) && first (bI (s.getD 0 0)) && s.all fun c=>dK (bI c)
def str (s:String):Str:=s.toUTF8.data.toList
def DD:List Str:=[[109,111,100,117,108,101],[105,109,112,111,114,116],[112,105,110],[114,97,110,103,101],[116,121,112,101],[111,112,97,113,117,101],[108,101,116],[105,110],[101,120,112,111,114,116],[102,117,110],[105,102],[116,104,101,110],[101,108,115,101],[99,97,115,101],[111,102],[97,115],[110,101,119],[114,97,119],[116,114,117,101],[102,97,108,115,101]]
def lS (s:Str):Bool:=decide (s∈DD)
def bZ (s:Str):Bool:=cw bT s && !lS s
def fb (s:Str):Bool:=cw bY s
end Go.Pd
end
section
namespace Go.Pd
open Go.AL
def kT (s:Str):Int:=s.foldl (fun n c=>10 *n+((c.toNat:Int) - 48)) 0
end Go.Pd
end
section
namespace Go.Pd
open Go.AL
def rq (t:Str):Prop:=t≠[]/\t.length<=15/\∀c∈t,48<=c.toNat/\c.toNat<=57
end Go.Pd
end
section
namespace Go.AL
open Go.Proofs Go.Shelf Go.RowKit Go.Pd
theorem nq:∀(l:Str) (acc:Nat),(∀c∈l,48<=c.toNat/\c.toNat<=57)→∃m:Nat,Lib.decFrom acc l=some m/\(m:Int)=l.foldl (fun n c=>10 *n+((c.toNat:Int) - 48)) (acc:Int)/\m < (acc+1) *10 ^ l.length
 | [],acc,_=>⟨acc,rfl,rfl,by simp⟩
 | c ::r,acc,h=>by
  obtain ⟨h1,h2⟩:=h c (List.mem_cons_self ..)
  obtain ⟨m,e1,e2,e3⟩:=nq r (acc *10+(c.toNat - 48)) (fun d hd=>h d (List.mem_cons_of_mem _ hd))
  refine ⟨m,?_,?_,?_⟩
  ·simp only [Lib.decFrom,Lib.digitVal,h1,h2,and_self,if_true];exact e1
  ·rw [e2,List.foldl_cons]
   congr 1
   omega
  ·refine Nat.lt_of_lt_of_le e3 ?_
   rw [List.length_cons,Nat.pow_succ,←Nat.mul_assoc,Nat.mul_right_comm]
   exact Nat.mul_le_mul_right _ (by omega)
theorem AU {t:Str} (h:rq t):Lib.atoi t=some (kT t)/\0<=kT t/\kT t < 1000000000000000:=by
 obtain ⟨h1,h2,h3⟩:=h
 obtain ⟨m,e1,e2,e3⟩:=nq t 0 h3
 have e4:(m:Int)=kT t:=e2
 refine ⟨?_,by omega,?_⟩
 ·cases t with
  | nil=>exact absurd rfl h1
  | cons c r=>
   have hc:=h3 c (List.mem_cons_self ..)
   have n1:(c ==45)=false:=by rw [beq_eq_false_iff_ne];rintro rfl;simp at hc
   have n2:(c ==43)=false:=by rw [beq_eq_false_iff_ne];rintro rfl;simp at hc
   simp only [Lib.atoi,n1,n2,Bool.false_eq_true,if_false,Lib.decNat,List.isEmpty_cons,e1,Option.map_some,e4]
 ·have:m < 10 ^ t.length:=by simpa using e3
  have h10:10 ^ t.length<=10 ^ 15:=Nat.pow_le_pow_right (by decide) h2
  have:m < 1000000000000000:=Nat.lt_of_lt_of_le this h10
  omega
variable [Tabs] {P:Program} {ρ:Ren}
theorem After.below {w w':World} {pub:Nat→Nat→Prop} {e:Nat→Option CObj} (hp:jK w pub) (hd:∀id,e id=none) (hb:Below w.heap.size w w'):After w pub e (ah (ct [] [])) w' pub e where
 os:=hb.os
 tape:=hb.tape
 output:=hb.output
 size:=hb.size
 block b h _:=hb.block b h
 cell b o h _:=af (hb.block b h) o
 kind b h _:=⟨aQ (hb.block b h),fun o=>aG (hb.block b h) o⟩
 ext:=⟨fun _ c h=>⟨c,h,CLe.refl c⟩,fun _ _ h=>h,fun b o h=>by obtain ⟨v,hv⟩:=hp b o h;exact af (hb.block b (aN hv)) o⟩
 fresh b o h:=.inl h
 ok b o h:=by obtain ⟨v,hv⟩:=hp b o h;exact ⟨v,(af (hb.block b (aN hv)) o).trans hv⟩
 slots id o h:=by simp [ct,aD,aC] at h
 dom id _:=hd id
 inj i j c d b o h:=by rw [hd i] at h;cases h
theorem w7 (L:Lays.n172 P ρ) (t:Str) (h:rq t):bd P (ρ.f 172) [.str t] [] ⟨some (rq t),none,.tup [.int .i64 (kT t),.nilif],[]⟩:=by
 intro w pub e vs hp ht hv hs hd hi
 obtain ⟨v,rfl,h1⟩:=VL.one_inv hv
 obtain ⟨rfl,hl⟩:=h1.str_inv
 obtain ⟨a1,a2,a3⟩:=AU h
 refine (Any.strconv_Atoi L ⟨t.toArray⟩ (kT t) (by have:=h.2.1;show t.toArray.size<=18;simp;omega) (by simpa using a1) w).mono ?_
 rintro en w' ⟨rfl,ty,rfl⟩
 refine ⟨pub,e,?_⟩
 refine And.intro (fun b pv u h=>by cases h) (And.intro ?_ (After.below hp (fun id=>hd id rfl) (Lib.bytesWorld_below w _ _)))
 have b1:inR .i64 (kT t):=ag (by omega) (by omega)
 exact V.of_tup (VL.cons (.int _ _ b1.1 b1.2) (VL.cons .nilif .nil))
def CO:Pat:=p1 .str fun t=>⟨some (rq t),none,.tup [.int .i64 (kT t),.nilif],[]⟩
theorem w9 {f:Nat} (L:Lays.n172 P ρ) (hf:ρ.f 172=f) (he:aV P f):an P f CO:=by
 subst hf
 exact bV he fun t _ ho=>w7 L t (ho _ rfl)
end Go.AL
end
section
namespace Go.Pd
open Go.AL
def CP {α:Type} (F:α→Bool):List α→Nat→Int
 | [],_=>-1
 | x ::r,k=>if F x=true then CP F r (k+1) else (k:Int)
end Go.Pd
end
section
namespace Go.Pd
open Go.AL
def cut (s:Str) (a b:Int):Str:=(s.take b.toNat).drop a.toNat
def nr (r:Str) (k:Nat):Bool:=decide (k < r.length) && decide ((r.getD k 0).toNat / 64=2)
def nH (r:Str) (k:Nat):Nat:=(r.getD k 0).toNat % 64
def nW (c:Nat):Bool:=decide (c < 1114112) && !(decide (55296<=c) && decide (c < 57344))
def AW:Str→Nat
 | []=>0
 | b ::r=>
  if b.toNat < 128 then 1
  else if b.toNat / 32=6/\nr r 0=true then (if 128<=b.toNat % 32 *64+nH r 0 then 2 else 0)
  else if b.toNat / 16=14/\nr r 0=true/\nr r 1=true then
   (if 2048<=b.toNat % 16 *4096+nH r 0 *64+nH r 1/\nW (b.toNat % 16 *4096+nH r 0 *64+nH r 1)=true then 3 else 0)
  else if b.toNat / 8=30/\nr r 0=true/\nr r 1=true/\nr r 2=true then
   (if 65536<=b.toNat % 8 *262144+nH r 0 *4096+nH r 1 *64+nH r 2/\nW (b.toNat % 8 *262144+nH r 0 *4096+nH r 1 *64+nH r 2)=true then 4 else 0)
  else 0
def splitB (c:UInt8):Str→List Str
 | []=>[[]]
 | b ::r=>if b=c then [] ::splitB c r else match splitB c r with | []=>[[b]] | p ::ps=>(b ::p) ::ps
def iv (s:Str):Str:=s.takeWhile fun b=>!decide (b=45)
def lf (s:Str):Str:=s.drop ((iv s).length+1)
def mH (s:Str):Bool:=decide ((iv s).length < s.length)
end Go.Pd
end
section
namespace Go.Pd
open Go.AL
end Go.Pd
namespace Go.Pd
open Go.AL
def pM:Str:=[48,49,50,51,52,53,54,55,56,57]
def nt (b:UInt8):Bool:=fa (bI b)
def pN (s:Str):Str:=(s.reverse.dropWhile nt).reverse.dropWhile nt
def AX (s:Str) (c:Int):Int:=CP (fun b=>!decide (bI b=c)) s 0
def ju (s:Str):Nat × Nat:=if s=[] then (65533,0) else Lib.decodeN s.length (s.getD 0 0).toNat (s.getD 1 0).toNat (s.getD 2 0).toNat (s.getD 3 0).toNat
theorem qN {p:UInt8→Bool}:∀{l:Str},l.dropWhile p=[]↔l.all p=true
 | []=>by simp
 | b ::r=>by
  rw [List.dropWhile_cons]
  split
  ·rename_i h
   rw [qN,List.all_cons,h,Bool.true_and]
  ·rename_i h
   simp [h]
theorem AY (s:Str):(pN s).length<=s.length:=by
 unfold pN
 have h1:=(List.dropWhile_sublist (p:=nt) (l:=(s.reverse.dropWhile nt).reverse)).length_le
 have h2:=(List.dropWhile_sublist (p:=nt) (l:=s.reverse)).length_le
 rw [List.length_reverse] at h1 h2
 omega
def yW (n b0 b1 b2 b3:Nat):Nat:=
 if b0 < 128 then 1
 else if b0 / 32=6/\(1 < n/\b1 / 64=2) then (if b0 % 32 *64+b1 % 64≥128 then 2 else 0)
 else if b0 / 16=14/\(1 < n/\b1 / 64=2)/\(2 < n/\b2 / 64=2) then
  (if b0 % 16 *4096+b1 % 64 *64+b2 % 64≥2048/\(b0 % 16 *4096+b1 % 64 *64+b2 % 64 < 55296∨(57344<=b0 % 16 *4096+b1 % 64 *64+b2 % 64/\b0 % 16 *4096+b1 % 64 *64+b2 % 64<=1114111)) then 3 else 0)
 else if b0 / 8=30/\(1 < n/\b1 / 64=2)/\(2 < n/\b2 / 64=2)/\(3 < n/\b3 / 64=2) then
  (if b0 % 8 *262144+b1 % 64 *4096+b2 % 64 *64+b3 % 64≥65536/\(b0 % 8 *262144+b1 % 64 *4096+b2 % 64 *64+b3 % 64 < 55296∨(57344<=b0 % 8 *262144+b1 % 64 *4096+b2 % 64 *64+b3 % 64/\b0 % 8 *262144+b1 % 64 *4096+b2 % 64 *64+b3 % 64<=1114111)) then 4 else 0)
 else 0
theorem uh (n b0 b1 b2 b3:Nat) (h1:b1 < 256) (h2:b2 < 256) (h3:b3 < 256) (h0:b0 < 256) (hn:1<=n) :
  ((Lib.decodeN n b0 b1 b2 b3).1=65533/\(Lib.decodeN n b0 b1 b2 b3).2=1↔yW n b0 b1 b2 b3=0)/\(yW n b0 b1 b2 b3≠0→(Lib.decodeN n b0 b1 b2 b3).2=yW n b0 b1 b2 b3)/\
  (Lib.decodeN n b0 b1 b2 b3).1<=1114111/\1<=(Lib.decodeN n b0 b1 b2 b3).2/\(Lib.decodeN n b0 b1 b2 b3).2<=n:=by
 unfold Lib.decodeN yW
 by_cases c1:b0 < 128
 ·simp only [if_pos c1];refine ⟨⟨fun e=>?_,fun e=>?_⟩,fun e=>?_,?_,?_,?_⟩ <;> first | omega | exact ⟨rfl,rfl⟩ | exact ⟨trivial,trivial⟩ | exact (e rfl).elim | exact e.elim | exact (e trivial).elim | simp only at *
 simp only [if_neg c1]
 by_cases c2:b0 / 32=6/\(1 < n/\b1 / 64=2)
 ·simp only [if_pos c2]
  by_cases d:b0 % 32 *64+b1 % 64≥128
  ·simp only [if_pos d];refine ⟨⟨fun e=>?_,fun e=>?_⟩,fun e=>?_,?_,?_,?_⟩ <;> first | omega | exact ⟨rfl,rfl⟩ | exact ⟨trivial,trivial⟩ | exact (e rfl).elim | exact e.elim | exact (e trivial).elim | simp only at *
  ·simp only [if_neg d];refine ⟨⟨fun e=>?_,fun e=>?_⟩,fun e=>?_,?_,?_,?_⟩ <;> first | omega | exact ⟨rfl,rfl⟩ | exact ⟨trivial,trivial⟩ | exact (e rfl).elim | exact e.elim | exact (e trivial).elim | simp only at *
 simp only [if_neg c2]
 by_cases c3:b0 / 16=14/\(1 < n/\b1 / 64=2)/\(2 < n/\b2 / 64=2)
 ·simp only [if_pos c3]
  by_cases d:b0 % 16 *4096+b1 % 64 *64+b2 % 64≥2048/\(b0 % 16 *4096+b1 % 64 *64+b2 % 64 < 55296∨(57344<=b0 % 16 *4096+b1 % 64 *64+b2 % 64/\b0 % 16 *4096+b1 % 64 *64+b2 % 64<=1114111))
  ·simp only [if_pos d];refine ⟨⟨fun e=>?_,fun e=>?_⟩,fun e=>?_,?_,?_,?_⟩ <;> first | omega | exact ⟨rfl,rfl⟩ | exact ⟨trivial,trivial⟩ | exact (e rfl).elim | exact e.elim | exact (e trivial).elim | simp only at *
  ·simp only [if_neg d];refine ⟨⟨fun e=>?_,fun e=>?_⟩,fun e=>?_,?_,?_,?_⟩ <;> first | omega | exact ⟨rfl,rfl⟩ | exact ⟨trivial,trivial⟩ | exact (e rfl).elim | exact e.elim | exact (e trivial).elim | simp only at *
 simp only [if_neg c3]
 by_cases c4:b0 / 8=30/\(1 < n/\b1 / 64=2)/\(2 < n/\b2 / 64=2)/\(3 < n/\b3 / 64=2)
 ·simp only [if_pos c4]
  by_cases d:b0 % 8 *262144+b1 % 64 *4096+b2 % 64 *64+b3 % 64≥65536/\(b0 % 8 *262144+b1 % 64 *4096+b2 % 64 *64+b3 % 64 < 55296∨(57344<=b0 % 8 *262144+b1 % 64 *4096+b2 % 64 *64+b3 % 64/\b0 % 8 *262144+b1 % 64 *4096+b2 % 64 *64+b3 % 64<=1114111))
  ·simp only [if_pos d];refine ⟨⟨fun e=>?_,fun e=>?_⟩,fun e=>?_,?_,?_,?_⟩ <;> first | omega | exact ⟨rfl,rfl⟩ | exact ⟨trivial,trivial⟩ | exact (e rfl).elim | exact e.elim | exact (e trivial).elim | simp only at *
  ·simp only [if_neg d];refine ⟨⟨fun e=>?_,fun e=>?_⟩,fun e=>?_,?_,?_,?_⟩ <;> first | omega | exact ⟨rfl,rfl⟩ | exact ⟨trivial,trivial⟩ | exact (e rfl).elim | exact e.elim | exact (e trivial).elim | simp only at *
 simp only [if_neg c4]
 refine ⟨⟨fun e=>?_,fun e=>?_⟩,fun e=>?_,?_,?_,?_⟩ <;> first | omega | exact ⟨rfl,rfl⟩ | exact ⟨trivial,trivial⟩ | exact (e rfl).elim | exact e.elim | exact (e trivial).elim | simp only at *
theorem ui (c:Nat):nW c=true↔(c < 55296∨(57344<=c/\c<=1114111)):=by
 unfold nW
 simp only [Bool.and_eq_true,decide_eq_true_eq,Bool.not_eq_true',Bool.and_eq_false_iff,decide_eq_false_iff_not]
 omega
theorem yX (r:Str) (k:Nat):nr r k=true↔(k+1 < r.length+1/\(r.getD k 0).toNat / 64=2):=by
 unfold nr
 simp only [Bool.and_eq_true,decide_eq_true_eq]
 omega
theorem E2 (b:UInt8) (r:Str):AW (b ::r)=yW (r.length+1) b.toNat (r.getD 0 0).toNat (r.getD 1 0).toNat (r.getD 2 0).toNat:=by
 unfold AW yW nH
 simp only [yX,ui]
theorem AZ {s:Str} (h:s≠[]):((ju s).1=65533/\(ju s).2=1↔AW s=0)/\(AW s≠0→(ju s).2=AW s)/\(ju s).1<=1114111/\1<=(ju s).2/\(ju s).2<=s.length:=by
 cases s with
 | nil=>exact absurd rfl h
 | cons b r=>
  have e:ju (b ::r)=Lib.decodeN (r.length+1) b.toNat (r.getD 0 0).toNat (r.getD 1 0).toNat (r.getD 2 0).toNat:=by
   unfold ju
   rw [if_neg h]
   rfl
  rw [e,E2,List.length_cons]
  exact uh _ _ _ _ _ (r.getD 0 0).toNat_lt (r.getD 1 0).toNat_lt (r.getD 2 0).toNat_lt b.toNat_lt (by omega)
end Go.Pd
namespace Go.Pd
open Go.AL
end Go.Pd
namespace Go.Pd
open Go.AL
end Go.Pd
namespace Go.Pd
open Go.AL
theorem kU (c:UInt8):∀s:Str,(splitB c s).length<=s.length+1
 | []=>by simp [splitB]
 | b ::r=>by
  have ih:=kU c r
  unfold splitB
  split
  ·simp only [List.length_cons];omega
  ·split
   ·simp
   ·rename_i e
    rw [e] at ih
    simp only [List.length_cons] at ih ⊢
    omega
end Go.Pd
namespace Go.Pd
open Go.AL
theorem yY (s:Str):(iv s).length<=s.length:=(List.takeWhile_sublist _).length_le
end Go.Pd
namespace Go.Pd
open Go.AL
end Go.Pd
namespace Go.Pd
open Go.AL
end Go.Pd
end
section
namespace Go.AL
open Go.Proofs Go.Shelf Go.RowKit Go.Pd
theorem gm {c:UInt8}:∀{s:Str},Lib.indexByte s c=-1→c∉s
 | [],_=>List.not_mem_nil
 | b ::r,h=>by
  unfold Lib.indexByte at h
  by_cases e:b=c
  ·subst e;simp at h
  ·have e':(b ==c)=false:=beq_eq_false_iff_ne.2 e
   rw [e'] at h
   simp only [Bool.false_eq_true,if_false] at h
   have hg:=Lib.indexByte_ge r c
   split at h
   ·rename_i k
    have:=gm (s:=r) (by simpa using k)
    rw [List.mem_cons,not_or]
    exact ⟨fun q=>e q.symm,this⟩
   ·omega
theorem fc {c:UInt8}:∀{s:Str},Lib.indexByte s c≠-1→∃k:Nat,Lib.indexByte s c=k/\k < s.length/\s=s.take k++c ::s.drop (k+1)/\c∉s.take k
 | [],h=>absurd rfl h
 | b ::r,h=>by
  unfold Lib.indexByte at h ⊢
  by_cases e:b=c
  ·subst e
   refine ⟨0,by simp,by simp,by simp,by simp⟩
  ·have e':(b ==c)=false:=beq_eq_false_iff_ne.2 e
   rw [e'] at h ⊢
   simp only [Bool.false_eq_true,if_false] at h ⊢
   split at h
   ·exact absurd rfl h
   ·rename_i k
    obtain ⟨j,j1,j2,j3,j4⟩:=fc (s:=r) (by simpa using k)
    rw [if_neg k]
    refine ⟨j+1,by rw [j1];rfl,by simp;omega,?_,?_⟩
    ·rw [List.take_succ_cons,List.drop_succ_cons,List.cons_append,←j3]
    ·rw [List.take_succ_cons,List.mem_cons,not_or]
     exact ⟨fun q=>e q.symm,j4⟩
theorem pO {c:UInt8}:∀{s:Str},c∉s→splitB c s=[s]
 | [],_=>rfl
 | b ::r,h=>by
  rw [List.mem_cons,not_or] at h
  unfold splitB
  rw [if_neg (fun e=>h.1 e.symm),pO h.2]
theorem rr {c:UInt8}:∀{a:Str} (r:Str),c∉a→splitB c (a++c ::r)=a ::splitB c r
 | [],r,_=>by rw [List.nil_append,splitB,if_pos rfl]
 | b ::a,r,h=>by
  rw [List.mem_cons,not_or] at h
  rw [List.cons_append,splitB,if_neg (fun e=>h.1 e.symm),rr r h.2]
theorem pP (c:UInt8):∀(n:Nat) (s:Str),s.length<=n→Lib.splitK [c] 0 (s.count c) s=splitB c s
 | n,s,hn=>by
  by_cases h:Lib.indexByte s c=-1
  ·have hm:=gm h
   rw [List.count_eq_zero.2 hm,pO hm]
   rfl
  ·obtain ⟨k,k1,k2,k3,k4⟩:=fc h
   have hc:s.count c=(s.drop (k+1)).count c+1:=by
    have e:=congrArg (List.count c) k3
    rw [List.count_append,List.count_cons_self,List.count_eq_zero.2 k4] at e
    omega
   rw [hc]
   unfold Lib.splitK
   rw [Lib.index_one,if_neg (by simpa using h),k1]
   have hd:(k:Int).toNat+[c].length=k+1:=rfl
   have ht:(k:Int).toNat+0=k:=rfl
   rw [hd,ht]
   cases n with
   | zero=>omega
   | succ n=>
    rw [pP c n (s.drop (k+1)) (by rw [List.length_drop];omega)]
    conv=>rhs;rw [k3]
    rw [rr _ k4]
theorem lT {c:UInt8}:∀{a:Str} (r:Str),c∉a→(a++c ::r).takeWhile (fun b=>!decide (b=c))=a
 | [],r,_=>by simp
 | b ::a,r,h=>by
  rw [List.mem_cons,not_or] at h
  have hb:¬b=c:=fun e=>h.1 e.symm
  rw [List.cons_append,List.takeWhile_cons]
  simp only [hb,decide_false,Bool.not_false,if_true]
  rw [lT r h.2]
theorem qO {c:UInt8} {s:Str} (h:c∉s):s.takeWhile (fun b=>!decide (b=c))=s:=by
 induction s with
 | nil=>rfl
 | cons b r ih=>
  rw [List.mem_cons,not_or] at h
  have hb:¬b=c:=fun e=>h.1 e.symm
  rw [List.takeWhile_cons]
  simp only [hb,decide_false,Bool.not_false,if_true]
  rw [ih h.2]
theorem Ba (s:Str):Lib.cut s [45]=(iv s,lf s,mH s):=by
 unfold Lib.cut
 rw [Lib.index_one]
 by_cases h:Lib.indexByte s 45=-1
 ·have hm:=gm h
  rw [h,if_neg (by decide)]
  have e:iv s=s:=qO hm
  unfold lf mH
  rw [e,List.drop_eq_nil_of_le (by omega)]
  simp
 ·obtain ⟨k,k1,k2,k3,k4⟩:=fc h
  rw [k1,if_pos (by omega)]
  have e:iv s=s.take k:=by
   unfold iv
   conv=>lhs;rw [k3]
   exact lT _ k4
  have hl:(s.take k).length=k:=by rw [List.length_take];omega
  unfold lf mH
  rw [e,hl]
  simp [k2]
theorem CQ (s:Str) (c:Int) (h0:0<=c) (h1:c<=255):∀k:Nat,CP (fun b=>!decide (bI b=c)) s k=if Lib.indexByte s c.toNat.toUInt8=-1 then -1 else Lib.indexByte s c.toNat.toUInt8+k:=by
 have hb:∀b:UInt8,(bI b=c)↔b=c.toNat.toUInt8:=by
  intro b
  unfold bI
  constructor
  ·intro e
   have:c.toNat=b.toNat:=by omega
   rw [this]
   simp
  ·intro e
   rw [e]
   simp [Nat.toUInt8]
   omega
 induction s with
 | nil=>intro k;rfl
 | cons b r ih=>
  intro k
  rw [CP]
  by_cases e:bI b=c
  ·have e2:=(hb b).1 e
   rw [if_neg (by simp [e])]
   unfold Lib.indexByte
   rw [e2]
   simp
  ·have e2:(b ==c.toNat.toUInt8)=false:=beq_eq_false_iff_ne.2 (fun q=>e ((hb b).2 q))
   rw [if_pos (by simp [e]),ih (k+1)]
   have hg:=Lib.indexByte_ge r c.toNat.toUInt8
   have e3:Lib.indexByte (b ::r) c.toNat.toUInt8=(if b ==c.toNat.toUInt8 then 0 else if Lib.indexByte r c.toNat.toUInt8 ==-1 then -1 else Lib.indexByte r c.toNat.toUInt8+1):=rfl
   rw [e3,e2]
   simp only [Bool.false_eq_true,if_false,beq_iff_eq]
   by_cases q:Lib.indexByte r c.toNat.toUInt8=-1
   ·rw [if_pos q,if_pos q];rfl
   ·rw [if_neg q,if_neg q,if_neg (by omega)]
    omega
theorem uj (s:Str) (c:UInt8):decide (0<=Lib.indexByte s c)=decide (c∈s):=by
 have hg:=Lib.indexByte_ge s c
 rw [decide_eq_decide]
 by_cases h:Lib.indexByte s c=-1
 ·exact ⟨fun e=>by omega,fun e=>absurd e (gm h)⟩
 ·obtain ⟨k,k1,k2,k3,k4⟩:=fc h
  exact ⟨fun _=>by rw [k3];simp,fun _=>by omega⟩
variable [Tabs] {P:Program} {ρ:Ren}
theorem Below.drawn (w:World) (n:Nat):Below w.heap.size w (w.drewN n):=⟨rfl,rfl,rfl,Nat.le_refl _,fun _ _=>rfl⟩
theorem After.news {w w':World} {pub:Nat→Nat→Prop} {e:Nat→Option CObj} (hp:jK w pub) (hd:∀id,e id=none) (hb:Below w.heap.size w w') {p:Nat→Prop} (hc:∀o,p o→∃v,w'.cell? ⟨w.heap.size,o,none⟩=some v) :
  After w pub e (ah (ct [] [])) w' (fun b o=>pub b o∨(b=w.heap.size/\p o)) e where
 os:=hb.os
 tape:=hb.tape
 output:=hb.output
 size:=hb.size
 block b h _:=hb.block b h
 cell b o h _:=af (hb.block b h) o
 kind b h _:=⟨aQ (hb.block b h),fun o=>aG (hb.block b h) o⟩
 ext:=⟨fun _ c h=>⟨c,h,CLe.refl c⟩,fun _ _ h=>.inl h,fun b o h=>by obtain ⟨v,hv⟩:=hp b o h;exact af (hb.block b (aN hv)) o⟩
 fresh b o h:=by
  rcases h with h | ⟨rfl,_⟩
  ·exact .inl h
  ·exact .inr (.inl (Nat.le_refl _))
 ok b o h:=by
  rcases h with h | ⟨rfl,h⟩
  ·obtain ⟨v,hv⟩:=hp b o h;exact ⟨v,(af (hb.block b (aN hv)) o).trans hv⟩
  ·exact hc o h
 slots id o h:=by simp [ct,aD,aC] at h
 dom id _:=hd id
 inj i j c d b o h:=by rw [hd i] at h;cases h
theorem eG {f:Nat} {args:List AV} {A:AV} {ob:Option Prop} (h:∀(w:World) (pub:Nat→Nat→Prop) (vs:List Value),jD w pub (fun _=>none)→VL ⟨fun _=>none,w,pub⟩ args vs→Calls P f vs.toArray w fun e w'=>(∃v,e=.returned v/\∀Ω,V Ω A v)/\Below w.heap.size w w') :
  bd P f args [] ⟨ob,none,A,[]⟩:=by
 intro w pub e vs hp ht hv hs hd hi
 have he:e=fun _=>none:=funext fun id=>hd id rfl
 subst he
 refine (h w pub vs ht hv).mono ?_
 rintro en w' ⟨⟨v,rfl,hV⟩,hb⟩
 exact ⟨pub,_,And.intro (fun b pv u h=>by cases h) (And.intro (hV _) (After.below hp (fun _=>rfl) hb))⟩
theorem VL.two_str {Ω:Om} {a b:Str} {vs:List Value} (h:VL Ω [.str a,.str b] vs):vs=[.string ⟨a.toArray⟩,.string ⟨b.toArray⟩]/\a.length<=aS/\b.length<=aS:=by
 obtain ⟨v1,v2,rfl,h1,h2⟩:=VL.two_inv h
 obtain ⟨rfl,l1⟩:=h1.str_inv
 obtain ⟨rfl,l2⟩:=h2.str_inv
 exact ⟨rfl,l1,l2⟩
def CR:Pat:=p2 .str .str fun a b=>⟨some (b=pM),none,.str (pN a),[]⟩
set_option maxRecDepth 100000 in
theorem Bb (b:UInt8):pM.contains b=nt b:=by
 have h:∀b:Fin 256,pM.contains (UInt8.ofNat b.val)=nt (UInt8.ofNat b.val):=by decide
 have:=h ⟨b.toNat,b.toNat_lt⟩
 simpa using this
theorem wa {f:Nat} (L:Lays.n160 P ρ) (h116:(P.info? (ρ.t 116)).map (fun i=>(i.zero,i.size))=some (some (.agg (Array.replicate 256 (.bool false))),256)) (hf:ρ.f 160=f) (he:aV P f):an P f CR:=by
 subst hf
 refine eF he fun a b _ _ ho=>?_
 have hb:=ho _ rfl
 subst hb
 refine eG fun w pub vs _ hv=>?_
 obtain ⟨rfl,l1,l2⟩:=VL.two_str hv
 have l1':a.length<=9223372036854775807:=l1
 refine (Any.strings_Trim_laid L h116 ⟨a.toArray⟩ ⟨pM.toArray⟩ w (by simpa [ByteArray.size] using l1') (by decide) (fun j b hj=>?_)).mono ?_
 ·have hd:∀b∈pM,b.toNat < 128:=by decide
  exact hd b (List.mem_of_getElem? hj)
 ·rintro en w' ⟨rfl,hb⟩
  refine ⟨⟨_,rfl,fun Ω=>?_⟩,hb⟩
  have e:Lib.trimS a pM=pN a:=by
   have ef:(fun b=>pM.contains b)=nt:=funext Bb
   unfold Lib.trimS Lib.trimLeftS Lib.trimRightS pN
   rw [ef]
  have e2:(⟨a.toArray⟩:ByteArray).data.toList=a:=rfl
  have e3:(⟨pM.toArray⟩:ByteArray).data.toList=pM:=rfl
  rw [e2,e3,e]
  exact .str _ (Nat.le_trans (AY a) l1)
def E3:Pat:=p2 .str .str fun a b=>⟨some (b=[45]/\a.length < 4294967281),none,.tup [.str (iv a),.str (lf a),.bool (mH a)],[]⟩
theorem yZ {f:Nat} {m:Int} (L:Lays.n145 P ρ) (hm:Tabs.tab (ρ.g 1) 0 (.int .i64 m)) (hf:ρ.f 145=f) (he:aV P f):an P f E3:=by
 subst hf
 refine eF he fun a b _ _ ho=>?_
 obtain ⟨hb,hl⟩:=ho _ rfl
 subst hb
 refine eG fun w pub vs ht hv=>?_
 obtain ⟨rfl,l1,l2⟩:=VL.two_str hv
 refine (Any.strings_Cut L ⟨a.toArray⟩ ⟨([45]:Str).toArray⟩ m w (by simpa [ByteArray.size] using hl) (ht.1 _ _ _ hm).2).mono ?_
 rintro en w' ⟨rfl,n,rfl⟩
 refine ⟨⟨_,rfl,fun Ω=>?_⟩,Below.drawn w n⟩
 have e2:(⟨a.toArray⟩:ByteArray).data.toList=a:=rfl
 have e3:(⟨([45]:Str).toArray⟩:ByteArray).data.toList=[45]:=rfl
 rw [e2,e3,Ba]
 refine V.of_tup (VL.cons (.str _ ?_) (VL.cons (.str _ ?_) (VL.cons (.bool _) .nil)))
 ·exact Nat.le_trans (yY a) l1
 ·unfold lf
  rw [List.length_drop]
  exact Nat.le_trans (Nat.sub_le _ _) l1
def uk:Pat:=p2 .str .str fun a b=>⟨some (b.length=1),none,.bool (decide (b.getD 0 0∈a)),[]⟩
theorem pQ {f:Nat} (L:Lays.n144 P ρ) (hf:ρ.f 144=f) (he:aV P f):an P f uk:=by
 subst hf
 refine eF he fun a b _ _ ho=>?_
 have hb:b.length=1:=ho _ rfl
 obtain ⟨c,rfl⟩:∃c,b=[c]:=by
  match b,hb with
  | [c],_=>exact ⟨c,rfl⟩
 refine eG fun w pub vs ht hv=>?_
 obtain ⟨rfl,l1,l2⟩:=VL.two_str hv
 refine (Any.strings_Contains_one L ⟨a.toArray⟩ c w).mono ?_
 rintro en w' ⟨rfl,rfl⟩
 refine ⟨⟨_,rfl,fun Ω=>?_⟩,Below.refl _ _⟩
 have e2:(⟨a.toArray⟩:ByteArray).data.toList=a:=rfl
 rw [e2,uj]
 exact .bool _
def sY:Pat:=p2 .str (.int .u8) fun a c=>.ret (.int .i64 (AX a c))
theorem nI {f:Nat} (L:Lays.n137 P ρ) (hf:ρ.f 137=f) (he:aV P f):an P f sY:=by
 subst hf
 refine eF he fun a c _ _ ho=>?_
 refine eG fun w pub vs ht hv=>?_
 obtain ⟨v1,v2,rfl,h1,h2⟩:=VL.two_inv hv
 obtain ⟨rfl,l1⟩:=h1.str_inv
 obtain ⟨rfl,c1,c2⟩:=(show V _ (.int .u8 c) v2 from h2).int_inv
 have c1:(0:Int)<=c:=c1
 have c2:c<=(255:Int):=c2
 refine (Any.strings_IndexByte L ⟨a.toArray⟩ c w).mono ?_
 rintro en w' ⟨rfl,rfl⟩
 refine ⟨⟨_,rfl,fun Ω=>?_⟩,Below.refl _ _⟩
 have e2:(⟨a.toArray⟩:ByteArray).data.toList=a:=rfl
 have e:AX a c=Lib.indexByte a c.toNat.toUInt8:=by
  unfold AX
  rw [CQ a c c1 c2 0]
  split
  ·rename_i h;exact h.symm
  ·simp
 rw [e2,e]
 have hg:=Lib.indexByte_ge a c.toNat.toUInt8
 have hu:Lib.indexByte a c.toNat.toUInt8<=(a.length:Int):=by
  by_cases q:Lib.indexByte a c.toNat.toUInt8=-1
  ·omega
  ·obtain ⟨k,k1,k2,_⟩:=fc q
   omega
 have l1':a.length<=9223372036854775807:=l1
 have b1:inR .i64 (Lib.indexByte a c.toNat.toUInt8):=ag (by omega) (by omega)
 exact .int _ _ b1.1 b1.2
def Bc:Pat:=p2 .str .str fun a b=>⟨some (b=[46]/\a.length < 4294967281),none,.lst .str (splitB 46 a) none,[]⟩
theorem pR (c:UInt8):∀(s:Str),∀x∈splitB c s,x.length<=s.length
 | [],x,h=>by rw [List.mem_singleton.1 h];exact Nat.le_refl _
 | b ::r,x,h=>by
  have ih:=pR c r
  unfold splitB at h
  split at h
  ·rcases List.mem_cons.1 h with e | e
   ·rw [e];exact Nat.zero_le _
   ·have:=ih x e;rw [List.length_cons];omega
  ·split at h
   ·rw [List.mem_singleton.1 h,List.length_cons];simp
   ·rename_i p ps e0
    rcases List.mem_cons.1 h with e | e
    ·have:=ih p (by rw [e0];exact List.mem_cons_self ..)
     rw [e,List.length_cons,List.length_cons]
     omega
    ·have:=ih x (by rw [e0];exact List.mem_cons_of_mem _ e)
     rw [List.length_cons]
     omega
theorem um {f:Nat} {m:Int} (L:Lays.n146 P ρ) (hi9:(P.info? (ρ.t 9)).map (fun i=>(i.zero,i.size,i.bytes))=some (some (.string ByteArray.empty),1,16)) (hm:Tabs.tab (ρ.g 1) 0 (.int .i64 m)) (hf:ρ.f 146=f) (he:aV P f):an P f Bc:=by
 subst hf
 refine eF he fun a b _ _ ho=>?_
 obtain ⟨hb,hl⟩:=ho _ rfl
 subst hb
 intro w pub e vs hp ht hv hs hd hi
 obtain ⟨rfl,l1,l2⟩:=VL.two_str hv
 have l1':a.length<=9223372036854775807:=l1
 refine (Any.strings_Split L hi9 ⟨a.toArray⟩ ⟨([46]:Str).toArray⟩ m w (by simpa [ByteArray.size] using hl) (ht.1 _ _ _ hm).2 (by decide)).mono ?_
 rintro en w' ⟨rfl,rfl⟩
 have e2:(⟨a.toArray⟩:ByteArray).data.toList=a:=rfl
 have e3:(⟨([46]:Str).toArray⟩:ByteArray).data.toList=[46]:=rfl
 have hcount:Lib.countB ⟨a.toArray⟩ ⟨([46]:Str).toArray⟩=a.count 46:=by
  show Lib.count a [46]=_
  rw [Lib.count_one]
 have hsp:(Lib.splitB ⟨([46]:Str).toArray⟩ 0 (Lib.countB ⟨a.toArray⟩ ⟨([46]:Str).toArray⟩) ⟨a.toArray⟩).map (·.data.toList)=splitB 46 a:=by
  rw [Lib.splitB_data,hcount]
  exact pP 46 a.length a (Nat.le_refl _)
 generalize Lib.splitB ⟨([46]:Str).toArray⟩ 0 (Lib.countB ⟨a.toArray⟩ ⟨([46]:Str).toArray⟩) ⟨a.toArray⟩=bs at hsp
 have hcl:(splitB 46 a).length=Lib.countB ⟨a.toArray⟩ ⟨([46]:Str).toArray⟩+1:=by
  rw [hcount]
  have:∀s:Str,(splitB 46 s).length=s.count 46+1:=by
   intro s
   induction s with
   | nil=>rfl
   | cons b r ih=>
    unfold splitB
    split
    ·rename_i h
     subst h
     rw [List.length_cons,ih,List.count_cons_self]
    ·rename_i h
     rw [List.count_cons_of_ne h]
     split
     ·rename_i e0;rw [e0] at ih;simp at ih
     ·rename_i p ps e0
      rw [e0] at ih
      simpa using ih
  exact this a
 have hbl:bs.length=(splitB 46 a).length:=by rw [←hsp,List.length_map]
 have hsz:=kU 46 a
 rw [←hcl]
 have hnew:(w.alloc (.cells (bs.map Value.string).toArray (ρ.t 9))).heap[w.heap.size]?=some (.cells (bs.map Value.string).toArray (ρ.t 9) (0,0)):=bl _ _
 have hbw:Below w.heap.size w (w.alloc (.cells (bs.map Value.string).toArray (ρ.t 9))):=⟨rfl,rfl,rfl,by simp,fun b hb=>fQ _ _ _ hb⟩
 refine ⟨fun b o=>pub b o∨(b=w.heap.size/\o < bs.length),e,And.intro (fun b pv u h=>by cases h) (And.intro ?_ (After.news hp (fun id=>hd id rfl) hbw (p:=fun o=>o < bs.length) (fun o ho=>?_)))⟩
 ·refine oQ (Ω:=⟨e,w.alloc (.cells (bs.map Value.string).toArray (ρ.t 9)),fun b o=>pub b o∨(b=w.heap.size/\o < bs.length)⟩) (τ:=.str) (xs:=splitB 46 a) (vs:=bs.map Value.string) hnew ?_ ?_ (Nat.le_refl _) (by unfold aS;omega) (fun i hi=>.inr ⟨rfl,by rw [hbl];simpa [a8] using hi⟩) (fun id hid=>by cases hid)
  ·have e1:(splitB 46 a).length *a8 .str=bs.length:=by rw [hbl];exact Nat.mul_one _
   rw [e1]
   exact List.take_of_length_le (by simp)
  ·have ef:flat .str (splitB 46 a)=(splitB 46 a).map AV.str:=by
    unfold flat
    rw [List.map_eq_flatMap]
    rfl
   rw [ef,←hsp]
   refine ⟨by simp,fun j c v hc hv=>?_⟩
   rw [List.map_map,List.getElem?_map,Option.map_eq_some_iff] at hc
   rw [List.getElem?_map,Option.map_eq_some_iff] at hv
   obtain ⟨x,hx,rfl⟩:=hc
   obtain ⟨y,hy,rfl⟩:=hv
   rw [hx] at hy
   cases hy
   have hmem:x.data.toList∈splitB 46 a:=by rw [←hsp];exact List.mem_map_of_mem (List.mem_of_getElem? hx)
   have hle:=pR 46 a _ hmem
   have:=V.str (Ω:=⟨e,w.alloc (.cells (bs.map Value.string).toArray (ρ.t 9)),fun b o=>pub b o∨(b=w.heap.size/\o < bs.length)⟩) x.data.toList (Nat.le_trans hle l1)
   exact this
 ·rw [ak hnew]
  exact ⟨_,Array.getElem?_eq_getElem (by simpa using ho)⟩
def nX [Tabs] (g3 g4:Nat):Prop:=
 (∀c,c < 256→Tabs.tab g3 c (.int .u8 (Lib.firstT c)))/\(∀i,i < 16→Tabs.tab g4 (2 *i) (.int .u8 (Lib.accLo i))/\Tabs.tab g4 (2 *i+1) (.int .u8 (Lib.accHi i)))
theorem nX.tabs {g3 g4:Nat} (h:nX g3 g4) {w:World} {pub:Nat→Nat→Prop} {e:Nat→Option CObj} (ht:jD w pub e):Lib.Utf8Tabs g3 g4 w:=
 ⟨fun c hc=>(ht.1 _ _ _ (h.1 c hc)).2,fun i hi=>⟨(ht.1 _ _ _ (h.2 i hi).1).2,(ht.1 _ _ _ (h.2 i hi).2).2⟩⟩
theorem CS (s:Str) (k:Nat) (h:k < s.length):((⟨s.toArray⟩:ByteArray).get! k)=s.getD k 0:=by
 rw [Utf8W.get!_of_lt _ k (by simpa [ByteArray.size] using h)]
 have:(⟨s.toArray⟩:ByteArray)[k]'(by simpa [ByteArray.size] using h)=s[k]:=rfl
 rw [this]
 simp [List.getD_eq_getElem?_getD,h]
theorem uo (n b0 b1 b2 b3 c1 c2 c3:Nat) (h1:1 < n→b1=c1) (h2:2 < n→b2=c2) (h3:3 < n→b3=c3):Lib.decodeN n b0 b1 b2 b3=Lib.decodeN n b0 c1 c2 c3:=by
 rcases Nat.lt_or_ge 3 n with k | k
 ·rw [h1 (by omega),h2 (by omega),h3 k]
 rcases Nat.lt_or_ge 2 n with k2 | k2
 ·rw [h1 (by omega),h2 k2]
  unfold Lib.decodeN
  have e:¬3 < n:=by omega
  simp only [e,false_and,and_false,if_false]
 rcases Nat.lt_or_ge 1 n with k1 | k1
 ·rw [h1 k1]
  unfold Lib.decodeN
  have e:¬3 < n:=by omega
  have e':¬2 < n:=by omega
  simp only [e,e',false_and,and_false,if_false]
 ·unfold Lib.decodeN
  have e:¬3 < n:=by omega
  have e':¬2 < n:=by omega
  have e'':¬1 < n:=by omega
  simp only [e,e',e'',false_and,and_false,if_false]
theorem uq (s:Str):Lib.decodeGo ⟨s.toArray⟩=ju s:=by
 unfold Lib.decodeGo ju
 have hs:(⟨s.toArray⟩:ByteArray).size=s.length:=by simp [ByteArray.size]
 rw [hs]
 by_cases h:s=[]
 ·subst h;rfl
 have hl:=List.length_pos_iff.2 h
 rw [if_neg (by omega),if_neg h,Lib.decode_at,hs,Nat.sub_zero,CS s 0 hl]
 exact uo _ _ _ _ _ _ _ _ (fun k=>by rw [CS s 1 k]) (fun k=>by rw [CS s 2 k]) (fun k=>by rw [CS s 3 k])
def qP:Pat:=p1 .str fun s=>.ret (.tup [.int .i32 ((ju s).1:Int),.int .i64 ((ju s).2:Int)])
theorem we (s:Str):(ju s).1<=1114111/\(ju s).2<=s.length:=by
 by_cases h:s=[]
 ·subst h;decide
 ·have:=AZ h
  exact ⟨this.2.2.1,this.2.2.2.2⟩
theorem mI {f:Nat} (L:Lays.n197 P ρ) (hu:nX (ρ.g 3) (ρ.g 4)) (hf:ρ.f 197=f) (he:aV P f):an P f qP:=by
 subst hf
 refine bV he fun s _ ho=>?_
 refine eG fun w pub vs ht hv=>?_
 obtain ⟨v,rfl,h1⟩:=VL.one_inv hv
 obtain ⟨rfl,hl⟩:=h1.str_inv
 have hl':s.length<=9223372036854775807:=hl
 refine (Any.utf8_DecodeRuneInString L ⟨s.toArray⟩ w (hu.tabs ht)).mono ?_
 rintro en w' ⟨rfl,hb⟩
 refine ⟨⟨_,rfl,fun Ω=>?_⟩,hb⟩
 rw [uq]
 obtain ⟨d1,d2⟩:=we s
 exact V.of_tup (VL.cons (.int .i32 _ (by show (-2147483648:Int)<=_;omega) (by show _<=(2147483647:Int);omega)) (VL.cons (.int .i64 _ (by show (-9223372036854775808:Int)<=_;omega) (by show _<=(9223372036854775807:Int);omega)) .nil))
end Go.AL
end
section
namespace Go.Proofs
open Go.Shelf
def Tryz.lays160_ren:Go.Shelf.Ren:=⟨fun | 160=>108 | 232=>145 | 231=>144 | 227=>146 | 234=>148 | 233=>147 | 236=>150 | 235=>149 | 228=>183 | 271=>185 | 151=>184 | 197=>143 | 120=>216 | 152=>215 | 260=>182 | 137=>156 | 119=>244 | 224=>245 | 225=>246 | 217=>191 | 266=>225 | n=>n,fun | 9=>9 | 4=>4 | 3=>3 | 5=>5 | 117=>220 | 116=>219 | 0=>0 | 124=>223 | 21=>21 | 105=>215 | 46=>124 | 119=>248 | 139=>251 | 138=>250 | n=>n,fun | 3=>0 | 4=>1 | n=>n⟩
theorem Tryz.lays160:Go.Proofs.Lays.n160 Tryz.prog Tryz.lays160_ren:={
 mixed:=by kernel_rfl
 f119:=Xt Tryz.func244
 f120:=Xt Tryz.func216
 f137:=Xt Tryz.func156
 f151:=Xt Tryz.func184
 f152:=Xt Tryz.func215
 f160:=Xt Tryz.func108
 f197:=Xt Tryz.func143
 f217:=Xt Tryz.func191
 f224:=Xt Tryz.func245
 f225:=Xt Tryz.func246
 f227:=Xt Tryz.func146
 f228:=Xt Tryz.func183
 f231:=Xt Tryz.func144
 f232:=Xt Tryz.func145
 f233:=Xt Tryz.func147
 f234:=Xt Tryz.func148
 f235:=Xt Tryz.func149
 f236:=Xt Tryz.func150
 f260:=Xt Tryz.func182
 f266:=Xt Tryz.func225
 f271:=Xt Tryz.func185
 t0:=Tryz.underlying0
 a0:=Tryz.isAgg0
 z0:=Tryz.sizeOf0
 v0:=Tryz.zeroValue0
 t3:=Tryz.underlying3
 a3:=Tryz.isAgg3
 z3:=Tryz.sizeOf3
 v3:=Tryz.zeroValue3
 t4:=Tryz.underlying4
 a4:=Tryz.isAgg4
 z4:=Tryz.sizeOf4
 v4:=Tryz.zeroValue4
 t5:=Tryz.underlying5
 a5:=Tryz.isAgg5
 z5:=Tryz.sizeOf5
 v5:=Tryz.zeroValue5
 t9:=Tryz.underlying9
 a9:=Tryz.isAgg9
 z9:=Tryz.sizeOf9
 v9:=Tryz.zeroValue9
 t21:=Tryz.underlying21
 a21:=Tryz.isAgg21
 z21:=Tryz.sizeOf21
 v21:=Tryz.zeroValue21
 t46:=Tryz.underlying124
 a46:=Tryz.isAgg124
 z46:=Tryz.sizeOf124
 v46:=Tryz.zeroValue124
 t105:=Tryz.underlying215
 a105:=Tryz.isAgg215
 z105:=Tryz.sizeOf215
 v105:=Tryz.zeroValue215
 t116:=Tryz.underlying219
 a116:=Tryz.isAgg219
 z116:=Tryz.sizeOf219
 t117:=Tryz.underlying220
 a117:=Tryz.isAgg220
 z117:=Tryz.sizeOf220
 v117:=Tryz.zeroValue220
 t119:=Tryz.underlying248
 a119:=Tryz.isAgg248
 z119:=Tryz.sizeOf248
 t124:=Tryz.underlying223
 a124:=Tryz.isAgg223
 z124:=Tryz.sizeOf223
 v124:=Tryz.zeroValue223
 t138:=Tryz.underlying250
 a138:=Tryz.isAgg250
 z138:=Tryz.sizeOf250
 v138:=Tryz.zeroValue250
 t139:=Tryz.underlying251
 a139:=Tryz.isAgg251
 z139:=Tryz.sizeOf251
 v139:=Tryz.zeroValue251
 g3:=by kernel_rfl
 g4:=by kernel_rfl}
def Tryz.lays145_ren:Go.Shelf.Ren:=⟨fun | 145=>151 | 220=>186 | 219=>217 | 217=>191 | 225=>246 | 224=>245 | 267=>247 | 266=>225 | 314=>261 | n=>n,fun | 9=>9 | 4=>4 | 59=>224 | 3=>3 | 5=>5 | 46=>124 | 146=>295 | 51=>280 | n=>n,fun | 1=>2 | n=>n⟩
theorem Tryz.lays145:Go.Proofs.Lays.n145 Tryz.prog Tryz.lays145_ren:={
 mixed:=by kernel_rfl
 f145:=Xt Tryz.func151
 f217:=Xt Tryz.func191
 f219:=Xt Tryz.func217
 f220:=Xt Tryz.func186
 f224:=Xt Tryz.func245
 f225:=Xt Tryz.func246
 f266:=Xt Tryz.func225
 f267:=Xt Tryz.func247
 f314:=Xt Tryz.func261
 t3:=Tryz.underlying3
 a3:=Tryz.isAgg3
 z3:=Tryz.sizeOf3
 v3:=Tryz.zeroValue3
 t4:=Tryz.underlying4
 a4:=Tryz.isAgg4
 z4:=Tryz.sizeOf4
 v4:=Tryz.zeroValue4
 t5:=Tryz.underlying5
 a5:=Tryz.isAgg5
 z5:=Tryz.sizeOf5
 v5:=Tryz.zeroValue5
 t9:=Tryz.underlying9
 a9:=Tryz.isAgg9
 z9:=Tryz.sizeOf9
 v9:=Tryz.zeroValue9
 t46:=Tryz.underlying124
 a46:=Tryz.isAgg124
 z46:=Tryz.sizeOf124
 v46:=Tryz.zeroValue124
 t51:=Tryz.underlying280
 a51:=Tryz.isAgg280
 z51:=Tryz.sizeOf280
 v51:=Tryz.zeroValue280
 t59:=Tryz.underlying224
 a59:=Tryz.isAgg224
 z59:=Tryz.sizeOf224
 v59:=Tryz.zeroValue224
 t146:=Tryz.underlying295
 a146:=Tryz.isAgg295
 z146:=Tryz.sizeOf295
 v146:=Tryz.zeroValue295
 g1:=by kernel_rfl}
def Tryz.lays146_ren:Go.Shelf.Ren:=⟨fun | 146=>152 | 221=>187 | 268=>218 | 138=>219 | 143=>192 | 195=>248 | 197=>143 | 218=>249 | 219=>217 | 260=>182 | 217=>191 | 225=>246 | 224=>245 | 267=>247 | 266=>225 | 314=>261 | n=>n,fun | 9=>9 | 31=>22 | 3=>3 | 4=>4 | 0=>0 | 105=>215 | 21=>21 | 5=>5 | 46=>124 | 119=>248 | 139=>251 | 138=>250 | 146=>295 | 51=>280 | n=>n,fun | 1=>2 | 3=>0 | 4=>1 | n=>n⟩
theorem Tryz.lays146:Go.Proofs.Lays.n146 Tryz.prog Tryz.lays146_ren:={
 mixed:=by kernel_rfl
 f138:=Xt Tryz.func219
 f143:=Xt Tryz.func192
 f146:=Xt Tryz.func152
 f195:=Xt Tryz.func248
 f197:=Xt Tryz.func143
 f217:=Xt Tryz.func191
 f218:=Xt Tryz.func249
 f219:=Xt Tryz.func217
 f221:=Xt Tryz.func187
 f224:=Xt Tryz.func245
 f225:=Xt Tryz.func246
 f260:=Xt Tryz.func182
 f266:=Xt Tryz.func225
 f267:=Xt Tryz.func247
 f268:=Xt Tryz.func218
 f314:=Xt Tryz.func261
 t0:=Tryz.underlying0
 a0:=Tryz.isAgg0
 z0:=Tryz.sizeOf0
 v0:=Tryz.zeroValue0
 t3:=Tryz.underlying3
 a3:=Tryz.isAgg3
 z3:=Tryz.sizeOf3
 v3:=Tryz.zeroValue3
 t4:=Tryz.underlying4
 a4:=Tryz.isAgg4
 z4:=Tryz.sizeOf4
 v4:=Tryz.zeroValue4
 t5:=Tryz.underlying5
 a5:=Tryz.isAgg5
 z5:=Tryz.sizeOf5
 v5:=Tryz.zeroValue5
 t9:=Tryz.underlying9
 a9:=Tryz.isAgg9
 z9:=Tryz.sizeOf9
 v9:=Tryz.zeroValue9
 t21:=Tryz.underlying21
 a21:=Tryz.isAgg21
 z21:=Tryz.sizeOf21
 v21:=Tryz.zeroValue21
 t31:=Tryz.underlying22
 a31:=Tryz.isAgg22
 z31:=Tryz.sizeOf22
 v31:=Tryz.zeroValue22
 t46:=Tryz.underlying124
 a46:=Tryz.isAgg124
 z46:=Tryz.sizeOf124
 v46:=Tryz.zeroValue124
 t51:=Tryz.underlying280
 a51:=Tryz.isAgg280
 z51:=Tryz.sizeOf280
 v51:=Tryz.zeroValue280
 t105:=Tryz.underlying215
 a105:=Tryz.isAgg215
 z105:=Tryz.sizeOf215
 v105:=Tryz.zeroValue215
 t119:=Tryz.underlying248
 a119:=Tryz.isAgg248
 z119:=Tryz.sizeOf248
 t138:=Tryz.underlying250
 a138:=Tryz.isAgg250
 z138:=Tryz.sizeOf250
 v138:=Tryz.zeroValue250
 t139:=Tryz.underlying251
 a139:=Tryz.isAgg251
 z139:=Tryz.sizeOf251
 v139:=Tryz.zeroValue251
 t146:=Tryz.underlying295
 a146:=Tryz.isAgg295
 z146:=Tryz.sizeOf295
 v146:=Tryz.zeroValue295
 g1:=by kernel_rfl
 g3:=by kernel_rfl
 g4:=by kernel_rfl}
def Tryz.lays144_ren:Go.Shelf.Ren:=⟨fun | 144=>158 | 143=>192 | 219=>217 | 217=>191 | 225=>246 | 224=>245 | 267=>247 | 266=>225 | 314=>261 | n=>n,fun | 9=>9 | 4=>4 | 3=>3 | 5=>5 | 46=>124 | 146=>295 | 51=>280 | n=>n,fun | 1=>2 | n=>n⟩
theorem Tryz.lays144:Go.Proofs.Lays.n144 Tryz.prog Tryz.lays144_ren:={
 mixed:=by kernel_rfl
 f143:=Xt Tryz.func192
 f144:=Xt Tryz.func158
 f217:=Xt Tryz.func191
 f219:=Xt Tryz.func217
 f224:=Xt Tryz.func245
 f225:=Xt Tryz.func246
 f266:=Xt Tryz.func225
 f267:=Xt Tryz.func247
 f314:=Xt Tryz.func261
 t3:=Tryz.underlying3
 a3:=Tryz.isAgg3
 z3:=Tryz.sizeOf3
 v3:=Tryz.zeroValue3
 t4:=Tryz.underlying4
 a4:=Tryz.isAgg4
 z4:=Tryz.sizeOf4
 v4:=Tryz.zeroValue4
 t5:=Tryz.underlying5
 a5:=Tryz.isAgg5
 z5:=Tryz.sizeOf5
 v5:=Tryz.zeroValue5
 t9:=Tryz.underlying9
 a9:=Tryz.isAgg9
 z9:=Tryz.sizeOf9
 v9:=Tryz.zeroValue9
 t46:=Tryz.underlying124
 a46:=Tryz.isAgg124
 z46:=Tryz.sizeOf124
 v46:=Tryz.zeroValue124
 t51:=Tryz.underlying280
 a51:=Tryz.isAgg280
 z51:=Tryz.sizeOf280
 v51:=Tryz.zeroValue280
 t146:=Tryz.underlying295
 a146:=Tryz.isAgg295
 z146:=Tryz.sizeOf295
 v146:=Tryz.zeroValue295
 g1:=by kernel_rfl}
def Tryz.lays137_ren:Go.Shelf.Ren:=⟨fun | 137=>156 | 217=>191 | 266=>225 | n=>n,fun | 9=>9 | 5=>5 | 3=>3 | n=>n,fun | n=>n⟩
theorem Tryz.lays137:Go.Proofs.Lays.n137 Tryz.prog Tryz.lays137_ren:={
 mixed:=by kernel_rfl
 f137:=Xt Tryz.func156
 f217:=Xt Tryz.func191
 f266:=Xt Tryz.func225
 t3:=Tryz.underlying3
 a3:=Tryz.isAgg3
 z3:=Tryz.sizeOf3
 v3:=Tryz.zeroValue3
 t5:=Tryz.underlying5
 a5:=Tryz.isAgg5
 z5:=Tryz.sizeOf5
 v5:=Tryz.zeroValue5
 t9:=Tryz.underlying9
 a9:=Tryz.isAgg9
 z9:=Tryz.sizeOf9
 v9:=Tryz.zeroValue9}
def Tryz.lays197_ren:Go.Shelf.Ren:=⟨fun | 197=>143 | 260=>182 | n=>n,fun | 9=>9 | 21=>21 | 3=>3 | 4=>4 | 5=>5 | 105=>215 | 119=>248 | 0=>0 | 46=>124 | 139=>251 | 138=>250 | n=>n,fun | 3=>0 | 4=>1 | n=>n⟩
theorem Tryz.lays197:Go.Proofs.Lays.n197 Tryz.prog Tryz.lays197_ren:={
 mixed:=by kernel_rfl
 f197:=Xt Tryz.func143
 f260:=Xt Tryz.func182
 t0:=Tryz.underlying0
 a0:=Tryz.isAgg0
 z0:=Tryz.sizeOf0
 v0:=Tryz.zeroValue0
 t3:=Tryz.underlying3
 a3:=Tryz.isAgg3
 z3:=Tryz.sizeOf3
 v3:=Tryz.zeroValue3
 t4:=Tryz.underlying4
 a4:=Tryz.isAgg4
 z4:=Tryz.sizeOf4
 v4:=Tryz.zeroValue4
 t5:=Tryz.underlying5
 a5:=Tryz.isAgg5
 z5:=Tryz.sizeOf5
 v5:=Tryz.zeroValue5
 t9:=Tryz.underlying9
 a9:=Tryz.isAgg9
 z9:=Tryz.sizeOf9
 v9:=Tryz.zeroValue9
 t21:=Tryz.underlying21
 a21:=Tryz.isAgg21
 z21:=Tryz.sizeOf21
 v21:=Tryz.zeroValue21
 t46:=Tryz.underlying124
 a46:=Tryz.isAgg124
 z46:=Tryz.sizeOf124
 v46:=Tryz.zeroValue124
 t105:=Tryz.underlying215
 a105:=Tryz.isAgg215
 z105:=Tryz.sizeOf215
 v105:=Tryz.zeroValue215
 t119:=Tryz.underlying248
 a119:=Tryz.isAgg248
 z119:=Tryz.sizeOf248
 t138:=Tryz.underlying250
 a138:=Tryz.isAgg250
 z138:=Tryz.sizeOf250
 v138:=Tryz.zeroValue250
 t139:=Tryz.underlying251
 a139:=Tryz.isAgg251
 z139:=Tryz.sizeOf251
 v139:=Tryz.zeroValue251
 g3:=by kernel_rfl
 g4:=by kernel_rfl}
def Tryz.lays196_ren:Go.Shelf.Ren:=⟨fun | 196=>168 | 259=>204 | n=>n,fun | 9=>9 | 4=>4 | 3=>3 | 5=>5 | 12=>12 | 119=>248 | 0=>0 | 46=>124 | 139=>251 | 138=>250 | 53=>80 | n=>n,fun | 3=>0 | 4=>1 | n=>n⟩
theorem Tryz.lays196:Go.Proofs.Lays.n196 Tryz.prog Tryz.lays196_ren:={
 mixed:=by kernel_rfl
 f196:=Xt Tryz.func168
 f259:=Xt Tryz.func204
 t0:=Tryz.underlying0
 a0:=Tryz.isAgg0
 z0:=Tryz.sizeOf0
 v0:=Tryz.zeroValue0
 t3:=Tryz.underlying3
 a3:=Tryz.isAgg3
 z3:=Tryz.sizeOf3
 v3:=Tryz.zeroValue3
 t4:=Tryz.underlying4
 a4:=Tryz.isAgg4
 z4:=Tryz.sizeOf4
 v4:=Tryz.zeroValue4
 t5:=Tryz.underlying5
 a5:=Tryz.isAgg5
 z5:=Tryz.sizeOf5
 v5:=Tryz.zeroValue5
 t9:=Tryz.underlying9
 a9:=Tryz.isAgg9
 z9:=Tryz.sizeOf9
 v9:=Tryz.zeroValue9
 t12:=Tryz.underlying12
 a12:=Tryz.isAgg12
 z12:=Tryz.sizeOf12
 v12:=Tryz.zeroValue12
 t46:=Tryz.underlying124
 a46:=Tryz.isAgg124
 z46:=Tryz.sizeOf124
 v46:=Tryz.zeroValue124
 t53:=Tryz.underlying80
 a53:=Tryz.isAgg80
 z53:=Tryz.sizeOf80
 v53:=Tryz.zeroValue80
 t119:=Tryz.underlying248
 a119:=Tryz.isAgg248
 z119:=Tryz.sizeOf248
 t138:=Tryz.underlying250
 a138:=Tryz.isAgg250
 z138:=Tryz.sizeOf250
 v138:=Tryz.zeroValue250
 t139:=Tryz.underlying251
 a139:=Tryz.isAgg251
 z139:=Tryz.sizeOf251
 v139:=Tryz.zeroValue251
 g3:=by kernel_rfl
 g4:=by kernel_rfl}
end Go.Proofs
end
section
namespace Go.Proofs
open Go.Shelf
def Tryz.lays190_ren:Go.Shelf.Ren:=⟨fun | 190=>180 | 125=>214 | 258=>213 | 128=>243 | 129=>90 | 302=>234 | 303=>235 | 304=>236 | 305=>237 | 306=>238 | 307=>239 | 308=>240 | 309=>241 | 310=>242 | 333=>255 | 329=>256 | 330=>257 | 334=>258 | 335=>259 | 336=>260 | 344=>265 | n=>n,fun | 31=>22 | 9=>9 | 3=>3 | 46=>124 | 0=>0 | 51=>280 | 53=>80 | 4=>4 | 183=>273 | 182=>272 | 131=>277 | 5=>5 | 218=>289 | 222=>293 | 228=>301 | 229=>108 | n=>n,fun | n=>n⟩
theorem Tryz.lays190:Go.Proofs.Lays.n190 Tryz.prog Tryz.lays190_ren:={
 mixed:=by kernel_rfl
 f125:=Xt Tryz.func214
 f128:=Xt Tryz.func243
 f129:=Xt Tryz.func90
 f190:=Xt Tryz.func180
 f258:=Xt Tryz.func213
 f302:=Xt Tryz.func234
 f303:=Xt Tryz.func235
 f304:=Xt Tryz.func236
 f305:=Xt Tryz.func237
 f306:=Xt Tryz.func238
 f307:=Xt Tryz.func239
 f308:=Xt Tryz.func240
 f309:=Xt Tryz.func241
 f310:=Xt Tryz.func242
 f329:=Xt Tryz.func256
 f330:=Xt Tryz.func257
 f333:=Xt Tryz.func255
 f334:=Xt Tryz.func258
 f335:=Xt Tryz.func259
 f336:=Xt Tryz.func260
 f344:=Xt Tryz.func265
 t0:=Tryz.underlying0
 a0:=Tryz.isAgg0
 z0:=Tryz.sizeOf0
 v0:=Tryz.zeroValue0
 t3:=Tryz.underlying3
 a3:=Tryz.isAgg3
 z3:=Tryz.sizeOf3
 v3:=Tryz.zeroValue3
 t4:=Tryz.underlying4
 a4:=Tryz.isAgg4
 z4:=Tryz.sizeOf4
 v4:=Tryz.zeroValue4
 t5:=Tryz.underlying5
 a5:=Tryz.isAgg5
 z5:=Tryz.sizeOf5
 v5:=Tryz.zeroValue5
 t9:=Tryz.underlying9
 a9:=Tryz.isAgg9
 z9:=Tryz.sizeOf9
 v9:=Tryz.zeroValue9
 t31:=Tryz.underlying22
 a31:=Tryz.isAgg22
 z31:=Tryz.sizeOf22
 v31:=Tryz.zeroValue22
 t46:=Tryz.underlying124
 a46:=Tryz.isAgg124
 z46:=Tryz.sizeOf124
 v46:=Tryz.zeroValue124
 t51:=Tryz.underlying280
 a51:=Tryz.isAgg280
 z51:=Tryz.sizeOf280
 v51:=Tryz.zeroValue280
 t53:=Tryz.underlying80
 a53:=Tryz.isAgg80
 z53:=Tryz.sizeOf80
 v53:=Tryz.zeroValue80
 t131:=Tryz.underlying277
 a131:=Tryz.isAgg277
 z131:=Tryz.sizeOf277
 v131:=Tryz.zeroValue277
 t182:=Tryz.underlying272
 a182:=Tryz.isAgg272
 z182:=Tryz.sizeOf272
 v182:=Tryz.zeroValue272
 t183:=Tryz.underlying273
 a183:=Tryz.isAgg273
 z183:=Tryz.sizeOf273
 v183:=Tryz.zeroValue273
 t218:=Tryz.underlying289
 a218:=Tryz.isAgg289
 z218:=Tryz.sizeOf289
 v218:=Tryz.zeroValue289
 t222:=Tryz.underlying293
 a222:=Tryz.isAgg293
 z222:=Tryz.sizeOf293
 v222:=Tryz.zeroValue293
 t228:=Tryz.underlying301
 a228:=Tryz.isAgg301
 z228:=Tryz.sizeOf301
 v228:=Tryz.zeroValue301
 t229:=Tryz.underlying108
 a229:=Tryz.isAgg108
 z229:=Tryz.sizeOf108
 v229:=Tryz.zeroValue108}
def Tryz.lays194_ren:Go.Shelf.Ren:=⟨fun | 194=>142 | n=>n,fun | 31=>22 | 9=>9 | 3=>3 | 4=>4 | 0=>0 | n=>n,fun | n=>n⟩
theorem Tryz.lays194:Go.Proofs.Lays.n194 Tryz.prog Tryz.lays194_ren:={
 mixed:=by kernel_rfl
 f194:=Xt Tryz.func142
 t0:=Tryz.underlying0
 a0:=Tryz.isAgg0
 z0:=Tryz.sizeOf0
 v0:=Tryz.zeroValue0
 t3:=Tryz.underlying3
 a3:=Tryz.isAgg3
 z3:=Tryz.sizeOf3
 v3:=Tryz.zeroValue3
 t4:=Tryz.underlying4
 a4:=Tryz.isAgg4
 z4:=Tryz.sizeOf4
 v4:=Tryz.zeroValue4
 t9:=Tryz.underlying9
 a9:=Tryz.isAgg9
 z9:=Tryz.sizeOf9
 v9:=Tryz.zeroValue9
 t31:=Tryz.underlying22
 a31:=Tryz.isAgg22
 z31:=Tryz.sizeOf22
 v31:=Tryz.zeroValue22}
def Tryz.lays172_ren:Go.Shelf.Ren:=⟨fun | 172=>154 | 244=>188 | 245=>189 | 247=>220 | 279=>221 | 280=>222 | 281=>223 | 282=>224 | 287=>250 | 316=>251 | 171=>253 | 205=>252 | 321=>262 | 322=>263 | 243=>264 | 246=>266 | 283=>267 | 284=>268 | 285=>269 | 286=>270 | 129=>90 | 317=>271 | 318=>272 | 319=>273 | 320=>274 | 337=>275 | 338=>276 | n=>n,fun | 9=>9 | 3=>3 | 75=>129 | 76=>130 | 4=>4 | 5=>5 | 167=>261 | 37=>122 | 0=>0 | 85=>262 | 2=>2 | 168=>264 | 53=>80 | 175=>283 | 46=>124 | 210=>286 | 127=>176 | 145=>300 | 143=>298 | 21=>21 | 171=>304 | 173=>306 | 212=>309 | 51=>280 | 20=>20 | 213=>310 | 232=>311 | 233=>312 | 80=>132 | n=>n,fun | 15=>3 | 16=>4 | 17=>5 | 18=>6 | 19=>7 | n=>n⟩
theorem Tryz.lays172:Go.Proofs.Lays.n172 Tryz.prog Tryz.lays172_ren:={
 mixed:=by kernel_rfl
 f129:=Xt Tryz.func90
 f171:=Xt Tryz.func253
 f172:=Xt Tryz.func154
 f205:=Xt Tryz.func252
 f243:=Xt Tryz.func264
 f244:=Xt Tryz.func188
 f245:=Xt Tryz.func189
 f246:=Xt Tryz.func266
 f247:=Xt Tryz.func220
 f279:=Xt Tryz.func221
 f280:=Xt Tryz.func222
 f281:=Xt Tryz.func223
 f282:=Xt Tryz.func224
 f283:=Xt Tryz.func267
 f284:=Xt Tryz.func268
 f285:=Xt Tryz.func269
 f286:=Xt Tryz.func270
 f287:=Xt Tryz.func250
 f316:=Xt Tryz.func251
 f317:=Xt Tryz.func271
 f318:=Xt Tryz.func272
 f319:=Xt Tryz.func273
 f320:=Xt Tryz.func274
 f321:=Xt Tryz.func262
 f322:=Xt Tryz.func263
 f337:=Xt Tryz.func275
 f338:=Xt Tryz.func276
 t0:=Tryz.underlying0
 a0:=Tryz.isAgg0
 z0:=Tryz.sizeOf0
 v0:=Tryz.zeroValue0
 t2:=Tryz.underlying2
 a2:=Tryz.isAgg2
 z2:=Tryz.sizeOf2
 v2:=Tryz.zeroValue2
 t3:=Tryz.underlying3
 a3:=Tryz.isAgg3
 z3:=Tryz.sizeOf3
 v3:=Tryz.zeroValue3
 t4:=Tryz.underlying4
 a4:=Tryz.isAgg4
 z4:=Tryz.sizeOf4
 v4:=Tryz.zeroValue4
 t5:=Tryz.underlying5
 a5:=Tryz.isAgg5
 z5:=Tryz.sizeOf5
 v5:=Tryz.zeroValue5
 t9:=Tryz.underlying9
 a9:=Tryz.isAgg9
 z9:=Tryz.sizeOf9
 v9:=Tryz.zeroValue9
 t20:=Tryz.underlying20
 a20:=Tryz.isAgg20
 z20:=Tryz.sizeOf20
 v20:=Tryz.zeroValue20
 t21:=Tryz.underlying21
 a21:=Tryz.isAgg21
 z21:=Tryz.sizeOf21
 v21:=Tryz.zeroValue21
 t37:=Tryz.underlying122
 a37:=Tryz.isAgg122
 z37:=Tryz.sizeOf122
 v37:=Tryz.zeroValue122
 t46:=Tryz.underlying124
 a46:=Tryz.isAgg124
 z46:=Tryz.sizeOf124
 v46:=Tryz.zeroValue124
 t51:=Tryz.underlying280
 a51:=Tryz.isAgg280
 z51:=Tryz.sizeOf280
 v51:=Tryz.zeroValue280
 t53:=Tryz.underlying80
 a53:=Tryz.isAgg80
 z53:=Tryz.sizeOf80
 v53:=Tryz.zeroValue80
 t75:=Tryz.underlying129
 a75:=Tryz.isAgg129
 z75:=Tryz.sizeOf129
 v75:=Tryz.zeroValue129
 t76:=Tryz.underlying130
 a76:=Tryz.isAgg130
 z76:=Tryz.sizeOf130
 v76:=Tryz.zeroValue130
 t85:=Tryz.underlying262
 a85:=Tryz.isAgg262
 z85:=Tryz.sizeOf262
 v85:=Tryz.zeroValue262
 t127:=Tryz.underlying176
 a127:=Tryz.isAgg176
 z127:=Tryz.sizeOf176
 v127:=Tryz.zeroValue176
 t143:=Tryz.underlying298
 a143:=Tryz.isAgg298
 z143:=Tryz.sizeOf298
 v143:=Tryz.zeroValue298
 t145:=Tryz.underlying300
 a145:=Tryz.isAgg300
 z145:=Tryz.sizeOf300
 v145:=Tryz.zeroValue300
 t167:=Tryz.underlying261
 a167:=Tryz.isAgg261
 z167:=Tryz.sizeOf261
 v167:=Tryz.zeroValue261
 t168:=Tryz.underlying264
 a168:=Tryz.isAgg264
 z168:=Tryz.sizeOf264
 v168:=Tryz.zeroValue264
 t171:=Tryz.underlying304
 a171:=Tryz.isAgg304
 z171:=Tryz.sizeOf304
 v171:=Tryz.zeroValue304
 t173:=Tryz.underlying306
 a173:=Tryz.isAgg306
 z173:=Tryz.sizeOf306
 v173:=Tryz.zeroValue306
 t175:=Tryz.underlying283
 a175:=Tryz.isAgg283
 z175:=Tryz.sizeOf283
 v175:=Tryz.zeroValue283
 t210:=Tryz.underlying286
 a210:=Tryz.isAgg286
 z210:=Tryz.sizeOf286
 v210:=Tryz.zeroValue286
 t212:=Tryz.underlying309
 a212:=Tryz.isAgg309
 z212:=Tryz.sizeOf309
 v212:=Tryz.zeroValue309
 t213:=Tryz.underlying310
 a213:=Tryz.isAgg310
 z213:=Tryz.sizeOf310
 t232:=Tryz.underlying311
 a232:=Tryz.isAgg311
 z232:=Tryz.sizeOf311
 v232:=Tryz.zeroValue311
 t233:=Tryz.underlying312
 a233:=Tryz.isAgg312
 z233:=Tryz.sizeOf312
 v233:=Tryz.zeroValue312
 g15:=by kernel_rfl
 g16:=by kernel_rfl
 g17:=by kernel_rfl
 g18:=by kernel_rfl
 g19:=by kernel_rfl}
def Tryz.sorted200_ren:Go.Shelf.Ren:=⟨fun | 6=>140 | 8=>179 | 9=>180 | 11=>212 | 13=>214 | 12=>213 | 23=>243 | 24=>90 | 14=>234 | 15=>235 | 16=>236 | 17=>237 | 18=>238 | 19=>239 | 20=>240 | 21=>241 | 22=>242 | 25=>255 | 26=>256 | 27=>257 | 28=>258 | 29=>259 | 30=>260 | 31=>265 | n=>n,fun | 26=>9 | 28=>213 | 24=>22 | 0=>0 | 3=>3 | 37=>124 | 48=>280 | 50=>80 | 4=>4 | 40=>273 | 39=>272 | 45=>277 | 5=>5 | 9=>9 | 51=>289 | 55=>293 | 57=>301 | 58=>108 | 33=>46 | n=>n,fun | n=>n⟩
theorem Tryz.sorted200:Go.Proofs.SlLaysZ.n6 Tryz.prog Tryz.sorted200_ren:={
 mixed:=by kernel_rfl
 f6:=⟨Tryz.f140.name,by decide,Xt Tryz.func140⟩
 f8:=⟨Tryz.f179.name,by decide,Xt Tryz.func179⟩
 f11:=⟨Tryz.f212.name,by decide,Xt Tryz.func212⟩
 t0:=Tryz.underlying0
 a0:=Tryz.isAgg0
 z0:=Tryz.sizeOf0
 v0:=Tryz.zeroValue0
 t24:=Tryz.underlying22
 a24:=Tryz.isAgg22
 z24:=Tryz.sizeOf22
 v24:=Tryz.zeroValue22
 t26:=Tryz.underlying9
 a26:=Tryz.isAgg9
 z26:=Tryz.sizeOf9
 v26:=Tryz.zeroValue9
 t28:=Tryz.underlying213
 a28:=Tryz.isAgg213
 z28:=Tryz.sizeOf213
 v28:=Tryz.zeroValue213
 i26:=by kernel_rfl}
end Go.Proofs
end
section
namespace Go.Proofs
open Go.RowKit Go.Shelf Go.AL
variable [Tabs]
attribute [local go_sem] Oper.semAt_some
set_option maxRecDepth 100000 in
set_option maxHeartbeats 2000000 in
theorem Tryz.values1 (F:Fence) (n:Nat) (h7:F.fn 181) (hro:F.round=none) (hn:1<=n) (l Bs Bo b off len cap:Nat) (zs:List Str) (hreach:len<=maxLen) (J:List Str→World→Prop) (hBl:∀pre W,J pre W→W.cell? ⟨Bs,Bo,none⟩=some (.slice (some ⟨b,off,none⟩) len cap)/\∀j,j < len→W.cell? ⟨b,off+j,none⟩=some (encStr (zs[j]?.getD [])))
  (hY:∀pre x W,J pre W→pre.length < len→YieldAt F (n - 1) Tryz.prog l #[encStr x] W fun e W'=>e=.returned (.bool true)/\J (pre++[x]) W')
  (W:World) (h0:J [] W) :
  CallsIn F n Tryz.prog 181 #[.func (.yield l) #[] #[],.pointer (some ⟨Bs,Bo,none⟩)] W fun e W'=>(∃v,e=.returned v)/\∃ys,ys=qJ (fun j=>zs[j]?.getD []) len/\J ys W':=by
 obtain ⟨hBs,hc⟩:=hBl _ _ h0
 refine callsIn_of_wp Tryz.func181 rfl h7 ?_ hro
 simp only [Tryz.ntmps181,List.size_toArray,List.length_cons,List.length_nil,Nat.reduceAdd,Nat.reduceSub,Array.replicate_succ,Array.replicate_zero,List.push_toArray,List.append_toArray,List.nil_append,List.cons_append]
 gi_wp2
 gi_loopw [7] (fun i wr=>∃k:Nat,k<=len/\i=.int .i64 k/\J (qJ (fun j=>zs[j]?.getD []) k) wr)
  (fun i _=>len - (intOf i).toNat)
 case atStart=>exact ⟨0,Nat.zero_le _,rfl,h0⟩
 case round=>
  obtain ⟨k,hk,rfl,hJs⟩:=hrel
  have hcx:k < len→wr.cell? ⟨b,off+k,none⟩=some (encStr (zs[k]?.getD [])):=fun h=>(hBl _ _ hJs).2 k h
  by_cases hlt:k < len
  ·obtain ⟨fn,tmps,assign,body,hy,hR⟩:=hY _ (zs[k]?.getD []) wr hJs (by rw [uc];exact hlt)
   have hcx':=hcx hlt
   have hsmall:(k:Int)+1<=9223372036854775807:=by unfold maxLen at hreach;omega
   gi_wp2
   refine hR.mono ?_
   rintro e W3 ⟨rfl,hJ3⟩
   gi_wp2
   go_roundw
   case rel=>exact ⟨k+1,by omega,by simp,by rw [yV];exact hJ3⟩
   case measure=>simp [intOf];omega
  ·obtain rfl:k=len:=by omega
   gi_wp2
   go_end0
   exact ⟨⟨_,rfl⟩,_,rfl,hJs⟩
set_option maxRecDepth 100000 in
set_option maxHeartbeats 1000000 in
theorem Tryz.values1_nil (F:Fence) (n:Nat) (h7:F.fn 181) (hro:F.round=none) (l Bs Bo cap:Nat) (a:Option Addr) (J:List Str→World→Prop) (W:World) (hBs:W.cell? ⟨Bs,Bo,none⟩=some (.slice a 0 cap)) (h0:J [] W) :
  CallsIn F n Tryz.prog 181 #[.func (.yield l) #[] #[],.pointer (some ⟨Bs,Bo,none⟩)] W fun e W'=>(∃v,e=.returned v)/\J [] W':=by
 refine callsIn_of_wp Tryz.func181 rfl h7 ?_ hro
 simp only [Tryz.ntmps181,List.size_toArray,List.length_cons,List.length_nil,Nat.reduceAdd,Nat.reduceSub,Array.replicate_succ,Array.replicate_zero,List.push_toArray,List.append_toArray,List.nil_append,List.cons_append]
 gi_wp2
 gi_loopw [7] (fun i wr=>i=.int .i64 0/\J [] wr) (fun _ _=>0)
 case atStart=>exact ⟨rfl,h0⟩
 case round=>
  obtain ⟨rfl,hJs⟩:=hrel
  gi_wp2
  go_end0
  exact ⟨⟨_,rfl⟩,hJs⟩
theorem Tryz.valuesL:sV Tryz.prog 181:=by
 intro w b o sv zs hz hc hs l J W a1 a2 a3 a4 a5
 have hb:=aN hc
 rcases hs with ⟨⟨a,cap,rfl⟩,rfl⟩ | ⟨g,off,cap,rfl,hg,hcs⟩
 ·refine (Tryz.values1_nil Fence.wide 2 trivial rfl l b o cap a J W ((a1.cell (p:=⟨b,o,none⟩) hb).trans hc) a5).mono ?_
  rintro e W' ⟨h1,h2⟩
  exact ⟨h1,[],rfl,h2⟩
 ·refine (Tryz.values1 Fence.wide 2 trivial rfl (by omega) l b o g off zs.length cap zs hz J (fun pre W1 hJ=>⟨((a3 _ _ hJ).cell (p:=⟨b,o,none⟩) hb).trans hc,fun j hj=>((a3 _ _ hJ).cell (p:=⟨g,off+j,none⟩) hg).trans (hcs j hj)⟩)
   (fun pre x W1 h1 h2=>(a4 pre x W1 h1 h2).mono fun e W' h=>⟨h.1,h.2.1⟩) W a5).mono ?_
  rintro e W' ⟨h1,ys,h2,h3⟩
  exact ⟨h1,ys,by rw [h2,AT],h3⟩
end Go.Proofs
end
section
namespace Go.AL.Seat
open Go Go.AL Go.Proofs Go.Shelf Go.Pd
variable [Tabs]
theorem Ex:SortL Tryz.prog Tryz.sorted200_ren:=
 ⟨Tryz.sorted200,⟨fun blk off cap ss W hH hblk hsz=>callsIn_wide.2 (Any.slices_Sort_string Tryz.lays190 blk off cap ss W hH hblk hsz),fun p cap W=>callsIn_wide.2 (Any.slices_Sort_string_none Tryz.lays190 p cap W)⟩,enters_of Tryz.func180 (by kernel_rfl) rfl⟩
theorem wg:an Tryz.prog 140 (la 181):=
 qL Ex rfl (enters_of Tryz.func181 (by kernel_rfl) rfl) Tryz.valuesL (aV.mk' Tryz.func140 (by kernel_rfl))
theorem ur:an Tryz.prog 142 ld:=qM Tryz.lays194 rfl (aV.mk' Tryz.func142 (by kernel_rfl))
theorem Bd:an Tryz.prog 154 (p1 .str fun t=>⟨some (rq t),none,.tup [.int .i64 (kT t),.nilif],[]⟩):=w9 Tryz.lays172 rfl (aV.mk' Tryz.func154 (by kernel_rfl))
end Go.AL.Seat
end
section
namespace Go.AL.Seat
open Go Go.AL Go.Proofs Go.Shelf Go.Pd
class SeatLaid [Tabs]:Prop where
 max:∃m:Int,Tabs.tab 2 0 (.int .i64 m)
 utf:nX 0 1
variable [Tabs] [SeatLaid]
theorem Be:an Tryz.prog 108 (p2 .str .str fun a b=>⟨some (b=pM),none,.str (pN a),[]⟩):=wa Tryz.lays160 (by kernel_rfl) rfl (aV.mk' Tryz.func108 (by kernel_rfl))
theorem CT:an Tryz.prog 151 (p2 .str .str fun a b=>⟨some (b=[45]/\a.length < 4294967281),none,.tup [.str (iv a),.str (lf a),.bool (mH a)],[]⟩):=
 let ⟨_,hm⟩:=SeatLaid.max;yZ Tryz.lays145 hm rfl (aV.mk' Tryz.func151 (by kernel_rfl))
theorem za:an Tryz.prog 152 (p2 .str .str fun a b=>⟨some (b=[46]/\a.length < 4294967281),none,.lst .str (splitB 46 a) none,[]⟩):=
 let ⟨_,hm⟩:=SeatLaid.max;um Tryz.lays146 (by kernel_rfl) hm rfl (aV.mk' Tryz.func152 (by kernel_rfl))
theorem sZ:an Tryz.prog 158 (p2 .str .str fun a b=>⟨some (b.length=1),none,.bool (decide (b.getD 0 0∈a)),[]⟩):=pQ Tryz.lays144 rfl (aV.mk' Tryz.func158 (by kernel_rfl))
theorem qQ:an Tryz.prog 156 (p2 .str (.int .u8) fun a c=>.ret (.int .i64 (AX a c))):=nI Tryz.lays137 rfl (aV.mk' Tryz.func156 (by kernel_rfl))
theorem pT:an Tryz.prog 143 (p1 .str fun s=>.ret (.tup [.int .i32 ((ju s).1:Int),.int .i64 ((ju s).2:Int)])):=mI Tryz.lays197 SeatLaid.utf rfl (aV.mk' Tryz.func143 (by kernel_rfl))
end Go.AL.Seat
end
section
namespace Go.Proofs.YtldkmcedeenlnaaGreatDoor.Join
open Go.AL Go.AL.Seat Go.ChangeShapes Go.WideShapes Go.RowKit Go.Lib Go.Shelf
set_option maxRecDepth 1000000
theorem own:ownKnob Tryz.prog.godebug=none:=by kernel_rfl
theorem CU:laidOutB Tryz.prog=true:=by kernel_rfl
theorem undB:Tryz.prog.underlying 4=some .bool:=by kernel_rfl
theorem undI:Tryz.prog.underlying 3=some (.int .i64):=by kernel_rfl
theorem undS:Tryz.prog.underlying 9=some .string:=by kernel_rfl
theorem Ey:Tryz.prog.readableRec 9=true:=by kernel_rfl
theorem Ez:40 < Tryz.prog.types.size:=Xo (by kernel_rfl)
def laid:List (String × DataW Unit):=Rows.codeFormsRow.laid
theorem EA:(Rows.laid_unicode_utf8_acceptRanges:DataW Unit)=acceptData:=by kernel_rfl
theorem EB {W:World} (h:W.ShapedOpen Tryz.prog):∃m,W.cell? ⟨2,0,none⟩=some (.int .i64 m):=
 cell_of_shapedOpen_int (t:=3) (zero:=#[.int .i64 0]) h (Xo (by kernel_rfl)) (by kernel_rfl) rfl (by kernel_rfl) (by kernel_rfl) undI
theorem EC {W:World} (h:laidMet Tryz.prog laid W):Utf8Tabs 0 1 W:=
 utf8Tabs_of_readsT (ρ:=Tryz.lays196_ren) (U8Types.of196 Tryz.lays196) ⟨by kernel_rfl,by kernel_rfl,by kernel_rfl,by kernel_rfl,by kernel_rfl,by kernel_rfl,by kernel_rfl⟩
  (Pinned.utf8First_eq ▸ laidMet.reads h (by simp [laid,Rows.codeFormsRow,Rows.laid_unicode_utf8_first])) (EA ▸ laidMet.reads h (by simp [laid,Rows.codeFormsRow]))
theorem Bf {W:World} (h:laidMet Tryz.prog laid W) (hs:W.ShapedOpen Tryz.prog):@SeatLaid (pI W):=by
 letI:Tabs:=pI W
 obtain ⟨m,hm⟩:=EB hs
 obtain ⟨u1,u2⟩:=EC h
 exact ⟨⟨m,by decide,hm⟩,fun c hc=>⟨by decide,u1 c hc⟩,fun i hi=>⟨⟨by decide,(u2 i hi).1⟩,by decide,(u2 i hi).2⟩⟩
def z32:List Int:=[0,1,28,2,29,14,24,3,30,22,20,15,25,17,4,8,31,27,13,23,21,19,16,7,26,12,18,6,11,5,10,9]
def z64:List Int:=[0,1,56,2,57,49,28,3,61,58,42,50,38,29,17,4,62,47,59,36,45,43,51,22,53,39,33,30,24,18,12,5,63,55,48,27,60,41,37,16,46,35,44,21,52,32,23,11,54,26,40,15,34,20,31,10,25,14,19,9,13,8,7,6]
def zPow:List Int:=[1,10,100,1000,10000,100000,1000000,10000000,100000000,1000000000,10000000000,100000000000,1000000000000,10000000000000,100000000000000,1000000000000000,10000000000000000,100000000000000000,1000000000000000000,10000000000000000000]
def zAcc:List Int:=[128,191,160,191,128,159,144,191,128,143,0,0,0,0,0,0,0,0,0,0,0,0,0,0,0,0,0,0,0,0,0,0]
def E4:List Int:=List.map Int.ofNat Pinned.utf8FirstZ
noncomputable def kB (os:Os):World:=
 let N:=(World.settled Tryz.prog os).heap.size
 let w0:=World.holding Tryz.prog os ⟨#[.cells #[.string ⟨#[118,97,108,117,101,32,111,117,116,32,111,102,32,114,97,110,103,101]⟩] 300,.cells #[.string ⟨#[105,110,118,97,108,105,100,32,115,121,110,116,97,120]⟩] 300],#[],[]⟩
 let put (h:Array Obj) (g:Nat) (cs:Array Value):Array Obj:=h.modify g fun
  | .cells _ t frozen=>.cells cs t frozen
  | o=>o
 let h0:=put (put w0.heap 3 #[.iface 298 (.pointer (some ⟨N+1,0,none⟩))]) 4 #[.iface 298 (.pointer (some ⟨N,0,none⟩))]
 let h1:=put (put (put h0 5 (zPow.map (Value.int .u64)).toArray) 6 (z32.map (Value.int .u8)).toArray) 7 (z64.map (Value.int .u8)).toArray
 let h2:=put (put h1 0 (E4.map (Value.int .u8)).toArray) 1 (zAcc.map (Value.int .u8)).toArray
 {w0 with heap:=h2}
noncomputable abbrev N0:Nat:=(World.settled Tryz.prog default).heap.size
theorem E5 (os:Os) (args:Array Value):LaidIn Tryz.prog ((kB os).forCall (fun _ _=>0) ⟨#[],args,[]⟩).memory laid [6,7,5,1,4,N0,3,N0+1,0]:=
 LaidIn.of_run [6,7,5,1,4,N0,3,N0+1,0] 10 (by kernel_rfl) (by kernel_rfl) (by kernel_rfl) (by kernel_rfl)
theorem Bg (os:Os) (args:Array Value):laidMet Tryz.prog laid ((kB os).forCall (fun _ _=>0) ⟨#[],args,[]⟩).memory:=(E5 os args).met
end Go.Proofs.YtldkmcedeenlnaaGreatDoor.Join
end
noncomputable section
namespace Go.AL
def evN {α:Type} (n:Nat) (k:Nat→α):α:=match n with | 0=>k 0 | m+1=>k (m+1)
def evI {α:Type} (n:Int) (k:Int→α):α:=match n with | .ofNat m=>evN m fun m=>k (.ofNat m) | .negSucc m=>evN m fun m=>k (.negSucc m)
def evL {α β:Type}:List β→(List β→α)→α
 | [],k=>k []
 | a ::r,k=>evL r fun r=>k (a ::r)
theorem bw {α:Type} (n:Nat) (k:Nat→α):evN n k=k n:=by cases n <;> rfl
theorem wh {α:Type} (n:Int) (k:Int→α):evI n k=k n:=by
 cases n <;> (unfold evI;exact bw _ _)
theorem dP {α β:Type}:∀(l:List β) (k:List β→α),evL l k=k l
 | [],_=>rfl
 | a ::r,k=>by rw [evL,dP r]
mutual
def evV {α:Type}:AV→(AV→α)→α
 | .int κ n,k=>evI n fun n=>k (.int κ n)
 | .bool true,k=>k (.bool true)
 | .bool false,k=>k (.bool false)
 | .str s,k=>evL s fun s=>k (.str s)
 | .lst τ xs none,k=>evL xs fun xs=>k (.lst τ xs none)
 | .lst τ xs (some i),k=>evL xs fun xs=>k (.lst τ xs (some i))
 | .row τ xs,k=>evL xs fun xs=>k (.row τ xs)
 | .arr i n w,k=>evN n fun n=>k (.arr i n w)
 | .aptr i n w o,k=>evN n fun n=>evN o fun o=>k (.aptr i n w o)
 | .cptr c,k=>evV c fun c=>k (.cptr c)
 | .agg cs,k=>evVs cs fun cs=>k (.agg cs)
 | .tup cs,k=>evVs cs fun cs=>k (.tup cs)
 | .fn f cs,k=>evVs cs fun cs=>k (.fn f cs)
 | .iface t a,k=>evV a fun a=>k (.iface t a)
 | .lstp τ xs i,k=>evL xs fun xs=>k (.lstp τ xs i)
 | .glst s n i,k=>evN s fun s=>evN n fun n=>k (.glst s n i)
 | .gptr i s n w o,k=>evN s fun s=>evN n fun n=>evN w fun w=>evN o fun o=>k (.gptr i s n w o)
 | .undef,k=>k .undef
 | .nils,k=>k .nils
 | .ptr i o,k=>k (.ptr i o)
 | .nilp,k=>k .nilp
 | .st n x,k=>k (.st n x)
 | .map i,k=>k (.map i)
 | .bptr i,k=>k (.bptr i)
 | .nilif,k=>k .nilif
 | .nilm,k=>k .nilm
 | .pt n x,k=>k (.pt n x)
 | .tptr τ n i,k=>k (.tptr τ n i)
def evVs {α:Type}:List AV→(List AV→α)→α
 | [],k=>k []
 | a ::r,k=>evV a fun a=>evVs r fun r=>k (a ::r)
end
mutual
theorem evV_eq {α:Type}:∀(a:AV) (k:AV→α),evV a k=k a
 | .int κ n,k=>by rw [evV,wh]
 | .bool true,k=>rfl
 | .bool false,k=>rfl
 | .str s,k=>by rw [evV,dP]
 | .lst τ xs none,k=>by rw [evV,dP]
 | .lst τ xs (some i),k=>by rw [evV,dP]
 | .row τ xs,k=>by rw [evV,dP]
 | .arr i n w,k=>by rw [evV,bw]
 | .aptr i n w o,k=>by rw [evV,bw,bw]
 | .cptr c,k=>by rw [evV,evV_eq c]
 | .agg cs,k=>by rw [evV,evVs_eq cs]
 | .tup cs,k=>by rw [evV,evVs_eq cs]
 | .fn f cs,k=>by rw [evV,evVs_eq cs]
 | .iface t a,k=>by rw [evV,evV_eq a]
 | .lstp τ xs i,k=>by rw [evV,dP]
 | .glst _ _ _,k=>by rw [evV,bw,bw]
 | .gptr _ _ _ _ _,k=>by rw [evV,bw,bw,bw,bw]
 | .undef,k=>rfl
 | .nils,k=>rfl
 | .ptr _ _,k=>rfl
 | .nilp,k=>rfl
 | .st _ _,k=>rfl
 | .map _,k=>rfl
 | .bptr _,k=>rfl
 | .nilif,k=>rfl
 | .nilm,k=>rfl
 | .pt _ _,k=>rfl
 | .tptr _ _ _,k=>rfl
theorem evVs_eq {α:Type}:∀(l:List AV) (k:List AV→α),evVs l k=k l
 | [],k=>rfl
 | a ::r,k=>by rw [evVs,evV_eq a,evVs_eq r]
end
def evA {α:Type} (a:AV) (k:AV→α):α:=
 match a with
 | .int κ n=>evI n fun n=>k (.int κ n)
 | .bool b=>(match b with | true=>k (.bool true) | false=>k (.bool false))
 | .str s=>evL s fun s=>k (.str s)
 | .lst τ xs o=>evL xs fun xs=>(match o with | none=>k (.lst τ xs none) | some i=>k (.lst τ xs (some i)))
 | .row τ xs=>evL xs fun xs=>k (.row τ xs)
 | .arr i n w=>evN n fun n=>k (.arr i n w)
 | .aptr i n w o=>evN n fun n=>evN o fun o=>k (.aptr i n w o)
 | .ptr i o=>evN o fun o=>k (.ptr i o)
 | .cptr c=>evV c fun c=>k (.cptr c)
 | .agg cs=>evVs cs fun cs=>k (.agg cs)
 | .tup cs=>evVs cs fun cs=>k (.tup cs)
 | .fn f cs=>evVs cs fun cs=>k (.fn f cs)
 | .iface t a=>evV a fun a=>k (.iface t a)
 | .lstp τ xs i=>evL xs fun xs=>k (.lstp τ xs i)
 | .glst s n i=>evN s fun s=>evN n fun n=>k (.glst s n i)
 | .gptr i s n w o=>evN s fun s=>evN n fun n=>evN w fun w=>evN o fun o=>k (.gptr i s n w o)
 | a=>k a
theorem E6 {α:Type} (a:AV) (k:AV→α):evA a k=k a:=by
 unfold evA
 split
 ·exact wh _ _
 ·split <;> rfl
 ·exact dP _ _
 ·rw [dP];split <;> rfl
 ·exact dP _ _
 ·exact bw _ _
 ·rw [bw,bw]
 ·exact bw _ _
 ·exact evV_eq _ _
 ·exact evVs_eq _ _
 ·exact evVs_eq _ _
 ·exact evVs_eq _ _
 ·exact evV_eq _ _
 ·exact dP _ _
 ·rw [bw,bw]
 ·rw [bw,bw,bw,bw]
 ·rfl
mutual
def evW {α:Type}:AV→(AV→α)→α
 | .int κ n,k=>evI n fun n=>k (.int κ n)
 | .bool true,k=>k (.bool true)
 | .bool false,k=>k (.bool false)
 | .lst τ xs none,k=>k (.lst τ xs none)
 | .lst τ xs (some i),k=>k (.lst τ xs (some i))
 | .row τ xs,k=>evL xs fun xs=>k (.row τ xs)
 | .arr i n w,k=>evN n fun n=>k (.arr i n w)
 | .aptr i n w o,k=>evN n fun n=>evN o fun o=>k (.aptr i n w o)
 | .cptr c,k=>evW c fun c=>k (.cptr c)
 | .agg cs,k=>evWs cs fun cs=>k (.agg cs)
 | .tup cs,k=>evWs cs fun cs=>k (.tup cs)
 | .fn f cs,k=>evWs cs fun cs=>k (.fn f cs)
 | .iface t a,k=>evW a fun a=>k (.iface t a)
 | .lstp τ xs i,k=>evL xs fun xs=>k (.lstp τ xs i)
 | .glst s n i,k=>evN s fun s=>evN n fun n=>k (.glst s n i)
 | .gptr i s n w o,k=>evN s fun s=>evN n fun n=>evN w fun w=>evN o fun o=>k (.gptr i s n w o)
 | .str s,k=>k (.str s)
 | .undef,k=>k .undef
 | .nils,k=>k .nils
 | .ptr i o,k=>evN o fun o=>k (.ptr i o)
 | .nilp,k=>k .nilp
 | .st n x,k=>k (.st n x)
 | .map i,k=>k (.map i)
 | .bptr i,k=>k (.bptr i)
 | .nilif,k=>k .nilif
 | .nilm,k=>k .nilm
 | .pt n x,k=>k (.pt n x)
 | .tptr τ n i,k=>k (.tptr τ n i)
def evWs {α:Type}:List AV→(List AV→α)→α
 | [],k=>k []
 | a ::r,k=>evW a fun a=>evWs r fun r=>k (a ::r)
end
mutual
theorem evW_eq {α:Type}:∀(a:AV) (k:AV→α),evW a k=k a
 | .int κ n,k=>by rw [evW,wh]
 | .bool true,k=>rfl
 | .bool false,k=>rfl
 | .str s,k=>rfl
 | .lst τ xs none,k=>rfl
 | .lst τ xs (some i),k=>rfl
 | .row τ xs,k=>by rw [evW,dP]
 | .arr i n w,k=>by rw [evW,bw]
 | .aptr i n w o,k=>by rw [evW,bw,bw]
 | .cptr c,k=>by rw [evW,evW_eq c]
 | .agg cs,k=>by rw [evW,evWs_eq cs]
 | .tup cs,k=>by rw [evW,evWs_eq cs]
 | .fn f cs,k=>by rw [evW,evWs_eq cs]
 | .iface t a,k=>by rw [evW,evW_eq a]
 | .lstp τ xs i,k=>by rw [evW,dP]
 | .glst _ _ _,k=>by rw [evW,bw,bw]
 | .gptr _ _ _ _ _,k=>by rw [evW,bw,bw,bw,bw]
 | .undef,k=>rfl
 | .nils,k=>rfl
 | .ptr _ o,k=>by rw [evW,bw]
 | .nilp,k=>rfl
 | .st _ _,k=>rfl
 | .map _,k=>rfl
 | .bptr _,k=>rfl
 | .nilif,k=>rfl
 | .nilm,k=>rfl
 | .pt _ _,k=>rfl
 | .tptr _ _ _,k=>rfl
theorem evWs_eq {α:Type}:∀(l:List AV) (k:List AV→α),evWs l k=k l
 | [],k=>rfl
 | a ::r,k=>by rw [evWs,evW_eq a,evWs_eq r]
end
def CV:Op→Bool
 | .load _ _=>true
 | .move _=>true
 | _=>false
def evQ {α:Type} (o:Oper) (a:AV) (k:AV→α):α:=match CV o.op with | true=>evW a k | false=>evA a k
theorem E7 {α:Type} (o:Oper) (a:AV) (k:AV→α):evQ o a k=k a:=by
 unfold evQ
 split
 ·exact evW_eq _ _
 ·exact E6 _ _
def evO {α:Type}:SObj→(SObj→α)→α
 | .box c,k=>evW c fun c=>k (.box c)
 | .tail τ n,k=>evN n fun n=>k (.tail τ n)
 | .map κ τ m,k=>evL m fun m=>k (.map κ τ m)
 | .bld t u l,k=>evL l fun l=>k (.bld t u l)
 | .tailp τ n x,k=>evN n fun n=>k (.tailp τ n x)
 | .grow τ s xs,k=>evN s fun s=>evL xs fun xs=>k (.grow τ s xs)
theorem E8 {α:Type} (o:SObj) (k:SObj→α):evO o k=k o:=by
 cases o with
 | box c=>exact evW_eq _ _
 | tail τ n=>unfold evO;exact bw _ _
 | map κ τ m=>exact dP _ _
 | bld t u l=>exact dP _ _
 | tailp τ n x=>unfold evO;exact bw _ _
 | grow τ s xs=>show evN s (fun s=>evL xs fun xs=>k (.grow τ s xs))=_;rw [bw,dP]
def evB {α:Type}:List (Nat × SObj)→(List (Nat × SObj)→α)→α
 | [],k=>k []
 | (i,o) ::r,k=>evO o fun o=>evB r fun r=>k ((i,o) ::r)
theorem ta {α:Type}:∀(l:List (Nat × SObj)) (k:List (Nat × SObj)→α),evB l k=k l
 | [],k=>rfl
 | (i,o) ::r,k=>by rw [evB,E8,ta r]
def evS {α:Type} (s:St) (k:St→α):α:=evL s.t fun t=>evB s.b fun b=>k ⟨t,b⟩
theorem Bh {α:Type} (s:St) (k:St→α):evS s k=k s:=by rw [evS,dP,ta]
theorem zb {ob:Option DP} {q:Prop} (h:okO ob=true) (hq:q):oy ob q:=by
 cases ob with
 | none=>exact hq
 | some d=>exact ⟨d.h h,hq⟩
def xL {α:Sort _} (ops:List Oper) (o:Oper) (T:Nat→AV) (bad:α) (on off:Unit→α):α:=
 match o.guard with
 | none=>on ()
 | some (j,want)=>
  match (nth ops j).bind (·.dst) with
  | none=>bad
  | some d=>
   match T d with
   | .bool true=>if want then on () else off ()
   | .bool false=>if want then off () else on ()
   | .tup []=>off ()
   | _=>bad
theorem wi {α:Type} {ops:List Oper} {o:Oper} {T:Nat→AV} {y:α} {on off:Unit→Option α} {on' off':Unit→Prop} (hon:on ()=some y→on' ()) (hoff:off ()=some y→off' ())
  (h:xL ops o T none on off=some y):xL ops o T False on' off':=by
 unfold xL at h ⊢
 cases hg:o.guard with
 | none=>simp only [hg] at h ⊢;exact hon h
 | some p=>
  obtain ⟨j,want⟩:=p
  simp only [hg] at h ⊢
  cases hd:(nth ops j).bind (·.dst) with
  | none=>simp only [hd] at h;cases h
  | some d=>
   simp only [hd] at h ⊢
   generalize T d=v at h ⊢
   split at h
   ·split at h
    ·rename_i hw;exact (if_pos hw).symm ▸ hon h
    ·rename_i hw;exact (if_neg hw).symm ▸ hoff h
   ·split at h
    ·rename_i hw;exact (if_pos hw).symm ▸ hoff h
    ·rename_i hw;exact (if_neg hw).symm ▸ hon h
   ·exact hoff h
   ·cases h
def gdB (ops:List Oper) (g:Bool) (i:Nat):Bool:=match g with | true=>eQ ops i | false=>false
def Bi (ops:List Oper):Bool:=ops.any fun o=>o.guard.isSome
theorem E9 (ops:List Oper) (i:Nat):gdB ops (Bi ops) i=eQ ops i:=by
 unfold gdB
 cases h:Bi ops with
 | true=>rfl
 | false=>
  show false=eQ ops i
  symm
  unfold Bi at h
  rw [List.any_eq_false] at h
  unfold eQ
  rw [List.any_eq_false]
  intro o ho
  have:=h o ho
  cases hg:o.guard with
  | none=>simp
  | some x=>rw [hg] at this;exact absurd rfl this
def uu (C:Cfg) (ops:List Oper) (g:Bool):List Oper→Nat→St→List bf→Option (St × List bf)
 | [],_,s,fs=>some (s,fs.reverse)
 | o ::r,i,s,fs=>
  xL ops o (aM s.t) none
   (fun _=>
    match aq C o (aM s.t) (ah s.b) with
    | none=>none
    | some e=>
     match okO e.ob,bM C o (aM s.t) (ah s.b) with
     | true,none=>
      (match gdB ops g i,e.val with
      | true,.bool b=>(match b with
       | true=>uu C ops g r (i+1) ⟨ox s.t o.dst (.bool true),ct s.b e.upd⟩ ((az C o (aM s.t) (ah s.b),e.upd.map (·.1)) ::fs)
       | false=>uu C ops g r (i+1) ⟨ox s.t o.dst (.bool false),ct s.b e.upd⟩ ((az C o (aM s.t) (ah s.b),e.upd.map (·.1)) ::fs))
      | true,_=>none
      | false,v=>evQ o v fun v=>uu C ops g r (i+1) ⟨ox s.t o.dst v,ct s.b e.upd⟩ ((az C o (aM s.t) (ah s.b),e.upd.map (·.1)) ::fs))
     | _,_=>none)
   (fun _=>uu C ops g r (i+1) ⟨ox s.t o.dst (.tup []),s.b⟩ (([],[]) ::fs))
theorem xM {C:Cfg} {ops:List Oper} {draw:Bool} {kp:AV→St→Prop} {k:St→List bf→Prop} {s':St} {fs':List bf} (hk:k s' fs') :
  ∀(l:List Oper) (i:Nat) (s:St) (fs:List bf),uu C ops (Bi ops) l i s fs=some (s',fs')→bA C ops draw kp l i s fs k
 | [],_,s,fs,h=>by
  simp only [uu,Xs,Prod.mk.injEq] at h
  obtain ⟨rfl,rfl⟩:=h
  exact hk
 | o ::r,i,s,fs,h=>by
  have ih:=xM (C:=C) (ops:=ops) (draw:=draw) (kp:=kp) hk r
  rw [uu,E9] at h
  refine wi (on':=fun _=>
   match aq C o (aM s.t) (ah s.b) with
   | none=>False
   | some e=>
    oy e.ob
    (match bM C o (aM s.t) (ah s.b) with
    | none=>
     (match eQ ops i,e.val with
     | true,.bool b=>
      sp b (bA C ops draw kp r (i+1) (s.put o.dst {e with val:=.bool true}) ((az C o (aM s.t) (ah s.b),e.upd.map (·.1)) ::fs) k)
       (bA C ops draw kp r (i+1) (s.put o.dst {e with val:=.bool false}) ((az C o (aM s.t) (ah s.b),e.upd.map (·.1)) ::fs) k)
     | true,_=>False
     | false,_=>bA C ops draw kp r (i+1) (s.put o.dst e) ((az C o (aM s.t) (ah s.b),e.upd.map (·.1)) ::fs) k)
    | some (b,pv,u)=>
     (match eQ ops i with
     | true=>False
     | false=>sp b (sg C ops draw kp r i s fs (az C o (aM s.t) (ah s.b),e.upd.map (·.1)) pv u) (bA C ops draw kp r (i+1) (s.put o.dst e) ((az C o (aM s.t) (ah s.b),e.upd.map (·.1)) ::fs) k))))
   (off':=fun _=>bA C ops draw kp r (i+1) ⟨ox s.t o.dst (.tup []),s.b⟩ (([],[]) ::fs) k) ?_ (fun h=>ih _ _ _ h) h
  intro h
  split at h
  ·cases h
  ·rename_i e he
   split at h
   ·rename_i ho hp
    refine zb ho ?_
    try simp only [hp]
    split at h
    ·rename_i b hg hv
     try simp only [hg,hv]
     split at h
     ·exact ih _ _ _ h
     ·exact ih _ _ _ h
    ·cases h
    ·rename_i v hg
     simp only [E7] at h
     try simp only [hg]
     exact ih _ _ _ h
   ·cases h
def CW (ops:List Oper) (i j:Nat):Bool:=((dM ops).getD j 0).testBit i
def kV:Nat→List bf→List (Nat × bf)
 | _,[]=>[]
 | i,f ::r=>match f with | ([],[])=>kV (i+1) r | f=>(i,f) ::kV (i+1) r
def mJ (ops:List Oper):List (Nat × bf)→Bool
 | []=>true
 | x ::r=>r.all (fun p=>CW ops x.1 p.1 || cY x.2 p.2) && mJ ops r
def xN (ops:List Oper):Bool:=
 ((List.range ops.length).all fun j=>(List.range j).all fun i=>CW ops i j || (match nth ops i,nth ops j with | some x,some y=>fw ops x y | _,_=>false)) &&
 (ops.zipIdx.all fun (o,j)=>o.after.all fun e=>!Region.binds .any e || Nat.blt e.on j)
def wj (ops:List Oper) (fs:List bf):Bool:=xN ops && eI fs ops.length && mJ ops (kV 0 fs)
theorem pU {α:Type}:∀{l:List α} {i:Nat},i < l.length→∃x,nth l i=some x
 | a ::_,0,_=>⟨a,rfl⟩
 | _ ::r,i+1,h=>pU (l:=r) (Nat.lt_of_succ_lt_succ h)
theorem ru:∀{fs:List bf} {i0 k:Nat} {f:bf},nth fs k=some f→f≠([],[])→(i0+k,f)∈kV i0 fs
 | g ::r,i0,0,f,h,hf=>by
  cases h
  unfold kV
  split
  ·exact absurd rfl hf
  ·exact List.mem_cons_self ..
 | g ::r,i0,k+1,f,h,hf=>by
  have ih:=ru (fs:=r) (i0:=i0+1) (k:=k) h hf
  rw [show i0+(k+1)=i0+1+k by omega]
  unfold kV
  split
  ·exact ih
  ·exact List.mem_cons_of_mem _ ih
theorem nu {ops:List Oper}:∀{fs:List bf} {i0 a b:Nat} {f g:bf},mJ ops (kV i0 fs)=true→a < b→nth fs a=some f→nth fs b=some g→f≠([],[])→g≠([],[])→(CW ops (i0+a) (i0+b) || cY f g)=true
 | x ::r,i0,0,b+1,f,g,h,_,hf,hg,h1,h2=>by
  cases hf
  have hm:=ru (fs:=r) (i0:=i0+1) (k:=b) hg h2
  unfold kV at h
  split at h
  ·exact absurd rfl h1
  ·unfold mJ at h
   rw [Bool.and_eq_true,List.all_eq_true] at h
   have:=h.1 _ hm
   rwa [show i0+1+b=i0+(b+1) by omega] at this
 | x ::r,i0,a+1,b+1,f,g,h,hab,hf,hg,h1,h2=>by
  have hr:mJ ops (kV (i0+1) r)=true:=by
   unfold kV at h
   split at h
   ·exact h
   ·unfold mJ at h
    rw [Bool.and_eq_true] at h
    exact h.2
  have:=nu (fs:=r) (i0:=i0+1) (a:=a) (b:=b) hr (by omega) hf hg h1 h2
  rwa [show i0+1+a=i0+(a+1) by omega,show i0+1+b=i0+(b+1) by omega] at this
theorem wk (g:bf):cY ([],[]) g=true:=by
 unfold cY sf
 simp
theorem uv (f:bf):cY f ([],[])=true:=by
 unfold cY sf
 simp
theorem lU {α:Type}:∀{l:List α} {n:Nat},eI l n=true→l.length=n
 | [],0,_=>rfl
 | _ ::r,n+1,h=>by rw [List.length_cons,lU (l:=r) h]
theorem zc {ops:List Oper} {fs:List bf} (h:wj ops fs=true):dQ ops fs=true:=by
 unfold wj xN at h
 simp only [Bool.and_eq_true,List.all_eq_true,List.mem_range] at h
 obtain ⟨⟨⟨h1,h2⟩,h3⟩,h4⟩:=h
 have hl:=lU h3
 unfold dQ
 rw [Bool.and_eq_true]
 refine ⟨?_,by rw [List.all_eq_true];intro p hp;have:=h2 p hp;exact (by obtain ⟨o,j⟩:=p;simpa using this)⟩
 rw [List.all_eq_true]
 intro j hj
 rw [List.all_eq_true]
 intro i hi
 rw [List.mem_range] at hj hi
 have k:=h1 j hj i hi
 rw [Bool.or_eq_true] at k ⊢
 rcases k with k | k
 ·exact .inl k
 obtain ⟨x,hx⟩:=pU (l:=ops) (i:=i) (by omega)
 obtain ⟨y,hy⟩:=pU (l:=ops) (i:=j) hj
 obtain ⟨f,hf⟩:=pU (l:=fs) (i:=i) (by omega)
 obtain ⟨g,hg⟩:=pU (l:=fs) (i:=j) (by omega)
 rw [hx,hy] at k
 rw [hx,hy,hf,hg]
 have q:CW ops i j=true∨cY f g=true:=by
  by_cases c1:f=([],[])
  ·rw [c1];exact .inr (wk g)
  ·by_cases c2:g=([],[])
   ·rw [c2];exact .inr (uv f)
   ·have:=nu h4 hi hf hg c1 c2
    rw [Nat.zero_add,Nat.zero_add,Bool.or_eq_true] at this
    exact this
 rcases q with q | q
 ·exact .inl q
 ·exact .inr (by rw [Bool.and_eq_true];exact ⟨k,q⟩)
end Go.AL
end
noncomputable section
namespace Go.AL
variable [Tabs]
def Bj:List (Nat × SObj)→Nat→Nat
 | [],m=>m *1000+998
 | (i,_) ::r,m=>Bj r (match Nat.ble m (i / 1000) with | true=>i / 1000+1 | false=>m)
def tc:List Nat→St→Option St
 | [],s=>some s
 | i ::r,s=>(match CA i (Bj s.b 100) s with | some s=>tc r s | none=>none)
theorem lV {F:Fr} {a:Act}:∀(l:List Nat) {s s':St} {Ω:Om},Holds F s.abs a Ω→tc l s=some s'→∃Ω',Ω'.w=Ω.w/\Holds F s'.abs a Ω'
 | [],s,s',Ω,h,hr=>by cases hr;exact ⟨Ω,rfl,h⟩
 | i ::r,s,s',Ω,h,hr=>by
  unfold tc at hr
  split at hr
  ·rename_i s1 h1
   obtain ⟨Ω1,e1,g1⟩:=pF h h1
   obtain ⟨Ω2,e2,g2⟩:=lV r g1 hr
   exact ⟨Ω2,e2.trans e1,g2⟩
  ·cases hr
def wm (ops:List Oper) (s:St):Option St:=
 match enter ops s with
 | some s'=>some s'
 | none=>(match tc ((s.b.map (·.1)).filter fun i=>xw (oA ops) (sh ops) i && !bJ i) s with | some s'=>enter ops s' | none=>none)
theorem te {F:Fr} {ops:List Oper} {s s':St} {a:Act} {Ω:Om} (h:Holds F s.abs a Ω) (he:wm ops s=some s'):∃Ω',Ω'.w=Ω.w/\Holds F s'.abs a Ω':=by
 unfold wm at he
 split at he
 ·rename_i s1 h1;cases he;exact jQ h h1
 ·split at he
  ·rename_i s1 h1
   obtain ⟨Ω1,e1,g1⟩:=lV _ h h1
   obtain ⟨Ω2,e2,g2⟩:=jQ g1 he
   exact ⟨Ω2,e2.trans e1,g2⟩
  ·cases he
end Go.AL
end
noncomputable section
namespace Go.AL
def Bk (k:Nat) (s:St):Option St:=
 match ah s.b k with
 | some (.tailp τ n x)=>
  if ((s.t.flatMap (fun y=>lensV k y.2)++s.b.flatMap (fun y=>Dz k y.2)).all fun m=>Nat.beq m n)=true then
   some ⟨s.t.map fun y=>(y.1,finV k τ x y.2),(nE s.b k (.tail τ (n+1))).map fun y=>(y.1,yi k τ x y.2)⟩ else none
 | _=>some s
def xO:List Nat→St→Option St
 | [],s=>some s
 | k ::r,s=>(match Bk k s with | some s=>xO r s | none=>none)
theorem rv {n:Nat} {q:Prop} (hq:q):∀l:List Nat,(l.all fun m=>Nat.beq m n)=true→si n l q
 | [],_=>hq
 | m ::r,h=>by
  rw [List.all_cons,Bool.and_eq_true] at h
  exact ⟨Nat.eq_of_beq_eq_true h.1,rv hq r h.2⟩
theorem Bl {k:Nat} {s s':St} {Q:St→Prop} (h:Bk k s=some s') (hq:Q s'):oB k s Q:=by
 unfold Bk at h
 unfold oB
 generalize hb:ah s.b k=b at h ⊢
 cases b with
 | none=>cases h;exact hq
 | some o=>
  cases o with
  | tailp τ n x=>
   dsimp only at h ⊢
   split at h
   ·rename_i ha
    cases h
    exact rv hq _ ha
   ·cases h
  | _=>cases h;exact hq
theorem uw {Q:St→Prop} {s':St} (hq:Q s'):∀(l:List Nat) (s:St),xO l s=some s'→oD l s Q
 | [],s,h=>by cases h;exact hq
 | k ::r,s,h=>by
  unfold xO at h
  split at h
  ·rename_i s1 h1
   exact Bl h1 (uw hq r s1 h)
  ·cases h
def trimM (keep:Nat) (s:St):St:=⟨s.t.filter fun x=>Nat.beq (Nat.land (Nat.shiftRight keep x.1) 1) 1,s.b⟩
def Ea (C:Cfg) (keep:Nat) (ops:Array Oper) (draw:Bool) (s:St):Option St:=
 match uu C ops.toList (Bi ops.toList) ops.toList 0 s [] with
 | none=>none
 | some (s,fs)=>
  match xO (nQ s.b) s with
  | none=>none
  | some s=>
   match draw with
   | false=>evS (trimM keep s) some
   | true=>(match wj ops.toList fs with | true=>evS (trimM keep s) some | false=>none)
theorem Holds.trimM [Tabs] {F:Fr} {s:St} {a:Act} {Ω:Om} (h:Holds F s.abs a Ω) (keep:Nat):Holds F (trimM keep s).abs a Ω:=by
 refine ⟨fun i=>?_,h.size,h.defers,h.slots,h.dom,h.inj,h.pubok,h.keep,h.frame⟩
 have e:(AL.trimM keep s).abs.T i=if Nat.beq (Nat.land (Nat.shiftRight keep i) 1) 1=true then aM s.t i else .undef:=hU s.t (fun i=>Nat.beq (Nat.land (Nat.shiftRight keep i) 1) 1) i
 rw [e]
 split
 ·exact h.tmps i
 ·exact .undef _
theorem wq [Tabs] {P:Program} {C:Cfg} {F:Fr} (hm:P.follows .mixedOrders=true) (hT:aH P C.tbl) (hS:bK P C.spec) {keep:Nat} {id:Nat} {ops:Array Oper} {draw:Bool} {s s':St} {a:Act} {Ω:Om}
  (hdst:∀(o:Oper),o∈ops.toList→∀d,o.dst=some d→d < F.n) (h:Ea C keep ops draw s=some s') (hh:Holds F s.abs a Ω):(Code.region id ops draw).wp P (QL F fun y t=>y=.normal/\t=s') a Ω.w:=by
 have key:bA C ops.toList draw (fun _ _=>False) ops.toList 0 s [] fun s2 fs=>DT s2 fun s3=>s'=trimM keep s3/\(draw=true→dQ ops.toList fs=true):=by
  unfold Ea at h
  split at h
  ·cases h
  ·rename_i s1 fs h1
   refine xM ?_ _ _ _ _ h1
   split at h
   ·cases h
   ·rename_i s2 h2
    refine uw ?_ _ _ h2
    split at h
    ·rw [Bh] at h
     cases h
     exact ⟨rfl,fun q=>by cases q⟩
    ·split at h
     ·rename_i hi
      rw [Bh] at h
      cases h
      exact ⟨rfl,fun _=>zc hi⟩
     ·cases h
 refine lL hm hT hS hdst key (fun hdr s2 fs hk=>let ⟨s3,h3⟩:=mE _ hk;h3.2 hdr) hh (fun s2 fs a' Ω' hk h'=>
   let ⟨s3,Ω3,g1,g2,g3⟩:=pD h' hk
   ⟨.normal,trimM keep s3,Ω3,rfl,g1,g2.trimM keep,rfl,g3.1.symm⟩)
  (fun pv s2 a' Ω' v hk _ _=>hk.elim)
def xP (f:St→Option (SX × St)):Nat→St→Option (SX × St)
 | 0,_=>none
 | n+1,s=>
  match f s with
  | some (.normal,s')=>xP f n s'
  | r=>r
def iP (C:Cfg) (keep:Nat) (pubs:List (Nat × List Nat)) (N:Nat):Code→St→Option (SX × St)
 | .skip,s=>some (.normal,s)
 | .seq a b,s=>
  (match iP C keep pubs N a s with
  | some (.normal,s')=>iP C keep pubs N b s'
  | r=>r)
 | .cond c a b,s=>
  (match opd (aM s.t) c with
  | .bool true=>iP C keep pubs N a s
  | .bool false=>iP C keep pubs N b s
  | _=>none)
 | .block id c,s=>
  (match iP C keep pubs N c s with
  | some (.exit j,s')=>if j ==id then some (.normal,s') else some (.exit j,s')
  | r=>r)
 | .exit id,s=>some (.exit id,s)
 | .scope c,s=>iP C keep pubs N c s
 | .label _,s=>some (.normal,s)
 | .ret,s=>some (.ret,s)
 | .region id ops draw,s=>
  (match mf (tB pubs id) s with
  | none=>none
  | some s=>
   match wm ops.toList s with
   | none=>none
   | some s=>
    match Ea C keep ops draw s with
    | some s=>some (.normal,s)
    | none=>none)
 | .loop c,s=>xP (iP C keep pubs N c) N s
 | _,_=>none
variable [Tabs]
variable {P:Program} {C:Cfg} {F:Fr}
theorem wu (hm:P.follows .mixedOrders=true) (hT:aH P C.tbl) (hS:bK P C.spec) (keep:Nat) (pubs:List (Nat × List Nat)) (N:Nat) :
  ∀(c:Code) (s:St) (x:SX) (s':St) (a:Act) (Ω:Om),iP C keep pubs N c s=some (x,s')→bR F.n c=true→Holds F s.abs a Ω→c.wp P (QL F fun y t=>y=x/\t=s') a Ω.w:=by
 intro c
 induction c with
 | skip=>intro s x s' a Ω h _ hh;cases h;exact wp_skip ⟨.normal,s,Ω,rfl,rfl,hh,rfl,rfl⟩
 | region id ops draw=>
  intro s x s' a Ω h hd hh
  unfold iP at h
  split at h
  ·cases h
  ·rename_i s0 h0
   obtain ⟨Ω0,e0,g0⟩:=jj _ hh h0
   split at h
   ·cases h
   ·rename_i s1 h1
    obtain ⟨Ω1,e1,g1⟩:=te g0 h1
    have hdst:∀(o:Oper),o∈ops.toList→∀d,o.dst=some d→d < F.n:=by
     intro o ho d hod
     simp only [bR,List.all_eq_true] at hd
     have:=hd o ho
     rw [hod] at this
     simpa using this
    split at h
    ·rename_i s2 h2
     cases h
     rw [←e0,←e1]
     exact wq hm hT hS hdst h2 g1
    ·cases h
 | seq x y ihx ihy=>
  intro s z s' a Ω h hd hh
  simp only [bR,Bool.and_eq_true] at hd
  unfold iP at h
  cases h1:iP C keep pubs N x s with
  | none=>rw [h1] at h;cases h
  | some r=>
   obtain ⟨e1,s1⟩:=r
   rw [h1] at h
   refine wp_seq (wp_mono (ihx s e1 s1 a Ω h1 hd.1 hh) ?_)
   intro e a' w' hq
   obtain ⟨e2,s2,Ω',g1,g2,g3,g4,g5⟩:=hq
   subst g2 g4 g5
   cases e2 with
   | normal=>cases g1;exact ihy _ z s' a' Ω' h hd.2 g3
   | exit id=>cases g1;cases h;exact ⟨.exit id,_,Ω',rfl,rfl,g3,rfl,rfl⟩
   | ret=>cases g1;cases h;exact ⟨.ret,_,Ω',rfl,rfl,g3,rfl,rfl⟩
   | pan pv=>obtain ⟨v,rfl,hv⟩:=g1;cases h;exact ⟨.pan pv,_,Ω',⟨v,rfl,hv⟩,rfl,g3,rfl,rfl⟩
 | cond c x y ihx ihy=>
  intro s z s' a Ω h hd hh
  simp only [bR,Bool.and_eq_true] at hd
  unfold iP at h
  have hv:=aO hh c
  split at h
  ·rename_i hb
   have hb':opd s.abs.T c=.bool true:=hb
   rw [hb'] at hv
   exact wp_cond hv.bool_inv (ihx _ z s' a Ω h hd.1 hh)
  ·rename_i hb
   have hb':opd s.abs.T c=.bool false:=hb
   rw [hb'] at hv
   exact wp_cond hv.bool_inv (ihy _ z s' a Ω h hd.2 hh)
  ·cases h
 | block id c ih=>
  intro s z s' a Ω h hd hh
  simp only [bR] at hd
  unfold iP at h
  cases h1:iP C keep pubs N c s with
  | none=>rw [h1] at h;cases h
  | some r=>
   obtain ⟨e1,s1⟩:=r
   rw [h1] at h
   refine wp_block (wp_mono (ih s e1 s1 a Ω h1 hd hh) ?_)
   intro e a' w' hq
   obtain ⟨e2,s2,Ω',g1,g2,g3,g4,g5⟩:=hq
   subst g2 g4 g5
   cases e2 with
   | normal=>cases g1;cases h;exact ⟨.normal,_,Ω',rfl,rfl,g3,rfl,rfl⟩
   | ret=>cases g1;cases h;exact ⟨.ret,_,Ω',rfl,rfl,g3,rfl,rfl⟩
   | pan pv=>obtain ⟨v,rfl,hv⟩:=g1;cases h;exact ⟨.pan pv,_,Ω',⟨v,rfl,hv⟩,rfl,g3,rfl,rfl⟩
   | exit j=>
    cases g1
    simp only [vY,Exit.inBlock]
    by_cases hj:j=id
    ·subst hj
     simp only [beq_self_eq_true,if_true] at h
     cases h
     simp only [if_true]
     exact ⟨.normal,_,Ω',rfl,rfl,g3,rfl,rfl⟩
    ·simp only [beq_iff_eq,hj,if_false] at h
     cases h
     rw [if_neg hj]
     exact ⟨.exit j,_,Ω',rfl,rfl,g3,rfl,rfl⟩
 | loop c ih=>
  intro s z s' a Ω h hd hh
  simp only [bR] at hd
  unfold iP at h
  refine wp_loop_rounds N ?_
  have key:∀(n:Nat) (s:St) (a:Act) (Ω:Om),xP (iP C keep pubs N c) n s=some (z,s')→Holds F s.abs a Ω→Code.rounds P c (QL F fun y t=>y=z/\t=s') n a Ω.w:=by
   intro n
   induction n with
   | zero=>intro s a Ω h _;cases h
   | succ n ihn=>
    intro s a Ω h hh
    rw [rounds_succ]
    unfold xP at h
    cases h1:iP C keep pubs N c s with
    | none=>rw [h1] at h;cases h
    | some r=>
     obtain ⟨e1,s1⟩:=r
     rw [h1] at h
     refine wp_mono (ih s e1 s1 a Ω h1 hd hh) ?_
     intro e a' w' hq
     obtain ⟨e2,s2,Ω',g1,g2,g3,g4,g5⟩:=hq
     subst g2 g4 g5
     cases e2 with
     | normal=>cases g1;exact ihn _ a' Ω' h g3
     | exit id=>cases g1;cases h;exact ⟨.exit id,_,Ω',rfl,rfl,g3,rfl,rfl⟩
     | ret=>cases g1;cases h;exact ⟨.ret,_,Ω',rfl,rfl,g3,rfl,rfl⟩
     | pan pv=>obtain ⟨v,rfl,hv⟩:=g1;cases h;exact ⟨.pan pv,_,Ω',⟨v,rfl,hv⟩,rfl,g3,rfl,rfl⟩
  exact key N s a Ω h hh
 | exit id=>intro s x s' a Ω h _ hh;cases h;exact wp_exit ⟨.exit id,s,Ω,rfl,rfl,hh,rfl,rfl⟩
 | ret=>intro s x s' a Ω h _ hh;cases h;exact wp_ret ⟨.ret,s,Ω,rfl,rfl,hh,rfl,rfl⟩
 | rangeFunc g ps x y _ _=>intro s z s' a Ω h;cases h
 | scope c ih=>
  intro s z s' a Ω h hd hh
  simp only [bR] at hd
  unfold iP at h
  refine wp_scope_straight (wp_mono (ih s z s' a Ω h hd hh) ?_)
  intro e a' w' hq
  obtain ⟨e2,s2,Ω',h1,h2,h3,h4⟩:=hq
  cases e2 with
  | normal=>cases h1;exact ⟨.normal,_,Ω',rfl,h2,h3,h4⟩
  | exit id=>cases h1;exact ⟨.exit id,_,Ω',rfl,h2,h3,h4⟩
  | ret=>cases h1;exact ⟨.ret,_,Ω',rfl,h2,h3,h4⟩
  | pan pv=>obtain ⟨v,rfl,hv⟩:=h1;exact ⟨.pan pv,_,Ω',⟨v,rfl,hv⟩,h2,h3,h4⟩
 | label l=>intro s x s' a Ω h _ hh;cases h;exact wp_label ⟨.normal,s,Ω,rfl,rfl,hh,rfl,rfl⟩
 | goto l=>intro s z s' a Ω h;cases h
 | refuse why=>intro s z s' a Ω h;cases h
end Go.AL
end
noncomputable section
namespace Go.AL
variable [Tabs]
structure RC where
 r0:Code
 rest:Code
 crest:Code
 t5:Nat
 caps:List Operand
 t6:Nat
 t3:Nat
theorem ry:∀(u S:List (Nat × SObj)) (i:Nat),aW (u.map (·.1))=true→ah (ct S u) i=(ah u i).or (ah S i)
 | [],S,i,_=>by simp [ct,aD,aC]
 | (j,o) ::r,S,i,h=>by
  simp only [List.map_cons,aW,Bool.and_eq_true,Bool.not_eq_true'] at h
  simp only [ct]
  rw [ry r _ i h.2,gG]
  simp only [aD,aC]
  by_cases e:j=i
  ·subst e
   have:ah r j=none:=by
    cases hb:ah r j with
    | none=>rfl
    | some o'=>
     have:=cH r j o' hb
     have h1:=h.1
     simp only [List.contains_eq_mem,decide_eq_false_iff_not,List.mem_map,not_exists,not_and] at h1
     exact absurd rfl (h1 _ this)
   simp [this]
  ·simp [e]
section
variable {P:Program} {C:Cfg}
structure RCcode (g:Nat) (R:RC) (c cc:Code):Prop where
 code:∃i1 i2 ty1 ps1 af1 ty2 ps2 af2 ts2 ty3 ps3 af3 ts3 ty4 ps4 af4,
  c=.seq R.r0 (.seq (.region i1 #[⟨some R.t5,.makeFunc (.func g) #[] R.caps.toArray,ty1,ps1,af1,none⟩,⟨none,.defer ⟨.value (.tmp R.t5),#[],ts2⟩,ty2,ps2,af2,none⟩] false) R.rest)/\
  cc=.seq (.region i2 #[⟨some R.t6,.call ⟨.builtin .recover,#[],ts3⟩,ty3,ps3,af3,none⟩,⟨some R.t3,.assign (.tmp R.t6),ty4,ps4,af4,none⟩] false) R.crest
end
end Go.AL
end
noncomputable section
namespace Go.AL
variable [Tabs]
mutual
def fineV:AV→Bool
 | .lstp _ _ _=>false
 | .tptr _ _ _=>false
 | .cptr c=>fineV c
 | .agg cs=>fineVs cs
 | .tup cs=>fineVs cs
 | .fn _ cs=>fineVs cs
 | .iface _ a=>fineV a
 | _=>true
def fineVs:List AV→Bool
 | []=>true
 | a ::r=>fineV a && fineVs r
end
def DE:SObj→Bool
 | .box c=>fineV c
 | .tailp _ _ _=>false
 | _=>true
mutual
def strip:AV→AV
 | .lst τ xs _=>.lst τ xs none
 | .agg cs=>.agg (strips cs)
 | .tup cs=>.tup (strips cs)
 | a=>a
def strips:List AV→List AV
 | []=>[]
 | a ::r=>strip a ::strips r
end
theorem jm (τ:Ty) (xs:List (den τ)):eA τ τ xs=some xs:=by simp [eA]
theorem wv (n:SN) (x:SD n):jv n n x=some x:=by simp [jv]
theorem wx (n:SN) (x:Option (SD n)):mS n n x=some x:=by simp [mS]
theorem pV (a:AV):qV a a:=by cases a <;> trivial
mutual
theorem LeV_self (G:List Nat):∀a:AV,fineV a=true→LeV G a a
 | .undef,_=>bC (by simp [LeF])
 | .int k n,_=>bC (by simp [LeF])
 | .bool b,_=>bC (by simp [LeF])
 | .str s,_=>bC (by simp [LeF])
 | .lst τ xs o,_=>bC (by simp [LeF,jm])
 | .nils,_=>bC (by simp [LeF])
 | .ptr i o,_=>bC (by simp [LeF])
 | .nilp,_=>bC (by simp [LeF])
 | .pt n x,_=>bC (by simp [LeF,wx])
 | .st n x,_=>bC (by simp [LeF,wv])
 | .row τ xs,_=>bC (by simp [LeF,jm])
 | .arr i n w,_=>bC (by simp [LeF])
 | .aptr i n w o,_=>bC (by simp [LeF])
 | .map i,_=>bC (by simp [LeF])
 | .glst _ _ _,_=>bC (by simp [LeF])
 | .gptr _ _ _ _ _,_=>bC (by simp [LeF])
 | .bptr i,_=>bC (by simp [LeF])
 | .nilif,_=>bC (by simp [LeF])
 | .nilm,_=>bC (by simp [LeF])
 | .cptr c,h=>by simp only [fineV] at h;unfold LeV;exact ⟨pV c,LeV_self G c h⟩
 | .agg cs,h=>by simp only [fineV] at h;unfold LeV;exact LeL_self G cs h
 | .tup cs,h=>by simp only [fineV] at h;unfold LeV;exact LeL_self G cs h
 | .fn f cs,h=>by simp only [fineV] at h;unfold LeV;exact ⟨by simp,LeL_self G cs h⟩
 | .iface t a,h=>by simp only [fineV] at h;unfold LeV;exact ⟨by simp,LeV_self G a h⟩
 | .lstp _ _ _,h=>by cases h
 | .tptr _ _ _,h=>by cases h
theorem LeL_self (G:List Nat):∀l:List AV,fineVs l=true→LeL G l l
 | [],_=>by unfold LeL;trivial
 | a ::r,h=>by
  simp only [fineVs,Bool.and_eq_true] at h
  unfold LeL
  exact ⟨LeV_self G a h.1,LeL_self G r h.2⟩
end
mutual
theorem LeV_strip (G:List Nat):∀a:AV,fineV a=true→LeV G a (strip a)
 | .lst τ xs o,_=>by unfold strip;exact bC (by simp [LeF,jm])
 | .agg cs,h=>by simp only [fineV] at h;unfold strip LeV;exact LeL_strip G cs h
 | .tup cs,h=>by simp only [fineV] at h;unfold strip LeV;exact LeL_strip G cs h
 | .undef,h=>LeV_self G _ h
 | .int k n,h=>LeV_self G _ h
 | .bool b,h=>LeV_self G _ h
 | .str s,h=>LeV_self G _ h
 | .nils,h=>LeV_self G _ h
 | .ptr i o,h=>LeV_self G _ h
 | .nilp,h=>LeV_self G _ h
 | .pt n x,h=>LeV_self G _ h
 | .st n x,h=>LeV_self G _ h
 | .row τ xs,h=>LeV_self G _ h
 | .arr i n w,h=>LeV_self G _ h
 | .aptr i n w o,h=>LeV_self G _ h
 | .map i,h=>LeV_self G _ h
 | .glst _ _ _,h=>LeV_self G _ h
 | .gptr _ _ _ _ _,h=>LeV_self G _ h
 | .bptr i,h=>LeV_self G _ h
 | .nilif,h=>LeV_self G _ h
 | .nilm,h=>LeV_self G _ h
 | .cptr c,h=>LeV_self G _ h
 | .fn f cs,h=>LeV_self G _ h
 | .iface t a,h=>LeV_self G _ h
 | .lstp _ _ _,h=>by cases h
 | .tptr _ _ _,h=>by cases h
theorem LeL_strip (G:List Nat):∀l:List AV,fineVs l=true→LeL G l (strips l)
 | [],_=>by unfold strips LeL;trivial
 | a ::r,h=>by
  simp only [fineVs,Bool.and_eq_true] at h
  unfold strips LeL
  exact ⟨LeV_strip G a h.1,LeL_strip G r h.2⟩
end
theorem uz {G:List Nat} {s:St}:∀(l l':List AV) (k:Nat),LeL G l l'→(∀j,aM s.t (k+j)=l.getD j .undef)→LeT G s (eU k l')
 | [],[],k,_,_=>trivial
 | a ::r,b ::r',k,h,hg=>by
  unfold LeL at h
  refine ⟨?_,uz r r' (k+1) h.2 fun j=>?_⟩
  ·have:=hg 0
   rw [Nat.add_zero] at this
   rw [this]
   exact h.1
  ·have:=hg (j+1)
   rw [show k+1+j=k+(j+1) by omega,this]
   rfl
 | [],_ ::_,_,h,_=>by unfold LeL at h;exact h.elim
 | _ ::_,[],_,h,_=>by unfold LeL at h;exact h.elim
theorem iQ {G:List Nat} {s:St}:∀l:List (Nat × SObj),(∀x∈l,ah s.b x.1=some x.2/\DE x.2=true)→LeB G s l
 | [],_=>trivial
 | (i,.box c) ::r,h=>by
  obtain ⟨h1,h2⟩:=h _ (List.mem_cons_self ..)
  refine ⟨?_,iQ r fun x hx=>h x (List.mem_cons_of_mem _ hx)⟩
  simp only at h1
  rw [h1]
  exact ⟨pV c,LeV_self G c h2⟩
 | (i,.tail τ n) ::r,h=>by
  obtain ⟨h1,h2⟩:=h _ (List.mem_cons_self ..)
  refine ⟨?_,iQ r fun x hx=>h x (List.mem_cons_of_mem _ hx)⟩
  simp only at h1
  rw [h1]
  simp
 | (i,.map κ τ m) ::r,h=>by
  obtain ⟨h1,h2⟩:=h _ (List.mem_cons_self ..)
  refine ⟨?_,iQ r fun x hx=>h x (List.mem_cons_of_mem _ hx)⟩
  simp only at h1
  rw [h1]
  simp [xx]
 | (i,.bld t u l) ::r,h=>by
  obtain ⟨h1,h2⟩:=h _ (List.mem_cons_self ..)
  refine ⟨?_,iQ r fun x hx=>h x (List.mem_cons_of_mem _ hx)⟩
  simp only at h1
  rw [h1]
  simp
 | (i,.tailp τ n x) ::r,h=>by
  obtain ⟨h1,h2⟩:=h _ (List.mem_cons_self ..)
  cases h2
 | (i,.grow τ n xs) ::r,h=>by
  obtain ⟨h1,h2⟩:=h _ (List.mem_cons_self ..)
  refine ⟨?_,iQ r fun x hx=>h x (List.mem_cons_of_mem _ hx)⟩
  simp only at h1
  rw [h1]
  simp [jm]
end Go.AL
end
noncomputable section
namespace Go.AL
def nv (S:List (Nat × SObj)) (x:Nat × SObj):Bool:=match ah S x.1 with | some o=>eqO o x.2 | none=>false
def Bm:List AV→AV
 | [a]=>a
 | l=>.tup l
def Bn (s:St) (l:List AV):List (Nat × SObj):=
 s.b.filter fun x=>bJ x.1 || (iF (ah s.b) 64 (ids.idsL l++(aI s.b).filter bJ) []).contains x.1
def Eb:Bool→List AV→List AV
 | true,l=>l
 | false,l=>strips l
def Bp (tok:Bool) (S:List (Nat × SObj)) (s:St) (l:List AV):Option Ans:=
 evVs (Eb tok l) fun l'=>evB (Bn s l') fun kept=>
  match fineVs l && (kept.all (fun x=>DE x.2)) && aW (aI s.b) && (aI S).all (fun i=>(aI kept).contains i) &&
    (cD ((aI s.b).filter fun i=>!(aI kept).contains i) ⟨eU 0 l',kept⟩ && ((aI s.b).filter fun i=>!(aI kept).contains i).all (fun i=>!bJ i)) with
  | true=>some ⟨none,none,Bm l',kept.filter fun x=>!nv S x⟩
  | false=>none
theorem nY:∀{l:List (Nat × SObj)},aW (aI l)=true→∀{i:Nat} {o:SObj},(i,o)∈l→ah l i=some o
 | [],_,_,_,h=>by cases h
 | (j,u) ::r,hd,i,o,h=>by
  simp only [aI,List.map_cons,aW,Bool.and_eq_true,Bool.not_eq_true',List.contains_eq_mem,decide_eq_false_iff_not] at hd
  rcases List.mem_cons.1 h with e | e
  ·cases e;simp [aD,aC]
  ·have hne:¬j=i:=fun q=>hd.1 (List.mem_map.2 ⟨_,e,q.symm⟩)
   simp only [aD,aC,beq_iff_eq,hne,if_false]
   exact nY hd.2 e
theorem gf (p:Nat × SObj→Bool):∀{l:List (Nat × SObj)},aW (aI l)=true→aW (aI (l.filter p))=true
 | [],_=>rfl
 | x ::r,hd=>by
  simp only [aI,List.map_cons,aW,Bool.and_eq_true,Bool.not_eq_true',List.contains_eq_mem,decide_eq_false_iff_not] at hd
  have ih:=gf p hd.2
  rw [List.filter_cons]
  split
  ·simp only [aI,List.map_cons,aW,Bool.and_eq_true,Bool.not_eq_true',List.contains_eq_mem,decide_eq_false_iff_not]
   refine ⟨fun h=>hd.1 ?_,ih⟩
   obtain ⟨y,hy,e⟩:=List.mem_map.1 h
   exact List.mem_map.2 ⟨y,(List.mem_filter.1 hy).1,e⟩
  ·exact ih
variable [Tabs]
theorem Bq {l:List (Nat × SObj)} {i:Nat} (h:ah l i=none):i∉aI l:=mz l i h
theorem pW {l:List (Nat × SObj)} {i:Nat} (h:i∉aI l):ah l i=none:=by
 cases hb:ah l i with
 | none=>rfl
 | some o=>exact absurd (List.mem_map.2 ⟨(i,o),cH l i o hb,rfl⟩) h
theorem CX {S kept:List (Nat × SObj)} (hd:aW (aI kept)=true) (hS:∀i∈aI S,i∈aI kept):ah (ct S (kept.filter fun x=>!nv S x))=ah kept:=by
 funext i
 have hdf:=gf (fun x=>!nv S x) hd
 rw [ry _ S i hdf]
 cases hk:ah kept i with
 | some o=>
  have hm:=cH kept i o hk
  cases hs:nv S (i,o) with
  | false=>
   have:(i,o)∈kept.filter fun x=>!nv S x:=List.mem_filter.2 ⟨hm,by rw [hs];rfl⟩
   rw [nY hdf this]
   rfl
  | true=>
   have hn:ah (kept.filter fun x=>!nv S x) i=none:=by
    cases hb:ah (kept.filter fun x=>!nv S x) i with
    | none=>rfl
    | some o'=>
     have h1:=List.mem_filter.1 (cH _ i o' hb)
     have h2:=nY hd h1.1
     rw [hk] at h2
     cases h2
     have h3:=h1.2
     rw [hs] at h3
     cases h3
   rw [hn]
   unfold nv at hs
   split at hs
   ·rename_i o' ho'
    simp only at ho' hs
    rw [ho',Ae hs]
    rfl
   ·cases hs
 | none=>
  have h1:i∉aI kept:=Bq hk
  rw [pW (l:=S) fun h=>h1 (hS i h),pW fun h=>h1 ?_]
  ·rfl
  ·obtain ⟨y,hy,e⟩:=List.mem_map.1 h
   exact List.mem_map.2 ⟨y,(List.mem_filter.1 hy).1,e⟩
theorem pX {G:List Nat}:∀{l m:List AV},LeL G l m→l.length=m.length
 | [],[],_=>rfl
 | _ ::_,_ ::_,h=>by unfold LeL at h;rw [List.length_cons,List.length_cons,pX h.2]
 | [],_ ::_,h=>by unfold LeL at h;exact h.elim
 | _ ::_,[],h=>by unfold LeL at h;exact h.elim
theorem zd {tok:Bool} {S:List (Nat × SObj)} {s:St} {l:List AV} {A:Ans} (h:Bp tok S s l=some A) :
  A.ob=none/\A.pan=none/\∃l' kept,A.val=Bm l'/\l'.length=l.length/\LeS ⟨eU 0 l,s.b⟩ ⟨eU 0 l',kept⟩/\ah (ct S A.upd)=ah kept:=by
 unfold Bp at h
 rw [evVs_eq,ta] at h
 split at h
 ·rename_i hc
  cases h
  simp only [Bool.and_eq_true,List.all_eq_true] at hc
  obtain ⟨⟨⟨⟨h1,h2⟩,h3⟩,h4⟩,h5,h6⟩:=hc
  refine ⟨rfl,rfl,Eb tok l,Bn s (Eb tok l),rfl,?_,⟨?_,?_,?_⟩,?_⟩
  ·cases tok with
   | true=>rfl
   | false=>exact (pX (LeL_strip [] l h1)).symm
  ·rw [if_pos]
   ·trivial
   ·rw [Bool.and_eq_true,List.all_eq_true]
    exact ⟨h5,h6⟩
  ·refine uz l _ 0 ?_ fun j=>?_
   ·cases tok with
    | true=>exact LeL_self _ l h1
    | false=>exact LeL_strip _ l h1
   ·show aM (eU 0 l) (0+j)=_
    rw [iO]
    simp
  ·refine iQ _ fun x hx=>⟨?_,h2 x hx⟩
   exact nY h3 (List.mem_filter.1 hx).1
  ·refine CX (gf _ h3) fun i hi=>?_
   have:=h4 i hi
   rwa [List.contains_eq_mem,decide_eq_true_eq] at this
 ·cases h
structure FB where
 body:Code
 n:Nat
 res:List ResultVar
 keep:Nat
 pubs:List (Nat × List Nat)
 pend:Nat→Bool
 rows:Nat→Bool
 same:Nat→Bool
 tok:Bool
 ps:List (Option Ty)
def Br:Option Ty→AV→AV
 | some (.st n),a=>(match arg (.st n) a with | some x=>.st n x | none=>a)
 | _,a=>a
def xQ:List (Option Ty)→List AV→List AV
 | p ::ps,a ::r=>Br p a ::xQ ps r
 | _,l=>l
def Ec (C:Cfg) (N:Nat) (x:FB) (args:List AV) (S:List (Nat × SObj)):Option Ans:=
 evVs (xQ x.ps args) fun args=>evB S fun S=>
  match oh args x.n && (aI S).all bJ with
  | false=>none
  | true=>
   match iP C x.keep x.pubs N x.body ⟨eU 0 args,S⟩ with
   | some (.normal,s)=>(match jC C.tbl s x.res with | some l=>Bp x.tok S s l | none=>none)
   | some (.ret,s)=>(match jC C.tbl s x.res with | some l=>Bp x.tok S s l | none=>none)
   | _=>none
variable {P:Program} {C:Cfg}
theorem Bt (p:Option Ty) (a:AV):Rd a (Br p a):=by
 unfold Br
 split
 ·split
  ·rename_i x hx;exact Rd.arg hx
  ·exact Rd.refl a
 ·exact Rd.refl a
theorem uA:∀(ps:List (Option Ty)) (l:List AV),RdL l (xQ ps l)
 | [],l=>RdL.refl l
 | p ::ps,[]=>.nil
 | p ::ps,a ::r=>.cons (Bt p a) (uA ps r)
theorem runF_meets (hm:P.follows .mixedOrders=true) (hT:aH P C.tbl) (hS:bK P C.spec) {N:Nat} {x:FB} {f:Nat} {fn:Func} (hf:P.funcs[f]?=some fn) (hb:fn.body=some x.body) (hn:fn.ntmps=x.n) (hr:fn.results.toList=x.res)
  (hd:bR x.n x.body=true) {args:List AV} {S:List (Nat × SObj)} {A:Ans} (h:Ec C N x args S=some A):bd P f args S A:=by
 refine bd.args (uA x.ps args) ?_
 intro w pub e vs hp ht hv hs hdom hinj
 unfold Ec at h
 rw [evVs_eq,ta] at h
 split at h
 ·cases h
 ·rename_i hck
  simp only [Bool.and_eq_true,List.all_eq_true] at hck
  obtain ⟨hck2,hck3⟩:=hck
  have hlen:=gX _ _ hck2
  have hlent:∀id c,e id=some c→bJ id=true:=by
   intro id c hc
   cases hg:ah S id with
   | none=>rw [hdom id hg] at hc;cases hc
   | some o=>exact hck3 id (List.mem_map.2 ⟨(id,o),cH _ _ _ hg,rfl⟩)
  have hrun:∃z s',iP C x.keep x.pubs N x.body ⟨eU 0 (xQ x.ps args),S⟩=some (z,s')/\(match jC C.tbl s' x.res with | some l=>Bp x.tok S s' l | none=>none)=some A/\(z=.normal∨z=.ret):=by
   split at h
   ·rename_i s' hz;exact ⟨_,s',hz,h,.inl rfl⟩
   ·rename_i s' hz;exact ⟨_,s',hz,h,.inr rfl⟩
   ·cases h
  obtain ⟨z,s',hz,he,hzz⟩:=hrun
  refine calls_of_wp hf hb ?_
  have hh:=pG (n:=fn.ntmps) hp ht hv (by rw [hn];exact hlen) hs hdom hinj hlent
  rw [←hn] at hd
  refine wp_mono (wu (F:=⟨w,pub,fn.ntmps,e,hlent,[],ht⟩) hm hT hS _ _ N x.body _ z s' _ _ hz hd hh) ?_
  intro en a' w' hq
  obtain ⟨z2,s2,Ω',h1,h2,h3,h4,h5⟩:=hq
  subst h2 h4 h5
  have hmap:∀us,(fn.results.toList.mapM (mF a'.tmps)).run P Ω'.w=.ok us Ω'.w→
    (results fn a'.tmps).run P Ω'.w=.ok (if h:us.toArray.size=1 then us.toArray[0] else .tuple us.toArray) Ω'.w:=by
   intro us hus
   rw [pH,←Array.toArray_toList (xs:=fn.results),List.mapM_toArray]
   simp only [Sem.run_bind,Sem.run_map,hus,Result.andThen_ok,Sem.run_pure]
  have main:a'.defers=[]/\∃v,(results fn a'.tmps).run P Ω'.w=.ok v Ω'.w/\∃pub' e',(∀b pv u,A.pan=some (b,pv,u)→b=false)/\V ⟨e',Ω'.w,pub'⟩ A.val v/\After w pub e (ah (ct S A.upd)) Ω'.w pub' e':=by
   refine ⟨h3.defers,?_⟩
   split at he
   ·rename_i l hres
    rw [←hr] at hres
    obtain ⟨a1,a2,l',kept,a3,a4,a5,a6⟩:=zd he
    obtain ⟨us,k1,k2⟩:=fU hT h3 _ _ hres
    obtain ⟨Ω2,e2,hh2⟩:=eE (s:=⟨eU 0 l,s2.b⟩) (h3.retmp k2) a5
    rw [a3,a6]
    refine ⟨_,hmap us k1,Ω2.pub,Ω2.e,fun b pv u q=>(by rw [a2] at q;cases q),?_,by rw [←e2];exact lM hh2⟩
    have hval:∀(j:Nat) c v,l'[j]?=some c→us[j]?=some v→V ⟨Ω2.e,Ω'.w,Ω2.pub⟩ c v:=fun j c v hc hv=>by
     have:=hh2.tmps j
     simp only [St.abs,iO,Nat.zero_le,if_true,Nat.sub_zero,List.getD_eq_getElem?_getD,hc,Option.getD_some] at this
     have e3:(us.toArray++Array.replicate 0 undef).getD j undef=v:=by
      simp [Array.getD_eq_getD_getElem?,hv]
     rw [e3] at this
     rw [←e2]
     exact this
    have hlu:l'.length=us.length:=a4.trans k2.1
    by_cases h1':us.toArray.size=1
    ·rw [dif_pos h1']
     obtain ⟨u,rfl⟩:=lN (l:=us) (by simpa using h1')
     obtain ⟨c,rfl⟩:=lN (l:=l') (by rw [hlu];rfl)
     exact hval 0 c u rfl rfl
    ·rw [dif_neg h1']
     have:Bm l'=.tup l':=by
      match l',hlu with
      | [],_=>rfl
      | [c],q=>exact absurd (by simpa using q.symm) h1'
      | _ ::_ ::_,_=>rfl
     rw [this]
     exact .tup l' us hlu hval
   ·cases he
  rcases hzz with rfl | rfl
  ·cases h1;exact main
  ·cases h1;exact main
def xR:List (Nat × FB)→Nat→Option FB
 | [],_=>none
 | (j,x) ::r,f=>if Nat.beq j f=true then some x else xR r f
def au (tbl:List (Nat × TR)) (fn:Func) (keep:Nat) (pubs:List (Nat × List Nat)) (pend rows same:Nat→Bool) (tok:Bool):FB:=
 ⟨fn.body.getD .skip,fn.ntmps,fn.results.toList,keep,pubs,pend,rows,same,tok,fn.params.toList.map fun t=>(ay tbl t).bind (·.ty)⟩
def fbok (fn:Func):Bool:=match fn.body with | none=>false | some c=>bR fn.ntmps c && !(fn.name == "runtime.NumGoroutine")
def ab (P:Program) (tab:List (Nat × FB)):Prop:=∀f x,xR tab f=some x→
 ∃fn,P.funcs[f]?=some fn/\fn.body=some x.body/\fn.ntmps=x.n/\fn.results.toList=x.res/\bR x.n x.body=true/\(fn.name == "runtime.NumGoroutine")=false
theorem ab.nil:ab P []:=fun f x h=>by cases h
theorem ab.cons {tbl:List (Nat × TR)} {f:Nat} {fn:Func} {keep:Nat} {pubs:List (Nat × List Nat)} {pend rows same:Nat→Bool} {tok:Bool} {tab:List (Nat × FB)} (hf:P.funcs[f]?=some fn) (hc:fbok fn=true) (ht:ab P tab) :
  ab P ((f,au tbl fn keep pubs pend rows same tok) ::tab):=by
 intro g x h
 unfold xR at h
 split at h
 ·rename_i hb
  obtain rfl:=Nat.eq_of_beq_eq_true hb
  cases h
  unfold fbok at hc
  split at hc
  ·cases hc
  ·rename_i c hb'
   simp only [Bool.and_eq_true,Bool.not_eq_true'] at hc
   exact ⟨fn,hf,by simp [au,hb'],rfl,rfl,by simpa [au,hb'] using hc.1,hc.2⟩
 ·exact ht g x h
def uB (tbl:List (Nat × TR)) (tab:List (Nat × FB)) (keeps:Nat→Bool) (lends:Nat→List (Option Nat)) (N:Nat) (base:Nat→List AV→List (Nat × SObj)→Option Ans) :
  Nat→Nat→List AV→List (Nat × SObj)→Option Ans
 | 0,f,us,S=>base f us S
 | n+1,f,us,S=>
  match base f us S with
  | some A=>some A
  | none=>
  match xR tab f with
  | none=>none
  | some x=>Ec ⟨tbl,uB tbl tab keeps lends N base n,keeps,lends,x.pend,x.rows,x.same⟩ N x us S
theorem xS {tbl:List (Nat × TR)} {tab:List (Nat × FB)} {keeps:Nat→Bool} {lends:Nat→List (Option Nat)} {N:Nat} {base:Nat→List AV→List (Nat × SObj)→Option Ans}
  (hm:P.follows .mixedOrders=true) (hT:aH P tbl) (hB:bK P base) (ht:ab P tab):∀n:Nat,bK P (uB tbl tab keeps lends N base n)
 | 0=>hB
 | n+1=>by
  intro f args S A h ho hl
  unfold uB at h
  split at h
  ·rename_i A' hb
   cases h
   exact hB f args S A hb ho hl
  split at h
  ·cases h
  ·rename_i x hx
   obtain ⟨fn,h1,h2,h3,h4,h5,h6⟩:=ht f x hx
   exact ⟨⟨fn,h1,by rw [h2];rfl,h6⟩,runF_meets hm hT (xS hm hT hB ht n) h1 h2 h3 h4 h5 h⟩
theorem kC {tbl:List (Nat × TR)} {tab:List (Nat × FB)} {keeps:Nat→Bool} {lends:Nat→List (Option Nat)} {N n f:Nat} {base:Nat→List AV→List (Nat × SObj)→Option Ans} {args:List AV} {v:AV} {u:List (Nat × SObj)}
  (hm:P.follows .mixedOrders=true) (hT:aH P tbl) (hB:bK P base) (ht:ab P tab) (h:uB tbl tab keeps lends N base n f args []=some ⟨none,none,v,u⟩):bd P f args [] ⟨none,none,v,u⟩:=
 (xS hm hT hB ht n f args [] _ h (fun _ q=>by cases q) rfl).2
end Go.AL
end
noncomputable section
namespace Go.AL
variable [Tabs] {P:Program}
def q1 (τ:Ty) (b:den τ→Bool) (F:den τ→AV):Pat
 | [a],[]=>(match arg τ a with | some x=>(match b x with | true=>some (.ret (F x)) | false=>none) | none=>none)
 | _,_=>none
theorem Bu {f:Nat} {τ:Ty} {b:den τ→Bool} {F:den τ→AV} {O:den τ→Prop} (h:an P f (p1 τ fun x=>⟨some (O x),none,F x,[]⟩)) (hb:∀x,b x=true→O x):an P f (q1 τ b F):=by
 intro args S A hA ho hl
 unfold q1 at hA
 split at hA
 ·rename_i a
  split at hA
  ·rename_i x hx
   split at hA
   ·rename_i ht
    cases hA
    have k:=h [a] [] ⟨some (O x),none,F x,[]⟩ (by simp [p1,hx]) (fun q hq=>by cases hq;exact hb x ht) hl
    exact ⟨k.1,k.2⟩
   ·cases hA
  ·cases hA
 ·cases hA
def q2 (τ σ:Ty) (b:den τ→den σ→Bool) (F:den τ→den σ→AV):Pat
 | [a,c],[]=>(match arg τ a,arg σ c with | some x,some y=>(match b x y with | true=>some (.ret (F x y)) | false=>none) | _,_=>none)
 | _,_=>none
theorem rz {f:Nat} {τ σ:Ty} {b:den τ→den σ→Bool} {F:den τ→den σ→AV} {O:den τ→den σ→Prop} (h:an P f (p2 τ σ fun x y=>⟨some (O x y),none,F x y,[]⟩)) (hb:∀x y,b x y=true→O x y):an P f (q2 τ σ b F):=by
 intro args S A hA ho hl
 unfold q2 at hA
 split at hA
 ·rename_i a c
  split at hA
  ·rename_i x y hx hy
   split at hA
   ·rename_i ht
    cases hA
    have k:=h [a,c] [] ⟨some (O x y),none,F x y,[]⟩ (by simp [p2,hx,hy]) (fun q hq=>by cases hq;exact hb x y ht) hl
    exact ⟨k.1,k.2⟩
   ·cases hA
  ·cases hA
 ·cases hA
def xT (as0:List AV) (v:AV):Pat:=fun args S=>match eqVs as0 args,S with | true,[]=>some (.ret v) | _,_=>none
theorem xU {f:Nat} {as0:List AV} {v:AV} (he:aV P f) (h:bd P f as0 [] (.ret v)):an P f (xT as0 v):=by
 intro args S A hA ho hl
 unfold xT at hA
 split at hA
 ·rename_i heq
  cases hA
  rw [←eqVs_ok _ _ heq]
  exact ⟨he,h⟩
 ·cases hA
def t1 (τ:Ty) (b:den τ→Bool):List AV→List (Nat × SObj)→Bool
 | [a],_=>(match arg τ a with | some x=>b x | none=>false)
 | _,_=>false
end Go.AL
end
section
open Go Go.AL Go.Proofs
namespace Go.AL.Seat
variable [Tabs]
def r1:TR:=⟨.other,1,8,[.undef],none⟩
def r2:TR:=⟨.int .i64,1,8,[.int .i64 0],some (.int .i64)⟩
def r5:TR:=⟨.int .u8,1,1,[.int .u8 0],some (.int .u8)⟩
def r7:TR:=⟨.strct true [(0,2),(1,3),(2,4),(3,6)],4,24,[.int .i64 0,.int .i64 0,.bool false,.int .u8 0],none⟩
def r9:TR:=⟨.str,1,16,[.str []],some .str⟩
def r12:TR:=⟨.int .u64,1,8,[.int .u64 0],some (.int .u64)⟩
def r13:TR:=⟨.strct false [(0,9),(1,12)],2,24,[.str [],.int .u64 0],none⟩
def r18:TR:=⟨.strct false [(0,17)],1,8,[.nilp],none⟩
def r20:TR:=⟨.iface,1,16,[.nilif],none⟩
def r21:TR:=⟨.int .i32,1,4,[.int .i32 0],some (.int .i32)⟩
def r67:TR:=⟨.strct false [(0,61)],1,24,[.nils],none⟩
def r70:TR:=⟨.strct false [(0,68),(1,69),(2,66)],3,56,[.nils,.nils,.nilp],none⟩
def r87:TR:=⟨.strct true [(0,9),(1,3),(2,4)],3,32,[.str [],.int .i64 0,.bool false],none⟩
def r97:TR:=⟨.strct false [(0,31),(1,96)],2,48,[.nils,.nils],none⟩
def r126:TR:=⟨.strct false [(0,125),(1,122)],2,32,[.nilp,.nils],none⟩
def CY:TR:=⟨.strct true [(0,9),(1,3)],2,24,[.str [],.int .i64 0],none⟩
def CZ:TR:=⟨.strct false [(0,154),(2,102),(3,55)],5,64,[.str [],.int .i64 0,.nils,.int .i64 0,.int .i64 0],none⟩
def ze:TR:=⟨.strct true [(0,3),(1,3),(2,3),(3,3)],4,32,[.int .i64 0,.int .i64 0,.int .i64 0,.int .i64 0],none⟩
def r249:TR:=⟨.strct true [(0,5),(1,5)],2,2,[.int .u8 0,.int .u8 0],none⟩
def zf:TR:=⟨.strct false [],0,0,[],none⟩
def r285:TR:=⟨.strct false [(0,9),(1,9),(2,129)],3,48,[.str [],.str [],.nilif],none⟩
def r299:TR:=⟨.strct true [(0,9)],1,16,[.str []],none⟩
def r313:TR:=⟨.strct false [(0,17),(1,17),(2,17),(3,9)],4,40,[.nilp,.nilp,.nilp,.str []],none⟩
def r323:TR:=⟨.strct false [(0,12),(1,12),(2,280),(3,318),(4,5),(5,5),(6,319),(7,320),(8,176),(9,321),(10,322)],11,48,[.int .u64 0,.int .u64 0,.int .u32 0,.int .u8 0,.int .u8 0,.int .u8 0,.int .u8 0,.undef,.nilp,.int .i32 0,.int .i32 0],none⟩
def tbl:List (Nat × TR):=[(1,r1),
 (2,r2),
 (3,r2),
 (4,⟨.bool,1,1,[.bool false],some .bool⟩),
 (5,r5),
 (6,r5),
 (7,r7),
 (8,r7),
 (9,r9),
 (10,r9),
 (11,r9),
 (12,r12),
 (13,r13),
 (14,r13),
 (15,⟨.ptr 314,1,8,[.nilp],none⟩),
 (16,⟨.ptr 317,1,8,[.nilp],none⟩),
 (17,⟨.ptr 324,1,8,[.nilp],none⟩),
 (18,r18),
 (19,r18),
 (20,r20),
 (21,r21),
 (22,⟨.slice 9,1,24,[.nils],some (.lst .str)⟩),
 (23,⟨.slice 49,1,24,[.nils],some (.lst (.st .shape))⟩),
 (24,⟨.slice 26,1,24,[.nils],some (.lst (.st .term))⟩),
 (25,⟨.strct false [(0,3),(1,9),(2,9),(3,3),(4,22),(5,22),(6,23),(7,24),(8,3)],9,152,[.int .i64 0,.str [],.str [],.int .i64 0,.nils,.nils,.nils,.nils,.int .i64 0],none⟩),
 (26,⟨.strct false [(0,3),(1,9),(2,9),(3,3),(4,22),(5,22),(6,23),(7,24),(8,3)],9,152,[.int .i64 0,.str [],.str [],.int .i64 0,.nils,.nils,.nils,.nils,.int .i64 0],some (.st .term)⟩),
 (27,⟨.slice 51,1,24,[.nils],some (.lst (.st .bind))⟩),
 (28,r1),
 (29,r1),
 (30,r1),
 (31,⟨.slice 63,1,24,[.nils],some (.lst (.st .chunk))⟩),
 (32,r2),
 (34,r1),
 (36,r1),
 (37,r1),
 (38,r1),
 (39,r1),
 (41,r1),
 (43,r1),
 (44,r1),
 (45,r1),
 (46,r1),
 (47,r1),
 (48,⟨.strct false [(0,3),(1,9),(2,9),(3,22),(4,23)],5,88,[.int .i64 0,.str [],.str [],.nils,.nils],none⟩),
 (49,⟨.strct false [(0,3),(1,9),(2,9),(3,22),(4,23)],5,88,[.int .i64 0,.str [],.str [],.nils,.nils],some (.st .shape)⟩),
 (50,⟨.strct false [(0,9),(1,9),(2,49)],7,120,[.str [],.str [],.int .i64 0,.str [],.str [],.nils,.nils],none⟩),
 (51,⟨.strct false [(0,9),(1,9),(2,49)],7,120,[.str [],.str [],.int .i64 0,.str [],.str [],.nils,.nils],some (.st .bind)⟩),
 (52,r1),
 (53,r1),
 (54,⟨.strct true [(0,32),(1,3)],2,16,[.int .i64 0,.int .i64 0],none⟩),
 (55,⟨.strct true [(0,32),(1,3)],2,16,[.int .i64 0,.int .i64 0],some (.st .fault)⟩),
 (57,r1),
 (58,⟨.slice 3,1,24,[.nils],some (.lst (.int .i64))⟩),
 (59,⟨.strct false [(0,3),(1,3),(2,9),(3,22),(4,58),(5,3)],6,88,[.int .i64 0,.int .i64 0,.str [],.nils,.nils,.int .i64 0],none⟩),
 (60,⟨.strct false [(0,3),(1,3),(2,9),(3,22),(4,58),(5,3)],6,88,[.int .i64 0,.int .i64 0,.str [],.nils,.nils,.int .i64 0],some (.st .op)⟩),
 (61,⟨.slice 60,1,24,[.nils],some (.lst (.st .op))⟩),
 (62,⟨.strct false [(0,3),(1,61)],2,32,[.int .i64 0,.nils],none⟩),
 (63,⟨.strct false [(0,3),(1,61)],2,32,[.int .i64 0,.nils],some (.st .chunk)⟩),
 (64,r1),
 (65,⟨.ptr 71,1,8,[.nilp],none⟩),
 (66,⟨.ptr 31,1,8,[.nilp],none⟩),
 (67,r67),
 (68,r67),
 (69,⟨.slice 73,1,24,[.nils],some (.lst (.st .nm))⟩),
 (70,r70),
 (71,r70),
 (72,⟨.strct true [(0,9),(1,9)],2,32,[.str [],.str []],none⟩),
 (73,⟨.strct true [(0,9),(1,9)],2,32,[.str [],.str []],some (.st .nm)⟩),
 (74,r1),
 (75,⟨.ptr 26,1,8,[.nilp],none⟩),
 (76,r1),
 (77,r1),
 (78,r1),
 (79,r1),
 (80,r12),
 (81,r1),
 (82,r1),
 (83,r1),
 (84,r1),
 (85,r1),
 (86,⟨.ptr 88,1,8,[.nilp],none⟩),
 (87,r87),
 (88,r87),
 (89,r1),
 (90,r1),
 (92,r1),
 (94,r1),
 (95,⟨.ptr 98,1,8,[.nilp],none⟩),
 (96,⟨.slice 100,1,24,[.nils],some (.lst (.st .stt))⟩),
 (97,r97),
 (98,r97),
 (99,⟨.strct true [(0,3),(1,3)],2,16,[.int .i64 0,.int .i64 0],none⟩),
 (100,⟨.strct true [(0,3),(1,3)],2,16,[.int .i64 0,.int .i64 0],some (.st .stt)⟩),
 (101,r1),
 (102,⟨.slice 162,1,24,[.nils],some (.lst (.st .token))⟩),
 (104,r1),
 (106,r1),
 (107,r1),
 (109,r1),
 (110,r1),
 (111,r1),
 (112,r1),
 (113,r1),
 (114,r1),
 (115,r1),
 (117,r1),
 (118,r1),
 (119,r1),
 (120,r1),
 (121,r1),
 (122,⟨.slice 5,1,24,[.nils],some (.lst (.int .u8))⟩),
 (123,r1),
 (124,r12),
 (125,⟨.ptr 127,1,8,[.nilp],none⟩),
 (126,r126),
 (127,r126),
 (128,r20),
 (129,r20),
 (131,r1),
 (132,r1),
 (133,⟨.slice 135,1,24,[.nils],some (.lst (.st .rstt))⟩),
 (134,⟨.strct true [(0,4),(1,3),(2,3)],3,24,[.bool false,.int .i64 0,.int .i64 0],none⟩),
 (135,⟨.strct true [(0,4),(1,3),(2,3)],3,24,[.bool false,.int .i64 0,.int .i64 0],some (.st .rstt)⟩),
 (136,r1),
 (138,r1),
 (140,r1),
 (142,r1),
 (144,r1),
 (146,r1),
 (148,r1),
 (149,r1),
 (150,r1),
 (151,r1),
 (152,⟨.ptr 156,1,8,[.nilp],none⟩),
 (153,CY),
 (154,CY),
 (155,CZ),
 (156,CZ),
 (157,r1),
 (158,r1),
 (159,r1),
 (160,r1),
 (161,⟨.strct true [(0,3),(1,9),(2,3)],3,32,[.int .i64 0,.str [],.int .i64 0],none⟩),
 (162,⟨.strct true [(0,3),(1,9),(2,3)],3,32,[.int .i64 0,.str [],.int .i64 0],some (.st .token)⟩),
 (163,⟨.ptr 168,1,8,[.nilp],none⟩),
 (164,r1),
 (165,⟨.strct false [(0,102),(1,3),(2,55)],4,48,[.nils,.int .i64 0,.int .i64 0,.int .i64 0],none⟩),
 (166,⟨.strct false [(0,102),(1,3),(2,55)],4,48,[.nils,.int .i64 0,.int .i64 0,.int .i64 0],some (.st .par)⟩),
 (167,⟨.strct false [(0,166)],4,48,[.nils,.int .i64 0,.int .i64 0,.int .i64 0],none⟩),
 (168,⟨.strct false [(0,166)],4,48,[.nils,.int .i64 0,.int .i64 0,.int .i64 0],some (.st .par)⟩),
 (169,r1),
 (170,r1),
 (171,r1),
 (172,r1),
 (173,⟨.ptr 68,1,8,[.nilp],none⟩),
 (174,r1),
 (175,r1),
 (176,⟨.ptr 5,1,8,[.nilp],none⟩),
 (178,r1),
 (179,r1),
 (180,r1),
 (181,r1),
 (182,⟨.ptr 154,1,8,[.nilp],none⟩),
 (184,r1),
 (185,r1),
 (186,r1),
 (187,r1),
 (188,⟨.strct true [(0,3),(1,3),(2,3),(3,9)],4,40,[.int .i64 0,.int .i64 0,.int .i64 0,.str []],none⟩),
 (189,⟨.strct true [(0,3),(1,3),(2,3),(3,9)],4,40,[.int .i64 0,.int .i64 0,.int .i64 0,.str []],some (.st .version)⟩),
 (191,r1),
 (193,r1),
 (194,⟨.ptr 166,1,8,[.nilp],none⟩),
 (195,r1),
 (196,r1),
 (197,r1),
 (198,r1),
 (199,ze),
 (200,ze),
 (201,r1),
 (202,r1),
 (203,r1),
 (204,r1),
 (205,r1),
 (206,r1),
 (207,r1),
 (209,r1),
 (210,r1),
 (211,r1),
 (212,r1),
 (213,r1),
 (214,r1),
 (216,r1),
 (217,r1),
 (221,r1),
 (222,r1),
 (223,⟨.ptr 219,1,8,[.nilp],none⟩),
 (225,r1),
 (226,r1),
 (227,⟨.arr 3 3,3,24,[.int .i64 0,.int .i64 0,.int .i64 0],none⟩),
 (228,r1),
 (229,r1),
 (230,r1),
 (231,r1),
 (232,r1),
 (233,r1),
 (234,r1),
 (235,r1),
 (236,r1),
 (237,r1),
 (238,r1),
 (239,r1),
 (240,r1),
 (241,r1),
 (242,r1),
 (243,r1),
 (244,r1),
 (245,r1),
 (246,r1),
 (247,r1),
 (249,r249),
 (250,r249),
 (252,r1),
 (253,r1),
 (254,r1),
 (255,r1),
 (256,r1),
 (257,r1),
 (258,r1),
 (259,r1),
 (260,r1),
 (261,r2),
 (263,r1),
 (264,⟨.ptr 286,1,8,[.nilp],none⟩),
 (265,r1),
 (266,r1),
 (267,zf),
 (268,zf),
 (270,r1),
 (271,r1),
 (272,r2),
 (274,r1),
 (275,r1),
 (276,r1),
 (278,r1),
 (279,r1),
 (280,⟨.int .u32,1,4,[.int .u32 0],some (.int .u32)⟩),
 (281,r1),
 (282,r1),
 (284,r1),
 (285,r285),
 (286,r285),
 (287,r1),
 (288,r1),
 (289,r12),
 (290,r1),
 (291,r1),
 (292,r1),
 (293,⟨.ptr 3,1,8,[.nilp],none⟩),
 (294,r1),
 (296,r1),
 (297,r1),
 (298,⟨.ptr 300,1,8,[.nilp],none⟩),
 (299,r299),
 (300,r299),
 (301,⟨.ptr 289,1,8,[.nilp],none⟩),
 (302,r1),
 (303,r1),
 (305,r1),
 (307,r1),
 (308,r1),
 (313,r313),
 (314,r313),
 (318,r5),
 (319,r5),
 (320,r1),
 (321,r21),
 (322,r21),
 (323,r323),
 (324,r323)]
theorem tk {t:Nat} {r:TR} (h1:(Tryz.prog.info? t).map (fun i=>(i.size,i.bytes,i.zero.map fun z=>z.cells.toList.map bH))=some (r.size,r.bytes,some r.zero):=by kernel_rfl)
  (h2:(Tryz.prog.underlying t).map (aA Tryz.prog r.ti)=some true:=by kernel_rfl)
  (h3:(eI r.zero r.size && (Nat.beq r.size 0 || Nat.blt 0 r.bytes) && (match r.ty with | some τ=>Nat.beq (a8 τ) r.size && (Cs τ ==r.isAgg) | none=>true))=true:=by kernel_rfl)
  (h8:(Tryz.prog.info? t).map (fun i=>i.zero.map fun z=>vu z ==r.isAgg)=some (some true):=by kernel_rfl)
  (h9:(match r.ti with | .strct true _=>!Tryz.prog.stoodInHeld t && !Tryz.prog.eqGuardType Tryz.prog.depth t | _=>true)=true:=by kernel_rfl):TRok Tryz.prog t r:=TRok.mk' h1 h2 h3 h8 h9
theorem DF:aH Tryz.prog tbl:=
 .cons tk (.cons tk (.cons tk (.cons tk (.cons tk (.cons tk (.cons tk (.cons tk (.cons tk (.cons tk (.cons tk (.cons tk (.cons tk (.cons tk (.cons tk (.cons tk (.cons tk (.cons tk (.cons tk (.cons tk (.cons tk (.cons tk (.cons tk (.cons tk (.cons tk (.cons tk (.cons tk (.cons tk (.cons tk (.cons tk (.cons tk (.cons tk (.cons tk (.cons tk (.cons tk (.cons tk (.cons tk (.cons tk (.cons tk (.cons tk (.cons tk (.cons tk (.cons tk (.cons tk (.cons tk (.cons tk (.cons tk (.cons tk (.cons tk (.cons tk (.cons tk (.cons tk (.cons tk (.cons tk (.cons tk (.cons tk (.cons tk (.cons tk (.cons tk (.cons tk (.cons tk (.cons tk (.cons tk (.cons tk (.cons tk (.cons tk (.cons tk (.cons tk (.cons tk (.cons tk (.cons tk (.cons tk (.cons tk (.cons tk (.cons tk (.cons tk (.cons tk (.cons tk (.cons tk (.cons tk (.cons tk (.cons tk (.cons tk (.cons tk (.cons tk (.cons tk (.cons tk (.cons tk (.cons tk (.cons tk (.cons tk (.cons tk (.cons tk (.cons tk (.cons tk (.cons tk (.cons tk (.cons tk (.cons tk (.cons tk (.cons tk (.cons tk (.cons tk (.cons tk (.cons tk (.cons tk (.cons tk (.cons tk (.cons tk (.cons tk (.cons tk (.cons tk (.cons tk (.cons tk (.cons tk (.cons tk (.cons tk (.cons tk (.cons tk (.cons tk (.cons tk (.cons tk (.cons tk (.cons tk (.cons tk (.cons tk (.cons tk (.cons tk (.cons tk (.cons tk (.cons tk (.cons tk (.cons tk (.cons tk (.cons tk (.cons tk (.cons tk (.cons tk (.cons tk (.cons tk (.cons tk (.cons tk (.cons tk (.cons tk (.cons tk (.cons tk (.cons tk (.cons tk (.cons tk (.cons tk (.cons tk (.cons tk (.cons tk (.cons tk (.cons tk (.cons tk (.cons tk (.cons tk (.cons tk (.cons tk (.cons tk (.cons tk (.cons tk (.cons tk (.cons tk (.cons tk (.cons tk (.cons tk (.cons tk (.cons tk (.cons tk (.cons tk (.cons tk (.cons tk (.cons tk (.cons tk (.cons tk (.cons tk (.cons tk (.cons tk (.cons tk (.cons tk (.cons tk (.cons tk (.cons tk (.cons tk (.cons tk (.cons tk (.cons tk (.cons tk (.cons tk (.cons tk (.cons tk (.cons tk (.cons tk (.cons tk (.cons tk (.cons tk (.cons tk (.cons tk (.cons tk (.cons tk (.cons tk (.cons tk (.cons tk (.cons tk (.cons tk (.cons tk (.cons tk (.cons tk (.cons tk (.cons tk (.cons tk (.cons tk (.cons tk (.cons tk (.cons tk (.cons tk (.cons tk (.cons tk (.cons tk (.cons tk (.cons tk (.cons tk (.cons tk (.cons tk (.cons tk (.cons tk (.cons tk (.cons tk (.cons tk (.cons tk (.cons tk (.cons tk (.cons tk (.cons tk (.cons tk (.cons tk (.cons tk (.cons tk (.cons tk (.cons tk (.cons tk (.cons tk (.cons tk (.cons tk (.cons tk (.cons tk (.cons tk (.cons tk (.cons tk (.cons tk (.cons tk (.cons tk (.cons tk (.cons tk (.cons tk (.cons tk (.cons tk (.cons tk (.cons tk (.cons tk (.cons tk (.cons tk (.cons tk (.cons tk (.cons tk (.cons tk (.cons tk (.cons tk (.cons tk (.cons tk (.cons tk (.cons tk (.cons tk (.cons tk (.cons tk (.cons tk (.cons tk (.nil)))))))))))))))))))))))))))))))))))))))))))))))))))))))))))))))))))))))))))))))))))))))))))))))))))))))))))))))))))))))))))))))))))))))))))))))))))))))))))))))))))))))))))))))))))))))))))))))))))))))))))))))))))))))))))))))))))))))))))))))))))))))))))))))))))))))))))))))))))))))
theorem mixed:Tryz.prog.follows .mixedOrders=true:=by kernel_rfl
end Go.AL.Seat
end
section
namespace Go.Proofs
open Go.Shelf Go.AL
def Tryz.wren:Go.Shelf.Ren:=⟨fun | 166=>61 | 240=>91 | 169=>62 | n=>n,fun | 70=>125 | 9=>9 | 0=>0 | 72=>127 | 37=>122 | 127=>176 | 3=>3 | 5=>5 | 75=>129 | n=>n,fun n=>n⟩
theorem Tryz.wl:WL Tryz.prog Tryz.wren:={
 mixed:=by kernel_rfl
 f166:=Xt Tryz.func61
 t3:=Tryz.underlying3
 a3:=Tryz.isAgg3
 z3:=Tryz.sizeOf3
 v3:=Tryz.zeroValue3
 t9:=Tryz.underlying9
 a9:=Tryz.isAgg9
 z9:=Tryz.sizeOf9
 v9:=Tryz.zeroValue9
 t37:=Tryz.underlying122
 a37:=Tryz.isAgg122
 z37:=Tryz.sizeOf122
 v37:=Tryz.zeroValue122
 t70:=Tryz.underlying125
 a70:=Tryz.isAgg125
 z70:=Tryz.sizeOf125
 v70:=Tryz.zeroValue125
 t72:=Tryz.underlying127
 a72:=Tryz.isAgg127
 z72:=Tryz.sizeOf127
 v72:=Tryz.zeroValue127}
theorem Tryz.bx:Builder.Extra Tryz.prog Tryz.wren:={
 sizeBuilder:=by kernel_rfl
 liesBuilder:=by kernel_rfl
 t5:=Tryz.underlying5
 a5:=Tryz.isAgg5
 z5:=Tryz.sizeOf5
 v5:=Tryz.zeroValue5
 infoByte:=by kernel_rfl
 cellsByte:=by kernel_rfl
 sizeByte:=by kernel_rfl
 neB5:=by decide}
set_option maxHeartbeats 1000000 in
set_option maxRecDepth 100000 in
theorem Tryz.cc:CC Tryz.prog Tryz.wren:=by
 obtain ⟨j,hj,hjs⟩:=Option.map_eq_some_iff.1 Tryz.bx.sizeBuilder
 have hj':Tryz.prog.info? 127=some j:=hj
 have lies:=Tryz.bx.liesBuilder
 refine ⟨enters_of Tryz.func91 (by kernel_rfl) rfl,fun b w h0=>?_,fun b w h0 hsh hfz=>?_⟩
 ·show Calls Tryz.prog 91 _ _ _
  go_enter Tryz.func91,Tryz.ntmps91
  go_wp2
  rw [Lib.run_neq_ptr_same w _ Tryz.underlying125 hj']
  go_wp2
  go_end0
  exact ⟨rfl,rfl⟩
 ·show Calls Tryz.prog 91 _ _ _
  go_enter Tryz.func91,Tryz.ntmps91
  go_wp2
  rw [Lib.run_to_unsafe w ⟨b,0,none⟩ Tryz.underlying125 Tryz.underlying208 hj' (by rw [hjs];decide) hsh (Nat.zero_lt_succ 1)]
  simp only [Result.andThen]
  rw [Oper.upon_value]
  go_wp2
  rw [run_callFunc_extern Tryz.func137 (by kernel_rfl) (by kernel_rfl) (by kernel_rfl) (e:=Extern.AbiNoEscape.same) (by kernel_rfl)]
  rw [Lib.run_noEscape]
  simp only [Result.andThen]
  rw [Oper.upon_value]
  go_wp2
  rw [Lib.run_from_unsafe w ⟨b,0,none⟩ Tryz.underlying208 Tryz.underlying125 hj' hsh lies]
  simp only [Result.andThen]
  rw [Oper.upon_value]
  go_wp2
  go_end0
  exact ⟨rfl,rfl⟩
end Go.Proofs
end
section
namespace Go.Proofs
open Go.Shelf
def Tryz.lays169_ren:Go.Shelf.Ren:=⟨fun | 169=>62 | n=>n,fun | 70=>125 | 9=>9 | 0=>0 | 72=>127 | 37=>122 | 127=>176 | 3=>3 | 5=>5 | n=>n,fun | n=>n⟩
theorem Tryz.lays169:Go.Proofs.Lays.n169 Tryz.prog Tryz.lays169_ren:={
 mixed:=by kernel_rfl
 f169:=Xt Tryz.func62
 t0:=Tryz.underlying0
 a0:=Tryz.isAgg0
 z0:=Tryz.sizeOf0
 v0:=Tryz.zeroValue0
 t3:=Tryz.underlying3
 a3:=Tryz.isAgg3
 z3:=Tryz.sizeOf3
 v3:=Tryz.zeroValue3
 t9:=Tryz.underlying9
 a9:=Tryz.isAgg9
 z9:=Tryz.sizeOf9
 v9:=Tryz.zeroValue9
 t37:=Tryz.underlying122
 a37:=Tryz.isAgg122
 z37:=Tryz.sizeOf122
 v37:=Tryz.zeroValue122
 t70:=Tryz.underlying125
 a70:=Tryz.isAgg125
 z70:=Tryz.sizeOf125
 v70:=Tryz.zeroValue125
 t72:=Tryz.underlying127
 a72:=Tryz.isAgg127
 z72:=Tryz.sizeOf127
 v72:=Tryz.zeroValue127
 t127:=Tryz.underlying176
 a127:=Tryz.isAgg176
 z127:=Tryz.sizeOf176
 v127:=Tryz.zeroValue176}
def Tryz.lays129_ren:Go.Shelf.Ren:=⟨fun | 129=>90 | n=>n,fun | 53=>80 | 3=>3 | 4=>4 | 46=>124 | 5=>5 | 9=>9 | n=>n,fun | n=>n⟩
theorem Tryz.lays129:Go.Proofs.Lays.n129 Tryz.prog Tryz.lays129_ren:={
 mixed:=by kernel_rfl
 f129:=Xt Tryz.func90
 t3:=Tryz.underlying3
 a3:=Tryz.isAgg3
 z3:=Tryz.sizeOf3
 v3:=Tryz.zeroValue3
 t4:=Tryz.underlying4
 a4:=Tryz.isAgg4
 z4:=Tryz.sizeOf4
 v4:=Tryz.zeroValue4
 t5:=Tryz.underlying5
 a5:=Tryz.isAgg5
 z5:=Tryz.sizeOf5
 v5:=Tryz.zeroValue5
 t9:=Tryz.underlying9
 a9:=Tryz.isAgg9
 z9:=Tryz.sizeOf9
 v9:=Tryz.zeroValue9
 t46:=Tryz.underlying124
 a46:=Tryz.isAgg124
 z46:=Tryz.sizeOf124
 v46:=Tryz.zeroValue124
 t53:=Tryz.underlying80
 a53:=Tryz.isAgg80
 z53:=Tryz.sizeOf80
 v53:=Tryz.zeroValue80}
end Go.Proofs
end
section
namespace Go.Pd
open Go.AL
def dq (l:List Str):Bool:=l.all bZ && decide l.Nodup
end Go.Pd
namespace Go.Pd
open Go.AL
end Go.Pd
end
