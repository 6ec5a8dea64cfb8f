/- The layer: Go code as conditions, and that they are sound. Plain facts. No condition. -/
import Derived.Test.YtldkmcedeenlnaaGreatDoorT03
import Derived.ChangeMaps
import Derived.Deep.DeepWitnessRowRef
import Derived.Deep.LoopGhost
import Derived.JoinedCond
import Derived.KernelRfl
import Derived.Lib.AtoiErrMem
import Derived.Lib.BitFns
import Derived.Lib.DecodeN
import Derived.Lib.LaidIn
import Derived.Lib.LaidU8T
import Derived.LoopIn
import Derived.LoopNIn
import Derived.OpenShut
import Derived.OwnWalkIn
import Derived.PinnedBridge
import Derived.ProofKit
import Derived.RangeFuncBox
import Derived.RangeFuncLeaves
import Derived.Scope
import Derived.Shelf.SlIter.Sorted
import Derived.Shelf.SlSortCmp.Whole1
import Derived.Shelf.Slices.CompactS
import Derived.Shelf.Slices.In.SortNone
import Derived.Shelf.Small.Strs
import Derived.Shelf.Sort.Plain
import Derived.Shelf.Strconv.Atoi
import Derived.Shelf.Strings.BuilderF
import Derived.Shelf.Strings.Cut
import Derived.Shelf.Strings.Search3
import Derived.Shelf.Strings.SlTrimAscii
import Derived.Shelf.Strings.Split
import Derived.Shelf.Unicode.DecodeAny
import Derived.Shelf.Unicode.ValidAny
import Derived.Shelf.Vars
import Derived.TacticsInMore
import Derived.Test.YtldkmcedeenlnaaGreatDoorCards
import Derived.Test.YtldkmcedeenlnaaGreatDoorProg
import Derived.Test.YtldkmcedeenlnaaGreatDoorTie
import Derived.WalkKit
import Derived.WideKeyArgs
set_option linter.all false
set_option maxRecDepth 100000
noncomputable section
namespace Go.AL
variable [Tabs]
def Ae:SX->Exit
 |.normal=>.normal
 |.exit id=>.exit id
 |.ret=>.ret
 |.pan _=>.outgrown
def Ends(Ω:Om):SX->Exit->Prop
 |.pan pv,e=>∃v,e=.panic [{v,recovered:=false}]/\V Ω pv v
 |x,e=>Ae x=e
def QL(F:Fr)(Q:SX->St->Prop):Exit->Act->World->Prop:=fun e a w=>∃x s Ω,Ends Ω x e/\Ω.w=w/\Holds F s.abs a Ω/\Q x s
mutual
theorem forceV_eq:∀(a:AV)(k:AV->Prop),forceV a k=k a
 |.undef,k=>rfl
 |.int κ n,k=>rfl
 |.bool b,k=>rfl
 |.str s,k=>rfl
 |.lst τ xs none,k=>rfl
 |.lst τ xs (some i),k=>rfl
 |.nils,k=>rfl
 |.ptr i o,k=>rfl
 |.cptr c,k=>by simp only[forceV];rw[forceV_eq c]
 |.st n x,k=>rfl
 |.nilp,k=>rfl
 |.row τ xs,k=>rfl
 |.arr i n w,k=>rfl
 |.aptr i n w o,k=>rfl
 |.map i,k=>rfl
 |.bptr i,k=>rfl
 |.lstp τ xs i,k=>rfl
 |.glst s n i,k=>rfl
 |.gptr i s n w o,k=>rfl
 |.tptr τ n i,k=>rfl
 |.iface t a,k=>by simp only[forceV];rw[forceV_eq a]
 |.nilif,k=>rfl
 |.nilm,k=>rfl
 |.pt n x,k=>rfl
 |.agg cs,k=>by simp only[forceV];rw[forceL_eq cs]
 |.tup cs,k=>by simp only[forceV];rw[forceL_eq cs]
 |.fn f cs,k=>by simp only[forceV];rw[forceL_eq cs]
theorem forceL_eq:∀(l:List AV)(k:List AV->Prop),forceL l k=k l
 |[],k=>rfl
 |a::r,k=>by simp only[forceL];rw[forceV_eq a,forceL_eq r]
end
theorem ui:∀(l:List (Nat×AV))(k:List (Nat×AV)->Prop),vn l k=k l
 |[],k=>rfl
 |(i,a)::r,k=>by simp only[vn];rw[forceV_eq a,ui r]
theorem gA:∀(l:List (Nat×SObj))(k:List (Nat×SObj)->Prop),fX l k=k l
 |[],k=>rfl
 |(i,.box c)::r,k=>by simp only[fX];rw[forceV_eq c,gA r]
 |(i,.tail τ n)::r,k=>by simp only[fX];rw[gA r]
 |(i,.map κ τ m)::r,k=>by simp only[fX];rw[gA r]
 |(i,.bld t u l)::r,k=>by simp only[fX];rw[gA r]
 |(i,.tailp τ n x)::r,k=>by simp only[fX];rw[gA r]
 |(i,.grow τ s xs)::r,k=>by simp only[fX];rw[gA r]
theorem cU(s:St)(k:St->Prop):fh s k=k s:=by unfold fh;rw[ui,gA]
theorem iJ:∀(l:List Nat)(k:List Nat->Prop),iY l k=k l
 |[],k=>rfl
 |0::r,k=>by simp only[iY];rw[iJ r]
 |(n+1)::r,k=>by simp only[iY];rw[iJ r]
theorem Holds.trim{F:Fr}{s:St}{a:Act}{Ω:Om}(h:Holds F s.abs a Ω)(keep:List Nat):Holds F (trim keep s).abs a Ω:=by
 refine⟨fun i=>?_,h.size,h.defers,h.slots,h.dom,h.inj,h.pubok,h.keep,h.frame⟩;have:=j9 s.t (fun i=>keep.contains i) i;simp only[AL.trim,St.abs];rw[this];split
 ·exact h.tmps i
 ·exact .undef _
section
variable {P:Program} {C:Cfg} {F:Fr}
theorem my(hm:P.follows .mixedOrders=true)(hT:aQ P C.tbl)(hS:bN P C.spec)(keep:List Nat){id:Nat}{ops:Array Oper}{draw:Bool}{s1:St}{Q:SX->St->Prop}{a:Act}{Ω1:Om}
 (hdst:∀(o:Oper),o∈ops.toList->∀d,o.dst=some d->d<F.n)(h:qf C keep ops draw s1 Q)(hh1:Holds F s1.abs a Ω1):(Code.region id ops draw).wp P (QL F Q) a Ω1.w:=by
 unfold qf at h
 have key:∀s' fs,(fh (trim keep s') fun s'=>if draw=true then(if fg ops.toList fs=true then Q .normal s' else False)else Q .normal s')->
   (draw=true->fg ops.toList fs=true)/\Q .normal (trim keep s'):=by
  intro s' fs hk;simp only[cU]at hk
  cases draw with
  |false=>exact⟨fun h=>by simp at h,by simpa using hk⟩
  |true=>
   simp only[Nu]at hk;rcases Ot (fg ops.toList fs=true)with k|k
   ·rw[Mu k]at hk;exact⟨fun _=>k,hk⟩
   ·rw[Mp k]at hk;exact hk.elim
 refine nA hm hT hS hdst h (fun hdr s' fs hk=>let ⟨s2,h2⟩:=oE _ hk;(key s2 fs h2).1 hdr) hh1 (fun s' fs a' Ω' hk h'=>
   let ⟨s2,Ω2,g1,g2,g3⟩:=rP h' hk
   ⟨.normal,trim keep s2,Ω2,rfl,g1,g2.trim keep,(key s2 fs g3).2⟩)
  (fun pv s' a' Ω' v hk h' hv=>?_)
 simp only[cU,forceV_eq]at hk;exact⟨.pan pv,s',Ω',⟨v,rfl,hv⟩,rfl,h',hk⟩
theorem Af(hT:aQ P C.tbl){keep:List Nat}{id:Nat}{ops:Array Oper}{draw:Bool}{s:St}{p:Prop}{f:Bool->St}{a:Act}{Ω:Om}(hn:L2 C keep ops draw s=some (p,f))
 (hdst:∀(o:Oper),o∈ops.toList->∀d,o.dst=some d->d<F.n)(hh:Holds F s.abs a Ω):(Code.region id ops draw).wp P (QL F fun x t=>x=.normal/\∃b,(b=true->p)/\t=f b) a Ω.w:=by
 unfold L2 at hn;split at hn
 ·rename_i m src ty1 ps1 af1 c t m' t2 ty2 ps2 af2 hops;split at hn
  ·rename_i e sz by' z ty τ xs o hc ht hsrc
   cases hn;simp only[Mo,MO]at hc;obtain⟨hm,hcm⟩:=hc;obtain rfl:=MP hm;have hne:¬m'=c:=fun e=>by rw[e,PK]at hcm;cases hcm
   have d1:m'<F.n:=hdst _ (by rw[hops];exact N2 ..) m' rfl;have d2:c<F.n:=hdst _ (by rw[hops];exact MK _ (N2 ..)) c rfl;obtain⟨dd,u1,u2⟩:=aC hT ht rfl;cases dd<;>simp[aG]at u2;have hv:=b8 hh src;rw[show opd s.abs.T src=.lst τ xs o from hsrc]at hv;have hv2:V Ω (.lst τ xs none) (a.eval src):=hv.le (G:=[]) (fun k hk=>by cases hk) (bO (by simp[LeF,ff]))
   obtain⟨q,n,cp,hev,hq⟩:∃q n cp,a.eval src=.slice q n cp/\(q.isNone=true->xs=[]):=by
    generalize a.eval src=sv at hv2
    cases hv2 with|lstNil _ _ _=>exact⟨_,_,_,rfl,fun _=>rfl⟩|lstVoid _ _=>exact⟨_,_,_,rfl,fun _=>rfl⟩|lst _ _ _ b off cap vals h1 h2 tok hc hv=>exact⟨_,_,_,rfl,fun q=>by cases q⟩
   have hsz:=hh.size;have eqs:ops=#[⟨some m',.move src,ty1,ps1,af1,none⟩,⟨some c,.binOp .eql t (.tmp m') (.const (.slice none 0 0)) t2,ty2,ps2,af2,none⟩]:=by cases ops;simp at hops;rw[hops]
   subst eqs;rw[hev]at hv2;have hp1:=hh.pure (dst:=some m') (val:=.lst τ xs none) (v:=.slice q n cp) hv2 (fun d e=>by cases e;exact d1);have hp2:=hp1.pure (dst:=some c) (val:=.bool q.isNone) (v:=.bool q.isNone) (.bool _) (fun d e=>by cases e;exact d2);refine P9 ?_;show wpOps P _ _ [0,1] a Ω.w;refine cm (o:=⟨some m',.move src,ty1,ps1,af1,none⟩) rfl rfl (ar (v:=.slice q n cp) (w':=Ω.w) (by simp[execOp,hev]) ?_);have hm1:(a.put (some m') (.slice q n cp)).eval (.tmp m')=.slice q n cp:=by show(a.put (some m') (.slice q n cp)).tmps.getD m' undef=_;rw[cu hsz d1,Mu rfl]
   have hq2:(Op.equal t (.slice q n cp) (.slice none 0 0)).run P Ω.w=.ok q.isNone Ω.w:=by unfold Op.equal Op.maxDepth Op.equalIn;simp only[MG,aE u1,Mw];cases q<;>rfl
   have hg:(eqGuard .eql t (.tmp m') (.const (.slice none 0 0)) (.slice q n cp) (.slice none 0 0)).run P Ω.w=.ok () Ω.w:=rfl
   refine cm (o:=⟨some c,.binOp .eql t (.tmp m') (.const (.slice none 0 0)) t2,ty2,ps2,af2,none⟩) rfl rfl (ar (v:=.bool q.isNone) (w':=Ω.w) (by
    have hk:(a.put (some m') (.slice q n cp)).eval (.const (.slice none 0 0))=.slice none 0 0:=rfl;simp[execOp,hm1,hev,hk,hg,binOp,hq2]) ?_)
   refine⟨.normal,_,Ω,rfl,rfl,?_,rfl,q.isNone,hq,rfl⟩;refine Holds.trim (s:=⟨gq (gq s.t m' (.lst τ xs none)) c (.bool q.isNone),s.b⟩) ?_ keep;have eT:(St.abs ⟨gq (gq s.t m' (.lst τ xs none)) c (.bool q.isNone),s.b⟩)=⟨bC (bC s.abs.T (some m') (.lst τ xs none)) (some c) (.bool q.isNone),s.abs.B⟩:=by show AS.mk _ _=AS.mk _ _;congr 1;funext k;show aK (gq (gq s.t m' (.lst τ xs none)) c (.bool q.isNone)) k=_;rw[eQ,eQ];rfl
   rw[eT];exact hp2
  ·rename_i e sz by' z ty s1 n0 k0 hc ht hsrc
   cases hn;simp only[Mo,MO]at hc;obtain⟨hm,hcm⟩:=hc;obtain rfl:=MP hm;have hne:¬m'=c:=fun e=>by rw[e,PK]at hcm;cases hcm
   have d1:m'<F.n:=hdst _ (by rw[hops];exact N2 ..) m' rfl;have d2:c<F.n:=hdst _ (by rw[hops];exact MK _ (N2 ..)) c rfl;obtain⟨dd,u1,u2⟩:=aC hT ht rfl;cases dd<;>simp[aG]at u2;have hv:=b8 hh src;rw[show opd s.abs.T src=.glst s1 n0 k0 from hsrc]at hv;have hv2:V Ω (.glst s1 n0 k0) (a.eval src):=hv
   obtain⟨q,n,cp,hev,hq⟩:∃q n cp,a.eval src=.slice q n cp/\(q.isNone=true->n0=0):=by
    obtain⟨cap,a0,g1,g2,g3,g4,g5⟩:=hv2.glst_inv;refine⟨a0,n0,cap,g1,fun q=>?_⟩;rcases g4 with⟨b,rfl⟩|⟨_,g,_⟩
    ·cases q
    ·exact g
   have hsz:=hh.size;have eqs:ops=#[⟨some m',.move src,ty1,ps1,af1,none⟩,⟨some c,.binOp .eql t (.tmp m') (.const (.slice none 0 0)) t2,ty2,ps2,af2,none⟩]:=by cases ops;simp at hops;rw[hops]
   subst eqs;rw[hev]at hv2;have hp1:=hh.pure (dst:=some m') (val:=.glst s1 n0 k0) (v:=.slice q n cp) hv2 (fun d e=>by cases e;exact d1);have hp2:=hp1.pure (dst:=some c) (val:=.bool q.isNone) (v:=.bool q.isNone) (.bool _) (fun d e=>by cases e;exact d2);refine P9 ?_;show wpOps P _ _ [0,1] a Ω.w;refine cm (o:=⟨some m',.move src,ty1,ps1,af1,none⟩) rfl rfl (ar (v:=.slice q n cp) (w':=Ω.w) (by simp[execOp,hev]) ?_);have hm1:(a.put (some m') (.slice q n cp)).eval (.tmp m')=.slice q n cp:=by show(a.put (some m') (.slice q n cp)).tmps.getD m' undef=_;rw[cu hsz d1,Mu rfl]
   have hq2:(Op.equal t (.slice q n cp) (.slice none 0 0)).run P Ω.w=.ok q.isNone Ω.w:=by unfold Op.equal Op.maxDepth Op.equalIn;simp only[MG,aE u1,Mw];cases q<;>rfl
   have hg:(eqGuard .eql t (.tmp m') (.const (.slice none 0 0)) (.slice q n cp) (.slice none 0 0)).run P Ω.w=.ok () Ω.w:=rfl
   refine cm (o:=⟨some c,.binOp .eql t (.tmp m') (.const (.slice none 0 0)) t2,ty2,ps2,af2,none⟩) rfl rfl (ar (v:=.bool q.isNone) (w':=Ω.w) (by
    have hk:(a.put (some m') (.slice q n cp)).eval (.const (.slice none 0 0))=.slice none 0 0:=rfl;simp[execOp,hm1,hev,hk,hg,binOp,hq2]) ?_)
   refine⟨.normal,_,Ω,rfl,rfl,?_,rfl,q.isNone,hq,rfl⟩;refine Holds.trim (s:=⟨gq (gq s.t m' (.glst s1 n0 k0)) c (.bool q.isNone),s.b⟩) ?_ keep;have eT:(St.abs ⟨gq (gq s.t m' (.glst s1 n0 k0)) c (.bool q.isNone),s.b⟩)=⟨bC (bC s.abs.T (some m') (.glst s1 n0 k0)) (some c) (.bool q.isNone),s.abs.B⟩:=by show AS.mk _ _=AS.mk _ _;congr 1;funext k;show aK (gq (gq s.t m' (.glst s1 n0 k0)) c (.bool q.isNone)) k=_;rw[eQ,eQ];rfl
   rw[eT];exact hp2
  ·cases hn
 ·cases hn
theorem vI{P:Program}{Q:Exit->Act->World->Prop}{a:Act}{w:World}{c:Code}(I:Nat->Act->World->Prop)(h₀:c.wp P (Exit.then (fun a w=>∃n,I n a w) Q) a w)
 (round:∀n a w,I n a w->c.wp P (Exit.then (fun a' w'=>∃n',n'<n/\I n' a' w') Q) a w):(Code.loop c).wp P Q a w:=by
 intro b k cs
 have key:∀n a w,I n a w->∃e a' w',Q e a' w'/\Arrives P (lone (b.at a (.code c::.inLoop c::k)) cs w) b k cs e a' w':=by
  intro n
  induction n using Nat.strongRecOn with
  |_ n ih=>
   intro a w hI;obtain⟨e,a₁,w₁,hq,harr⟩:=round n a w hI b (.inLoop c::k) cs
   cases e with
   |normal=>obtain⟨m,hlt,hI₁⟩:=hq;obtain⟨e₂,a₂,w₂,hq₂,harr₂⟩:=ih m hlt a₁ w₁ hI₁;exact⟨e₂,a₂,w₂,hq₂,.of_steps (Steps.trans harr (.one step_inLoop)) harr₂⟩
   |exit id=>exact⟨_,a₁,w₁,hq,.pass (x:=.inLoop c) rfl (fun _ _=>.inl (by simp)) harr⟩
   |goto l=>exact⟨_,a₁,w₁,hq,.pass (x:=.inLoop c) rfl (fun _ _=>.inl (by simp)) harr⟩
   |ret=>exact⟨_,a₁,w₁,hq,.pass (x:=.inLoop c) rfl (fun _ _=>.inl (by simp)) harr⟩
   |panic ch=>exact⟨_,a₁,w₁,hq,.pass (x:=.inLoop c) rfl (fun _ _=>.inl (by simp)) harr⟩
   |outgrown=>exact⟨_,a₁,w₁,hq,.pass (x:=.inLoop c) rfl (fun _ _=>.inl (by simp)) harr⟩
 obtain⟨e,a₁,w₁,hq,harr⟩:=h₀ b (.inLoop c::k) cs
 cases e with
 |normal=>obtain⟨m,hI⟩:=hq;obtain⟨e₂,a₂,w₂,hq₂,harr₂⟩:=key m a₁ w₁ hI;exact⟨e₂,a₂,w₂,hq₂,.of_steps (.one PI) (.of_steps (Steps.trans harr (.one step_inLoop)) harr₂)⟩
 |exit id=>exact⟨_,a₁,w₁,hq,.of_steps (.one PI) (.pass (x:=.inLoop c) rfl (fun _ _=>.inl (by simp)) harr)⟩
 |goto l=>exact⟨_,a₁,w₁,hq,.of_steps (.one PI) (.pass (x:=.inLoop c) rfl (fun _ _=>.inl (by simp)) harr)⟩
 |ret=>exact⟨_,a₁,w₁,hq,.of_steps (.one PI) (.pass (x:=.inLoop c) rfl (fun _ _=>.inl (by simp)) harr)⟩
 |panic ch=>exact⟨_,a₁,w₁,hq,.of_steps (.one PI) (.pass (x:=.inLoop c) rfl (fun _ _=>.inl (by simp)) harr)⟩
 |outgrown=>exact⟨_,a₁,w₁,hq,.of_steps (.one PI) (.pass (x:=.inLoop c) rfl (fun _ _=>.inl (by simp)) harr)⟩
def xm(F:Fr)(ann:An)(c:Code)(W:St->(SX->St->Prop)->Prop)(Q:SX->St->Prop)(k:Nat)(a:Act)(w:World):Prop:=
 ∃(s:St)(A:LA)(x:A.ι)(Ω:Om),(∀x,A.pre x->W (iC (cJ c) s (A.t x) (A.b x)) fun
   |.normal,s'=>∃y,A.pre y/\A.m y<A.m x/\cS s' (iC (cJ c) s (A.t y) (A.b y))
   |e,s'=>Q e s')/\A.pre x/\A.m x=k/\Ω.w=w/\Holds F (iC (cJ c) s (A.t x) (A.b x)).abs a Ω
theorem pA{ann:An}{c:Code}{W:St->(SX->St->Prop)->Prop}{Q:SX->St->Prop}{s:St}{a:Act}{Ω:Om}(h:Cr ann c W s Q)(hh:Holds F s.abs a Ω):∃k,xm F ann c W Q k a Ω.w:=by
 unfold Cr at h;split at h
 ·exact h.elim
 ·rename_i A hA;simp only[cU]at h;obtain⟨⟨x0,hp0,hle0⟩,hround⟩:=h;obtain⟨Ω0,e0,hh0⟩:=dX hh (iq hle0);exact⟨A.m x0,s,A,x0,Ω0,hround,hp0,rfl,e0,hh0⟩
theorem pB{ann:An}{c:Code}{W:St->(SX->St->Prop)->Prop}{Q:SX->St->Prop}(hW:∀(s:St)(Q:SX->St->Prop)(a:Act)(Ω:Om),W s Q->Holds F s.abs a Ω->c.wp P (QL F Q) a Ω.w)
 {k:Nat}{a:Act}{w:World}(hI:xm F ann c W Q k a w):c.wp P (Exit.then (fun a' w'=>∃n',n'<k/\xm F ann c W Q n' a' w') (QL F Q)) a w:=by
 obtain⟨s,A,x,Ω1,hround,hp,hmx,hw1,hh1⟩:=hI;subst hw1;refine Ou (hW (iC (cJ c) s (A.t x) (A.b x)) _ a Ω1 (hround x hp) hh1) ?_;intro e a' w' hq;obtain⟨z,s',Ω',h1,h2,h3,h4⟩:=hq;subst h2
 cases z with
 |normal=>cases h1;obtain⟨y,hy1,hy2,hy3⟩:=h4;obtain⟨Ω2,e2,hh2⟩:=dX h3 (iq hy3);exact⟨A.m y,by omega,s,A,y,Ω2,hround,hy1,rfl,e2,hh2⟩
 |exit id=>cases h1;exact⟨.exit id,s',Ω',rfl,rfl,h3,h4⟩
 |ret=>cases h1;exact⟨.ret,s',Ω',rfl,rfl,h3,h4⟩
 |pan pv=>obtain⟨v,rfl,hv⟩:=h1;exact⟨.pan pv,s',Ω',⟨v,rfl,hv⟩,rfl,h3,h4⟩
theorem mz(hm:P.follows .mixedOrders=true)(hT:aQ P C.tbl)(hS:bN P C.spec)(keep:List Nat)(ann:An){id:Nat}{ops:Array Oper}{draw:Bool}{s:St}{Q:SX->St->Prop}{a:Act}{Ω:Om}
 (hdst:∀(o:Oper),o∈ops.toList->∀d,o.dst=some d->d<F.n)(h:qg C keep ann id ops draw s Q)(hhr:Holds F s.abs a Ω):(Code.region id ops draw).wp P (QL F Q) a Ω.w:=by
  unfold qg at h;split at h
  ·exact h.elim
  ·rename_i s0 hp0;obtain⟨Ω0,e0,hh0⟩:=ke _ hhr hp0;split at h
   ·exact h.elim
   ·rename_i s1 he;obtain⟨Ω1,e1,hh1⟩:=kZ hh0 he;rw[<-e0,<-e1];split at h
    ·exact my hm hT hS keep hdst h hh1
    ·rename_i J hJ;obtain⟨h1,h2⟩:=h;rw[cU]at h2;refine Ou (my hm hT hS keep hdst h1 hh1) ?_;intro e a' w' hq;obtain⟨z,s',Ω',g1,g2,g3,g4⟩:=hq;subst g2
     cases z with
     |normal=>cases g1;obtain⟨Ω2,e2,hh2⟩:=dX g3 (iq g4);exact⟨.normal,_,Ω2,rfl,e2,hh2,h2⟩
     |exit id=>exact⟨.exit id,s',Ω',g1,rfl,g3,g4⟩
     |ret=>exact⟨.ret,s',Ω',g1,rfl,g3,g4⟩
     |pan pv=>exact⟨.pan pv,s',Ω',g1,rfl,g3,g4⟩
theorem lN(hm:P.follows .mixedOrders=true)(hT:aQ P C.tbl)(hS:bN P C.spec)(keep:List Nat)(ann:An) :
  ∀(c:Code)(s:St)(Q:SX->St->Prop)(a:Act)(Ω:Om),swp C keep ann c s Q->bG F.n c=true->Holds F s.abs a Ω->c.wp P (QL F Q) a Ω.w:=by
 intro c
 induction c with
 |skip=>exact fun s Q a Ω h _ hh=>wp_skip ⟨.normal,s,Ω,rfl,rfl,hh,h⟩
 |region id ops draw=>
  intro s Q a Ω h hd hh;simp only[swp]at h;have hdst:∀(o:Oper),o∈ops.toList->∀d,o.dst=some d->d<F.n:=by intro o ho d hod;simp only[bG,MI]at hd;have:=hd o ho;rw[hod]at this;simpa using this
  split at h
  ·rename_i p f hn;refine Ou (Af hT hn hdst hh) ?_;rintro e a' w' ⟨z,s',Ω',h1,h2,h3,h4,b,h5,h6⟩;subst h2 h4 h6;have:=h b h5;rw[cU]at this;exact⟨.normal,f b,Ω',h1,rfl,h3,this⟩
  split at h
  ·exact h.elim
  rename_i sr hr0;obtain⟨Ωr,er,hhr⟩:=mO _ hh hr0;rw[<-er];split at h
  ·exact mz hm hT hS keep ann hdst h hhr
  ·split at h
   ·rename_i q s0 hf;obtain⟨h1,h2⟩:=h;rw[cU]at h2;obtain⟨Ω0,e0,hh0⟩:=Ad hhr hf h1;rw[<-e0];exact mz hm hT hS keep ann hdst h2 hh0
   ·exact h.elim
 |seq x y ihx ihy=>
  intro s Q a Ω h hd hh;have hd0:=hd;simp only[bG,Mo]at hd;simp only[swp]at h;split at h
  ·rename_i L hL;refine Ou (zZ hT hL h hd0 hh) ?_;rintro e a' w' ⟨rfl,s',Ω',h2,h3,h4⟩;rw[cU]at h4;exact⟨.normal,s',Ω',rfl,h2,h3,h4⟩
  split at h;rotate_left
  ·rename_i J hJ;obtain⟨h1,h2⟩:=h;rw[cU]at h2;refine PG (Ou (ihx s _ a Ω h1 hd.1 hh) ?_);intro e a' w' hq;obtain⟨z,s',Ω',g1,g2,g3,g4⟩:=hq;subst g2
   cases z with
   |normal=>cases g1;obtain⟨Ω2,e2,hh2⟩:=dX g3 (iq g4);rw[<-e2];exact ihy _ Q a' Ω2 h2 hd.2 hh2
   |exit id=>cases g1;exact⟨.exit id,s',Ω',rfl,rfl,g3,g4⟩
   |ret=>cases g1;exact⟨.ret,s',Ω',rfl,rfl,g3,g4⟩
   |pan pv=>obtain⟨v,rfl,hv⟩:=g1;exact⟨.pan pv,s',Ω',⟨v,rfl,hv⟩,rfl,g3,g4⟩
  refine PG (Ou (ihx s _ a Ω h hd.1 hh) ?_);intro e a' w' hq;obtain⟨z,s',Ω',h1,h2,h3,h4⟩:=hq;subst h2
  cases z with
  |normal=>cases h1;exact ihy s' Q a' Ω' h4 hd.2 h3
  |exit id=>cases h1;exact⟨.exit id,s',Ω',rfl,rfl,h3,h4⟩
  |ret=>cases h1;exact⟨.ret,s',Ω',rfl,rfl,h3,h4⟩
  |pan pv=>obtain⟨v,rfl,hv⟩:=h1;exact⟨.pan pv,s',Ω',⟨v,rfl,hv⟩,rfl,h3,h4⟩
 |cond c x y ihx ihy=>
  intro s Q a Ω h hd hh;simp only[bG,Mo]at hd;simp only[swp]at h;split at h
  ·rename_i b hb;have hv:=b8 hh c;have hb':opd s.abs.T c=.bool b:=hb;rw[hb']at hv;have hv:=hv.bool_inv;refine wp_cond hv ?_;unfold sp at h
   have hset:Holds F (II c b s).abs a Ω:=by
    cases c with
    |tmp t=>
     refine⟨fun i=>?_,hh.size,hh.defers,hh.slots,hh.dom,hh.inj,hh.pubok,hh.keep,hh.frame⟩;have e:(II (.tmp t) b s).abs.T i=if t=i then .bool b else aK s.t i:=eQ s.t t (.bool b) i
     rw[e];by_cases ht:t=i
     ·subst ht;rw[Mu rfl];have:=hh.tmps t;rw[show s.abs.T t=.bool b from hb']at this;exact this
     ·rw[Mp ht];exact hh.tmps i
    |_=>exact hh
   cases b with|true=>exact ihx _ Q a Ω (by simpa using h) hd.1 hset|false=>exact ihy _ Q a Ω (by simpa using h) hd.2 hset
  ·exact h.elim
 |block id c ih=>
  intro s Q a Ω h hd hh;simp only[bG]at hd;simp only[swp]at h;refine wp_block (Ou (ih s _ a Ω h hd hh) ?_);intro e a' w' hq;obtain⟨z,s',Ω',h1,h2,h3,h4⟩:=hq;subst h2
  cases z with
  |normal=>cases h1;exact⟨.normal,s',Ω',rfl,rfl,h3,h4⟩
  |ret=>cases h1;exact⟨.ret,s',Ω',rfl,rfl,h3,h4⟩
  |pan pv=>obtain⟨v,rfl,hv⟩:=h1;exact⟨.pan pv,s',Ω',⟨v,rfl,hv⟩,rfl,h3,h4⟩
  |exit j=>
   cases h1;simp only[Ae,Exit.inBlock];by_cases hj:j=id
   ·subst hj;simp only[Nu];simp only[OU,Nu]at h4;exact⟨.normal,s',Ω',rfl,rfl,h3,h4⟩
   ·rw[Mp hj];simp only[Nd,hj,N1]at h4;exact⟨.exit j,s',Ω',rfl,rfl,h3,h4⟩
 |loop c ih=>
  intro s Q a Ω h hd hh;simp only[bG]at hd;simp only[swp]at h;have hW:∀(s:St)(Q:SX->St->Prop)(a:Act)(Ω:Om),swp C keep ann c s Q->Holds F s.abs a Ω->c.wp P (QL F Q) a Ω.w:=fun s Q a Ω h hh=>ih s Q a Ω h hd hh;split at h
  ·refine vI (xm F ann c (swp C keep ann c) Q) (Ou (hW s _ a Ω h hh) ?_) fun k a w hI=>pB hW hI;intro e a' w' hq;obtain⟨z,s',Ω',h1,h2,h3,h4⟩:=hq;subst h2
   cases z with
   |normal=>
    cases h1;simp only[cU]at h4;split at h4
    ·rename_i s2 h5;obtain⟨Ω2,e2,hh2⟩:=mO _ h3 h5;obtain⟨k,hI⟩:=pA h4 hh2;exact⟨k,e2 ▸ hI⟩
    ·exact h4.elim
   |exit id=>cases h1;exact⟨.exit id,s',Ω',rfl,rfl,h3,h4⟩
   |ret=>cases h1;exact⟨.ret,s',Ω',rfl,rfl,h3,h4⟩
   |pan pv=>obtain⟨v,rfl,hv⟩:=h1;exact⟨.pan pv,s',Ω',⟨v,rfl,hv⟩,rfl,h3,h4⟩
  ·obtain⟨k,hI⟩:=pA h hh;exact wp_loop_ghost (xm F ann c (swp C keep ann c) Q) k hI fun k a w hI=>pB hW hI
 |exit id=>exact fun s Q a Ω h _ hh=>wp_exit ⟨.exit id,s,Ω,rfl,rfl,hh,h⟩
 |ret=>
  intro s Q a Ω h _ hh;simp only[swp]at h;split at h
  ·exact wp_ret ⟨.ret,s,Ω,rfl,rfl,hh,h⟩
  ·split at h
   ·rename_i s' h1;rw[cU]at h;obtain⟨Ω',e,hh'⟩:=mP _ hh h1;rw[<-e];exact wp_ret ⟨.ret,s',Ω',rfl,rfl,hh',h⟩
   ·exact h.elim
 |rangeFunc g ps x y _ _=>exact fun s Q a Ω h=>by simp[swp]at h
 |scope c ih=>
  intro s Q a Ω h hd hh;simp only[bG]at hd;simp only[swp]at h;refine wp_scope_straight (Ou (ih s _ a Ω h hd hh) ?_);intro e a' w' hq;obtain⟨z,s',Ω',h1,h2,h3,h4⟩:=hq
  cases z with
  |normal=>cases h1;exact⟨.normal,s',Ω',rfl,h2,h3,h4⟩
  |exit id=>cases h1;exact⟨.exit id,s',Ω',rfl,h2,h3,h4⟩
  |ret=>cases h1;exact⟨.ret,s',Ω',rfl,h2,h3,h4⟩
  |pan pv=>obtain⟨v,rfl,hv⟩:=h1;exact⟨.pan pv,s',Ω',⟨v,rfl,hv⟩,h2,h3,h4⟩
 |label l=>exact fun s Q a Ω h _ hh=>wp_label ⟨.normal,s,Ω,rfl,rfl,hh,h⟩
 |goto l=>exact fun s Q a Ω h=>by simp[swp]at h
 |refuse why=>exact fun s Q a Ω h=>by simp[swp]at h
theorem gB:∀(l:List AV)(i j:Nat),aK (da i l) j=if i<=j then l.getD (j-i) .undef else .undef
 |[],i,j=>by simp[da,dP,cO]
 |v::r,i,j=>by
  simp only[da,dP,cO,gB r (i+1) j];by_cases h:i=j
  ·subst h;simp
  ·simp only[Nd,h,N1];by_cases h2:i<=j
   ·have e:j-i=(j-(i+1))+1:=by omega
    rw[Mu h2,Mu (by omega),e];simp
   ·rw[Mp h2,Mp (by omega)]
theorem jC{w:World}{pub:Nat->Nat->Prop}{e:Nat->Option CObj}{args:List AV}{vs:List Value}(k:Nat)(hv:VL ⟨e,w,pub⟩ args vs)(i:Nat) :
  V ⟨e,w,pub⟩ (aK (da 0 args) i) ((vs.toArray++Array.replicate k undef).getD i undef):=by
 simp only[gB,ME,Nu,OT];by_cases h:i<args.length
 ·have h':i<vs.length:=by rw[<-hv.1];exact h
  have e1:args.getD i .undef=args[i]:=by simp[Ms,h]
  have e2:(vs.toArray++Array.replicate k undef).getD i undef=vs[i]:=by simp[MC,Array.getElem?_append,h']
  rw[e1,e2];exact hv.2 i _ _ (Mn h) (Mn h')
 ·have e1:args.getD i .undef=.undef:=by simp[Ms,h]
  rw[e1];exact .undef _
theorem ki{w:World}{pub:Nat->Nat->Prop}{e:Nat->Option CObj}{args:List AV}{vs:List Value}{n:Nat}{S:List (Nat×SObj)}(hp:kD w pub)(ht:iD w pub e)(hv:VL ⟨e,w,pub⟩ args vs)(hn:args.length<=n)
 (hs:∀id o,ak S id=some o->bk ⟨e,w,pub⟩ (fun _ _=>True) id o)(hd:∀id,ak S id=none->e id=none)(hi:Inj e)(hl:∀id c,e id=some c->bp id=true) :
  Holds ⟨w,pub,n,e,hl,[],ht⟩ (St.abs ⟨da 0 args,S⟩) {tmps:=vs.toArray++Array.replicate (n-vs.toArray.size) undef,defers:=[]} ⟨e,w,pub⟩:=
 ⟨fun i=>jC _ hv i,by simp;have:=hv.1;omega,rfl,fun id o ho=>(hs id o ho).own_of (fun c b oo hc hoc=>Or.inr ⟨id,c,hc,hoc⟩),fun id hid=>hd id hid,hi,hp,fun id c hc=>⟨c,hc,CLe.refl c⟩,
  ⟨rfl,rfl,rfl,Mx _,fun _ _ _=>rfl,fun _ _ _ _=>rfl,fun _ _ _=>⟨rfl,fun _=>rfl⟩,fun _ _ h=>Or.inl h,fun _ _ h=>h,fun _ _ _=>rfl⟩⟩
def oH(tmps:Array Value):ResultVar->Sem Value
 |.tmp t=>pure (tmps.getD t undef)
 |.cell a t=>do loadVar t (<-asAddr (tmps.getD a undef))
theorem mQ(fn:Func)(tmps:Array Value):results fn tmps=(do
  let vs <-fn.results.mapM (oH tmps)
  pure (if h:vs.size=1 then vs[0]else .tuple vs)):=by
 unfold results;congr 1
theorem fM(hT:aQ P C.tbl){s:St}{a:Act}{Ω:Om}(hh:Holds F s.abs a Ω):∀(rs:List ResultVar)(l:List AV),kC C.tbl s rs=some l->
  ∃vs,(rs.mapM (oH a.tmps)).run P Ω.w=.ok vs Ω.w/\VL Ω l vs
 |[],l,h=>by simp[kC]at h;subst h;exact⟨[],rfl,VL.nil⟩
 |.tmp t::rs,l,h=>by
  simp only[kC]at h;split at h
  ·rename_i l' hl';simp at h;subst h;obtain⟨vs,k1,k2⟩:=fM hT hh rs l' hl';exact⟨_,by rw[List.mapM_cons];simp only[oH,MG,MY,Mw,k1],VL.cons (hh.tmps t) k2⟩
  ·cases h
 |.cell b t::rs,l,h=>by
  simp only[kC]at h;split at h
  ·rename_i id off rt hb hrt;have hv:=hh.tmps b;have e:s.abs.T b=.ptr id off:=hb;rw[e]at hv;obtain⟨g,o',len,hv1,hv2⟩:=hv.ptr_inv;split at h
   ·rename_i c hcs;split at h
    ·rename_i x l' hx hl';simp at h;subst h;obtain⟨vs,k1,k2⟩:=fM hT hh rs l' hl';obtain⟨b',off',e1,e2⟩:=hh.slots id _ hcs;rw[hv2]at e1;simp only[Xs,CObj.box.injEq]at e1;obtain⟨rfl,rfl,rfl⟩:=e1;obtain⟨v,w1,w2⟩:=gX (P:=P) (C:=C) (w:=Ω.w) hT hrt hx (b:=g) (o':=o') (fun j c' hc=>(e2 j c' hc).2.2.2);exact⟨v::vs,by rw[List.mapM_cons];simp only[oH,MG,hv1,asAddr,MY,Mw,w1,k1],VL.cons w2 k2⟩
    ·cases h
   ·cases h
  ·cases h
theorem Holds.retmp{s:AS}{a:Act}{Ω:Om}(h:Holds F s a Ω){l:List AV}{vs:List Value}(hv:VL Ω l vs) :
  Holds ⟨F.w0,F.pub0,vs.length,F.e0,F.dom0,[],F.tab0⟩ ⟨aK (da 0 l),s.B⟩ {tmps:=vs.toArray++Array.replicate 0 undef,defers:=[]} Ω:=
 ⟨fun i=>jC 0 hv i,by simp,rfl,h.slots,h.dom,h.inj,h.pubok,h.keep,
  ⟨h.frame.os,h.frame.tape,h.frame.output,h.frame.size,h.frame.block,h.frame.cell,h.frame.kind,h.frame.pub,h.frame.old,h.frame.pcell⟩⟩
theorem iK{w:World}{pub:Nat->Nat->Prop}{e:Nat->Option CObj}{n:Nat}{hl:∀id c,e id=some c->bp id=true}{ht:iD w pub e}{T:Nat->AV}{B:List (Nat×SObj)}{a:Act}{Ω:Om}
 (h:Holds ⟨w,pub,n,e,hl,[],ht⟩ ⟨T,ak B⟩ a Ω):After w pub e (ak B) Ω.w Ω.pub Ω.e:=by
 refine⟨h.frame.os,h.frame.tape,h.frame.output,h.frame.size,h.frame.block,h.frame.cell,h.frame.kind,⟨h.keep,h.frame.old,h.frame.pcell⟩,fun b o hp=>?_,h.pubok,h.slots,h.dom,h.inj⟩;rcases h.frame.pub b o hp with q|q|q
 ·exact Or.inl q
 ·exact Or.inr (Or.inl q)
 ·exact Or.inr (Or.inr q)
theorem jD{α:Type}{l:List α}(h:l.length=1):∃x,l=[x]:=by
 match l,h with
 |[x],_=>exact⟨x,rfl⟩
theorem E2(hm:P.follows .mixedOrders=true)(hT:aQ P C.tbl)(hS:bN P C.spec){ann:An}{f:Nat}{fn:Func}(hf:P.funcs[f]?=some fn)
 {args:List AV}{S:List (Nat×SObj)}{A:Ans}(h:fwp C ann fn args S A):aw P f args S A:=by
 intro w pub e vs hp ht hv hs hdom hinj;unfold fwp at h;split at h
 ·exact h.elim
 ·rename_i c hb;split at h
  ·exact h.elim
  ·rename_i hck;simp only[Mo,MI]at hck;obtain⟨⟨hck1,hck2⟩,hck3⟩:=hck;have hlen:=ez _ _ hck2;rw[iJ,cU]at h
   have hlent:∀id c,e id=some c->bp id=true:=by
    intro id c hc
    cases hg:ak S id with
    |none=>rw[hdom id hg]at hc;cases hc
    |some o=>exact hck3 id (MV.2 ⟨(id,o),cd _ _ _ hg,rfl⟩)
   refine calls_of_wp hf hb ?_;have hh:=ki (n:=fn.ntmps) hp ht hv hlen hs hdom hinj hlent;refine Ou (lN (F:=⟨w,pub,fn.ntmps,e,hlent,[],ht⟩) hm hT hS _ ann c _ _ _ _ h hck1 hh) ?_;intro en a' w' hq;obtain⟨z,s',Ω',h1,h2,h3,h4⟩:=hq;subst h2
   have hmap:∀us,(fn.results.toList.mapM (oH a'.tmps)).run P Ω'.w=.ok us Ω'.w->
     (results fn a'.tmps).run P Ω'.w=.ok (if h:us.toArray.size=1 then us.toArray[0]else .tuple us.toArray) Ω'.w:=by
    intro us hus;rw[mQ,<-NX (xs:=fn.results),Pb];simp only[MG,Sem.run_map,hus,Mw,MY]
   have key:((match A.pan with|some (b,_,_)=>b=false|none=>True)/\tX (kC C.tbl s' fn.results.toList) s' A.val (ca S A.upd))->
     a'.defers=[]/\∃v,(results fn a'.tmps).run P Ω'.w=.ok v Ω'.w/\∃pub' e',(∀b pv u,A.pan=some (b,pv,u)->b=false)/\V ⟨e',Ω'.w,pub'⟩ A.val v/\After w pub e (ak (ca S A.upd)) Ω'.w pub' e':=by
    rintro⟨hpan,hend⟩;refine⟨h3.defers,?_⟩;have hpan':∀b pv u,A.pan=some (b,pv,u)->b=false:=by intro b pv u hpa;rw[hpa]at hpan;exact hpan
    unfold tX at hend;split at hend
    ·rename_i x hres;obtain⟨us,k1,k2⟩:=fM hT h3 _ _ hres;obtain⟨u,rfl⟩:=jD (by rw[<-k2.1];rfl);obtain⟨Ω2,e2,hh2⟩:=dX (s:=⟨[(0,x)],s'.b⟩) (h3.retmp k2) (iq hend);refine⟨u,by simpa using hmap [u] k1,Ω2.pub,Ω2.e,hpan',?_,?_⟩
     ·have:=hh2.tmps 0;rw[<-e2];exact this
     ·rw[<-e2];exact iK hh2
    ·rename_i l hne hres;split at hend
     ·rename_i rs hval;split at hend
      ·rename_i hln;have hl2:=bQ _ _ hln;obtain⟨us,k1,k2⟩:=fM hT h3 _ _ hres;obtain⟨Ω2,e2,hh2⟩:=dX (s:=⟨da 0 l,s'.b⟩) (h3.retmp k2) (iq hend);have hsz:¬us.toArray.size=1:=by intro h1;obtain⟨x,hx⟩:=jD (l:=l) (by rw[k2.1];simpa using h1);exact hne x hx
       refine⟨.tuple us.toArray,?_,Ω2.pub,Ω2.e,hpan',?_,?_⟩
       ·rw[hmap us k1,dif_neg hsz]
       ·rw[hval];refine .tup rs us (by rw[<-k2.1,<-hl2]) (fun j c v hc hv=>?_);have:=hh2.tmps j;simp only[St.abs,gB,ME,Nu,OT,Ms,hc,Nl]at this;have e3:(us.toArray++Array.replicate 0 undef).getD j undef=v:=by simp[MC,hv]
        rw[e3,]at this;rw[<-e2];exact this
       ·rw[<-e2];exact iK hh2
      ·exact hend.elim
     ·exact hend.elim
    ·exact hend.elim
   cases z with
   |normal=>cases h1;exact key h4
   |exit id=>exact h4.elim
   |ret=>cases h1;exact key h4
   |pan pv=>
    obtain⟨v,rfl,hv⟩:=h1;simp only at h4;split at h4
    ·rename_i b pv' pu hpa;obtain⟨hbt,hend⟩:=h4;subst hbt;obtain⟨Ω2,e2,hh2⟩:=dX (s:=⟨[(0,pv)],s'.b⟩) (h3.retmp (VL.cons hv .nil)) (iq hend);refine⟨h3.defers,Ω2.pub,Ω2.e,pv',pu,v,hpa,rfl,?_,?_⟩
     ·have:=hh2.tmps 0;rw[<-e2];exact this
     ·rw[<-e2];exact iK hh2
    ·exact h4.elim
end
end Go.AL
end
noncomputable section
namespace Go.AL
variable [Tabs]
theorem TRok.mk'{P:Program}{t:Nat}{r:TR}
 (h1:(P.info? t).map (fun i=>(i.size,i.bytes,i.zero.map fun z=>z.cells.toList.map bV))=some (r.size,r.bytes,some r.zero))
 (h2:(P.underlying t).map (aG P r.ti)=some true)
 (h3:(fT r.zero r.size&&(Nat.beq r.size 0||Nat.blt 0 r.bytes)&&(match r.ty with | some τ=>Nat.beq (ab τ) r.size&&(IB τ ==r.isAgg) | none=>true))=true)
 (h8:(P.info? t).map (fun i=>i.zero.map fun z=>zA z ==r.isAgg)=some (some true))
 (h9:(match r.ti with|.strct true _=>!P.stoodInHeld t&&!P.eqGuardType P.depth t|_=>true)=true):TRok P t r:=by
 simp only[Mo,Ns,Nat.beq_eq,OI]at h3;obtain⟨⟨h5,h6⟩,h7⟩:=h3;refine⟨?_,bQ _ _ h5,fun hz=>?_,?_,fun τ hτ=>?_,fun i z hi hz=>?_,fun fs hfs=>?_⟩
 ·cases hi:P.info? t with
  |none=>rw[hi]at h1;simp at h1
  |some i=>rw[hi]at h1;simp only[NB,Xs,OL,MM]at h1;obtain⟨e1,e2,z,e3,e4⟩:=h1;exact⟨i,z,rfl,e1,e2,e3,e4⟩
 ·rcases h6 with h6|h6
  ·omega
  ·exact h6
 ·cases hd:P.underlying t with|none=>rw[hd]at h2;simp at h2|some d=>rw[hd]at h2;exact⟨d,rfl,by simpa using h2⟩
 ·rw[hτ]at h7;simpa using h7
 ·rw[hi]at h8;simp[hz]at h8;exact h8
 ·rw[hfs]at h9;simpa using h9
theorem aQ.nil{P:Program}:aQ P []:=fun t r h=>by simp[tV,qD]at h
theorem aQ.cons{P:Program}{t:Nat}{r:TR}{l:List (Nat×TR)}(h:TRok P t r)(hl:aQ P l):aQ P ((t,r)::l):=by
 intro t' r' h';simp only[tV,qD]at h';by_cases e:t=t'
 ·subst e;simp at h';subst h';exact h
 ·simp only[Nd,e,N1]at h';exact hl t' r' h'
theorem au.mk'{P:Program}{f:Nat}{fn:Func}(h:P.funcs[f]?=some fn)(h2:(fn.body.isNone || (fn.name == "runtime.NumGoroutine"))=false):au P f:=by simp only [Bool.or_eq_false_iff] at h2;exact ⟨fn,h,h2.1,h2.2⟩
end Go.AL
end
noncomputable section
namespace Go.AL
def Wf(τ:Ty)(x:den τ):Prop:=∃Ω v,V Ω (inj τ x) v
def WfL(args:List AV):Prop:=∃Ω vs,VL Ω args vs
theorem Wf.str{s:Str}(h:Wf .str s):s.length<=9223372036854775807:=letI:=vo;let ⟨_,_,h⟩:=h;h.str_inv.2
theorem Wf.len{τ:Ty}{xs:List (den τ)}(h:Wf (.lst τ) xs):xs.length<=9223372036854775807:=by
 letI:=vo
 obtain⟨Ω,v,h⟩:=h;rcases h.lst_inv with⟨h1,_,_⟩|⟨h1,_,_⟩|⟨b,off,cap,vals,hv,h1,h2,_⟩
 ·rw[h1];simp
 ·rw[h1];simp
 ·unfold b9 at h2;omega
theorem VL.inj{Ω:Om}{τ:Ty}{x:den τ}{vs:List Value}(h:VL Ω (cells τ x) vs):∃v,V Ω (inj τ x) v:=by
 cases τ with
 |st n=>exact⟨_,.st n x _ (V.of_agg h)⟩
 |int k=>match vs,h with|[v],h=>exact⟨v,h.head⟩
 |bool=>match vs,h with|[v],h=>exact⟨v,h.head⟩
 |str=>match vs,h with|[v],h=>exact⟨v,h.head⟩
 |lst t=>match vs,h with|[v],h=>exact⟨v,h.head⟩
 |pt n=>match vs,h with|[v],h=>exact⟨v,h.head⟩
theorem Wf.mem{τ:Ty}{xs:List (den τ)}(h:Wf (.lst τ) xs){x:den τ}(hx:x∈xs):Wf τ x:=by
 letI:=vo
 obtain⟨Ω,v,h⟩:=h;rcases h.lst_inv with⟨h1,_,_⟩|⟨h1,_,_⟩|⟨b,off,cap,vals,hv,h1,h2,h3,h4,h5⟩
 ·rw[h1]at hx;simp at hx
 ·rw[h1]at hx;simp at hx
 ·obtain⟨i,hi⟩:=NZ hx
  have:VL Ω (cells τ x) ((List.range (cells τ x).length).map (vals i)):=by
   refine⟨by simp,fun j c v hc hv=>?_⟩
   have hj:j<(cells τ x).length:=by
    rcases Mz j (cells τ x).length with k|k
    ·exact k
    ·rw[Mt k]at hc;cases hc
   simp[hj]at hv;subst hv;exact h5 i x hi j c hc
  obtain⟨v',hv'⟩:=this.inj;exact⟨Ω,v',hv'⟩
theorem Wf.cell{n:SN}{x:SD n}(h:Wf (.st n) x)(j:Nat){τ:Ty}{y:den τ}(hc:(cells (.st n) x)[j]?=some (AL.inj τ y)):Wf τ y:=by
 obtain⟨Ω,v,h⟩:=h
 cases h with
 |st _ _ v hv=>
  obtain⟨vs,_,hl⟩:=hv.agg_inv
  have hj:j<vs.length:=by
   rw[<-hl.1];rcases Mz j (cells (.st n) x).length with k|k
   ·exact k
   ·rw[Mt k]at hc;cases hc
  exact⟨Ω,_,hl.2 j _ _ hc (Mn hj)⟩
theorem Wf.names{s:Shape}(h:Wf (.st .shape) s):Wf (.lst .str) s.names:=h.cell 3 (τ:=.lst .str) (y:=s.names) rfl
theorem Wf.parts{s:Shape}(h:Wf (.st .shape) s):Wf (.lst (.st .shape)) s.parts:=h.cell 4 (τ:=.lst (.st .shape)) (y:=s.parts) rfl
theorem Wf.term_parts{x:Trm}(h:Wf (.st .term) x):Wf (.lst (.st .term)) x.parts:=(h.cell 7 (τ:=.lst (.st .term)) (y:=x.parts) rfl)
theorem Wf.op_tos{x:Opn}(h:Wf (.st .op) x):Wf (.lst (.int .i64)) x.tos:=(h.cell 4 (τ:=.lst (.int .i64)) (y:=x.tos) rfl)
theorem Wf.chunk_ops{x:Chnk}(h:Wf (.st .chunk) x):Wf (.lst (.st .op)) x.ops:=(h.cell 1 (τ:=.lst (.st .op)) (y:=x.ops) rfl)
theorem WfL.cons{a:AV}{l:List AV}(h:WfL (a::l)):(∃Ω v,V Ω a v)/\WfL l:=by
 obtain⟨Ω,vs,h⟩:=h;rcases h.cases with⟨e,_⟩|⟨c,cs,v,vs',e,_,h1,h2⟩
 ·cases e
 ·cases e;exact⟨⟨Ω,v,h1⟩,Ω,vs',h2⟩
theorem WfL.one{τ:Ty}{x:den τ}{l:List AV}(h:WfL (inj τ x::l)):Wf τ x:=h.cons.1
theorem WfL.two{a:AV}{τ:Ty}{x:den τ}{l:List AV}(h:WfL (a::inj τ x::l)):Wf τ x:=h.cons.2.cons.1
theorem WfL.three{a b:AV}{τ:Ty}{x:den τ}{l:List AV}(h:WfL (a::b::inj τ x::l)):Wf τ x:=h.cons.2.cons.2.cons.1
section
variable [Tabs]
variable {P:Program}
theorem aw.wf{f:Nat}{args:List AV}{S:List (Nat×SObj)}{A:Ans}(h:WfL args->aw P f args S A):aw P f args S A:=
 fun w pub e vs hp ht hv hs hd hi=>h ⟨_,vs,hv⟩ w pub e vs hp ht hv hs hd hi
theorem aw.args{f:Nat}{args args':List AV}{S:List (Nat×SObj)}{A:Ans}(ha:RdL args args')(h:aw P f args' S A):aw P f args S A:=
 fun w pub e vs hp ht hv hs hd hi=>h w pub e vs hp ht (hv.rd ha) hs hd hi
abbrev Pat:=List AV->List (Nat×SObj)->Option Ans
def hX:List (Nat×Pat)->Nat->Pat
 |[],_=>fun _ _=>none
 |(i,g)::l,f=>fun args S=>
  match Nat.beq i f with
  |true=>(match g args S with|some A=>some A|none=>hX l f args S)
  |false=>hX l f args S
def ag(P:Program)(f:Nat)(g:Pat):Prop:=
 ∀args S A,g args S=some A->(∀q,A.ob=some q->q)->(aJ S).all bp=true->au P f/\aw P f args S A
theorem uj:bN P (hX []):=fun f args S A h=>by simp[hX]at h
theorem rV{f:Nat}{g:Pat}{l:List (Nat×Pat)}(h:ag P f g)(hl:bN P (hX l)):bN P (hX ((f,g)::l)):=by
 intro f' args S A hA ho hk;simp only[hX]at hA;split at hA
 ·rename_i hb;have e:f=f':=MP hb;subst e;split at hA
  ·rename_i A' hg;simp at hA;subst hA;exact h args S A' hg ho hk
  ·exact hl f args S A hA ho hk
 ·exact hl f' args S A hA ho hk
def p1(τ:Ty)(F:den τ->Ans):Pat
 |[a],[]=>(match arg τ a with|some a=>some (F a)|none=>none)
 |_,_=>none
def p2(τ σ:Ty)(F:den τ->den σ->Ans):Pat
 |[a,b],[]=>(match arg τ a,arg σ b with|some a,some b=>some (F a b)|_,_=>none)
 |_,_=>none
def pf(τ:Ty)(n:Nat)(F:den τ->Ans):Pat
 |[a,.fn f []],[]=>(match Nat.beq f n with|true=>(match arg τ a with|some a=>some (F a)|none=>none)|false=>none)
 |_,_=>none
theorem Rd.arg{τ:Ty}{a:AV}{x:den τ}(h:AL.arg τ a=some x):Rd a (inj τ x):=fun _ _ hv=>Ga hv h
theorem aW{f:Nat}{τ:Ty}{F:den τ->Ans}(he:au P f)(h:∀x,Wf τ x->(∀q,(F x).ob=some q->q)->aw P f [inj τ x] [] (F x)):ag P f (p1 τ F):=by
 intro args S A hA ho _;unfold p1 at hA;split at hA
 ·split at hA
  ·rename_i x hx;simp at hA;subst hA;exact⟨he,aw.args (.cons (Rd.arg hx) .nil) (aw.wf fun hw=>h x hw.one ho)⟩
  ·cases hA
 ·cases hA
theorem dx{f:Nat}{τ σ:Ty}{F:den τ->den σ->Ans}(he:au P f)
 (h:∀x y,Wf τ x->Wf σ y->(∀q,(F x y).ob=some q->q)->aw P f [inj τ x,inj σ y] [] (F x y)):ag P f (p2 τ σ F):=by
 intro args S A hA ho _;unfold p2 at hA;split at hA
 ·split at hA
  ·rename_i x y hx hy;simp at hA;subst hA;exact⟨he,aw.args (.cons (Rd.arg hx) (.cons (Rd.arg hy) .nil)) (aw.wf fun hw=>h x y hw.one hw.two ho)⟩
  ·cases hA
 ·cases hA
theorem pC{f:Nat}{τ:Ty}{n:Nat}{F:den τ->Ans}(he:au P f)(h:∀x,Wf τ x->(∀q,(F x).ob=some q->q)->aw P f [inj τ x,.fn n []] [] (F x)):ag P f (pf τ n F):=by
 intro args S A hA ho _;unfold pf at hA;split at hA
 ·split at hA
  ·rename_i hb;have e:=MP hb;subst e;split at hA
   ·rename_i x hx;simp at hA;subst hA;exact⟨he,aw.args (.cons (Rd.arg hx) (.cons (Rd.refl _) .nil)) (aw.wf fun hw=>h x hw.one ho)⟩
   ·cases hA
  ·cases hA
 ·cases hA
end
end Go.AL
end
noncomputable section
namespace Go.AL
theorem aU{α:Type}(l:List α)(k:Nat)(d:α)(h:k<l.length):l.drop k=l.getD k d::l.drop (k+1):=by rw[O2 h];simp[Ms,h]
theorem bW{α:Type}(l:List α)(k:Nat)(d:α)(h:k<l.length):l.getD k d∈l:=by simp[Ms,h]
theorem lP{α:Type}(l:List α)(k:Nat)(d:α)(h:k<l.length):l.take (k+1)=l.take k++[l.getD k d]:=by rw[Pk h];simp[Ms,h]
theorem ai{n:Int}(h1:-9223372036854775808<=n)(h2:n<=9223372036854775807):inR .i64 n:=by constructor<;>simp[IntKind.min,IntKind.max,IntKind.signed,IntKind.bits]<;>omega
theorem bu{n m:Nat}(h1:n<m)(h2:m<=9223372036854775807):inR .i64 ((n:Int)+1):=ai (by omega) (by omega)
theorem l9{p:Prop}[Decidable p]:(decide p=true)=p:=by simp
theorem aa{c p q:Prop}[Decidable c](h1:c->p)(h2:¬c->q):if c then p else q:=by
 by_cases h:c
 ·rw[Mu h];exact h1 h
 ·rw[Mp h];exact h2 h
abbrev mf(α:Type):List α:=[]
theorem Gm[Tabs]{P:Program}{C:Cfg}(hm:P.follows .mixedOrders=true)(hT:aQ P C.tbl)(hS:bN P C.spec){ann:An}{f:Nat}{fn:Func}(hf:P.funcs[f]?=some fn)
 {args:List AV}{S:List (Nat×SObj)}{A:Ans}{Q:Prop}(q:Q)(h:fwp C ann fn args S A=Q):aw P f args S A:=E2 hm hT hS hf (h.mpr q)
end Go.AL
end
noncomputable section
namespace Go.AL
variable [Tabs]
open Go.ChangeShapes Go.WideShapes Go.RowKit
def CD(w:World)(b o:Nat):Prop:=∃v,w.cell? ⟨b,o,none⟩=some v
def Om0(w:World):Om:=⟨fun _=>none,w,CD w⟩
theorem E3{P:Program}{f:Nat}{args:List AV}(h:aw P f args [] (.ret (.bool true))){w:World}{vs:List Value}(htab:∀b o v,Tabs.tab b o v->w.cell? ⟨b,o,none⟩=some v)(hobj:∀b x,Tabs.obj b x->w.heap[b]?=some x)(hv:VL (Om0 w) args vs) :
  Calls P f vs.toArray w fun e w'=>e=.returned (.bool true)/\RowKit.Below w.heap.size w w':=by
 refine Calls.mono (h w (CD w) (fun _=>none) vs (fun _ _ h=>h) ⟨fun b o v ht=>⟨⟨v,htab b o v ht⟩,htab b o v ht⟩,fun b x hx=>⟨hobj b x hx,fun o ⟨_,_,hc,_⟩=>by cases hc⟩⟩ hv (fun id o ho=>by simp[aL,aI]at ho) (fun _ _=>rfl) (fun i j c d b o hc=>by cases hc)) ?_;intro e w' hq;obtain⟨pub',e',hq⟩:=hq
 cases e with
 |returned v=>obtain⟨_,hv,ha⟩:=hq;have:=hv.bool_inv;subst this;exact⟨rfl,ha.os,ha.tape,ha.output,ha.size,fun b hb=>ha.block b hb fun o ⟨id,c,hc,_⟩=>by cases hc⟩
 |panicked ch=>obtain⟨pv,u,v,hp,_⟩:=hq;cases hp
 |outgrown=>exact hq.elim
section
variable {H:Type} {enc:TypeId×Value->H} {P:Program}
theorem mA(hl:laidOutB P=true){W W':World}(hb:Below W.heap.size W W'){sp:Nat->Bool}:∀{ts:List TypeId} {vs:List Value} {ds:List (DataW H)} {p:List MemPlace},
  (∀t∈ts,P.readableRec t=true/\t<P.types.size)->DataW.TrodAll enc P W 0 (fun _=>true) true ts vs ds p->(∀x∈p,x.block<W.heap.size)->(∀x∈p,sp x.block=true)->DataW.TrodAll enc P W' 0 sp true ts vs ds p
 |[],_,_,_,_,h,_,_=>by obtain⟨rfl,rfl,rfl⟩:=trodAll_nil h;exact h
 |t::ts,_,_,_,hr,h,hlt,hsp=>by
  obtain⟨v,vs,d,ds,p,q,rfl,rfl,rfl,h1,h2⟩:=trodAll_cons h;obtain⟨r1,r2⟩:=hr t (by simp)
  exact⟨p,q,WideElems.Trod_stays hl r1 r2 h1 (fun x hx=>hb.same (hlt x (by simp[hx]))) (fun x hx=>hsp x (by simp[hx])),
   mA hl hb (fun t ht=>hr t (by simp[ht])) h2 (fun x hx=>hlt x (by simp[hx])) (fun x hx=>hsp x (by simp[hx])),rfl⟩
theorem Gn(hl:laidOutB P=true){f:Func}{s:ChangeSpec}{apart fresh handsOn again:Bool}{W W':World}{args:Array Value}{ds gs:List (DataW H)}{before:List MemPlace}{tb:TypeId}
 (hr:∀t∈f.params.toList,P.readableRec t=true/\t<P.types.size)(hvars:s.vars=[])(hfn:∀ds:List (DataW H),ds.length=f.params.size->s.fn H ds={results:=[.lit (.bool true)],args:=ds})(hrt:f.resultTypes=#[tb])(htb:P.underlying tb=some .bool)
 (hW:DataW.Whole enc P f.params.toList s.vars apart W args.toList ds gs before)(hb:Below W.heap.size W W'):s.post enc P f apart fresh handsOn again W args (.bool true) W':=by
 have hlt:∀p∈before,p.block<W.heap.size:=fun p hp=>hW.lt p hp;have hW0:=hW;obtain⟨p,q,hA,hV,e,hz,hn⟩:=hW;rw[hvars]at hV;obtain⟨rfl,rfl⟩:=trodVars_none hV;rw[Ny]at e;subst e
 have hlen:ds.length=f.params.size:=by
  have:∀{ts:List TypeId} {vs:List Value} {ds:List (DataW H)} {p:List MemPlace},DataW.TrodAll enc P W 0 (fun _=>true) true ts vs ds p->ds.length=ts.length:=by
   intro ts
   induction ts with
   |nil=>intro vs ds p h;obtain⟨rfl,rfl,rfl⟩:=trodAll_nil h;rfl
   |cons t ts ih=>intro vs ds p h;obtain⟨v,vs,d,ds,p,q,rfl,rfl,rfl,h1,h2⟩:=trodAll_cons h;simp[ih h2]
  simpa using this hA
 have hf:=hfn ds hlen;have hs:∀sp:Nat->Bool,(∀x∈before,sp x.block=true)->DataW.TrodAll enc P W' 0 sp true f.params.toList args.toList ds before:=fun sp hsp=>mA hl hb hr hA hlt hsp;have hres:∀(b:Nat)(sp:Nat->Bool)(hd:Bool),DataW.TrodAll enc P W' b sp hd f.resultTypes.toList ((Value.bool true).resultList f.resultTypes.size) [.lit (.bool true)] []:=by intro b sp hd;rw[hrt];exact trodAll_cons_mk (shut_bool htb true) trodAll_mk0
 have hvs:DataW.TrodVars enc P W' (fun b=>decide (b<W.heap.size)) s.vars [] []:=by rw[hvars];rfl
 refine⟨ds,[],before,[],before,[],hW0,?_,?_,?_,World.keptBut_mono (fun x hx=>⟨hx,.inr (.inl hx)⟩) (hb.frame (·∈before)),fun _=>⟨?_,?_⟩⟩
 ·rw[Ny,hf];exact hres _ _ _
 ·rw[Ny,hf];exact hs _ fun x hx=>by simpa using hlt x hx
 ·rw[Ny,hf];exact hvs
 ·intro j t r h1 h2;rw[hrt]at h1 h2
  cases j with
  |zero=>
   simp at h1;subst h1;have:r=.bool true:=by simp[Value.resultList]at h2;exact h2.symm
   subst this;simp[Value.okWide,htb,Cell.okWide,Cell.ok]
  |succ j=>simp at h1
 ·refine⟨[.lit (.bool true)]++ds,[],[]++before,⟨[]++before,[],trodAll_append (hs _ fun _ _=>rfl) (hres _ _ _),by rw[hvars];rfl,by simp,fun b off hp=>?_,fun ha=>by simpa using hn ha⟩,fun x hx _=>by simpa using hx⟩;have hin:MemPlace.cell b off∈before:=by simpa using hp
  rw[hb.frozen (p:=⟨b,off,none⟩) (hlt _ hin)];exact hz b off hin
variable {w:World} {base:Nat} {sp:Nat->Bool} {held:Bool}
theorem CE{t:TypeId}{k:IntKind}{fuel:Nat}{cs:List Value}{x:DataW H×List MemPlace}(ht:P.underlying t=some (.int k))(h:DataW.trod enc P w base sp held fuel t cs=some x) :
  ∃n:Int,cs=[.int k n]/\V (Om0 w) (.int k n) (.int k n):=by
 obtain⟨n,rfl,_,hw⟩:=DataW.trod_int ht h;simp only[Lit.wf,Mo,MD]at hw;exact⟨n,rfl,.int k n hw.1 hw.2⟩
theorem rW{t:TypeId}{fuel:Nat}{cs:List Value}{x:DataW H×List MemPlace}(ht:P.underlying t=some .string)(h:DataW.trod enc P w base sp held fuel t cs=some x) :
  ∃(s:Str)(v:Value),cs=[v]/\V (Om0 w) (.str s) v:=by
 obtain⟨s,rfl,_,hw⟩:=DataW.trod_string ht h;refine⟨s.data.toList,_,rfl,?_⟩;have e:s=⟨s.data.toList.toArray⟩:=by cases s;simp
 have hl:s.data.toList.length<=b9:=by have:s.data.size=s.size:=rfl;unfold maxLen at hw;unfold b9;simp only[NU,this];omega
 have:=V.str (Ω:=Om0 w) s.data.toList hl;rw[<-e]at this;exact this
theorem Kx{t e:TypeId}{τ:Ty}{fuel:Nat}{cs:List Value}{x:DataW H×List MemPlace}(ht:P.underlying t=some (.slice e))(hc:P.cellsOf e=ab τ)(h:DataW.trod enc P w base sp held fuel t cs=some x)
 (hel:∀(n:Nat)(ds:List Value)(y:DataW H×List MemPlace),fuel=n+1->DataW.trod enc P w base sp held n e ds=some y->∃z:den τ,VL (Om0 w) (cells τ z) ds)
 (hsp:∀a len cap,cs=[.slice (some a) len cap]->a.spot=none):∃(l:List (den τ))(v:Value),cs=[v]/\V (Om0 w) (.lst τ l none) v:=by
 rcases Po ht h with⟨rfl,_⟩|⟨a,len,cap,elems,rest,n,hfu,rfl,_,_,hlc,hcm,hlen,hels,_,_⟩
 ·exact⟨[],_,rfl,.lstNil τ none (fun id hid=>by cases hid)⟩
 ·have hs:=hsp a len cap rfl;obtain⟨b,off,spot⟩:=a;simp only at hs;subst hs
  have each:∀i,i<len->∃z:den τ,∃ds:List Value,ds.length=ab τ/\(∀j,j<ab τ->w.cell? ⟨b,off+(i *ab τ+j),none⟩=ds[j]?)/\VL (Om0 w) (cells τ z) ds:=by
   intro i hi;have h1:=hels i hi;obtain⟨y,hy⟩:∃y,elems[i]?=some y:=⟨_,Mn (by omega)⟩;rw[hy,hc,OE]at h1;obtain⟨ds,hd,hy'⟩:=h1;obtain⟨_,hdl,hdc⟩:=Pl hd;obtain⟨z,hz⟩:=hel n ds y hfu hy';refine⟨z,ds,hdl,fun j hj=>?_,hz⟩;have:=hdc j hj
   have ha:∀(o n:Nat),(⟨b,o,none⟩:Addr).add n=⟨b,o+n,none⟩:=by
    intro o n;unfold Addr.add;by_cases h0:n=0
    ·subst h0;rfl
    ·rw[Mp h0]
   rw[ha,ha,O0]at this;exact this
  have hz:∃l:List (den τ),l.length=len/\∀i z,l[i]?=some z->∃ds:List Value,ds.length=ab τ/\(∀j,j<ab τ->w.cell? ⟨b,off+(i *ab τ+j),none⟩=ds[j]?)/\VL (Om0 w) (cells τ z) ds:=by
   refine⟨(List.range len).attach.map fun i=>(each i.1 (NW.1 i.2)).choose,by simp,fun i z hi=>?_⟩;have hil:i<len:=by have:=(Nb.1 hi).1;simpa using this
   simp only[MS,MM]at hi;obtain⟨⟨k,hk⟩,h1,h2⟩:=hi;have hki:k=i:=by have:=Nb.1 h1;obtain⟨_,e⟩:=this;have:=NT Subtype.val e;simpa using this.symm
   subst hki;rw[<-h2];exact(each k (NW.1 hk)).choose_spec
  obtain⟨l,hll,hle⟩:=hz;refine⟨l,_,rfl,?_⟩;have key:=V.lst (Ω:=Om0 w) τ l none b off cap (fun i j=>(w.cell? ⟨b,off+(i *ab τ+j),none⟩).getD undef) (by omega) (by unfold maxLen at hcm;unfold b9;omega) (fun id hid=>by cases hid) (fun i z hz j c hj=>?_) (fun i z hz j c hj=>?_)
  ·rw[hll]at key;exact key
  ·obtain⟨ds,d1,d2,d3⟩:=hle i z hz;have hjw:j<ab τ:=by rw[<-aP τ z];exact(Nb.1 hj).1
   have hv:w.cell? ⟨b,off+(i *ab τ+j),none⟩=some ds[j]:=by rw[d2 j hjw];exact Mn (by omega)
   refine⟨⟨_,hv⟩,?_⟩;show w.cell? _=_;rw[hv];rfl
  ·obtain⟨ds,d1,d2,d3⟩:=hle i z hz;have hjw:j<ab τ:=by rw[<-aP τ z];exact(Nb.1 hj).1
   have hd:ds[j]?=some ds[j]:=Mn (by omega);rw[d2 j hjw,hd];exact d3.2 j c ds[j] hj hd
theorem Gp{r:Reach}{b0:Nat}{t e:TypeId}{v:Value}(ht:P.underlying t=some (.slice e))(hv:Value.okWide P w r b0 t v):∀a len cap,v.cells.toList=[.slice (some a) len cap]->a.spot=none:=by
 intro a len cap hc;have:Cell.okWide P w r b0 t v:=by unfold Value.okWide at hv;rw[ht]at hv;exact hv
 unfold Cell.okWide at this;rw[ht]at this;have hok:Cell.ok P w r b0 t v:=by cases v<;>exact this
 unfold Cell.ok at hok;rw[ht]at hok
 cases v with
 |slice o l c=>simp[Value.cells]at hc;obtain⟨rfl,rfl,rfl⟩:=hc;simp only at hok;exact hok.2.2.2.1
 |_=>first|exact hok.elim|(simp[Value.cells]at hc)
theorem IW{r:Reach}{b0:Nat}{t e:TypeId}{v:Value}(ht:P.underlying t=some (.slice e))(hv:Value.okWide P w r b0 t v):v.cells.toList=[v]:=by
 have:Cell.okWide P w r b0 t v:=by unfold Value.okWide at hv;rw[ht]at hv;exact hv
 unfold Cell.okWide at this;rw[ht]at this;have hok:Cell.ok P w r b0 t v:=by cases v<;>exact this
 unfold Cell.ok at hok;rw[ht]at hok
 cases v with|slice o l c=>rfl|_=>exact hok.elim
end
end Go.AL
end
noncomputable section
namespace Go.AL
variable [Tabs]
open Go.ChangeShapes Go.WideShapes Go.RowKit
variable {H:Type} {enc:TypeId×Value->H} {P:Program} {w:World} {base:Nat} {held:Bool}
theorem CF{sp:Nat->Bool}{t:TypeId}{fs:Array Field}{fuel:Nat}{cs:List Value}{x:DataW H×List MemPlace}(ht:P.underlying t=some (.struct fs))(h:DataW.trod enc P w base sp held fuel t cs=some x) :
  ∃n,fuel=n+1/\cs.length=P.cellsOf t/\∀(i:Nat)(f:Field),fs[i]?=some f->∃y,DataW.trod enc P w base sp held n f.type ((cs.drop f.offset).take (P.cellsOf f.type))=some y:=by
 obtain⟨xs,n,hn,_,hl,hx,hf⟩:=DataW.trod_struct ht h;refine⟨n,hn,hl,fun i f hif=>?_⟩
 have hi:i<xs.length:=by
  rw[hx];rcases Mz i fs.size with k|k
  ·exact k
  ·rw[Nj k]at hif;cases hif
 exact⟨xs[i],by rw[hf i f hif];exact Mn hi⟩
theorem vJ{t e:TypeId}{τ:Ty}{fuel:Nat}{cs:List Value}{x:DataW H×List MemPlace}(ht:P.underlying t=some (.slice e))(hc:P.cellsOf e=ab τ)(hw:0<ab τ)
 (h:DataW.trod enc P w base (fun _=>true) held fuel t cs=some x)
 (hel:∀(n:Nat)(ds:List Value)(y:DataW H×List MemPlace),fuel=n+1->DataW.trod enc P w base (fun _=>true) held n e ds=some y->∃z:den τ,VL (Om0 w) (cells τ z) ds) :
  ∃(l:List (den τ))(v:Value),cs=[v]/\V (Om0 w) (.lst τ l none) v:=by
 have h0:=h;rcases Po ht h with⟨rfl,_⟩|⟨a,len,cap,elems,rest,n,hfu,rfl,_,_,hlc,hcm,hlen,hels,hrest,_⟩
 ·exact⟨[],_,rfl,.lstNil τ none (fun id hid=>by cases hid)⟩
 ·by_cases hcap:cap=0
  ·have:len=0:=by omega
   subst hcap this;exact⟨[],_,rfl,.lstVoid τ a⟩
  ·refine Kx ht hc h0 hel fun a' len' cap' e'=>?_;simp only[Nx,NC,Xs,N4]at e';obtain⟨rfl,rfl,rfl⟩:=e'
   have hr:∃(ad:Addr)(y:DataW H×List MemPlace),ad=a/\(w.cells? base ad (P.cellsOf e)).bind (DataW.trod enc P w base (fun _=>true) held n e)=some y:=by
    by_cases hl:len=0
    ·obtain⟨r1,r2⟩:=hrest rfl;have:=r2 0 (by omega);rw[hl]at this;refine⟨_,_,?_,this.trans (Mn (by omega))⟩;simp[Addr.add]
    ·have:=hels 0 (by omega);refine⟨_,_,?_,this.trans (Mn (by omega))⟩;simp[Addr.add]
   obtain⟨ad,y,rfl,hy⟩:=hr;rw[OE]at hy;obtain⟨ds,hd,_⟩:=hy;obtain⟨_,hdl,hdc⟩:=Pl hd;have:=hdc 0 (by rw[hc];exact hw);have ha:ad.add 0=ad:=by simp[Addr.add]
   rw[ha,Mn (by rw[hdl,hc];exact hw)]at this;unfold World.cell? at this;split at this
   ·split at this
    ·cases this
    ·rename_i hs;cases hsp:ad.spot
     ·rfl
     ·rw[hsp]at hs;exact absurd rfl hs
   ·cases this
structure ShapeAt(P:Program)(t:TypeId):Prop where
 ex:∃(f0 f1 f2 f3 f4:Field)(e:TypeId),P.underlying t=some (.struct #[f0,f1,f2,f3,f4])/\P.cellsOf t=5/\
  (f0.offset=0/\f1.offset=1/\f2.offset=2/\f3.offset=3/\f4.offset=4)/\
  (P.cellsOf f0.type=1/\P.cellsOf f1.type=1/\P.cellsOf f2.type=1/\P.cellsOf f3.type=1/\P.cellsOf f4.type=1)/\
  P.underlying f0.type=some (.int .i64)/\P.underlying f1.type=some .string/\P.underlying f2.type=some .string/\P.underlying f3.type=some (.slice e)/\P.underlying e=some .string/\P.cellsOf e=1/\P.underlying f4.type=some (.slice t)
theorem CG{t:TypeId}(hs:ShapeAt P t):∀(fuel:Nat)(cs:List Value)(x:DataW H×List MemPlace),DataW.trod enc P w base (fun _=>true) held fuel t cs=some x->∃s:Shape,VL (Om0 w) (cells (.st .shape) s) cs:=by
 obtain⟨f0,f1,f2,f3,f4,e,ht,hc,⟨o0,o1,o2,o3,o4⟩,⟨c0,c1,c2,c3,c4⟩,u0,u1,u2,u3,us,ce,u4⟩:=hs;intro fuel
 induction fuel using Nat.strongRecOn with
 |_ fuel ih=>
 intro cs x h;obtain⟨n,hn,hl,hf⟩:=CF ht h;rw[hc]at hl;obtain⟨y0,h0⟩:=hf 0 f0 rfl;obtain⟨y1,h1⟩:=hf 1 f1 rfl;obtain⟨y2,h2⟩:=hf 2 f2 rfl;obtain⟨y3,h3⟩:=hf 3 f3 rfl;obtain⟨y4,h4⟩:=hf 4 f4 rfl
 match cs,hl with
 |[a0,a1,a2,a3,a4],_=>
  rw[o0,c0]at h0;rw[o1,c1]at h1;rw[o2,c2]at h2;rw[o3,c3]at h3;rw[o4,c4]at h4;simp only[Nq,Oy,NV,Od]at h0 h1 h2 h3 h4;obtain⟨k,e0,v0⟩:=CE u0 h0;obtain⟨p,v,e1,v1⟩:=rW u1 h1;obtain⟨m,v',e2,v2⟩:=rW u2 h2;obtain⟨ns,v'',e3,v3⟩:=vJ (τ:=.str) u3 (by rw[ce];rfl) (by decide) h3 fun n' ds y _ hy=>by obtain⟨s,v,rfl,hv⟩:=rW us hy;exact⟨s,VL.cons hv .nil⟩
  obtain⟨ps,v''',e4,v4⟩:=vJ (τ:=.st .shape) u4 (by rw[hc];rfl) (by decide) h4 fun n' ds y hn' hy=>ih n' (by omega) ds y hy;simp only[Nx,N4]at e0 e1 e2 e3 e4;subst e0 e1 e2 e3 e4;exact⟨⟨k,p,m,ns,ps⟩,VL.cons v0 (VL.cons v1 (VL.cons v2 (VL.cons v3 (VL.cons v4 .nil))))⟩
structure ItemAt(P:Program)(t:TypeId):Prop where
 ex:∃(f0 f1 f2:Field),P.underlying t=some (.struct #[f0,f1,f2])/\P.cellsOf t=7/\(f0.offset=0/\f1.offset=1/\f2.offset=2)/\
  (P.cellsOf f0.type=1/\P.cellsOf f1.type=1/\P.cellsOf f2.type=5)/\P.underlying f0.type=some (.int .i64)/\P.underlying f1.type=some .string/\ShapeAt P f2.type
end Go.AL
end
noncomputable section
namespace Go.AL
open Go.ChangeShapes Go.WideShapes Go.RowKit
abbrev rX(w:World):Tabs:=⟨fun b o v=>b<4/\w.cell? ⟨b,o,none⟩=some v,fun b x=>b<4/\w.heap[b]?=some x⟩
variable [Tabs]
variable {H:Type} {enc:TypeId×Value->H} {P:Program} {w:World} {base:Nat} {held:Bool}
structure TokAt(P:Program)(t:TypeId):Prop where
 ex:∃(f0 f1 f2:Field),P.underlying t=some (.struct #[f0,f1,f2])/\P.cellsOf t=3/\(f0.offset=0/\f1.offset=1/\f2.offset=2)/\
  (P.cellsOf f0.type=1/\P.cellsOf f1.type=1/\P.cellsOf f2.type=1)/\P.underlying f0.type=some (.int .i64)/\P.underlying f1.type=some .string/\P.underlying f2.type=some (.int .i64)
end Go.AL
end
noncomputable section
namespace Go.AL
open Go.ChangeShapes Go.WideShapes Go.RowKit
variable [Tabs]
variable {H:Type} {enc:TypeId×Value->H} {P:Program} {w:World} {base:Nat} {held:Bool}
structure BindAt(P:Program)(t:TypeId):Prop where
 ex:∃(f0 f1 f2:Field),P.underlying t=some (.struct #[f0,f1,f2])/\P.cellsOf t=7/\(f0.offset=0/\f1.offset=1/\f2.offset=2)/\
  (P.cellsOf f0.type=1/\P.cellsOf f1.type=1/\P.cellsOf f2.type=5)/\P.underlying f0.type=some .string/\P.underlying f1.type=some .string/\ShapeAt P f2.type
theorem L8{t:TypeId}(hs:BindAt P t)(fuel:Nat)(cs:List Value)(x:DataW H×List MemPlace)(h:DataW.trod enc P w base (fun _=>true) held fuel t cs=some x):∃s:Bndg,VL (Om0 w) (cells (.st .bind) s) cs:=by
 obtain⟨f0,f1,f2,ht,hc,⟨o0,o1,o2⟩,⟨c0,c1,c2⟩,u0,u1,u2⟩:=hs;obtain⟨n,hn,hl,hf⟩:=CF ht h;rw[hc]at hl;obtain⟨y0,h0⟩:=hf 0 f0 rfl;obtain⟨y1,h1⟩:=hf 1 f1 rfl;obtain⟨y2,h2⟩:=hf 2 f2 rfl
 match cs,hl with
 |[a0,a1,a2,a3,a4,a5,a6],_=>rw[o0,c0]at h0;rw[o1,c1]at h1;rw[o2,c2]at h2;simp only[Nq,Oy,NV,Od]at h0 h1 h2;obtain⟨k,v',e0,v0⟩:=rW u0 h0;obtain⟨p,v,e1,v1⟩:=rW u1 h1;obtain⟨s,v2⟩:=CG u2 _ _ _ h2;simp only[Nx,N4]at e0 e1;subst e0 e1;exact⟨⟨k,p,s⟩,VL.cons v0 (VL.cons v1 v2)⟩
theorem IX{t e:TypeId}(ht:P.underlying t=some (.slice e))(hi:BindAt P e){r:Reach}{b0 fuel:Nat}{v:Value}{x:DataW H×List MemPlace}(hv:Value.okWide P w r b0 t v)
 (h:DataW.trod enc P w base (fun _=>true) held fuel t v.cells.toList=some x):∃l:List Bndg,V (Om0 w) (.lst (.st .bind) l none) v:=by
 obtain⟨l,u,e',hl⟩:=Kx (τ:=.st .bind) ht (by obtain⟨_,_,_,_,hc,_⟩:=hi;rw[hc];rfl) h (fun n ds y _ hy=>L8 hi n ds y hy) (Gp ht hv);rw[IW ht hv]at e';simp only[Nx,N4]at e';subst e';exact⟨l,hl⟩
structure EnvAt(P:Program)(t:TypeId):Prop where
 ex:∃(f0 f1 f2 f3:Field)(e:TypeId),P.underlying t=some (.struct #[f0,f1,f2,f3])/\P.cellsOf t=4/\(f0.offset=0/\f1.offset=1/\f2.offset=2/\f3.offset=3)/\
  (P.cellsOf f0.type=1/\P.cellsOf f1.type=1/\P.cellsOf f2.type=1/\P.cellsOf f3.type=1)/\P.underlying f0.type=some .string/\
  (P.underlying f1.type=some (.slice e)/\P.underlying f2.type=some (.slice e)/\P.underlying f3.type=some (.slice e))/\BindAt P e
end Go.AL
end
noncomputable section
namespace Go.AL
variable [Tabs]
theorem bk.blk{Ω:Om}{own:Nat->Nat->Prop}{id:Nat}{ob:SObj}(hs:bk Ω own id ob){c:CObj}(hc:Ω.e id=some c){b o:Nat}(hb:occ c b o):b<Ω.w.heap.size:=by
 cases ob with
 |box x=>
  obtain⟨b',off,he,hh⟩:=hs;rw[he]at hc;simp only[Xs]at hc;subst hc;obtain⟨rfl,h1,h2⟩:=hb;have hj:o-off<(ae x).length:=by omega
  obtain⟨_,_,_,v,hv,_⟩:=hh (o-off) _ (Mn hj);exact aT hv
 |tail τ n=>obtain⟨base,cap,he,_,_,_,hb'⟩:=hs;rw[he]at hc;simp only[Xs]at hc;subst hc;obtain⟨_,vs,ty,fz,hh,_⟩:=hb' b hb;exact bU hh
 |grow τ n xs=>obtain⟨base,cap,he,_,_,_,hb'⟩:=hs;rw[he]at hc;simp only[Xs]at hc;subst hc;obtain⟨_,⟨vs,ty,fz,hh,_⟩,_⟩:=hb' b hb;exact bU hh
 |map κ τ m=>obtain⟨r,he,_,es,clock,hh,_⟩:=hs;rw[he]at hc;simp only[Xs]at hc;subst hc;have:b=r:=hb;subst this;exact bU hh
 |bld t u l=>obtain⟨b0,g,he,_,hh⟩:=hs;rw[he]at hc;simp only[Xs]at hc;subst hc;exact hh.lt hb
 |tailp τ n x=>
  obtain⟨b0,cap,he,_,_,_,⟨vs,ty,fz,hh,_⟩,_⟩:=hs;rw[he]at hc;simp only[Xs]at hc;subst hc;have:b0=b:=by simpa[occ]using hb
  subst this;exact bU hh
def rY(e:Nat->Option CObj)(k b o:Nat):Prop:=∃c,e k=some c/\occ c b o
theorem After.slot{w w':World}{pub:Nat->Nat->Prop}{e:Nat->Option CObj}{S:List (Nat×SObj)}
 (hp:kD w pub)(hs:∀id o,ak S id=some o->bk ⟨e,w,pub⟩ (fun _ _=>True) id o)(hd:∀id,ak S id=none->e id=none)(hi:Inj e)
 {k:Nat}{obj:SObj}{c:CObj}{Q:Nat->Nat->Prop}
 (os:w'.os=w.os)(tape:w'.tape=w.tape)(output:w'.output=w.output)(size:w.heap.size<=w'.heap.size)
 (block:∀b,b<w.heap.size->(∀o,¬rY e k b o)->w'.heap[b]?=w.heap[b]?)
 (cell:∀b o,b<w.heap.size->¬rY e k b o->w'.cell? ⟨b,o,none⟩=w.cell? ⟨b,o,none⟩)
 (kind:∀b,b<w.heap.size->¬(∀o,rY e k b o)->w'.shape? b=w.shape? b/\∀o,w'.frozen? ⟨b,o,none⟩=w.frozen? ⟨b,o,none⟩)
 (hpub:∀b o,pub b o->w'.cell? ⟨b,o,none⟩=w.cell? ⟨b,o,none⟩)
 (hQ:∀b o,Q b o->w.heap.size<=b/\∃v,w'.cell? ⟨b,o,none⟩=some v)
 (hle:∀c0,e k=some c0->CLe c0 c)(hnew:∀b o,occ c b o->w.heap.size<=b∨rY e k b o)
 (hobj:Ext ⟨e,w,pub⟩ ⟨fun i=>if k=i then some c else e i,w',fun b o=>pub b o∨Q b o⟩->
   bk ⟨fun i=>if k=i then some c else e i,w',fun b o=>pub b o∨Q b o⟩ (fun b o=>w.heap.size<=b∨me e b o) k obj) :
  After w pub e (ak (ca S [(k,obj)])) w' (fun b o=>pub b o∨Q b o) (fun i=>if k=i then some c else e i):=by
 have blk:∀{id c b o},e id=some c->occ c b o->b<w.heap.size:=by
  intro id c b o hc ho
  cases hg:ak S id with
  |none=>rw[hd id hg]at hc;cases hc
  |some ob=>exact(hs id ob hg).blk (Ω:=⟨e,w,pub⟩) hc ho
 have hx:Ext ⟨e,w,pub⟩ ⟨fun i=>if k=i then some c else e i,w',fun b o=>pub b o∨Q b o⟩:=by
  refine⟨fun id c' hc'=>?_,fun b o h=>Or.inl h,fun b o h=>hpub b o h⟩;by_cases hid:k=id
  ·subst hid;exact⟨c,by simp,hle c' hc'⟩
  ·exact⟨c',by simp only[Mp hid];exact hc',CLe.refl _⟩
 have toL:∀{b o},rY e k b o->me e b o:=fun⟨c,h1,h2⟩=>⟨k,c,h1,h2⟩;have stay:∀{id c' b o},k≠id->e id=some c'->occ c' b o->¬rY e k b o:=by rintro id c' b o hid hc ho ⟨c0,h1,h2⟩;exact hid (hi k id c0 c' b o h1 hc h2 ho)
 refine⟨os,tape,output,size,fun b hb h=>block b hb fun o ho=>h o (toL ho),fun b o hb h=>cell b o hb fun ho=>h (toL ho),
  fun b hb h=>kind b hb fun ho=>h fun o=>toL (ho o),hx,fun b o h=>?_,fun b o h=>?_,fun id o h=>?_,fun id h=>?_,?_⟩
 ·rcases h with h|h
  ·exact Or.inl h
  ·exact Or.inr (Or.inl (hQ b o h).1)
 ·rcases h with h|h
  ·obtain⟨v,hv⟩:=hp b o h;exact⟨v,(hpub b o h).trans hv⟩
  ·exact(hQ b o h).2
 ·rw[iH,gY]at h;by_cases hid:k=id
  ·subst hid;simp only[Nu]at h;cases h;exact hobj hx
  ·simp only[Mp hid]at h;have h0:=hs id o h;refine bk.own_of (bk.keep h0 hx (by simp only[Mp hid]) fun c' hc'=>?_) (fun c' b o hc ho=>?_)
   ·have hc':e id=some c':=hc'
    cases c' with
    |box b off len=>
     intro oo h1 h2;have ho:occ (.box b off len) b oo:=⟨rfl,h1,h2⟩;refine⟨cell b oo (blk hc' ho) (stay hid hc' ho),(kind b (blk hc' ho) fun hall=>stay hid hc' ho (hall oo)).2 oo,fun hp'=>?_⟩;rcases hp' with hp'|hp'
     ·exact hp'
     ·have:=(hQ _ _ hp').1;have:=blk hc' ho;omega
    |tail n base cap=>
     intro b hb;have ho:∀oo,occ (.tail n base cap) b oo:=fun _=>hb;refine⟨block b (blk hc' (ho 0)) fun oo=>stay hid hc' (ho oo),fun oo hp'=>?_⟩;rcases hp' with hp'|hp'
     ·exact hp'
     ·have:=(hQ _ _ hp').1;have:=blk hc' (ho 0);omega
    |obj r=>have ho:∀oo,occ (.obj r) r oo:=fun _=>rfl;exact block r (blk hc' (ho 0)) fun oo=>stay hid hc' (ho oo)
    |bld b g=>
     intro b' hb';have ho:∀oo,occ (.bld b g) b' oo:=fun _=>hb';refine⟨block b' (blk hc' (ho 0)) fun oo=>stay hid hc' (ho oo),fun oo hp'=>?_⟩;rcases hp' with hp'|hp'
     ·exact hp'
     ·have:=(hQ _ _ hp').1;have:=blk hc' (ho 0);omega
   ·simp only[Mp hid]at hc;exact Or.inr ⟨id,c',hc,ho⟩
 ·rw[iH,gY]at h;by_cases hid:k=id
  ·simp[hid]at h
  ·simp only[Mp hid]at h⊢;exact hd id h
 ·intro i j ci cj b o hci hcj hoi hoj;simp only at hci hcj;by_cases h1:k=i<;>by_cases h2:k=j
  ·omega
  ·simp only[Mu h1,Mp h2,Xs]at hci hcj;subst hci;rcases hnew b o hoi with h|h
   ·have:=blk hcj hoj;omega
   ·exact absurd h (stay h2 hcj hoj)
  ·simp only[Mp h1,Mu h2,Xs]at hci hcj;subst hcj;rcases hnew b o hoj with h|h
   ·have:=blk hci hoi;omega
   ·exact absurd h (stay h1 hci hoi)
  ·simp only[Mp h1,Mp h2]at hci hcj;exact hi i j ci cj b o hci hcj hoi hoj
theorem After.fresh1{w w':World}{pub:Nat->Nat->Prop}{e:Nat->Option CObj}{S:List (Nat×SObj)}
 (hp:kD w pub)(hs:∀id o,ak S id=some o->bk ⟨e,w,pub⟩ (fun _ _=>True) id o)(hd:∀id,ak S id=none->e id=none)(hi:Inj e)
 {k:Nat}{obj:SObj}{c:CObj}(hb:RowKit.Below w.heap.size w w')(hk:ak S k=none)(hnew:∀b o,occ c b o->w.heap.size<=b)
 (hobj:bk ⟨fun i=>if k=i then some c else e i,w',fun b o=>pub b o∨False⟩ (fun b o=>w.heap.size<=b∨me e b o) k obj) :
  After w pub e (ak (ca S [(k,obj)])) w' (fun b o=>pub b o∨False) (fun i=>if k=i then some c else e i):=
 After.slot hp hs hd hi (Q:=fun _ _=>False) hb.os hb.tape hb.output hb.size (fun b h _=>hb.block b h) (fun b o h _=>aj (hb.block b h) o)
  (fun b h _=>⟨ba (hb.block b h),fun o=>aM (hb.block b h) o⟩)
  (fun b o h=>by obtain⟨v,hv⟩:=hp b o h;exact aj (hb.block b (aT hv)) o)
  (fun _ _ h=>h.elim) (fun c0 h=>by rw[hd k hk]at h;cases h) (fun b o h=>Or.inl (hnew b o h)) (fun _=>hobj)
theorem VL.one_inv{Ω:Om}{a:AV}{vs:List Value}(h:VL Ω [a] vs):∃v,vs=[v]/\V Ω a v:=by
 obtain⟨hl,h⟩:=h
 match vs,hl,h with
 |[v],_,h=>exact⟨v,rfl,h 0 a v rfl rfl⟩
theorem VL.two_inv{Ω:Om}{a b:AV}{vs:List Value}(h:VL Ω [a,b] vs):∃v u,vs=[v,u]/\V Ω a v/\V Ω b u:=by
 obtain⟨hl,h⟩:=h
 match vs,hl,h with
 |[v,u],_,h=>exact⟨v,u,rfl,h 0 a v rfl rfl,h 1 b u rfl rfl⟩
end Go.AL
end
noncomputable section
namespace Go.AL
variable [Tabs]
open Go.Proofs Go.Shelf Go.RowKit
variable {P:Program} {ρ:Ren}
structure But(w w':World)(b:Nat)(g:Option Nat):Prop where
 os:w'.os=w.os
 tape:w'.tape=w.tape
 output:w'.output=w.output
 size:w.heap.size<=w'.heap.size
 block:∀k,k<w.heap.size->k≠b->g≠some k->w'.heap[k]?=w.heap[k]?
theorem But.refl(w:World)(b:Nat)(g:Option Nat):But w w b g:=⟨rfl,rfl,rfl,Mx _,fun _ _ _ _=>rfl⟩
theorem But.drew{w w':World}{b:Nat}{g:Option Nat}(h:But w w' b g):But w w'.drew b g:=⟨h.os,h.tape,h.output,h.size,h.block⟩
theorem But.set{w w':World}{b:Nat}{g:Option Nat}(h:But w w' b g)(o:Nat)(v:Value):But w (w'.setCell ⟨b,o,none⟩ v) b g:=
 ⟨h.os,h.tape,h.output,by simpa using h.size,fun k h1 h2 h3=>(Below.heap_setCell w' ⟨b,o,none⟩ v k h2).trans (h.block k h1 h2 h3)⟩
theorem But.grown{w w' w2:World}{b:Nat}{g:Option Nat}(h:But w w' b g)(k:w'.grownBy w2 g):But w w2 b g:=
 ⟨k.os.trans h.os,k.tape.trans h.tape,k.output.trans h.output,NA h.size k.size,fun j h1 h2 h3=>(k.block j (P5 h1 h.size) fun e=>h3 e.symm).trans (h.block j h1 h2 h3)⟩
theorem But.freeze{w w':World}{b g:Nat}(h:But w w' b (some g))(n:Nat):But w (w'.freeze ⟨g,0,none⟩ n) b (some g):=by
 unfold World.freeze;split
 ·exact h
 ·refine⟨h.os,h.tape,h.output,by simpa using h.size,fun k h1 h2 h3=>?_⟩;simp only[Nw];rw[Mp (fun e=>h3 (by rw[e]))];exact h.block k h1 h2 h3
theorem tC(s:Str):Lib.strCells ⟨s.toArray⟩=Lib.byteCells s:=by simp[Lib.strCells,Lib.byteCells]
structure CC(P:Program)(ρ:Ren):Prop where
 enters:∀args w,(callFunc (ρ.f 240) args).run P w=.ok (.enter (ρ.f 240) args) w
 used:∀(b:Nat)(w:World),w.cell? ⟨b,0,none⟩=some (.pointer (some ⟨b,0,none⟩))->Calls P (ρ.f 240) #[.pointer (some ⟨b,0,none⟩)] w fun e w'=>e=.returned (.tuple #[])/\w'=w
 fresh:∀(b:Nat)(w:World),w.cell? ⟨b,0,none⟩=some (.pointer none)->w.shape? b=some ((ρ.t 72),2)->w.frozen? ⟨b,0,none⟩=false->
  Calls P (ρ.f 240) #[.pointer (some ⟨b,0,none⟩)] w fun e w'=>e=.returned (.tuple #[])/\w'=w.setCell ⟨b,0,none⟩ (.pointer (some ⟨b,0,none⟩))
structure WL(P:Program)(ρ:Ren):Prop where
 mixed:P.follows .mixedOrders=true
 f166:P.funcs[ρ.f 166]?=some (Body.n166 ρ)
 t3:P.underlying (ρ.t 3)=some (TypeDesc.int IntKind.i64)
 a3:∀w,(isAgg (ρ.t 3)).run P w=.ok false w
 z3:∀w,(Go.sizeOf (ρ.t 3)).run P w=.ok 1 w
 v3:∀w,(zeroValue (ρ.t 3)).run P w=.ok (Value.int IntKind.i64 0) w
 t9:P.underlying (ρ.t 9)=some (TypeDesc.string)
 a9:∀w,(isAgg (ρ.t 9)).run P w=.ok false w
 z9:∀w,(Go.sizeOf (ρ.t 9)).run P w=.ok 1 w
 v9:∀w,(zeroValue (ρ.t 9)).run P w=.ok (Value.string {data:=#[]}) w
 t37:P.underlying (ρ.t 37)=some (TypeDesc.slice (ρ.t 5))
 a37:∀w,(isAgg (ρ.t 37)).run P w=.ok false w
 z37:∀w,(Go.sizeOf (ρ.t 37)).run P w=.ok 1 w
 v37:∀w,(zeroValue (ρ.t 37)).run P w=.ok (Value.slice none 0 0) w
 t70:P.underlying (ρ.t 70)=some (TypeDesc.pointer (ρ.t 72))
 a70:∀w,(isAgg (ρ.t 70)).run P w=.ok false w
 z70:∀w,(Go.sizeOf (ρ.t 70)).run P w=.ok 1 w
 v70:∀w,(zeroValue (ρ.t 70)).run P w=.ok (Value.pointer none) w
 t72:P.underlying (ρ.t 72)=some (TypeDesc.struct #[{name:= "addr",type:=ρ.t 70,offset:=0,embedded:=false,tag:= "",pkgPath:= "strings",byteOffset:=0},{name:= "buf",type:=ρ.t 37,offset:=1,embedded:=false,tag:= "",pkgPath:= "strings",byteOffset:=8}])
 a72:∀w,(isAgg (ρ.t 72)).run P w=.ok true w
 z72:∀w,(Go.sizeOf (ρ.t 72)).run P w=.ok 2 w
 v72:∀w,(zeroValue (ρ.t 72)).run P w=.ok (Value.agg #[Value.pointer none,Value.slice none 0 0]) w
set_option maxHeartbeats 2000000 in
set_option maxRecDepth 100000 in
theorem tD(C:CC P ρ)(b:Nat)(g:Option Nat)(l:Str)(w:World)(h:jx w (ρ.t 72) (ρ.t 5) b g l) :
  Calls P (ρ.f 240) #[.pointer (some ⟨b,0,none⟩)] w fun e w'=>e=.returned (.tuple #[])/\But w w' b g/\
   ∃v,v.ownBlock=g/\w'.heap[b]?=some (.cells #[.pointer (some ⟨b,0,none⟩),v] (ρ.t 72) (0,0))/\w'.ownsRowF 0 (ρ.t 5) 1 v l.length (Lib.byteCells l)/\g≠some b/\(l=[]->v=.slice none 0 0):=by
 obtain⟨p,v,h1,h2,h3,h4,h5,h6⟩:=h;rcases h2 with rfl|rfl
 ·refine(C.fresh b w (by rw[NJ h1];rfl) (by simp[World.shape?,h1]) (Lib.frozen_of_heap h1 0)).mono ?_;rintro e w' ⟨rfl,rfl⟩;have hA:Lib.BuilderAtF (ρ.t 72) (ρ.t 5) 0 b (.pointer none) (Lib.byteCells l) w:=⟨ME _,v,h1,by rwa [NQ],by rw[h3];exact h4⟩;obtain⟨_,v',k1,k2,k3⟩:=hA.used (.pointer (some ⟨b,0,none⟩))
  have hv:v'=v:=by
   have e1:(w.setCell ⟨b,0,none⟩ (.pointer (some ⟨b,0,none⟩))).cell? ⟨b,1,none⟩=some v':=by rw[NJ k1];rfl
   have e2:w.cell? ⟨b,1,none⟩=some v:=by rw[NJ h1];rfl
   have e3:(w.setCell ⟨b,0,none⟩ (.pointer (some ⟨b,0,none⟩))).cell? ⟨b,1,none⟩=w.cell? ⟨b,1,none⟩:=by simp[World.cell?,World.setCell,h1,Nw]
   rw[e3,e2]at e1;exact(N3 e1).symm
  subst hv;exact⟨rfl,(But.refl w b g).set 0 _,v',h3,k1,by rwa [NQ]at k2,h4,h6⟩
 ·refine(C.used b w (by rw[NJ h1];rfl)).mono ?_;rintro e w' ⟨rfl,rfl⟩;exact⟨rfl,But.refl _ _ _,v,h3,h1,h5,h4,h6⟩
theorem vK{w:World}(t u ty e:TypeId)(i:TypeInfo)(ht:P.underlying t=some (.slice e))(hu:P.underlying u=some .string)(hi:P.info? e=some i)(hz:i.zero=some (.int .u8 0))
 (hsize:i.size=1)(hby:i.bytes=1)(v:Value)(n:Nat)(xs:List Value)(hown:w.ownsRowF 0 e 1 v n xs)(s:ByteArray)
 (h63:n+s.size<=maxLen)(hbytes:n+s.size<=140737488355328){v':Value}{w':World}(hr:(Builtin.append_ #[t,u] ty #[v,.string s]).run P w=.ok v' w') :
  ∀k,v'.ownBlock=some k->v.ownBlock=some k∨w.heap.size<=k:=by
 intro k hk;rcases hown.2 with⟨rfl,rfl⟩|⟨g,cap,cur,fz,rfl,hbg,hg,hfz,hnc,hcm,hcs,htake⟩
 ·obtain⟨v2,w2,h1,h2,_,_⟩:=Lib.run_append_own_string (P:=P) w w.heap.size t u ty e i ht hu hi hz hsize hby (.slice none 0 0) 0 xs ⟨hown.1,.inl ⟨rfl,rfl⟩⟩ s h63 hbytes (Mx _);rw[hr]at h1;cases h1;exact .inr (h2.lt k hk).1
 ·have hsmall:n+s.size<=9223372036854775807:=by simp only[maxLen]at h63;omega
  by_cases hroom:n+s.size<=cap
  ·have hcs':cur.size=cap:=by simpa using hcs
   have h1:=Lib.run_append_room_stringF (P:=P) w t u ty e i ht hu hi hsize g n cap cur fz hg (by simpa using hfz) s hroom (by omega);rw[hr]at h1;cases h1;exact .inl hk
  ·have hxl:xs.length=n:=by simpa using hown.1
   have holds:∀j u,xs[j]?=some u->w.cell? ((⟨g,0,none⟩:Addr).add j)=some u:=hown.cells (g:=g) rfl;have h1:=Lib.run_append_grow_string (P:=P) w t u ty e i (.int .u8 0) ht hu hi hz ⟨g,0,none⟩ n cap xs (by rw[hsize];simpa using hxl) holds s (by omega) (by omega) (by rw[hby];exact Pe (by omega) (by omega));rw[hr]at h1;cases h1;cases hk;exact .inr (Mx _)
theorem nB{ops:Array Oper}{rest:List Oper}{o:Oper}{a:Act}{w:World}{Q:Exit->Act->World->Prop}(hgd:o.guard=none)(sl x:Operand)(t u:TypeId)
 (ho:o.op=.call {callee:=.builtin .append,args:=#[sl,x],argTypes:=#[t,u]})
 (e:TypeId)(i:TypeInfo)(ht:P.underlying t=some (.slice e))(hu:P.underlying u=some .string)(hi:P.info? e=some i)(hz:i.zero=some (.int .u8 0))
 (hsize:i.size=1)(hby:i.bytes=1)
 (v:Value)(n:Nat)(xs:List Value)(hs:a.eval sl=v)(hown:w.ownsRowF 0 e 1 v n xs)(s:ByteArray)(hx:a.eval x=.string s)
 (h63:n+s.size<=maxLen)(hbytes:n+s.size<=140737488355328)
 (h:∀v' w',w'.ownsRowF 0 e 1 v' (n+s.size) (xs++Lib.strCells s)->w.grownBy w' v.ownBlock->(v'=.slice none 0 0↔v=.slice none 0 0/\s.size=0)->(∀k,v'.ownBlock=some k->v.ownBlock=some k∨w.heap.size<=k)->wpList P ops Q rest (a.put o.dst v') w'):wpList P ops Q (o::rest) a w:=by
 refine wpList_plain hgd fun K hK=>?_;obtain⟨v',w',hr,h2,h3,h4⟩:=Lib.run_append_own_stringF (P:=P) w 0 t u o.type e i ht hu hi hz hsize hby v n xs hown s h63 hbytes (ME _);have hw:=vK t u o.type e i ht hu hi hz hsize hby v n xs hown s h63 hbytes hr;unfold Oper.wp execOp;simp only[ho,resolve,invoke,builtin,MG,MY,Mw,List.map_toArray,MT,O8,hs,hx,hr];exact hK _ _ (h v' w' h2 h3 h4 hw)
set_option maxHeartbeats 2000000 in
set_option maxRecDepth 100000 in
theorem pU(L:WL P ρ)(C:CC P ρ)(X:Builder.Extra P ρ)(b:Nat)(g:Option Nat)(l s:Str)(w:World)(h:jx w (ρ.t 72) (ρ.t 5) b g l)(hlen:l.length+s.length<=140737488355328) :
  Calls P (ρ.f 166) #[.pointer (some ⟨b,0,none⟩),.string ⟨s.toArray⟩] w fun e w'=>e=.returned (.tuple #[.int .i64 s.length,.nilIface])/\But w w' b g/\
   ∃g',jx w' (ρ.t 72) (ρ.t 5) b g' (l++s)/\∀k,g'=some k->g=some k∨w.heap.size<=k:=by
 obtain⟨i0,hi,hz0,hz1,hz2⟩:=info_parts X.infoByte;have mixed:=L.mixed;have t72:=L.t72;have a72:=L.a72;have z72:=L.z72;have v72:=L.v72;have u72:=MR L.t72;have t70:=L.t70;have a70:=L.a70;have z70:=L.z70;have v70:=L.v70;have u70:=MR L.t70;have t37:=L.t37;have a37:=L.a37;have z37:=L.z37;have v37:=L.v37;have u37:=MR L.t37;have t3:=L.t3;have a3:=L.a3;have z3:=L.z3;have v3:=L.v3;have u3:=MR L.t3;have t9:=L.t9;have a9:=L.a9;have z9:=L.z9;have v9:=L.v9;have u9:=MR L.t9;have t5:=X.t5;have a5:=X.a5;have z5:=X.z5;have v5:=X.v5;have u5:=MR X.t5;have e240:=C.enters;have hss:(⟨s.toArray⟩:ByteArray).size=s.length:=by simp[ByteArray.size]
 rw[<-hss];rw[<-hss]at hlen
 go_enter L.f166,Body.n166_ntmps ρ
 go_wp2_with (go_at_fn (ρ.f 240);refine(tD C b g l _ h).mono ?_)
 rintro e w1 ⟨rfl,hb1,v,hvg,hbk,hown,hne,hem⟩;have c0:w1.cell? ⟨b,0,none⟩=some (.pointer (some ⟨b,0,none⟩)):=by rw[NJ hbk];rfl
 have c1:w1.cell? ⟨b,1,none⟩=some v:=by rw[NJ hbk];rfl
 go_wp2_with (at_builtin;refine nB rfl _ _ (ρ.t 37) (ρ.t 9) rfl (ρ.t 5) i0 L.t37 L.t9 hi hz0 hz1 hz2 _ _ _ rfl hown ⟨s.toArray⟩ rfl ?c3 ?c4 ?_)
 case c3=>unfold maxLen;omega
 case c4=>omega
 intro v' w2 hown' hgrow hnil hwh;have hlt:b<w1.heap.size:=(NO.1 hbk).1;have hb2:w2.heap[b]?=some (.cells #[.pointer (some ⟨b,0,none⟩),v] (ρ.t 72) (0,0)):=by rw[hgrow.block b hlt (fun e=>hne (hvg ▸ e.symm))];exact hbk
 have d0:w2.cell? ⟨b,0,none⟩=some (.pointer (some ⟨b,0,none⟩)):=by rw[NJ hb2];rfl
 have d1:w2.cell? ⟨b,1,none⟩=some v:=by rw[NJ hb2];rfl
 have f1:w2.frozen? ⟨b,1,none⟩=false:=Lib.frozen_of_heap hb2 1
 obtain⟨ao,n',cap,rfl⟩:∃ao n' cap,v'=.slice ao n' cap:=by
  rcases hown'.2 with⟨hv,_⟩|⟨g,cap,cur,fz,hv,_⟩
  ·exact⟨_,_,_,hv⟩
  ·exact⟨_,_,_,hv⟩
 go_wp2
 go_ret2
 have hcat:Lib.byteCells l++Lib.strCells ⟨s.toArray⟩=Lib.byteCells (l++s):=by rw[tC];simp[Lib.byteCells]
 have hA:Lib.BuilderAtF (ρ.t 72) (ρ.t 5) 0 b (.pointer (some ⟨b,0,none⟩)) (Lib.byteCells (l++s)) (w2.setCell ⟨b,1,none⟩ (.slice ao n' cap)):=
  Lib.BuilderAtF.put (T:=(ρ.t 72)) (e:=(ρ.t 5)) (ME _) hb2 (bs':=Lib.byteCells (l++s)) (by rw[<-hcat,Mq,NQ,Lib.strCells_length];exact hown') X.neB5
 refine⟨rfl,(hb1.grown (hvg ▸ hgrow)).set 1 _,?_⟩;obtain⟨_,v2,k1,k2,k3⟩:=hA
 have hv2:v2=.slice ao n' cap:=by
  have e1:(w2.setCell ⟨b,1,none⟩ (.slice ao n' cap)).cell? ⟨b,1,none⟩=some v2:=by rw[NJ k1];rfl
  have e3:(w2.setCell ⟨b,1,none⟩ (.slice ao n' cap)).cell? ⟨b,1,none⟩=some (.slice ao n' cap):=by simp[World.cell?,World.setCell,hb2,Nw]
  rw[e3]at e1;exact(N3 e1).symm
 subst hv2;refine⟨_,⟨_,_,k1,.inr rfl,rfl,k3,by rwa [NQ]at k2,fun e=>hnil.2 ⟨hem (List.append_eq_nil_iff.1 e).1,by rw[(List.append_eq_nil_iff.1 e).2]⟩⟩,fun k hk=>?_⟩;rcases hwh k hk with h'|h'
 ·exact .inl (hvg ▸ h')
 ·exact .inr (NA hb1.size h')
set_option maxHeartbeats 2000000 in
set_option maxRecDepth 100000 in
theorem Ag(L:Lays.n169 P ρ)(X:Builder.Extra P ρ)(b:Nat)(g:Option Nat)(l:Str)(w:World)(h:jx w (ρ.t 72) (ρ.t 5) b g l) :
  Calls P (ρ.f 169) #[.pointer (some ⟨b,0,none⟩)] w fun e w'=>e=.returned (.string ⟨l.toArray⟩)/\But w w' b g/\jx w' (ρ.t 72) (ρ.t 5) b g l:=by
 obtain⟨p,v,hbk,hp,hvg,hne,hown,hem⟩:=h;by_cases h0:l=[]
 ·obtain rfl:=hem h0;subst h0;refine(Any.Builder_String_nil L X w.heap.size b p w hbk).mono ?_;rintro e w' ⟨rfl,hb⟩;have hlt:b<w.heap.size:=(NO.1 hbk).1;exact⟨rfl,⟨hb.os,hb.tape,hb.output,hb.size,fun k hk _ _=>hb.block k hk⟩,p,_,(hb.block b hlt).trans hbk,hp,hvg,hne,World.ownsRowF_nil _ _ _ _,fun _=>rfl⟩
 have hl0:l.length≠0:=by simpa using h0
 obtain⟨g',cap,cur,fz,rfl,hbg,hg,hfz,hnc,hcm,hcs,htake⟩:∃g cap cur fz,v=.slice (some ⟨g,0,none⟩) l.length cap/\0<=g/\w.heap[g]?=some (.cells cur (ρ.t 5) fz)/\fz.2<=l.length *1/\l.length<=cap/\cap<=maxLen/\cur.size=cap *1/\cur.toList.take (l.length *1)=Lib.byteCells l:=by
  rcases hown.2 with⟨_,hz⟩|⟨g,cap,cur,fz,hv,r⟩
  ·exact absurd hz hl0
  ·exact⟨g,cap,cur,fz,hv,r⟩
 obtain rfl:some g'=g:=hvg;have c1:w.drew.cell? ⟨b,1,none⟩=some (.slice (some ⟨g',0,none⟩) l.length cap):=by have:w.drew.heap[b]?=some (.cells #[p,.slice (some ⟨g',0,none⟩) l.length cap] (ρ.t 72) (0,0)):=hbk;rw[NJ this];rfl
 have hSD:(Builtin.unsafeSliceData_ #[(ρ.t 37)] (ρ.t 127) #[.slice (some ⟨g',0,none⟩) l.length cap]).run P w.drew=.ok (.pointer (some ⟨g',0,none⟩)) w.drew:=
  Lib.run_unsafeSliceData_row _ _ _ _ _ _ (by omega)
 have hUS:(Builtin.unsafeString_ #[(ρ.t 127),(ρ.t 3)] (ρ.t 9) #[.pointer (some ⟨g',0,none⟩),.int .i64 l.length]).run P w.drew=.ok (.string ⟨l.toArray⟩) (w.drew.freeze ⟨g',0,none⟩ l.length):=by refine Lib.run_unsafeString_row w.drew (ρ.t 127) (ρ.t 3) (ρ.t 9) (ρ.t 5) L.t127 X.cellsByte g' cur.size (by have hg':w.drew.heap[g']?=some (.cells cur (ρ.t 5) fz):=hg;simp[World.shape?,hg']) l h0 (by omega) (by unfold maxLen at hcm;omega) ?_;intro j x hx;have:=hown.cells (g:=g') rfl j (.int .u8 x.toNat) (by simp[Lib.byteCells,hx]);exact this
 have hA:Lib.BuilderAtF (ρ.t 72) (ρ.t 5) 0 b p (Lib.byteCells l) w.drew:=⟨ME _,_,hbk,by rw[NQ];exact hown,hne⟩;have hF:=hA.froze (g:=g') (cap:=cap) (by rw[NQ];exact c1);rw[NQ]at hF;have hbut:But w (w.drew.freeze ⟨g',0,none⟩ l.length) b (some g'):=(But.refl w b (some g')).drew.freeze _
 have hkeep:jx (w.drew.freeze ⟨g',0,none⟩ l.length) (ρ.t 72) (ρ.t 5) b (some g') l:=by
  obtain⟨_,v2,k1,k2,k3⟩:=hF;have hbg':b≠g':=fun e=>hne (by rw[e])
  have hv2:v2=.slice (some ⟨g',0,none⟩) l.length cap:=by
   have e1:(w.drew.freeze ⟨g',0,none⟩ l.length).cell? ⟨b,1,none⟩=some v2:=by rw[NJ k1];rfl
   have e2:(w.drew.freeze ⟨g',0,none⟩ l.length).heap[b]?=w.drew.heap[b]?:=by
    unfold World.freeze;split
    ·rfl
    ·simp only[Nw];rw[Mp (fun e=>hbg' e.symm)]
   rw[aj e2,c1]at e1;exact(N3 e1).symm
  subst hv2;exact⟨p,_,k1,hp,rfl,hne,by rwa [NQ]at k2,fun e=>absurd e h0⟩
 have mixed:=L.mixed;have t72:=L.t72;have a72:=L.a72;have z72:=L.z72;have v72:=L.v72;have u72:=MR L.t72;have t70:=L.t70;have a70:=L.a70;have z70:=L.z70;have v70:=L.v70;have u70:=MR L.t70;have t37:=L.t37;have a37:=L.a37;have z37:=L.z37;have v37:=L.v37;have u37:=MR L.t37;have t127:=L.t127;have a127:=L.a127;have z127:=L.z127;have v127:=L.v127;have u127:=MR L.t127;have t3:=L.t3;have a3:=L.a3;have z3:=L.z3;have v3:=L.v3;have u3:=MR L.t3;have t9:=L.t9;have a9:=L.a9;have z9:=L.z9;have v9:=L.v9;have u9:=MR L.t9;have t5:=X.t5;have a5:=X.a5;have z5:=X.z5;have v5:=X.v5;have u5:=MR X.t5
 go_enter L.f169,Body.n169_ntmps ρ
 go_wp2
 go_region_o
 all_goals (go_wp2;go_ret;exact⟨rfl,hbut,hkeep⟩)
theorem After.bld{w w':World}{pub:Nat->Nat->Prop}{e:Nat->Option CObj}{S:List (Nat×SObj)}
 (hp:kD w pub)(hs:∀id o,ak S id=some o->bk ⟨e,w,pub⟩ (fun _ _=>True) id o)(hd:∀id,ak S id=none->e id=none)(hi:Inj e)
 {k b:Nat}{g g':Option Nat}{t u t' u':Nat}{l l':Str}(hk:ak S k=some (.bld t u l))(he:e k=some (.bld b g))(hb:But w w' b g)(hB:jx w' t' u' b g' l')(hg:∀x,g'=some x->g=some x∨w.heap.size<=x) :
  After w pub e (ak (ca S [(k,.bld t' u' l')])) w' (fun b o=>pub b o∨False) (fun i=>if k=i then some (.bld b g')else e i):=by
 obtain⟨b0,g0,he0,hown,_⟩:=hs k _ hk;have he0:e k=some (.bld b0 g0):=he0;rw[he]at he0;cases he0;have off:∀{b' o},¬rY e k b' o->b'≠b/\g≠some b':=fun h=>⟨fun hb=>h ⟨_,he,.inl hb⟩,fun hg=>h ⟨_,he,.inr hg⟩⟩
 have hnew:∀b' o,occ (.bld b g') b' o->w.heap.size<=b'∨rY e k b' o:=by
  intro b' o ho;rcases ho with ho|ho
  ·exact .inr ⟨_,he,.inl ho⟩
  ·rcases hg b' ho with h|h
   ·exact .inr ⟨_,he,.inr h⟩
   ·exact .inl h
 refine After.slot hp hs hd hi (Q:=fun _ _=>False) hb.os hb.tape hb.output hb.size (fun b' h1 h2=>hb.block b' h1 (off (h2 0)).1 (off (h2 0)).2)
  (fun b' o h1 h2=>aj (hb.block b' h1 (off h2).1 (off h2).2) o) (fun b' h1 h2=>?_) (fun b' o h=>?_) (fun _ _ h=>h.elim) (fun c0 h=>?_) hnew (fun _=>?_)
 ·obtain⟨o,ho⟩:=Classical.not_forall.1 h2;have:=hb.block b' h1 (off ho).1 (off ho).2;exact⟨ba this,fun o=>aM this o⟩
 ·obtain⟨v,hv⟩:=hp b' o h;refine aj (hb.block b' (aT hv) (fun e=>?_) (fun e=>?_)) o
  ·exact(hown b' (.inl e) o).2 h
  ·exact(hown b' (.inr e) o).2 h
 ·rw[he]at h;cases h;exact rfl
 ·refine⟨b,g',by simp,fun b' hb' o=>⟨?_,fun h=>?_⟩,hB⟩
  ·rcases hnew b' o hb' with h|⟨c,h1,h2⟩
   ·exact .inl h
   ·exact .inr ⟨k,c,h1,h2⟩
  ·rcases h with h|h
   ·have h:pub b' o:=h;rcases hnew b' o hb' with h2|⟨c,h1,h2⟩
    ·obtain⟨v,hv⟩:=hp b' o h;have:=aT hv;omega
    ·rw[he]at h1;cases h1;exact(hown b' h2 o).2 h
   ·exact h
theorem V.bptr_inv{Ω:Om}{id:Nat}{v:Value}(h:V Ω (.bptr id) v):∃b g,Ω.e id=some (.bld b g)/\v=.pointer (some ⟨b,0,none⟩):=by
 cases h with|bptr _ b g he=>exact⟨b,g,he,rfl⟩
theorem nC(L:WL P ρ)(C:CC P ρ)(X:Builder.Extra P ρ)(l s:Str)(hlen:l.length+s.length<=140737488355328) :
  aw P (ρ.f 166) [.bptr 900,.str s] [(900,.bld (ρ.t 72) (ρ.t 5) l)] ⟨some (l.length+s.length<=140737488355328),none,.tup [.int .i64 s.length,.nilif],[(900,.bld (ρ.t 72) (ρ.t 5) (l++s))]⟩:=by
 intro w pub e vs hp ht hv hs hd hi;obtain⟨v1,v2,rfl,h1,h2⟩:=VL.two_inv hv;obtain⟨b,g,he,rfl⟩:=h1.bptr_inv;have he:e 900=some (.bld b g):=he;obtain⟨rfl,hsl⟩:v2=.string ⟨s.toArray⟩/\s.length<=b9:=by cases h2 with|str _ h=>exact⟨rfl,h⟩
 obtain⟨b0,g0,he0,hown,hB⟩:=hs 900 _ rfl;have he0:e 900=some (.bld b0 g0):=he0;rw[he]at he0;cases he0;refine(pU L C X b g l s w hB hlen).mono ?_;rintro en w' ⟨rfl,hb,g',hB',hg'⟩;refine⟨_,_,fun _ _ _ h=>(by cases h),?_,After.bld hp hs hd hi rfl he hb hB' hg'⟩;refine .tup _ [_,_] rfl fun j c v hc hv=>?_
 match j,hc,hv with
 |0,hc,hv=>simp at hc hv;subst hc hv;obtain⟨b1,b2⟩:=il (n:=s.length) hsl;exact .int .i64 _ b1 b2
 |1,hc,hv=>simp at hc hv;subst hc hv;exact .nilif
 |j+2,hc,hv=>simp at hc
theorem vL(L:Lays.n169 P ρ)(X:Builder.Extra P ρ)(l:Str)(hl:l.length<=b9) :
  aw P (ρ.f 169) [.bptr 900] [(900,.bld (ρ.t 72) (ρ.t 5) l)] ⟨some (l.length<=b9),none,.str l,[(900,.bld (ρ.t 72) (ρ.t 5) l)]⟩:=by
 intro w pub e vs hp ht hv hs hd hi;obtain⟨v1,rfl,h1⟩:=VL.one_inv hv;obtain⟨b,g,he,rfl⟩:=h1.bptr_inv;have he:e 900=some (.bld b g):=he;obtain⟨b0,g0,he0,hown,hB⟩:=hs 900 _ rfl;have he0:e 900=some (.bld b0 g0):=he0;rw[he]at he0;cases he0;refine(Ag L X b g l w hB).mono ?_;rintro en w' ⟨rfl,hb,hB'⟩;exact⟨_,_,fun _ _ _ h=>(by cases h),.str l hl,After.bld hp hs hd hi rfl he hb hB' (fun x h=>.inl h)⟩
def rZ(t u:Nat):Pat:=fun args S=>
 match args,S with
 |[.bptr 900,.str s],[(900,.bld t' u' l)]=>if t'=t/\u'=u then some ⟨some (l.length+s.length<=140737488355328),none,.tup [.int .i64 s.length,.nilif],[(900,.bld t u (l++s))]⟩else none
 |_,_=>none
def oI(t u:Nat):Pat:=fun args S=>
 match args,S with
 |[.bptr 900],[(900,.bld t' u' l)]=>if t'=t/\u'=u then some ⟨some (l.length<=b9),none,.str l,[(900,.bld t u l)]⟩else none
 |_,_=>none
theorem xn{f t u:Nat}(L:WL P ρ)(C:CC P ρ)(X:Builder.Extra P ρ)(hf:ρ.f 166=f)(ht:ρ.t 72=t)(hu:ρ.t 5=u)(he:au P f):ag P f (rZ t u):=by
 subst hf ht hu;intro args S A h hob hkeys;unfold rZ at h;split at h
 ·split at h
  ·rename_i e;obtain⟨rfl,rfl⟩:=e;cases h;exact⟨he,nC L C X _ _ (hob _ rfl)⟩
  ·cases h
 ·cases h
theorem vM{f t u:Nat}(L:Lays.n169 P ρ)(X:Builder.Extra P ρ)(hf:ρ.f 169=f)(ht:ρ.t 72=t)(hu:ρ.t 5=u)(he:au P f):ag P f (oI t u):=by
 subst hf ht hu;intro args S A h hob hkeys;unfold oI at h;split at h
 ·split at h
  ·rename_i e;obtain⟨rfl,rfl⟩:=e;cases h;exact⟨he,vL L X _ (hob _ rfl)⟩
  ·cases h
 ·cases h
end Go.AL
end
noncomputable section
namespace Go.AL
variable [Tabs]
open Go.Proofs Go.RowKit Go.Maps Go.Sort Go.Shelf
variable {P:Program} {ρ:Ren}
def eR{α:Type}(F:Fence)(n:Nat)(P:Program)(g:Nat)(lb:Array Value)(enc:α->Value)(S:List α->Prop)(N:Nat)(w:World):Prop:=
 ∀(l:Nat)(J:List α->World->Prop)(W:World),Below w.heap.size w W->AbidesFrom W.heap.size J->(∀pre W1,J pre W1->Below w.heap.size w W1)->
  (∀pre x W1,J pre W1->pre.length<N->YieldAt F (n-1) P l #[enc x] W1 fun e W'=>e=.returned (.bool true)/\J (pre++[x]) W'/\KeepsWalks W1 W')->
  J [] W->
  CallsIn F n P g (#[.func (.yield l) #[] #[]]++lb) W fun e W'=>(∃v,e=.returned v)/\∃xs,S xs/\J xs W'
theorem eR.bounded{α:Type}{F:Fence}{n:Nat}{g:Nat}{lb:Array Value}{enc:α->Value}{S:List α->Prop}{N:Nat}{w:World}
 (h:eR F n P g lb enc S N w):eR F n P g lb enc (fun xs=>S xs/\xs.length<=N) N w:=fun l J W hW hJ hB hY h0=>by
 refine(h l (fun xs W'=>J xs W'/\xs.length<=N) W hW (fun s A B row hs hg hr=>⟨hJ s A B row hs.1 hg hr,hs.2⟩) (fun pre W1 h=>hB pre W1 h.1)
  (fun pre x W1 hj hl=>(hY pre x W1 hj.1 hl).mono (fun e w' hr=>⟨hr.1,⟨hr.2.1,by simp;omega⟩,hr.2.2⟩)) ⟨h0,ME _⟩).mono ?_
 rintro e W' ⟨hv,xs,hS,hJ',hlen⟩;exact⟨hv,xs,⟨hS,hlen⟩,hJ'⟩
set_option maxRecDepth 100000 in
set_option maxHeartbeats 2000000 in
theorem Ah(L:SlLaysZ.n11 P ρ)(F:Fence)(n:Nat)(h11:F.fn (ρ.f 11))(hro:F.round=none)(hn:2<=n)(g:Nat)(lb:Array Value)(hFg:F.fn g)(eg:∀args w,(callFunc g args).run P w=.ok (.enter g args) w)
 (S:List (List UInt8)->Prop)(N:Nat)(hN:N<=maxLen)(hNb:N *16<=140737488355328)(w:World)(hseq:eR F (n-1) P g lb encStr S N w) :
  CallsIn F n P (ρ.f 11) #[.slice none 0 0,.func (.func g) #[] lb] w fun e w'=>∃(v:Value)(ss:List (List UInt8)),e=.returned v/\S ss/\w'.ownsRow w.heap.size (ρ.t 26) 1 v ss.length (ss.map encStr)/\(v=.slice none 0 0↔ss=[])/\Below w.heap.size w w':=by
 have h1:1<=n:=by omega
 have mixed:=L.mixed;have t0:=L.t0;have a0:=L.a0;have z0:=L.z0;have v0:=L.v0;have t24:=L.t24;have a24:=L.a24;have z24:=L.z24;have v24:=L.v24;have t26:=L.t26;have a26:=L.a26;have z26:=L.z26;have v26:=L.v26;have t28:=L.t28;have a28:=L.a28;have z28:=L.z28;have v28:=L.v28;have hne:ρ.t 24≠ρ.t 26:=fun e=>by have h:=L.t24;rw[e,L.t26]at h;cases h
 have u0:=MR L.t0;have u24:=MR L.t24;have u26:=MR L.t26;have u28:=MR L.t28;obtain⟨_,_,FG⟩:=L.f11;refine callsIn_of_wp_marks FG rfl h11 ?_ hro;simp only[SlBodyZ.n11_ntmps ρ,On,ML,N9,Nat.reduceAdd,Nat.reduceSub,Ov,Ow,OO,OA,Nc,Ng]
 gi_wp2
 refine wpIn_rangeFunc ?_;intro fn hfn;rw[hro];obtain⟨W0,hW0⟩:∃W0,w.alloc (.cells #[.slice none 0 0] (ρ.t 24))=W0:=⟨_,rfl⟩;have hs0:W0.heap.size=w.heap.size+1:=by rw[<-hW0];simp
 have hv0:W0.heap[w.heap.size]?=some (.cells #[.slice none 0 0] (ρ.t 24) (0,0)):=by rw[<-hW0];exact World.alloc_heap_new w _
 have hb0:Below w.heap.size w W0:=by rw[<-hW0];exact(Below.refl _ w).alloc (Mx _) _
 rw[hW0];obtain⟨W1,hW1⟩:∃W1,(W0.alloc (.deferred (some []))).alloc (.loop (AnyZ.apRec ρ fn (.func (.func g) #[] lb) w.heap.size W0.heap.size .ready none))=W1:=⟨_,rfl⟩;have hold:∀k,k<W0.heap.size->W1.heap[k]?=W0.heap[k]?:=fun k hk=>by rw[<-hW1];exact(Below.heap_alloc _ _ k (by simp;omega)).trans (Below.heap_alloc _ _ k hk)
 have hb1:Below w.heap.size w W1:=by rw[<-hW1];exact(hb0.alloc hb0.size _).alloc (by have:=hb0.size;simp;omega) _
 have hs1:W1.heap.size=W0.heap.size+2:=by rw[<-hW1];simp
 have hM:AnyZ.ApAt ρ w fn (.func (.func g) #[] lb) w.heap.size (W0.heap.size+1) W0.heap.size [] W1:=
  ⟨⟨_,(hold w.heap.size (by omega)).trans hv0,⟨rfl,.inl ⟨rfl,rfl⟩⟩,by simp⟩,
   by rw[<-hW1];have:=World.alloc_heap_new (W0.alloc (.deferred (some []))) (.loop (AnyZ.apRec ρ fn (.func (.func g) #[] lb) w.heap.size W0.heap.size .ready none));rwa [World.size_alloc]at this,
   by rw[<-hW1];exact(Below.heap_alloc _ _ _ (by simp)).trans (World.alloc_heap_new W0 _),hb1⟩
 refine⟨W0.heap.size+1,[{target:=.collected W0.heap.size,args:=#[]}],W1,{target:=.fn (.func g) lb,args:=#[.func (.yield (W0.heap.size+1)) #[] #[]]},W1,g,
  #[.func (.yield (W0.heap.size+1)) #[] #[]]++lb,W1,?_,?_,?_,?_,fun _=>h1,?_⟩
 ·rw[<-hW1];exact run_enterLoop_outer _ _ _ _ _
 ·simp[resolve,go_sem]
 ·intro f' hf';simp[Target.leads]at hf';subst hf';exact hFg
 ·simp[invoke,go_sem,eg]
 ·refine(hseq (W0.heap.size+1) (AnyZ.ApAt ρ w fn (.func (.func g) #[] lb) w.heap.size (W0.heap.size+1) W0.heap.size) W1 hb1 (AnyZ.ap_abides ρ _ _ _ _ _ _ _ hb1.size) (fun _ _ h=>h.below)
   (fun pre x W hJ hl=>AnyZ.apYield {L with} F (n-1-1) w fn hfn _ w.heap.size (W0.heap.size+1) W0.heap.size (by omega) (by omega) (by omega) (Mx _) (by omega) N hN hNb pre x W hJ hl) hM).mono ?_
  rintro e W2 ⟨⟨v0,rfl⟩,ss,hS,h2⟩;obtain⟨v,hv,hrow,hnil⟩:=h2.box;have hend:=run_endLoop (P:=P) h2.L (by simp[AnyZ.apRec]);obtain⟨W3,hW3⟩:∃W3,W2.putObj (W0.heap.size+1) (.loop {AnyZ.apRec ρ fn (.func (.func g) #[] lb) w.heap.size W0.heap.size .ready none with state:=.exhausted})=W3:=⟨_,rfl⟩;rw[hW3]at hend;have hg3:W2.grownBy W3 (some (W0.heap.size+1)):=by rw[<-hW3];exact grownBy_putObj_a _ _ _
  have hv3:W3.heap[w.heap.size]?=some (.cells #[v] (ρ.t 24) (0,0)):=by rw[<-hW3];exact(World.putObj_heap_other (by omega)).trans hv
  have hK3:W3.heap[W0.heap.size]?=some (.deferred (some [])):=by rw[<-hW3];exact(World.putObj_heap_other (by omega)).trans h2.K
  have hrow3:=hrow.kept hg3 (ownsRow_ne_a hrow h2.L (fun cur e=>by first|cases e|exact hne (Obj.cells.inj e).2.1));have hb3:Below w.heap.size w W3:=h2.below.grown hg3 h2.below.size (fun k e=>by cases e;omega);obtain⟨hc3,hf3⟩:=cell_of_box_a hv3;clear hW3;refine⟨none,W3,hend,?_⟩
  gi_wp2
  rw[<-hs0];refine⟨by simp,.inl ⟨_,_,rfl,run_takeDeferred hK3,?_⟩⟩;exact⟨_,results_tmp rfl _ _ _,v,ss,rfl,hS,hrow3.kept (grownBy_putObj_a _ _ _) (ownsRow_ne_a hrow3 hK3 (fun cur e=>by first|cases e|exact hne (Obj.cells.inj e).2.1)),hnil,hb3.grown (grownBy_putObj_a _ _ _) hb3.size (fun k e=>by cases e;omega)⟩
set_option maxRecDepth 100000 in
set_option maxHeartbeats 2000000 in
theorem Gq(L:SlLaysZ.n8 P ρ)(F:Fence)(n:Nat)(h8:F.fn (ρ.f 8))(h11:F.fn (ρ.f 11))(hro:F.round=none)(hn:3<=n)(g:Nat)(lb:Array Value)(hFg:F.fn g)(eg:∀args w,(callFunc g args).run P w=.ok (.enter g args) w)
 (S:List (List UInt8)->Prop)(N:Nat)(hN:N<=maxLen)(hNb:N *16<=140737488355328)(w:World)(hseq:eR F (n-1-1) P g lb encStr S N w) :
  CallsIn F n P (ρ.f 8) #[.func (.func g) #[] lb] w fun e w'=>∃(v:Value)(ss:List (List UInt8)),e=.returned v/\S ss/\w'.ownsRow w.heap.size (ρ.t 26) 1 v ss.length (ss.map encStr)/\(v=.slice none 0 0↔ss=[])/\Below w.heap.size w w':=by
 have h1:1<=n:=by omega
 have e11:∀args w,(callFunc (ρ.f 11) args).run P w=.ok (.enter (ρ.f 11) args) w:=L.f11.enters rfl;have mixed:=L.mixed;have t0:=L.t0;have a0:=L.a0;have z0:=L.z0;have v0:=L.v0;have t24:=L.t24;have a24:=L.a24;have z24:=L.z24;have v24:=L.v24;have t26:=L.t26;have a26:=L.a26;have z26:=L.z26;have v26:=L.v26;have t28:=L.t28;have a28:=L.a28;have z28:=L.z28;have v28:=L.v28;have u0:=MR L.t0;have u24:=MR L.t24;have u26:=MR L.t26;have u28:=MR L.t28;obtain⟨_,_,FG⟩:=L.f8;refine callsIn_of_wp FG rfl h8 ?_ hro;simp only[SlBodyZ.n8_ntmps ρ,On,ML,N9,Nat.reduceAdd,Nat.reduceSub,Ov,Ow,OO,OA,Nc,Ng]
 gi_wp2_with (gi_at_fn (ρ.f 11);refine(Ah {L with} F (n-1) h11 hro (by omega) g lb hFg eg S N hN hNb _ hseq).mono ?_;rintro e w' ⟨v,ss,rfl,hS,hrow,hnil,hb⟩)
 go_ret
 exact⟨v,ss,rfl,hS,hrow,hnil,hb⟩
set_option maxRecDepth 100000 in
set_option maxHeartbeats 2000000 in
theorem IY(L:SlLaysZ.n6 P ρ)(F:Fence)(n:Nat)(h6:F.fn (ρ.f 6))(h8:F.fn (ρ.f 8))(h9:F.fn (ρ.f 9))(h11:F.fn (ρ.f 11))(hro:F.round=none)(hn:4<=n)(hsort:AnyZ.SortsIn P ρ F (n-1))(e9:∀args w,(callFunc (ρ.f 9) args).run P w=.ok (.enter (ρ.f 9) args) w)(g:Nat)(lb:Array Value)(hFg:F.fn g)(eg:∀args w,(callFunc g args).run P w=.ok (.enter g args) w)
 (S:List (List UInt8)->Prop)(N:Nat)(hN:N<=maxLen)(hNb:N *16<=140737488355328)(w:World)(hseq:eR F (n-1-1-1) P g lb encStr S N w) :
  CallsIn F n P (ρ.f 6) #[.func (.func g) #[] lb] w fun e w'=>∃(v:Value)(ss:List (List UInt8)),e=.returned v/\S ss/\
   w'.ownsRow w.heap.size (ρ.t 26) 1 v ss.length ((ss.mergeSort (fun x y=>decide (x<=y))).map encStr)/\(v=.slice none 0 0↔ss=[])/\Below w.heap.size w w':=by
 have h1:1<=n:=by omega
 have e8:∀args w,(callFunc (ρ.f 8) args).run P w=.ok (.enter (ρ.f 8) args) w:=L.f8.enters rfl;have mixed:=L.mixed;have t0:=L.t0;have a0:=L.a0;have z0:=L.z0;have v0:=L.v0;have t24:=L.t24;have a24:=L.a24;have z24:=L.z24;have v24:=L.v24;have t26:=L.t26;have a26:=L.a26;have z26:=L.z26;have v26:=L.v26;have t28:=L.t28;have a28:=L.a28;have z28:=L.z28;have v28:=L.v28;have u0:=MR L.t0;have u24:=MR L.t24;have u26:=MR L.t26;have u28:=MR L.t28;obtain⟨_,_,FG⟩:=L.f6;refine callsIn_of_wp FG rfl h6 ?_ hro;simp only[SlBodyZ.n6_ntmps ρ,On,ML,N9,Nat.reduceAdd,Nat.reduceSub,Ov,Ow,OO,OA,Nc,Ng]
 gi_wp2_with (gi_at_fn (ρ.f 8);refine(Gq {L with} F (n-1) h8 h11 hro (by omega) g lb hFg eg _ N hN hNb _ (eR.bounded hseq)).mono ?_;rintro e W ⟨v,ss,rfl,⟨hS,hlen⟩,hrow,hnil,hb⟩)
 rcases hrow.2 with⟨rfl,hz⟩|⟨gb,cap,cur,rfl,hbase,hgb,r1,r2,r3,r4⟩
 ·
  have hss:ss=[]:=My hz;subst hss
  gi_wp2_with (gi_at_fn (ρ.f 9);refine(hsort.2 none 0 W).mono ?_;rintro e w' ⟨rfl,rfl⟩)
  go_ret
  exact⟨.slice none 0 0,[],rfl,hS,by simpa using hrow,by simp,hb⟩
 ·have hH:Go.Sort.Holds encStr W gb 0 ss.toArray:=holds_of_block hgb (by simpa using r4);have hgl:gb<W.heap.size:=(NO.1 hgb).1;have hsz:ss.length<4611686018427387904:=by omega
  have cS:=hsort.1 gb 0 cap ss W hH hgl hsz
  gi_wp2_with (gi_at_fn (ρ.f 9);refine cS.mono ?_;rintro e w' ⟨rfl,nn,os,rfl⟩)
  go_ret
  exact⟨_,ss,rfl,hS,ownsRow_sorted (by simp) hbase hgb r1 r2 r3,hnil,hb.grown (grownBy_sorted _) hb.size (fun j hj=>by cases hj;exact hbase)⟩
theorem E4{f:Nat}{args:List AV}{S:List (Nat×SObj)}{ob:Option Prop}{T:TypeId}{ss:List Str}(hk:ak S 0=none)
 (hC:∀w pub e vs,kD w pub->VL ⟨e,w,pub⟩ args vs->(∀id o,ak S id=some o->bk ⟨e,w,pub⟩ (fun _ _=>True) id o)->
   (∀s∈ss,s.length<=b9)/\Calls P f vs.toArray w fun en w'=>∃v,en=.returned v/\w'.ownsRow w.heap.size T 1 v ss.length (ss.map encStr)/\Below w.heap.size w w') :
  aw P f args S ⟨ob,none,.arr 0 ss.length 1,[(0,.box (.row .str ss))]⟩:=by
 intro w pub e vs hp ht hv hs hd hi;obtain⟨hlen,hC⟩:=hC w pub e vs hp hv hs;refine hC.mono ?_;rintro en w' ⟨v,rfl,⟨hl,hrow⟩,hb⟩;have hpl:(ae (.row .str ss)).length=ss.length:=by have:=aV .str ss;rw[show ab .str=1 from rfl,PE]at this;exact this
 rcases hrow with⟨rfl,hz⟩|⟨g,cap,cur,rfl,hbase,hg,h1,h2,h3,h4⟩
 ·have hss:ss=[]:=My hz;subst hss;refine⟨_,_,fun _ _ _ h=>(by cases h),?_,After.fresh1 (c:=.box w.heap.size 0 0) hp hs hd hi hb hk (fun b o ho=>by obtain⟨_,_,h⟩:=ho;omega) ⟨w.heap.size,0,by simp;rfl,fun j c' hc=>?_⟩⟩
  ·exact .arr 0 0 1 w.heap.size 0 0 none (by simp) (by omega) (by omega) (by unfold b9;omega) (.inr ⟨rfl,rfl,rfl⟩)
  ·simp[ae,flat]at hc
 ·refine⟨_,_,fun _ _ _ h=>(by cases h),?_,After.fresh1 (c:=.box g 0 (ae (.row .str ss)).length) hp hs hd hi hb hk (fun b o ho=>by obtain⟨rfl,_,_⟩:=ho;exact hbase) ⟨g,0,by simp,fun j c' hc=>?_⟩⟩
  ·exact .arr 0 ss.length 1 g (ae (.row .str ss)).length cap (some ⟨g,0,none⟩) (by simp) (by omega) h1 (by unfold maxLen at h2;unfold b9;omega) (.inl rfl)
  ·have hj:j<ss.length:=by
    rw[<-hpl];rcases Mz j (ae (.row .str ss)).length with k|k
    ·exact k
    ·rw[Mt k]at hc;cases hc
   have hcx:=fY .str ss j ss[j] 0 (.str ss[j]) (by simp[hj]) rfl;have hc0:(ae (.row .str ss))[j]?=some (.str ss[j]):=by rw[show j *ab .str+0=j by rw[show ab .str=1 from rfl];omega]at hcx;exact hcx
   rw[hc0]at hc;cases hc
   have hcur:cur[j]?=some (encStr ss[j]):=by
    have:(cur.toList.take (ss.length *1))[j]?=some (encStr ss[j]):=by rw[h4];simp[hj]
    rw[MQ]at this;split at this
    ·simpa using this
    ·cases this
   refine⟨.inl hbase,fun h=>?_,fq hg _,encStr ss[j],by rw[Np,aq hg];exact hcur,.str _ (hlen _ (OB hj))⟩;rcases h with h|h
   ·obtain⟨v,hv⟩:=hp _ _ h;have:=aT hv;omega
   ·exact h
def fN(l:List Str):List Str:=l.mergeSort fun x y=>decide (x<=y)
theorem nD(l:List Str):(fN l).length=l.length:=List.length_mergeSort _
theorem E5{l:List Str}{s:Str}:s∈fN l↔s∈l:=List.mem_mergeSort
structure SortL(P:Program)(ρ:Ren):Prop where
 lay:SlLaysZ.n6 P ρ
 sorts:AnyZ.SortsIn P ρ Fence.wide 4
 e9:∀args w,(callFunc (ρ.f 9) args).run P w=.ok (.enter (ρ.f 9) args) w
theorem vN(L:SortL P ρ){g:Nat}{lb:Array Value}(eg:∀args w,(callFunc g args).run P w=.ok (.enter g args) w){ks:List Str}(hN:ks.length *16<=140737488355328){w:World}
 (hseq:eR Fence.wide 2 P g lb encStr (fun ss=>ss.Perm ks) ks.length w) :
  Calls P (ρ.f 6) #[.func (.func g) #[] lb] w fun en w'=>∃v,en=.returned v/\w'.ownsRow w.heap.size (ρ.t 26) 1 v (fN ks).length ((fN ks).map encStr)/\Below w.heap.size w w':=by
 refine callsIn_wide.1 ((IY L.lay Fence.wide 5 trivial trivial trivial trivial rfl (by omega) L.sorts L.e9 g lb trivial eg _ ks.length (by unfold maxLen;omega) hN w hseq).mono ?_);rintro en w' ⟨v,ss,rfl,hS,hrow,_,hb⟩;have e:ss.mergeSort (fun x y=>decide (x<=y))=fN ks:=mergeSort_of_perm hS;have hl:ss.length=(fN ks).length:=by rw[nD];exact hS.length_eq
 rw[e,hl]at hrow;exact⟨v,rfl,hrow,hb⟩
theorem V.fn_inv{Ω:Om}{f:Nat}{cs:List AV}{v:Value}(h:V Ω (.fn f cs) v):∃vs,v=.func (.func f) #[] vs.toArray/\VL Ω cs vs:=by
 cases h with|fn _ _ vs h1 h2=>exact⟨vs,rfl,h1,h2⟩
def Strs(n₀:Nat)(W:World)(sv:Value)(zs:List Str):Prop:=
 ((∃a cap,sv=.slice a 0 cap)/\zs=[])∨∃b off cap,sv=.slice (some ⟨b,off,none⟩) zs.length cap/\b<n₀/\∀j,j<zs.length->W.cell? ⟨b,off+j,none⟩=some (encStr (zs[j]?.getD []))
def upto{α:Type}(f:Nat->α)(k:Nat):List α:=(List.range k).map f
theorem E6{α:Type}(f:Nat->α)(k:Nat):upto f (k+1)=upto f k++[f k]:=by simp[upto,List.range_succ]
theorem xo{α:Type}(f:Nat->α)(k:Nat):(upto f k).length=k:=by simp[upto]
theorem Gr(zs:List Str):upto (fun j=>zs[j]?.getD []) zs.length=zs:=by
 apply List.ext_getElem
 ·simp[upto]
 ·intro i h1 h2;simp[upto,h2]
def vO(P:Program)(g:Nat):Prop:=
 ∀(w:World)(b o:Nat)(sv:Value)(zs:List Str),zs.length<=maxLen->w.cell? ⟨b,o,none⟩=some sv->Strs w.heap.size w sv zs->
  eR Fence.wide 2 P g #[.pointer (some ⟨b,o,none⟩)] encStr (fun ss=>ss=zs) zs.length w
theorem V.dropTok{Ω:Om}{τ:Ty}{xs:List (den τ)}{o:Option Nat}{v:Value}(h:V Ω (.lst τ xs o) v):V Ω (.lst τ xs none) v:=by
 cases h with|lstNil=>exact .lstNil τ none (fun _ h=>by cases h)|lstVoid _ a=>exact .lstVoid τ a|lst _ _ _ b off cap vals h1 h2 h3 h4 h5=>exact .lst τ xs none b off cap vals h1 h2 (fun _ h=>by cases h) h4 h5
theorem mR(L:SortL P ρ){g:Nat}(eg:∀args w,(callFunc g args).run P w=.ok (.enter g args) w)(K:vO P g)(zs:List Str)(hN:zs.length *16<=140737488355328)(tok:Option Nat) :
  aw P (ρ.f 6) [.fn g [.ptr 900 0]] [(900,.box (.lst .str zs tok))] ⟨some (zs.length *16<=140737488355328),none,.arr 0 (fN zs).length 1,[(0,.box (.row .str (fN zs)))]⟩:=by
 refine E4 (T:=ρ.t 26) rfl fun w pub e vs hp hv hs=>?_;obtain⟨v1,rfl,h1⟩:=VL.one_inv hv;obtain⟨us,rfl,hus⟩:=h1.fn_inv;obtain⟨u,rfl,hu⟩:=VL.one_inv hus;obtain⟨b,o,len,rfl,he⟩:=hu.ptr_inv;obtain⟨b',o',he',hbox⟩:=hs 900 _ rfl;rw[he]at he';cases he';obtain⟨_,_,_,v,hcell,hvm⟩:=hbox 0 (.lst .str zs tok) rfl
 have hst:Strs w.heap.size w v zs:=by
  cases hvm with
  |lstNil=>exact .inl ⟨⟨_,_,rfl⟩,rfl⟩
  |lstVoid=>exact .inl ⟨⟨_,_,rfl⟩,rfl⟩
  |lst _ _ _ g0 off cap vals h1 h2 h3 h4 h5=>
   rcases P3 zs.length with hz|hz
   ·have:=My hz;subst this;exact .inl ⟨⟨_,_,rfl⟩,rfl⟩
   ·have at_:∀j (hj:j<zs.length),w.cell? ⟨g0,off+j,none⟩=some (encStr zs[j]):=by intro j hj;have q:=h4 j zs[j] (by simp[hj]) 0 (.str zs[j]) rfl;have r:=h5 j zs[j] (by simp[hj]) 0 (.str zs[j]) rfl;obtain⟨r1,_⟩:=r.str_inv;have:=q.2;rw[r1]at this;simpa[ab]using this
    exact .inr ⟨g0,off,cap,rfl,aT (at_ 0 hz),fun j hj=>by rw[at_ j hj];simp[hj]⟩
 refine⟨fun s hs=>?_,?_⟩
 ·have hw:Wf (.lst .str) zs:=⟨_,_,V.dropTok hvm⟩;exact(hw.mem (E5.1 hs)).str
 have hsq:=K w b (o+0) v zs (by unfold maxLen;omega) hcell hst;refine vN L eg hN (w:=w) ?_;intro l J W a1 a2 a3 a4 a5;refine(hsq l J W a1 a2 a3 a4 a5).mono ?_;rintro e W' ⟨h1,xs,rfl,h3⟩;exact⟨h1,xs,.refl _,h3⟩
end Go.AL
end
noncomputable section
namespace Go.AL
variable [Tabs]
open Go.Proofs Go.RowKit Go.Maps Go.Sort Go.Shelf
variable {P:Program} {ρ:Ren}
theorem After.row{w w':World}{pub:Nat->Nat->Prop}{e:Nat->Option CObj}{S:List (Nat×SObj)}
 (hp:kD w pub)(hs:∀id o,ak S id=some o->bk ⟨e,w,pub⟩ (fun _ _=>True) id o)(hd:∀id,ak S id=none->e id=none)(hi:Inj e)
 {k b:Nat}{c c':AV}(hk:ak S k=some (.box c))(he:e k=some (.box b 0 (ae c).length))(hl:(ae c').length=(ae c).length)
 (os:w'.os=w.os)(tape:w'.tape=w.tape)(output:w'.output=w.output)(size:w.heap.size<=w'.heap.size)
 (hblock:∀b',b'<w.heap.size->b'≠b∨(ae c).length=0->w'.heap[b']?=w.heap[b']?)
 (hcell:∀j,(ae c).length<=j->w'.cell? ⟨b,j,none⟩=w.cell? ⟨b,j,none⟩)
 (hkind:w'.shape? b=w.shape? b/\∀o,w'.frozen? ⟨b,o,none⟩=w.frozen? ⟨b,o,none⟩)
 (hval:∀(j:Nat)(c0:AV),(ae c')[j]?=some c0->∃v,w'.cell? ⟨b,j,none⟩=some v/\∀Ω',V Ω' c0 v) :
  After w pub e (ak (ca S [(k,.box c')])) w' (fun b o=>pub b o∨False) (fun i=>if k=i then some (.box b 0 (ae c).length)else e i):=by
 obtain⟨b0,off0,he0,hbox⟩:=hs k _ hk;have he0:e k=some (.box b0 off0 (ae c).length):=he0;rw[he]at he0;simp only[Xs,CObj.box.injEq]at he0;obtain⟨rfl,rfl,_⟩:=he0;have inE:∀{o},o<(ae c).length->rY e k b o:=fun h=>⟨_,he,rfl,by omega,by omega⟩
 have outE:∀{b' o},¬rY e k b' o->b'≠b∨(ae c).length<=o:=by
  intro b' o h;rcases Mz o (ae c).length with h'|h'
  ·exact .inl fun e=>h (e ▸ inE h')
  ·exact .inr h'
 have cell:∀b' o,b'<w.heap.size->¬rY e k b' o->w'.cell? ⟨b',o,none⟩=w.cell? ⟨b',o,none⟩:=by
  intro b' o h1 h2;by_cases hb:b'=b
  ·subst hb;rcases outE h2 with h|h
   ·exact absurd rfl h
   ·exact hcell o h
  ·exact aj (hblock b' h1 (.inl hb)) o
 refine After.slot hp hs hd hi (Q:=fun _ _=>False) os tape output size (fun b' h1 h2=>?_) cell (fun b' h1 h2=>?_) (fun b' o h=>?_) (fun _ _ h=>h.elim) (fun c0 h=>?_) (fun b' o h=>?_) (fun _=>?_)
 ·refine hblock b' h1 ?_;rcases outE (h2 0)with h|h
  ·exact .inl h
  ·exact .inr (by omega)
 ·by_cases hb:b'=b
  ·subst hb;exact hkind
  ·have:=hblock b' h1 (.inl hb);exact⟨ba this,fun o=>aM this o⟩
 ·obtain⟨v,hv⟩:=hp b' o h;refine cell b' o (aT hv) ?_;rintro⟨c1,h1,h2⟩;rw[he]at h1;cases h1;obtain⟨rfl,_,h3⟩:=h2;have hj:o<(ae c).length:=by omega
  have:=(hbox o _ (Mn hj)).2.1;exact this (by simpa using h)
 ·rw[he]at h;cases h;exact⟨rfl,rfl,rfl⟩
 ·exact .inr ⟨_,he,h⟩
 ·refine⟨b,0,by simp[hl],fun j c0 hc=>?_⟩
  have hj:j<(ae c).length:=by
   rw[<-hl];rcases Mz j (ae c').length with q|q
   ·exact q
   ·rw[Mt q]at hc;cases hc
  obtain⟨_,q2,q3,_⟩:=hbox j _ (Mn hj);obtain⟨v,hv,hV⟩:=hval j c0 hc;rw[Np]at q2 q3⊢;refine⟨.inr ⟨k,_,he,rfl,by omega,by omega⟩,fun h=>?_,?_,v,hv,hV _⟩
  ·rcases h with h|h
   ·exact q2 h
   ·exact h
  ·exact(hkind.2 j).trans q3
theorem xp{α:Type}[Inhabited α](enc:α->Value)(w:World)(b:Nat)(d:Array α)(k:Nat)(h:k≠b∨d.size=0):(putRow enc w b 0 d).heap[k]?=w.heap[k]?:=by
 unfold putRow mapBlock;simp only[Nw];by_cases hk:b=k
 ·subst hk;rcases h with h|h
  ·exact absurd rfl h
  ·simp only[Nu]
   cases hw:w.heap[b]? with
   |none=>rfl
   |some o=>
    simp only[NB,Xs]
    cases o with
    |cells c e f=>
     simp only[onCells,Obj.cells.injEq,N4,Ni];apply Array.ext
     ·simp[putCells]
     ·intro i h1 h2;simp[putCells,h]
    |_=>rfl
 ·rw[Mp hk]
theorem vP{α:Type}[Inhabited α](enc:α->Value)(w:World)(b:Nat)(d:Array α):(putRow enc w b 0 d).shape? b=w.shape? b:=by
 unfold putRow mapBlock World.shape?;simp only[Nw,Nu]
 cases w.heap[b]? with
 |none=>rfl
 |some o=>cases o<;>simp[onCells,putCells]
theorem gC{τ:Ty}(hw:ab τ=1)(xs:List (den τ)):(ae (.row τ xs)).length=xs.length:=by have:=aV τ xs;rw[hw,PE]at this;exact this
theorem la{τ:Ty}(hw:ab τ=1)(xs:List (den τ))(j:Nat)(x:den τ)(c:AV)(hx:xs[j]?=some x)(hc:(cells τ x)[0]?=some c):(ae (.row τ xs))[j]?=some c:=by have:=fY τ xs j x 0 c hx hc;rw[hw,PE,O7]at this;exact this
theorem strRow{Ω:Om}{own:Nat->Nat->Prop}{id b:Nat}{ss:List Str}(h:bk Ω own id (.box (.row .str ss))){len:Nat}(he:Ω.e id=some (.box b 0 len)) :
  len=ss.length/\Go.Sort.Holds encStr Ω.w b 0 ss.toArray/\∀s∈ss,s.length<=b9:=by
 obtain⟨b',off,h1,h2⟩:=h;rw[he]at h1;simp only[Xs,CObj.box.injEq]at h1;obtain⟨rfl,rfl,h1⟩:=h1;have at_:∀j (hj:j<ss.length),Ω.w.frozen? ⟨b,0+j,none⟩=false/\Ω.w.cell? ⟨b,0+j,none⟩=some (encStr ss[j])/\ss[j].length<=b9:=by intro j hj;obtain⟨_,_,q3,v,q4,q5⟩:=h2 j _ (la (τ:=.str) rfl ss j ss[j] (.str ss[j]) (by simp[hj]) rfl);obtain⟨rfl,q6⟩:=q5.str_inv;exact⟨q3,q4,q6⟩
 refine⟨by rw[h1];exact gC (τ:=.str) rfl ss,fun j hj=>?_,fun s hs=>?_⟩
 ·have hj':j<ss.length:=by simpa using hj
  obtain⟨q1,q2,_⟩:=at_ j hj';exact⟨by rw[q2];simp[hj'],q1⟩
 ·obtain⟨j,hj,rfl⟩:=List.getElem_of_mem hs;exact(at_ j hj).2.2
theorem xq{ss:List Str}{s:Str}(h:s∈Lib.compact ss):s∈ss:=by unfold Lib.compact Lib.compactUpTo at h;obtain⟨j,hj,rfl⟩:=MV.1 h;have:=(Nh.1 hj).1;rw[NW]at this;simp[this]
theorem After.strRow{w:World}{pub:Nat->Nat->Prop}{e:Nat->Option CObj}{S:List (Nat×SObj)}
 (hp:kD w pub)(hs:∀id o,ak S id=some o->bk ⟨e,w,pub⟩ (fun _ _=>True) id o)(hd:∀id,ak S id=none->e id=none)(hi:Inj e)
 {k b len q:Nat}{ss ts:List Str}{gs:Array Obj}(hk:ak S k=some (.box (.row .str ss)))(he:e k=some (.box b 0 len))(hl:ts.length=ss.length)(hb:b<w.heap.size)(ht:∀s∈ts,s.length<=b9) :
  After w pub e (ak (ca S [(k,.box (.row .str ts))])) (grow (putRow encStr (Sort.ahead w q) b 0 ts.toArray) gs) (fun b o=>pub b o∨False) (fun i=>if k=i then some (.box b 0 (ae (.row .str ss)).length)else e i):=by
 obtain⟨rfl,hH,_⟩:=AL.strRow (hs k _ hk) he;have hsz:(putRow encStr (Sort.ahead w q) b 0 ts.toArray).heap.size=w.heap.size:=by simp
 have old:∀j,j<w.heap.size->(grow (putRow encStr (Sort.ahead w q) b 0 ts.toArray) gs).heap[j]?=(putRow encStr (Sort.ahead w q) b 0 ts.toArray).heap[j]?:=by intro j hj;unfold grow;simp only;rw[Array.getElem?_append_left (by rw[hsz];exact hj)]
 have hpl:=gC (τ:=.str) rfl ss;refine After.row hp hs hd hi hk (by rw[he,hpl]) (by rw[gC rfl,gC rfl,hl]) rfl rfl rfl (by simp[grow]) (fun b' h1 h2=>?_) (fun j hj=>?_) ⟨?_,fun o=>?_⟩ (fun j c0 hc=>?_)
 ·rw[old b' h1,xp encStr (Sort.ahead w q) b ts.toArray b' (by rw[hpl]at h2;simpa[hl]using h2)];rfl
 ·rw[aj (old b hb) j,cell?_putRow_other encStr (Sort.ahead w q) b 0 ts.toArray ⟨b,j,none⟩ (.inr (.inr (by rw[hpl]at hj;simp;omega)))];rfl
 ·rw[ba (old b hb),vP];rfl
 ·rw[aM (old b hb) o,frozen?_putRow];rfl
 ·have hj:j<ts.length:=by
   rw[<-gC (τ:=.str) rfl ts];rcases Mz j (ae (.row .str ts)).length with q|q
   ·exact q
   ·rw[Mt q]at hc;cases hc
  rw[la (τ:=.str) rfl ts j ts[j] (.str ts[j]) (by simp[hj]) rfl]at hc;cases hc;refine⟨encStr ts[j],?_,fun Ω'=>.str _ (ht _ (OB hj))⟩;rw[aj (old b hb) j];have:=cell?_putRow encStr (Sort.ahead w q) b 0 ss.toArray ts.toArray hH (by simp[hl]) j (by simpa using hj);rw[Np]at this;rw[this];simp[hj]
theorem tE(L:Lays.n194 P ρ)(n:Nat)(ss:List Str)(hn:n=ss.length) :
  aw P (ρ.f 194) [.arr 900 n 1] [(900,.box (.row .str ss))]
   ⟨some (n=ss.length),none,.arr 900 (Lib.compact ss).length 1,[(900,.box (.row .str (Lib.compact ss++List.replicate (ss.length-(Lib.compact ss).length) [])))]⟩:=by
 subst hn;intro w pub e vs hp ht hv hs hd hi;obtain⟨v,rfl,h1⟩:=VL.one_inv hv;have hcl:(Lib.compact ss).length<=ss.length:=by unfold Lib.compact Lib.compactUpTo;rw[MZ];exact NA (List.length_filter_le _ _) (by simp)
 cases h1 with
 |arr _ _ _ b len cap a he h2 h3 h4 h5=>
  have he:e 900=some (.box b 0 len):=he;obtain⟨rfl,hH,hlen⟩:=strRow (hs 900 _ rfl) he;have hpl:=gC (τ:=.str) rfl ss;rcases h5 with rfl|⟨rfl,hz,rfl⟩
  ·by_cases h0:ss=[]
   ·subst h0;refine(Any.slices_Compact_string_empty L (some ⟨b,0,none⟩) cap w).mono ?_;rintro en w' ⟨rfl,rfl⟩;refine⟨_,_,fun _ _ _ h=>(by cases h),?_,After.row (c':=.row .str []) hp hs hd hi rfl (show e 900=some (.box b 0 (ae (.row .str [])).length)from he) rfl rfl rfl rfl (Mx _) (fun _ _ _=>rfl) (fun _ _=>rfl) ⟨rfl,fun _=>rfl⟩ (fun j c0 hc=>by simp[ae,flat]at hc)⟩;exact .arr 900 0 1 b (ae (.row .str [])).length cap _ (by simp) (by omega) (by omega) h4 (.inl rfl)
   ·have hpos:0<ss.length:=NM.2 h0;have hb:b<w.heap.size:=aT (hH 0 (by simpa using hpos)).1;refine(Any.slices_Compact_string L b 0 cap ss w hH (by unfold b9 at h4;omega) h3).mono ?_;rintro en w' ⟨rfl,q,rfl⟩
    have hA:=After.strRow (q:=q) (gs:=#[]) (ts:=Lib.compact ss++List.replicate (ss.length-(Lib.compact ss).length) []) hp hs hd hi rfl he (by simp;omega) hb (fun s hs'=>by
     rcases MW.1 hs' with h|h
     ·exact hlen s (xq h)
     ·obtain⟨_,rfl⟩:=P4.1 h;exact ME _)
    rw[grow_empty]at hA;exact⟨_,_,fun _ _ _ h=>(by cases h),.arr 900 (Lib.compact ss).length 1 b (ae (.row .str ss)).length cap _ (by simp) (by rw[hpl];omega) (by omega) h4 (.inl rfl),hA⟩
  ·have h0:ss=[]:=My hz;subst h0;refine(Any.slices_Compact_string_empty L none 0 w).mono ?_;rintro en w' ⟨rfl,rfl⟩;refine⟨_,_,fun _ _ _ h=>(by cases h),?_,After.row (c':=.row .str []) hp hs hd hi rfl (show e 900=some (.box b 0 (ae (.row .str [])).length)from he) rfl rfl rfl rfl (Mx _) (fun _ _ _=>rfl) (fun _ _=>rfl) ⟨rfl,fun _=>rfl⟩ (fun j c0 hc=>by simp[ae,flat]at hc)⟩;exact .arr 900 0 1 b (ae (.row .str [])).length 0 _ (by simp) (by omega) (by omega) h4 (.inr ⟨rfl,rfl,rfl⟩)
end Go.AL
end
noncomputable section
namespace Go.AL
variable [Tabs]
open Go.Proofs Go.Shelf
variable {P:Program} {ρ:Ren}
def M3(gv gk:Nat):Pat:=fun args S=>
 match args,S with
 |[.fn g [.ptr 900 0]],[(900,.box (.lst .str zs _))]=>
  if g=gv then some ⟨some (zs.length *16<=140737488355328),none,.arr 0 (fN zs).length 1,[(0,.box (.row .str (fN zs)))]⟩else none
 |[.fn g [.ptr 900 0]],[(900,.box (.map 901)),(901,.map .str _ m)]=>
  if g=gk then some ⟨some (m.length *16<=140737488355328),none,.arr 0 (fN (m.map (·.1))).length 1,[(0,.box (.row .str (fN (m.map (·.1)))))]⟩else none
 |_,_=>none
def mS(gv:Nat):Pat:=fun args S=>
 match args,S with
 |[.fn g [.ptr 900 0]],[(900,.box (.lst .str zs _))]=>
  if g=gv then some ⟨some (zs.length *16<=140737488355328),none,.arr 0 (fN zs).length 1,[(0,.box (.row .str (fN zs)))]⟩else none
 |_,_=>none
theorem tF{f gv:Nat}(L:SortL P ρ)(hf:ρ.f 6=f)(eg:∀args w,(callFunc gv args).run P w=.ok (.enter gv args) w)(V:vO P gv)(he:au P f):ag P f (mS gv):=by
 subst hf;intro args S A h hob hkeys;unfold mS at h;split at h
 ·split at h
  ·rename_i e;subst e;cases h;exact⟨he,mR L eg V _ (hob _ rfl) _⟩
  ·cases h
 ·cases h
def mT:Pat:=fun args S=>
 match args,S with
 |[.arr 900 n 1],[(900,.box (.row .str ss))]=>
  some ⟨some (n=ss.length),none,.arr 900 (Lib.compact ss).length 1,[(900,.box (.row .str (Lib.compact ss++List.replicate (ss.length-(Lib.compact ss).length) [])))]⟩
 |_,_=>none
theorem tG{f:Nat}(L:Lays.n194 P ρ)(hf:ρ.f 194=f)(he:au P f):ag P f mT:=by
 subst hf;intro args S A h hob hkeys;unfold mT at h;split at h
 ·cases h;exact⟨he,tE L _ _ (hob _ rfl)⟩
 ·cases h
end Go.AL
end
noncomputable section
namespace Go.AL
open Go.Lib
theorem xr{l:List Str}(hs:l.Pairwise (·<= ·)):(Lib.compact l).length=l.length↔l.Nodup:=by
 unfold Lib.compact Lib.compactUpTo;rw[MZ];have e:((List.range l.length).filter (keeps l.toArray)).length=l.length↔∀j,j<l.length->keeps l.toArray j=true:=by have h:=List.length_filter_eq_length_iff (p:=keeps l.toArray) (l:=List.range l.length);rw[List.length_range]at h;rw[h];simp
 rw[e,Oe,O3];rw[O3]at hs;constructor
 ·intro h i j hi hj hij eq;have hk:=h j hj;have hj1:j-1<l.length:=by omega
  have h1:l[i]<=l[j-1]:=by
   rcases Mz i (j-1)with q|q
   ·exact hs i (j-1) hi hj1 q
   ·have:i=j-1:=by omega
    subst this;exact List.le_refl _
  have h2:l[j-1]<=l[j]:=hs (j-1) j hj1 hj (by omega);have h3:l[j-1]=l[j]:=List.le_antisymm h2 (by rw[<-eq];exact h1);unfold keeps at hk;simp[hj,hj1,h3]at hk;omega
 ·intro h j hj;unfold keeps;rcases P3 j with q|q
  ·simp[q]
  ·have hj1:j-1<l.length:=by omega
   have:=h (j-1) j hj1 hj (by omega);simp[hj,hj1];exact .inr fun e=>this e.symm
theorem vQ(l:List Str):(fN l).Pairwise (·<= ·):=by
 have tr:∀a b c:Str,decide (a<=b)=true->decide (b<=c)=true->decide (a<=c)=true:=fun a b c h1 h2=>by simp only[MD]at *;exact List.le_trans h1 h2
 have tot:∀a b:Str,(decide (a<=b)||decide (b<=a))=true:=fun a b=>by simp only[Ns,MD];exact List.le_total _ _
 exact(List.pairwise_mergeSort tr tot l).imp fun h=>by simpa using h
theorem xt{l:List Str}:(fN l).Nodup↔l.Nodup:=(List.mergeSort_perm l _).nodup_iff
theorem iL(l:List Str):(Lib.compact (fN l)).length=l.length↔l.Nodup:=by
 letI:=vo
 rw[<-nD l,xr (vQ l),xt]
end Go.AL
end
section
namespace Go.Pd
open Go.AL
def cn(c:Int):Bool:=decide (97<=c)&&decide (c<=122)
def cv(c:Int):Bool:=decide (65<=c)&&decide (c<=90)
def gg(c:Int):Bool:=decide (48<=c)&&decide (c<=57)
def eY(c:Int):Bool:=cn c||cv c||gg c||decide (c=95)
def bI(b:UInt8):Int:=(b.toNat:Int)
def cW(first:Int->Bool)(s:Str):Bool:=!decide (s=[])&&decide (s.length<=24)&&first (bI (s.getD 0 0))&&s.all fun c=>eY (bI c)
def str(s:String):Str:=s.toUTF8.data.toList
def Ky:List Str:=[[109,111,100,117,108,101],[105,109,112,111,114,116],[112,105,110],[114,97,110,103,101],[116,121,112,101],[111,112,97,113,117,101],[108,101,116],[105,110],[101,120,112,111,114,116],[102,117,110],[105,102],[116,104,101,110],[101,108,115,101],[99,97,115,101],[111,102],[97,115],[110,101,119],[114,97,119],[116,114,117,101],[102,97,108,115,101]]
def nE(s:Str):Bool:=decide (s∈Ky)
def az(s:Str):Bool:=cW cn s&&!nE s
def cH(s:Str):Bool:=cW cv s
mutual
def sz:Shape->Nat
 |⟨_,_,_,_,ps⟩=>szL ps+1
def szL:List Shape->Nat
 |[]=>0
 |p::r=>sz p+szL r
end
mutual
def allS(f:Shape->Bool):Shape->Bool
 |⟨k,p,n,ns,ps⟩=>f ⟨k,p,n,ns,ps⟩&&allL f ps
def allL(f:Shape->Bool):List Shape->Bool
 |[]=>true
 |p::r=>allS f p&&allL f r
end
mutual
def deepS:Shape->Int->Int
 |⟨_,_,_,_,ps⟩,l=>deepL ps (l+1) l
def deepL:List Shape->Int->Int->Int
 |[],_,d=>d
 |p::r,l,d=>deepL r l (max d (deepS p l))
end
def ld(s:Str):Bool:=decide (s=[73,110,116])||decide (s=[66,111,111,108])||decide (s=[84,101,120,116])||decide (s=[65,110,121])
theorem pD(a:Shape):sz a=szL a.parts+1:=by cases a;rfl
theorem lg:∀{l:List Shape} {a:Shape},a∈l->sz a<=szL l
 |b::r,a,h=>by
  simp only[szL];rcases MJ.1 h with rfl|h
  ·omega
  ·have:=lg h;omega
def dL(s:Shape):Bool:=decide (s.names.length=s.parts.length)&&s.names.all az&&decide s.names.Nodup
def bh(s:Shape):Bool:=
 let bare:=decide (s.pkg=[])&&decide (s.name=[])
 if s.kind=1∨s.kind=2∨s.kind=3∨s.kind=4 then bare&&decide (s.names=[])&&decide (s.parts=[])
 else if s.kind=5 then bare&&decide (s.names=[])&&decide (s.parts.length=1)
 else if s.kind=6∨s.kind=7 then bare&&dL s
 else if s.kind=8 then bare&&decide (s.names=[])&&!decide (s.parts=[])
 else if s.kind=9 then cH s.name&&(decide (s.pkg=[])&&!ld s.name||az s.pkg)&&decide (s.names=[])&&decide (s.parts=[])
 else if s.kind=10 then cH s.name&&az s.pkg&&decide (s.names=[])&&decide (s.parts=[])
 else false
theorem jl(a:Shape):0<sz a:=by rw[pD];omega
theorem CH:∀(l:List Shape),l.length<=szL l
 |[]=>ME _
 |a::r=>by have:=CH r;have:=jl a;simp only[szL,ML];omega
theorem lQ(f:Shape->Bool)(s:Shape):allS f s=(f s&&allL f s.parts):=by cases s;rfl
end Go.Pd
end
section
namespace Go.Pd
open Go.AL
def cw(s:Shape):Int:=if 400<sz s then 3 else if 40<deepS s 1 then 91 else if allS bh s=true then 0 else 70
def Kz(t:Nat)(c:Int):Ans:=⟨some (0<=c/\c<=400),some (decide (400<c+1),.iface t (.agg []),[(900,.box (.int .i64 (c+1)))]),.tup [],[(900,.box (.int .i64 (c+1)))]⟩
def vR(t:Nat):Pat:=fun args S=>
 match args,S with
 |[.ptr 900 0],[(900,.box (.int .i64 c))]=>some (Kz t c)
 |_,_=>none
theorem Ai[Tabs]{P:Program}{f t:Nat}(he:au P f)(h:∀c,0<=c/\c<=400->aw P f [.ptr 900 0] [(900,.box (.int .i64 c))] (Kz t c)):ag P f (vR t):=by
 intro args S A hA ho _;unfold vR at hA;split at hA
 ·simp only[Xs]at hA;subst hA;exact⟨he,h _ (ho _ rfl)⟩
 ·cases hA
def Gs(t:Nat)(s:Shape)(l c:Int)(q:Prop):Ans:=
 ⟨some (q/\0<=c/\c<=400/\1<=l/\l<=c+1),some (decide (400<c+(sz s:Int)),.iface t (.agg []),[(900,.box (.int .i64 401))]),.int .i64 (deepS s l),[(900,.box (.int .i64 (c+(sz s:Int))))]⟩
def qm(t g:Nat)(n:Nat):Pat:=fun args S=>
 match args,S with
 |[a,.int .i64 l,.fn g' [.ptr 900 0]],[(900,.box (.int .i64 c))]=>
  (match Nat.beq g' g,arg (.st .shape) a with
  |true,some s=>some (Gs t s l c (sz s<=n))
  |_,_=>none)
 |_,_=>none
theorem s5[Tabs]{P:Program}{f t g n:Nat}(he:au P f)(h:∀s l c,Wf (.st .shape) s->sz s<=n->(0<=c/\c<=400/\1<=l/\l<=c+1)->aw P f [.st .shape s,.int .i64 l,.fn g [.ptr 900 0]] [(900,.box (.int .i64 c))] (Gs t s l c (sz s<=n))) :
  ag P f (qm t g n):=by
 intro args S A hA ho _;unfold qm at hA;split at hA
 ·split at hA
  ·rename_i s hb hs;simp only[Xs]at hA;subst hA;have e:=MP hb;subst e;obtain⟨h1,h2⟩:=ho _ rfl;exact⟨he,aw.args (.cons (Rd.arg hs) (.cons (Rd.refl _) (.cons (Rd.refl _) .nil))) (aw.wf fun hw=>h _ _ _ hw.one h1 h2)⟩
  ·cases hA
 ·cases hA
theorem mB:∀(l:List Shape)(k:Nat)(d:Shape),k<l.length->szL (l.take (k+1))=szL (l.take k)+sz (l.getD k d)
 |a::r,0,d,_=>by simp[szL]
 |a::r,k+1,d,h=>by have:=mB r k d (by simpa using h);simp only[NV,szL,P0]at this⊢;omega
theorem xu(l:List Shape)(k:Nat):szL (l.take k)<=szL l:=by
 induction l generalizing k with
 |nil=>simp[szL]
 |cons a r ih=>
  cases k with|zero=>simp[szL]|succ k=>have:=ih k;simp only[NV,szL];omega
end Go.Pd
end
section
namespace Go.Pd
open Go.AL
abbrev PS:=Par
def mC(s:Str):Int:=s.foldl (fun n c=>10 *n+((c.toNat:Int)-48)) 0
end Go.Pd
end
section
namespace Go.Pd
open Go.AL
def uk(t:Str):Prop:=t≠[]/\t.length<=15/\∀c∈t,48<=c.toNat/\c.toNat<=57
end Go.Pd
end
section
namespace Go.AL
open Go.Proofs Go.Shelf Go.RowKit Go.Pd
theorem pE:∀(l:Str)(acc:Nat),(∀c∈l,48<=c.toNat/\c.toNat<=57)->∃m:Nat,Lib.decFrom acc l=some m/\(m:Int)=l.foldl (fun n c=>10 *n+((c.toNat:Int)-48)) (acc:Int)/\m<(acc+1) *10 ^ l.length
 |[],acc,_=>⟨acc,rfl,rfl,by simp⟩
 |c::r,acc,h=>by
  obtain⟨h1,h2⟩:=h c (N2 ..);obtain⟨m,e1,e2,e3⟩:=pE r (acc *10+(c.toNat-48)) (fun d hd=>h d (MK _ hd));refine⟨m,?_,?_,?_⟩
  ·simp only[Lib.decFrom,Lib.digitVal,h1,h2,and_self,Nu];exact e1
  ·rw[e2,Pr];congr 1;omega
  ·refine P5 e3 ?_;rw[ML,Nat.pow_succ,<-Nat.mul_assoc,Nat.mul_right_comm];exact N5 _ (by omega)
theorem Gt{t:Str}(h:uk t):Lib.atoi t=some (mC t)/\0<=mC t/\mC t<1000000000000000:=by
 obtain⟨h1,h2,h3⟩:=h;obtain⟨m,e1,e2,e3⟩:=pE t 0 h3;have e4:(m:Int)=mC t:=e2;refine⟨?_,by omega,?_⟩
 ·cases t with
  |nil=>exact absurd rfl h1
  |cons c r=>
   have hc:=h3 c (N2 ..);have n1:(c ==45)=false:=by rw[Oc];rintro rfl;simp at hc
   have n2:(c ==43)=false:=by rw[Oc];rintro rfl;simp at hc
   simp only[Lib.atoi,n1,n2,N7,N1,Lib.decNat,List.isEmpty_cons,e1,NB,e4]
 ·have:m<10 ^ t.length:=by simpa using e3
  have h10:10 ^ t.length<=10 ^ 15:=Nat.pow_le_pow_right (by decide) h2;have:m<1000000000000000:=P5 this h10;omega
variable [Tabs] {P:Program} {ρ:Ren}
theorem After.below{w w':World}{pub:Nat->Nat->Prop}{e:Nat->Option CObj}(hp:kD w pub)(hd:∀id,e id=none)(hb:Below w.heap.size w w'):After w pub e (ak (ca [] [])) w' pub e where
 os:=hb.os
 tape:=hb.tape
 output:=hb.output
 size:=hb.size
 block b h _:=hb.block b h
 cell b o h _:=aj (hb.block b h) o
 kind b h _:=⟨ba (hb.block b h),fun o=>aM (hb.block b h) o⟩
 ext:=⟨fun _ c h=>⟨c,h,CLe.refl c⟩,fun _ _ h=>h,fun b o h=>by obtain⟨v,hv⟩:=hp b o h;exact aj (hb.block b (aT hv)) o⟩
 fresh b o h:=.inl h
 ok b o h:=by obtain⟨v,hv⟩:=hp b o h;exact⟨v,(aj (hb.block b (aT hv)) o).trans hv⟩
 slots id o h:=by simp[ca,aL,aI]at h
 dom id _:=hd id
 inj i j c d b o h:=by rw[hd i]at h;cases h
theorem Aj(L:Lays.n172 P ρ)(t:Str)(h:uk t):aw P (ρ.f 172) [.str t] [] ⟨some (uk t),none,.tup [.int .i64 (mC t),.nilif],[]⟩:=by intro w pub e vs hp ht hv hs hd hi;obtain⟨v,rfl,h1⟩:=VL.one_inv hv;obtain⟨rfl,hl⟩:=h1.str_inv;obtain⟨a1,a2,a3⟩:=Gt h;refine(Any.strconv_Atoi L ⟨t.toArray⟩ (mC t) (by have:=h.2.1;show t.toArray.size<=18;simp;omega) (by simpa using a1) w).mono ?_;rintro en w' ⟨rfl,ty,rfl⟩;refine⟨pub,e,?_⟩;refine And.intro (fun b pv u h=>by cases h) (And.intro ?_ (After.below hp (fun id=>hd id rfl) (Lib.bytesWorld_below w _ _)));have b1:inR .i64 (mC t):=ai (by omega) (by omega);exact V.of_tup (VL.cons (.int _ _ b1.1 b1.2) (VL.cons .nilif .nil))
def IZ:Pat:=p1 .str fun t=>⟨some (uk t),none,.tup [.int .i64 (mC t),.nilif],[]⟩
theorem Ak{f:Nat}(L:Lays.n172 P ρ)(hf:ρ.f 172=f)(he:au P f):ag P f IZ:=by subst hf;exact aW he fun t _ ho=>Aj L t (ho _ rfl)
end Go.AL
end
section
namespace Go.Pd
open Go.AL
mutual
def szT:Trm->Nat
 |⟨_,_,_,_,_,_,_,ps,_⟩=>szTL ps+1
def szTL:List Trm->Nat
 |[]=>0
 |p::r=>szT p+szTL r
end
mutual
def countT:Trm->Int->Int×Int
 |⟨_,_,_,_,_,_,_,ps,_⟩,m=>((countL ps m 1 0).1,(countL ps m 1 0).2+1)
def countL:List Trm->Int->Int->Int->Int×Int
 |[],_,n,d=>(n,d)
 |p::r,m,n,d=>if m<n then(n,d)else countL r m (n+(countT p (m-n)).1) (max d (countT p (m-n)).2)
end
theorem E7(t:Trm)(m:Int):countT t m=((countL t.parts m 1 0).1,(countL t.parts m 1 0).2+1):=by cases t;rw[countT]
theorem cz(t:Trm):szT t=szTL t.parts+1:=by cases t;rw[szT]
theorem dh(t:Trm):1<=szT t:=by rw[cz];omega
mutual
theorem countT_bound:∀(t:Trm)(m:Int),0<=m->1<=(countT t m).1/\(countT t m).1<=m+1/\1<=(countT t m).2/\(countT t m).2<=(countT t m).1
 |⟨k,g,q,z,ns,vs,ss,ps,pp⟩,m,hm=>by have h:=countL_bound ps m 1 0 (by omega) (by omega) (by omega) (by omega);rw[countT];exact⟨h.1,h.2.1,by show 1<=(countL ps m 1 0).2+1;omega,by show(countL ps m 1 0).2+1<=_;omega⟩
theorem countL_bound:∀(l:List Trm)(m n d:Int),1<=n->n<=m+1->0<=d->d+1<=n->1<=(countL l m n d).1/\(countL l m n d).1<=m+1/\0<=(countL l m n d).2/\(countL l m n d).2+1<=(countL l m n d).1
 |[],m,n,d,h1,h2,h3,h4=>by rw[countL];exact⟨h1,h2,h3,h4⟩
 |p::r,m,n,d,h1,h2,h3,h4=>by
  rw[countL];split
  ·exact⟨h1,h2,h3,h4⟩
  ·have h:=countT_bound p (m-n) (by omega);exact countL_bound r m _ _ (by omega) (by omega) (by omega) (by omega)
end
theorem cE:∀{l:List Trm} {t:Trm},t∈l->szT t<=szTL l
 |p::r,t,h=>by
  rw[szTL];rcases MJ.1 h with e|e
  ·subst e;omega
  ·have:=cE e;omega
def bP{α:Type}(F:α->Bool):List α->Nat->Int
 |[],_=>-1
 |x::r,k=>if F x=true then bP F r (k+1)else(k:Int)
theorem lh{α:Type}(F:α->Bool):∀(l:List α)(k:Nat),decide (0<=bP F l k)=!l.all F
 |[],_=>rfl
 |x::r,k=>by
  rw[bP,NK];by_cases h:F x=true
  ·rw[Mu h,lh F r (k+1),h];rfl
  ·rw[Mp h];have:F x=false:=by simpa using h
   rw[this];simp
def aS(s:Shape):Bool:=!decide (s.kind=10)
theorem xw(f:Shape->Bool):∀l:List Shape,allL f l=l.all (allS f)
 |[]=>rfl
 |p::r=>by rw[NK,<-xw f r];rfl
end Go.Pd
end
section
namespace Go.AL
variable [Tabs]
section
variable {P:Program} {f:Nat}
def pfc(τ:Ty)(n g:Nat)(F:den τ->Ans):Pat
 |[a,.fn f [.ptr 900 0]],[(900,.box (.fn h []))]=>(match Nat.beq f n,Nat.beq h g,arg τ a with|true,true,some a=>some (F a)|_,_,_=>none)
 |_,_=>none
theorem lj{τ:Ty}{n g:Nat}{F:den τ->Ans}(he:au P f)(h:∀x,Wf τ x->(∀q,(F x).ob=some q->q)->aw P f [inj τ x,.fn n [.ptr 900 0]] [(900,.box (.fn g []))] (F x)):ag P f (pfc τ n g F):=by
 intro args S A hA ho _;unfold pfc at hA;split at hA
 ·split at hA
  ·rename_i hb hc hx;simp only[Xs]at hA;subst hA;have e:=MP hb;subst e;have e:=MP hc;subst e;exact⟨he,aw.args (.cons (Rd.arg hx) (.cons (Rd.refl _) .nil)) (aw.wf fun hw=>h _ hw.one ho)⟩
  ·cases hA
 ·cases hA
def pcl(τ:Ty)(g:Nat)(F:den τ->Ans):Pat
 |[a,.ptr 900 0],[(900,.box (.fn h []))]=>(match Nat.beq h g,arg τ a with|true,some a=>some (F a)|_,_=>none)
 |_,_=>none
theorem vS{τ:Ty}{g:Nat}{F:den τ->Ans}(he:au P f)(h:∀x,Wf τ x->(∀q,(F x).ob=some q->q)->aw P f [inj τ x,.ptr 900 0] [(900,.box (.fn g []))] (F x)):ag P f (pcl τ g F):=by
 intro args S A hA ho _;unfold pcl at hA;split at hA
 ·split at hA
  ·rename_i hc hx;simp only[Xs]at hA;subst hA;have e:=MP hc;subst e;exact⟨he,aw.args (.cons (Rd.arg hx) (.cons (Rd.refl _) .nil)) (aw.wf fun hw=>h _ hw.one ho)⟩
  ·cases hA
 ·cases hA
end
end Go.AL
end
section
namespace Go.Pd
open Go.AL
def cut(s:Str)(a b:Int):Str:=(s.take b.toNat).drop a.toNat
def pF(r:Str)(k:Nat):Bool:=decide (k<r.length)&&decide ((r.getD k 0).toNat/64=2)
def pV(r:Str)(k:Nat):Nat:=(r.getD k 0).toNat%64
def qn(c:Nat):Bool:=decide (c<1114112)&&!(decide (55296<=c)&&decide (c<57344))
def iM:Str->Nat
 |[]=>0
 |b::r=>
  if b.toNat<128 then 1
  else if b.toNat/32=6/\pF r 0=true then(if 128<=b.toNat%32 *64+pV r 0 then 2 else 0)
  else if b.toNat/16=14/\pF r 0=true/\pF r 1=true then
   (if 2048<=b.toNat%16 *4096+pV r 0 *64+pV r 1/\qn (b.toNat%16 *4096+pV r 0 *64+pV r 1)=true then 3 else 0)
  else if b.toNat/8=30/\pF r 0=true/\pF r 1=true/\pF r 2=true then
   (if 65536<=b.toNat%8 *262144+pV r 0 *4096+pV r 1 *64+pV r 2/\qn (b.toNat%8 *262144+pV r 0 *4096+pV r 1 *64+pV r 2)=true then 4 else 0)
  else 0
def jE:Nat->Str->Nat->Option Nat
 |0,_,_=>none
 |f+1,x,k=>if x=[]then none else if iM x=0 then some k else jE f (x.drop (iM x)) (k+iM x)
def lk(x:Str):Option Nat:=jE x.length x 0
structure SC where
 pos:Int
 out:List Tokn
 err:Int
 fat:Int
def splitB(c:UInt8):Str->List Str
 |[]=>[[]]
 |b::r=>if b=c then[]::splitB c r else match splitB c r with|[]=>[[b]]|p::ps=>(b::p)::ps
def jm(s:Str):Str:=s.takeWhile fun b=>!decide (b=45)
def mU(s:Str):Str:=s.drop ((jm s).length+1)
def oJ(s:Str):Bool:=decide ((jm s).length<s.length)
end Go.Pd
end
section
namespace Go.Pd
open Go.AL
theorem KA(b:UInt8):0<=bI b/\bI b<=255:=by have:=b.toNat_lt;unfold bI;omega
end Go.Pd
namespace Go.Pd
open Go.AL
def s6:Str:=[48,49,50,51,52,53,54,55,56,57]
def pG(b:UInt8):Bool:=gg (bI b)
def s7(s:Str):Str:=(s.reverse.dropWhile pG).reverse.dropWhile pG
def Gu(s:Str)(c:Int):Int:=bP (fun b=>!decide (bI b=c)) s 0
def kj(s:Str):Nat×Nat:=if s=[]then(65533,0)else Lib.decodeN s.length (s.getD 0 0).toNat (s.getD 1 0).toNat (s.getD 2 0).toNat (s.getD 3 0).toNat
theorem tH{p:UInt8->Bool}:∀{l:Str},l.dropWhile p=[]↔l.all p=true
 |[]=>by simp
 |b::r=>by
  rw[List.dropWhile_cons];split
  ·rename_i h;rw[tH,NK,h,MU]
  ·rename_i h;simp[h]
theorem Gv(s:Str):(s7 s).length<=s.length:=by unfold s7;have h1:=(List.dropWhile_sublist (p:=pG) (l:=(s.reverse.dropWhile pG).reverse)).length_le;have h2:=(List.dropWhile_sublist (p:=pG) (l:=s.reverse)).length_le;rw[List.length_reverse]at h1 h2;omega
def lq(n b0 b1 b2 b3:Nat):Nat:=
 if b0<128 then 1
 else if b0/32=6/\(1<n/\b1/64=2)then(if b0%32 *64+b1%64≥128 then 2 else 0)
 else if b0/16=14/\(1<n/\b1/64=2)/\(2<n/\b2/64=2)then
  (if b0%16 *4096+b1%64 *64+b2%64≥2048/\(b0%16 *4096+b1%64 *64+b2%64<55296∨(57344<=b0%16 *4096+b1%64 *64+b2%64/\b0%16 *4096+b1%64 *64+b2%64<=1114111))then 3 else 0)
 else if b0/8=30/\(1<n/\b1/64=2)/\(2<n/\b2/64=2)/\(3<n/\b3/64=2)then
  (if b0%8 *262144+b1%64 *4096+b2%64 *64+b3%64≥65536/\(b0%8 *262144+b1%64 *4096+b2%64 *64+b3%64<55296∨(57344<=b0%8 *262144+b1%64 *4096+b2%64 *64+b3%64/\b0%8 *262144+b1%64 *4096+b2%64 *64+b3%64<=1114111))then 4 else 0)
 else 0
theorem xx(n b0 b1 b2 b3:Nat)(h1:b1<256)(h2:b2<256)(h3:b3<256)(h0:b0<256)(hn:1<=n) :
  ((Lib.decodeN n b0 b1 b2 b3).1=65533/\(Lib.decodeN n b0 b1 b2 b3).2=1↔lq n b0 b1 b2 b3=0)/\(lq n b0 b1 b2 b3≠0->(Lib.decodeN n b0 b1 b2 b3).2=lq n b0 b1 b2 b3)/\
  (Lib.decodeN n b0 b1 b2 b3).1<=1114111/\1<=(Lib.decodeN n b0 b1 b2 b3).2/\(Lib.decodeN n b0 b1 b2 b3).2<=n:=by
 unfold Lib.decodeN lq;by_cases c1:b0<128
 ·simp only[Mu c1];refine⟨⟨fun e=>?_,fun e=>?_⟩,fun e=>?_,?_,?_,?_⟩<;>first|omega|exact⟨rfl,rfl⟩|exact Xr|exact(e rfl).elim|exact e.elim|exact(e trivial).elim|simp only at *
 simp only[Mp c1];by_cases c2:b0/32=6/\(1<n/\b1/64=2)
 ·simp only[Mu c2];by_cases d:b0%32 *64+b1%64≥128
  ·simp only[Mu d];refine⟨⟨fun e=>?_,fun e=>?_⟩,fun e=>?_,?_,?_,?_⟩<;>first|omega|exact⟨rfl,rfl⟩|exact Xr|exact(e rfl).elim|exact e.elim|exact(e trivial).elim|simp only at *
  ·simp only[Mp d];refine⟨⟨fun e=>?_,fun e=>?_⟩,fun e=>?_,?_,?_,?_⟩<;>first|omega|exact⟨rfl,rfl⟩|exact Xr|exact(e rfl).elim|exact e.elim|exact(e trivial).elim|simp only at *
 simp only[Mp c2];by_cases c3:b0/16=14/\(1<n/\b1/64=2)/\(2<n/\b2/64=2)
 ·simp only[Mu c3];by_cases d:b0%16 *4096+b1%64 *64+b2%64≥2048/\(b0%16 *4096+b1%64 *64+b2%64<55296∨(57344<=b0%16 *4096+b1%64 *64+b2%64/\b0%16 *4096+b1%64 *64+b2%64<=1114111))
  ·simp only[Mu d];refine⟨⟨fun e=>?_,fun e=>?_⟩,fun e=>?_,?_,?_,?_⟩<;>first|omega|exact⟨rfl,rfl⟩|exact Xr|exact(e rfl).elim|exact e.elim|exact(e trivial).elim|simp only at *
  ·simp only[Mp d];refine⟨⟨fun e=>?_,fun e=>?_⟩,fun e=>?_,?_,?_,?_⟩<;>first|omega|exact⟨rfl,rfl⟩|exact Xr|exact(e rfl).elim|exact e.elim|exact(e trivial).elim|simp only at *
 simp only[Mp c3];by_cases c4:b0/8=30/\(1<n/\b1/64=2)/\(2<n/\b2/64=2)/\(3<n/\b3/64=2)
 ·simp only[Mu c4];by_cases d:b0%8 *262144+b1%64 *4096+b2%64 *64+b3%64≥65536/\(b0%8 *262144+b1%64 *4096+b2%64 *64+b3%64<55296∨(57344<=b0%8 *262144+b1%64 *4096+b2%64 *64+b3%64/\b0%8 *262144+b1%64 *4096+b2%64 *64+b3%64<=1114111))
  ·simp only[Mu d];refine⟨⟨fun e=>?_,fun e=>?_⟩,fun e=>?_,?_,?_,?_⟩<;>first|omega|exact⟨rfl,rfl⟩|exact Xr|exact(e rfl).elim|exact e.elim|exact(e trivial).elim|simp only at *
  ·simp only[Mp d];refine⟨⟨fun e=>?_,fun e=>?_⟩,fun e=>?_,?_,?_,?_⟩<;>first|omega|exact⟨rfl,rfl⟩|exact Xr|exact(e rfl).elim|exact e.elim|exact(e trivial).elim|simp only at *
 simp only[Mp c4];refine⟨⟨fun e=>?_,fun e=>?_⟩,fun e=>?_,?_,?_,?_⟩<;>first|omega|exact⟨rfl,rfl⟩|exact Xr|exact(e rfl).elim|exact e.elim|exact(e trivial).elim|simp only at *
theorem xy(c:Nat):qn c=true↔(c<55296∨(57344<=c/\c<=1114111)):=by unfold qn;simp only[Mo,MD,MO,Bool.and_eq_false_iff,N6];omega
theorem E8(r:Str)(k:Nat):pF r k=true↔(k+1<r.length+1/\(r.getD k 0).toNat/64=2):=by unfold pF;simp only[Mo,MD];omega
theorem Gw(b:UInt8)(r:Str):iM (b::r)=lq (r.length+1) b.toNat (r.getD 0 0).toNat (r.getD 1 0).toNat (r.getD 2 0).toNat:=by unfold iM lq pV;simp only[E8,xy]
theorem s8{s:Str}(h:s≠[]):((kj s).1=65533/\(kj s).2=1↔iM s=0)/\(iM s≠0->(kj s).2=iM s)/\(kj s).1<=1114111/\1<=(kj s).2/\(kj s).2<=s.length:=by
 cases s with
 |nil=>exact absurd rfl h
 |cons b r=>
  have e:kj (b::r)=Lib.decodeN (r.length+1) b.toNat (r.getD 0 0).toNat (r.getD 1 0).toNat (r.getD 2 0).toNat:=by unfold kj;rw[Mp h];rfl
  rw[e,Gw,ML];exact xx _ _ _ _ _ (r.getD 0 0).toNat_lt (r.getD 1 0).toNat_lt (r.getD 2 0).toNat_lt b.toNat_lt (by omega)
theorem s9:∀(f g:Nat)(x:Str)(k:Nat),x.length<=f->x.length<=g->jE f x k=jE g x k
 |0,0,_,_,_,_=>rfl
 |0,g+1,x,k,h,_=>by have e:x=[]:=My (by omega);subst e;simp[jE]
 |f+1,0,x,k,_,h=>by have e:x=[]:=My (by omega);subst e;simp[jE]
 |f+1,g+1,x,k,h1,h2=>by
  simp only[jE];split
  ·rfl
  ·rename_i hx;split
   ·rfl
   ·rename_i hn;have hl:(x.drop (iM x)).length<x.length:=by rw[O6];have:=NM.2 hx;omega
    exact s9 f g _ _ (by omega) (by omega)
def lr(s:Str)(a:Nat):Option Nat:=jE s.length (s.drop a) a
theorem Al(s:Str):lr s 0=lk s:=rfl
theorem E9{s:Str}{a:Nat}(h:s.length<=a):lr s a=none:=by unfold lr;rw[NG h];cases s.length<;>simp[jE]
theorem Ea{s:Str}{a:Nat}(h:a<s.length)(hb:iM (s.drop a)=0):lr s a=some a:=by
 unfold lr;obtain⟨n,hn⟩:∃n,s.length=n+1:=⟨s.length-1,by omega⟩;have hx:s.drop a≠[]:=by intro e;have:=NT List.length e;simp at this;omega
 rw[hn,jE,Mp hx,Mu hb]
theorem Am{s:Str}{a:Nat}(h:a<s.length)(hb:iM (s.drop a)≠0):lr s a=lr s (a+iM (s.drop a)):=by
 unfold lr;obtain⟨n,hn⟩:∃n,s.length=n+1:=⟨s.length-1,by omega⟩;have hx:s.drop a≠[]:=by intro e;have:=NT List.length e;simp at this;omega
 rw[hn,jE,Mp hx,Mp hb,List.drop_drop];refine s9 _ _ _ _ ?_ ?_<;>(rw[O6];omega)
end Go.Pd
namespace Go.Pd
open Go.AL
end Go.Pd
namespace Go.Pd
open Go.AL
end Go.Pd
namespace Go.Pd
open Go.AL
theorem mD(c:UInt8):∀s:Str,(splitB c s).length<=s.length+1
 |[]=>by simp[splitB]
 |b::r=>by
  have ih:=mD c r;unfold splitB;split
  ·simp only[ML];omega
  ·split
   ·simp
   ·rename_i e;rw[e]at ih;simp only[ML]at ih⊢;omega
end Go.Pd
namespace Go.Pd
open Go.AL
theorem Eb(s:Str):(jm s).length<=s.length:=(List.takeWhile_sublist _).length_le
end Go.Pd
namespace Go.Pd
open Go.AL
end Go.Pd
namespace Go.Pd
open Go.AL
end Go.Pd
end
section
namespace Go.AL
open Go.Proofs Go.Shelf Go.RowKit Go.Pd
theorem ir{c:UInt8}:∀{s:Str},Lib.indexByte s c=-1->c∉s
 |[],_=>O5
 |b::r,h=>by
  unfold Lib.indexByte at h;by_cases e:b=c
  ·subst e;simp at h
  ·have e':(b ==c)=false:=Oc.2 e;rw[e']at h;simp only[N7,N1]at h;have hg:=Lib.indexByte_ge r c;split at h
   ·rename_i k;have:=ir (s:=r) (by simpa using k);rw[MJ,Ps];exact⟨fun q=>e q.symm,this⟩
   ·omega
theorem gh{c:UInt8}:∀{s:Str},Lib.indexByte s c≠-1->∃k:Nat,Lib.indexByte s c=k/\k<s.length/\s=s.take k++c::s.drop (k+1)/\c∉s.take k
 |[],h=>absurd rfl h
 |b::r,h=>by
  unfold Lib.indexByte at h⊢;by_cases e:b=c
  ·subst e;refine⟨0,by simp,by simp,by simp,by simp⟩
  ·have e':(b ==c)=false:=Oc.2 e;rw[e']at h⊢;simp only[N7,N1]at h⊢;split at h
   ·exact absurd rfl h
   ·rename_i k;obtain⟨j,j1,j2,j3,j4⟩:=gh (s:=r) (by simpa using k);rw[Mp k];refine⟨j+1,by rw[j1];rfl,by simp;omega,?_,?_⟩
    ·rw[NV,Oy,Ng,<-j3]
    ·rw[NV,MJ,Ps];exact⟨fun q=>e q.symm,j4⟩
theorem sb{c:UInt8}:∀{s:Str},c∉s->splitB c s=[s]
 |[],_=>rfl
 |b::r,h=>by rw[MJ,Ps]at h;unfold splitB;rw[Mp (fun e=>h.1 e.symm),sb h.2]
theorem um{c:UInt8}:∀{a:Str} (r:Str),c∉a->splitB c (a++c::r)=a::splitB c r
 |[],r,_=>by rw[Nc,splitB,Mu rfl]
 |b::a,r,h=>by rw[MJ,Ps]at h;rw[Ng,splitB,Mp (fun e=>h.1 e.symm),um r h.2]
theorem sd(c:UInt8):∀(n:Nat)(s:Str),s.length<=n->Lib.splitK [c] 0 (s.count c) s=splitB c s
 |n,s,hn=>by
  by_cases h:Lib.indexByte s c=-1
  ·have hm:=ir h;rw[List.count_eq_zero.2 hm,sb hm];rfl
  ·obtain⟨k,k1,k2,k3,k4⟩:=gh h;have hc:s.count c=(s.drop (k+1)).count c+1:=by have e:=NT (List.count c) k3;rw[List.count_append,List.count_cons_self,List.count_eq_zero.2 k4]at e;omega
   rw[hc];unfold Lib.splitK;rw[Lib.index_one,Mp (by simpa using h),k1];have hd:(k:Int).toNat+[c].length=k+1:=rfl;have ht:(k:Int).toNat+0=k:=rfl;rw[hd,ht]
   cases n with
   |zero=>omega
   |succ n=>
    rw[sd c n (s.drop (k+1)) (by rw[O6];omega)];conv=>rhs;rw[k3]
    rw[um _ k4]
theorem nF{c:UInt8}:∀{a:Str} (r:Str),c∉a->(a++c::r).takeWhile (fun b=>!decide (b=c))=a
 |[],r,_=>by simp
 |b::a,r,h=>by rw[MJ,Ps]at h;have hb:¬b=c:=fun e=>h.1 e.symm;rw[Ng,List.takeWhile_cons];simp only[hb,Px,Pg,Nu];rw[nF r h.2]
theorem tI{c:UInt8}{s:Str}(h:c∉s):s.takeWhile (fun b=>!decide (b=c))=s:=by
 induction s with
 |nil=>rfl
 |cons b r ih=>rw[MJ,Ps]at h;have hb:¬b=c:=fun e=>h.1 e.symm;rw[List.takeWhile_cons];simp only[hb,Px,Pg,Nu];rw[ih h.2]
theorem Gx(s:Str):Lib.cut s [45]=(jm s,mU s,oJ s):=by
 unfold Lib.cut;rw[Lib.index_one];by_cases h:Lib.indexByte s 45=-1
 ·have hm:=ir h;rw[h,Mp (by decide)];have e:jm s=s:=tI hm;unfold mU oJ;rw[e,NG (by omega)];simp
 ·obtain⟨k,k1,k2,k3,k4⟩:=gh h;rw[k1,Mu (by omega)]
  have e:jm s=s.take k:=by
   unfold jm;conv=>lhs;rw[k3]
   exact nF _ k4
  have hl:(s.take k).length=k:=by rw[NI];omega
  unfold mU oJ;rw[e,hl];simp[k2]
theorem J0(s:Str)(c:Int)(h0:0<=c)(h1:c<=255):∀k:Nat,bP (fun b=>!decide (bI b=c)) s k=if Lib.indexByte s c.toNat.toUInt8=-1 then -1 else Lib.indexByte s c.toNat.toUInt8+k:=by
 have hb:∀b:UInt8,(bI b=c)↔b=c.toNat.toUInt8:=by
  intro b;unfold bI;constructor
  ·intro e;have:c.toNat=b.toNat:=by omega
   rw[this];simp
  ·intro e;rw[e];simp[Nat.toUInt8];omega
 induction s with
 |nil=>intro k;rfl
 |cons b r ih=>
  intro k;rw[bP];by_cases e:bI b=c
  ·have e2:=(hb b).1 e;rw[Mp (by simp[e])];unfold Lib.indexByte;rw[e2];simp
  ·have e2:(b ==c.toNat.toUInt8)=false:=Oc.2 (fun q=>e ((hb b).2 q));rw[Mu (by simp[e]),ih (k+1)];have hg:=Lib.indexByte_ge r c.toNat.toUInt8;have e3:Lib.indexByte (b::r) c.toNat.toUInt8=(if b ==c.toNat.toUInt8 then 0 else if Lib.indexByte r c.toNat.toUInt8 ==-1 then -1 else Lib.indexByte r c.toNat.toUInt8+1):=rfl;rw[e3,e2];simp only[N7,N1,Nd];by_cases q:Lib.indexByte r c.toNat.toUInt8=-1
   ·rw[Mu q,Mu q];rfl
   ·rw[Mp q,Mp q,Mp (by omega)];omega
theorem xz(s:Str)(c:UInt8):decide (0<=Lib.indexByte s c)=decide (c∈s):=by
 have hg:=Lib.indexByte_ge s c;rw[Nn];by_cases h:Lib.indexByte s c=-1
 ·exact⟨fun e=>by omega,fun e=>absurd e (ir h)⟩
 ·obtain⟨k,k1,k2,k3,k4⟩:=gh h;exact⟨fun _=>by rw[k3];simp,fun _=>by omega⟩
variable [Tabs] {P:Program} {ρ:Ren}
theorem Below.drawn(w:World)(n:Nat):Below w.heap.size w (w.drewN n):=⟨rfl,rfl,rfl,Mx _,fun _ _=>rfl⟩
theorem After.news{w w':World}{pub:Nat->Nat->Prop}{e:Nat->Option CObj}(hp:kD w pub)(hd:∀id,e id=none)(hb:Below w.heap.size w w'){p:Nat->Prop}(hc:∀o,p o->∃v,w'.cell? ⟨w.heap.size,o,none⟩=some v) :
  After w pub e (ak (ca [] [])) w' (fun b o=>pub b o∨(b=w.heap.size/\p o)) e where
 os:=hb.os
 tape:=hb.tape
 output:=hb.output
 size:=hb.size
 block b h _:=hb.block b h
 cell b o h _:=aj (hb.block b h) o
 kind b h _:=⟨ba (hb.block b h),fun o=>aM (hb.block b h) o⟩
 ext:=⟨fun _ c h=>⟨c,h,CLe.refl c⟩,fun _ _ h=>.inl h,fun b o h=>by obtain⟨v,hv⟩:=hp b o h;exact aj (hb.block b (aT hv)) o⟩
 fresh b o h:=by
  rcases h with h|⟨rfl,_⟩
  ·exact .inl h
  ·exact .inr (.inl (Mx _))
 ok b o h:=by
  rcases h with h|⟨rfl,h⟩
  ·obtain⟨v,hv⟩:=hp b o h;exact⟨v,(aj (hb.block b (aT hv)) o).trans hv⟩
  ·exact hc o h
 slots id o h:=by simp[ca,aL,aI]at h
 dom id _:=hd id
 inj i j c d b o h:=by rw[hd i]at h;cases h
theorem eF{f:Nat}{args:List AV}{A:AV}{ob:Option Prop}(h:∀(w:World)(pub:Nat->Nat->Prop)(vs:List Value),iD w pub (fun _=>none)->VL ⟨fun _=>none,w,pub⟩ args vs->Calls P f vs.toArray w fun e w'=>(∃v,e=.returned v/\∀Ω,V Ω A v)/\Below w.heap.size w w') :
  aw P f args [] ⟨ob,none,A,[]⟩:=by
 intro w pub e vs hp ht hv hs hd hi;have he:e=fun _=>none:=funext fun id=>hd id rfl;subst he;refine(h w pub vs ht hv).mono ?_;rintro en w' ⟨⟨v,rfl,hV⟩,hb⟩;exact⟨pub,_,And.intro (fun b pv u h=>by cases h) (And.intro (hV _) (After.below hp (fun _=>rfl) hb))⟩
theorem VL.two_str{Ω:Om}{a b:Str}{vs:List Value}(h:VL Ω [.str a,.str b] vs):vs=[.string ⟨a.toArray⟩,.string ⟨b.toArray⟩]/\a.length<=b9/\b.length<=b9:=by obtain⟨v1,v2,rfl,h1,h2⟩:=VL.two_inv h;obtain⟨rfl,l1⟩:=h1.str_inv;obtain⟨rfl,l2⟩:=h2.str_inv;exact⟨rfl,l1,l2⟩
def J1:Pat:=p2 .str .str fun a b=>⟨some (b=s6),none,.str (s7 a),[]⟩
set_option maxRecDepth 100000 in
theorem Gy(b:UInt8):s6.contains b=pG b:=by
 have h:∀b:Fin 256,s6.contains (UInt8.ofNat b.val)=pG (UInt8.ofNat b.val):=by decide
 have:=h ⟨b.toNat,b.toNat_lt⟩;simpa using this
theorem Ao{f:Nat}(L:Lays.n160 P ρ)(h116:(P.info? (ρ.t 116)).map (fun i=>(i.zero,i.size))=some (some (.agg (Array.replicate 256 (.bool false))),256))(hf:ρ.f 160=f)(he:au P f):ag P f J1:=by
 subst hf;refine dx he fun a b _ _ ho=>?_;have hb:=ho _ rfl;subst hb;refine eF fun w pub vs _ hv=>?_;obtain⟨rfl,l1,l2⟩:=VL.two_str hv;have l1':a.length<=9223372036854775807:=l1;refine(Any.strings_Trim_laid L h116 ⟨a.toArray⟩ ⟨s6.toArray⟩ w (by simpa[ByteArray.size]using l1') (by decide) (fun j b hj=>?_)).mono ?_
 ·have hd:∀b∈s6,b.toNat<128:=by decide
  exact hd b (MN hj)
 ·rintro en w' ⟨rfl,hb⟩;refine⟨⟨_,rfl,fun Ω=>?_⟩,hb⟩;have e:Lib.trimS a s6=s7 a:=by have ef:(fun b=>s6.contains b)=pG:=funext Gy;unfold Lib.trimS Lib.trimLeftS Lib.trimRightS s7;rw[ef]
  have e2:(⟨a.toArray⟩:ByteArray).data.toList=a:=rfl;have e3:(⟨s6.toArray⟩:ByteArray).data.toList=s6:=rfl;rw[e2,e3,e];exact .str _ (NA (Gv a) l1)
def L9:Pat:=p2 .str .str fun a b=>⟨some (b=[45]/\a.length<4294967281),none,.tup [.str (jm a),.str (mU a),.bool (oJ a)],[]⟩
theorem Ec{f:Nat}{m:Int}(L:Lays.n145 P ρ)(hm:Tabs.tab (ρ.g 1) 0 (.int .i64 m))(hf:ρ.f 145=f)(he:au P f):ag P f L9:=by
 subst hf;refine dx he fun a b _ _ ho=>?_;obtain⟨hb,hl⟩:=ho _ rfl;subst hb;refine eF fun w pub vs ht hv=>?_;obtain⟨rfl,l1,l2⟩:=VL.two_str hv;refine(Any.strings_Cut L ⟨a.toArray⟩ ⟨([45]:Str).toArray⟩ m w (by simpa[ByteArray.size]using hl) (ht.1 _ _ _ hm).2).mono ?_;rintro en w' ⟨rfl,n,rfl⟩;refine⟨⟨_,rfl,fun Ω=>?_⟩,Below.drawn w n⟩;have e2:(⟨a.toArray⟩:ByteArray).data.toList=a:=rfl;have e3:(⟨([45]:Str).toArray⟩:ByteArray).data.toList=[45]:=rfl;rw[e2,e3,Gx];refine V.of_tup (VL.cons (.str _ ?_) (VL.cons (.str _ ?_) (VL.cons (.bool _) .nil)))
 ·exact NA (Eb a) l1
 ·unfold mU;rw[O6];exact NA (Nat.sub_le _ _) l1
def xA:Pat:=p2 .str .str fun a b=>⟨some (b.length=1),none,.bool (decide (b.getD 0 0∈a)),[]⟩
theorem se{f:Nat}(L:Lays.n144 P ρ)(hf:ρ.f 144=f)(he:au P f):ag P f xA:=by
 subst hf;refine dx he fun a b _ _ ho=>?_;have hb:b.length=1:=ho _ rfl
 obtain⟨c,rfl⟩:∃c,b=[c]:=by
  match b,hb with
  |[c],_=>exact⟨c,rfl⟩
 refine eF fun w pub vs ht hv=>?_;obtain⟨rfl,l1,l2⟩:=VL.two_str hv;refine(Any.strings_Contains_one L ⟨a.toArray⟩ c w).mono ?_;rintro en w' ⟨rfl,rfl⟩;refine⟨⟨_,rfl,fun Ω=>?_⟩,Below.refl _ _⟩;have e2:(⟨a.toArray⟩:ByteArray).data.toList=a:=rfl;rw[e2,xz];exact .bool _
def vT:Pat:=p2 .str (.int .u8) fun a c=>.ret (.int .i64 (Gu a c))
theorem pW{f:Nat}(L:Lays.n137 P ρ)(hf:ρ.f 137=f)(he:au P f):ag P f vT:=by
 subst hf;refine dx he fun a c _ _ ho=>?_;refine eF fun w pub vs ht hv=>?_;obtain⟨v1,v2,rfl,h1,h2⟩:=VL.two_inv hv;obtain⟨rfl,l1⟩:=h1.str_inv;obtain⟨rfl,c1,c2⟩:=(show V _ (.int .u8 c) v2 from h2).int_inv;have c1:(0:Int)<=c:=c1;have c2:c<=(255:Int):=c2;refine(Any.strings_IndexByte L ⟨a.toArray⟩ c w).mono ?_;rintro en w' ⟨rfl,rfl⟩;refine⟨⟨_,rfl,fun Ω=>?_⟩,Below.refl _ _⟩;have e2:(⟨a.toArray⟩:ByteArray).data.toList=a:=rfl
 have e:Gu a c=Lib.indexByte a c.toNat.toUInt8:=by
  unfold Gu;rw[J0 a c c1 c2 0];split
  ·rename_i h;exact h.symm
  ·simp
 rw[e2,e];have hg:=Lib.indexByte_ge a c.toNat.toUInt8
 have hu:Lib.indexByte a c.toNat.toUInt8<=(a.length:Int):=by
  by_cases q:Lib.indexByte a c.toNat.toUInt8=-1
  ·omega
  ·obtain⟨k,k1,k2,_⟩:=gh q;omega
 have l1':a.length<=9223372036854775807:=l1;have b1:inR .i64 (Lib.indexByte a c.toNat.toUInt8):=ai (by omega) (by omega);exact .int _ _ b1.1 b1.2
def Gz:Pat:=p2 .str .str fun a b=>⟨some (b=[46]/\a.length<4294967281),none,.lst .str (splitB 46 a) none,[]⟩
theorem sf(c:UInt8):∀(s:Str),∀x∈splitB c s,x.length<=s.length
 |[],x,h=>by rw[Nf.1 h];exact Mx _
 |b::r,x,h=>by
  have ih:=sf c r;unfold splitB at h;split at h
  ·rcases MJ.1 h with e|e
   ·rw[e];exact ME _
   ·have:=ih x e;rw[ML];omega
  ·split at h
   ·rw[Nf.1 h,ML];simp
   ·rename_i p ps e0;rcases MJ.1 h with e|e
    ·have:=ih p (by rw[e0];exact N2 ..);rw[e,ML,ML];omega
    ·have:=ih x (by rw[e0];exact MK _ e);rw[ML];omega
theorem xB{f:Nat}{m:Int}(L:Lays.n146 P ρ)(hi9:(P.info? (ρ.t 9)).map (fun i=>(i.zero,i.size,i.bytes))=some (some (.string ByteArray.empty),1,16))(hm:Tabs.tab (ρ.g 1) 0 (.int .i64 m))(hf:ρ.f 146=f)(he:au P f):ag P f Gz:=by
 subst hf;refine dx he fun a b _ _ ho=>?_;obtain⟨hb,hl⟩:=ho _ rfl;subst hb;intro w pub e vs hp ht hv hs hd hi;obtain⟨rfl,l1,l2⟩:=VL.two_str hv;have l1':a.length<=9223372036854775807:=l1;refine(Any.strings_Split L hi9 ⟨a.toArray⟩ ⟨([46]:Str).toArray⟩ m w (by simpa[ByteArray.size]using hl) (ht.1 _ _ _ hm).2 (by decide)).mono ?_;rintro en w' ⟨rfl,rfl⟩;have e2:(⟨a.toArray⟩:ByteArray).data.toList=a:=rfl;have e3:(⟨([46]:Str).toArray⟩:ByteArray).data.toList=[46]:=rfl;have hcount:Lib.countB ⟨a.toArray⟩ ⟨([46]:Str).toArray⟩=a.count 46:=by show Lib.count a [46]=_;rw[Lib.count_one]
 have hsp:(Lib.splitB ⟨([46]:Str).toArray⟩ 0 (Lib.countB ⟨a.toArray⟩ ⟨([46]:Str).toArray⟩) ⟨a.toArray⟩).map (·.data.toList)=splitB 46 a:=by rw[Lib.splitB_data,hcount];exact sd 46 a.length a (Mx _)
 generalize Lib.splitB ⟨([46]:Str).toArray⟩ 0 (Lib.countB ⟨a.toArray⟩ ⟨([46]:Str).toArray⟩) ⟨a.toArray⟩=bs at hsp
 have hcl:(splitB 46 a).length=Lib.countB ⟨a.toArray⟩ ⟨([46]:Str).toArray⟩+1:=by
  rw[hcount]
  have:∀s:Str,(splitB 46 s).length=s.count 46+1:=by
   intro s
   induction s with
   |nil=>rfl
   |cons b r ih=>
    unfold splitB;split
    ·rename_i h;subst h;rw[ML,ih,List.count_cons_self]
    ·rename_i h;rw[List.count_cons_of_ne h];split
     ·rename_i e0;rw[e0]at ih;simp at ih
     ·rename_i p ps e0;rw[e0]at ih;simpa using ih
  exact this a
 have hbl:bs.length=(splitB 46 a).length:=by rw[<-hsp,MZ]
 have hsz:=mD 46 a;rw[<-hcl];have hnew:(w.alloc (.cells (bs.map Value.string).toArray (ρ.t 9))).heap[w.heap.size]?=some (.cells (bs.map Value.string).toArray (ρ.t 9) (0,0)):=bz _ _;have hbw:Below w.heap.size w (w.alloc (.cells (bs.map Value.string).toArray (ρ.t 9))):=⟨rfl,rfl,rfl,by simp,fun b hb=>gZ _ _ _ hb⟩;refine⟨fun b o=>pub b o∨(b=w.heap.size/\o<bs.length),e,And.intro (fun b pv u h=>by cases h) (And.intro ?_ (After.news hp (fun id=>hd id rfl) hbw (p:=fun o=>o<bs.length) (fun o ho=>?_)))⟩
 ·refine rf (Ω:=⟨e,w.alloc (.cells (bs.map Value.string).toArray (ρ.t 9)),fun b o=>pub b o∨(b=w.heap.size/\o<bs.length)⟩) (τ:=.str) (xs:=splitB 46 a) (vs:=bs.map Value.string) hnew ?_ ?_ (Mx _) (by unfold b9;omega) (fun i hi=>.inr ⟨rfl,by rw[hbl];simpa[ab]using hi⟩) (fun id hid=>by cases hid)
  ·have e1:(splitB 46 a).length *ab .str=bs.length:=by rw[hbl];exact PE _
   rw[e1];exact NH (by simp)
  ·have ef:flat .str (splitB 46 a)=(splitB 46 a).map AV.str:=by unfold flat;rw[OY];rfl
   rw[ef,<-hsp];refine⟨by simp,fun j c v hc hv=>?_⟩;rw[PJ,MS,MM]at hc;rw[MS,MM]at hv;obtain⟨x,hx,rfl⟩:=hc;obtain⟨y,hy,rfl⟩:=hv;rw[hx]at hy;cases hy;have hmem:x.data.toList∈splitB 46 a:=by rw[<-hsp];exact List.mem_map_of_mem (MN hx)
   have hle:=sf 46 a _ hmem;have:=V.str (Ω:=⟨e,w.alloc (.cells (bs.map Value.string).toArray (ρ.t 9)),fun b o=>pub b o∨(b=w.heap.size/\o<bs.length)⟩) x.data.toList (NA hle l1);exact this
 ·rw[aq hnew];exact⟨_,Nz (by simpa using ho)⟩
def nG[Tabs](g3 g4:Nat):Prop:=
 (∀c,c<256->Tabs.tab g3 c (.int .u8 (Lib.firstT c)))/\(∀i,i<16->Tabs.tab g4 (2 *i) (.int .u8 (Lib.accLo i))/\Tabs.tab g4 (2 *i+1) (.int .u8 (Lib.accHi i)))
theorem nG.tabs{g3 g4:Nat}(h:nG g3 g4){w:World}{pub:Nat->Nat->Prop}{e:Nat->Option CObj}(ht:iD w pub e):Lib.Utf8Tabs g3 g4 w:=
 ⟨fun c hc=>(ht.1 _ _ _ (h.1 c hc)).2,fun i hi=>⟨(ht.1 _ _ _ (h.2 i hi).1).2,(ht.1 _ _ _ (h.2 i hi).2).2⟩⟩
theorem J2(s:Str)(k:Nat)(h:k<s.length):((⟨s.toArray⟩:ByteArray).get! k)=s.getD k 0:=by rw[Utf8W.get!_of_lt _ k (by simpa[ByteArray.size]using h)];have:(⟨s.toArray⟩:ByteArray)[k]'(by simpa[ByteArray.size]using h)=s[k]:=rfl;rw[this];simp[Ms,h]
theorem xC(n b0 b1 b2 b3 c1 c2 c3:Nat)(h1:1<n->b1=c1)(h2:2<n->b2=c2)(h3:3<n->b3=c3):Lib.decodeN n b0 b1 b2 b3=Lib.decodeN n b0 c1 c2 c3:=by
 rcases Mz 3 n with k|k
 ·rw[h1 (by omega),h2 (by omega),h3 k]
 rcases Mz 2 n with k2|k2
 ·rw[h1 (by omega),h2 k2];unfold Lib.decodeN;have e:¬3<n:=by omega
  simp only[e,false_and,and_false,N1]
 rcases Mz 1 n with k1|k1
 ·rw[h1 k1];unfold Lib.decodeN;have e:¬3<n:=by omega
  have e':¬2<n:=by omega
  simp only[e,e',false_and,and_false,N1]
 ·unfold Lib.decodeN;have e:¬3<n:=by omega
  have e':¬2<n:=by omega
  have e'':¬1<n:=by omega
  simp only[e,e',e'',false_and,and_false,N1]
theorem pH(s:Str):Lib.decodeGo ⟨s.toArray⟩=kj s:=by
 unfold Lib.decodeGo kj;have hs:(⟨s.toArray⟩:ByteArray).size=s.length:=by simp[ByteArray.size]
 rw[hs];by_cases h:s=[]
 ·subst h;rfl
 have hl:=NM.2 h;rw[Mp (by omega),Mp h,Lib.decode_at,hs,OT,J2 s 0 hl];exact xC _ _ _ _ _ _ _ _ (fun k=>by rw[J2 s 1 k]) (fun k=>by rw[J2 s 2 k]) (fun k=>by rw[J2 s 3 k])
def tJ:Pat:=p1 .str fun s=>.ret (.tup [.int .i32 ((kj s).1:Int),.int .i64 ((kj s).2:Int)])
theorem Ap(s:Str):(kj s).1<=1114111/\(kj s).2<=s.length:=by
 by_cases h:s=[]
 ·subst h;decide
 ·have:=s8 h;exact⟨this.2.2.1,this.2.2.2.2⟩
theorem oK{f:Nat}(L:Lays.n197 P ρ)(hu:nG (ρ.g 3) (ρ.g 4))(hf:ρ.f 197=f)(he:au P f):ag P f tJ:=by subst hf;refine aW he fun s _ ho=>?_;refine eF fun w pub vs ht hv=>?_;obtain⟨v,rfl,h1⟩:=VL.one_inv hv;obtain⟨rfl,hl⟩:=h1.str_inv;have hl':s.length<=9223372036854775807:=hl;refine(Any.utf8_DecodeRuneInString L ⟨s.toArray⟩ w (hu.tabs ht)).mono ?_;rintro en w' ⟨rfl,hb⟩;refine⟨⟨_,rfl,fun Ω=>?_⟩,hb⟩;rw[pH];obtain⟨d1,d2⟩:=Ap s;exact V.of_tup (VL.cons (.int .i32 _ (by show(-2147483648:Int)<=_;omega) (by show _<=(2147483647:Int);omega)) (VL.cons (.int .i64 _ (by show(-9223372036854775808:Int)<=_;omega) (by show _<=(9223372036854775807:Int);omega)) .nil))
theorem sg:∀(n:Nat)(l:Str)(k:Nat),Lib.validGoD n l=(jE n l k).isNone
 |0,_,_=>rfl
 |n+1,l,k=>by
  unfold Lib.validGoD;rw[jE];by_cases h:l=[]
  ·rw[Mu h,Mu h];rfl
  rw[Mp h,Mp h]
  have hd:Lib.decodeL l=kj l:=by
   rw[<-pH];unfold Lib.decodeL Lib.decodeGo
   rw[Mp (by
    have:=NM.2 h;simp[ByteArray.size];exact h)]
  obtain⟨b1,b2,_⟩:=s8 h;rw[hd];by_cases u:iM l=0
  ·rw[Mu (b1.2 u),Mu u];rfl
  ·rw[Mp (fun e=>u (b1.1 e)),Mp u,b2 u];exact sg n _ _
def GA:Pat:=p1 .str fun s=>.ret (.bool (lk s).isNone)
theorem xD{f:Nat}(L:Lays.n196 P ρ)(hu:nG (ρ.g 3) (ρ.g 4))(hf:ρ.f 196=f)(he:au P f):ag P f GA:=by subst hf;refine aW he fun s _ ho=>?_;refine eF fun w pub vs ht hv=>?_;obtain⟨v,rfl,h1⟩:=VL.one_inv hv;obtain⟨rfl,hl⟩:=h1.str_inv;have hl':s.length<=9223372036854775807:=hl;refine(Any.utf8_ValidString L ⟨s.toArray⟩ w (by simpa[ByteArray.size]using hl') (hu.tabs ht)).mono ?_;rintro en w' ⟨rfl,hb⟩;refine⟨⟨_,rfl,fun Ω=>?_⟩,hb⟩;have e:Lib.validD s=(lk s).isNone:=sg s.length s 0;have e2:(⟨s.toArray⟩:ByteArray).data.toList=s:=rfl;rw[e2,e];exact .bool _
end Go.AL
end
section
namespace Go.Proofs
open Go.Shelf
def Tryz.lays160_ren:Go.Shelf.Ren:=⟨fun|160=>108|232=>145|231=>144|227=>146|234=>148|233=>147|236=>150|235=>149|228=>183|271=>185|151=>184|197=>143|120=>216|152=>215|260=>182|137=>156|119=>244|224=>245|225=>246|217=>191|266=>225|n=>n,fun|9=>9|4=>4|3=>3|5=>5|117=>220|116=>219|0=>0|124=>223|21=>21|105=>215|46=>124|119=>248|139=>251|138=>250|n=>n,fun|3=>0|4=>1|n=>n⟩
theorem Tryz.lays160:Go.Proofs.Lays.n160 Tryz.prog Tryz.lays160_ren:={
 mixed:=by kernel_rfl
 f119:=Xt Tryz.func244
 f120:=Xt Tryz.func216
 f137:=Xt Tryz.func156
 f151:=Xt Tryz.func184
 f152:=Xt Tryz.func215
 f160:=Xt Tryz.func108
 f197:=Xt Tryz.func143
 f217:=Xt Tryz.func191
 f224:=Xt Tryz.func245
 f225:=Xt Tryz.func246
 f227:=Xt Tryz.func146
 f228:=Xt Tryz.func183
 f231:=Xt Tryz.func144
 f232:=Xt Tryz.func145
 f233:=Xt Tryz.func147
 f234:=Xt Tryz.func148
 f235:=Xt Tryz.func149
 f236:=Xt Tryz.func150
 f260:=Xt Tryz.func182
 f266:=Xt Tryz.func225
 f271:=Xt Tryz.func185
 t0:=Tryz.underlying0
 a0:=Tryz.isAgg0
 z0:=Tryz.sizeOf0
 v0:=Tryz.zeroValue0
 t3:=Tryz.underlying3
 a3:=Tryz.isAgg3
 z3:=Tryz.sizeOf3
 v3:=Tryz.zeroValue3
 t4:=Tryz.underlying4
 a4:=Tryz.isAgg4
 z4:=Tryz.sizeOf4
 v4:=Tryz.zeroValue4
 t5:=Tryz.underlying5
 a5:=Tryz.isAgg5
 z5:=Tryz.sizeOf5
 v5:=Tryz.zeroValue5
 t9:=Tryz.underlying9
 a9:=Tryz.isAgg9
 z9:=Tryz.sizeOf9
 v9:=Tryz.zeroValue9
 t21:=Tryz.underlying21
 a21:=Tryz.isAgg21
 z21:=Tryz.sizeOf21
 v21:=Tryz.zeroValue21
 t46:=Tryz.underlying124
 a46:=Tryz.isAgg124
 z46:=Tryz.sizeOf124
 v46:=Tryz.zeroValue124
 t105:=Tryz.underlying215
 a105:=Tryz.isAgg215
 z105:=Tryz.sizeOf215
 v105:=Tryz.zeroValue215
 t116:=Tryz.underlying219
 a116:=Tryz.isAgg219
 z116:=Tryz.sizeOf219
 t117:=Tryz.underlying220
 a117:=Tryz.isAgg220
 z117:=Tryz.sizeOf220
 v117:=Tryz.zeroValue220
 t119:=Tryz.underlying248
 a119:=Tryz.isAgg248
 z119:=Tryz.sizeOf248
 t124:=Tryz.underlying223
 a124:=Tryz.isAgg223
 z124:=Tryz.sizeOf223
 v124:=Tryz.zeroValue223
 t138:=Tryz.underlying250
 a138:=Tryz.isAgg250
 z138:=Tryz.sizeOf250
 v138:=Tryz.zeroValue250
 t139:=Tryz.underlying251
 a139:=Tryz.isAgg251
 z139:=Tryz.sizeOf251
 v139:=Tryz.zeroValue251
 g3:=by kernel_rfl
 g4:=by kernel_rfl}
def Tryz.lays145_ren:Go.Shelf.Ren:=⟨fun|145=>151|220=>186|219=>217|217=>191|225=>246|224=>245|267=>247|266=>225|314=>261|n=>n,fun|9=>9|4=>4|59=>224|3=>3|5=>5|46=>124|146=>295|51=>280|n=>n,fun|1=>2|n=>n⟩
theorem Tryz.lays145:Go.Proofs.Lays.n145 Tryz.prog Tryz.lays145_ren:={
 mixed:=by kernel_rfl
 f145:=Xt Tryz.func151
 f217:=Xt Tryz.func191
 f219:=Xt Tryz.func217
 f220:=Xt Tryz.func186
 f224:=Xt Tryz.func245
 f225:=Xt Tryz.func246
 f266:=Xt Tryz.func225
 f267:=Xt Tryz.func247
 f314:=Xt Tryz.func261
 t3:=Tryz.underlying3
 a3:=Tryz.isAgg3
 z3:=Tryz.sizeOf3
 v3:=Tryz.zeroValue3
 t4:=Tryz.underlying4
 a4:=Tryz.isAgg4
 z4:=Tryz.sizeOf4
 v4:=Tryz.zeroValue4
 t5:=Tryz.underlying5
 a5:=Tryz.isAgg5
 z5:=Tryz.sizeOf5
 v5:=Tryz.zeroValue5
 t9:=Tryz.underlying9
 a9:=Tryz.isAgg9
 z9:=Tryz.sizeOf9
 v9:=Tryz.zeroValue9
 t46:=Tryz.underlying124
 a46:=Tryz.isAgg124
 z46:=Tryz.sizeOf124
 v46:=Tryz.zeroValue124
 t51:=Tryz.underlying280
 a51:=Tryz.isAgg280
 z51:=Tryz.sizeOf280
 v51:=Tryz.zeroValue280
 t59:=Tryz.underlying224
 a59:=Tryz.isAgg224
 z59:=Tryz.sizeOf224
 v59:=Tryz.zeroValue224
 t146:=Tryz.underlying295
 a146:=Tryz.isAgg295
 z146:=Tryz.sizeOf295
 v146:=Tryz.zeroValue295
 g1:=by kernel_rfl}
def Tryz.lays146_ren:Go.Shelf.Ren:=⟨fun|146=>152|221=>187|268=>218|138=>219|143=>192|195=>248|197=>143|218=>249|219=>217|260=>182|217=>191|225=>246|224=>245|267=>247|266=>225|314=>261|n=>n,fun|9=>9|31=>22|3=>3|4=>4|0=>0|105=>215|21=>21|5=>5|46=>124|119=>248|139=>251|138=>250|146=>295|51=>280|n=>n,fun|1=>2|3=>0|4=>1|n=>n⟩
theorem Tryz.lays146:Go.Proofs.Lays.n146 Tryz.prog Tryz.lays146_ren:={
 mixed:=by kernel_rfl
 f138:=Xt Tryz.func219
 f143:=Xt Tryz.func192
 f146:=Xt Tryz.func152
 f195:=Xt Tryz.func248
 f197:=Xt Tryz.func143
 f217:=Xt Tryz.func191
 f218:=Xt Tryz.func249
 f219:=Xt Tryz.func217
 f221:=Xt Tryz.func187
 f224:=Xt Tryz.func245
 f225:=Xt Tryz.func246
 f260:=Xt Tryz.func182
 f266:=Xt Tryz.func225
 f267:=Xt Tryz.func247
 f268:=Xt Tryz.func218
 f314:=Xt Tryz.func261
 t0:=Tryz.underlying0
 a0:=Tryz.isAgg0
 z0:=Tryz.sizeOf0
 v0:=Tryz.zeroValue0
 t3:=Tryz.underlying3
 a3:=Tryz.isAgg3
 z3:=Tryz.sizeOf3
 v3:=Tryz.zeroValue3
 t4:=Tryz.underlying4
 a4:=Tryz.isAgg4
 z4:=Tryz.sizeOf4
 v4:=Tryz.zeroValue4
 t5:=Tryz.underlying5
 a5:=Tryz.isAgg5
 z5:=Tryz.sizeOf5
 v5:=Tryz.zeroValue5
 t9:=Tryz.underlying9
 a9:=Tryz.isAgg9
 z9:=Tryz.sizeOf9
 v9:=Tryz.zeroValue9
 t21:=Tryz.underlying21
 a21:=Tryz.isAgg21
 z21:=Tryz.sizeOf21
 v21:=Tryz.zeroValue21
 t31:=Tryz.underlying22
 a31:=Tryz.isAgg22
 z31:=Tryz.sizeOf22
 v31:=Tryz.zeroValue22
 t46:=Tryz.underlying124
 a46:=Tryz.isAgg124
 z46:=Tryz.sizeOf124
 v46:=Tryz.zeroValue124
 t51:=Tryz.underlying280
 a51:=Tryz.isAgg280
 z51:=Tryz.sizeOf280
 v51:=Tryz.zeroValue280
 t105:=Tryz.underlying215
 a105:=Tryz.isAgg215
 z105:=Tryz.sizeOf215
 v105:=Tryz.zeroValue215
 t119:=Tryz.underlying248
 a119:=Tryz.isAgg248
 z119:=Tryz.sizeOf248
 t138:=Tryz.underlying250
 a138:=Tryz.isAgg250
 z138:=Tryz.sizeOf250
 v138:=Tryz.zeroValue250
 t139:=Tryz.underlying251
 a139:=Tryz.isAgg251
 z139:=Tryz.sizeOf251
 v139:=Tryz.zeroValue251
 t146:=Tryz.underlying295
 a146:=Tryz.isAgg295
 z146:=Tryz.sizeOf295
 v146:=Tryz.zeroValue295
 g1:=by kernel_rfl
 g3:=by kernel_rfl
 g4:=by kernel_rfl}
def Tryz.lays144_ren:Go.Shelf.Ren:=⟨fun|144=>158|143=>192|219=>217|217=>191|225=>246|224=>245|267=>247|266=>225|314=>261|n=>n,fun|9=>9|4=>4|3=>3|5=>5|46=>124|146=>295|51=>280|n=>n,fun|1=>2|n=>n⟩
theorem Tryz.lays144:Go.Proofs.Lays.n144 Tryz.prog Tryz.lays144_ren:={
 mixed:=by kernel_rfl
 f143:=Xt Tryz.func192
 f144:=Xt Tryz.func158
 f217:=Xt Tryz.func191
 f219:=Xt Tryz.func217
 f224:=Xt Tryz.func245
 f225:=Xt Tryz.func246
 f266:=Xt Tryz.func225
 f267:=Xt Tryz.func247
 f314:=Xt Tryz.func261
 t3:=Tryz.underlying3
 a3:=Tryz.isAgg3
 z3:=Tryz.sizeOf3
 v3:=Tryz.zeroValue3
 t4:=Tryz.underlying4
 a4:=Tryz.isAgg4
 z4:=Tryz.sizeOf4
 v4:=Tryz.zeroValue4
 t5:=Tryz.underlying5
 a5:=Tryz.isAgg5
 z5:=Tryz.sizeOf5
 v5:=Tryz.zeroValue5
 t9:=Tryz.underlying9
 a9:=Tryz.isAgg9
 z9:=Tryz.sizeOf9
 v9:=Tryz.zeroValue9
 t46:=Tryz.underlying124
 a46:=Tryz.isAgg124
 z46:=Tryz.sizeOf124
 v46:=Tryz.zeroValue124
 t51:=Tryz.underlying280
 a51:=Tryz.isAgg280
 z51:=Tryz.sizeOf280
 v51:=Tryz.zeroValue280
 t146:=Tryz.underlying295
 a146:=Tryz.isAgg295
 z146:=Tryz.sizeOf295
 v146:=Tryz.zeroValue295
 g1:=by kernel_rfl}
def Tryz.lays137_ren:Go.Shelf.Ren:=⟨fun|137=>156|217=>191|266=>225|n=>n,fun|9=>9|5=>5|3=>3|n=>n,fun|n=>n⟩
theorem Tryz.lays137:Go.Proofs.Lays.n137 Tryz.prog Tryz.lays137_ren:={
 mixed:=by kernel_rfl
 f137:=Xt Tryz.func156
 f217:=Xt Tryz.func191
 f266:=Xt Tryz.func225
 t3:=Tryz.underlying3
 a3:=Tryz.isAgg3
 z3:=Tryz.sizeOf3
 v3:=Tryz.zeroValue3
 t5:=Tryz.underlying5
 a5:=Tryz.isAgg5
 z5:=Tryz.sizeOf5
 v5:=Tryz.zeroValue5
 t9:=Tryz.underlying9
 a9:=Tryz.isAgg9
 z9:=Tryz.sizeOf9
 v9:=Tryz.zeroValue9}
def Tryz.lays197_ren:Go.Shelf.Ren:=⟨fun|197=>143|260=>182|n=>n,fun|9=>9|21=>21|3=>3|4=>4|5=>5|105=>215|119=>248|0=>0|46=>124|139=>251|138=>250|n=>n,fun|3=>0|4=>1|n=>n⟩
theorem Tryz.lays197:Go.Proofs.Lays.n197 Tryz.prog Tryz.lays197_ren:={
 mixed:=by kernel_rfl
 f197:=Xt Tryz.func143
 f260:=Xt Tryz.func182
 t0:=Tryz.underlying0
 a0:=Tryz.isAgg0
 z0:=Tryz.sizeOf0
 v0:=Tryz.zeroValue0
 t3:=Tryz.underlying3
 a3:=Tryz.isAgg3
 z3:=Tryz.sizeOf3
 v3:=Tryz.zeroValue3
 t4:=Tryz.underlying4
 a4:=Tryz.isAgg4
 z4:=Tryz.sizeOf4
 v4:=Tryz.zeroValue4
 t5:=Tryz.underlying5
 a5:=Tryz.isAgg5
 z5:=Tryz.sizeOf5
 v5:=Tryz.zeroValue5
 t9:=Tryz.underlying9
 a9:=Tryz.isAgg9
 z9:=Tryz.sizeOf9
 v9:=Tryz.zeroValue9
 t21:=Tryz.underlying21
 a21:=Tryz.isAgg21
 z21:=Tryz.sizeOf21
 v21:=Tryz.zeroValue21
 t46:=Tryz.underlying124
 a46:=Tryz.isAgg124
 z46:=Tryz.sizeOf124
 v46:=Tryz.zeroValue124
 t105:=Tryz.underlying215
 a105:=Tryz.isAgg215
 z105:=Tryz.sizeOf215
 v105:=Tryz.zeroValue215
 t119:=Tryz.underlying248
 a119:=Tryz.isAgg248
 z119:=Tryz.sizeOf248
 t138:=Tryz.underlying250
 a138:=Tryz.isAgg250
 z138:=Tryz.sizeOf250
 v138:=Tryz.zeroValue250
 t139:=Tryz.underlying251
 a139:=Tryz.isAgg251
 z139:=Tryz.sizeOf251
 v139:=Tryz.zeroValue251
 g3:=by kernel_rfl
 g4:=by kernel_rfl}
def Tryz.lays196_ren:Go.Shelf.Ren:=⟨fun|196=>168|259=>204|n=>n,fun|9=>9|4=>4|3=>3|5=>5|12=>12|119=>248|0=>0|46=>124|139=>251|138=>250|53=>80|n=>n,fun|3=>0|4=>1|n=>n⟩
theorem Tryz.lays196:Go.Proofs.Lays.n196 Tryz.prog Tryz.lays196_ren:={
 mixed:=by kernel_rfl
 f196:=Xt Tryz.func168
 f259:=Xt Tryz.func204
 t0:=Tryz.underlying0
 a0:=Tryz.isAgg0
 z0:=Tryz.sizeOf0
 v0:=Tryz.zeroValue0
 t3:=Tryz.underlying3
 a3:=Tryz.isAgg3
 z3:=Tryz.sizeOf3
 v3:=Tryz.zeroValue3
 t4:=Tryz.underlying4
 a4:=Tryz.isAgg4
 z4:=Tryz.sizeOf4
 v4:=Tryz.zeroValue4
 t5:=Tryz.underlying5
 a5:=Tryz.isAgg5
 z5:=Tryz.sizeOf5
 v5:=Tryz.zeroValue5
 t9:=Tryz.underlying9
 a9:=Tryz.isAgg9
 z9:=Tryz.sizeOf9
 v9:=Tryz.zeroValue9
 t12:=Tryz.underlying12
 a12:=Tryz.isAgg12
 z12:=Tryz.sizeOf12
 v12:=Tryz.zeroValue12
 t46:=Tryz.underlying124
 a46:=Tryz.isAgg124
 z46:=Tryz.sizeOf124
 v46:=Tryz.zeroValue124
 t53:=Tryz.underlying80
 a53:=Tryz.isAgg80
 z53:=Tryz.sizeOf80
 v53:=Tryz.zeroValue80
 t119:=Tryz.underlying248
 a119:=Tryz.isAgg248
 z119:=Tryz.sizeOf248
 t138:=Tryz.underlying250
 a138:=Tryz.isAgg250
 z138:=Tryz.sizeOf250
 v138:=Tryz.zeroValue250
 t139:=Tryz.underlying251
 a139:=Tryz.isAgg251
 z139:=Tryz.sizeOf251
 v139:=Tryz.zeroValue251
 g3:=by kernel_rfl
 g4:=by kernel_rfl}
end Go.Proofs
end
section
namespace Go.Proofs
open Go.Shelf
def Tryz.lays190_ren:Go.Shelf.Ren:=⟨fun|190=>180|125=>214|258=>213|128=>243|129=>90|302=>234|303=>235|304=>236|305=>237|306=>238|307=>239|308=>240|309=>241|310=>242|333=>255|329=>256|330=>257|334=>258|335=>259|336=>260|344=>265|n=>n,fun|31=>22|9=>9|3=>3|46=>124|0=>0|51=>280|53=>80|4=>4|183=>273|182=>272|131=>277|5=>5|218=>289|222=>293|228=>301|229=>108|n=>n,fun|n=>n⟩
theorem Tryz.lays190:Go.Proofs.Lays.n190 Tryz.prog Tryz.lays190_ren:={
 mixed:=by kernel_rfl
 f125:=Xt Tryz.func214
 f128:=Xt Tryz.func243
 f129:=Xt Tryz.func90
 f190:=Xt Tryz.func180
 f258:=Xt Tryz.func213
 f302:=Xt Tryz.func234
 f303:=Xt Tryz.func235
 f304:=Xt Tryz.func236
 f305:=Xt Tryz.func237
 f306:=Xt Tryz.func238
 f307:=Xt Tryz.func239
 f308:=Xt Tryz.func240
 f309:=Xt Tryz.func241
 f310:=Xt Tryz.func242
 f329:=Xt Tryz.func256
 f330:=Xt Tryz.func257
 f333:=Xt Tryz.func255
 f334:=Xt Tryz.func258
 f335:=Xt Tryz.func259
 f336:=Xt Tryz.func260
 f344:=Xt Tryz.func265
 t0:=Tryz.underlying0
 a0:=Tryz.isAgg0
 z0:=Tryz.sizeOf0
 v0:=Tryz.zeroValue0
 t3:=Tryz.underlying3
 a3:=Tryz.isAgg3
 z3:=Tryz.sizeOf3
 v3:=Tryz.zeroValue3
 t4:=Tryz.underlying4
 a4:=Tryz.isAgg4
 z4:=Tryz.sizeOf4
 v4:=Tryz.zeroValue4
 t5:=Tryz.underlying5
 a5:=Tryz.isAgg5
 z5:=Tryz.sizeOf5
 v5:=Tryz.zeroValue5
 t9:=Tryz.underlying9
 a9:=Tryz.isAgg9
 z9:=Tryz.sizeOf9
 v9:=Tryz.zeroValue9
 t31:=Tryz.underlying22
 a31:=Tryz.isAgg22
 z31:=Tryz.sizeOf22
 v31:=Tryz.zeroValue22
 t46:=Tryz.underlying124
 a46:=Tryz.isAgg124
 z46:=Tryz.sizeOf124
 v46:=Tryz.zeroValue124
 t51:=Tryz.underlying280
 a51:=Tryz.isAgg280
 z51:=Tryz.sizeOf280
 v51:=Tryz.zeroValue280
 t53:=Tryz.underlying80
 a53:=Tryz.isAgg80
 z53:=Tryz.sizeOf80
 v53:=Tryz.zeroValue80
 t131:=Tryz.underlying277
 a131:=Tryz.isAgg277
 z131:=Tryz.sizeOf277
 v131:=Tryz.zeroValue277
 t182:=Tryz.underlying272
 a182:=Tryz.isAgg272
 z182:=Tryz.sizeOf272
 v182:=Tryz.zeroValue272
 t183:=Tryz.underlying273
 a183:=Tryz.isAgg273
 z183:=Tryz.sizeOf273
 v183:=Tryz.zeroValue273
 t218:=Tryz.underlying289
 a218:=Tryz.isAgg289
 z218:=Tryz.sizeOf289
 v218:=Tryz.zeroValue289
 t222:=Tryz.underlying293
 a222:=Tryz.isAgg293
 z222:=Tryz.sizeOf293
 v222:=Tryz.zeroValue293
 t228:=Tryz.underlying301
 a228:=Tryz.isAgg301
 z228:=Tryz.sizeOf301
 v228:=Tryz.zeroValue301
 t229:=Tryz.underlying108
 a229:=Tryz.isAgg108
 z229:=Tryz.sizeOf108
 v229:=Tryz.zeroValue108}
def Tryz.lays194_ren:Go.Shelf.Ren:=⟨fun|194=>142|n=>n,fun|31=>22|9=>9|3=>3|4=>4|0=>0|n=>n,fun|n=>n⟩
theorem Tryz.lays194:Go.Proofs.Lays.n194 Tryz.prog Tryz.lays194_ren:={
 mixed:=by kernel_rfl
 f194:=Xt Tryz.func142
 t0:=Tryz.underlying0
 a0:=Tryz.isAgg0
 z0:=Tryz.sizeOf0
 v0:=Tryz.zeroValue0
 t3:=Tryz.underlying3
 a3:=Tryz.isAgg3
 z3:=Tryz.sizeOf3
 v3:=Tryz.zeroValue3
 t4:=Tryz.underlying4
 a4:=Tryz.isAgg4
 z4:=Tryz.sizeOf4
 v4:=Tryz.zeroValue4
 t9:=Tryz.underlying9
 a9:=Tryz.isAgg9
 z9:=Tryz.sizeOf9
 v9:=Tryz.zeroValue9
 t31:=Tryz.underlying22
 a31:=Tryz.isAgg22
 z31:=Tryz.sizeOf22
 v31:=Tryz.zeroValue22}
def Tryz.lays172_ren:Go.Shelf.Ren:=⟨fun|172=>154|244=>188|245=>189|247=>220|279=>221|280=>222|281=>223|282=>224|287=>250|316=>251|171=>253|205=>252|321=>262|322=>263|243=>264|246=>266|283=>267|284=>268|285=>269|286=>270|129=>90|317=>271|318=>272|319=>273|320=>274|337=>275|338=>276|n=>n,fun|9=>9|3=>3|75=>129|76=>130|4=>4|5=>5|167=>261|37=>122|0=>0|85=>262|2=>2|168=>264|53=>80|175=>283|46=>124|210=>286|127=>176|145=>300|143=>298|21=>21|171=>304|173=>306|212=>309|51=>280|20=>20|213=>310|232=>311|233=>312|80=>132|n=>n,fun|15=>3|16=>4|17=>5|18=>6|19=>7|n=>n⟩
theorem Tryz.lays172:Go.Proofs.Lays.n172 Tryz.prog Tryz.lays172_ren:={
 mixed:=by kernel_rfl
 f129:=Xt Tryz.func90
 f171:=Xt Tryz.func253
 f172:=Xt Tryz.func154
 f205:=Xt Tryz.func252
 f243:=Xt Tryz.func264
 f244:=Xt Tryz.func188
 f245:=Xt Tryz.func189
 f246:=Xt Tryz.func266
 f247:=Xt Tryz.func220
 f279:=Xt Tryz.func221
 f280:=Xt Tryz.func222
 f281:=Xt Tryz.func223
 f282:=Xt Tryz.func224
 f283:=Xt Tryz.func267
 f284:=Xt Tryz.func268
 f285:=Xt Tryz.func269
 f286:=Xt Tryz.func270
 f287:=Xt Tryz.func250
 f316:=Xt Tryz.func251
 f317:=Xt Tryz.func271
 f318:=Xt Tryz.func272
 f319:=Xt Tryz.func273
 f320:=Xt Tryz.func274
 f321:=Xt Tryz.func262
 f322:=Xt Tryz.func263
 f337:=Xt Tryz.func275
 f338:=Xt Tryz.func276
 t0:=Tryz.underlying0
 a0:=Tryz.isAgg0
 z0:=Tryz.sizeOf0
 v0:=Tryz.zeroValue0
 t2:=Tryz.underlying2
 a2:=Tryz.isAgg2
 z2:=Tryz.sizeOf2
 v2:=Tryz.zeroValue2
 t3:=Tryz.underlying3
 a3:=Tryz.isAgg3
 z3:=Tryz.sizeOf3
 v3:=Tryz.zeroValue3
 t4:=Tryz.underlying4
 a4:=Tryz.isAgg4
 z4:=Tryz.sizeOf4
 v4:=Tryz.zeroValue4
 t5:=Tryz.underlying5
 a5:=Tryz.isAgg5
 z5:=Tryz.sizeOf5
 v5:=Tryz.zeroValue5
 t9:=Tryz.underlying9
 a9:=Tryz.isAgg9
 z9:=Tryz.sizeOf9
 v9:=Tryz.zeroValue9
 t20:=Tryz.underlying20
 a20:=Tryz.isAgg20
 z20:=Tryz.sizeOf20
 v20:=Tryz.zeroValue20
 t21:=Tryz.underlying21
 a21:=Tryz.isAgg21
 z21:=Tryz.sizeOf21
 v21:=Tryz.zeroValue21
 t37:=Tryz.underlying122
 a37:=Tryz.isAgg122
 z37:=Tryz.sizeOf122
 v37:=Tryz.zeroValue122
 t46:=Tryz.underlying124
 a46:=Tryz.isAgg124
 z46:=Tryz.sizeOf124
 v46:=Tryz.zeroValue124
 t51:=Tryz.underlying280
 a51:=Tryz.isAgg280
 z51:=Tryz.sizeOf280
 v51:=Tryz.zeroValue280
 t53:=Tryz.underlying80
 a53:=Tryz.isAgg80
 z53:=Tryz.sizeOf80
 v53:=Tryz.zeroValue80
 t75:=Tryz.underlying129
 a75:=Tryz.isAgg129
 z75:=Tryz.sizeOf129
 v75:=Tryz.zeroValue129
 t76:=Tryz.underlying130
 a76:=Tryz.isAgg130
 z76:=Tryz.sizeOf130
 v76:=Tryz.zeroValue130
 t85:=Tryz.underlying262
 a85:=Tryz.isAgg262
 z85:=Tryz.sizeOf262
 v85:=Tryz.zeroValue262
 t127:=Tryz.underlying176
 a127:=Tryz.isAgg176
 z127:=Tryz.sizeOf176
 v127:=Tryz.zeroValue176
 t143:=Tryz.underlying298
 a143:=Tryz.isAgg298
 z143:=Tryz.sizeOf298
 v143:=Tryz.zeroValue298
 t145:=Tryz.underlying300
 a145:=Tryz.isAgg300
 z145:=Tryz.sizeOf300
 v145:=Tryz.zeroValue300
 t167:=Tryz.underlying261
 a167:=Tryz.isAgg261
 z167:=Tryz.sizeOf261
 v167:=Tryz.zeroValue261
 t168:=Tryz.underlying264
 a168:=Tryz.isAgg264
 z168:=Tryz.sizeOf264
 v168:=Tryz.zeroValue264
 t171:=Tryz.underlying304
 a171:=Tryz.isAgg304
 z171:=Tryz.sizeOf304
 v171:=Tryz.zeroValue304
 t173:=Tryz.underlying306
 a173:=Tryz.isAgg306
 z173:=Tryz.sizeOf306
 v173:=Tryz.zeroValue306
 t175:=Tryz.underlying283
 a175:=Tryz.isAgg283
 z175:=Tryz.sizeOf283
 v175:=Tryz.zeroValue283
 t210:=Tryz.underlying286
 a210:=Tryz.isAgg286
 z210:=Tryz.sizeOf286
 v210:=Tryz.zeroValue286
 t212:=Tryz.underlying309
 a212:=Tryz.isAgg309
 z212:=Tryz.sizeOf309
 v212:=Tryz.zeroValue309
 t213:=Tryz.underlying310
 a213:=Tryz.isAgg310
 z213:=Tryz.sizeOf310
 t232:=Tryz.underlying311
 a232:=Tryz.isAgg311
 z232:=Tryz.sizeOf311
 v232:=Tryz.zeroValue311
 t233:=Tryz.underlying312
 a233:=Tryz.isAgg312
 z233:=Tryz.sizeOf312
 v233:=Tryz.zeroValue312
 g15:=by kernel_rfl
 g16:=by kernel_rfl
 g17:=by kernel_rfl
 g18:=by kernel_rfl
 g19:=by kernel_rfl}
def Tryz.sorted200_ren:Go.Shelf.Ren:=⟨fun|6=>140|8=>179|9=>180|11=>212|13=>214|12=>213|23=>243|24=>90|14=>234|15=>235|16=>236|17=>237|18=>238|19=>239|20=>240|21=>241|22=>242|25=>255|26=>256|27=>257|28=>258|29=>259|30=>260|31=>265|n=>n,fun|26=>9|28=>213|24=>22|0=>0|3=>3|37=>124|48=>280|50=>80|4=>4|40=>273|39=>272|45=>277|5=>5|9=>9|51=>289|55=>293|57=>301|58=>108|33=>46|n=>n,fun|n=>n⟩
theorem Tryz.sorted200:Go.Proofs.SlLaysZ.n6 Tryz.prog Tryz.sorted200_ren:={
 mixed:=by kernel_rfl
 f6:=⟨Tryz.f140.name,by decide,Xt Tryz.func140⟩
 f8:=⟨Tryz.f179.name,by decide,Xt Tryz.func179⟩
 f11:=⟨Tryz.f212.name,by decide,Xt Tryz.func212⟩
 t0:=Tryz.underlying0
 a0:=Tryz.isAgg0
 z0:=Tryz.sizeOf0
 v0:=Tryz.zeroValue0
 t24:=Tryz.underlying22
 a24:=Tryz.isAgg22
 z24:=Tryz.sizeOf22
 v24:=Tryz.zeroValue22
 t26:=Tryz.underlying9
 a26:=Tryz.isAgg9
 z26:=Tryz.sizeOf9
 v26:=Tryz.zeroValue9
 t28:=Tryz.underlying213
 a28:=Tryz.isAgg213
 z28:=Tryz.sizeOf213
 v28:=Tryz.zeroValue213
 i26:=by kernel_rfl}
end Go.Proofs
end
section
namespace Go.Proofs
open Go.RowKit Go.Shelf Go.AL
variable [Tabs]
attribute [local go_sem] Oper.semAt_some
set_option maxRecDepth 100000 in
set_option maxHeartbeats 2000000 in
theorem Tryz.values1(F:Fence)(n:Nat)(h7:F.fn 181)(hro:F.round=none)(hn:1<=n)(l Bs Bo b off len cap:Nat)(zs:List Str)(hreach:len<=maxLen)(J:List Str->World->Prop)(hBl:∀pre W,J pre W->W.cell? ⟨Bs,Bo,none⟩=some (.slice (some ⟨b,off,none⟩) len cap)/\∀j,j<len->W.cell? ⟨b,off+j,none⟩=some (encStr (zs[j]?.getD [])))
 (hY:∀pre x W,J pre W->pre.length<len->YieldAt F (n-1) Tryz.prog l #[encStr x] W fun e W'=>e=.returned (.bool true)/\J (pre++[x]) W')
 (W:World)(h0:J [] W) :
  CallsIn F n Tryz.prog 181 #[.func (.yield l) #[] #[],.pointer (some ⟨Bs,Bo,none⟩)] W fun e W'=>(∃v,e=.returned v)/\∃ys,ys=upto (fun j=>zs[j]?.getD []) len/\J ys W':=by
 obtain⟨hBs,hc⟩:=hBl _ _ h0;refine callsIn_of_wp Tryz.func181 rfl h7 ?_ hro;simp only[Tryz.ntmps181,On,ML,N9,Nat.reduceAdd,Nat.reduceSub,Ov,Ow,OO,OA,Nc,Ng]
 gi_wp2
 gi_loopw [7] (fun i wr=>∃k:Nat,k<=len/\i=.int .i64 k/\J (upto (fun j=>zs[j]?.getD []) k) wr)
  (fun i _=>len-(intOf i).toNat)
 case atStart=>exact⟨0,ME _,rfl,h0⟩
 case round=>
  obtain⟨k,hk,rfl,hJs⟩:=hrel;have hcx:k<len->wr.cell? ⟨b,off+k,none⟩=some (encStr (zs[k]?.getD [])):=fun h=>(hBl _ _ hJs).2 k h;by_cases hlt:k<len
  ·obtain⟨fn,tmps,assign,body,hy,hR⟩:=hY _ (zs[k]?.getD []) wr hJs (by rw[xo];exact hlt);have hcx':=hcx hlt;have hsmall:(k:Int)+1<=9223372036854775807:=by unfold maxLen at hreach;omega
   gi_wp2
   refine hR.mono ?_;rintro e W3 ⟨rfl,hJ3⟩
   gi_wp2
   go_roundw
   case rel=>exact⟨k+1,by omega,by simp,by rw[E6];exact hJ3⟩
   case measure=>simp[intOf];omega
  ·obtain rfl:k=len:=by omega
   gi_wp2
   go_end0
   exact⟨⟨_,rfl⟩,_,rfl,hJs⟩
set_option maxRecDepth 100000 in
set_option maxHeartbeats 1000000 in
theorem Tryz.values1_nil(F:Fence)(n:Nat)(h7:F.fn 181)(hro:F.round=none)(l Bs Bo cap:Nat)(a:Option Addr)(J:List Str->World->Prop)(W:World)(hBs:W.cell? ⟨Bs,Bo,none⟩=some (.slice a 0 cap))(h0:J [] W) :
  CallsIn F n Tryz.prog 181 #[.func (.yield l) #[] #[],.pointer (some ⟨Bs,Bo,none⟩)] W fun e W'=>(∃v,e=.returned v)/\J [] W':=by
 refine callsIn_of_wp Tryz.func181 rfl h7 ?_ hro;simp only[Tryz.ntmps181,On,ML,N9,Nat.reduceAdd,Nat.reduceSub,Ov,Ow,OO,OA,Nc,Ng]
 gi_wp2
 gi_loopw [7] (fun i wr=>i=.int .i64 0/\J [] wr) (fun _ _=>0)
 case atStart=>exact⟨rfl,h0⟩
 case round=>
  obtain⟨rfl,hJs⟩:=hrel
  gi_wp2
  go_end0
  exact⟨⟨_,rfl⟩,hJs⟩
theorem Tryz.valuesL:vO Tryz.prog 181:=by
 intro w b o sv zs hz hc hs l J W a1 a2 a3 a4 a5;have hb:=aT hc;rcases hs with⟨⟨a,cap,rfl⟩,rfl⟩|⟨g,off,cap,rfl,hg,hcs⟩
 ·refine(Tryz.values1_nil Fence.wide 2 trivial rfl l b o cap a J W ((a1.cell (p:=⟨b,o,none⟩) hb).trans hc) a5).mono ?_;rintro e W' ⟨h1,h2⟩;exact⟨h1,[],rfl,h2⟩
 ·refine(Tryz.values1 Fence.wide 2 trivial rfl (by omega) l b o g off zs.length cap zs hz J (fun pre W1 hJ=>⟨((a3 _ _ hJ).cell (p:=⟨b,o,none⟩) hb).trans hc,fun j hj=>((a3 _ _ hJ).cell (p:=⟨g,off+j,none⟩) hg).trans (hcs j hj)⟩)
   (fun pre x W1 h1 h2=>(a4 pre x W1 h1 h2).mono fun e W' h=>⟨h.1,h.2.1⟩) W a5).mono ?_
  rintro e W' ⟨h1,ys,h2,h3⟩;exact⟨h1,ys,by rw[h2,Gr],h3⟩
end Go.Proofs
end
section
namespace Go.AL.Seat
open Go Go.AL Go.Proofs Go.Shelf Go.Pd
variable [Tabs]
theorem M6:SortL Tryz.prog Tryz.sorted200_ren:=
 ⟨Tryz.sorted200,⟨fun blk off cap ss W hH hblk hsz=>callsIn_wide.2 (Any.slices_Sort_string Tryz.lays190 blk off cap ss W hH hblk hsz),fun p cap W=>callsIn_wide.2 (Any.slices_Sort_string_none Tryz.lays190 p cap W)⟩,enters_of Tryz.func180 (by kernel_rfl) rfl⟩
theorem mV:ag Tryz.prog 140 (mS 181):=
 tF M6 rfl (enters_of Tryz.func181 (by kernel_rfl) rfl) Tryz.valuesL (au.mk' Tryz.func140 (by kernel_rfl))
theorem lu:ag Tryz.prog 142 mT:=tG Tryz.lays194 rfl (au.mk' Tryz.func142 (by kernel_rfl))
theorem GB:ag Tryz.prog 154 (p1 .str fun t=>⟨some (uk t),none,.tup [.int .i64 (mC t),.nilif],[]⟩):=Ak Tryz.lays172 rfl (au.mk' Tryz.func154 (by kernel_rfl))
end Go.AL.Seat
end
section
namespace Go.AL.Seat
open Go Go.AL Go.Proofs Go.Shelf Go.Pd
class SeatLaid[Tabs]:Prop where
 max:∃m:Int,Tabs.tab 2 0 (.int .i64 m)
 utf:nG 0 1
variable [Tabs] [SeatLaid]
theorem GC:ag Tryz.prog 108 (p2 .str .str fun a b=>⟨some (b=s6),none,.str (s7 a),[]⟩):=Ao Tryz.lays160 (by kernel_rfl) rfl (au.mk' Tryz.func108 (by kernel_rfl))
theorem J3:ag Tryz.prog 151 (p2 .str .str fun a b=>⟨some (b=[45]/\a.length<4294967281),none,.tup [.str (jm a),.str (mU a),.bool (oJ a)],[]⟩):=
 let ⟨_,hm⟩:=SeatLaid.max;Ec Tryz.lays145 hm rfl (au.mk' Tryz.func151 (by kernel_rfl))
theorem Ed:ag Tryz.prog 152 (p2 .str .str fun a b=>⟨some (b=[46]/\a.length<4294967281),none,.lst .str (splitB 46 a) none,[]⟩):=
 let ⟨_,hm⟩:=SeatLaid.max;xB Tryz.lays146 (by kernel_rfl) hm rfl (au.mk' Tryz.func152 (by kernel_rfl))
theorem vU:ag Tryz.prog 158 (p2 .str .str fun a b=>⟨some (b.length=1),none,.bool (decide (b.getD 0 0∈a)),[]⟩):=se Tryz.lays144 rfl (au.mk' Tryz.func158 (by kernel_rfl))
theorem tK:ag Tryz.prog 156 (p2 .str (.int .u8) fun a c=>.ret (.int .i64 (Gu a c))):=pW Tryz.lays137 rfl (au.mk' Tryz.func156 (by kernel_rfl))
theorem sh:ag Tryz.prog 143 (p1 .str fun s=>.ret (.tup [.int .i32 ((kj s).1:Int),.int .i64 ((kj s).2:Int)])):=oK Tryz.lays197 SeatLaid.utf rfl (au.mk' Tryz.func143 (by kernel_rfl))
theorem Ee:ag Tryz.prog 168 (p1 .str fun s=>.ret (.bool (lk s).isNone)):=xD Tryz.lays196 SeatLaid.utf rfl (au.mk' Tryz.func168 (by kernel_rfl))
end Go.AL.Seat
end
section
namespace Go.Proofs.YtldkmcedeenlnaaGreatDoor.Join
open Go.AL Go.AL.Seat Go.ChangeShapes Go.WideShapes Go.RowKit Go.Lib Go.Shelf
set_option maxRecDepth 1000000
theorem own:ownKnob Tryz.prog.godebug=none:=by kernel_rfl
theorem J4:laidOutB Tryz.prog=true:=by kernel_rfl
theorem undB:Tryz.prog.underlying 4=some .bool:=by kernel_rfl
theorem undI:Tryz.prog.underlying 3=some (.int .i64):=by kernel_rfl
theorem dY:40<Tryz.prog.types.size:=Xo (by kernel_rfl)
def laid:List (String×DataW Unit):=Rows.codeFormsRow.laid
theorem M7:(Rows.laid_unicode_utf8_acceptRanges:DataW Unit)=acceptData:=by kernel_rfl
theorem M8{W:World}(h:W.ShapedOpen Tryz.prog):∃m,W.cell? ⟨2,0,none⟩=some (.int .i64 m):=
 cell_of_shapedOpen_int (t:=3) (zero:=#[.int .i64 0]) h (Xo (by kernel_rfl)) (by kernel_rfl) rfl (by kernel_rfl) (by kernel_rfl) undI
theorem lr{W:World}(h:laidMet Tryz.prog laid W):Utf8Tabs 0 1 W:=
 utf8Tabs_of_readsT (ρ:=Tryz.lays196_ren) (U8Types.of196 Tryz.lays196) ⟨by kernel_rfl,by kernel_rfl,by kernel_rfl,by kernel_rfl,by kernel_rfl,by kernel_rfl,by kernel_rfl⟩
  (Pinned.utf8First_eq ▸ laidMet.reads h (by simp[laid,Rows.codeFormsRow,Rows.laid_unicode_utf8_first])) (M7 ▸ laidMet.reads h (by simp[laid,Rows.codeFormsRow]))
theorem GD{W:World}(h:laidMet Tryz.prog laid W)(hs:W.ShapedOpen Tryz.prog):@SeatLaid (rX W):=by
 letI:Tabs:=rX W
 obtain⟨m,hm⟩:=M8 hs;obtain⟨u1,u2⟩:=lr h;exact⟨⟨m,by decide,hm⟩,fun c hc=>⟨by decide,u1 c hc⟩,fun i hi=>⟨⟨by decide,(u2 i hi).1⟩,by decide,(u2 i hi).2⟩⟩
def z32:List Int:=[0,1,28,2,29,14,24,3,30,22,20,15,25,17,4,8,31,27,13,23,21,19,16,7,26,12,18,6,11,5,10,9]
def z64:List Int:=[0,1,56,2,57,49,28,3,61,58,42,50,38,29,17,4,62,47,59,36,45,43,51,22,53,39,33,30,24,18,12,5,63,55,48,27,60,41,37,16,46,35,44,21,52,32,23,11,54,26,40,15,34,20,31,10,25,14,19,9,13,8,7,6]
def zPow:List Int:=[1,10,100,1000,10000,100000,1000000,10000000,100000000,1000000000,10000000000,100000000000,1000000000000,10000000000000,100000000000000,1000000000000000,10000000000000000,100000000000000000,1000000000000000000,10000000000000000000]
def zAcc:List Int:=[128,191,160,191,128,159,144,191,128,143,0,0,0,0,0,0,0,0,0,0,0,0,0,0,0,0,0,0,0,0,0,0]
def La:List Int:=List.map Int.ofNat Pinned.utf8FirstZ
noncomputable def lR(os:Os):World:=
 let N:=(World.settled Tryz.prog os).heap.size
 let w0:=World.holding Tryz.prog os ⟨#[.cells #[.string ⟨#[118,97,108,117,101,32,111,117,116,32,111,102,32,114,97,110,103,101]⟩] 300,.cells #[.string ⟨#[105,110,118,97,108,105,100,32,115,121,110,116,97,120]⟩] 300],#[],[]⟩
 let put (h:Array Obj) (g:Nat) (cs:Array Value):Array Obj:=h.modify g fun
  |.cells _ t frozen=>.cells cs t frozen
  |o=>o
 let h0:=put (put w0.heap 3 #[.iface 298 (.pointer (some ⟨N+1,0,none⟩))]) 4 #[.iface 298 (.pointer (some ⟨N,0,none⟩))]
 let h1:=put (put (put h0 5 (zPow.map (Value.int .u64)).toArray) 6 (z32.map (Value.int .u8)).toArray) 7 (z64.map (Value.int .u8)).toArray
 let h2:=put (put h1 0 (La.map (Value.int .u8)).toArray) 1 (zAcc.map (Value.int .u8)).toArray
 {w0 with heap:=h2}
noncomputable abbrev N0:Nat:=(World.settled Tryz.prog default).heap.size
theorem Lb(os:Os)(args:Array Value):LaidIn Tryz.prog ((lR os).forCall (fun _ _=>0) ⟨#[],args,[]⟩).memory laid [6,7,5,1,4,N0,3,N0+1,0]:=
 LaidIn.of_run [6,7,5,1,4,N0,3,N0+1,0] 10 (by kernel_rfl) (by kernel_rfl) (by kernel_rfl) (by kernel_rfl)
theorem GF(os:Os)(args:Array Value):laidMet Tryz.prog laid ((lR os).forCall (fun _ _=>0) ⟨#[],args,[]⟩).memory:=(Lb os args).met
end Go.Proofs.YtldkmcedeenlnaaGreatDoor.Join
end
section
namespace Go.Pd
open Go.AL
def di(b:UInt8):Bool:=!(decide (bI b<32)&&!decide (bI b=10)&&!decide (bI b=9))
def jb(s:Str):Bool:=s.all di&&(lk s).isNone
def bn(s:Shape):Bool:=decide (cw s=0)&&allS aS s
def fk(t:Trm)(n v s p:Nat):Bool:=decide (t.names.length=n)&&decide (t.vars.length=v)&&decide (t.shapes.length=s)&&decide (t.parts.length=p)
def jc(t:Trm):Bool:=decide (0<=t.pos)&&(decide (t.n=0)||decide (t.kind=1))&&(decide (t.pkg=[])||decide (t.kind=5))&&t.shapes.all bn
def eG(l:List Str):Bool:=l.all az&&decide l.Nodup
def jF(t:Trm):Bool:=
 if t.kind=1 then decide (t.name=[])&&decide (0<=t.n)&&decide (t.n<=999999999999999)&&fk t 0 0 0 0
 else if t.kind=2 then jb t.name&&fk t 0 0 0 0
 else if t.kind=3∨t.kind=4 then decide (t.name=[])&&fk t 0 0 0 0
 else if t.kind=5 then az t.name&&(decide (t.pkg=[])||az t.pkg)&&fk t 0 0 0 0
 else if t.kind=6 then decide (t.name=[])&&decide (t.names.length<=4096)&&eG t.names&&fk t t.names.length 0 t.names.length 1
 else if t.kind=7 then decide (t.name=[])&&decide (0<t.parts.length)&&fk t 0 0 0 t.parts.length
 else if t.kind=8 then decide (t.name=[])&&eG t.names&&fk t t.names.length 0 0 t.names.length
 else if t.kind=9∨t.kind=10 then az t.name&&fk t 0 0 0 1
 else if t.kind=11 then decide (t.name=[])&&fk t 0 0 1 t.parts.length
 else if t.kind=12 then decide (t.name=[])&&fk t 0 0 1 3
 else if t.kind=13 then decide (t.name=[])&&eG t.names&&t.vars.all az&&fk t t.names.length t.names.length (t.names.length+1) (t.names.length+1)
 else if t.kind=14 then az t.name&&fk t 0 0 0 2
 else if t.kind=15 then decide (t.name=[])&&fk t 0 0 1 1
 else if t.kind=16∨t.kind=17 then cH t.name&&fk t 0 0 0 1
 else false
def ax(t:Trm):Bool:=jc t&&jF t
mutual
def allT(f:Trm->Bool):Trm->Bool
 |⟨k,g,q,z,ns,vs,ss,ps,pp⟩=>f ⟨k,g,q,z,ns,vs,ss,ps,pp⟩&&allTL f ps
def allTL(f:Trm->Bool):List Trm->Bool
 |[]=>true
 |p::r=>allT f p&&allTL f r
end
theorem allT_eq(f:Trm->Bool)(t:Trm):allT f t=(f t&&allTL f t.parts):=by cases t;rw[allT]
theorem allTL_all(f:Trm->Bool):∀l:List Trm,allTL f l=l.all (allT f)
 |[]=>rfl
 |p::r=>by rw[NK,<-allTL_all f r];rw[allTL]
def cX(t:Trm):Bool:=allT (fun x=>decide (x.names.length<=8796093022208)) t
theorem Ef{t x:Trm}(h:cX t=true)(hx:x∈t.parts):cX x=true:=by unfold cX at h⊢;rw[allT_eq,Mo,allTL_all]at h;exact MI.1 h.2 x hx
theorem Aq{t:Trm}(h:cX t=true):t.names.length<=8796093022208:=by unfold cX at h;rw[allT_eq,Mo]at h;exact Xo h.1
def aZ(t:Trm):Int:=
 if 4096<(countT t 4096).1 then 3 else if 40<(countT t 4096).2 then 91 else if allT ax t=true then 0 else 80
end Go.Pd
namespace Go.Pd
open Go.AL
theorem dnZ(n:Nat):decide ((n:Int)=0)=decide (n=0):=Nn.2 (by omega)
theorem dn1(n:Nat):decide ((n:Int)=1)=decide (n=1):=Nn.2 (by omega)
theorem dn2(n:Nat):decide ((n:Int)=2)=decide (n=2):=Nn.2 (by omega)
theorem dn3(n:Nat):decide ((n:Int)=3)=decide (n=3):=Nn.2 (by omega)
theorem dnN(n m:Nat):decide ((n:Int)=(m:Int))=decide (n=m):=Nn.2 (by omega)
theorem dnS(n m:Nat):decide ((n:Int)=(m:Int)+1)=decide (n=m+1):=Nn.2 (by omega)
theorem dnL(n:Nat):decide ((n:Int)<=4096)=decide (n<=4096):=Nn.2 (by omega)
theorem dnP(n:Nat):decide ((0:Int)<(n:Int))=decide (0<n):=Nn.2 (by omega)
theorem xE(s:Str)(k:Nat)(h:k<s.length):(cK s).getD k (dfl (Ty.int IntKind.u8))=bI (s.getD k 0):=by unfold cK;simp[Ms,h,bI]
theorem uo(b:UInt8):di b=false↔(bI b<32/\bI b≠10/\bI b≠9):=by unfold di;simp only[Bool.not_eq_false',Mo,MD,MO,N6];omega
end Go.Pd
end
noncomputable section
namespace Go.AL
open Go.ChangeShapes Go.WideShapes Go.RowKit
variable [Tabs]
structure GoodR{H:Type}(P:Program)(N M:Nat)(g:TypeId->DataW H->Prop):Prop where
 str:∀t s,P.underlying t=some .string->g t (.lit (.string s))->s.length<=M
 len:∀t e es sp,P.underlying t=some (.slice e)->g t (.slice es sp)->16<=P.bytesOf e->es.length<=N
 el:∀t e es sp,P.underlying t=some (.slice e)->g t (.slice es sp)->∀x∈es,g e x
 part:∀t fs ps,P.underlying t=some (.struct fs)->g t (.agg ps)->∀(i:Nat)(f:Field) p,fs[i]?=some f->ps[i]?=some p->g f.type p
variable {H:Type} {enc:TypeId×Value->H} {P:Program} {w:World} {base:Nat} {held:Bool}
theorem Lc{N M:Nat}{g:TypeId->DataW H->Prop}(hb:GoodR P N M g){t e:TypeId}{τ:Ty}{Q:den τ->Prop}{fuel:Nat}{cs:List Value}{x:DataW H×List MemPlace}(ht:P.underlying t=some (.slice e))(hc:P.cellsOf e=ab τ)(h:DataW.trod enc P w base (fun _=>true) held fuel t cs=some x)(hg:g t x.1)
 (hel:∀(n:Nat)(ds:List Value)(y:DataW H×List MemPlace),fuel=n+1->DataW.trod enc P w base (fun _=>true) held n e ds=some y->g e y.1->∃z:den τ,VL (Om0 w) (cells τ z) ds/\Q z)
 (hsp:∀a len cap,cs=[.slice (some a) len cap]->a.spot=none):∃(l:List (den τ))(v:Value),cs=[v]/\V (Om0 w) (.lst τ l none) v/\(16<=P.bytesOf e->l.length<=N)/\∀z∈l,Q z:=by
 rcases Po ht h with⟨rfl,_⟩|⟨a,len,cap,elems,rest,n,hfu,rfl,hx,_,hlc,hcm,hlen,hels,_,_⟩
 ·exact⟨[],_,rfl,.lstNil τ none (fun id hid=>by cases hid),fun _=>ME _,fun z hz=>by cases hz⟩
 ·have hs:=hsp a len cap rfl;obtain⟨bl,off,spot⟩:=a;simp only at hs;subst hs
  have each:∀i,i<len->∃z:den τ,∃ds:List Value,ds.length=ab τ/\(∀j,j<ab τ->w.cell? ⟨bl,off+(i *ab τ+j),none⟩=ds[j]?)/\VL (Om0 w) (cells τ z) ds/\Q z:=by
   intro i hi;have h1:=hels i hi;obtain⟨y,hy⟩:∃y,elems[i]?=some y:=⟨_,Mn (by omega)⟩;rw[hy,hc,OE]at h1;obtain⟨ds,hd,hy'⟩:=h1;obtain⟨_,hdl,hdc⟩:=Pl hd
   obtain⟨z,hz,hq⟩:=hel n ds y hfu hy' (by
    rw[hx]at hg;exact hb.el _ _ _ _ ht hg _ (List.mem_map_of_mem (MN hy)))
   refine⟨z,ds,hdl,fun j hj=>?_,hz,hq⟩;have:=hdc j hj
   have ha:∀(o n:Nat),(⟨bl,o,none⟩:Addr).add n=⟨bl,o+n,none⟩:=by
    intro o n;unfold Addr.add;by_cases h0:n=0
    ·subst h0;rfl
    ·rw[Mp h0]
   rw[ha,ha,O0]at this;exact this
  have hz:∃l:List (den τ),l.length=len/\∀i z,l[i]?=some z->∃ds:List Value,ds.length=ab τ/\(∀j,j<ab τ->w.cell? ⟨bl,off+(i *ab τ+j),none⟩=ds[j]?)/\VL (Om0 w) (cells τ z) ds/\Q z:=by
   refine⟨(List.range len).attach.map fun i=>(each i.1 (NW.1 i.2)).choose,by simp,fun i z hi=>?_⟩;have hil:i<len:=by have:=(Nb.1 hi).1;simpa using this
   simp only[MS,MM]at hi;obtain⟨⟨k,hk⟩,h1,h2⟩:=hi;have hki:k=i:=by have:=Nb.1 h1;obtain⟨_,e⟩:=this;have:=NT Subtype.val e;simpa using this.symm
   subst hki;rw[<-h2];exact(each k (NW.1 hk)).choose_spec
  obtain⟨l,hll,hle⟩:=hz;have hQ:∀z∈l,Q z:=fun z hz=>by obtain⟨i,hi⟩:=NZ hz;obtain⟨_,_,_,_,hq⟩:=hle i z hi;exact hq
  have hL:16<=P.bytesOf e->l.length<=N:=fun h16=>by
   rw[hx]at hg;rw[hll,<-hlen];have:=hb.len _ _ _ _ ht hg h16
   rwa [MZ]at this
  refine⟨l,_,rfl,?_,hL,hQ⟩;have key:=V.lst (Ω:=Om0 w) τ l none bl off cap (fun i j=>(w.cell? ⟨bl,off+(i *ab τ+j),none⟩).getD undef) (by omega) (by unfold maxLen at hcm;unfold b9;omega) (fun id hid=>by cases hid) (fun i z hz j c hj=>?_) (fun i z hz j c hj=>?_)
  ·rw[hll]at key;exact key
  ·obtain⟨ds,d1,d2,d3,_⟩:=hle i z hz;have hjw:j<ab τ:=by rw[<-aP τ z];exact(Nb.1 hj).1
   have hv:w.cell? ⟨bl,off+(i *ab τ+j),none⟩=some ds[j]:=by rw[d2 j hjw];exact Mn (by omega)
   refine⟨⟨_,hv⟩,?_⟩;show w.cell? _=_;rw[hv];rfl
  ·obtain⟨ds,d1,d2,d3,_⟩:=hle i z hz;have hjw:j<ab τ:=by rw[<-aP τ z];exact(Nb.1 hj).1
   have hd:ds[j]?=some ds[j]:=Mn (by omega);rw[d2 j hjw,hd];exact d3.2 j c ds[j] hj hd
theorem CI{N M:Nat}{g:TypeId->DataW H->Prop}(hb:GoodR P N M g){t e:TypeId}{τ:Ty}{Q:den τ->Prop}{fuel:Nat}{cs:List Value}{x:DataW H×List MemPlace}(ht:P.underlying t=some (.slice e))(hc:P.cellsOf e=ab τ)(hw:0<ab τ)
 (h:DataW.trod enc P w base (fun _=>true) held fuel t cs=some x)(hg:g t x.1)
 (hel:∀(n:Nat)(ds:List Value)(y:DataW H×List MemPlace),fuel=n+1->DataW.trod enc P w base (fun _=>true) held n e ds=some y->g e y.1->∃z:den τ,VL (Om0 w) (cells τ z) ds/\Q z) :
  ∃(l:List (den τ))(v:Value),cs=[v]/\V (Om0 w) (.lst τ l none) v/\(16<=P.bytesOf e->l.length<=N)/\∀z∈l,Q z:=by
 have h0:=h;rcases Po ht h with⟨rfl,_⟩|⟨a,len,cap,elems,rest,n,hfu,rfl,_,_,hlc,hcm,hlen,hels,hrest,_⟩
 ·exact⟨[],_,rfl,.lstNil τ none (fun id hid=>by cases hid),fun _=>ME _,fun z hz=>by cases hz⟩
 ·by_cases hcap:cap=0
  ·have:len=0:=by omega
   subst hcap this;exact⟨[],_,rfl,.lstVoid τ a,fun _=>ME _,fun z hz=>by cases hz⟩
  ·refine Lc hb ht hc h0 hg hel fun a' len' cap' e'=>?_;simp only[Nx,NC,Xs,N4]at e';obtain⟨rfl,rfl,rfl⟩:=e'
   have hr:∃(ad:Addr)(y:DataW H×List MemPlace),ad=a/\(w.cells? base ad (P.cellsOf e)).bind (DataW.trod enc P w base (fun _=>true) held n e)=some y:=by
    by_cases hl:len=0
    ·obtain⟨r1,r2⟩:=hrest rfl;have:=r2 0 (by omega);rw[hl]at this;refine⟨_,_,?_,this.trans (Mn (by omega))⟩;simp[Addr.add]
    ·have:=hels 0 (by omega);refine⟨_,_,?_,this.trans (Mn (by omega))⟩;simp[Addr.add]
   obtain⟨ad,y,rfl,hy⟩:=hr;rw[OE]at hy;obtain⟨ds,hd,_⟩:=hy;obtain⟨_,hdl,hdc⟩:=Pl hd;have:=hdc 0 (by rw[hc];exact hw);have ha:ad.add 0=ad:=by simp[Addr.add]
   rw[ha,Mn (by rw[hdl,hc];exact hw)]at this;unfold World.cell? at this;split at this
   ·split at this
    ·cases this
    ·rename_i hs;cases hsp:ad.spot
     ·rfl
     ·rw[hsp]at hs;exact absurd rfl hs
   ·cases this
theorem GG{N M:Nat}{g:TypeId->DataW H->Prop}(hb:GoodR P N M g){sp:Nat->Bool}{t:TypeId}{fs:Array Field}{fuel:Nat}{cs:List Value}{x:DataW H×List MemPlace}(ht:P.underlying t=some (.struct fs))(h:DataW.trod enc P w base sp held fuel t cs=some x)(hg:g t x.1) :
  ∃n,fuel=n+1/\cs.length=P.cellsOf t/\∀(i:Nat)(f:Field),fs[i]?=some f->∃y,DataW.trod enc P w base sp held n f.type ((cs.drop f.offset).take (P.cellsOf f.type))=some y/\g f.type y.1:=by
 obtain⟨xs,n,hn,hx,hl,hs,hf⟩:=DataW.trod_struct ht h;refine⟨n,hn,hl,fun i f hif=>?_⟩
 have hi:i<xs.length:=by
  rw[hs];rcases Mz i fs.size with k|k
  ·exact k
  ·rw[Nj k]at hif;cases hif
 refine⟨xs[i],by rw[hf i f hif];exact Mn hi,?_⟩;rw[hx]at hg;exact hb.part _ _ _ ht hg i f _ hif (by rw[MS,Mn hi];rfl)
theorem Ld{N M:Nat}{g:TypeId->DataW H->Prop}(hb:GoodR P N M g){sp:Nat->Bool}{t:TypeId}{fuel:Nat}{cs:List Value}{x:DataW H×List MemPlace}(ht:P.underlying t=some .string)(h:DataW.trod enc P w base sp held fuel t cs=some x)(hg:g t x.1) :
  ∃(s:Str)(v:Value),cs=[v]/\V (Om0 w) (.str s) v/\s.length<=M:=by
 obtain⟨s,rfl,hx,hw⟩:=DataW.trod_string ht h;refine⟨s.data.toList,_,rfl,?_,by rw[hx]at hg;exact hb.str _ _ ht hg⟩;have e:s=⟨s.data.toList.toArray⟩:=by cases s;simp
 have hl:s.data.toList.length<=b9:=by have:s.data.size=s.size:=rfl;unfold maxLen at hw;unfold b9;simp only[NU,this];omega
 have:=V.str (Ω:=Om0 w) s.data.toList hl;rw[<-e]at this;exact this
structure TermAt(P:Program)(t:TypeId):Prop where
 ex:∃(f0 f1 f2 f3 f4 f5 f6 f7 f8:Field)(e g:TypeId),P.underlying t=some (.struct #[f0,f1,f2,f3,f4,f5,f6,f7,f8])/\P.cellsOf t=9/\
  (f0.offset=0/\f1.offset=1/\f2.offset=2/\f3.offset=3/\f4.offset=4/\f5.offset=5/\f6.offset=6/\f7.offset=7/\f8.offset=8)/\
  (P.cellsOf f0.type=1/\P.cellsOf f1.type=1/\P.cellsOf f2.type=1/\P.cellsOf f3.type=1/\P.cellsOf f4.type=1/\P.cellsOf f5.type=1/\P.cellsOf f6.type=1/\P.cellsOf f7.type=1/\P.cellsOf f8.type=1)/\
  (P.underlying f0.type=some (.int .i64)/\P.underlying f1.type=some .string/\P.underlying f2.type=some .string/\P.underlying f3.type=some (.int .i64)/\P.underlying f4.type=some (.slice e)/\P.underlying f5.type=some (.slice e)/\
   P.underlying f6.type=some (.slice g)/\P.underlying f7.type=some (.slice t)/\P.underlying f8.type=some (.int .i64))/\(P.underlying e=some .string/\P.cellsOf e=1/\P.bytesOf e=16)/\ShapeAt P g
def jn(N M:Nat)(x:Trm):Bool:=decide (x.names.length<=N)&&decide (x.name.length<=M)
theorem Le{N M:Nat}{g:TypeId->DataW H->Prop}(hb:GoodR P N M g){t:TypeId}(hs:TermAt P t):∀(fuel:Nat)(cs:List Value)(x:DataW H×List MemPlace),DataW.trod enc P w base (fun _=>true) held fuel t cs=some x->g t x.1->
  ∃s:Trm,VL (Om0 w) (cells (.st .term) s) cs/\Pd.allT (jn N M) s=true:=by
 obtain⟨f0,f1,f2,f3,f4,f5,f6,f7,f8,e,e6,ht,hc,⟨o0,o1,o2,o3,o4,o5,o6,o7,o8⟩,⟨c0,c1,c2,c3,c4,c5,c6,c7,c8⟩,⟨u0,u1,u2,u3,u4,u5,u6,u7,u8⟩,⟨us,ce,b16⟩,hg⟩:=hs;have cg:P.cellsOf e6=ab (.st .shape):=by obtain⟨_,_,_,_,_,_,_,hc,_⟩:=hg;rw[hc];rfl
 intro fuel
 induction fuel using Nat.strongRecOn with
 |_ fuel ih=>
 intro cs x h hN;obtain⟨n,hn,hl,hf⟩:=GG hb ht h hN;rw[hc]at hl;obtain⟨y0,h0,_⟩:=hf 0 f0 rfl;obtain⟨y1,h1,_⟩:=hf 1 f1 rfl;obtain⟨y2,h2,b2⟩:=hf 2 f2 rfl;obtain⟨y3,h3,_⟩:=hf 3 f3 rfl;obtain⟨y4,h4,b4⟩:=hf 4 f4 rfl;obtain⟨y5,h5,_⟩:=hf 5 f5 rfl;obtain⟨y6,h6,_⟩:=hf 6 f6 rfl;obtain⟨y7,h7,b7⟩:=hf 7 f7 rfl;obtain⟨y8,h8,_⟩:=hf 8 f8 rfl
 match cs,hl with
 |[a0,a1,a2,a3,a4,a5,a6,a7,a8],_=>
  rw[o0,c0]at h0;rw[o1,c1]at h1;rw[o2,c2]at h2;rw[o3,c3]at h3;rw[o4,c4]at h4;rw[o5,c5]at h5;rw[o6,c6]at h6;rw[o7,c7]at h7;rw[o8,c8]at h8;simp only[Nq,Oy,NV,Od]at h0 h1 h2 h3 h4 h5 h6 h7 h8;obtain⟨k,e0,v0⟩:=CE u0 h0;obtain⟨p,w1,e1,v1⟩:=rW u1 h1;obtain⟨m,w2,e2,v2,l2⟩:=Ld hb u2 h2 b2;obtain⟨z,e3,v3⟩:=CE u3 h3;have strs:∀(n:Nat)(ds:List Value)(y:DataW H×List MemPlace),DataW.trod enc P w base (fun _=>true) held n e ds=some y->∃z:den .str,VL (Om0 w) (cells .str z) ds:=fun n ds y hy=>by obtain⟨s,v,rfl,hv⟩:=rW us hy;exact⟨s,VL.cons hv .nil⟩
  obtain⟨ns,w4,e4,v4,l4,_⟩:=CI (τ:=.str) (Q:=fun _=>True) hb u4 ce (by decide) h4 b4 (fun n ds y _ hy _=>by obtain⟨z,hz⟩:=strs n ds y hy;exact⟨z,hz,trivial⟩);obtain⟨vs,w5,e5,v5⟩:=vJ (τ:=.str) u5 ce (by decide) h5 (fun n ds y _ hy=>strs n ds y hy);obtain⟨ss,w6,e6,v6⟩:=vJ (τ:=.st .shape) u6 cg (by decide) h6 (fun n ds y _ hy=>CG hg n ds y hy);obtain⟨ps,w7,e7,v7,_,q7⟩:=CI (τ:=.st .term) (Q:=fun s=>Pd.allT (jn N M) s=true) hb u7 (by rw[hc];rfl) (by decide) h7 b7 (fun k ds y hk hy hle=>ih k (by omega) ds y hy hle);obtain⟨at_,e8,v8⟩:=CE u8 h8;simp only[Nx,N4]at e0 e1 e2 e3 e4 e5 e6 e7 e8;subst e0 e1 e2 e3 e4 e5 e6 e7 e8;refine⟨⟨k,p,m,z,ns,vs,ss,ps,at_⟩,VL.cons v0 (VL.cons v1 (VL.cons v2 (VL.cons v3 (VL.cons v4 (VL.cons v5 (VL.cons v6 (VL.cons v7 (VL.cons v8 .nil)))))))),?_⟩;rw[Pd.allT_eq,Mo,Pd.allTL_all,MI];refine⟨?_,q7⟩;unfold jn;rw[Xd (show ns.length<=N from l4 (Nat.le_of_eq b16.symm)),Xd (show m.length<=M from l2)];rfl
theorem Eg{N M:Nat}{g:TypeId->DataW H->Prop}(hb:GoodR P N M g){t:TypeId}(hs:TermAt P t){r:Reach}{b0:Nat}{v:Value}{d:DataW H}{ps:List MemPlace}(hv:Value.okWide P w r b0 t v)(h:DataW.Trod enc P w base (fun _=>true) held t v d ps)(hg:g t d):∃s:Trm,V (Om0 w) (.st .term s) v/\Pd.allT (jn N M) s=true:=by
 obtain⟨fu,h⟩:=h;obtain⟨s,hs',hq⟩:=Le hb hs _ _ _ h hg;refine⟨s,.st .term s v ?_,hq⟩;have hl:=hs'.1;have hc:(cells (.st .term) s).length=9:=rfl;rw[hc]at hl
 cases v with|agg vs=>have:=V.of_agg hs';simpa[Value.cells]using this|_=>simp[Value.cells]at hl
end Go.AL
end
noncomputable section
namespace Go.AL
open Go.ChangeShapes Go.WideShapes Go.RowKit
variable [Tabs]
variable {H:Type} {enc:TypeId×Value->H} {P:Program} {w:World} {base:Nat} {held:Bool}
structure OpAt(P:Program)(t:TypeId):Prop where
 ex:∃(f0 f1 f2 f3 f4 f5:Field)(e e4:TypeId),P.underlying t=some (.struct #[f0,f1,f2,f3,f4,f5])/\P.cellsOf t=6/\
  (f0.offset=0/\f1.offset=1/\f2.offset=2/\f3.offset=3/\f4.offset=4/\f5.offset=5)/\
  (P.cellsOf f0.type=1/\P.cellsOf f1.type=1/\P.cellsOf f2.type=1/\P.cellsOf f3.type=1/\P.cellsOf f4.type=1/\P.cellsOf f5.type=1)/\
  (P.underlying f0.type=some (.int .i64)/\P.underlying f1.type=some (.int .i64)/\P.underlying f2.type=some .string/\P.underlying f3.type=some (.slice e)/\P.underlying f4.type=some (.slice e4)/\P.underlying f5.type=some (.int .i64))/\
  (P.underlying e=some .string/\P.cellsOf e=1)/\P.underlying e4=some (.int .i64)/\P.cellsOf e4=1
structure ChunkAt(P:Program)(t:TypeId):Prop where
 ex:∃(f0 f1:Field)(e:TypeId),P.underlying t=some (.struct #[f0,f1])/\P.cellsOf t=2/\(f0.offset=0/\f1.offset=1)/\(P.cellsOf f0.type=1/\P.cellsOf f1.type=1)/\P.underlying f0.type=some (.int .i64)/\P.underlying f1.type=some (.slice e)/\OpAt P e
end Go.AL
end
section
namespace Go.Proofs.YtldkmcedeenlnaaGreatDoor.Join
open Go.AL Go.AL.Seat Go.Pd Go.ChangeShapes Go.WideShapes Go.RowKit Go.Lib Go.Shelf
set_option maxRecDepth 1000000
variable {H:Type}
theorem GH(d:DataW H):1<=Rows.uptoBulk d:=by
 cases d with
 |lit l=>cases l<;>(unfold Rows.uptoBulk;omega)
 |_=>unfold Rows.uptoBulk;omega
theorem xF:∀l:List (DataW H),l.length<=Rows.uptoBulkAll l
 |[]=>ME _
 |d::r=>by have:=xF r;have:=GH d;unfold Rows.uptoBulkAll;rw[ML];omega
theorem nH{d:DataW H}:∀{l:List (DataW H)},d∈l->Rows.uptoBulk d<=Rows.uptoBulkAll l
 |x::r,h=>by
  unfold Rows.uptoBulkAll;rcases MJ.1 h with rfl|h
  ·omega
  ·have:=nH h;omega
theorem Eh(P:Program):GoodR (H:=H) P 1048576 1048576 (fun _ d=>Rows.uptoBulk d<=1048576) where
 str t s ht h:=by unfold Rows.uptoBulk at h;omega
 len t e es sp ht h h16:=by have:=xF es;unfold Rows.uptoBulk at h;omega
 el t e es sp ht h x hx:=by have:=nH hx;unfold Rows.uptoBulk at h;omega
 part t fs ps ht h i f p hf hp:=by have:=nH (MN hp);unfold Rows.uptoBulk at h;omega
theorem GI{ds:List (DataW H)}(h:Rows.uptoSmall H ds=true){d:DataW H}(hd:d∈ds):Rows.uptoBulk d<=1048576:=by have:=nH hd;have:=Xo h;omega
end Go.Proofs.YtldkmcedeenlnaaGreatDoor.Join
end
noncomputable section
namespace Go.Pd
open Go Go.AL
def nI(n:Int):Int:=(Lib.bitLen n.toNat:Int)
def bq(n:Int):Int:=(nI n+7).tdiv 8
theorem Ei(b:UInt8):0<=bI b:=Int.natCast_nonneg _
theorem M9(b:UInt8):bI b<=255:=by unfold bI;have:=b.toNat_lt;omega
theorem nJ:∀f x:Nat,Lib.bitLenAux f x<=f
 |0,x=>Mx _
 |f+1,x=>by unfold Lib.bitLenAux;have:=nJ f (x/2);split<;>omega
theorem vV(n:Int):0<=nI n/\nI n<=64:=by unfold nI Lib.bitLen;have:=nJ 64 n.toNat;omega
theorem si(n:Int):0<=bq n/\bq n<=8:=by have:=vV n;unfold bq;rw[Of (by omega)];omega
def CJ(n k:Int)(q:Nat):Int:=IntKind.u8.wrap (n.fdiv (2 ^ (min (8 *(k-1-q)).toNat 64)))
def oL(n k:Int)(j:Nat):List Int:=(List.range j).map (CJ n k)
theorem tL(n k:Int)(j:Nat):(oL n k j).length=j:=by simp[oL]
theorem xG(n k:Int)(j:Nat):oL n k (j+1)=oL n k j++[CJ n k j]:=by simp[oL,List.range_succ]
def mW(n:Int)(j:Nat):List Int:=IntKind.u8.wrap (247+bq n)::oL n (bq n) j
theorem jd(n:Int)(j:Nat):(mW n j).length=j+1:=by simp[mW,tL]
theorem Ej(n:Int)(j:Nat):mW n (j+1)=mW n j++[CJ n (bq n) j]:=by simp[mW,xG]
def hZ(n:Int):Str:=if n<248 then ic [IntKind.u8.wrap n]else jf (mW n (bq n).toNat)
theorem lS(n:Int):(hZ n).length<=9:=by
 unfold hZ;split
 ·simp[ic]
 ·have:=si n;simp[jf,jd];omega
def dj(s:Str):Str:=hZ s.length++s
def iN(l:List Str):Str:=hZ l.length++l.flatMap dj
def bB(s:Str)(p:Int)(b:Bool):Int×Int×Bool:=if p=s.length then(0,p,true)else(bI (s.getD p.toNat 0),p+1,b)
def orB(n c:Int):Int:=IntKind.u64.wrap ((BitVec.ofInt IntKind.u64.bits (IntKind.u64.wrap (n *2 ^ (min 8 64))) ||| BitVec.ofInt IntKind.u64.bits c).toNat:Int)
def Ma(s:Str)(x:Int×Int×Bool):Int×Int×Bool:=(orB x.1 (bB s x.2.1 x.2.2).1,(bB s x.2.1 x.2.2).2.1,(bB s x.2.1 x.2.2).2.2)
def cq(s:Str):Nat->Int×Int×Bool->Int×Int×Bool
 |0,x=>x
 |k+1,x=>Ma s (cq s k x)
def an(s:Str)(p:Int):Int×Int×Bool:=bB s p false
def bZ(c:Int):Int:=if 248<=c then c-247 else 0
def bX(c:Int):Int:=if 248<=c then 0 else c
def iO(s:Str)(p:Int):Int×Int×Bool:=cq s (bZ (an s p).1).toNat (bX (an s p).1,(an s p).2.1,(an s p).2.2)
def aN(s:Str)(p:Int):Int×Int×Int:=
 if p<0∨(s.length:Int)<p then(0,0,2)
 else if(iO s p).2.2=true then(0,0,10)
 else if 0<bZ (an s p).1/\((iO s p).1<248∨bq (iO s p).1≠bZ (an s p).1)then(0,0,11)
 else((iO s p).1,(iO s p).2.1,0)
def InU(n:Int):Prop:=0<=n/\n<=18446744073709551615
theorem GJ(n:Int):InU (IntKind.u64.wrap n):=by unfold InU;simp only[IntKind.wrap,IntKind.bits,IntKind.signed];simp;omega
theorem Mb(n c:Int):InU (orB n c):=GJ _
def AtS(s:Str)(p:Int):Prop:=0<=p/\p<=(s.length:Int)
theorem qo{s:Str}{p:Int}{b:Bool}(h:AtS s p):0<=(bB s p b).1/\(bB s p b).1<=255/\p<=(bB s p b).2.1/\AtS s (bB s p b).2.1/\((bB s p b).2.2=false->p<(bB s p b).2.1):=by
 unfold bB AtS at *
 split
 ·simp;omega
 ·have h1:=Ei (s.getD p.toNat 0);have h2:=M9 (s.getD p.toNat 0);refine⟨h1,h2,?_,⟨?_,?_⟩,fun _=>?_⟩<;>simp only<;>omega
theorem xH{s:Str}{p:Int}{b:Bool}(h:(bB s p b).2.2=false):b=false:=by
 unfold bB at h;split at h
 ·cases h
 ·exact h
theorem vW{s:Str}:∀(k:Nat)(x:Int×Int×Bool),AtS s x.2.1->InU x.1->InU (cq s k x).1/\AtS s (cq s k x).2.1/\x.2.1<=(cq s k x).2.1/\((cq s k x).2.2=false->x.2.2=false)
 |0,x,h,hn=>⟨hn,h,Oq _,fun h=>h⟩
 |k+1,x,h,hn=>by obtain⟨c1,c2,c3,c4⟩:=vW k x h hn;obtain⟨b1,b2,b3,b4,b5⟩:=qo (b:=(cq s k x).2.2) c2;unfold cq;exact⟨Mb _ _,b4,Int.le_trans c3 b3,fun q=>c4 (xH q)⟩
theorem CK{c:Int}(h:0<=c):InU (bX c):=by unfold bX InU;split<;>omega
theorem lT(s:Str)(p:Int):InU (aN s p).1/\((aN s p).2.2=0∨(aN s p).2.2=2∨(aN s p).2.2=10∨(aN s p).2.2=11)/\
  ((aN s p).2.2=0->AtS s p/\AtS s (aN s p).2.1/\p<(aN s p).2.1):=by
 unfold aN;have z:InU 0:=by unfold InU;omega
 refine if h:p<0∨(s.length:Int)<p then ?_ else ?_
 ·rw[Mu h];exact⟨z,by simp,by simp⟩
 rw[Mp h];have ha:AtS s p:=by unfold AtS;omega
 obtain⟨b1,b2,b3,b4,b5⟩:=qo (b:=false) ha;obtain⟨c1,c2,c3,c4⟩:=vW (bZ (an s p).1).toNat (bX (an s p).1,(an s p).2.1,(an s p).2.2) b4 (CK b1);refine if h2:(iO s p).2.2=true then ?_ else ?_
 ·rw[Mu h2];exact⟨z,by simp,by simp⟩
 rw[Mp h2];split
 ·exact⟨z,by simp,by simp⟩
 ·exact⟨c1,by simp,fun _=>⟨ha,c2,Int.lt_of_lt_of_le (b5 (c4 (O1.2 h2))) c3⟩⟩
def cA(s:Str)(p:Int):Str×Int×Int:=
 if(aN s p).2.2≠0 then([],0,(aN s p).2.2)
 else if(s.length:Int)-(aN s p).2.1<(aN s p).1 then([],0,10)
 else((s.take ((aN s p).2.1+(aN s p).1).toNat).drop (aN s p).2.1.toNat,(aN s p).2.1+(aN s p).1,0)
theorem nK(s:Str)(p:Int):((cA s p).2.2=0->AtS s p/\AtS s (cA s p).2.1/\p+1+(cA s p).1.length<=(cA s p).2.1)/\0<=(cA s p).2.2/\(cA s p).2.2<=11:=by
 obtain⟨h1,h2,h3⟩:=lT s p;unfold InU at h1;unfold cA;split
 ·rename_i h;simp only;exact⟨fun e=>absurd e h,by omega,by omega⟩
 rename_i h;split
 ·simp
 rename_i h4;obtain⟨a1,a2,a3⟩:=h3 (Pm.1 h);unfold AtS at *
 refine⟨fun _=>⟨a1,⟨by simp only;omega,by simp only;omega⟩,?_⟩,by simp,by simp⟩;simp only[O6,NI];omega
def fA(s:Str):Nat->Int->List Str->Int->List Str×Int×Int
 |0,_,_,_=>([],0,10)
 |k+1,n,acc,p=>if 0<n then(if(cA s p).2.2≠0 then([],0,(cA s p).2.2)else fA s k (n-1) (acc++[(cA s p).1]) (cA s p).2.1)else(acc,p,0)
def dy(s:Str)(p:Int):List Str×Int×Int:=
 if(aN s p).2.2≠0 then([],0,(aN s p).2.2)else fA s (s.length+1) (aN s p).1 [] (aN s p).2.1
def wL(l:List Str):Nat:=(l.map fun x=>x.length+1).sum
theorem GK(a b:List Str):wL (a++b)=wL a+wL b:=by simp[wL]
theorem Ek(l:List Str):l.length<=wL l:=by
 unfold wL
 induction l with
 |nil=>simp
 |cons x r ih=>simp at ih⊢;omega
theorem xI{s:Str}:∀(k:Nat)(n:Int)(acc:List Str)(p:Int),AtS s p->(s.length:Int)+1<=k+p->InU n->
  ((fA s k n acc p).2.2=0->AtS s (fA s k n acc p).2.1/\p<=(fA s k n acc p).2.1/\(wL (fA s k n acc p).1:Int)<=wL acc+((fA s k n acc p).2.1-p))/\0<=(fA s k n acc p).2.2/\(fA s k n acc p).2.2<=11
 |0,n,acc,p,h,hk,hn=>by unfold AtS at h;omega
 |k+1,n,acc,p,h,hk,hn=>by
  obtain⟨h1,h2,h3⟩:=nK s p;unfold fA;split
  ·split
   ·rename_i e;simp only;exact⟨fun q=>absurd q e,h2,h3⟩
   ·rename_i hn0 e;obtain⟨a1,a2,a3⟩:=h1 (Pm.1 e);obtain⟨b1,b2,b3⟩:=xI k (n-1) (acc++[(cA s p).1]) (cA s p).2.1 a2 (by omega) (by unfold InU at *;omega);refine⟨fun q=>?_,b2,b3⟩;obtain⟨c1,c2,c3⟩:=b1 q;refine⟨c1,by omega,?_⟩;rw[GK]at c3;simp[wL]at c3⊢;omega
  ·exact⟨fun _=>⟨h,Oq _,by simp⟩,by simp,by simp⟩
theorem xJ(s:Str)(p:Int):((dy s p).2.2=0->AtS s p/\AtS s (dy s p).2.1/\p+1+wL (dy s p).1<=(dy s p).2.1)/\0<=(dy s p).2.2/\(dy s p).2.2<=11:=by
 obtain⟨h1,h2,h3⟩:=lT s p;unfold dy;split
 ·rename_i h;simp only;exact⟨fun e=>absurd e h,by omega,by omega⟩
 rename_i h;obtain⟨a1,a2,a3⟩:=h3 (Pm.1 h);obtain⟨b1,b2,b3⟩:=xI (s.length+1) (aN s p).1 [] (aN s p).2.1 a2 (by unfold AtS at a2;omega) h1;refine⟨fun q=>?_,b2,b3⟩;obtain⟨c1,c2,c3⟩:=b1 q;refine⟨a1,c1,?_⟩;simp[wL]at c3⊢;omega
def takS(s:Str)(p:Int)(b:Bool):List (Nat×SObj):=[(900,.box (.int .i64 p)),(901,.box (.str s)),(902,.box (.bool b))]
def takA(s:Str)(p:Int)(b:Bool):Ans:=⟨some (AtS s p/\s.length<=9223372036854775807),none,.int .u8 (bB s p b).1,takS s (bB s p b).2.1 (bB s p b).2.2⟩
def Lf:Pat:=fun args S=>
 match args,S with
 |[.ptr 900 0,.ptr 901 0,.ptr 902 0],[(900,.box (.int .i64 p)),(901,.box (.str s)),(902,.box (.bool b))]=>some (takA s p b)
 |_,_=>none
theorem J5[Tabs]{P:Program}{f:Nat}(he:au P f)(h:∀s p b,AtS s p/\s.length<=9223372036854775807->aw P f [.ptr 900 0,.ptr 901 0,.ptr 902 0] (takS s p b) (takA s p b)):ag P f Lf:=by
 intro args S A hA ho _;unfold Lf at hA;split at hA
 ·simp only[Xs]at hA;subst hA;exact⟨he,h _ _ _ (ho _ rfl)⟩
 ·cases hA
end Go.Pd
end
