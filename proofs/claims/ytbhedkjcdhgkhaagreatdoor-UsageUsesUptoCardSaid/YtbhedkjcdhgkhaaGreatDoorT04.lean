/- The layer: Go code as conditions, and that they are sound. Plain facts. No condition. -/
import Derived.Test.YtbhedkjcdhgkhaaGreatDoorT03
import Derived.ChangeMaps
import Derived.Deep.DeepWitnessRowRef
import Derived.Deep.LoopGhost
import Derived.JoinedCond
import Derived.KernelRfl
import Derived.Lib.AtoiErrMem
import Derived.Lib.DecodeN
import Derived.Lib.LaidIn
import Derived.Lib.LaidU8T
import Derived.LoopIn
import Derived.LoopNIn
import Derived.OpenShut
import Derived.OwnWalkIn
import Derived.PinnedBridge
import Derived.ProofKit
import Derived.RangeFuncBox
import Derived.RangeFuncLeaves
import Derived.Scope
import Derived.Shelf.SlIter.Sorted
import Derived.Shelf.SlSortCmp.Whole1
import Derived.Shelf.Slices.CompactS
import Derived.Shelf.Slices.In.SortNone
import Derived.Shelf.Small.Strs
import Derived.Shelf.Sort.Plain
import Derived.Shelf.Strconv.Atoi
import Derived.Shelf.Strings.BuilderF
import Derived.Shelf.Strings.Cut
import Derived.Shelf.Strings.Search3
import Derived.Shelf.Strings.SlTrimAscii
import Derived.Shelf.Strings.Split
import Derived.Shelf.Unicode.DecodeAny
import Derived.Shelf.Unicode.ValidAny
import Derived.Shelf.Vars
import Derived.Sort.Walk0
import Derived.TacticsInMore
import Derived.Test.YtbhedkjcdhgkhaaGreatDoorCards
import Derived.Test.YtbhedkjcdhgkhaaGreatDoorProg
import Derived.Test.YtbhedkjcdhgkhaaGreatDoorTie
import Derived.WalkKit
import Derived.WideKeyArgs
set_option linter.all false
set_option maxRecDepth 100000
noncomputable section
namespace Go.AL
variable [Tabs]
theorem di{s n:Nat}:∀{l m:List (Nat×Nat)},dB s n (l++m)->dB s n l/\dB s n m
 |[],m,h=>⟨trivial,h⟩
 |(a,b)::r,m,h=>by obtain⟨h1,h2⟩:=h;obtain⟨h3,h4⟩:=di h2;exact⟨⟨h1,h3⟩,h4⟩
section
variable {k:Nat} {τ:Ty} {xs:List (den τ)}
theorem og:∀(l:List AV)(j:Nat),(frzVs k τ xs l)[j]?=(l[j]?).map (frzV k τ xs)
 |[],j=>by simp[frzVs]
 |a::r,0=>by simp[frzVs]
 |a::r,j+1=>by simp only[frzVs,Mu];exact og r j
theorem jM:∀l:List AV,(frzVs k τ xs l).length=l.length
 |[]=>rfl
 |a::r=>by simp[frzVs,jM r]
theorem rE(σ:Ty)(x:den σ):∀d∈cells σ x,frzV k τ xs d=d:=by
 cases σ with
 |st n=>cases n<;>simp[cells,cP,fc,du,dL,dM,ea,cv,dN,gp,fe,ff,fg,gq,gr,fy,fh,iF,dO,gu,fA,gw,gx,fj,dz,fk,dP,gz,frzV]
 |_=>simp[cells,frzV]
theorem Dw(σ:Ty)(ys:List (den σ)):∀d∈flat σ ys,frzV k τ xs d=d:=by intro d hd;simp only[flat,Ly]at hd;obtain⟨x,_,hx⟩:=hd;exact rE σ x d hx
theorem rF(d:AV):(ae (frzV k τ xs d)).length=(ae d).length/\∀(j:Nat)(a:AV),(ae d)[j]?=some a->(ae (frzV k τ xs d))[j]?=some (frzV k τ xs a):=by
 have one:∀{d:AV},ae d=[d]->ae (frzV k τ xs d)=[frzV k τ xs d]->(ae (frzV k τ xs d)).length=(ae d).length/\
   ∀(j:Nat)(a:AV),(ae d)[j]?=some a->(ae (frzV k τ xs d))[j]?=some (frzV k τ xs a):=by
  intro d h1 h2;rw[h1,h2];refine⟨rfl,fun j a ha=>?_⟩
  cases j with|zero=>simp at ha;subst ha;rfl|succ j=>simp at ha
 cases d with|agg cs=>exact⟨jM cs,fun j a ha=>by show(frzVs k τ xs cs)[j]?=_;rw[og];have:cs[j]?=some a:=ha;rw[this];rfl⟩|st n x=>exact⟨rfl,fun j a ha=>by show(cells (.st n) x)[j]?=_;rw[rE (.st n) x a (KA ha)];exact ha⟩|row σ ys=>exact⟨rfl,fun j a ha=>by show(flat σ ys)[j]?=_;rw[Dw σ ys a (KA ha)];exact ha⟩|glst s n j=>refine one rfl ?_;simp only[frzV];split<;>rfl|_=>exact one rfl rfl
theorem oh{s n:Nat}:∀{cs:List AV} {j:Nat} {d:AV},dB s n (stpVs k cs)->cs[j]?=some d->dB s n (stpV k d)
 |a::r,0,d,h,hd=>by simp at hd;subst hd;unfold stpVs at h;exact(di h).1
 |a::r,j+1,d,h,hd=>by unfold stpVs at h;exact oh (di h).2 (by simpa using hd)
 |[],j,d,h,hd=>by simp at hd
theorem rG(σ:Ty)(x:den σ):∀d∈cells σ x,stpV k d=[]:=by
 cases σ with
 |st n=>cases n<;>simp[cells,cP,fc,du,dL,dM,ea,cv,dN,gp,fe,ff,fg,gq,gr,fy,fh,iF,dO,gu,fA,gw,gx,fj,dz,fk,dP,gz,stpV]
 |_=>simp[cells,stpV]
theorem rH{s n:Nat}{c d:AV}{j:Nat}(h:dB s n (stpV k c))(hd:(ae c)[j]?=some d):dB s n (stpV k d):=by
 have one:ae c=[c]->dB s n (stpV k d):=fun e=>by
  rw[e]at hd
  cases j with|zero=>simp at hd;subst hd;exact h|succ j=>simp at hd
 cases c with
 |agg cs=>unfold stpV at h;exact oh h hd
 |st m x=>rw[rG (.st m) x d (KA hd)];trivial
 |row σ ys=>have hm:d∈flat σ ys:=KA hd;simp only[flat,Ly]at hm;obtain⟨x,_,hx⟩:=hm;rw[rG σ x d hx];trivial
 |_=>exact one rfl
structure Froz(Ω:Om)(k s:Nat)(τ:Ty)(xs:List (den τ))(base:Option Nat)(cap:Nat)(vals:Nat->Value):Prop where
 e:Ω.e k=some (.tail s base cap)
 le:xs.length<=cap
 mx:cap<=b6
 z:base=none->cap=0
 at_:∀b,base=some b->∀(j:Nat)(c:AV),(flat τ xs)[j]?=some c->Ω.pub b j/\Ω.w.cell? ⟨b,j,none⟩=some (vals j)/\V Ω c (vals j)
theorem V.frzV{Ω:Om}{s cap:Nat}{base:Option Nat}{vals:Nat->Value}(hf:Froz Ω k s τ xs base cap vals){a:AV}{v:Value}(h:V Ω a v):dB s xs.length (stpV k a)->V Ω (AL.frzV k τ xs a) v:=by
 have many:∀{cs:List AV} {vs:List Value},dB s xs.length (stpVs k cs)->cs.length=vs.length->(∀(j:Nat)(d:AV)(v:Value),cs[j]?=some d->vs[j]?=some v->dB s xs.length (stpV k d)->V Ω (AL.frzV k τ xs d) v)->
   (frzVs k τ xs cs).length=vs.length/\∀(j:Nat)(d:AV)(v:Value),(frzVs k τ xs cs)[j]?=some d->vs[j]?=some v->V Ω d v:=by
  intro cs vs hst hl ih;refine⟨by rw[jM,hl],fun j d v hd hv=>?_⟩;rw[og]at hd;simp only[KB]at hd;obtain⟨d0,hd0,rfl⟩:=hd;exact ih j d0 v hd0 hv (oh hst hd0)
 induction h with
 |glst s1 n j cap0 a0 h1 h2 h3 h4=>
  intro hs;simp only[AL.frzV]
  cases hj:Nat.beq j k with
  |false=>exact .glst s1 n j cap0 a0 h1 h2 h3 h4
  |true=>
   have ej:=Kz hj;subst ej;unfold stpV at hs;rw[hj]at hs;obtain⟨⟨rfl,rfl⟩,_⟩:=hs;obtain⟨m,b2,c2,q1,q2,q3⟩:=h4;rw[hf.e]at q1;simp only[Xs,CObj.tail.injEq]at q1;obtain⟨rfl,rfl,rfl⟩:=q1;obtain⟨e1,e2⟩:=q3 rfl;subst e1 e2
   cases base with
   |none=>have hc:=hf.z rfl;have hx:xs=[]:=Kk (by have:=hf.le;omega);subst hc hx;exact .lstNil τ none (fun id hid=>by cases hid)
   |some b=>
    have fl:∀{i:Nat} {x:den τ} {j:Nat} {c:AV},xs[i]?=some x->(cells τ x)[j]?=some c->(AL.flat τ xs)[i *ab τ+j]?=some c:=fun hx hc=>fI τ xs _ _ _ _ hx hc
    exact V.lst (Ω:=Ω) τ xs none b 0 _ (fun i j=>vals (i *ab τ+j)) hf.le hf.mx (fun id hid=>by cases hid)
     (fun i x hx j c' hc=>by have:=hf.at_ b rfl _ c' (fl hx hc);rw[Lk];exact⟨this.1,this.2.1⟩) (fun i x hx j c' hc=>(hf.at_ b rfl _ c' (fl hx hc)).2.2)
 |cptr d b' o vs h1 h2 ih=>
  intro hs;obtain⟨p1,p2⟩:=rF (k:=k) (xs:=xs) d
  have back:∀(j:Nat)(d':AV),(ae (AL.frzV k τ xs d))[j]?=some d'->∃d0,(ae d)[j]?=some d0/\d'=AL.frzV k τ xs d0:=by
   intro j d' hd'
   have hj:j<(ae d).length:=by
    rw[<-p1];rcases Kl j (ae (AL.frzV k τ xs d)).length with q|q
    ·exact q
    ·rw[Kd q]at hd';cases hd'
   have:=p2 j _ (K9 hj);rw[hd']at this;exact⟨_,K9 hj,KY this⟩
  have hs':dB s xs.length (stpV k d):=by unfold stpV at hs;exact hs
  refine .cptr _ b' o vs (fun j d' hd'=>?_) (fun j d' hd'=>?_)
  ·obtain⟨d0,q1,_⟩:=back j d' hd';exact h1 j d0 q1
  ·obtain⟨d0,q1,rfl⟩:=back j d' hd';exact ih j d0 q1 (rH hs' q1)
 |agg cs vs hl _ ih=>intro hs;unfold stpV at hs;obtain⟨q1,q2⟩:=many hs hl ih;exact .agg _ vs q1 q2
 |tup cs vs hl _ ih=>intro hs;unfold stpV at hs;obtain⟨q1,q2⟩:=many hs hl ih;exact .tup _ vs q1 q2
 |fn f cs vs hl _ ih=>intro hs;unfold stpV at hs;obtain⟨q1,q2⟩:=many hs hl ih;exact .fn f _ vs q1 q2
 |iface t a v _ ih=>intro hs;unfold stpV at hs;exact .iface t _ v (ih hs)
 |undef v=>intro _;exact .undef v
 |int k n h1 h2=>intro _;exact .int k n h1 h2
 |bool b=>intro _;exact .bool b
 |str s h=>intro _;exact .str s h
 |lstNil τ o ht=>intro _;exact .lstNil τ o ht
 |lstVoid τ a=>intro _;exact .lstVoid τ a
 |lst τ xs o b' off' cap vals' h1 h2 h3 h4 h5 _=>intro _;exact .lst τ xs o b' off' cap vals' h1 h2 h3 h4 h5
 |nils=>intro _;exact .nils
 |nilp=>intro _;exact .nilp
 |ptNone n=>intro _;exact .ptNone n
 |ptSome n x v hv _=>intro _;exact .ptSome n x v hv
 |ptr i o b' p len he=>intro _;exact .ptr i o b' p len he
 |arr i n w b' len cap a he h1 h2 h3 h4=>intro _;exact .arr i n w b' len cap a he h1 h2 h3 h4
 |aptr i n w o b' p len he=>intro _;exact .aptr i n w o b' p len he
 |map i r he=>intro _;exact .map i r he
 |bptr i b g he=>intro _;exact .bptr i b g he
 |nilif=>intro _;exact .nilif
 |nilm=>intro _;exact .nilm
 |lstp τ xs k b' off' cap vals' h1 h2 h3 h4 h5 _=>intro _;exact .lstp τ xs k b' off' cap vals' h1 h2 h3 h4 h5
 |tptr τ n k p hp=>intro _;exact .tptr τ n k p hp
 |gptr k s i w off b h1=>intro _;exact .gptr k s i w off b h1
 |st n x v hv _=>intro _;exact .st n x v hv
end
theorem xo(k:Nat)(τ:Ty)(xs:List (den τ))(ts:List Nat):∀(l:List (Nat×AV))(i:Nat),
  aS (vi k τ xs ts l) i=.undef∨(aS (vi k τ xs ts l) i=aS l i/\(∀j∈ids (aS l i),j≠k))∨(aS (vi k τ xs ts l) i=frzV k τ xs (aS l i)/\∀s n,dB s n (Fw k ts l)->dB s n (stpV k (aS l i)))
 |[],i=>.inl rfl
 |(m,a)::r,i=>by
  simp only[vi,cO];by_cases h:(m ==i)=true
  ·rw[Kf h,Kf h]
   cases hd:qz (ids a) [k]with
   |true=>right;left;refine⟨rfl,fun j hj=>?_⟩;have:=dc hd j hj;simpa using this
   |false=>
    cases ht:ts.contains m with|false=>exact .inl rfl|true=>right;right;refine⟨rfl,fun s n hs=>?_⟩;simp only[Fw,ht]at hs;exact(di hs).1
  ·rw[Kb h,Kb h];rcases xo k τ xs ts r i with q|q|⟨q1,q2⟩
   ·exact .inl q
   ·exact .inr (.inl q)
   ·exact .inr (.inr ⟨q1,fun s n hs=>q2 s n (by simp only[Fw]at hs;exact(di hs).2)⟩)
theorem Ah{F:Fr}{s s':St}{q:Prop}{a:Act}{Ω:Om}{k:Nat}{ts:List Nat}(h:Holds F s.abs a Ω)(hp:Ja k ts s=some (q,s'))(hq:q):∃Ω',Ω'.w=Ω.w/\Holds F s'.abs a Ω':=by
 unfold Ja at hp;split at hp
 ·rename_i τ s0 xs hb;simp only at hp;split at hp
  ·rename_i hck;simp only[Ka,Ko]at hck;obtain⟨hnn,hnl⟩:=hck;simp only[Xs,ME]at hp;obtain⟨rfl,rfl⟩:=hp;obtain⟨qT,qB⟩:=di hq;simp only[cD,Ka,Kp]at hnn;obtain⟨base,cap,e1,e2,e3,e4,e5⟩:=h.slots k _ hb
   let Ω1:Om:=⟨Ω.e,Ω.w,fun b' o=>Ω.pub b' o∨(base=some b'/\o<(flat τ xs).length)⟩
   have hx1:Ext Ω Ω1:=⟨fun i c hc=>⟨c,hc,CLe.refl c⟩,fun _ _ p=>Or.inl p,fun _ _ _=>rfl⟩
   have hfast:Froz Ω1 k s0 τ xs base cap (fun j=>match base with|some b=>(Ω.w.cell? ⟨b,j,none⟩).getD undef|none=>undef):=by
    refine⟨e1,e2,e3,e4,fun b hbb j c' hc=>?_⟩;subst hbb;obtain⟨k1,k2,k3,k4⟩:=e5 b rfl;obtain⟨v,v1,v2⟩:=k4 j c' hc
    have hj:j<(flat τ xs).length:=by
     rcases Kl j (flat τ xs).length with g|g
     ·exact g
     ·rw[Kd g]at hc;cases hc
    refine⟨Or.inr ⟨rfl,hj⟩,?_,?_⟩
    ·show Ω.w.cell? _=_;simp only[v1];rfl
    ·simp only[v1,L8];exact v2.ext hx1
   have hag:∀{x:AV} {v:Value},V Ω1 x v->(∀i∈ids x,i≠k)->V ⟨fun i=>if i=k then none else Ω.e i,Ω1.w,Ω1.pub⟩ x v:=
    fun hv hi=>V.agree hv (fun i him=>by simp[hi i him,Ω1])
   have apart:∀id' c0,id'≠k->Ω.e id'=some c0->∀b' o,occ c0 b' o->¬(base=some b'/\o<(flat τ xs).length):=by intro id' c0 hid hc0 b' o hoc hk;exact hid (h.inj id' k c0 _ b' o hc0 e1 hoc (by simpa[occ]using hk.1))
   refine⟨⟨fun i=>if i=k then none else Ω.e i,Ω.w,Ω1.pub⟩,rfl,⟨fun i=>?_,h.size,h.defers,fun id' o ho=>?_,fun id' hid=>?_,fun i j ci cj b' o hi hj=>?_,fun b' o hp=>?_,fun i x hx=>?_,?_⟩⟩
   ·show V _ (aS (vi k τ xs ts s.t) i) _
    have hnames:∀j∈ids (aS (vi k τ xs ts s.t) i),j≠k:=by
     intro j hj;rcases kC (vi k τ xs ts s.t) i with hu|hm
     ·rw[hu]at hj;simp[ids]at hj
     ·have:=dc (hnn.1 _ hm) j hj;simpa using this
    rcases xo k τ xs ts s.t i with g|⟨g,g2⟩|⟨g,g2⟩
    ·rw[g];exact .undef _
    ·rw[g];exact hag ((h.tmps i).ext hx1) g2
    ·rw[g]at hnames⊢;exact hag (V.frzV hfast ((h.tmps i).ext hx1) (g2 _ _ qT)) hnames
   ·simp only[St.abs]at ho;have e:=iw (Fv k τ xs) (s.b.filter fun x=>!(x.1 ==k)) id';rw[e]at ho;have e':=dW s.b (fun i=>!(i ==k)) id';rw[e']at ho;by_cases hid:id'=k
    ·subst hid;simp at ho
    ·rw[Kf (by simp[hid])]at ho;simp only[KB]at ho;obtain⟨o0,ho0,rfl⟩:=ho;have hs:=h.slots id' o0 ho0;have hmm:(id',o0)∈s.b.filter fun x=>!(x.1 ==k):=L3.2 ⟨cr _ _ _ ho0,by simp[hid]⟩
     cases o0 with
     |box d=>
      obtain⟨b2,off2,g1,g2⟩:=hs;obtain⟨p1,p2⟩:=rF (k:=k) (xs:=xs) d
      have hst:dB s0 xs.length (stpV k d):=by
       have:∀{l:List (Nat×SObj)},(id',SObj.box d)∈l->dB s0 xs.length (l.flatMap fun x=>stpO k x.2)->dB s0 xs.length (stpV k d):=by
        intro l
        induction l with
        |nil=>intro hm;cases hm
        |cons y r ih=>
         intro hm hq;rw[Mk]at hq;obtain⟨q1,q2⟩:=di hq;rcases Ks.1 hm with rfl|hm
         ·exact q1
         ·exact ih hm q2
       exact this hmm qB
      refine⟨b2,off2,by simp only[Kb hid];rw[g1,p1],fun j d' hd'=>?_⟩
      have hj:j<(ae d).length:=by
       rw[<-p1];rcases Kl j (ae (frzV k τ xs d)).length with g|g
       ·exact g
       ·rw[Kd g]at hd';cases hd'
      have hd2:=p2 j _ (K9 hj);rw[hd']at hd2;obtain⟨m1,m2,m3,v,m4,m5⟩:=g2 j _ (K9 hj);refine⟨m1,fun hp=>?_,m3,v,m4,?_⟩
      ·rcases hp with hp|hp
       ·exact m2 hp
       ·exact apart id' _ hid g1 b2 (off2+j) ⟨rfl,by omega,by omega⟩ hp
      ·rw[KY hd2];refine hag (V.frzV hfast (m5.ext hx1) (rH hst (K9 hj))) (fun i hi=>?_)
       have hmem:(id',Fv k τ xs (.box d))∈((s.b.filter fun x=>!(x.1 ==k)).map fun x=>(x.1,Fv k τ xs x.2)):=
        KM.2 ⟨(id',.box d),hmm,rfl⟩
       have:=dc (hnn.2 _ hmem) i (lB (c:=frzV k τ xs d) (by rw[<-KY hd2];exact hd') i hi);simpa using this
     |tail σ n=>
      obtain⟨base2,cap2,g1,g2,g3,g4,g5⟩:=hs;refine⟨base2,cap2,by simp only[Kb hid];exact g1,g2,g3,g4,fun b2 hb2=>?_⟩;obtain⟨m1,vs,ty,fz,m2,m3,m4,m5⟩:=g5 b2 hb2;refine⟨m1,vs,ty,fz,m2,m3,m4,fun o ho hp=>?_⟩;rcases hp with hp|hp
      ·exact m5 o ho hp
      ·exact apart id' _ hid g1 b2 o hb2 hp
     |map κ σ m=>obtain⟨r,g1,g2,es,clock,g3,g4⟩:=hs;exact⟨r,by simp only[Kb hid];exact g1,g2,es,clock,g3,(g4.ext hx1).data⟩
     |bld t u l=>
      obtain⟨b2,g,g1,g2,g3⟩:=hs;refine⟨b2,g,by simp only[Kb hid];exact g1,fun b3 hb3 o=>⟨(g2 b3 hb3 o).1,fun hp=>?_⟩,g3⟩;rcases hp with hp|hp
      ·exact(g2 b3 hb3 o).2 hp
      ·exact apart id' _ hid g1 b3 o hb3 hp
     |tailp σ n x=>
      obtain⟨b2,cap2,g1,g2,g3,g4,g5,g6,g7⟩:=hs;refine⟨b2,cap2,by simp only[Kb hid];exact g1,g2,g3,g4,g5,fun o ho hp=>?_,fun j c' hc=>?_⟩
      ·rcases hp with hp|hp
       ·exact g6 o ho hp
       ·exact apart id' _ hid g1 b2 o rfl hp
      ·obtain⟨v,k1,k2⟩:=g7 j c' hc;refine⟨v,k1,hag (k2.ext hx1) (fun i hi=>?_)⟩;have:=dH hc i hi;rw[fq]at this;cases this
     |grow σ n ys=>
      obtain⟨base2,cap2,g1,g2,g3,g4,g5⟩:=hs;refine⟨base2,cap2,by simp only[Kb hid];exact g1,g2,g3,g4,fun b2 hb2=>?_⟩;obtain⟨m1,m2,m3,m4⟩:=g5 b2 hb2;refine⟨m1,m2,fun o hp=>?_,fun j c' hc=>?_⟩
      ·rcases hp with hp|hp
       ·exact m3 o hp
       ·exact apart id' _ hid g1 b2 o hb2 hp
      ·obtain⟨v,k1,k2⟩:=m4 j c' hc;exact⟨v,k1,(k2.ext hx1).flat hc⟩
   ·simp only[St.abs]at hid;by_cases hii:id'=k
    ·simp[hii]
    ·have e:=iw (Fv k τ xs) (s.b.filter fun x=>!(x.1 ==k)) id';rw[e]at hid;have e':=dW s.b (fun i=>!(i ==k)) id';rw[e',Kf (by simp[hii])]at hid;simp only[Kb hii];exact h.dom id' (by show al s.b id'=none;simpa using hid)
   ·intro h1 h2;simp only at hi hj;split at hi
    ·cases hi
    ·split at hj
     ·cases hj
     ·exact h.inj i j ci cj b' o hi hj h1 h2
   ·rcases hp with hp|⟨hp1,hp2⟩
    ·exact h.pubok b' o hp
    ·obtain⟨_,_,_,k4⟩:=e5 b' hp1;obtain⟨v,hv,_⟩:=k4 o _ (K9 hp2);exact⟨v,hv⟩
   ·have hl:=F.dom0 i x hx;have hne:i≠k:=fun e=>by subst e;rw[hnl]at hl;cases hl
    obtain⟨x',q1,q2⟩:=h.keep i x hx;exact⟨x',by simp only[Kb hne];exact q1,q2⟩
   ·refine⟨h.frame.os,h.frame.tape,h.frame.output,h.frame.size,h.frame.block,h.frame.cell,h.frame.kind,fun b' o hp=>?_,fun b' o hp=>Or.inl (h.frame.old b' o hp),h.frame.pcell⟩;rcases hp with hp|⟨hp1,hp2⟩
    ·exact h.frame.pub b' o hp
    ·exact Or.inr ((e5 b' hp1).1 o)
  ·cases hp
 ·cases hp
end Go.AL
end
noncomputable section
namespace Go.AL
variable [Tabs]
def Ai:SX->Exit
 |.normal=>.normal
 |.exit id=>.exit id
 |.ret=>.ret
 |.pan _=>.outgrown
def Ends(Ω:Om):SX->Exit->Prop
 |.pan pv,e=>∃v,e=.panic [{v,recovered:=false}]/\V Ω pv v
 |x,e=>Ai x=e
def QL(F:Fr)(Q:SX->St->Prop):Exit->Act->World->Prop:=fun e a w=>∃x s Ω,Ends Ω x e/\Ω.w=w/\Holds F s.abs a Ω/\Q x s
mutual
theorem forceV_eq:∀(a:AV)(k:AV->Prop),forceV a k=k a
 |.undef,k=>rfl
 |.int κ n,k=>rfl
 |.bool b,k=>rfl
 |.str s,k=>rfl
 |.lst τ xs none,k=>rfl
 |.lst τ xs (some i),k=>rfl
 |.nils,k=>rfl
 |.ptr i o,k=>rfl
 |.cptr c,k=>by simp only[forceV];rw[forceV_eq c]
 |.st n x,k=>rfl
 |.nilp,k=>rfl
 |.row τ xs,k=>rfl
 |.arr i n w,k=>rfl
 |.aptr i n w o,k=>rfl
 |.map i,k=>rfl
 |.bptr i,k=>rfl
 |.lstp τ xs i,k=>rfl
 |.glst s n i,k=>rfl
 |.gptr i s n w o,k=>rfl
 |.tptr τ n i,k=>rfl
 |.iface t a,k=>by simp only[forceV];rw[forceV_eq a]
 |.nilif,k=>rfl
 |.nilm,k=>rfl
 |.pt n x,k=>rfl
 |.agg cs,k=>by simp only[forceV];rw[forceL_eq cs]
 |.tup cs,k=>by simp only[forceV];rw[forceL_eq cs]
 |.fn f cs,k=>by simp only[forceV];rw[forceL_eq cs]
theorem forceL_eq:∀(l:List AV)(k:List AV->Prop),forceL l k=k l
 |[],k=>rfl
 |a::r,k=>by simp only[forceL];rw[forceV_eq a,forceL_eq r]
end
theorem uc:∀(l:List (Nat×AV))(k:List (Nat×AV)->Prop),vl l k=k l
 |[],k=>rfl
 |(i,a)::r,k=>by simp only[vl];rw[forceV_eq a,uc r]
theorem gf:∀(l:List (Nat×SObj))(k:List (Nat×SObj)->Prop),fH l k=k l
 |[],k=>rfl
 |(i,.box c)::r,k=>by simp only[fH];rw[forceV_eq c,gf r]
 |(i,.tail τ n)::r,k=>by simp only[fH];rw[gf r]
 |(i,.map κ τ m)::r,k=>by simp only[fH];rw[gf r]
 |(i,.bld t u l)::r,k=>by simp only[fH];rw[gf r]
 |(i,.tailp τ n x)::r,k=>by simp only[fH];rw[gf r]
 |(i,.grow τ s xs)::r,k=>by simp only[fH];rw[gf r]
theorem cU(s:St)(k:St->Prop):eH s k=k s:=by unfold eH;rw[uc,gf]
theorem iy:∀(l:List Nat)(k:List Nat->Prop),iI l k=k l
 |[],k=>rfl
 |0::r,k=>by simp only[iI];rw[iy r]
 |(n+1)::r,k=>by simp only[iI];rw[iy r]
theorem Holds.trim{F:Fr}{s:St}{a:Act}{Ω:Om}(h:Holds F s.abs a Ω)(keep:List Nat):Holds F (trim keep s).abs a Ω:=by
 refine⟨fun i=>?_,h.size,h.defers,h.slots,h.dom,h.inj,h.pubok,h.keep,h.frame⟩;have:=iN s.t (fun i=>keep.contains i) i;simp only[AL.trim,St.abs];rw[this];split
 ·exact h.tmps i
 ·exact .undef _
section
variable {P:Program} {C:Cfg} {F:Fr}
theorem lN(hm:P.follows .mixedOrders=true)(hT:aX P C.tbl)(hS:bM P C.spec)(keep:List Nat){id:Nat}{ops:Array Oper}{draw:Bool}{s1:St}{Q:SX->St->Prop}{a:Act}{Ω1:Om}
 (hdst:∀(o:Oper),o∈ops.toList->∀d,o.dst=some d->d<F.n)(h:pT C keep ops draw s1 Q)(hh1:Holds F s1.abs a Ω1):(Code.region id ops draw).wp P (QL F Q) a Ω1.w:=by
 unfold pT at h
 have key:∀s' fs,(eH (trim keep s') fun s'=>if draw=true then(if eG ops.toList fs=true then Q .normal s' else False)else Q .normal s')->
   (draw=true->eG ops.toList fs=true)/\Q .normal (trim keep s'):=by
  intro s' fs hk;simp only[cU]at hk
  cases draw with
  |false=>exact⟨fun h=>by simp at h,by simpa using hk⟩
  |true=>
   simp only[Lf]at hk;rcases Md (eG ops.toList fs=true)with k|k
   ·rw[Kf k]at hk;exact⟨fun _=>k,hk⟩
   ·rw[Kb k]at hk;exact hk.elim
 refine nc hm hT hS hdst h (fun hdr s' fs hk=>let ⟨s2,h2⟩:=oe _ hk;(key s2 fs h2).1 hdr) hh1 (fun s' fs a' Ω' hk h'=>
   let ⟨s2,Ω2,g1,g2,g3⟩:=rC h' hk
   ⟨.normal,trim keep s2,Ω2,rfl,g1,g2.trim keep,(key s2 fs g3).2⟩)
  (fun pv s' a' Ω' v hk h' hv=>?_)
 simp only[cU,forceV_eq]at hk;exact⟨.pan pv,s',Ω',⟨v,rfl,hv⟩,rfl,h',hk⟩
theorem Aj(hT:aX P C.tbl){keep:List Nat}{id:Nat}{ops:Array Oper}{draw:Bool}{s:St}{p:Prop}{f:Bool->St}{a:Act}{Ω:Om}(hn:D4 C keep ops draw s=some (p,f))
 (hdst:∀(o:Oper),o∈ops.toList->∀d,o.dst=some d->d<F.n)(hh:Holds F s.abs a Ω):(Code.region id ops draw).wp P (QL F fun x t=>x=.normal/\∃b,(b=true->p)/\t=f b) a Ω.w:=by
 unfold D4 at hn;split at hn
 ·rename_i m src ty1 ps1 af1 c t m' t2 ty2 ps2 af2 hops;split at hn
  ·rename_i e sz by' z ty τ xs o hc ht hsrc
   cases hn;simp only[Ka,Ko]at hc;obtain⟨hm,hcm⟩:=hc;obtain rfl:=Kz hm;have hne:¬m'=c:=fun e=>by rw[e,NU]at hcm;cases hcm
   have d1:m'<F.n:=hdst _ (by rw[hops];exact KK ..) m' rfl;have d2:c<F.n:=hdst _ (by rw[hops];exact Kx _ (KK ..)) c rfl;obtain⟨dd,u1,u2⟩:=aD hT ht rfl;cases dd<;>simp[aH]at u2;have hv:=b5 hh src;rw[show opd s.abs.T src=.lst τ xs o from hsrc]at hv;have hv2:V Ω (.lst τ xs none) (a.eval src):=hv.le (G:=[]) (fun k hk=>by cases hk) (bN (by simp[LeF,eF]))
   obtain⟨q,n,cp,hev,hq⟩:∃q n cp,a.eval src=.slice q n cp/\(q.isNone=true->xs=[]):=by
    generalize a.eval src=sv at hv2
    cases hv2 with|lstNil _ _ _=>exact⟨_,_,_,rfl,fun _=>rfl⟩|lstVoid _ _=>exact⟨_,_,_,rfl,fun _=>rfl⟩|lst _ _ _ b off cap vals h1 h2 tok hc hv=>exact⟨_,_,_,rfl,fun q=>by cases q⟩
   have hsz:=hh.size;have eqs:ops=#[⟨some m',.move src,ty1,ps1,af1,none⟩,⟨some c,.binOp .eql t (.tmp m') (.const (.slice none 0 0)) t2,ty2,ps2,af2,none⟩]:=by cases ops;simp at hops;rw[hops]
   subst eqs;rw[hev]at hv2;have hp1:=hh.pure (dst:=some m') (val:=.lst τ xs none) (v:=.slice q n cp) hv2 (fun d e=>by cases e;exact d1);have hp2:=hp1.pure (dst:=some c) (val:=.bool q.isNone) (v:=.bool q.isNone) (.bool _) (fun d e=>by cases e;exact d2);refine N6 ?_;show wpOps P _ _ [0,1] a Ω.w;refine cu (o:=⟨some m',.move src,ty1,ps1,af1,none⟩) rfl rfl (aq (v:=.slice q n cp) (w':=Ω.w) (by simp[execOp,hev]) ?_);have hm1:(a.put (some m') (.slice q n cp)).eval (.tmp m')=.slice q n cp:=by show(a.put (some m') (.slice q n cp)).tmps.getD m' undef=_;rw[cw hsz d1,Kf rfl]
   have hq2:(Op.equal t (.slice q n cp) (.slice none 0 0)).run P Ω.w=.ok q.isNone Ω.w:=by unfold Op.equal Op.maxDepth Op.equalIn;simp only[Ky,aC u1,Kj];cases q<;>rfl
   have hg:(eqGuard .eql t (.tmp m') (.const (.slice none 0 0)) (.slice q n cp) (.slice none 0 0)).run P Ω.w=.ok () Ω.w:=rfl
   refine cu (o:=⟨some c,.binOp .eql t (.tmp m') (.const (.slice none 0 0)) t2,ty2,ps2,af2,none⟩) rfl rfl (aq (v:=.bool q.isNone) (w':=Ω.w) (by
    have hk:(a.put (some m') (.slice q n cp)).eval (.const (.slice none 0 0))=.slice none 0 0:=rfl;simp[execOp,hm1,hev,hk,hg,binOp,hq2]) ?_)
   refine⟨.normal,_,Ω,rfl,rfl,?_,rfl,q.isNone,hq,rfl⟩;refine Holds.trim (s:=⟨fV (fV s.t m' (.lst τ xs none)) c (.bool q.isNone),s.b⟩) ?_ keep;have eT:(St.abs ⟨fV (fV s.t m' (.lst τ xs none)) c (.bool q.isNone),s.b⟩)=⟨bh (bh s.abs.T (some m') (.lst τ xs none)) (some c) (.bool q.isNone),s.abs.B⟩:=by show AS.mk _ _=AS.mk _ _;congr 1;funext k;show aS (fV (fV s.t m' (.lst τ xs none)) c (.bool q.isNone)) k=_;rw[ed,ed];rfl
   rw[eT];exact hp2
  ·rename_i e sz by' z ty s1 n0 k0 hc ht hsrc
   cases hn;simp only[Ka,Ko]at hc;obtain⟨hm,hcm⟩:=hc;obtain rfl:=Kz hm;have hne:¬m'=c:=fun e=>by rw[e,NU]at hcm;cases hcm
   have d1:m'<F.n:=hdst _ (by rw[hops];exact KK ..) m' rfl;have d2:c<F.n:=hdst _ (by rw[hops];exact Kx _ (KK ..)) c rfl;obtain⟨dd,u1,u2⟩:=aD hT ht rfl;cases dd<;>simp[aH]at u2;have hv:=b5 hh src;rw[show opd s.abs.T src=.glst s1 n0 k0 from hsrc]at hv;have hv2:V Ω (.glst s1 n0 k0) (a.eval src):=hv
   obtain⟨q,n,cp,hev,hq⟩:∃q n cp,a.eval src=.slice q n cp/\(q.isNone=true->n0=0):=by
    obtain⟨cap,a0,g1,g2,g3,g4,g5⟩:=hv2.glst_inv;refine⟨a0,n0,cap,g1,fun q=>?_⟩;rcases g4 with⟨b,rfl⟩|⟨_,g,_⟩
    ·cases q
    ·exact g
   have hsz:=hh.size;have eqs:ops=#[⟨some m',.move src,ty1,ps1,af1,none⟩,⟨some c,.binOp .eql t (.tmp m') (.const (.slice none 0 0)) t2,ty2,ps2,af2,none⟩]:=by cases ops;simp at hops;rw[hops]
   subst eqs;rw[hev]at hv2;have hp1:=hh.pure (dst:=some m') (val:=.glst s1 n0 k0) (v:=.slice q n cp) hv2 (fun d e=>by cases e;exact d1);have hp2:=hp1.pure (dst:=some c) (val:=.bool q.isNone) (v:=.bool q.isNone) (.bool _) (fun d e=>by cases e;exact d2);refine N6 ?_;show wpOps P _ _ [0,1] a Ω.w;refine cu (o:=⟨some m',.move src,ty1,ps1,af1,none⟩) rfl rfl (aq (v:=.slice q n cp) (w':=Ω.w) (by simp[execOp,hev]) ?_);have hm1:(a.put (some m') (.slice q n cp)).eval (.tmp m')=.slice q n cp:=by show(a.put (some m') (.slice q n cp)).tmps.getD m' undef=_;rw[cw hsz d1,Kf rfl]
   have hq2:(Op.equal t (.slice q n cp) (.slice none 0 0)).run P Ω.w=.ok q.isNone Ω.w:=by unfold Op.equal Op.maxDepth Op.equalIn;simp only[Ky,aC u1,Kj];cases q<;>rfl
   have hg:(eqGuard .eql t (.tmp m') (.const (.slice none 0 0)) (.slice q n cp) (.slice none 0 0)).run P Ω.w=.ok () Ω.w:=rfl
   refine cu (o:=⟨some c,.binOp .eql t (.tmp m') (.const (.slice none 0 0)) t2,ty2,ps2,af2,none⟩) rfl rfl (aq (v:=.bool q.isNone) (w':=Ω.w) (by
    have hk:(a.put (some m') (.slice q n cp)).eval (.const (.slice none 0 0))=.slice none 0 0:=rfl;simp[execOp,hm1,hev,hk,hg,binOp,hq2]) ?_)
   refine⟨.normal,_,Ω,rfl,rfl,?_,rfl,q.isNone,hq,rfl⟩;refine Holds.trim (s:=⟨fV (fV s.t m' (.glst s1 n0 k0)) c (.bool q.isNone),s.b⟩) ?_ keep;have eT:(St.abs ⟨fV (fV s.t m' (.glst s1 n0 k0)) c (.bool q.isNone),s.b⟩)=⟨bh (bh s.abs.T (some m') (.glst s1 n0 k0)) (some c) (.bool q.isNone),s.abs.B⟩:=by show AS.mk _ _=AS.mk _ _;congr 1;funext k;show aS (fV (fV s.t m' (.glst s1 n0 k0)) c (.bool q.isNone)) k=_;rw[ed,ed];rfl
   rw[eT];exact hp2
  ·cases hn
 ·cases hn
theorem vJ{P:Program}{Q:Exit->Act->World->Prop}{a:Act}{w:World}{c:Code}(I:Nat->Act->World->Prop)(h₀:c.wp P (Exit.then (fun a w=>∃n,I n a w) Q) a w)
 (round:∀n a w,I n a w->c.wp P (Exit.then (fun a' w'=>∃n',n'<n/\I n' a' w') Q) a w):(Code.loop c).wp P Q a w:=by
 intro b k cs
 have key:∀n a w,I n a w->∃e a' w',Q e a' w'/\Arrives P (lone (b.at a (.code c::.inLoop c::k)) cs w) b k cs e a' w':=by
  intro n
  induction n using Nat.strongRecOn with
  |_ n ih=>
   intro a w hI;obtain⟨e,a₁,w₁,hq,harr⟩:=round n a w hI b (.inLoop c::k) cs
   cases e with
   |normal=>obtain⟨m,hlt,hI₁⟩:=hq;obtain⟨e₂,a₂,w₂,hq₂,harr₂⟩:=ih m hlt a₁ w₁ hI₁;exact⟨e₂,a₂,w₂,hq₂,.of_steps (Steps.trans harr (.one step_inLoop)) harr₂⟩
   |exit id=>exact⟨_,a₁,w₁,hq,.pass (x:=.inLoop c) rfl (fun _ _=>.inl (by simp)) harr⟩
   |goto l=>exact⟨_,a₁,w₁,hq,.pass (x:=.inLoop c) rfl (fun _ _=>.inl (by simp)) harr⟩
   |ret=>exact⟨_,a₁,w₁,hq,.pass (x:=.inLoop c) rfl (fun _ _=>.inl (by simp)) harr⟩
   |panic ch=>exact⟨_,a₁,w₁,hq,.pass (x:=.inLoop c) rfl (fun _ _=>.inl (by simp)) harr⟩
   |outgrown=>exact⟨_,a₁,w₁,hq,.pass (x:=.inLoop c) rfl (fun _ _=>.inl (by simp)) harr⟩
 obtain⟨e,a₁,w₁,hq,harr⟩:=h₀ b (.inLoop c::k) cs
 cases e with
 |normal=>obtain⟨m,hI⟩:=hq;obtain⟨e₂,a₂,w₂,hq₂,harr₂⟩:=key m a₁ w₁ hI;exact⟨e₂,a₂,w₂,hq₂,.of_steps (.one NS) (.of_steps (Steps.trans harr (.one step_inLoop)) harr₂)⟩
 |exit id=>exact⟨_,a₁,w₁,hq,.of_steps (.one NS) (.pass (x:=.inLoop c) rfl (fun _ _=>.inl (by simp)) harr)⟩
 |goto l=>exact⟨_,a₁,w₁,hq,.of_steps (.one NS) (.pass (x:=.inLoop c) rfl (fun _ _=>.inl (by simp)) harr)⟩
 |ret=>exact⟨_,a₁,w₁,hq,.of_steps (.one NS) (.pass (x:=.inLoop c) rfl (fun _ _=>.inl (by simp)) harr)⟩
 |panic ch=>exact⟨_,a₁,w₁,hq,.of_steps (.one NS) (.pass (x:=.inLoop c) rfl (fun _ _=>.inl (by simp)) harr)⟩
 |outgrown=>exact⟨_,a₁,w₁,hq,.of_steps (.one NS) (.pass (x:=.inLoop c) rfl (fun _ _=>.inl (by simp)) harr)⟩
def xp(F:Fr)(ann:An)(c:Code)(W:St->(SX->St->Prop)->Prop)(Q:SX->St->Prop)(k:Nat)(a:Act)(w:World):Prop:=
 ∃(s:St)(A:LA)(x:A.ι)(Ω:Om),(∀x,A.pre x->W (ij (cI c) s (A.t x) (A.b x)) fun
   |.normal,s'=>∃y,A.pre y/\A.m y<A.m x/\cS s' (ij (cI c) s (A.t y) (A.b y))
   |e,s'=>Q e s')/\A.pre x/\A.m x=k/\Ω.w=w/\Holds F (ij (cI c) s (A.t x) (A.b x)).abs a Ω
theorem pc{ann:An}{c:Code}{W:St->(SX->St->Prop)->Prop}{Q:SX->St->Prop}{s:St}{a:Act}{Ω:Om}(h:Cl ann c W s Q)(hh:Holds F s.abs a Ω):∃k,xp F ann c W Q k a Ω.w:=by
 unfold Cl at h;split at h
 ·exact h.elim
 ·rename_i A hA;simp only[cU]at h;obtain⟨⟨x0,hp0,hle0⟩,hround⟩:=h;obtain⟨Ω0,e0,hh0⟩:=dJ hh (gW hle0);exact⟨A.m x0,s,A,x0,Ω0,hround,hp0,rfl,e0,hh0⟩
theorem pd{ann:An}{c:Code}{W:St->(SX->St->Prop)->Prop}{Q:SX->St->Prop}(hW:∀(s:St)(Q:SX->St->Prop)(a:Act)(Ω:Om),W s Q->Holds F s.abs a Ω->c.wp P (QL F Q) a Ω.w)
 {k:Nat}{a:Act}{w:World}(hI:xp F ann c W Q k a w):c.wp P (Exit.then (fun a' w'=>∃n',n'<k/\xp F ann c W Q n' a' w') (QL F Q)) a w:=by
 obtain⟨s,A,x,Ω1,hround,hp,hmx,hw1,hh1⟩:=hI;subst hw1;refine Mp (hW (ij (cI c) s (A.t x) (A.b x)) _ a Ω1 (hround x hp) hh1) ?_;intro e a' w' hq;obtain⟨z,s',Ω',h1,h2,h3,h4⟩:=hq;subst h2
 cases z with
 |normal=>cases h1;obtain⟨y,hy1,hy2,hy3⟩:=h4;obtain⟨Ω2,e2,hh2⟩:=dJ h3 (gW hy3);exact⟨A.m y,by omega,s,A,y,Ω2,hround,hy1,rfl,e2,hh2⟩
 |exit id=>cases h1;exact⟨.exit id,s',Ω',rfl,rfl,h3,h4⟩
 |ret=>cases h1;exact⟨.ret,s',Ω',rfl,rfl,h3,h4⟩
 |pan pv=>obtain⟨v,rfl,hv⟩:=h1;exact⟨.pan pv,s',Ω',⟨v,rfl,hv⟩,rfl,h3,h4⟩
theorem lO(hm:P.follows .mixedOrders=true)(hT:aX P C.tbl)(hS:bM P C.spec)(keep:List Nat)(ann:An){id:Nat}{ops:Array Oper}{draw:Bool}{s:St}{Q:SX->St->Prop}{a:Act}{Ω:Om}
 (hdst:∀(o:Oper),o∈ops.toList->∀d,o.dst=some d->d<F.n)(h:pU C keep ann id ops draw s Q)(hhr:Holds F s.abs a Ω):(Code.region id ops draw).wp P (QL F Q) a Ω.w:=by
  unfold pU at h;split at h
  ·exact h.elim
  ·rename_i s0 hp0;obtain⟨Ω0,e0,hh0⟩:=jK _ hhr hp0;split at h
   ·exact h.elim
   ·rename_i s1 he;obtain⟨Ω1,e1,hh1⟩:=kE hh0 he;rw[<-e0,<-e1];split at h
    ·exact lN hm hT hS keep hdst h hh1
    ·rename_i J hJ;obtain⟨h1,h2⟩:=h;rw[cU]at h2;refine Mp (lN hm hT hS keep hdst h1 hh1) ?_;intro e a' w' hq;obtain⟨z,s',Ω',g1,g2,g3,g4⟩:=hq;subst g2
     cases z with
     |normal=>cases g1;obtain⟨Ω2,e2,hh2⟩:=dJ g3 (gW g4);exact⟨.normal,_,Ω2,rfl,e2,hh2,h2⟩
     |exit id=>exact⟨.exit id,s',Ω',g1,rfl,g3,g4⟩
     |ret=>exact⟨.ret,s',Ω',g1,rfl,g3,g4⟩
     |pan pv=>exact⟨.pan pv,s',Ω',g1,rfl,g3,g4⟩
theorem lC(hm:P.follows .mixedOrders=true)(hT:aX P C.tbl)(hS:bM P C.spec)(keep:List Nat)(ann:An) :
  ∀(c:Code)(s:St)(Q:SX->St->Prop)(a:Act)(Ω:Om),swp C keep ann c s Q->bD F.n c=true->Holds F s.abs a Ω->c.wp P (QL F Q) a Ω.w:=by
 intro c
 induction c with
 |skip=>exact fun s Q a Ω h _ hh=>wp_skip ⟨.normal,s,Ω,rfl,rfl,hh,h⟩
 |region id ops draw=>
  intro s Q a Ω h hd hh;simp only[swp]at h;have hdst:∀(o:Oper),o∈ops.toList->∀d,o.dst=some d->d<F.n:=by intro o ho d hod;simp only[bD,Kp]at hd;have:=hd o ho;rw[hod]at this;simpa using this
  split at h
  ·rename_i p f hn;refine Mp (Aj hT hn hdst hh) ?_;rintro e a' w' ⟨z,s',Ω',h1,h2,h3,h4,b,h5,h6⟩;subst h2 h4 h6;have:=h b h5;rw[cU]at this;exact⟨.normal,f b,Ω',h1,rfl,h3,this⟩
  split at h
  ·exact h.elim
  rename_i sr hr0;obtain⟨Ωr,er,hhr⟩:=mu _ hh hr0;rw[<-er];split at h
  ·exact lO hm hT hS keep ann hdst h hhr
  ·split at h
   ·rename_i q s0 hf;obtain⟨h1,h2⟩:=h;rw[cU]at h2;obtain⟨Ω0,e0,hh0⟩:=Ah hhr hf h1;rw[<-e0];exact lO hm hT hS keep ann hdst h2 hh0
   ·exact h.elim
 |seq x y ihx ihy=>
  intro s Q a Ω h hd hh;have hd0:=hd;simp only[bD,Ka]at hd;simp only[swp]at h;split at h
  ·rename_i L hL;refine Mp (Ad hT hL h hd0 hh) ?_;rintro e a' w' ⟨rfl,s',Ω',h2,h3,h4⟩;rw[cU]at h4;exact⟨.normal,s',Ω',rfl,h2,h3,h4⟩
  split at h;rotate_left
  ·rename_i J hJ;obtain⟨h1,h2⟩:=h;rw[cU]at h2;refine NR (Mp (ihx s _ a Ω h1 hd.1 hh) ?_);intro e a' w' hq;obtain⟨z,s',Ω',g1,g2,g3,g4⟩:=hq;subst g2
   cases z with
   |normal=>cases g1;obtain⟨Ω2,e2,hh2⟩:=dJ g3 (gW g4);rw[<-e2];exact ihy _ Q a' Ω2 h2 hd.2 hh2
   |exit id=>cases g1;exact⟨.exit id,s',Ω',rfl,rfl,g3,g4⟩
   |ret=>cases g1;exact⟨.ret,s',Ω',rfl,rfl,g3,g4⟩
   |pan pv=>obtain⟨v,rfl,hv⟩:=g1;exact⟨.pan pv,s',Ω',⟨v,rfl,hv⟩,rfl,g3,g4⟩
  refine NR (Mp (ihx s _ a Ω h hd.1 hh) ?_);intro e a' w' hq;obtain⟨z,s',Ω',h1,h2,h3,h4⟩:=hq;subst h2
  cases z with
  |normal=>cases h1;exact ihy s' Q a' Ω' h4 hd.2 h3
  |exit id=>cases h1;exact⟨.exit id,s',Ω',rfl,rfl,h3,h4⟩
  |ret=>cases h1;exact⟨.ret,s',Ω',rfl,rfl,h3,h4⟩
  |pan pv=>obtain⟨v,rfl,hv⟩:=h1;exact⟨.pan pv,s',Ω',⟨v,rfl,hv⟩,rfl,h3,h4⟩
 |cond c x y ihx ihy=>
  intro s Q a Ω h hd hh;simp only[bD,Ka]at hd;simp only[swp]at h;split at h
  ·rename_i b hb;have hv:=b5 hh c;have hb':opd s.abs.T c=.bool b:=hb;rw[hb']at hv;have hv:=hv.bool_inv;refine wp_cond hv ?_;unfold sp at h
   have hset:Holds F (HY c b s).abs a Ω:=by
    cases c with
    |tmp t=>
     refine⟨fun i=>?_,hh.size,hh.defers,hh.slots,hh.dom,hh.inj,hh.pubok,hh.keep,hh.frame⟩;have e:(HY (.tmp t) b s).abs.T i=if t=i then .bool b else aS s.t i:=ed s.t t (.bool b) i
     rw[e];by_cases ht:t=i
     ·subst ht;rw[Kf rfl];have:=hh.tmps t;rw[show s.abs.T t=.bool b from hb']at this;exact this
     ·rw[Kb ht];exact hh.tmps i
    |_=>exact hh
   cases b with|true=>exact ihx _ Q a Ω (by simpa using h) hd.1 hset|false=>exact ihy _ Q a Ω (by simpa using h) hd.2 hset
  ·exact h.elim
 |block id c ih=>
  intro s Q a Ω h hd hh;simp only[bD]at hd;simp only[swp]at h;refine wp_block (Mp (ih s _ a Ω h hd hh) ?_);intro e a' w' hq;obtain⟨z,s',Ω',h1,h2,h3,h4⟩:=hq;subst h2
  cases z with
  |normal=>cases h1;exact⟨.normal,s',Ω',rfl,rfl,h3,h4⟩
  |ret=>cases h1;exact⟨.ret,s',Ω',rfl,rfl,h3,h4⟩
  |pan pv=>obtain⟨v,rfl,hv⟩:=h1;exact⟨.pan pv,s',Ω',⟨v,rfl,hv⟩,rfl,h3,h4⟩
  |exit j=>
   cases h1;simp only[Ai,Exit.inBlock];by_cases hj:j=id
   ·subst hj;simp only[Lf];simp only[MP,Lf]at h4;exact⟨.normal,s',Ω',rfl,rfl,h3,h4⟩
   ·rw[Kb hj];simp only[La,hj,KP]at h4;exact⟨.exit j,s',Ω',rfl,rfl,h3,h4⟩
 |loop c ih=>
  intro s Q a Ω h hd hh;simp only[bD]at hd;simp only[swp]at h;have hW:∀(s:St)(Q:SX->St->Prop)(a:Act)(Ω:Om),swp C keep ann c s Q->Holds F s.abs a Ω->c.wp P (QL F Q) a Ω.w:=fun s Q a Ω h hh=>ih s Q a Ω h hd hh;split at h
  ·refine vJ (xp F ann c (swp C keep ann c) Q) (Mp (hW s _ a Ω h hh) ?_) fun k a w hI=>pd hW hI;intro e a' w' hq;obtain⟨z,s',Ω',h1,h2,h3,h4⟩:=hq;subst h2
   cases z with
   |normal=>
    cases h1;simp only[cU]at h4;split at h4
    ·rename_i s2 h5;obtain⟨Ω2,e2,hh2⟩:=mu _ h3 h5;obtain⟨k,hI⟩:=pc h4 hh2;exact⟨k,e2 ▸ hI⟩
    ·exact h4.elim
   |exit id=>cases h1;exact⟨.exit id,s',Ω',rfl,rfl,h3,h4⟩
   |ret=>cases h1;exact⟨.ret,s',Ω',rfl,rfl,h3,h4⟩
   |pan pv=>obtain⟨v,rfl,hv⟩:=h1;exact⟨.pan pv,s',Ω',⟨v,rfl,hv⟩,rfl,h3,h4⟩
  ·obtain⟨k,hI⟩:=pc h hh;exact wp_loop_ghost (xp F ann c (swp C keep ann c) Q) k hI fun k a w hI=>pd hW hI
 |exit id=>exact fun s Q a Ω h _ hh=>wp_exit ⟨.exit id,s,Ω,rfl,rfl,hh,h⟩
 |ret=>
  intro s Q a Ω h _ hh;simp only[swp]at h;split at h
  ·exact wp_ret ⟨.ret,s,Ω,rfl,rfl,hh,h⟩
  ·split at h
   ·rename_i s' h1;rw[cU]at h;obtain⟨Ω',e,hh'⟩:=mv _ hh h1;rw[<-e];exact wp_ret ⟨.ret,s',Ω',rfl,rfl,hh',h⟩
   ·exact h.elim
 |rangeFunc g ps x y _ _=>exact fun s Q a Ω h=>by simp[swp]at h
 |scope c ih=>
  intro s Q a Ω h hd hh;simp only[bD]at hd;simp only[swp]at h;refine wp_scope_straight (Mp (ih s _ a Ω h hd hh) ?_);intro e a' w' hq;obtain⟨z,s',Ω',h1,h2,h3,h4⟩:=hq
  cases z with
  |normal=>cases h1;exact⟨.normal,s',Ω',rfl,h2,h3,h4⟩
  |exit id=>cases h1;exact⟨.exit id,s',Ω',rfl,h2,h3,h4⟩
  |ret=>cases h1;exact⟨.ret,s',Ω',rfl,h2,h3,h4⟩
  |pan pv=>obtain⟨v,rfl,hv⟩:=h1;exact⟨.pan pv,s',Ω',⟨v,rfl,hv⟩,h2,h3,h4⟩
 |label l=>exact fun s Q a Ω h _ hh=>wp_label ⟨.normal,s,Ω,rfl,rfl,hh,h⟩
 |goto l=>exact fun s Q a Ω h=>by simp[swp]at h
 |refuse why=>exact fun s Q a Ω h=>by simp[swp]at h
theorem gg:∀(l:List AV)(i j:Nat),aS (da i l) j=if i<=j then l.getD (j-i) .undef else .undef
 |[],i,j=>by simp[da,dD,cO]
 |v::r,i,j=>by
  simp only[da,dD,cO,gg r (i+1) j];by_cases h:i=j
  ·subst h;simp
  ·simp only[La,h,KP];by_cases h2:i<=j
   ·have e:j-i=(j-(i+1))+1:=by omega
    rw[Kf h2,Kf (by omega),e];simp
   ·rw[Kb h2,Kb (by omega)]
theorem jk{w:World}{pub:Nat->Nat->Prop}{e:Nat->Option CObj}{args:List AV}{vs:List Value}(k:Nat)(hv:VL ⟨e,w,pub⟩ args vs)(i:Nat) :
  V ⟨e,w,pub⟩ (aS (da 0 args) i) ((vs.toArray++Array.replicate k undef).getD i undef):=by
 simp only[gg,Kg,Lf,MO];by_cases h:i<args.length
 ·have h':i<vs.length:=by rw[<-hv.1];exact h
  have e1:args.getD i .undef=args[i]:=by simp[Ke,h]
  have e2:(vs.toArray++Array.replicate k undef).getD i undef=vs[i]:=by simp[Kv,Array.getElem?_append,h']
  rw[e1,e2];exact hv.2 i _ _ (K9 h) (K9 h')
 ·have e1:args.getD i .undef=.undef:=by simp[Ke,h]
  rw[e1];exact .undef _
theorem jN{w:World}{pub:Nat->Nat->Prop}{e:Nat->Option CObj}{args:List AV}{vs:List Value}{n:Nat}{S:List (Nat×SObj)}(hp:kr w pub)(ht:ik w pub e)(hv:VL ⟨e,w,pub⟩ args vs)(hn:args.length<=n)
 (hs:∀id o,al S id=some o->bf ⟨e,w,pub⟩ (fun _ _=>True) id o)(hd:∀id,al S id=none->e id=none)(hi:Inj e)(hl:∀id c,e id=some c->bn id=true) :
  Holds ⟨w,pub,n,e,hl,[],ht⟩ (St.abs ⟨da 0 args,S⟩) {tmps:=vs.toArray++Array.replicate (n-vs.toArray.size) undef,defers:=[]} ⟨e,w,pub⟩:=
 ⟨fun i=>jk _ hv i,by simp;have:=hv.1;omega,rfl,fun id o ho=>(hs id o ho).own_of (fun c b oo hc hoc=>Or.inr ⟨id,c,hc,hoc⟩),fun id hid=>hd id hid,hi,hp,fun id c hc=>⟨c,hc,CLe.refl c⟩,
  ⟨rfl,rfl,rfl,Kn _,fun _ _ _=>rfl,fun _ _ _ _=>rfl,fun _ _ _=>⟨rfl,fun _=>rfl⟩,fun _ _ h=>Or.inl h,fun _ _ h=>h,fun _ _ _=>rfl⟩⟩
def oi(tmps:Array Value):ResultVar->Sem Value
 |.tmp t=>pure (tmps.getD t undef)
 |.cell a t=>do loadVar t (<-asAddr (tmps.getD a undef))
theorem mw(fn:Func)(tmps:Array Value):results fn tmps=(do
  let vs <-fn.results.mapM (oi tmps)
  pure (if h:vs.size=1 then vs[0]else .tuple vs)):=by
 unfold results;congr 1
theorem fr(hT:aX P C.tbl){s:St}{a:Act}{Ω:Om}(hh:Holds F s.abs a Ω):∀(rs:List ResultVar)(l:List AV),jZ C.tbl s rs=some l->
  ∃vs,(rs.mapM (oi a.tmps)).run P Ω.w=.ok vs Ω.w/\VL Ω l vs
 |[],l,h=>by simp[jZ]at h;subst h;exact⟨[],rfl,VL.nil⟩
 |.tmp t::rs,l,h=>by
  simp only[jZ]at h;split at h
  ·rename_i l' hl';simp at h;subst h;obtain⟨vs,k1,k2⟩:=fr hT hh rs l' hl';exact⟨_,by rw[List.mapM_cons];simp only[oi,Ky,KX,Kj,k1],VL.cons (hh.tmps t) k2⟩
  ·cases h
 |.cell b t::rs,l,h=>by
  simp only[jZ]at h;split at h
  ·rename_i id off rt hb hrt;have hv:=hh.tmps b;have e:s.abs.T b=.ptr id off:=hb;rw[e]at hv;obtain⟨g,o',len,hv1,hv2⟩:=hv.ptr_inv;split at h
   ·rename_i c hcs;split at h
    ·rename_i x l' hx hl';simp at h;subst h;obtain⟨vs,k1,k2⟩:=fr hT hh rs l' hl';obtain⟨b',off',e1,e2⟩:=hh.slots id _ hcs;rw[hv2]at e1;simp only[Xs,CObj.box.injEq]at e1;obtain⟨rfl,rfl,rfl⟩:=e1;obtain⟨v,w1,w2⟩:=gE (P:=P) (C:=C) (w:=Ω.w) hT hrt hx (b:=g) (o':=o') (fun j c' hc=>(e2 j c' hc).2.2.2);exact⟨v::vs,by rw[List.mapM_cons];simp only[oi,Ky,hv1,asAddr,KX,Kj,w1,k1],VL.cons w2 k2⟩
    ·cases h
   ·cases h
  ·cases h
theorem Holds.retmp{s:AS}{a:Act}{Ω:Om}(h:Holds F s a Ω){l:List AV}{vs:List Value}(hv:VL Ω l vs) :
  Holds ⟨F.w0,F.pub0,vs.length,F.e0,F.dom0,[],F.tab0⟩ ⟨aS (da 0 l),s.B⟩ {tmps:=vs.toArray++Array.replicate 0 undef,defers:=[]} Ω:=
 ⟨fun i=>jk 0 hv i,by simp,rfl,h.slots,h.dom,h.inj,h.pubok,h.keep,
  ⟨h.frame.os,h.frame.tape,h.frame.output,h.frame.size,h.frame.block,h.frame.cell,h.frame.kind,h.frame.pub,h.frame.old,h.frame.pcell⟩⟩
theorem iz{w:World}{pub:Nat->Nat->Prop}{e:Nat->Option CObj}{n:Nat}{hl:∀id c,e id=some c->bn id=true}{ht:ik w pub e}{T:Nat->AV}{B:List (Nat×SObj)}{a:Act}{Ω:Om}
 (h:Holds ⟨w,pub,n,e,hl,[],ht⟩ ⟨T,al B⟩ a Ω):After w pub e (al B) Ω.w Ω.pub Ω.e:=by
 refine⟨h.frame.os,h.frame.tape,h.frame.output,h.frame.size,h.frame.block,h.frame.cell,h.frame.kind,⟨h.keep,h.frame.old,h.frame.pcell⟩,fun b o hp=>?_,h.pubok,h.slots,h.dom,h.inj⟩;rcases h.frame.pub b o hp with q|q|q
 ·exact Or.inl q
 ·exact Or.inr (Or.inl q)
 ·exact Or.inr (Or.inr q)
theorem jl{α:Type}{l:List α}(h:l.length=1):∃x,l=[x]:=by
 match l,h with
 |[x],_=>exact⟨x,rfl⟩
theorem Dx(hm:P.follows .mixedOrders=true)(hT:aX P C.tbl)(hS:bM P C.spec){ann:An}{f:Nat}{fn:Func}(hf:P.funcs[f]?=some fn)
 {args:List AV}{S:List (Nat×SObj)}{A:Ans}(h:fwp C ann fn args S A):aF P f args S A:=by
 intro w pub e vs hp ht hv hs hdom hinj;unfold fwp at h;split at h
 ·exact h.elim
 ·rename_i c hb;split at h
  ·exact h.elim
  ·rename_i hck;simp only[Ka,Kp]at hck;obtain⟨⟨hck1,hck2⟩,hck3⟩:=hck;have hlen:=dR _ _ hck2;rw[iy,cU]at h
   have hlent:∀id c,e id=some c->bn id=true:=by
    intro id c hc
    cases hg:al S id with
    |none=>rw[hdom id hg]at hc;cases hc
    |some o=>exact hck3 id (KM.2 ⟨(id,o),cr _ _ _ hg,rfl⟩)
   refine calls_of_wp hf hb ?_;have hh:=jN (n:=fn.ntmps) hp ht hv hlen hs hdom hinj hlent;refine Mp (lC (F:=⟨w,pub,fn.ntmps,e,hlent,[],ht⟩) hm hT hS _ ann c _ _ _ _ h hck1 hh) ?_;intro en a' w' hq;obtain⟨z,s',Ω',h1,h2,h3,h4⟩:=hq;subst h2
   have hmap:∀us,(fn.results.toList.mapM (oi a'.tmps)).run P Ω'.w=.ok us Ω'.w->
     (results fn a'.tmps).run P Ω'.w=.ok (if h:us.toArray.size=1 then us.toArray[0]else .tuple us.toArray) Ω'.w:=by
    intro us hus;rw[mw,<-LO (xs:=fn.results),N7];simp only[Ky,Sem.run_map,hus,Kj,KX]
   have key:((match A.pan with|some (b,_,_)=>b=false|none=>True)/\tP (jZ C.tbl s' fn.results.toList) s' A.val (cd S A.upd))->
     a'.defers=[]/\∃v,(results fn a'.tmps).run P Ω'.w=.ok v Ω'.w/\∃pub' e',(∀b pv u,A.pan=some (b,pv,u)->b=false)/\V ⟨e',Ω'.w,pub'⟩ A.val v/\After w pub e (al (cd S A.upd)) Ω'.w pub' e':=by
    rintro⟨hpan,hend⟩;refine⟨h3.defers,?_⟩;have hpan':∀b pv u,A.pan=some (b,pv,u)->b=false:=by intro b pv u hpa;rw[hpa]at hpan;exact hpan
    unfold tP at hend;split at hend
    ·rename_i x hres;obtain⟨us,k1,k2⟩:=fr hT h3 _ _ hres;obtain⟨u,rfl⟩:=jl (by rw[<-k2.1];rfl);obtain⟨Ω2,e2,hh2⟩:=dJ (s:=⟨[(0,x)],s'.b⟩) (h3.retmp k2) (gW hend);refine⟨u,by simpa using hmap [u] k1,Ω2.pub,Ω2.e,hpan',?_,?_⟩
     ·have:=hh2.tmps 0;rw[<-e2];exact this
     ·rw[<-e2];exact iz hh2
    ·rename_i l hne hres;split at hend
     ·rename_i rs hval;split at hend
      ·rename_i hln;have hl2:=bP _ _ hln;obtain⟨us,k1,k2⟩:=fr hT h3 _ _ hres;obtain⟨Ω2,e2,hh2⟩:=dJ (s:=⟨da 0 l,s'.b⟩) (h3.retmp k2) (gW hend);have hsz:¬us.toArray.size=1:=by intro h1;obtain⟨x,hx⟩:=jl (l:=l) (by rw[k2.1];simpa using h1);exact hne x hx
       refine⟨.tuple us.toArray,?_,Ω2.pub,Ω2.e,hpan',?_,?_⟩
       ·rw[hmap us k1,dif_neg hsz]
       ·rw[hval];refine .tup rs us (by rw[<-k2.1,<-hl2]) (fun j c v hc hv=>?_);have:=hh2.tmps j;simp only[St.abs,gg,Kg,Lf,MO,Ke,hc,L8]at this;have e3:(us.toArray++Array.replicate 0 undef).getD j undef=v:=by simp[Kv,hv]
        rw[e3,]at this;rw[<-e2];exact this
       ·rw[<-e2];exact iz hh2
      ·exact hend.elim
     ·exact hend.elim
    ·exact hend.elim
   cases z with
   |normal=>cases h1;exact key h4
   |exit id=>exact h4.elim
   |ret=>cases h1;exact key h4
   |pan pv=>
    obtain⟨v,rfl,hv⟩:=h1;simp only at h4;split at h4
    ·rename_i b pv' pu hpa;obtain⟨hbt,hend⟩:=h4;subst hbt;obtain⟨Ω2,e2,hh2⟩:=dJ (s:=⟨[(0,pv)],s'.b⟩) (h3.retmp (VL.cons hv .nil)) (gW hend);refine⟨h3.defers,Ω2.pub,Ω2.e,pv',pu,v,hpa,rfl,?_,?_⟩
     ·have:=hh2.tmps 0;rw[<-e2];exact this
     ·rw[<-e2];exact iz hh2
    ·exact h4.elim
end
end Go.AL
end
noncomputable section
namespace Go.AL
variable [Tabs]
theorem TRok.mk'{P:Program}{t:Nat}{r:TR}
 (h1:(P.info? t).map (fun i=>(i.size,i.bytes,i.zero.map fun z=>z.cells.toList.map bW))=some (r.size,r.bytes,some r.zero))
 (h2:(P.underlying t).map (aH P r.ti)=some true)
 (h3:(fB r.zero r.size&&(Nat.beq r.size 0||Nat.blt 0 r.bytes)&&(match r.ty with | some τ=>Nat.beq (ab τ) r.size&&(HR τ ==r.isAgg) | none=>true))=true)
 (h8:(P.info? t).map (fun i=>i.zero.map fun z=>zN z ==r.isAgg)=some (some true))
 (h9:(match r.ti with|.strct true _=>!P.stoodInHeld t&&!P.eqGuardType P.depth t|_=>true)=true):TRok P t r:=by
 simp only[Ka,L6,Nat.beq_eq,MB]at h3;obtain⟨⟨h5,h6⟩,h7⟩:=h3;refine⟨?_,bP _ _ h5,fun hz=>?_,?_,fun τ hτ=>?_,fun i z hi hz=>?_,fun fs hfs=>?_⟩
 ·cases hi:P.info? t with
  |none=>rw[hi]at h1;simp at h1
  |some i=>rw[hi]at h1;simp only[Lx,Xs,ME,KB]at h1;obtain⟨e1,e2,z,e3,e4⟩:=h1;exact⟨i,z,rfl,e1,e2,e3,e4⟩
 ·rcases h6 with h6|h6
  ·omega
  ·exact h6
 ·cases hd:P.underlying t with|none=>rw[hd]at h2;simp at h2|some d=>rw[hd]at h2;exact⟨d,rfl,by simpa using h2⟩
 ·rw[hτ]at h7;simpa using h7
 ·rw[hi]at h8;simp[hz]at h8;exact h8
 ·rw[hfs]at h9;simpa using h9
theorem aX.nil{P:Program}:aX P []:=fun t r h=>by simp[tM,qn]at h
theorem aX.cons{P:Program}{t:Nat}{r:TR}{l:List (Nat×TR)}(h:TRok P t r)(hl:aX P l):aX P ((t,r)::l):=by
 intro t' r' h';simp only[tM,qn]at h';by_cases e:t=t'
 ·subst e;simp at h';subst h';exact h
 ·simp only[La,e,KP]at h';exact hl t' r' h'
theorem aB.mk'{P:Program}{f:Nat}{fn:Func}(h:P.funcs[f]?=some fn)(h2:(fn.body.isNone || (fn.name == "runtime.NumGoroutine"))=false):aB P f:=by simp only [Bool.or_eq_false_iff] at h2;exact ⟨fn,h,h2.1,h2.2⟩
end Go.AL
end
noncomputable section
namespace Go.AL
def Wf(τ:Ty)(x:den τ):Prop:=∃Ω v,V Ω (inj τ x) v
def WfL(args:List AV):Prop:=∃Ω vs,VL Ω args vs
theorem Wf.str{s:Str}(h:Wf .str s):s.length<=9223372036854775807:=letI:=vm;let ⟨_,_,h⟩:=h;h.str_inv.2
theorem Wf.len{τ:Ty}{xs:List (den τ)}(h:Wf (.lst τ) xs):xs.length<=9223372036854775807:=by
 letI:=vm
 obtain⟨Ω,v,h⟩:=h;rcases h.lst_inv with⟨h1,_,_⟩|⟨h1,_,_⟩|⟨b,off,cap,vals,hv,h1,h2,_⟩
 ·rw[h1];simp
 ·rw[h1];simp
 ·unfold b6 at h2;omega
theorem VL.inj{Ω:Om}{τ:Ty}{x:den τ}{vs:List Value}(h:VL Ω (cells τ x) vs):∃v,V Ω (inj τ x) v:=by
 cases τ with
 |st n=>exact⟨_,.st n x _ (V.of_agg h)⟩
 |int k=>match vs,h with|[v],h=>exact⟨v,h.head⟩
 |bool=>match vs,h with|[v],h=>exact⟨v,h.head⟩
 |str=>match vs,h with|[v],h=>exact⟨v,h.head⟩
 |lst t=>match vs,h with|[v],h=>exact⟨v,h.head⟩
 |pt n=>match vs,h with|[v],h=>exact⟨v,h.head⟩
theorem Wf.mem{τ:Ty}{xs:List (den τ)}(h:Wf (.lst τ) xs){x:den τ}(hx:x∈xs):Wf τ x:=by
 letI:=vm
 obtain⟨Ω,v,h⟩:=h;rcases h.lst_inv with⟨h1,_,_⟩|⟨h1,_,_⟩|⟨b,off,cap,vals,hv,h1,h2,h3,h4,h5⟩
 ·rw[h1]at hx;simp at hx
 ·rw[h1]at hx;simp at hx
 ·obtain⟨i,hi⟩:=LX hx
  have:VL Ω (cells τ x) ((List.range (cells τ x).length).map (vals i)):=by
   refine⟨by simp,fun j c v hc hv=>?_⟩
   have hj:j<(cells τ x).length:=by
    rcases Kl j (cells τ x).length with k|k
    ·exact k
    ·rw[Kd k]at hc;cases hc
   simp[hj]at hv;subst hv;exact h5 i x hi j c hc
  obtain⟨v',hv'⟩:=this.inj;exact⟨Ω,v',hv'⟩
theorem Wf.cell{n:SN}{x:SD n}(h:Wf (.st n) x)(j:Nat){τ:Ty}{y:den τ}(hc:(cells (.st n) x)[j]?=some (AL.inj τ y)):Wf τ y:=by
 obtain⟨Ω,v,h⟩:=h
 cases h with
 |st _ _ v hv=>
  obtain⟨vs,_,hl⟩:=hv.agg_inv
  have hj:j<vs.length:=by
   rw[<-hl.1];rcases Kl j (cells (.st n) x).length with k|k
   ·exact k
   ·rw[Kd k]at hc;cases hc
  exact⟨Ω,_,hl.2 j _ _ hc (K9 hj)⟩
theorem Wf.names{s:Shape}(h:Wf (.st .shape) s):Wf (.lst .str) s.names:=h.cell 3 (τ:=.lst .str) (y:=s.names) rfl
theorem Wf.parts{s:Shape}(h:Wf (.st .shape) s):Wf (.lst (.st .shape)) s.parts:=h.cell 4 (τ:=.lst (.st .shape)) (y:=s.parts) rfl
theorem Wf.term_shapes{x:Trm}(h:Wf (.st .term) x):Wf (.lst (.st .shape)) x.shapes:=(h.cell 6 (τ:=.lst (.st .shape)) (y:=x.shapes) rfl)
theorem Wf.term_parts{x:Trm}(h:Wf (.st .term) x):Wf (.lst (.st .term)) x.parts:=(h.cell 7 (τ:=.lst (.st .term)) (y:=x.parts) rfl)
theorem Wf.modu_imports{x:Modu}(h:Wf (.st .modu) x):Wf (.lst (.st .imp)) x.imports:=(h.cell 1 (τ:=.lst (.st .imp)) (y:=x.imports) rfl)
theorem Wf.modu_decls{x:Modu}(h:Wf (.st .modu) x):Wf (.lst (.st .decl)) x.decls:=(h.cell 2 (τ:=.lst (.st .decl)) (y:=x.decls) rfl)
theorem WfL.cons{a:AV}{l:List AV}(h:WfL (a::l)):(∃Ω v,V Ω a v)/\WfL l:=by
 obtain⟨Ω,vs,h⟩:=h;rcases h.cases with⟨e,_⟩|⟨c,cs,v,vs',e,_,h1,h2⟩
 ·cases e
 ·cases e;exact⟨⟨Ω,v,h1⟩,Ω,vs',h2⟩
theorem WfL.one{τ:Ty}{x:den τ}{l:List AV}(h:WfL (inj τ x::l)):Wf τ x:=h.cons.1
theorem WfL.two{a:AV}{τ:Ty}{x:den τ}{l:List AV}(h:WfL (a::inj τ x::l)):Wf τ x:=h.cons.2.cons.1
theorem WfL.three{a b:AV}{τ:Ty}{x:den τ}{l:List AV}(h:WfL (a::b::inj τ x::l)):Wf τ x:=h.cons.2.cons.2.cons.1
section
variable [Tabs]
variable {P:Program}
theorem aF.wf{f:Nat}{args:List AV}{S:List (Nat×SObj)}{A:Ans}(h:WfL args->aF P f args S A):aF P f args S A:=
 fun w pub e vs hp ht hv hs hd hi=>h ⟨_,vs,hv⟩ w pub e vs hp ht hv hs hd hi
theorem aF.args{f:Nat}{args args':List AV}{S:List (Nat×SObj)}{A:Ans}(ha:RdL args args')(h:aF P f args' S A):aF P f args S A:=
 fun w pub e vs hp ht hv hs hd hi=>h w pub e vs hp ht (hv.rd ha) hs hd hi
abbrev Pat:=List AV->List (Nat×SObj)->Option Ans
def gU:List (Nat×Pat)->Nat->Pat
 |[],_=>fun _ _=>none
 |(i,g)::l,f=>fun args S=>
  match Nat.beq i f with
  |true=>(match g args S with|some A=>some A|none=>gU l f args S)
  |false=>gU l f args S
def ag(P:Program)(f:Nat)(g:Pat):Prop:=
 ∀args S A,g args S=some A->(∀q,A.ob=some q->q)->(aK S).all bn=true->aB P f/\aF P f args S A
theorem ud:bM P (gU []):=fun f args S A h=>by simp[gU]at h
theorem rI{f:Nat}{g:Pat}{l:List (Nat×Pat)}(h:ag P f g)(hl:bM P (gU l)):bM P (gU ((f,g)::l)):=by
 intro f' args S A hA ho hk;simp only[gU]at hA;split at hA
 ·rename_i hb;have e:f=f':=Kz hb;subst e;split at hA
  ·rename_i A' hg;simp at hA;subst hA;exact h args S A' hg ho hk
  ·exact hl f args S A hA ho hk
 ·exact hl f' args S A hA ho hk
def p1(τ:Ty)(F:den τ->Ans):Pat
 |[a],[]=>(match arg τ a with|some a=>some (F a)|none=>none)
 |_,_=>none
def p2(τ σ:Ty)(F:den τ->den σ->Ans):Pat
 |[a,b],[]=>(match arg τ a,arg σ b with|some a,some b=>some (F a b)|_,_=>none)
 |_,_=>none
def pf(τ:Ty)(n:Nat)(F:den τ->Ans):Pat
 |[a,.fn f []],[]=>(match Nat.beq f n with|true=>(match arg τ a with|some a=>some (F a)|none=>none)|false=>none)
 |_,_=>none
def p3(τ σ ρ:Ty)(F:den τ->den σ->den ρ->Ans):Pat
 |[a,b,c],[]=>(match arg τ a,arg σ b,arg ρ c with|some a,some b,some c=>some (F a b c)|_,_,_=>none)
 |_,_=>none
theorem Rd.arg{τ:Ty}{a:AV}{x:den τ}(h:AL.arg τ a=some x):Rd a (inj τ x):=fun _ _ hv=>Co hv h
theorem aL{f:Nat}{τ:Ty}{F:den τ->Ans}(he:aB P f)(h:∀x,Wf τ x->(∀q,(F x).ob=some q->q)->aF P f [inj τ x] [] (F x)):ag P f (p1 τ F):=by
 intro args S A hA ho _;unfold p1 at hA;split at hA
 ·split at hA
  ·rename_i x hx;simp at hA;subst hA;exact⟨he,aF.args (.cons (Rd.arg hx) .nil) (aF.wf fun hw=>h x hw.one ho)⟩
  ·cases hA
 ·cases hA
theorem bY{f:Nat}{τ σ:Ty}{F:den τ->den σ->Ans}(he:aB P f)
 (h:∀x y,Wf τ x->Wf σ y->(∀q,(F x y).ob=some q->q)->aF P f [inj τ x,inj σ y] [] (F x y)):ag P f (p2 τ σ F):=by
 intro args S A hA ho _;unfold p2 at hA;split at hA
 ·split at hA
  ·rename_i x y hx hy;simp at hA;subst hA;exact⟨he,aF.args (.cons (Rd.arg hx) (.cons (Rd.arg hy) .nil)) (aF.wf fun hw=>h x y hw.one hw.two ho)⟩
  ·cases hA
 ·cases hA
theorem lP{f:Nat}{τ:Ty}{n:Nat}{F:den τ->Ans}(he:aB P f)(h:∀x,Wf τ x->(∀q,(F x).ob=some q->q)->aF P f [inj τ x,.fn n []] [] (F x)):ag P f (pf τ n F):=by
 intro args S A hA ho _;unfold pf at hA;split at hA
 ·split at hA
  ·rename_i hb;have e:=Kz hb;subst e;split at hA
   ·rename_i x hx;simp at hA;subst hA;exact⟨he,aF.args (.cons (Rd.arg hx) (.cons (Rd.refl _) .nil)) (aF.wf fun hw=>h x hw.one ho)⟩
   ·cases hA
  ·cases hA
 ·cases hA
theorem FZ{f:Nat}{τ σ ρ:Ty}{F:den τ->den σ->den ρ->Ans}(he:aB P f)
 (h:∀x y z,Wf τ x->Wf σ y->Wf ρ z->(∀q,(F x y z).ob=some q->q)->aF P f [inj τ x,inj σ y,inj ρ z] [] (F x y z)):ag P f (p3 τ σ ρ F):=by
 intro args S A hA ho _;unfold p3 at hA;split at hA
 ·split at hA
  ·rename_i x y z hx hy hz;simp at hA;subst hA;exact⟨he,aF.args (.cons (Rd.arg hx) (.cons (Rd.arg hy) (.cons (Rd.arg hz) .nil))) (aF.wf fun hw=>h x y z hw.one hw.two hw.three ho)⟩
  ·cases hA
 ·cases hA
end
end Go.AL
end
noncomputable section
namespace Go.AL
theorem ai{α:Type}(l:List α)(k:Nat)(d:α)(h:k<l.length):l.drop k=l.getD k d::l.drop (k+1):=by rw[M1 h];simp[Ke,h]
theorem aP{α:Type}(l:List α)(k:Nat)(d:α)(h:k<l.length):l.getD k d∈l:=by simp[Ke,h]
theorem bQ{α:Type}(l:List α)(k:Nat)(d:α)(h:k<l.length):l.take (k+1)=l.take k++[l.getD k d]:=by rw[Nb h];simp[Ke,h]
theorem aO{n:Int}(h1:-9223372036854775808<=n)(h2:n<=9223372036854775807):inR .i64 n:=by constructor<;>simp[IntKind.min,IntKind.max,IntKind.signed,IntKind.bits]<;>omega
theorem aw{n m:Nat}(h1:n<m)(h2:m<=9223372036854775807):inR .i64 ((n:Int)+1):=aO (by omega) (by omega)
theorem kK{p:Prop}[Decidable p]:(decide p=true)=p:=by simp
theorem aa{c p q:Prop}[Decidable c](h1:c->p)(h2:¬c->q):if c then p else q:=by
 by_cases h:c
 ·rw[Kf h];exact h1 h
 ·rw[Kb h];exact h2 h
abbrev noOf(α:Type):List α:=[]
theorem G0[Tabs]{P:Program}{C:Cfg}(hm:P.follows .mixedOrders=true)(hT:aX P C.tbl)(hS:bM P C.spec){ann:An}{f:Nat}{fn:Func}(hf:P.funcs[f]?=some fn)
 {args:List AV}{S:List (Nat×SObj)}{A:Ans}{Q:Prop}(q:Q)(h:fwp C ann fn args S A=Q):aF P f args S A:=Dx hm hT hS hf (h.mpr q)
end Go.AL
end
noncomputable section
namespace Go.AL
variable [Tabs]
open Go.ChangeShapes Go.WideShapes Go.RowKit
def Cx(w:World)(b o:Nat):Prop:=∃v,w.cell? ⟨b,o,none⟩=some v
def Om0(w:World):Om:=⟨fun _=>none,w,Cx w⟩
theorem Dy{P:Program}{f:Nat}{args:List AV}(h:aF P f args [] (.ret (.bool true))){w:World}{vs:List Value}(htab:∀b o v,Tabs.tab b o v->w.cell? ⟨b,o,none⟩=some v)(hobj:∀b x,Tabs.obj b x->w.heap[b]?=some x)(hv:VL (Om0 w) args vs) :
  Calls P f vs.toArray w fun e w'=>e=.returned (.bool true)/\RowKit.Below w.heap.size w w':=by
 refine Calls.mono (h w (Cx w) (fun _=>none) vs (fun _ _ h=>h) ⟨fun b o v ht=>⟨⟨v,htab b o v ht⟩,htab b o v ht⟩,fun b x hx=>⟨hobj b x hx,fun o ⟨_,_,hc,_⟩=>by cases hc⟩⟩ hv (fun id o ho=>by simp[aR,aJ]at ho) (fun _ _=>rfl) (fun i j c d b o hc=>by cases hc)) ?_;intro e w' hq;obtain⟨pub',e',hq⟩:=hq
 cases e with
 |returned v=>obtain⟨_,hv,ha⟩:=hq;have:=hv.bool_inv;subst this;exact⟨rfl,ha.os,ha.tape,ha.output,ha.size,fun b hb=>ha.block b hb fun o ⟨id,c,hc,_⟩=>by cases hc⟩
 |panicked ch=>obtain⟨pv,u,v,hp,_⟩:=hq;cases hp
 |outgrown=>exact hq.elim
section
variable {H:Type} {enc:TypeId×Value->H} {P:Program}
theorem lQ(hl:laidOutB P=true){W W':World}(hb:Below W.heap.size W W'){sp:Nat->Bool}:∀{ts:List TypeId} {vs:List Value} {ds:List (DataW H)} {p:List MemPlace},
  (∀t∈ts,P.readableRec t=true/\t<P.types.size)->DataW.TrodAll enc P W 0 (fun _=>true) true ts vs ds p->(∀x∈p,x.block<W.heap.size)->(∀x∈p,sp x.block=true)->DataW.TrodAll enc P W' 0 sp true ts vs ds p
 |[],_,_,_,_,h,_,_=>by obtain⟨rfl,rfl,rfl⟩:=trodAll_nil h;exact h
 |t::ts,_,_,_,hr,h,hlt,hsp=>by
  obtain⟨v,vs,d,ds,p,q,rfl,rfl,rfl,h1,h2⟩:=trodAll_cons h;obtain⟨r1,r2⟩:=hr t (by simp)
  exact⟨p,q,WideElems.Trod_stays hl r1 r2 h1 (fun x hx=>hb.same (hlt x (by simp[hx]))) (fun x hx=>hsp x (by simp[hx])),
   lQ hl hb (fun t ht=>hr t (by simp[ht])) h2 (fun x hx=>hlt x (by simp[hx])) (fun x hx=>hsp x (by simp[hx])),rfl⟩
theorem G1(hl:laidOutB P=true){f:Func}{s:ChangeSpec}{apart fresh handsOn again:Bool}{W W':World}{args:Array Value}{ds gs:List (DataW H)}{before:List MemPlace}{tb:TypeId}
 (hr:∀t∈f.params.toList,P.readableRec t=true/\t<P.types.size)(hvars:s.vars=[])(hfn:∀ds:List (DataW H),ds.length=f.params.size->s.fn H ds={results:=[.lit (.bool true)],args:=ds})(hrt:f.resultTypes=#[tb])(htb:P.underlying tb=some .bool)
 (hW:DataW.Whole enc P f.params.toList s.vars apart W args.toList ds gs before)(hb:Below W.heap.size W W'):s.post enc P f apart fresh handsOn again W args (.bool true) W':=by
 have hlt:∀p∈before,p.block<W.heap.size:=fun p hp=>hW.lt p hp;have hW0:=hW;obtain⟨p,q,hA,hV,e,hz,hn⟩:=hW;rw[hvars]at hV;obtain⟨rfl,rfl⟩:=trodVars_none hV;rw[LQ]at e;subst e
 have hlen:ds.length=f.params.size:=by
  have:∀{ts:List TypeId} {vs:List Value} {ds:List (DataW H)} {p:List MemPlace},DataW.TrodAll enc P W 0 (fun _=>true) true ts vs ds p->ds.length=ts.length:=by
   intro ts
   induction ts with
   |nil=>intro vs ds p h;obtain⟨rfl,rfl,rfl⟩:=trodAll_nil h;rfl
   |cons t ts ih=>intro vs ds p h;obtain⟨v,vs,d,ds,p,q,rfl,rfl,rfl,h1,h2⟩:=trodAll_cons h;simp[ih h2]
  simpa using this hA
 have hf:=hfn ds hlen;have hs:∀sp:Nat->Bool,(∀x∈before,sp x.block=true)->DataW.TrodAll enc P W' 0 sp true f.params.toList args.toList ds before:=fun sp hsp=>lQ hl hb hr hA hlt hsp;have hres:∀(b:Nat)(sp:Nat->Bool)(hd:Bool),DataW.TrodAll enc P W' b sp hd f.resultTypes.toList ((Value.bool true).resultList f.resultTypes.size) [.lit (.bool true)] []:=by intro b sp hd;rw[hrt];exact trodAll_cons_mk (shut_bool htb true) trodAll_mk0
 have hvs:DataW.TrodVars enc P W' (fun b=>decide (b<W.heap.size)) s.vars [] []:=by rw[hvars];rfl
 refine⟨ds,[],before,[],before,[],hW0,?_,?_,?_,World.keptBut_mono (fun x hx=>⟨hx,.inr (.inl hx)⟩) (hb.frame (·∈before)),fun _=>⟨?_,?_⟩⟩
 ·rw[LQ,hf];exact hres _ _ _
 ·rw[LQ,hf];exact hs _ fun x hx=>by simpa using hlt x hx
 ·rw[LQ,hf];exact hvs
 ·intro j t r h1 h2;rw[hrt]at h1 h2
  cases j with
  |zero=>
   simp at h1;subst h1;have:r=.bool true:=by simp[Value.resultList]at h2;exact h2.symm
   subst this;simp[Value.okWide,htb,Cell.okWide,Cell.ok]
  |succ j=>simp at h1
 ·refine⟨[.lit (.bool true)]++ds,[],[]++before,⟨[]++before,[],trodAll_append (hs _ fun _ _=>rfl) (hres _ _ _),by rw[hvars];rfl,by simp,fun b off hp=>?_,fun ha=>by simpa using hn ha⟩,fun x hx _=>by simpa using hx⟩;have hin:MemPlace.cell b off∈before:=by simpa using hp
  rw[hb.frozen (p:=⟨b,off,none⟩) (hlt _ hin)];exact hz b off hin
variable {w:World} {base:Nat} {sp:Nat->Bool} {held:Bool}
theorem k8{t:TypeId}{k:IntKind}{fuel:Nat}{cs:List Value}{x:DataW H×List MemPlace}(ht:P.underlying t=some (.int k))(h:DataW.trod enc P w base sp held fuel t cs=some x) :
  ∃n:Int,cs=[.int k n]/\V (Om0 w) (.int k n) (.int k n):=by
 obtain⟨n,rfl,_,hw⟩:=DataW.trod_int ht h;simp only[Lit.wf,Ka,Kc]at hw;exact⟨n,rfl,.int k n hw.1 hw.2⟩
theorem lR{t:TypeId}{fuel:Nat}{cs:List Value}{x:DataW H×List MemPlace}(ht:P.underlying t=some .string)(h:DataW.trod enc P w base sp held fuel t cs=some x) :
  ∃(s:Str)(v:Value),cs=[v]/\V (Om0 w) (.str s) v:=by
 obtain⟨s,rfl,_,hw⟩:=DataW.trod_string ht h;refine⟨s.data.toList,_,rfl,?_⟩;have e:s=⟨s.data.toList.toArray⟩:=by cases s;simp
 have hl:s.data.toList.length<=b6:=by have:s.data.size=s.size:=rfl;unfold maxLen at hw;unfold b6;simp only[LJ,this];omega
 have:=V.str (Ω:=Om0 w) s.data.toList hl;rw[<-e]at this;exact this
theorem JS{t e:TypeId}{τ:Ty}{fuel:Nat}{cs:List Value}{x:DataW H×List MemPlace}(ht:P.underlying t=some (.slice e))(hc:P.cellsOf e=ab τ)(h:DataW.trod enc P w base sp held fuel t cs=some x)
 (hel:∀(n:Nat)(ds:List Value)(y:DataW H×List MemPlace),fuel=n+1->DataW.trod enc P w base sp held n e ds=some y->∃z:den τ,VL (Om0 w) (cells τ z) ds)
 (hsp:∀a len cap,cs=[.slice (some a) len cap]->a.spot=none):∃(l:List (den τ))(v:Value),cs=[v]/\V (Om0 w) (.lst τ l none) v:=by
 rcases MQ ht h with⟨rfl,_⟩|⟨a,len,cap,elems,rest,n,hfu,rfl,_,_,hlc,hcm,hlen,hels,_,_⟩
 ·exact⟨[],_,rfl,.lstNil τ none (fun id hid=>by cases hid)⟩
 ·have hs:=hsp a len cap rfl;obtain⟨b,off,spot⟩:=a;simp only at hs;subst hs
  have each:∀i,i<len->∃z:den τ,∃ds:List Value,ds.length=ab τ/\(∀j,j<ab τ->w.cell? ⟨b,off+(i *ab τ+j),none⟩=ds[j]?)/\VL (Om0 w) (cells τ z) ds:=by
   intro i hi;have h1:=hels i hi;obtain⟨y,hy⟩:∃y,elems[i]?=some y:=⟨_,K9 (by omega)⟩;rw[hy,hc,Mv]at h1;obtain⟨ds,hd,hy'⟩:=h1;obtain⟨_,hdl,hdc⟩:=Nc hd;obtain⟨z,hz⟩:=hel n ds y hfu hy';refine⟨z,ds,hdl,fun j hj=>?_,hz⟩;have:=hdc j hj
   have ha:∀(o n:Nat),(⟨b,o,none⟩:Addr).add n=⟨b,o+n,none⟩:=by
    intro o n;unfold Addr.add;by_cases h0:n=0
    ·subst h0;rfl
    ·rw[Kb h0]
   rw[ha,ha,LZ]at this;exact this
  have hz:∃l:List (den τ),l.length=len/\∀i z,l[i]?=some z->∃ds:List Value,ds.length=ab τ/\(∀j,j<ab τ->w.cell? ⟨b,off+(i *ab τ+j),none⟩=ds[j]?)/\VL (Om0 w) (cells τ z) ds:=by
   refine⟨(List.range len).attach.map fun i=>(each i.1 (LG.1 i.2)).choose,by simp,fun i z hi=>?_⟩;have hil:i<len:=by have:=(KS.1 hi).1;simpa using this
   simp only[KF,KB]at hi;obtain⟨⟨k,hk⟩,h1,h2⟩:=hi;have hki:k=i:=by have:=KS.1 h1;obtain⟨_,e⟩:=this;have:=Lu Subtype.val e;simpa using this.symm
   subst hki;rw[<-h2];exact(each k (LG.1 hk)).choose_spec
  obtain⟨l,hll,hle⟩:=hz;refine⟨l,_,rfl,?_⟩;have key:=V.lst (Ω:=Om0 w) τ l none b off cap (fun i j=>(w.cell? ⟨b,off+(i *ab τ+j),none⟩).getD undef) (by omega) (by unfold maxLen at hcm;unfold b6;omega) (fun id hid=>by cases hid) (fun i z hz j c hj=>?_) (fun i z hz j c hj=>?_)
  ·rw[hll]at key;exact key
  ·obtain⟨ds,d1,d2,d3⟩:=hle i z hz;have hjw:j<ab τ:=by rw[<-aU τ z];exact(KS.1 hj).1
   have hv:w.cell? ⟨b,off+(i *ab τ+j),none⟩=some ds[j]:=by rw[d2 j hjw];exact K9 (by omega)
   refine⟨⟨_,hv⟩,?_⟩;show w.cell? _=_;rw[hv];rfl
  ·obtain⟨ds,d1,d2,d3⟩:=hle i z hz;have hjw:j<ab τ:=by rw[<-aU τ z];exact(KS.1 hj).1
   have hd:ds[j]?=some ds[j]:=K9 (by omega);rw[d2 j hjw,hd];exact d3.2 j c ds[j] hj hd
end
end Go.AL
end
noncomputable section
namespace Go.AL
variable [Tabs]
open Go.ChangeShapes Go.WideShapes Go.RowKit
variable {H:Type} {enc:TypeId×Value->H} {P:Program} {w:World} {base:Nat} {held:Bool}
theorem pY{sp:Nat->Bool}{t:TypeId}{fs:Array Field}{fuel:Nat}{cs:List Value}{x:DataW H×List MemPlace}(ht:P.underlying t=some (.struct fs))(h:DataW.trod enc P w base sp held fuel t cs=some x) :
  ∃n,fuel=n+1/\cs.length=P.cellsOf t/\∀(i:Nat)(f:Field),fs[i]?=some f->∃y,DataW.trod enc P w base sp held n f.type ((cs.drop f.offset).take (P.cellsOf f.type))=some y:=by
 obtain⟨xs,n,hn,_,hl,hx,hf⟩:=DataW.trod_struct ht h;refine⟨n,hn,hl,fun i f hif=>?_⟩
 have hi:i<xs.length:=by
  rw[hx];rcases Kl i fs.size with k|k
  ·exact k
  ·rw[KO k]at hif;cases hif
 exact⟨xs[i],by rw[hf i f hif];exact K9 hi⟩
theorem mz{t e:TypeId}{τ:Ty}{fuel:Nat}{cs:List Value}{x:DataW H×List MemPlace}(ht:P.underlying t=some (.slice e))(hc:P.cellsOf e=ab τ)(hw:0<ab τ)
 (h:DataW.trod enc P w base (fun _=>true) held fuel t cs=some x)
 (hel:∀(n:Nat)(ds:List Value)(y:DataW H×List MemPlace),fuel=n+1->DataW.trod enc P w base (fun _=>true) held n e ds=some y->∃z:den τ,VL (Om0 w) (cells τ z) ds) :
  ∃(l:List (den τ))(v:Value),cs=[v]/\V (Om0 w) (.lst τ l none) v:=by
 have h0:=h;rcases MQ ht h with⟨rfl,_⟩|⟨a,len,cap,elems,rest,n,hfu,rfl,_,_,hlc,hcm,hlen,hels,hrest,_⟩
 ·exact⟨[],_,rfl,.lstNil τ none (fun id hid=>by cases hid)⟩
 ·by_cases hcap:cap=0
  ·have:len=0:=by omega
   subst hcap this;exact⟨[],_,rfl,.lstVoid τ a⟩
  ·refine JS ht hc h0 hel fun a' len' cap' e'=>?_;simp only[L7,Lm,Xs,KI]at e';obtain⟨rfl,rfl,rfl⟩:=e'
   have hr:∃(ad:Addr)(y:DataW H×List MemPlace),ad=a/\(w.cells? base ad (P.cellsOf e)).bind (DataW.trod enc P w base (fun _=>true) held n e)=some y:=by
    by_cases hl:len=0
    ·obtain⟨r1,r2⟩:=hrest rfl;have:=r2 0 (by omega);rw[hl]at this;refine⟨_,_,?_,this.trans (K9 (by omega))⟩;simp[Addr.add]
    ·have:=hels 0 (by omega);refine⟨_,_,?_,this.trans (K9 (by omega))⟩;simp[Addr.add]
   obtain⟨ad,y,rfl,hy⟩:=hr;rw[Mv]at hy;obtain⟨ds,hd,_⟩:=hy;obtain⟨_,hdl,hdc⟩:=Nc hd;have:=hdc 0 (by rw[hc];exact hw);have ha:ad.add 0=ad:=by simp[Addr.add]
   rw[ha,K9 (by rw[hdl,hc];exact hw)]at this;unfold World.cell? at this;split at this
   ·split at this
    ·cases this
    ·rename_i hs;cases hsp:ad.spot
     ·rfl
     ·rw[hsp]at hs;exact absurd rfl hs
   ·cases this
structure ShapeAt(P:Program)(t:TypeId):Prop where
 ex:∃(f0 f1 f2 f3 f4:Field)(e:TypeId),P.underlying t=some (.struct #[f0,f1,f2,f3,f4])/\P.cellsOf t=5/\
  (f0.offset=0/\f1.offset=1/\f2.offset=2/\f3.offset=3/\f4.offset=4)/\
  (P.cellsOf f0.type=1/\P.cellsOf f1.type=1/\P.cellsOf f2.type=1/\P.cellsOf f3.type=1/\P.cellsOf f4.type=1)/\
  P.underlying f0.type=some (.int .i64)/\P.underlying f1.type=some .string/\P.underlying f2.type=some .string/\P.underlying f3.type=some (.slice e)/\P.underlying e=some .string/\P.cellsOf e=1/\P.underlying f4.type=some (.slice t)
theorem Cy{t:TypeId}(hs:ShapeAt P t):∀(fuel:Nat)(cs:List Value)(x:DataW H×List MemPlace),DataW.trod enc P w base (fun _=>true) held fuel t cs=some x->∃s:Shape,VL (Om0 w) (cells (.st .shape) s) cs:=by
 obtain⟨f0,f1,f2,f3,f4,e,ht,hc,⟨o0,o1,o2,o3,o4⟩,⟨c0,c1,c2,c3,c4⟩,u0,u1,u2,u3,us,ce,u4⟩:=hs;intro fuel
 induction fuel using Nat.strongRecOn with
 |_ fuel ih=>
 intro cs x h;obtain⟨n,hn,hl,hf⟩:=pY ht h;rw[hc]at hl;obtain⟨y0,h0⟩:=hf 0 f0 rfl;obtain⟨y1,h1⟩:=hf 1 f1 rfl;obtain⟨y2,h2⟩:=hf 2 f2 rfl;obtain⟨y3,h3⟩:=hf 3 f3 rfl;obtain⟨y4,h4⟩:=hf 4 f4 rfl
 match cs,hl with
 |[a0,a1,a2,a3,a4],_=>
  rw[o0,c0]at h0;rw[o1,c1]at h1;rw[o2,c2]at h2;rw[o3,c3]at h3;rw[o4,c4]at h4;simp only[LF,LK,Lv,Mg]at h0 h1 h2 h3 h4;obtain⟨k,e0,v0⟩:=k8 u0 h0;obtain⟨p,v,e1,v1⟩:=lR u1 h1;obtain⟨m,v',e2,v2⟩:=lR u2 h2;obtain⟨ns,v'',e3,v3⟩:=mz (τ:=.str) u3 (by rw[ce];rfl) (by decide) h3 fun n' ds y _ hy=>by obtain⟨s,v,rfl,hv⟩:=lR us hy;exact⟨s,VL.cons hv .nil⟩
  obtain⟨ps,v''',e4,v4⟩:=mz (τ:=.st .shape) u4 (by rw[hc];rfl) (by decide) h4 fun n' ds y hn' hy=>ih n' (by omega) ds y hy;simp only[L7,KI]at e0 e1 e2 e3 e4;subst e0 e1 e2 e3 e4;exact⟨⟨k,p,m,ns,ps⟩,VL.cons v0 (VL.cons v1 (VL.cons v2 (VL.cons v3 (VL.cons v4 .nil))))⟩
structure ItemAt(P:Program)(t:TypeId):Prop where
 ex:∃(f0 f1 f2:Field),P.underlying t=some (.struct #[f0,f1,f2])/\P.cellsOf t=7/\(f0.offset=0/\f1.offset=1/\f2.offset=2)/\
  (P.cellsOf f0.type=1/\P.cellsOf f1.type=1/\P.cellsOf f2.type=5)/\P.underlying f0.type=some (.int .i64)/\P.underlying f1.type=some .string/\ShapeAt P f2.type
end Go.AL
end
noncomputable section
namespace Go.AL
open Go.ChangeShapes Go.WideShapes Go.RowKit
abbrev rJ(w:World):Tabs:=⟨fun b o v=>b<4/\w.cell? ⟨b,o,none⟩=some v,fun b x=>b<4/\w.heap[b]?=some x⟩
variable [Tabs]
variable {H:Type} {enc:TypeId×Value->H} {P:Program} {w:World} {base:Nat} {held:Bool}
structure TokAt(P:Program)(t:TypeId):Prop where
 ex:∃(f0 f1 f2:Field),P.underlying t=some (.struct #[f0,f1,f2])/\P.cellsOf t=3/\(f0.offset=0/\f1.offset=1/\f2.offset=2)/\
  (P.cellsOf f0.type=1/\P.cellsOf f1.type=1/\P.cellsOf f2.type=1)/\P.underlying f0.type=some (.int .i64)/\P.underlying f1.type=some .string/\P.underlying f2.type=some (.int .i64)
end Go.AL
end
noncomputable section
namespace Go.AL
open Go.ChangeShapes Go.WideShapes Go.RowKit
variable [Tabs]
variable {H:Type} {enc:TypeId×Value->H} {P:Program} {w:World} {base:Nat} {held:Bool}
structure BindAt(P:Program)(t:TypeId):Prop where
 ex:∃(f0 f1 f2:Field),P.underlying t=some (.struct #[f0,f1,f2])/\P.cellsOf t=7/\(f0.offset=0/\f1.offset=1/\f2.offset=2)/\
  (P.cellsOf f0.type=1/\P.cellsOf f1.type=1/\P.cellsOf f2.type=5)/\P.underlying f0.type=some .string/\P.underlying f1.type=some .string/\ShapeAt P f2.type
structure EnvAt(P:Program)(t:TypeId):Prop where
 ex:∃(f0 f1 f2 f3:Field)(e:TypeId),P.underlying t=some (.struct #[f0,f1,f2,f3])/\P.cellsOf t=4/\(f0.offset=0/\f1.offset=1/\f2.offset=2/\f3.offset=3)/\
  (P.cellsOf f0.type=1/\P.cellsOf f1.type=1/\P.cellsOf f2.type=1/\P.cellsOf f3.type=1)/\P.underlying f0.type=some .string/\
  (P.underlying f1.type=some (.slice e)/\P.underlying f2.type=some (.slice e)/\P.underlying f3.type=some (.slice e))/\BindAt P e
end Go.AL
end
noncomputable section
namespace Go.AL
variable [Tabs]
theorem bf.blk{Ω:Om}{own:Nat->Nat->Prop}{id:Nat}{ob:SObj}(hs:bf Ω own id ob){c:CObj}(hc:Ω.e id=some c){b o:Nat}(hb:occ c b o):b<Ω.w.heap.size:=by
 cases ob with
 |box x=>
  obtain⟨b',off,he,hh⟩:=hs;rw[he]at hc;simp only[Xs]at hc;subst hc;obtain⟨rfl,h1,h2⟩:=hb;have hj:o-off<(ae x).length:=by omega
  obtain⟨_,_,_,v,hv,_⟩:=hh (o-off) _ (K9 hj);exact aQ hv
 |tail τ n=>obtain⟨base,cap,he,_,_,_,hb'⟩:=hs;rw[he]at hc;simp only[Xs]at hc;subst hc;obtain⟨_,vs,ty,fz,hh,_⟩:=hb' b hb;exact bL hh
 |grow τ n xs=>obtain⟨base,cap,he,_,_,_,hb'⟩:=hs;rw[he]at hc;simp only[Xs]at hc;subst hc;obtain⟨_,⟨vs,ty,fz,hh,_⟩,_⟩:=hb' b hb;exact bL hh
 |map κ τ m=>obtain⟨r,he,_,es,clock,hh,_⟩:=hs;rw[he]at hc;simp only[Xs]at hc;subst hc;have:b=r:=hb;subst this;exact bL hh
 |bld t u l=>obtain⟨b0,g,he,_,hh⟩:=hs;rw[he]at hc;simp only[Xs]at hc;subst hc;exact hh.lt hb
 |tailp τ n x=>
  obtain⟨b0,cap,he,_,_,_,⟨vs,ty,fz,hh,_⟩,_⟩:=hs;rw[he]at hc;simp only[Xs]at hc;subst hc;have:b0=b:=by simpa[occ]using hb
  subst this;exact bL hh
def vK(e:Nat->Option CObj)(k b o:Nat):Prop:=∃c,e k=some c/\occ c b o
theorem After.slot{w w':World}{pub:Nat->Nat->Prop}{e:Nat->Option CObj}{S:List (Nat×SObj)}
 (hp:kr w pub)(hs:∀id o,al S id=some o->bf ⟨e,w,pub⟩ (fun _ _=>True) id o)(hd:∀id,al S id=none->e id=none)(hi:Inj e)
 {k:Nat}{obj:SObj}{c:CObj}{Q:Nat->Nat->Prop}
 (os:w'.os=w.os)(tape:w'.tape=w.tape)(output:w'.output=w.output)(size:w.heap.size<=w'.heap.size)
 (block:∀b,b<w.heap.size->(∀o,¬vK e k b o)->w'.heap[b]?=w.heap[b]?)
 (cell:∀b o,b<w.heap.size->¬vK e k b o->w'.cell? ⟨b,o,none⟩=w.cell? ⟨b,o,none⟩)
 (kind:∀b,b<w.heap.size->¬(∀o,vK e k b o)->w'.shape? b=w.shape? b/\∀o,w'.frozen? ⟨b,o,none⟩=w.frozen? ⟨b,o,none⟩)
 (hpub:∀b o,pub b o->w'.cell? ⟨b,o,none⟩=w.cell? ⟨b,o,none⟩)
 (hQ:∀b o,Q b o->w.heap.size<=b/\∃v,w'.cell? ⟨b,o,none⟩=some v)
 (hle:∀c0,e k=some c0->CLe c0 c)(hnew:∀b o,occ c b o->w.heap.size<=b∨vK e k b o)
 (hobj:Ext ⟨e,w,pub⟩ ⟨fun i=>if k=i then some c else e i,w',fun b o=>pub b o∨Q b o⟩->
   bf ⟨fun i=>if k=i then some c else e i,w',fun b o=>pub b o∨Q b o⟩ (fun b o=>w.heap.size<=b∨lH e b o) k obj) :
  After w pub e (al (cd S [(k,obj)])) w' (fun b o=>pub b o∨Q b o) (fun i=>if k=i then some c else e i):=by
 have blk:∀{id c b o},e id=some c->occ c b o->b<w.heap.size:=by
  intro id c b o hc ho
  cases hg:al S id with
  |none=>rw[hd id hg]at hc;cases hc
  |some ob=>exact(hs id ob hg).blk (Ω:=⟨e,w,pub⟩) hc ho
 have hx:Ext ⟨e,w,pub⟩ ⟨fun i=>if k=i then some c else e i,w',fun b o=>pub b o∨Q b o⟩:=by
  refine⟨fun id c' hc'=>?_,fun b o h=>Or.inl h,fun b o h=>hpub b o h⟩;by_cases hid:k=id
  ·subst hid;exact⟨c,by simp,hle c' hc'⟩
  ·exact⟨c',by simp only[Kb hid];exact hc',CLe.refl _⟩
 have toL:∀{b o},vK e k b o->lH e b o:=fun⟨c,h1,h2⟩=>⟨k,c,h1,h2⟩;have stay:∀{id c' b o},k≠id->e id=some c'->occ c' b o->¬vK e k b o:=by rintro id c' b o hid hc ho ⟨c0,h1,h2⟩;exact hid (hi k id c0 c' b o h1 hc h2 ho)
 refine⟨os,tape,output,size,fun b hb h=>block b hb fun o ho=>h o (toL ho),fun b o hb h=>cell b o hb fun ho=>h (toL ho),
  fun b hb h=>kind b hb fun ho=>h fun o=>toL (ho o),hx,fun b o h=>?_,fun b o h=>?_,fun id o h=>?_,fun id h=>?_,?_⟩
 ·rcases h with h|h
  ·exact Or.inl h
  ·exact Or.inr (Or.inl (hQ b o h).1)
 ·rcases h with h|h
  ·obtain⟨v,hv⟩:=hp b o h;exact⟨v,(hpub b o h).trans hv⟩
  ·exact(hQ b o h).2
 ·rw[iv,gF]at h;by_cases hid:k=id
  ·subst hid;simp only[Lf]at h;cases h;exact hobj hx
  ·simp only[Kb hid]at h;have h0:=hs id o h;refine bf.own_of (bf.keep h0 hx (by simp only[Kb hid]) fun c' hc'=>?_) (fun c' b o hc ho=>?_)
   ·have hc':e id=some c':=hc'
    cases c' with
    |box b off len=>
     intro oo h1 h2;have ho:occ (.box b off len) b oo:=⟨rfl,h1,h2⟩;refine⟨cell b oo (blk hc' ho) (stay hid hc' ho),(kind b (blk hc' ho) fun hall=>stay hid hc' ho (hall oo)).2 oo,fun hp'=>?_⟩;rcases hp' with hp'|hp'
     ·exact hp'
     ·have:=(hQ _ _ hp').1;have:=blk hc' ho;omega
    |tail n base cap=>
     intro b hb;have ho:∀oo,occ (.tail n base cap) b oo:=fun _=>hb;refine⟨block b (blk hc' (ho 0)) fun oo=>stay hid hc' (ho oo),fun oo hp'=>?_⟩;rcases hp' with hp'|hp'
     ·exact hp'
     ·have:=(hQ _ _ hp').1;have:=blk hc' (ho 0);omega
    |obj r=>have ho:∀oo,occ (.obj r) r oo:=fun _=>rfl;exact block r (blk hc' (ho 0)) fun oo=>stay hid hc' (ho oo)
    |bld b g=>
     intro b' hb';have ho:∀oo,occ (.bld b g) b' oo:=fun _=>hb';refine⟨block b' (blk hc' (ho 0)) fun oo=>stay hid hc' (ho oo),fun oo hp'=>?_⟩;rcases hp' with hp'|hp'
     ·exact hp'
     ·have:=(hQ _ _ hp').1;have:=blk hc' (ho 0);omega
   ·simp only[Kb hid]at hc;exact Or.inr ⟨id,c',hc,ho⟩
 ·rw[iv,gF]at h;by_cases hid:k=id
  ·simp[hid]at h
  ·simp only[Kb hid]at h⊢;exact hd id h
 ·intro i j ci cj b o hci hcj hoi hoj;simp only at hci hcj;by_cases h1:k=i<;>by_cases h2:k=j
  ·omega
  ·simp only[Kf h1,Kb h2,Xs]at hci hcj;subst hci;rcases hnew b o hoi with h|h
   ·have:=blk hcj hoj;omega
   ·exact absurd h (stay h2 hcj hoj)
  ·simp only[Kb h1,Kf h2,Xs]at hci hcj;subst hcj;rcases hnew b o hoj with h|h
   ·have:=blk hci hoi;omega
   ·exact absurd h (stay h1 hci hoi)
  ·simp only[Kb h1,Kb h2]at hci hcj;exact hi i j ci cj b o hci hcj hoi hoj
theorem After.fresh1{w w':World}{pub:Nat->Nat->Prop}{e:Nat->Option CObj}{S:List (Nat×SObj)}
 (hp:kr w pub)(hs:∀id o,al S id=some o->bf ⟨e,w,pub⟩ (fun _ _=>True) id o)(hd:∀id,al S id=none->e id=none)(hi:Inj e)
 {k:Nat}{obj:SObj}{c:CObj}(hb:RowKit.Below w.heap.size w w')(hk:al S k=none)(hnew:∀b o,occ c b o->w.heap.size<=b)
 (hobj:bf ⟨fun i=>if k=i then some c else e i,w',fun b o=>pub b o∨False⟩ (fun b o=>w.heap.size<=b∨lH e b o) k obj) :
  After w pub e (al (cd S [(k,obj)])) w' (fun b o=>pub b o∨False) (fun i=>if k=i then some c else e i):=
 After.slot hp hs hd hi (Q:=fun _ _=>False) hb.os hb.tape hb.output hb.size (fun b h _=>hb.block b h) (fun b o h _=>aj (hb.block b h) o)
  (fun b h _=>⟨aW (hb.block b h),fun o=>aN (hb.block b h) o⟩)
  (fun b o h=>by obtain⟨v,hv⟩:=hp b o h;exact aj (hb.block b (aQ hv)) o)
  (fun _ _ h=>h.elim) (fun c0 h=>by rw[hd k hk]at h;cases h) (fun b o h=>Or.inl (hnew b o h)) (fun _=>hobj)
theorem VL.one_inv{Ω:Om}{a:AV}{vs:List Value}(h:VL Ω [a] vs):∃v,vs=[v]/\V Ω a v:=by
 obtain⟨hl,h⟩:=h
 match vs,hl,h with
 |[v],_,h=>exact⟨v,rfl,h 0 a v rfl rfl⟩
theorem VL.two_inv{Ω:Om}{a b:AV}{vs:List Value}(h:VL Ω [a,b] vs):∃v u,vs=[v,u]/\V Ω a v/\V Ω b u:=by
 obtain⟨hl,h⟩:=h
 match vs,hl,h with
 |[v,u],_,h=>exact⟨v,u,rfl,h 0 a v rfl rfl,h 1 b u rfl rfl⟩
end Go.AL
end
noncomputable section
namespace Go.AL
variable [Tabs]
open Go.Proofs Go.Shelf Go.RowKit
variable {P:Program} {ρ:Ren}
structure But(w w':World)(b:Nat)(g:Option Nat):Prop where
 os:w'.os=w.os
 tape:w'.tape=w.tape
 output:w'.output=w.output
 size:w.heap.size<=w'.heap.size
 block:∀k,k<w.heap.size->k≠b->g≠some k->w'.heap[k]?=w.heap[k]?
structure WL(P:Program)(ρ:Ren):Prop where
 mixed:P.follows .mixedOrders=true
 f166:P.funcs[ρ.f 166]?=some (Body.n166 ρ)
 t3:P.underlying (ρ.t 3)=some (TypeDesc.int IntKind.i64)
 a3:∀w,(isAgg (ρ.t 3)).run P w=.ok false w
 z3:∀w,(Go.sizeOf (ρ.t 3)).run P w=.ok 1 w
 v3:∀w,(zeroValue (ρ.t 3)).run P w=.ok (Value.int IntKind.i64 0) w
 t9:P.underlying (ρ.t 9)=some (TypeDesc.string)
 a9:∀w,(isAgg (ρ.t 9)).run P w=.ok false w
 z9:∀w,(Go.sizeOf (ρ.t 9)).run P w=.ok 1 w
 v9:∀w,(zeroValue (ρ.t 9)).run P w=.ok (Value.string {data:=#[]}) w
 t37:P.underlying (ρ.t 37)=some (TypeDesc.slice (ρ.t 5))
 a37:∀w,(isAgg (ρ.t 37)).run P w=.ok false w
 z37:∀w,(Go.sizeOf (ρ.t 37)).run P w=.ok 1 w
 v37:∀w,(zeroValue (ρ.t 37)).run P w=.ok (Value.slice none 0 0) w
 t70:P.underlying (ρ.t 70)=some (TypeDesc.pointer (ρ.t 72))
 a70:∀w,(isAgg (ρ.t 70)).run P w=.ok false w
 z70:∀w,(Go.sizeOf (ρ.t 70)).run P w=.ok 1 w
 v70:∀w,(zeroValue (ρ.t 70)).run P w=.ok (Value.pointer none) w
 t72:P.underlying (ρ.t 72)=some (TypeDesc.struct #[{name:= "addr",type:=ρ.t 70,offset:=0,embedded:=false,tag:= "",pkgPath:= "strings",byteOffset:=0},{name:= "buf",type:=ρ.t 37,offset:=1,embedded:=false,tag:= "",pkgPath:= "strings",byteOffset:=8}])
 a72:∀w,(isAgg (ρ.t 72)).run P w=.ok true w
 z72:∀w,(Go.sizeOf (ρ.t 72)).run P w=.ok 2 w
 v72:∀w,(zeroValue (ρ.t 72)).run P w=.ok (Value.agg #[Value.pointer none,Value.slice none 0 0]) w
end Go.AL
end
noncomputable section
namespace Go.AL
variable [Tabs]
open Go.Proofs Go.RowKit Go.Maps Go.Sort Go.Shelf
variable {P:Program} {ρ:Ren}
def eh{α:Type}(F:Fence)(n:Nat)(P:Program)(g:Nat)(lb:Array Value)(enc:α->Value)(S:List α->Prop)(N:Nat)(w:World):Prop:=
 ∀(l:Nat)(J:List α->World->Prop)(W:World),Below w.heap.size w W->AbidesFrom W.heap.size J->(∀pre W1,J pre W1->Below w.heap.size w W1)->
  (∀pre x W1,J pre W1->pre.length<N->YieldAt F (n-1) P l #[enc x] W1 fun e W'=>e=.returned (.bool true)/\J (pre++[x]) W'/\KeepsWalks W1 W')->
  J [] W->
  CallsIn F n P g (#[.func (.yield l) #[] #[]]++lb) W fun e W'=>(∃v,e=.returned v)/\∃xs,S xs/\J xs W'
theorem eh.bounded{α:Type}{F:Fence}{n:Nat}{g:Nat}{lb:Array Value}{enc:α->Value}{S:List α->Prop}{N:Nat}{w:World}
 (h:eh F n P g lb enc S N w):eh F n P g lb enc (fun xs=>S xs/\xs.length<=N) N w:=fun l J W hW hJ hB hY h0=>by
 refine(h l (fun xs W'=>J xs W'/\xs.length<=N) W hW (fun s A B row hs hg hr=>⟨hJ s A B row hs.1 hg hr,hs.2⟩) (fun pre W1 h=>hB pre W1 h.1)
  (fun pre x W1 hj hl=>(hY pre x W1 hj.1 hl).mono (fun e w' hr=>⟨hr.1,⟨hr.2.1,by simp;omega⟩,hr.2.2⟩)) ⟨h0,Kg _⟩).mono ?_
 rintro e W' ⟨hv,xs,hS,hJ',hlen⟩;exact⟨hv,xs,⟨hS,hlen⟩,hJ'⟩
set_option maxRecDepth 100000 in
set_option maxHeartbeats 2000000 in
theorem Ak(L:SlLaysZ.n11 P ρ)(F:Fence)(n:Nat)(h11:F.fn (ρ.f 11))(hro:F.round=none)(hn:2<=n)(g:Nat)(lb:Array Value)(hFg:F.fn g)(eg:∀args w,(callFunc g args).run P w=.ok (.enter g args) w)
 (S:List (List UInt8)->Prop)(N:Nat)(hN:N<=maxLen)(hNb:N *16<=140737488355328)(w:World)(hseq:eh F (n-1) P g lb encStr S N w) :
  CallsIn F n P (ρ.f 11) #[.slice none 0 0,.func (.func g) #[] lb] w fun e w'=>∃(v:Value)(ss:List (List UInt8)),e=.returned v/\S ss/\w'.ownsRow w.heap.size (ρ.t 26) 1 v ss.length (ss.map encStr)/\(v=.slice none 0 0↔ss=[])/\Below w.heap.size w w':=by
 have h1:1<=n:=by omega
 have mixed:=L.mixed;have t0:=L.t0;have a0:=L.a0;have z0:=L.z0;have v0:=L.v0;have t24:=L.t24;have a24:=L.a24;have z24:=L.z24;have v24:=L.v24;have t26:=L.t26;have a26:=L.a26;have z26:=L.z26;have v26:=L.v26;have t28:=L.t28;have a28:=L.a28;have z28:=L.z28;have v28:=L.v28;have hne:ρ.t 24≠ρ.t 26:=fun e=>by have h:=L.t24;rw[e,L.t26]at h;cases h
 have u0:=Lc L.t0;have u24:=Lc L.t24;have u26:=Lc L.t26;have u28:=Lc L.t28;obtain⟨_,_,FG⟩:=L.f11;refine callsIn_of_wp_marks FG rfl h11 ?_ hro;simp only[SlBodyZ.n11_ntmps ρ,LN,Kq,KT,Nat.reduceAdd,Nat.reduceSub,LB,LC,LU,LM,Le,KU]
 gi_wp2
 refine wpIn_rangeFunc ?_;intro fn hfn;rw[hro];obtain⟨W0,hW0⟩:∃W0,w.alloc (.cells #[.slice none 0 0] (ρ.t 24))=W0:=⟨_,rfl⟩;have hs0:W0.heap.size=w.heap.size+1:=by rw[<-hW0];simp
 have hv0:W0.heap[w.heap.size]?=some (.cells #[.slice none 0 0] (ρ.t 24) (0,0)):=by rw[<-hW0];exact World.alloc_heap_new w _
 have hb0:Below w.heap.size w W0:=by rw[<-hW0];exact(Below.refl _ w).alloc (Kn _) _
 rw[hW0];obtain⟨W1,hW1⟩:∃W1,(W0.alloc (.deferred (some []))).alloc (.loop (AnyZ.apRec ρ fn (.func (.func g) #[] lb) w.heap.size W0.heap.size .ready none))=W1:=⟨_,rfl⟩;have hold:∀k,k<W0.heap.size->W1.heap[k]?=W0.heap[k]?:=fun k hk=>by rw[<-hW1];exact(Below.heap_alloc _ _ k (by simp;omega)).trans (Below.heap_alloc _ _ k hk)
 have hb1:Below w.heap.size w W1:=by rw[<-hW1];exact(hb0.alloc hb0.size _).alloc (by have:=hb0.size;simp;omega) _
 have hs1:W1.heap.size=W0.heap.size+2:=by rw[<-hW1];simp
 have hM:AnyZ.ApAt ρ w fn (.func (.func g) #[] lb) w.heap.size (W0.heap.size+1) W0.heap.size [] W1:=
  ⟨⟨_,(hold w.heap.size (by omega)).trans hv0,⟨rfl,.inl ⟨rfl,rfl⟩⟩,by simp⟩,
   by rw[<-hW1];have:=World.alloc_heap_new (W0.alloc (.deferred (some []))) (.loop (AnyZ.apRec ρ fn (.func (.func g) #[] lb) w.heap.size W0.heap.size .ready none));rwa [World.size_alloc]at this,
   by rw[<-hW1];exact(Below.heap_alloc _ _ _ (by simp)).trans (World.alloc_heap_new W0 _),hb1⟩
 refine⟨W0.heap.size+1,[{target:=.collected W0.heap.size,args:=#[]}],W1,{target:=.fn (.func g) lb,args:=#[.func (.yield (W0.heap.size+1)) #[] #[]]},W1,g,
  #[.func (.yield (W0.heap.size+1)) #[] #[]]++lb,W1,?_,?_,?_,?_,fun _=>h1,?_⟩
 ·rw[<-hW1];exact run_enterLoop_outer _ _ _ _ _
 ·simp[resolve,go_sem]
 ·intro f' hf';simp[Target.leads]at hf';subst hf';exact hFg
 ·simp[invoke,go_sem,eg]
 ·refine(hseq (W0.heap.size+1) (AnyZ.ApAt ρ w fn (.func (.func g) #[] lb) w.heap.size (W0.heap.size+1) W0.heap.size) W1 hb1 (AnyZ.ap_abides ρ _ _ _ _ _ _ _ hb1.size) (fun _ _ h=>h.below)
   (fun pre x W hJ hl=>AnyZ.apYield {L with} F (n-1-1) w fn hfn _ w.heap.size (W0.heap.size+1) W0.heap.size (by omega) (by omega) (by omega) (Kn _) (by omega) N hN hNb pre x W hJ hl) hM).mono ?_
  rintro e W2 ⟨⟨v0,rfl⟩,ss,hS,h2⟩;obtain⟨v,hv,hrow,hnil⟩:=h2.box;have hend:=run_endLoop (P:=P) h2.L (by simp[AnyZ.apRec]);obtain⟨W3,hW3⟩:∃W3,W2.putObj (W0.heap.size+1) (.loop {AnyZ.apRec ρ fn (.func (.func g) #[] lb) w.heap.size W0.heap.size .ready none with state:=.exhausted})=W3:=⟨_,rfl⟩;rw[hW3]at hend;have hg3:W2.grownBy W3 (some (W0.heap.size+1)):=by rw[<-hW3];exact grownBy_putObj_a _ _ _
  have hv3:W3.heap[w.heap.size]?=some (.cells #[v] (ρ.t 24) (0,0)):=by rw[<-hW3];exact(World.putObj_heap_other (by omega)).trans hv
  have hK3:W3.heap[W0.heap.size]?=some (.deferred (some [])):=by rw[<-hW3];exact(World.putObj_heap_other (by omega)).trans h2.K
  have hrow3:=hrow.kept hg3 (ownsRow_ne_a hrow h2.L (fun cur e=>by first|cases e|exact hne (M4 e).2.1));have hb3:Below w.heap.size w W3:=h2.below.grown hg3 h2.below.size (fun k e=>by cases e;omega);obtain⟨hc3,hf3⟩:=cell_of_box_a hv3;clear hW3;refine⟨none,W3,hend,?_⟩
  gi_wp2
  rw[<-hs0];refine⟨by simp,.inl ⟨_,_,rfl,run_takeDeferred hK3,?_⟩⟩;exact⟨_,results_tmp rfl _ _ _,v,ss,rfl,hS,hrow3.kept (grownBy_putObj_a _ _ _) (ownsRow_ne_a hrow3 hK3 (fun cur e=>by first|cases e|exact hne (M4 e).2.1)),hnil,hb3.grown (grownBy_putObj_a _ _ _) hb3.size (fun k e=>by cases e;omega)⟩
set_option maxRecDepth 100000 in
set_option maxHeartbeats 2000000 in
theorem G2(L:SlLaysZ.n8 P ρ)(F:Fence)(n:Nat)(h8:F.fn (ρ.f 8))(h11:F.fn (ρ.f 11))(hro:F.round=none)(hn:3<=n)(g:Nat)(lb:Array Value)(hFg:F.fn g)(eg:∀args w,(callFunc g args).run P w=.ok (.enter g args) w)
 (S:List (List UInt8)->Prop)(N:Nat)(hN:N<=maxLen)(hNb:N *16<=140737488355328)(w:World)(hseq:eh F (n-1-1) P g lb encStr S N w) :
  CallsIn F n P (ρ.f 8) #[.func (.func g) #[] lb] w fun e w'=>∃(v:Value)(ss:List (List UInt8)),e=.returned v/\S ss/\w'.ownsRow w.heap.size (ρ.t 26) 1 v ss.length (ss.map encStr)/\(v=.slice none 0 0↔ss=[])/\Below w.heap.size w w':=by
 have h1:1<=n:=by omega
 have e11:∀args w,(callFunc (ρ.f 11) args).run P w=.ok (.enter (ρ.f 11) args) w:=L.f11.enters rfl;have mixed:=L.mixed;have t0:=L.t0;have a0:=L.a0;have z0:=L.z0;have v0:=L.v0;have t24:=L.t24;have a24:=L.a24;have z24:=L.z24;have v24:=L.v24;have t26:=L.t26;have a26:=L.a26;have z26:=L.z26;have v26:=L.v26;have t28:=L.t28;have a28:=L.a28;have z28:=L.z28;have v28:=L.v28;have u0:=Lc L.t0;have u24:=Lc L.t24;have u26:=Lc L.t26;have u28:=Lc L.t28;obtain⟨_,_,FG⟩:=L.f8;refine callsIn_of_wp FG rfl h8 ?_ hro;simp only[SlBodyZ.n8_ntmps ρ,LN,Kq,KT,Nat.reduceAdd,Nat.reduceSub,LB,LC,LU,LM,Le,KU]
 gi_wp2_with (gi_at_fn (ρ.f 11);refine(Ak {L with} F (n-1) h11 hro (by omega) g lb hFg eg S N hN hNb _ hseq).mono ?_;rintro e w' ⟨v,ss,rfl,hS,hrow,hnil,hb⟩)
 go_ret
 exact⟨v,ss,rfl,hS,hrow,hnil,hb⟩
set_option maxRecDepth 100000 in
set_option maxHeartbeats 2000000 in
theorem Ia(L:SlLaysZ.n6 P ρ)(F:Fence)(n:Nat)(h6:F.fn (ρ.f 6))(h8:F.fn (ρ.f 8))(h9:F.fn (ρ.f 9))(h11:F.fn (ρ.f 11))(hro:F.round=none)(hn:4<=n)(hsort:AnyZ.SortsIn P ρ F (n-1))(e9:∀args w,(callFunc (ρ.f 9) args).run P w=.ok (.enter (ρ.f 9) args) w)(g:Nat)(lb:Array Value)(hFg:F.fn g)(eg:∀args w,(callFunc g args).run P w=.ok (.enter g args) w)
 (S:List (List UInt8)->Prop)(N:Nat)(hN:N<=maxLen)(hNb:N *16<=140737488355328)(w:World)(hseq:eh F (n-1-1-1) P g lb encStr S N w) :
  CallsIn F n P (ρ.f 6) #[.func (.func g) #[] lb] w fun e w'=>∃(v:Value)(ss:List (List UInt8)),e=.returned v/\S ss/\
   w'.ownsRow w.heap.size (ρ.t 26) 1 v ss.length ((ss.mergeSort (fun x y=>decide (x<=y))).map encStr)/\(v=.slice none 0 0↔ss=[])/\Below w.heap.size w w':=by
 have h1:1<=n:=by omega
 have e8:∀args w,(callFunc (ρ.f 8) args).run P w=.ok (.enter (ρ.f 8) args) w:=L.f8.enters rfl;have mixed:=L.mixed;have t0:=L.t0;have a0:=L.a0;have z0:=L.z0;have v0:=L.v0;have t24:=L.t24;have a24:=L.a24;have z24:=L.z24;have v24:=L.v24;have t26:=L.t26;have a26:=L.a26;have z26:=L.z26;have v26:=L.v26;have t28:=L.t28;have a28:=L.a28;have z28:=L.z28;have v28:=L.v28;have u0:=Lc L.t0;have u24:=Lc L.t24;have u26:=Lc L.t26;have u28:=Lc L.t28;obtain⟨_,_,FG⟩:=L.f6;refine callsIn_of_wp FG rfl h6 ?_ hro;simp only[SlBodyZ.n6_ntmps ρ,LN,Kq,KT,Nat.reduceAdd,Nat.reduceSub,LB,LC,LU,LM,Le,KU]
 gi_wp2_with (gi_at_fn (ρ.f 8);refine(G2 {L with} F (n-1) h8 h11 hro (by omega) g lb hFg eg _ N hN hNb _ (eh.bounded hseq)).mono ?_;rintro e W ⟨v,ss,rfl,⟨hS,hlen⟩,hrow,hnil,hb⟩)
 rcases hrow.2 with⟨rfl,hz⟩|⟨gb,cap,cur,rfl,hbase,hgb,r1,r2,r3,r4⟩
 ·
  have hss:ss=[]:=Kk hz;subst hss
  gi_wp2_with (gi_at_fn (ρ.f 9);refine(hsort.2 none 0 W).mono ?_;rintro e w' ⟨rfl,rfl⟩)
  go_ret
  exact⟨.slice none 0 0,[],rfl,hS,by simpa using hrow,by simp,hb⟩
 ·have hH:Go.Sort.Holds encStr W gb 0 ss.toArray:=holds_of_block hgb (by simpa using r4);have hgl:gb<W.heap.size:=(KG.1 hgb).1;have hsz:ss.length<4611686018427387904:=by omega
  have cS:=hsort.1 gb 0 cap ss W hH hgl hsz
  gi_wp2_with (gi_at_fn (ρ.f 9);refine cS.mono ?_;rintro e w' ⟨rfl,nn,os,rfl⟩)
  go_ret
  exact⟨_,ss,rfl,hS,ownsRow_sorted (by simp) hbase hgb r1 r2 r3,hnil,hb.grown (grownBy_sorted _) hb.size (fun j hj=>by cases hj;exact hbase)⟩
theorem Dz{f:Nat}{args:List AV}{S:List (Nat×SObj)}{ob:Option Prop}{T:TypeId}{ss:List Str}(hk:al S 0=none)
 (hC:∀w pub e vs,kr w pub->VL ⟨e,w,pub⟩ args vs->(∀id o,al S id=some o->bf ⟨e,w,pub⟩ (fun _ _=>True) id o)->
   (∀s∈ss,s.length<=b6)/\Calls P f vs.toArray w fun en w'=>∃v,en=.returned v/\w'.ownsRow w.heap.size T 1 v ss.length (ss.map encStr)/\Below w.heap.size w w') :
  aF P f args S ⟨ob,none,.arr 0 ss.length 1,[(0,.box (.row .str ss))]⟩:=by
 intro w pub e vs hp ht hv hs hd hi;obtain⟨hlen,hC⟩:=hC w pub e vs hp hv hs;refine hC.mono ?_;rintro en w' ⟨v,rfl,⟨hl,hrow⟩,hb⟩;have hpl:(ae (.row .str ss)).length=ss.length:=by have:=aV .str ss;rw[show ab .str=1 from rfl,NM]at this;exact this
 rcases hrow with⟨rfl,hz⟩|⟨g,cap,cur,rfl,hbase,hg,h1,h2,h3,h4⟩
 ·have hss:ss=[]:=Kk hz;subst hss;refine⟨_,_,fun _ _ _ h=>(by cases h),?_,After.fresh1 (c:=.box w.heap.size 0 0) hp hs hd hi hb hk (fun b o ho=>by obtain⟨_,_,h⟩:=ho;omega) ⟨w.heap.size,0,by simp;rfl,fun j c' hc=>?_⟩⟩
  ·exact .arr 0 0 1 w.heap.size 0 0 none (by simp) (by omega) (by omega) (by unfold b6;omega) (.inr ⟨rfl,rfl,rfl⟩)
  ·simp[ae,flat]at hc
 ·refine⟨_,_,fun _ _ _ h=>(by cases h),?_,After.fresh1 (c:=.box g 0 (ae (.row .str ss)).length) hp hs hd hi hb hk (fun b o ho=>by obtain⟨rfl,_,_⟩:=ho;exact hbase) ⟨g,0,by simp,fun j c' hc=>?_⟩⟩
  ·exact .arr 0 ss.length 1 g (ae (.row .str ss)).length cap (some ⟨g,0,none⟩) (by simp) (by omega) h1 (by unfold maxLen at h2;unfold b6;omega) (.inl rfl)
  ·have hj:j<ss.length:=by
    rw[<-hpl];rcases Kl j (ae (.row .str ss)).length with k|k
    ·exact k
    ·rw[Kd k]at hc;cases hc
   have hcx:=fI .str ss j ss[j] 0 (.str ss[j]) (by simp[hj]) rfl;have hc0:(ae (.row .str ss))[j]?=some (.str ss[j]):=by rw[show j *ab .str+0=j by rw[show ab .str=1 from rfl];omega]at hcx;exact hcx
   rw[hc0]at hc;cases hc
   have hcur:cur[j]?=some (encStr ss[j]):=by
    have:(cur.toList.take (ss.length *1))[j]?=some (encStr ss[j]):=by rw[h4];simp[hj]
    rw[KH]at this;split at this
    ·simpa using this
    ·cases this
   refine⟨.inl hbase,fun h=>?_,eR hg _,encStr ss[j],by rw[Lk,ak hg];exact hcur,.str _ (hlen _ (Me hj))⟩;rcases h with h|h
   ·obtain⟨v,hv⟩:=hp _ _ h;have:=aQ hv;omega
   ·exact h
def eK(l:List Str):List Str:=l.mergeSort fun x y=>decide (x<=y)
theorem nd(l:List Str):(eK l).length=l.length:=List.length_mergeSort _
theorem DA{l:List Str}{s:Str}:s∈eK l↔s∈l:=N3
structure SortL(P:Program)(ρ:Ren):Prop where
 lay:SlLaysZ.n6 P ρ
 sorts:AnyZ.SortsIn P ρ Fence.wide 4
 e9:∀args w,(callFunc (ρ.f 9) args).run P w=.ok (.enter (ρ.f 9) args) w
theorem vL(L:SortL P ρ){g:Nat}{lb:Array Value}(eg:∀args w,(callFunc g args).run P w=.ok (.enter g args) w){ks:List Str}(hN:ks.length *16<=140737488355328){w:World}
 (hseq:eh Fence.wide 2 P g lb encStr (fun ss=>ss.Perm ks) ks.length w) :
  Calls P (ρ.f 6) #[.func (.func g) #[] lb] w fun en w'=>∃v,en=.returned v/\w'.ownsRow w.heap.size (ρ.t 26) 1 v (eK ks).length ((eK ks).map encStr)/\Below w.heap.size w w':=by
 refine callsIn_wide.1 ((Ia L.lay Fence.wide 5 trivial trivial trivial trivial rfl (by omega) L.sorts L.e9 g lb trivial eg _ ks.length (by unfold maxLen;omega) hN w hseq).mono ?_);rintro en w' ⟨v,ss,rfl,hS,hrow,_,hb⟩;have e:ss.mergeSort (fun x y=>decide (x<=y))=eK ks:=mergeSort_of_perm hS;have hl:ss.length=(eK ks).length:=by rw[nd];exact hS.length_eq
 rw[e,hl]at hrow;exact⟨v,rfl,hrow,hb⟩
theorem V.fn_inv{Ω:Om}{f:Nat}{cs:List AV}{v:Value}(h:V Ω (.fn f cs) v):∃vs,v=.func (.func f) #[] vs.toArray/\VL Ω cs vs:=by
 cases h with|fn _ _ vs h1 h2=>exact⟨vs,rfl,h1,h2⟩
def Strs(n₀:Nat)(W:World)(sv:Value)(zs:List Str):Prop:=
 ((∃a cap,sv=.slice a 0 cap)/\zs=[])∨∃b off cap,sv=.slice (some ⟨b,off,none⟩) zs.length cap/\b<n₀/\∀j,j<zs.length->W.cell? ⟨b,off+j,none⟩=some (encStr (zs[j]?.getD []))
def upto{α:Type}(f:Nat->α)(k:Nat):List α:=(List.range k).map f
theorem DB{α:Type}(f:Nat->α)(k:Nat):upto f (k+1)=upto f k++[f k]:=by simp[upto,List.range_succ]
theorem xq{α:Type}(f:Nat->α)(k:Nat):(upto f k).length=k:=by simp[upto]
theorem G3(zs:List Str):upto (fun j=>zs[j]?.getD []) zs.length=zs:=by
 apply List.ext_getElem
 ·simp[upto]
 ·intro i h1 h2;simp[upto,h2]
def vM(P:Program)(g:Nat):Prop:=
 ∀(w:World)(b o:Nat)(sv:Value)(zs:List Str),zs.length<=maxLen->w.cell? ⟨b,o,none⟩=some sv->Strs w.heap.size w sv zs->
  eh Fence.wide 2 P g #[.pointer (some ⟨b,o,none⟩)] encStr (fun ss=>ss=zs) zs.length w
theorem V.dropTok{Ω:Om}{τ:Ty}{xs:List (den τ)}{o:Option Nat}{v:Value}(h:V Ω (.lst τ xs o) v):V Ω (.lst τ xs none) v:=by
 cases h with|lstNil=>exact .lstNil τ none (fun _ h=>by cases h)|lstVoid _ a=>exact .lstVoid τ a|lst _ _ _ b off cap vals h1 h2 h3 h4 h5=>exact .lst τ xs none b off cap vals h1 h2 (fun _ h=>by cases h) h4 h5
theorem mA(L:SortL P ρ){g:Nat}(eg:∀args w,(callFunc g args).run P w=.ok (.enter g args) w)(K:vM P g)(zs:List Str)(hN:zs.length *16<=140737488355328)(tok:Option Nat) :
  aF P (ρ.f 6) [.fn g [.ptr 900 0]] [(900,.box (.lst .str zs tok))] ⟨some (zs.length *16<=140737488355328),none,.arr 0 (eK zs).length 1,[(0,.box (.row .str (eK zs)))]⟩:=by
 refine Dz (T:=ρ.t 26) rfl fun w pub e vs hp hv hs=>?_;obtain⟨v1,rfl,h1⟩:=VL.one_inv hv;obtain⟨us,rfl,hus⟩:=h1.fn_inv;obtain⟨u,rfl,hu⟩:=VL.one_inv hus;obtain⟨b,o,len,rfl,he⟩:=hu.ptr_inv;obtain⟨b',o',he',hbox⟩:=hs 900 _ rfl;rw[he]at he';cases he';obtain⟨_,_,_,v,hcell,hvm⟩:=hbox 0 (.lst .str zs tok) rfl
 have hst:Strs w.heap.size w v zs:=by
  cases hvm with
  |lstNil=>exact .inl ⟨⟨_,_,rfl⟩,rfl⟩
  |lstVoid=>exact .inl ⟨⟨_,_,rfl⟩,rfl⟩
  |lst _ _ _ g0 off cap vals h1 h2 h3 h4 h5=>
   rcases N2 zs.length with hz|hz
   ·have:=Kk hz;subst this;exact .inl ⟨⟨_,_,rfl⟩,rfl⟩
   ·have at_:∀j (hj:j<zs.length),w.cell? ⟨g0,off+j,none⟩=some (encStr zs[j]):=by intro j hj;have q:=h4 j zs[j] (by simp[hj]) 0 (.str zs[j]) rfl;have r:=h5 j zs[j] (by simp[hj]) 0 (.str zs[j]) rfl;obtain⟨r1,_⟩:=r.str_inv;have:=q.2;rw[r1]at this;simpa[ab]using this
    exact .inr ⟨g0,off,cap,rfl,aQ (at_ 0 hz),fun j hj=>by rw[at_ j hj];simp[hj]⟩
 refine⟨fun s hs=>?_,?_⟩
 ·have hw:Wf (.lst .str) zs:=⟨_,_,V.dropTok hvm⟩;exact(hw.mem (DA.1 hs)).str
 have hsq:=K w b (o+0) v zs (by unfold maxLen;omega) hcell hst;refine vL L eg hN (w:=w) ?_;intro l J W a1 a2 a3 a4 a5;refine(hsq l J W a1 a2 a3 a4 a5).mono ?_;rintro e W' ⟨h1,xs,rfl,h3⟩;exact⟨h1,xs,.refl _,h3⟩
end Go.AL
end
noncomputable section
namespace Go.AL
variable [Tabs]
open Go.Proofs Go.RowKit Go.Maps Go.Sort Go.Shelf
variable {P:Program} {ρ:Ren}
theorem After.row{w w':World}{pub:Nat->Nat->Prop}{e:Nat->Option CObj}{S:List (Nat×SObj)}
 (hp:kr w pub)(hs:∀id o,al S id=some o->bf ⟨e,w,pub⟩ (fun _ _=>True) id o)(hd:∀id,al S id=none->e id=none)(hi:Inj e)
 {k b:Nat}{c c':AV}(hk:al S k=some (.box c))(he:e k=some (.box b 0 (ae c).length))(hl:(ae c').length=(ae c).length)
 (os:w'.os=w.os)(tape:w'.tape=w.tape)(output:w'.output=w.output)(size:w.heap.size<=w'.heap.size)
 (hblock:∀b',b'<w.heap.size->b'≠b∨(ae c).length=0->w'.heap[b']?=w.heap[b']?)
 (hcell:∀j,(ae c).length<=j->w'.cell? ⟨b,j,none⟩=w.cell? ⟨b,j,none⟩)
 (hkind:w'.shape? b=w.shape? b/\∀o,w'.frozen? ⟨b,o,none⟩=w.frozen? ⟨b,o,none⟩)
 (hval:∀(j:Nat)(c0:AV),(ae c')[j]?=some c0->∃v,w'.cell? ⟨b,j,none⟩=some v/\∀Ω',V Ω' c0 v) :
  After w pub e (al (cd S [(k,.box c')])) w' (fun b o=>pub b o∨False) (fun i=>if k=i then some (.box b 0 (ae c).length)else e i):=by
 obtain⟨b0,off0,he0,hbox⟩:=hs k _ hk;have he0:e k=some (.box b0 off0 (ae c).length):=he0;rw[he]at he0;simp only[Xs,CObj.box.injEq]at he0;obtain⟨rfl,rfl,_⟩:=he0;have inE:∀{o},o<(ae c).length->vK e k b o:=fun h=>⟨_,he,rfl,by omega,by omega⟩
 have outE:∀{b' o},¬vK e k b' o->b'≠b∨(ae c).length<=o:=by
  intro b' o h;rcases Kl o (ae c).length with h'|h'
  ·exact .inl fun e=>h (e ▸ inE h')
  ·exact .inr h'
 have cell:∀b' o,b'<w.heap.size->¬vK e k b' o->w'.cell? ⟨b',o,none⟩=w.cell? ⟨b',o,none⟩:=by
  intro b' o h1 h2;by_cases hb:b'=b
  ·subst hb;rcases outE h2 with h|h
   ·exact absurd rfl h
   ·exact hcell o h
  ·exact aj (hblock b' h1 (.inl hb)) o
 refine After.slot hp hs hd hi (Q:=fun _ _=>False) os tape output size (fun b' h1 h2=>?_) cell (fun b' h1 h2=>?_) (fun b' o h=>?_) (fun _ _ h=>h.elim) (fun c0 h=>?_) (fun b' o h=>?_) (fun _=>?_)
 ·refine hblock b' h1 ?_;rcases outE (h2 0)with h|h
  ·exact .inl h
  ·exact .inr (by omega)
 ·by_cases hb:b'=b
  ·subst hb;exact hkind
  ·have:=hblock b' h1 (.inl hb);exact⟨aW this,fun o=>aN this o⟩
 ·obtain⟨v,hv⟩:=hp b' o h;refine cell b' o (aQ hv) ?_;rintro⟨c1,h1,h2⟩;rw[he]at h1;cases h1;obtain⟨rfl,_,h3⟩:=h2;have hj:o<(ae c).length:=by omega
  have:=(hbox o _ (K9 hj)).2.1;exact this (by simpa using h)
 ·rw[he]at h;cases h;exact⟨rfl,rfl,rfl⟩
 ·exact .inr ⟨_,he,h⟩
 ·refine⟨b,0,by simp[hl],fun j c0 hc=>?_⟩
  have hj:j<(ae c).length:=by
   rw[<-hl];rcases Kl j (ae c').length with q|q
   ·exact q
   ·rw[Kd q]at hc;cases hc
  obtain⟨_,q2,q3,_⟩:=hbox j _ (K9 hj);obtain⟨v,hv,hV⟩:=hval j c0 hc;rw[Lk]at q2 q3⊢;refine⟨.inr ⟨k,_,he,rfl,by omega,by omega⟩,fun h=>?_,?_,v,hv,hV _⟩
  ·rcases h with h|h
   ·exact q2 h
   ·exact h
  ·exact(hkind.2 j).trans q3
theorem xr{α:Type}[Inhabited α](enc:α->Value)(w:World)(b:Nat)(d:Array α)(k:Nat)(h:k≠b∨d.size=0):(putRow enc w b 0 d).heap[k]?=w.heap[k]?:=by
 unfold putRow mapBlock;simp only[Lp];by_cases hk:b=k
 ·subst hk;rcases h with h|h
  ·exact absurd rfl h
  ·simp only[Lf]
   cases hw:w.heap[b]? with
   |none=>rfl
   |some o=>
    simp only[Lx,Xs]
    cases o with
    |cells c e f=>
     simp only[onCells,Obj.cells.injEq,KI,KV];apply Array.ext
     ·simp[putCells]
     ·intro i h1 h2;simp[putCells,h]
    |_=>rfl
 ·rw[Kb hk]
theorem vN{α:Type}[Inhabited α](enc:α->Value)(w:World)(b:Nat)(d:Array α):(putRow enc w b 0 d).shape? b=w.shape? b:=by
 unfold putRow mapBlock World.shape?;simp only[Lp,Lf]
 cases w.heap[b]? with
 |none=>rfl
 |some o=>cases o<;>simp[onCells,putCells]
theorem gh{τ:Ty}(hw:ab τ=1)(xs:List (den τ)):(ae (.row τ xs)).length=xs.length:=by have:=aV τ xs;rw[hw,NM]at this;exact this
theorem kL{τ:Ty}(hw:ab τ=1)(xs:List (den τ))(j:Nat)(x:den τ)(c:AV)(hx:xs[j]?=some x)(hc:(cells τ x)[0]?=some c):(ae (.row τ xs))[j]?=some c:=by have:=fI τ xs j x 0 c hx hc;rw[hw,NM,Ma]at this;exact this
theorem strRow{Ω:Om}{own:Nat->Nat->Prop}{id b:Nat}{ss:List Str}(h:bf Ω own id (.box (.row .str ss))){len:Nat}(he:Ω.e id=some (.box b 0 len)) :
  len=ss.length/\Go.Sort.Holds encStr Ω.w b 0 ss.toArray/\∀s∈ss,s.length<=b6:=by
 obtain⟨b',off,h1,h2⟩:=h;rw[he]at h1;simp only[Xs,CObj.box.injEq]at h1;obtain⟨rfl,rfl,h1⟩:=h1;have at_:∀j (hj:j<ss.length),Ω.w.frozen? ⟨b,0+j,none⟩=false/\Ω.w.cell? ⟨b,0+j,none⟩=some (encStr ss[j])/\ss[j].length<=b6:=by intro j hj;obtain⟨_,_,q3,v,q4,q5⟩:=h2 j _ (kL (τ:=.str) rfl ss j ss[j] (.str ss[j]) (by simp[hj]) rfl);obtain⟨rfl,q6⟩:=q5.str_inv;exact⟨q3,q4,q6⟩
 refine⟨by rw[h1];exact gh (τ:=.str) rfl ss,fun j hj=>?_,fun s hs=>?_⟩
 ·have hj':j<ss.length:=by simpa using hj
  obtain⟨q1,q2,_⟩:=at_ j hj';exact⟨by rw[q2];simp[hj'],q1⟩
 ·obtain⟨j,hj,rfl⟩:=MV hs;exact(at_ j hj).2.2
theorem xt{ss:List Str}{s:Str}(h:s∈Lib.compact ss):s∈ss:=by unfold Lib.compact Lib.compactUpTo at h;obtain⟨j,hj,rfl⟩:=KM.1 h;have:=(L3.1 hj).1;rw[LG]at this;simp[this]
theorem After.strRow{w:World}{pub:Nat->Nat->Prop}{e:Nat->Option CObj}{S:List (Nat×SObj)}
 (hp:kr w pub)(hs:∀id o,al S id=some o->bf ⟨e,w,pub⟩ (fun _ _=>True) id o)(hd:∀id,al S id=none->e id=none)(hi:Inj e)
 {k b len q:Nat}{ss ts:List Str}{gs:Array Obj}(hk:al S k=some (.box (.row .str ss)))(he:e k=some (.box b 0 len))(hl:ts.length=ss.length)(hb:b<w.heap.size)(ht:∀s∈ts,s.length<=b6) :
  After w pub e (al (cd S [(k,.box (.row .str ts))])) (grow (putRow encStr (Sort.ahead w q) b 0 ts.toArray) gs) (fun b o=>pub b o∨False) (fun i=>if k=i then some (.box b 0 (ae (.row .str ss)).length)else e i):=by
 obtain⟨rfl,hH,_⟩:=AL.strRow (hs k _ hk) he;have hsz:(putRow encStr (Sort.ahead w q) b 0 ts.toArray).heap.size=w.heap.size:=by simp
 have old:∀j,j<w.heap.size->(grow (putRow encStr (Sort.ahead w q) b 0 ts.toArray) gs).heap[j]?=(putRow encStr (Sort.ahead w q) b 0 ts.toArray).heap[j]?:=by intro j hj;unfold grow;simp only;rw[Array.getElem?_append_left (by rw[hsz];exact hj)]
 have hpl:=gh (τ:=.str) rfl ss;refine After.row hp hs hd hi hk (by rw[he,hpl]) (by rw[gh rfl,gh rfl,hl]) rfl rfl rfl (by simp[grow]) (fun b' h1 h2=>?_) (fun j hj=>?_) ⟨?_,fun o=>?_⟩ (fun j c0 hc=>?_)
 ·rw[old b' h1,xr encStr (Sort.ahead w q) b ts.toArray b' (by rw[hpl]at h2;simpa[hl]using h2)];rfl
 ·rw[aj (old b hb) j,cell?_putRow_other encStr (Sort.ahead w q) b 0 ts.toArray ⟨b,j,none⟩ (.inr (.inr (by rw[hpl]at hj;simp;omega)))];rfl
 ·rw[aW (old b hb),vN];rfl
 ·rw[aN (old b hb) o,frozen?_putRow];rfl
 ·have hj:j<ts.length:=by
   rw[<-gh (τ:=.str) rfl ts];rcases Kl j (ae (.row .str ts)).length with q|q
   ·exact q
   ·rw[Kd q]at hc;cases hc
  rw[kL (τ:=.str) rfl ts j ts[j] (.str ts[j]) (by simp[hj]) rfl]at hc;cases hc;refine⟨encStr ts[j],?_,fun Ω'=>.str _ (ht _ (Me hj))⟩;rw[aj (old b hb) j];have:=cell?_putRow encStr (Sort.ahead w q) b 0 ss.toArray ts.toArray hH (by simp[hl]) j (by simpa using hj);rw[Lk]at this;rw[this];simp[hj]
theorem tp(L:Lays.n194 P ρ)(n:Nat)(ss:List Str)(hn:n=ss.length) :
  aF P (ρ.f 194) [.arr 900 n 1] [(900,.box (.row .str ss))]
   ⟨some (n=ss.length),none,.arr 900 (Lib.compact ss).length 1,[(900,.box (.row .str (Lib.compact ss++List.replicate (ss.length-(Lib.compact ss).length) [])))]⟩:=by
 subst hn;intro w pub e vs hp ht hv hs hd hi;obtain⟨v,rfl,h1⟩:=VL.one_inv hv;have hcl:(Lib.compact ss).length<=ss.length:=by unfold Lib.compact Lib.compactUpTo;rw[Lr];exact Ld (List.length_filter_le _ _) (by simp)
 cases h1 with
 |arr _ _ _ b len cap a he h2 h3 h4 h5=>
  have he:e 900=some (.box b 0 len):=he;obtain⟨rfl,hH,hlen⟩:=strRow (hs 900 _ rfl) he;have hpl:=gh (τ:=.str) rfl ss;rcases h5 with rfl|⟨rfl,hz,rfl⟩
  ·by_cases h0:ss=[]
   ·subst h0;refine(Any.slices_Compact_string_empty L (some ⟨b,0,none⟩) cap w).mono ?_;rintro en w' ⟨rfl,rfl⟩;refine⟨_,_,fun _ _ _ h=>(by cases h),?_,After.row (c':=.row .str []) hp hs hd hi rfl (show e 900=some (.box b 0 (ae (.row .str [])).length)from he) rfl rfl rfl rfl (Kn _) (fun _ _ _=>rfl) (fun _ _=>rfl) ⟨rfl,fun _=>rfl⟩ (fun j c0 hc=>by simp[ae,flat]at hc)⟩;exact .arr 900 0 1 b (ae (.row .str [])).length cap _ (by simp) (by omega) (by omega) h4 (.inl rfl)
   ·have hpos:0<ss.length:=Ls.2 h0;have hb:b<w.heap.size:=aQ (hH 0 (by simpa using hpos)).1;refine(Any.slices_Compact_string L b 0 cap ss w hH (by unfold b6 at h4;omega) h3).mono ?_;rintro en w' ⟨rfl,q,rfl⟩
    have hA:=After.strRow (q:=q) (gs:=#[]) (ts:=Lib.compact ss++List.replicate (ss.length-(Lib.compact ss).length) []) hp hs hd hi rfl he (by simp;omega) hb (fun s hs'=>by
     rcases KZ.1 hs' with h|h
     ·exact hlen s (xt h)
     ·obtain⟨_,rfl⟩:=NI.1 h;exact Kg _)
    rw[grow_empty]at hA;exact⟨_,_,fun _ _ _ h=>(by cases h),.arr 900 (Lib.compact ss).length 1 b (ae (.row .str ss)).length cap _ (by simp) (by rw[hpl];omega) (by omega) h4 (.inl rfl),hA⟩
  ·have h0:ss=[]:=Kk hz;subst h0;refine(Any.slices_Compact_string_empty L none 0 w).mono ?_;rintro en w' ⟨rfl,rfl⟩;refine⟨_,_,fun _ _ _ h=>(by cases h),?_,After.row (c':=.row .str []) hp hs hd hi rfl (show e 900=some (.box b 0 (ae (.row .str [])).length)from he) rfl rfl rfl rfl (Kn _) (fun _ _ _=>rfl) (fun _ _=>rfl) ⟨rfl,fun _=>rfl⟩ (fun j c0 hc=>by simp[ae,flat]at hc)⟩;exact .arr 900 0 1 b (ae (.row .str [])).length 0 _ (by simp) (by omega) (by omega) h4 (.inr ⟨rfl,rfl,rfl⟩)
end Go.AL
end
noncomputable section
namespace Go.AL
variable [Tabs]
open Go.Proofs Go.RowKit Go.Maps Go.Sort Go.Shelf Go.Lib
variable {P:Program} {ρ:Ren}
theorem gN:∀a b:List UInt8,decide (compareBytes a b<0)=decide (a<b)
 |[],[]=>by simp[compareBytes]
 |[],_::_=>by simp[compareBytes]
 |_::_,[]=>by simp[compareBytes]
 |a::r,b::s=>by
  simp only[compareBytes];by_cases h1:a<b
  ·simp[h1,Lq]
  ·by_cases h2:b<a
   ·have:a≠b:=fun e=>by subst e;exact h1 h2
    simp[h1,h2,Lq,this]
   ·have:a=b:=NN (Nd.1 h2) (Nd.1 h1);subst this;simp only[h1,KP,gN r s];simp[Lq,LR]
end Go.AL
end
noncomputable section
namespace Go.AL
variable [Tabs]
open Go.Proofs Go.Shelf
variable {P:Program} {ρ:Ren}
def JP(gv gk:Nat):Pat:=fun args S=>
 match args,S with
 |[.fn g [.ptr 900 0]],[(900,.box (.lst .str zs _))]=>
  if g=gv then some ⟨some (zs.length *16<=140737488355328),none,.arr 0 (eK zs).length 1,[(0,.box (.row .str (eK zs)))]⟩else none
 |[.fn g [.ptr 900 0]],[(900,.box (.map 901)),(901,.map .str _ m)]=>
  if g=gk then some ⟨some (m.length *16<=140737488355328),none,.arr 0 (eK (m.map (·.1))).length 1,[(0,.box (.row .str (eK (m.map (·.1)))))]⟩else none
 |_,_=>none
def mB(gv:Nat):Pat:=fun args S=>
 match args,S with
 |[.fn g [.ptr 900 0]],[(900,.box (.lst .str zs _))]=>
  if g=gv then some ⟨some (zs.length *16<=140737488355328),none,.arr 0 (eK zs).length 1,[(0,.box (.row .str (eK zs)))]⟩else none
 |_,_=>none
theorem tq{f gv:Nat}(L:SortL P ρ)(hf:ρ.f 6=f)(eg:∀args w,(callFunc gv args).run P w=.ok (.enter gv args) w)(V:vM P gv)(he:aB P f):ag P f (mB gv):=by
 subst hf;intro args S A h hob hkeys;unfold mB at h;split at h
 ·split at h
  ·rename_i e;subst e;cases h;exact⟨he,mA L eg V _ (hob _ rfl) _⟩
  ·cases h
 ·cases h
def mC:Pat:=fun args S=>
 match args,S with
 |[.arr 900 n 1],[(900,.box (.row .str ss))]=>
  some ⟨some (n=ss.length),none,.arr 900 (Lib.compact ss).length 1,[(900,.box (.row .str (Lib.compact ss++List.replicate (ss.length-(Lib.compact ss).length) [])))]⟩
 |_,_=>none
theorem tt{f:Nat}(L:Lays.n194 P ρ)(hf:ρ.f 194=f)(he:aB P f):ag P f mC:=by
 subst hf;intro args S A h hob hkeys;unfold mC at h;split at h
 ·cases h;exact⟨he,tp L _ _ (hob _ rfl)⟩
 ·cases h
end Go.AL
end
noncomputable section
namespace Go.AL
open Go.Lib
theorem xu{l:List Str}(hs:l.Pairwise (·<= ·)):(Lib.compact l).length=l.length↔l.Nodup:=by
 unfold Lib.compact Lib.compactUpTo;rw[Lr];have e:((List.range l.length).filter (keeps l.toArray)).length=l.length↔∀j,j<l.length->keeps l.toArray j=true:=by have h:=List.length_filter_eq_length_iff (p:=keeps l.toArray) (l:=List.range l.length);rw[List.length_range]at h;rw[h];simp
 rw[e,LP,Lw];rw[Lw]at hs;constructor
 ·intro h i j hi hj hij eq;have hk:=h j hj;have hj1:j-1<l.length:=by omega
  have h1:l[i]<=l[j-1]:=by
   rcases Kl i (j-1)with q|q
   ·exact hs i (j-1) hi hj1 q
   ·have:i=j-1:=by omega
    subst this;exact List.le_refl _
  have h2:l[j-1]<=l[j]:=hs (j-1) j hj1 hj (by omega);have h3:l[j-1]=l[j]:=MR h2 (by rw[<-eq];exact h1);unfold keeps at hk;simp[hj,hj1,h3]at hk;omega
 ·intro h j hj;unfold keeps;rcases N2 j with q|q
  ·simp[q]
  ·have hj1:j-1<l.length:=by omega
   have:=h (j-1) j hj1 hj (by omega);simp[hj,hj1];exact .inr fun e=>this e.symm
theorem vO(l:List Str):(eK l).Pairwise (·<= ·):=by
 have tr:∀a b c:Str,decide (a<=b)=true->decide (b<=c)=true->decide (a<=c)=true:=fun a b c h1 h2=>by simp only[Kc]at *;exact List.le_trans h1 h2
 have tot:∀a b:Str,(decide (a<=b)||decide (b<=a))=true:=fun a b=>by simp only[L6,Kc];exact List.le_total _ _
 exact(List.pairwise_mergeSort tr tot l).imp fun h=>by simpa using h
theorem xw{l:List Str}:(eK l).Nodup↔l.Nodup:=(List.mergeSort_perm l _).nodup_iff
theorem fM(l:List Str):(Lib.compact (eK l)).length=l.length↔l.Nodup:=by
 letI:=vm
 rw[<-nd l,xu (vO l),xw]
end Go.AL
end
section
namespace Go.Pd
open Go.AL
def bZ(c:Int):Bool:=decide (97<=c)&&decide (c<=122)
def cm(c:Int):Bool:=decide (65<=c)&&decide (c<=90)
def bS(c:Int):Bool:=decide (48<=c)&&decide (c<=57)
def ep(c:Int):Bool:=bZ c||cm c||bS c||decide (c=95)
def bI(b:UInt8):Int:=(b.toNat:Int)
def cW(first:Int->Bool)(s:Str):Bool:=!decide (s=[])&&decide (s.length<=24)&&first (bI (s.getD 0 0))&&s.all fun c=>ep (bI c)
def str(s:String):Str:=s.toUTF8.data.toList
def IX:List Str:=[[109,111,100,117,108,101],[105,109,112,111,114,116],[112,105,110],[114,97,110,103,101],[116,121,112,101],[111,112,97,113,117,101],[108,101,116],[105,110],[101,120,112,111,114,116],[102,117,110],[105,102],[116,104,101,110],[101,108,115,101],[99,97,115,101],[111,102],[97,115],[110,101,119],[114,97,119],[116,114,117,101],[102,97,108,115,101]]
def nf(s:Str):Bool:=decide (s∈IX)
def au(s:Str):Bool:=cW bZ s&&!nf s
def bO(s:Str):Bool:=cW cm s
mutual
def sz:Shape->Nat
 |⟨_,_,_,_,ps⟩=>szL ps+1
def szL:List Shape->Nat
 |[]=>0
 |p::r=>sz p+szL r
end
mutual
def eqS:Shape->Shape->Bool
 |⟨k,p,n,ns,ps⟩,⟨k',p',n',ns',ps'⟩=>decide (k=k')&&decide (p=p')&&decide (n=n')&&decide (ns=ns')&&eqL ps ps'
def eqL:List Shape->List Shape->Bool
 |[],[]=>true
 |a::r,b::s=>eqS a b&&eqL r s
 |_,_=>false
end
mutual
def allS(f:Shape->Bool):Shape->Bool
 |⟨k,p,n,ns,ps⟩=>f ⟨k,p,n,ns,ps⟩&&allL f ps
def allL(f:Shape->Bool):List Shape->Bool
 |[]=>true
 |p::r=>allS f p&&allL f r
end
mutual
def deepS:Shape->Int->Int
 |⟨_,_,_,_,ps⟩,l=>deepL ps (l+1) l
def deepL:List Shape->Int->Int->Int
 |[],_,d=>d
 |p::r,l,d=>deepL r l (max d (deepS p l))
end
def kM(s:Str):Bool:=decide (s=[73,110,116])||decide (s=[66,111,111,108])||decide (s=[84,101,120,116])||decide (s=[65,110,121])
theorem iP(a:Shape):sz a=szL a.parts+1:=by cases a;rfl
theorem eZ:∀{l:List Shape} {a:Shape},a∈l->sz a<=szL l
 |b::r,a,h=>by
  simp only[szL];rcases Ks.1 h with rfl|h
  ·omega
  ·have:=eZ h;omega
theorem pZ:∀{a b:List Shape},a.length≠b.length->eqL a b=false
 |[],[],h=>absurd rfl h
 |[],_::_,_=>rfl
 |_::_,[],_=>rfl
 |a::r,b::s,h=>by simp only[eqL];rw[pZ (fun e=>h (by simp[e]))];simp
def dC(s:Shape):Bool:=decide (s.names.length=s.parts.length)&&s.names.all au&&decide s.names.Nodup
def bc(s:Shape):Bool:=
 let bare:=decide (s.pkg=[])&&decide (s.name=[])
 if s.kind=1∨s.kind=2∨s.kind=3∨s.kind=4 then bare&&decide (s.names=[])&&decide (s.parts=[])
 else if s.kind=5 then bare&&decide (s.names=[])&&decide (s.parts.length=1)
 else if s.kind=6∨s.kind=7 then bare&&dC s
 else if s.kind=8 then bare&&decide (s.names=[])&&!decide (s.parts=[])
 else if s.kind=9 then bO s.name&&(decide (s.pkg=[])&&!kM s.name||au s.pkg)&&decide (s.names=[])&&decide (s.parts=[])
 else if s.kind=10 then bO s.name&&au s.pkg&&decide (s.names=[])&&decide (s.parts=[])
 else false
theorem fa(a:Shape):0<sz a:=by rw[iP];omega
theorem Cz:∀(l:List Shape),l.length<=szL l
 |[]=>Kg _
 |a::r=>by have:=Cz r;have:=fa a;simp only[szL,Kq];omega
theorem iQ(f:Shape->Bool)(s:Shape):allS f s=(f s&&allL f s.parts):=by cases s;rfl
theorem bQ{α:Type}(l:List α)(k:Nat)(d:α)(h:k<l.length):l.take (k+1)=l.take k++[l.getD k d]:=by rw[List.take_add_one,Ke,K9 h];rfl
end Go.Pd
end
section
namespace Go.Pd
open Go.AL
def bH(s:Shape):Int:=if 400<sz s then 3 else if 40<deepS s 1 then 91 else if allS bc s=true then 0 else 70
def IY(t:Nat)(c:Int):Ans:=⟨some (0<=c/\c<=400),some (decide (400<c+1),.iface t (.agg []),[(900,.box (.int .i64 (c+1)))]),.tup [],[(900,.box (.int .i64 (c+1)))]⟩
def vP(t:Nat):Pat:=fun args S=>
 match args,S with
 |[.ptr 900 0],[(900,.box (.int .i64 c))]=>some (IY t c)
 |_,_=>none
theorem Al[Tabs]{P:Program}{f t:Nat}(he:aB P f)(h:∀c,0<=c/\c<=400->aF P f [.ptr 900 0] [(900,.box (.int .i64 c))] (IY t c)):ag P f (vP t):=by
 intro args S A hA ho _;unfold vP at hA;split at hA
 ·simp only[Xs]at hA;subst hA;exact⟨he,h _ (ho _ rfl)⟩
 ·cases hA
def G4(t:Nat)(s:Shape)(l c:Int)(q:Prop):Ans:=
 ⟨some (q/\0<=c/\c<=400/\1<=l/\l<=c+1),some (decide (400<c+(sz s:Int)),.iface t (.agg []),[(900,.box (.int .i64 401))]),.int .i64 (deepS s l),[(900,.box (.int .i64 (c+(sz s:Int))))]⟩
def q8(t g:Nat)(n:Nat):Pat:=fun args S=>
 match args,S with
 |[a,.int .i64 l,.fn g' [.ptr 900 0]],[(900,.box (.int .i64 c))]=>
  (match Nat.beq g' g,arg (.st .shape) a with
  |true,some s=>some (G4 t s l c (sz s<=n))
  |_,_=>none)
 |_,_=>none
theorem rK[Tabs]{P:Program}{f t g n:Nat}(he:aB P f)(h:∀s l c,Wf (.st .shape) s->sz s<=n->(0<=c/\c<=400/\1<=l/\l<=c+1)->aF P f [.st .shape s,.int .i64 l,.fn g [.ptr 900 0]] [(900,.box (.int .i64 c))] (G4 t s l c (sz s<=n))) :
  ag P f (q8 t g n):=by
 intro args S A hA ho _;unfold q8 at hA;split at hA
 ·split at hA
  ·rename_i s hb hs;simp only[Xs]at hA;subst hA;have e:=Kz hb;subst e;obtain⟨h1,h2⟩:=ho _ rfl;exact⟨he,aF.args (.cons (Rd.arg hs) (.cons (Rd.refl _) (.cons (Rd.refl _) .nil))) (aF.wf fun hw=>h _ _ _ hw.one h1 h2)⟩
  ·cases hA
 ·cases hA
theorem lS:∀(l:List Shape)(k:Nat)(d:Shape),k<l.length->szL (l.take (k+1))=szL (l.take k)+sz (l.getD k d)
 |a::r,0,d,_=>by simp[szL]
 |a::r,k+1,d,h=>by have:=lS r k d (by simpa using h);simp only[Lv,szL,MW]at this⊢;omega
theorem xx(l:List Shape)(k:Nat):szL (l.take k)<=szL l:=by
 induction l generalizing k with
 |nil=>simp[szL]
 |cons a r ih=>
  cases k with|zero=>simp[szL]|succ k=>have:=ih k;simp only[Lv,szL];omega
theorem iR{s:Shape}(h:bH s=0):sz s<=400/\deepS s 1<=40/\allS bc s=true:=by
 unfold bH at h;split at h
 ·omega
 split at h
 ·omega
 split at h
 ·exact⟨by omega,by omega,by assumption⟩
 ·omega
end Go.Pd
end
section
namespace Go.Pd
open Go.AL
abbrev PS:=Par
def lT(s:Str):Int:=s.foldl (fun n c=>10 *n+((c.toNat:Int)-48)) 0
end Go.Pd
end
section
namespace Go.Pd
open Go.AL
def rL(t:Str):Prop:=t≠[]/\t.length<=15/\∀c∈t,48<=c.toNat/\c.toNat<=57
end Go.Pd
end
section
namespace Go.AL
open Go.Proofs Go.Shelf Go.RowKit Go.Pd
theorem pe:∀(l:Str)(acc:Nat),(∀c∈l,48<=c.toNat/\c.toNat<=57)->∃m:Nat,Lib.decFrom acc l=some m/\(m:Int)=l.foldl (fun n c=>10 *n+((c.toNat:Int)-48)) (acc:Int)/\m<(acc+1) *10 ^ l.length
 |[],acc,_=>⟨acc,rfl,rfl,by simp⟩
 |c::r,acc,h=>by
  obtain⟨h1,h2⟩:=h c (KK ..);obtain⟨m,e1,e2,e3⟩:=pe r (acc *10+(c.toNat-48)) (fun d hd=>h d (Kx _ hd));refine⟨m,?_,?_,?_⟩
  ·simp only[Lib.decFrom,Lib.digitVal,h1,h2,and_self,Lf];exact e1
  ·rw[e2,MY];congr 1;omega
  ·refine NJ e3 ?_;rw[Kq,Nat.pow_succ,<-Nat.mul_assoc,Nat.mul_right_comm];exact L1 _ (by omega)
theorem G5{t:Str}(h:rL t):Lib.atoi t=some (lT t)/\0<=lT t/\lT t<1000000000000000:=by
 obtain⟨h1,h2,h3⟩:=h;obtain⟨m,e1,e2,e3⟩:=pe t 0 h3;have e4:(m:Int)=lT t:=e2;refine⟨?_,by omega,?_⟩
 ·cases t with
  |nil=>exact absurd rfl h1
  |cons c r=>
   have hc:=h3 c (KK ..);have n1:(c ==45)=false:=by rw[M8];rintro rfl;simp at hc
   have n2:(c ==43)=false:=by rw[M8];rintro rfl;simp at hc
   simp only[Lib.atoi,n1,n2,Lg,KP,Lib.decNat,List.isEmpty_cons,e1,Lx,e4]
 ·have:m<10 ^ t.length:=by simpa using e3
  have h10:10 ^ t.length<=10 ^ 15:=Nat.pow_le_pow_right (by decide) h2;have:m<1000000000000000:=NJ this h10;omega
variable [Tabs] {P:Program} {ρ:Ren}
theorem After.below{w w':World}{pub:Nat->Nat->Prop}{e:Nat->Option CObj}(hp:kr w pub)(hd:∀id,e id=none)(hb:Below w.heap.size w w'):After w pub e (al (cd [] [])) w' pub e where
 os:=hb.os
 tape:=hb.tape
 output:=hb.output
 size:=hb.size
 block b h _:=hb.block b h
 cell b o h _:=aj (hb.block b h) o
 kind b h _:=⟨aW (hb.block b h),fun o=>aN (hb.block b h) o⟩
 ext:=⟨fun _ c h=>⟨c,h,CLe.refl c⟩,fun _ _ h=>h,fun b o h=>by obtain⟨v,hv⟩:=hp b o h;exact aj (hb.block b (aQ hv)) o⟩
 fresh b o h:=.inl h
 ok b o h:=by obtain⟨v,hv⟩:=hp b o h;exact⟨v,(aj (hb.block b (aQ hv)) o).trans hv⟩
 slots id o h:=by simp[cd,aR,aJ]at h
 dom id _:=hd id
 inj i j c d b o h:=by rw[hd i]at h;cases h
theorem Am(L:Lays.n172 P ρ)(t:Str)(h:rL t):aF P (ρ.f 172) [.str t] [] ⟨some (rL t),none,.tup [.int .i64 (lT t),.nilif],[]⟩:=by intro w pub e vs hp ht hv hs hd hi;obtain⟨v,rfl,h1⟩:=VL.one_inv hv;obtain⟨rfl,hl⟩:=h1.str_inv;obtain⟨a1,a2,a3⟩:=G5 h;refine(Any.strconv_Atoi L ⟨t.toArray⟩ (lT t) (by have:=h.2.1;show t.toArray.size<=18;simp;omega) (by simpa using a1) w).mono ?_;rintro en w' ⟨rfl,ty,rfl⟩;refine⟨pub,e,?_⟩;refine And.intro (fun b pv u h=>by cases h) (And.intro ?_ (After.below hp (fun id=>hd id rfl) (Lib.bytesWorld_below w _ _)));have b1:inR .i64 (lT t):=aO (by omega) (by omega);exact V.of_tup (VL.cons (.int _ _ b1.1 b1.2) (VL.cons .nilif .nil))
def Ib:Pat:=p1 .str fun t=>⟨some (rL t),none,.tup [.int .i64 (lT t),.nilif],[]⟩
theorem Ao{f:Nat}(L:Lays.n172 P ρ)(hf:ρ.f 172=f)(he:aB P f):ag P f Ib:=by subst hf;exact aL he fun t _ ho=>Am L t (ho _ rfl)
end Go.AL
end
section
namespace Go.Pd
open Go.AL
mutual
def szT:Trm->Nat
 |⟨_,_,_,_,_,_,_,ps,_⟩=>szTL ps+1
def szTL:List Trm->Nat
 |[]=>0
 |p::r=>szT p+szTL r
end
mutual
def countT:Trm->Int->Int×Int
 |⟨_,_,_,_,_,_,_,ps,_⟩,m=>((countL ps m 1 0).1,(countL ps m 1 0).2+1)
def countL:List Trm->Int->Int->Int->Int×Int
 |[],_,n,d=>(n,d)
 |p::r,m,n,d=>if m<n then(n,d)else countL r m (n+(countT p (m-n)).1) (max d (countT p (m-n)).2)
end
theorem DC(t:Trm)(m:Int):countT t m=((countL t.parts m 1 0).1,(countL t.parts m 1 0).2+1):=by cases t;rw[countT]
theorem gi(t:Trm):szT t=szTL t.parts+1:=by cases t;rw[szT]
theorem eo(t:Trm):1<=szT t:=by rw[gi];omega
mutual
theorem countT_bound:∀(t:Trm)(m:Int),0<=m->1<=(countT t m).1/\(countT t m).1<=m+1/\1<=(countT t m).2/\(countT t m).2<=(countT t m).1
 |⟨k,g,q,z,ns,vs,ss,ps,pp⟩,m,hm=>by have h:=countL_bound ps m 1 0 (by omega) (by omega) (by omega) (by omega);rw[countT];exact⟨h.1,h.2.1,by show 1<=(countL ps m 1 0).2+1;omega,by show(countL ps m 1 0).2+1<=_;omega⟩
theorem countL_bound:∀(l:List Trm)(m n d:Int),1<=n->n<=m+1->0<=d->d+1<=n->1<=(countL l m n d).1/\(countL l m n d).1<=m+1/\0<=(countL l m n d).2/\(countL l m n d).2+1<=(countL l m n d).1
 |[],m,n,d,h1,h2,h3,h4=>by rw[countL];exact⟨h1,h2,h3,h4⟩
 |p::r,m,n,d,h1,h2,h3,h4=>by
  rw[countL];split
  ·exact⟨h1,h2,h3,h4⟩
  ·have h:=countT_bound p (m-n) (by omega);exact countL_bound r m _ _ (by omega) (by omega) (by omega) (by omega)
end
theorem eV:∀{l:List Trm} {t:Trm},t∈l->szT t<=szTL l
 |p::r,t,h=>by
  rw[szTL];rcases Ks.1 h with e|e
  ·subst e;omega
  ·have:=eV e;omega
def b9{α:Type}(F:α->Bool):List α->Nat->Int
 |[],_=>-1
 |x::r,k=>if F x=true then b9 F r (k+1)else(k:Int)
theorem iA{α:Type}(F:α->Bool):∀(l:List α)(k:Nat),decide (0<=b9 F l k)=!l.all F
 |[],_=>rfl
 |x::r,k=>by
  rw[b9,KR];by_cases h:F x=true
  ·rw[Kf h,iA F r (k+1),h];rfl
  ·rw[Kb h];have:F x=false:=by simpa using h
   rw[this];simp
def ao(s:Shape):Bool:=!decide (s.kind=10)
theorem rM(f:Shape->Bool):∀l:List Shape,allL f l=l.all (allS f)
 |[]=>rfl
 |p::r=>by rw[KR,<-rM f r];rfl
end Go.Pd
end
section
namespace Go.AL
variable [Tabs]
section
variable {P:Program} {f:Nat}
def pfc(τ:Ty)(n g:Nat)(F:den τ->Ans):Pat
 |[a,.fn f [.ptr 900 0]],[(900,.box (.fn h []))]=>(match Nat.beq f n,Nat.beq h g,arg τ a with|true,true,some a=>some (F a)|_,_,_=>none)
 |_,_=>none
theorem kN{τ:Ty}{n g:Nat}{F:den τ->Ans}(he:aB P f)(h:∀x,Wf τ x->(∀q,(F x).ob=some q->q)->aF P f [inj τ x,.fn n [.ptr 900 0]] [(900,.box (.fn g []))] (F x)):ag P f (pfc τ n g F):=by
 intro args S A hA ho _;unfold pfc at hA;split at hA
 ·split at hA
  ·rename_i hb hc hx;simp only[Xs]at hA;subst hA;have e:=Kz hb;subst e;have e:=Kz hc;subst e;exact⟨he,aF.args (.cons (Rd.arg hx) (.cons (Rd.refl _) .nil)) (aF.wf fun hw=>h _ hw.one ho)⟩
  ·cases hA
 ·cases hA
def pcl(τ:Ty)(g:Nat)(F:den τ->Ans):Pat
 |[a,.ptr 900 0],[(900,.box (.fn h []))]=>(match Nat.beq h g,arg τ a with|true,some a=>some (F a)|_,_=>none)
 |_,_=>none
theorem vQ{τ:Ty}{g:Nat}{F:den τ->Ans}(he:aB P f)(h:∀x,Wf τ x->(∀q,(F x).ob=some q->q)->aF P f [inj τ x,.ptr 900 0] [(900,.box (.fn g []))] (F x)):ag P f (pcl τ g F):=by
 intro args S A hA ho _;unfold pcl at hA;split at hA
 ·split at hA
  ·rename_i hc hx;simp only[Xs]at hA;subst hA;have e:=Kz hc;subst e;exact⟨he,aF.args (.cons (Rd.arg hx) (.cons (Rd.refl _) .nil)) (aF.wf fun hw=>h _ hw.one ho)⟩
  ·cases hA
 ·cases hA
end
end Go.AL
end
section
namespace Go.Pd
open Go.AL
def cut(s:Str)(a b:Int):Str:=(s.take b.toNat).drop a.toNat
def pg(r:Str)(k:Nat):Bool:=decide (k<r.length)&&decide ((r.getD k 0).toNat/64=2)
def pF(r:Str)(k:Nat):Nat:=(r.getD k 0).toNat%64
def q9(c:Nat):Bool:=decide (c<1114112)&&!(decide (55296<=c)&&decide (c<57344))
def iB:Str->Nat
 |[]=>0
 |b::r=>
  if b.toNat<128 then 1
  else if b.toNat/32=6/\pg r 0=true then(if 128<=b.toNat%32 *64+pF r 0 then 2 else 0)
  else if b.toNat/16=14/\pg r 0=true/\pg r 1=true then
   (if 2048<=b.toNat%16 *4096+pF r 0 *64+pF r 1/\q9 (b.toNat%16 *4096+pF r 0 *64+pF r 1)=true then 3 else 0)
  else if b.toNat/8=30/\pg r 0=true/\pg r 1=true/\pg r 2=true then
   (if 65536<=b.toNat%8 *262144+pF r 0 *4096+pF r 1 *64+pF r 2/\q9 (b.toNat%8 *262144+pF r 0 *4096+pF r 1 *64+pF r 2)=true then 4 else 0)
  else 0
def jm:Nat->Str->Nat->Option Nat
 |0,_,_=>none
 |f+1,x,k=>if x=[]then none else if iB x=0 then some k else jm f (x.drop (iB x)) (k+iB x)
def kO(x:Str):Option Nat:=jm x.length x 0
structure SC where
 pos:Int
 out:List Tokn
 err:Int
 fat:Int
def splitB(c:UInt8):Str->List Str
 |[]=>[[]]
 |b::r=>if b=c then[]::splitB c r else match splitB c r with|[]=>[[b]]|p::ps=>(b::p)::ps
def aM(s:Str):Bool:=!decide (s=[])&&s.all fun c=>bS (bI c)
def eL(c:Int):Bool:=bS c||bZ c||cm c||decide (c=45)
def ca(s:Str):Bool:=!decide (s=[])&&!(aM s&&decide (bI (s.getD 0 0)=48)&&!decide (s=[48]))&&s.all fun c=>eL (bI c)
def bq(v:Vers):Int:=
 if v.major<0∨999999<v.major∨v.minor<0∨999999<v.minor∨v.patch<0∨999999<v.patch then 40
 else if 24<v.pre.length then 40 else if v.pre=[]then 0 else if(splitB 46 v.pre).all ca=true then 0 else 40
def j9(s:Str):Str:=s.takeWhile fun b=>!decide (b=45)
def mD(s:Str):Str:=s.drop ((j9 s).length+1)
def om(s:Str):Bool:=decide ((j9 s).length<s.length)
end Go.Pd
end
section
namespace Go.Pd
open Go.AL
theorem IZ(b:UInt8):0<=bI b/\bI b<=255:=by have:=b.toNat_lt;unfold bI;omega
end Go.Pd
namespace Go.Pd
open Go.AL
def pG:Str:=[48,49,50,51,52,53,54,55,56,57]
def lU(b:UInt8):Bool:=bS (bI b)
def lV(s:Str):Str:=(s.reverse.dropWhile lU).reverse.dropWhile lU
def G6(s:Str)(c:Int):Int:=b9 (fun b=>!decide (bI b=c)) s 0
def jO(s:Str):Nat×Nat:=if s=[]then(65533,0)else Lib.decodeN s.length (s.getD 0 0).toNat (s.getD 1 0).toNat (s.getD 2 0).toNat (s.getD 3 0).toNat
theorem lW{p:UInt8->Bool}:∀{l:Str},l.dropWhile p=[]↔l.all p=true
 |[]=>by simp
 |b::r=>by
  rw[M9];split
  ·rename_i h;rw[lW,KR,h,KC]
  ·rename_i h;simp[h]
theorem lX{p:UInt8->Bool}:∀(l:Str),(l.dropWhile p).all p=l.all p
 |[]=>rfl
 |b::r=>by
  rw[M9];split
  ·rename_i h;rw[lX r,KR,h,KC]
  ·rfl
theorem DD(s:Str):lV s=[]↔s.all lU=true:=by unfold lV;rw[lW,List.all_reverse,lX,List.all_reverse]
theorem G7(s:Str):(lV s).length<=s.length:=by unfold lV;have h1:=(List.dropWhile_sublist (p:=lU) (l:=(s.reverse.dropWhile lU).reverse)).length_le;have h2:=(List.dropWhile_sublist (p:=lU) (l:=s.reverse)).length_le;rw[List.length_reverse]at h1 h2;omega
def kP(n b0 b1 b2 b3:Nat):Nat:=
 if b0<128 then 1
 else if b0/32=6/\(1<n/\b1/64=2)then(if b0%32 *64+b1%64≥128 then 2 else 0)
 else if b0/16=14/\(1<n/\b1/64=2)/\(2<n/\b2/64=2)then
  (if b0%16 *4096+b1%64 *64+b2%64≥2048/\(b0%16 *4096+b1%64 *64+b2%64<55296∨(57344<=b0%16 *4096+b1%64 *64+b2%64/\b0%16 *4096+b1%64 *64+b2%64<=1114111))then 3 else 0)
 else if b0/8=30/\(1<n/\b1/64=2)/\(2<n/\b2/64=2)/\(3<n/\b3/64=2)then
  (if b0%8 *262144+b1%64 *4096+b2%64 *64+b3%64≥65536/\(b0%8 *262144+b1%64 *4096+b2%64 *64+b3%64<55296∨(57344<=b0%8 *262144+b1%64 *4096+b2%64 *64+b3%64/\b0%8 *262144+b1%64 *4096+b2%64 *64+b3%64<=1114111))then 4 else 0)
 else 0
theorem xy(n b0 b1 b2 b3:Nat)(h1:b1<256)(h2:b2<256)(h3:b3<256)(h0:b0<256)(hn:1<=n) :
  ((Lib.decodeN n b0 b1 b2 b3).1=65533/\(Lib.decodeN n b0 b1 b2 b3).2=1↔kP n b0 b1 b2 b3=0)/\(kP n b0 b1 b2 b3≠0->(Lib.decodeN n b0 b1 b2 b3).2=kP n b0 b1 b2 b3)/\
  (Lib.decodeN n b0 b1 b2 b3).1<=1114111/\1<=(Lib.decodeN n b0 b1 b2 b3).2/\(Lib.decodeN n b0 b1 b2 b3).2<=n:=by
 unfold Lib.decodeN kP;by_cases c1:b0<128
 ·simp only[Kf c1];refine⟨⟨fun e=>?_,fun e=>?_⟩,fun e=>?_,?_,?_,?_⟩<;>first|omega|exact⟨rfl,rfl⟩|exact Xr|exact(e rfl).elim|exact e.elim|exact(e trivial).elim|simp only at *
 simp only[Kb c1];by_cases c2:b0/32=6/\(1<n/\b1/64=2)
 ·simp only[Kf c2];by_cases d:b0%32 *64+b1%64≥128
  ·simp only[Kf d];refine⟨⟨fun e=>?_,fun e=>?_⟩,fun e=>?_,?_,?_,?_⟩<;>first|omega|exact⟨rfl,rfl⟩|exact Xr|exact(e rfl).elim|exact e.elim|exact(e trivial).elim|simp only at *
  ·simp only[Kb d];refine⟨⟨fun e=>?_,fun e=>?_⟩,fun e=>?_,?_,?_,?_⟩<;>first|omega|exact⟨rfl,rfl⟩|exact Xr|exact(e rfl).elim|exact e.elim|exact(e trivial).elim|simp only at *
 simp only[Kb c2];by_cases c3:b0/16=14/\(1<n/\b1/64=2)/\(2<n/\b2/64=2)
 ·simp only[Kf c3];by_cases d:b0%16 *4096+b1%64 *64+b2%64≥2048/\(b0%16 *4096+b1%64 *64+b2%64<55296∨(57344<=b0%16 *4096+b1%64 *64+b2%64/\b0%16 *4096+b1%64 *64+b2%64<=1114111))
  ·simp only[Kf d];refine⟨⟨fun e=>?_,fun e=>?_⟩,fun e=>?_,?_,?_,?_⟩<;>first|omega|exact⟨rfl,rfl⟩|exact Xr|exact(e rfl).elim|exact e.elim|exact(e trivial).elim|simp only at *
  ·simp only[Kb d];refine⟨⟨fun e=>?_,fun e=>?_⟩,fun e=>?_,?_,?_,?_⟩<;>first|omega|exact⟨rfl,rfl⟩|exact Xr|exact(e rfl).elim|exact e.elim|exact(e trivial).elim|simp only at *
 simp only[Kb c3];by_cases c4:b0/8=30/\(1<n/\b1/64=2)/\(2<n/\b2/64=2)/\(3<n/\b3/64=2)
 ·simp only[Kf c4];by_cases d:b0%8 *262144+b1%64 *4096+b2%64 *64+b3%64≥65536/\(b0%8 *262144+b1%64 *4096+b2%64 *64+b3%64<55296∨(57344<=b0%8 *262144+b1%64 *4096+b2%64 *64+b3%64/\b0%8 *262144+b1%64 *4096+b2%64 *64+b3%64<=1114111))
  ·simp only[Kf d];refine⟨⟨fun e=>?_,fun e=>?_⟩,fun e=>?_,?_,?_,?_⟩<;>first|omega|exact⟨rfl,rfl⟩|exact Xr|exact(e rfl).elim|exact e.elim|exact(e trivial).elim|simp only at *
  ·simp only[Kb d];refine⟨⟨fun e=>?_,fun e=>?_⟩,fun e=>?_,?_,?_,?_⟩<;>first|omega|exact⟨rfl,rfl⟩|exact Xr|exact(e rfl).elim|exact e.elim|exact(e trivial).elim|simp only at *
 simp only[Kb c4];refine⟨⟨fun e=>?_,fun e=>?_⟩,fun e=>?_,?_,?_,?_⟩<;>first|omega|exact⟨rfl,rfl⟩|exact Xr|exact(e rfl).elim|exact e.elim|exact(e trivial).elim|simp only at *
theorem xz(c:Nat):q9 c=true↔(c<55296∨(57344<=c/\c<=1114111)):=by unfold q9;simp only[Ka,Kc,Ko,Bool.and_eq_false_iff,KD];omega
theorem DE(r:Str)(k:Nat):pg r k=true↔(k+1<r.length+1/\(r.getD k 0).toNat/64=2):=by unfold pg;simp only[Ka,Kc];omega
theorem G8(b:UInt8)(r:Str):iB (b::r)=kP (r.length+1) b.toNat (r.getD 0 0).toNat (r.getD 1 0).toNat (r.getD 2 0).toNat:=by unfold iB kP pF;simp only[DE,xz]
theorem rN{s:Str}(h:s≠[]):((jO s).1=65533/\(jO s).2=1↔iB s=0)/\(iB s≠0->(jO s).2=iB s)/\(jO s).1<=1114111/\1<=(jO s).2/\(jO s).2<=s.length:=by
 cases s with
 |nil=>exact absurd rfl h
 |cons b r=>
  have e:jO (b::r)=Lib.decodeN (r.length+1) b.toNat (r.getD 0 0).toNat (r.getD 1 0).toNat (r.getD 2 0).toNat:=by unfold jO;rw[Kb h];rfl
  rw[e,G8,Kq];exact xy _ _ _ _ _ (r.getD 0 0).toNat_lt (r.getD 1 0).toNat_lt (r.getD 2 0).toNat_lt b.toNat_lt (by omega)
theorem rO:∀(f g:Nat)(x:Str)(k:Nat),x.length<=f->x.length<=g->jm f x k=jm g x k
 |0,0,_,_,_,_=>rfl
 |0,g+1,x,k,h,_=>by have e:x=[]:=Kk (by omega);subst e;simp[jm]
 |f+1,0,x,k,_,h=>by have e:x=[]:=Kk (by omega);subst e;simp[jm]
 |f+1,g+1,x,k,h1,h2=>by
  simp only[jm];split
  ·rfl
  ·rename_i hx;split
   ·rfl
   ·rename_i hn;have hl:(x.drop (iB x)).length<x.length:=by rw[LY];have:=Ls.2 hx;omega
    exact rO f g _ _ (by omega) (by omega)
def kQ(s:Str)(a:Nat):Option Nat:=jm s.length (s.drop a) a
theorem Ap(s:Str):kQ s 0=kO s:=rfl
theorem DF{s:Str}{a:Nat}(h:s.length<=a):kQ s a=none:=by unfold kQ;rw[LD h];cases s.length<;>simp[jm]
theorem DG{s:Str}{a:Nat}(h:a<s.length)(hb:iB (s.drop a)=0):kQ s a=some a:=by
 unfold kQ;obtain⟨n,hn⟩:∃n,s.length=n+1:=⟨s.length-1,by omega⟩;have hx:s.drop a≠[]:=by intro e;have:=Lu List.length e;simp at this;omega
 rw[hn,jm,Kb hx,Kf hb]
theorem Aq{s:Str}{a:Nat}(h:a<s.length)(hb:iB (s.drop a)≠0):kQ s a=kQ s (a+iB (s.drop a)):=by
 unfold kQ;obtain⟨n,hn⟩:∃n,s.length=n+1:=⟨s.length-1,by omega⟩;have hx:s.drop a≠[]:=by intro e;have:=Lu List.length e;simp at this;omega
 rw[hn,jm,Kb hx,Kb hb,List.drop_drop];refine rO _ _ _ _ ?_ ?_<;>(rw[LY];omega)
end Go.Pd
namespace Go.Pd
open Go.AL
end Go.Pd
namespace Go.Pd
open Go.AL
theorem kR(c:Int):eL c=true↔(48<=c/\c<=57)∨(97<=c/\c<=122)∨(65<=c/\c<=90)∨c=45:=by unfold eL bS bZ cm;simp only[L6,Ka,Kc];omega
theorem jn{s:Str}(h:s≠[])(hz:(aM s&&decide (bI (s.getD 0 0)=48)&&!decide (s=[48]))=false):ca s=s.all fun c=>eL (bI c):=by unfold ca;rw[hz,Xf h];simp
end Go.Pd
namespace Go.Pd
open Go.AL
theorem cN(c:UInt8):∀s:Str,(splitB c s).length<=s.length+1
 |[]=>by simp[splitB]
 |b::r=>by
  have ih:=cN c r;unfold splitB;split
  ·simp only[Kq];omega
  ·split
   ·simp
   ·rename_i e;rw[e]at ih;simp only[Kq]at ih⊢;omega
theorem lY{α:Type}{p:α->Bool}{l:List α}{k:Nat}(d:α)(hk:k<l.length)(h:(l.take k).all p=true)(hp:p (l.getD k d)=true):(l.take (k+1)).all p=true:=by rw[bQ l k d hk,List.all_append,h,KR,hp];rfl
theorem G9{α:Type}{p:α->Bool}{l:List α}{k:Nat}(h:l.length<=k):(l.take k).all p=l.all p:=by rw[Mb h]
theorem xA{α:Type}{p:α->Bool}{l:List α}{k:Nat}(d:α)(hk:k<l.length)(hp:p (l.getD k d)=false):l.all p=false:=by rw[Lb];intro e;have:=Kp.1 e _ (aP l k d hk);rw[this]at hp;cases hp
def pH(n:Int):Bool:=decide (0<=n)&&decide (n<=999999)
theorem Ar{v:Vers}(h:[v.major,v.minor,v.patch].all pH=false):bq v=40:=by unfold bq;rw[Kf];simp only[KR,NV,MF,Bool.and_eq_false_iff,pH,KD]at h;omega
theorem xB{v:Vers}(h:[v.major,v.minor,v.patch].all pH=true):bq v=if 24<v.pre.length then 40 else if v.pre=[]then 0 else if(splitB 46 v.pre).all ca=true then 0 else 40:=by unfold bq;rw[Kb];simp only[KR,NV,MF,Ka,pH,Kc]at h;omega
end Go.Pd
namespace Go.Pd
open Go.AL
theorem DH(s:Str):(j9 s).length<=s.length:=(List.takeWhile_sublist _).length_le
end Go.Pd
namespace Go.Pd
open Go.AL
end Go.Pd
namespace Go.Pd
open Go.AL
end Go.Pd
end
section
namespace Go.AL
open Go.Proofs Go.Shelf Go.RowKit Go.Pd
theorem gX{c:UInt8}:∀{s:Str},Lib.indexByte s c=-1->c∉s
 |[],_=>Mf
 |b::r,h=>by
  unfold Lib.indexByte at h;by_cases e:b=c
  ·subst e;simp at h
  ·have e':(b ==c)=false:=M8.2 e;rw[e']at h;simp only[Lg,KP]at h;have hg:=Lib.indexByte_ge r c;split at h
   ·rename_i k;have:=gX (s:=r) (by simpa using k);rw[Ks,Nr];exact⟨fun q=>e q.symm,this⟩
   ·omega
theorem fN{c:UInt8}:∀{s:Str},Lib.indexByte s c≠-1->∃k:Nat,Lib.indexByte s c=k/\k<s.length/\s=s.take k++c::s.drop (k+1)/\c∉s.take k
 |[],h=>absurd rfl h
 |b::r,h=>by
  unfold Lib.indexByte at h⊢;by_cases e:b=c
  ·subst e;refine⟨0,by simp,by simp,by simp,by simp⟩
  ·have e':(b ==c)=false:=M8.2 e;rw[e']at h⊢;simp only[Lg,KP]at h⊢;split at h
   ·exact absurd rfl h
   ·rename_i k;obtain⟨j,j1,j2,j3,j4⟩:=fN (s:=r) (by simpa using k);rw[Kb k];refine⟨j+1,by rw[j1];rfl,by simp;omega,?_,?_⟩
    ·rw[Lv,LK,KU,<-j3]
    ·rw[Lv,Ks,Nr];exact⟨fun q=>e q.symm,j4⟩
theorem rP{c:UInt8}:∀{s:Str},c∉s->splitB c s=[s]
 |[],_=>rfl
 |b::r,h=>by rw[Ks,Nr]at h;unfold splitB;rw[Kb (fun e=>h.1 e.symm),rP h.2]
theorem lD{c:UInt8}:∀{a:Str} (r:Str),c∉a->splitB c (a++c::r)=a::splitB c r
 |[],r,_=>by rw[Le,splitB,Kf rfl]
 |b::a,r,h=>by rw[Ks,Nr]at h;rw[KU,splitB,Kb (fun e=>h.1 e.symm),lD r h.2]
theorem rQ(c:UInt8):∀(n:Nat)(s:Str),s.length<=n->Lib.splitK [c] 0 (s.count c) s=splitB c s
 |n,s,hn=>by
  by_cases h:Lib.indexByte s c=-1
  ·have hm:=gX h;rw[List.count_eq_zero.2 hm,rP hm];rfl
  ·obtain⟨k,k1,k2,k3,k4⟩:=fN h;have hc:s.count c=(s.drop (k+1)).count c+1:=by have e:=Lu (List.count c) k3;rw[List.count_append,List.count_cons_self,List.count_eq_zero.2 k4]at e;omega
   rw[hc];unfold Lib.splitK;rw[Lib.index_one,Kb (by simpa using h),k1];have hd:(k:Int).toNat+[c].length=k+1:=rfl;have ht:(k:Int).toNat+0=k:=rfl;rw[hd,ht]
   cases n with
   |zero=>omega
   |succ n=>
    rw[rQ c n (s.drop (k+1)) (by rw[LY];omega)];conv=>rhs;rw[k3]
    rw[lD _ k4]
theorem ng{c:UInt8}:∀{a:Str} (r:Str),c∉a->(a++c::r).takeWhile (fun b=>!decide (b=c))=a
 |[],r,_=>by simp
 |b::a,r,h=>by rw[Ks,Nr]at h;have hb:¬b=c:=fun e=>h.1 e.symm;rw[KU,List.takeWhile_cons];simp only[hb,N8,ML,Lf];rw[ng r h.2]
theorem tu{c:UInt8}{s:Str}(h:c∉s):s.takeWhile (fun b=>!decide (b=c))=s:=by
 induction s with
 |nil=>rfl
 |cons b r ih=>rw[Ks,Nr]at h;have hb:¬b=c:=fun e=>h.1 e.symm;rw[List.takeWhile_cons];simp only[hb,N8,ML,Lf];rw[ih h.2]
theorem Ga(s:Str):Lib.cut s [45]=(j9 s,mD s,om s):=by
 unfold Lib.cut;rw[Lib.index_one];by_cases h:Lib.indexByte s 45=-1
 ·have hm:=gX h;rw[h,Kb (by decide)];have e:j9 s=s:=tu hm;unfold mD om;rw[e,LD (by omega)];simp
 ·obtain⟨k,k1,k2,k3,k4⟩:=fN h;rw[k1,Kf (by omega)]
  have e:j9 s=s.take k:=by
   unfold j9;conv=>lhs;rw[k3]
   exact ng _ k4
  have hl:(s.take k).length=k:=by rw[LH];omega
  unfold mD om;rw[e,hl];simp[k2]
theorem Ic(s:Str)(c:Int)(h0:0<=c)(h1:c<=255):∀k:Nat,b9 (fun b=>!decide (bI b=c)) s k=if Lib.indexByte s c.toNat.toUInt8=-1 then -1 else Lib.indexByte s c.toNat.toUInt8+k:=by
 have hb:∀b:UInt8,(bI b=c)↔b=c.toNat.toUInt8:=by
  intro b;unfold bI;constructor
  ·intro e;have:c.toNat=b.toNat:=by omega
   rw[this];simp
  ·intro e;rw[e];simp[Nat.toUInt8];omega
 induction s with
 |nil=>intro k;rfl
 |cons b r ih=>
  intro k;rw[b9];by_cases e:bI b=c
  ·have e2:=(hb b).1 e;rw[Kb (by simp[e])];unfold Lib.indexByte;rw[e2];simp
  ·have e2:(b ==c.toNat.toUInt8)=false:=M8.2 (fun q=>e ((hb b).2 q));rw[Kf (by simp[e]),ih (k+1)];have hg:=Lib.indexByte_ge r c.toNat.toUInt8;have e3:Lib.indexByte (b::r) c.toNat.toUInt8=(if b ==c.toNat.toUInt8 then 0 else if Lib.indexByte r c.toNat.toUInt8 ==-1 then -1 else Lib.indexByte r c.toNat.toUInt8+1):=rfl;rw[e3,e2];simp only[Lg,KP,La];by_cases q:Lib.indexByte r c.toNat.toUInt8=-1
   ·rw[Kf q,Kf q];rfl
   ·rw[Kb q,Kb q,Kb (by omega)];omega
theorem xC(s:Str)(c:UInt8):decide (0<=Lib.indexByte s c)=decide (c∈s):=by
 have hg:=Lib.indexByte_ge s c;rw[L0];by_cases h:Lib.indexByte s c=-1
 ·exact⟨fun e=>by omega,fun e=>absurd e (gX h)⟩
 ·obtain⟨k,k1,k2,k3,k4⟩:=fN h;exact⟨fun _=>by rw[k3];simp,fun _=>by omega⟩
variable [Tabs] {P:Program} {ρ:Ren}
theorem Below.drawn(w:World)(n:Nat):Below w.heap.size w (w.drewN n):=⟨rfl,rfl,rfl,Kn _,fun _ _=>rfl⟩
theorem After.news{w w':World}{pub:Nat->Nat->Prop}{e:Nat->Option CObj}(hp:kr w pub)(hd:∀id,e id=none)(hb:Below w.heap.size w w'){p:Nat->Prop}(hc:∀o,p o->∃v,w'.cell? ⟨w.heap.size,o,none⟩=some v) :
  After w pub e (al (cd [] [])) w' (fun b o=>pub b o∨(b=w.heap.size/\p o)) e where
 os:=hb.os
 tape:=hb.tape
 output:=hb.output
 size:=hb.size
 block b h _:=hb.block b h
 cell b o h _:=aj (hb.block b h) o
 kind b h _:=⟨aW (hb.block b h),fun o=>aN (hb.block b h) o⟩
 ext:=⟨fun _ c h=>⟨c,h,CLe.refl c⟩,fun _ _ h=>.inl h,fun b o h=>by obtain⟨v,hv⟩:=hp b o h;exact aj (hb.block b (aQ hv)) o⟩
 fresh b o h:=by
  rcases h with h|⟨rfl,_⟩
  ·exact .inl h
  ·exact .inr (.inl (Kn _))
 ok b o h:=by
  rcases h with h|⟨rfl,h⟩
  ·obtain⟨v,hv⟩:=hp b o h;exact⟨v,(aj (hb.block b (aQ hv)) o).trans hv⟩
  ·exact hc o h
 slots id o h:=by simp[cd,aR,aJ]at h
 dom id _:=hd id
 inj i j c d b o h:=by rw[hd i]at h;cases h
theorem dX{f:Nat}{args:List AV}{A:AV}{ob:Option Prop}(h:∀(w:World)(pub:Nat->Nat->Prop)(vs:List Value),ik w pub (fun _=>none)->VL ⟨fun _=>none,w,pub⟩ args vs->Calls P f vs.toArray w fun e w'=>(∃v,e=.returned v/\∀Ω,V Ω A v)/\Below w.heap.size w w') :
  aF P f args [] ⟨ob,none,A,[]⟩:=by
 intro w pub e vs hp ht hv hs hd hi;have he:e=fun _=>none:=funext fun id=>hd id rfl;subst he;refine(h w pub vs ht hv).mono ?_;rintro en w' ⟨⟨v,rfl,hV⟩,hb⟩;exact⟨pub,_,And.intro (fun b pv u h=>by cases h) (And.intro (hV _) (After.below hp (fun _=>rfl) hb))⟩
theorem VL.two_str{Ω:Om}{a b:Str}{vs:List Value}(h:VL Ω [.str a,.str b] vs):vs=[.string ⟨a.toArray⟩,.string ⟨b.toArray⟩]/\a.length<=b6/\b.length<=b6:=by obtain⟨v1,v2,rfl,h1,h2⟩:=VL.two_inv h;obtain⟨rfl,l1⟩:=h1.str_inv;obtain⟨rfl,l2⟩:=h2.str_inv;exact⟨rfl,l1,l2⟩
def Ie:Pat:=p2 .str .str fun a b=>⟨some (b=pG),none,.str (lV a),[]⟩
set_option maxRecDepth 100000 in
theorem Gb(b:UInt8):pG.contains b=lU b:=by
 have h:∀b:Fin 256,pG.contains (UInt8.ofNat b.val)=lU (UInt8.ofNat b.val):=by decide
 have:=h ⟨b.toNat,b.toNat_lt⟩;simpa using this
theorem As{f:Nat}(L:Lays.n160 P ρ)(h116:(P.info? (ρ.t 116)).map (fun i=>(i.zero,i.size))=some (some (.agg (Array.replicate 256 (.bool false))),256))(hf:ρ.f 160=f)(he:aB P f):ag P f Ie:=by
 subst hf;refine bY he fun a b _ _ ho=>?_;have hb:=ho _ rfl;subst hb;refine dX fun w pub vs _ hv=>?_;obtain⟨rfl,l1,l2⟩:=VL.two_str hv;have l1':a.length<=9223372036854775807:=l1;refine(Any.strings_Trim_laid L h116 ⟨a.toArray⟩ ⟨pG.toArray⟩ w (by simpa[ByteArray.size]using l1') (by decide) (fun j b hj=>?_)).mono ?_
 ·have hd:∀b∈pG,b.toNat<128:=by decide
  exact hd b (KA hj)
 ·rintro en w' ⟨rfl,hb⟩;refine⟨⟨_,rfl,fun Ω=>?_⟩,hb⟩;have e:Lib.trimS a pG=lV a:=by have ef:(fun b=>pG.contains b)=lU:=funext Gb;unfold Lib.trimS Lib.trimLeftS Lib.trimRightS lV;rw[ef]
  have e2:(⟨a.toArray⟩:ByteArray).data.toList=a:=rfl;have e3:(⟨pG.toArray⟩:ByteArray).data.toList=pG:=rfl;rw[e2,e3,e];exact .str _ (Ld (G7 a) l1)
def Jj:Pat:=p2 .str .str fun a b=>⟨some (b=[45]/\a.length<4294967281),none,.tup [.str (j9 a),.str (mD a),.bool (om a)],[]⟩
theorem DI{f:Nat}{m:Int}(L:Lays.n145 P ρ)(hm:Tabs.tab (ρ.g 1) 0 (.int .i64 m))(hf:ρ.f 145=f)(he:aB P f):ag P f Jj:=by
 subst hf;refine bY he fun a b _ _ ho=>?_;obtain⟨hb,hl⟩:=ho _ rfl;subst hb;refine dX fun w pub vs ht hv=>?_;obtain⟨rfl,l1,l2⟩:=VL.two_str hv;refine(Any.strings_Cut L ⟨a.toArray⟩ ⟨([45]:Str).toArray⟩ m w (by simpa[ByteArray.size]using hl) (ht.1 _ _ _ hm).2).mono ?_;rintro en w' ⟨rfl,n,rfl⟩;refine⟨⟨_,rfl,fun Ω=>?_⟩,Below.drawn w n⟩;have e2:(⟨a.toArray⟩:ByteArray).data.toList=a:=rfl;have e3:(⟨([45]:Str).toArray⟩:ByteArray).data.toList=[45]:=rfl;rw[e2,e3,Ga];refine V.of_tup (VL.cons (.str _ ?_) (VL.cons (.str _ ?_) (VL.cons (.bool _) .nil)))
 ·exact Ld (DH a) l1
 ·unfold mD;rw[LY];exact Ld (Nat.sub_le _ _) l1
def xD:Pat:=p2 .str .str fun a b=>⟨some (b.length=1),none,.bool (decide (b.getD 0 0∈a)),[]⟩
theorem rR{f:Nat}(L:Lays.n144 P ρ)(hf:ρ.f 144=f)(he:aB P f):ag P f xD:=by
 subst hf;refine bY he fun a b _ _ ho=>?_;have hb:b.length=1:=ho _ rfl
 obtain⟨c,rfl⟩:∃c,b=[c]:=by
  match b,hb with
  |[c],_=>exact⟨c,rfl⟩
 refine dX fun w pub vs ht hv=>?_;obtain⟨rfl,l1,l2⟩:=VL.two_str hv;refine(Any.strings_Contains_one L ⟨a.toArray⟩ c w).mono ?_;rintro en w' ⟨rfl,rfl⟩;refine⟨⟨_,rfl,fun Ω=>?_⟩,Below.refl _ _⟩;have e2:(⟨a.toArray⟩:ByteArray).data.toList=a:=rfl;rw[e2,xC];exact .bool _
def vR:Pat:=p2 .str (.int .u8) fun a c=>.ret (.int .i64 (G6 a c))
theorem pI{f:Nat}(L:Lays.n137 P ρ)(hf:ρ.f 137=f)(he:aB P f):ag P f vR:=by
 subst hf;refine bY he fun a c _ _ ho=>?_;refine dX fun w pub vs ht hv=>?_;obtain⟨v1,v2,rfl,h1,h2⟩:=VL.two_inv hv;obtain⟨rfl,l1⟩:=h1.str_inv;obtain⟨rfl,c1,c2⟩:=(show V _ (.int .u8 c) v2 from h2).int_inv;have c1:(0:Int)<=c:=c1;have c2:c<=(255:Int):=c2;refine(Any.strings_IndexByte L ⟨a.toArray⟩ c w).mono ?_;rintro en w' ⟨rfl,rfl⟩;refine⟨⟨_,rfl,fun Ω=>?_⟩,Below.refl _ _⟩;have e2:(⟨a.toArray⟩:ByteArray).data.toList=a:=rfl
 have e:G6 a c=Lib.indexByte a c.toNat.toUInt8:=by
  unfold G6;rw[Ic a c c1 c2 0];split
  ·rename_i h;exact h.symm
  ·simp
 rw[e2,e];have hg:=Lib.indexByte_ge a c.toNat.toUInt8
 have hu:Lib.indexByte a c.toNat.toUInt8<=(a.length:Int):=by
  by_cases q:Lib.indexByte a c.toNat.toUInt8=-1
  ·omega
  ·obtain⟨k,k1,k2,_⟩:=fN q;omega
 have l1':a.length<=9223372036854775807:=l1;have b1:inR .i64 (Lib.indexByte a c.toNat.toUInt8):=aO (by omega) (by omega);exact .int _ _ b1.1 b1.2
def Gc:Pat:=p2 .str .str fun a b=>⟨some (b=[46]/\a.length<4294967281),none,.lst .str (splitB 46 a) none,[]⟩
theorem rS(c:UInt8):∀(s:Str),∀x∈splitB c s,x.length<=s.length
 |[],x,h=>by rw[L2.1 h];exact Kn _
 |b::r,x,h=>by
  have ih:=rS c r;unfold splitB at h;split at h
  ·rcases Ks.1 h with e|e
   ·rw[e];exact Kg _
   ·have:=ih x e;rw[Kq];omega
  ·split at h
   ·rw[L2.1 h,Kq];simp
   ·rename_i p ps e0;rcases Ks.1 h with e|e
    ·have:=ih p (by rw[e0];exact KK ..);rw[e,Kq,Kq];omega
    ·have:=ih x (by rw[e0];exact Kx _ e);rw[Kq];omega
theorem xE{f:Nat}{m:Int}(L:Lays.n146 P ρ)(hi9:(P.info? (ρ.t 9)).map (fun i=>(i.zero,i.size,i.bytes))=some (some (.string ByteArray.empty),1,16))(hm:Tabs.tab (ρ.g 1) 0 (.int .i64 m))(hf:ρ.f 146=f)(he:aB P f):ag P f Gc:=by
 subst hf;refine bY he fun a b _ _ ho=>?_;obtain⟨hb,hl⟩:=ho _ rfl;subst hb;intro w pub e vs hp ht hv hs hd hi;obtain⟨rfl,l1,l2⟩:=VL.two_str hv;have l1':a.length<=9223372036854775807:=l1;refine(Any.strings_Split L hi9 ⟨a.toArray⟩ ⟨([46]:Str).toArray⟩ m w (by simpa[ByteArray.size]using hl) (ht.1 _ _ _ hm).2 (by decide)).mono ?_;rintro en w' ⟨rfl,rfl⟩;have e2:(⟨a.toArray⟩:ByteArray).data.toList=a:=rfl;have e3:(⟨([46]:Str).toArray⟩:ByteArray).data.toList=[46]:=rfl;have hcount:Lib.countB ⟨a.toArray⟩ ⟨([46]:Str).toArray⟩=a.count 46:=by show Lib.count a [46]=_;rw[Lib.count_one]
 have hsp:(Lib.splitB ⟨([46]:Str).toArray⟩ 0 (Lib.countB ⟨a.toArray⟩ ⟨([46]:Str).toArray⟩) ⟨a.toArray⟩).map (·.data.toList)=splitB 46 a:=by rw[Lib.splitB_data,hcount];exact rQ 46 a.length a (Kn _)
 generalize Lib.splitB ⟨([46]:Str).toArray⟩ 0 (Lib.countB ⟨a.toArray⟩ ⟨([46]:Str).toArray⟩) ⟨a.toArray⟩=bs at hsp
 have hcl:(splitB 46 a).length=Lib.countB ⟨a.toArray⟩ ⟨([46]:Str).toArray⟩+1:=by
  rw[hcount]
  have:∀s:Str,(splitB 46 s).length=s.count 46+1:=by
   intro s
   induction s with
   |nil=>rfl
   |cons b r ih=>
    unfold splitB;split
    ·rename_i h;subst h;rw[Kq,ih,List.count_cons_self]
    ·rename_i h;rw[List.count_cons_of_ne h];split
     ·rename_i e0;rw[e0]at ih;simp at ih
     ·rename_i p ps e0;rw[e0]at ih;simpa using ih
  exact this a
 have hbl:bs.length=(splitB 46 a).length:=by rw[<-hsp,Lr]
 have hsz:=cN 46 a;rw[<-hcl];have hnew:(w.alloc (.cells (bs.map Value.string).toArray (ρ.t 9))).heap[w.heap.size]?=some (.cells (bs.map Value.string).toArray (ρ.t 9) (0,0)):=bw _ _;have hbw:Below w.heap.size w (w.alloc (.cells (bs.map Value.string).toArray (ρ.t 9))):=⟨rfl,rfl,rfl,by simp,fun b hb=>gG _ _ _ hb⟩;refine⟨fun b o=>pub b o∨(b=w.heap.size/\o<bs.length),e,And.intro (fun b pv u h=>by cases h) (And.intro ?_ (After.news hp (fun id=>hd id rfl) hbw (p:=fun o=>o<bs.length) (fun o ho=>?_)))⟩
 ·refine oY (Ω:=⟨e,w.alloc (.cells (bs.map Value.string).toArray (ρ.t 9)),fun b o=>pub b o∨(b=w.heap.size/\o<bs.length)⟩) (τ:=.str) (xs:=splitB 46 a) (vs:=bs.map Value.string) hnew ?_ ?_ (Kn _) (by unfold b6;omega) (fun i hi=>.inr ⟨rfl,by rw[hbl];simpa[ab]using hi⟩) (fun id hid=>by cases hid)
  ·have e1:(splitB 46 a).length *ab .str=bs.length:=by rw[hbl];exact NM _
   rw[e1];exact Mb (by simp)
  ·have ef:flat .str (splitB 46 a)=(splitB 46 a).map AV.str:=by unfold flat;rw[Ms];rfl
   rw[ef,<-hsp];refine⟨by simp,fun j c v hc hv=>?_⟩;rw[List.map_map,KF,KB]at hc;rw[KF,KB]at hv;obtain⟨x,hx,rfl⟩:=hc;obtain⟨y,hy,rfl⟩:=hv;rw[hx]at hy;cases hy;have hmem:x.data.toList∈splitB 46 a:=by rw[<-hsp];exact List.mem_map_of_mem (KA hx)
   have hle:=rS 46 a _ hmem;have:=V.str (Ω:=⟨e,w.alloc (.cells (bs.map Value.string).toArray (ρ.t 9)),fun b o=>pub b o∨(b=w.heap.size/\o<bs.length)⟩) x.data.toList (Ld hle l1);exact this
 ·rw[ak hnew];exact⟨_,KE (by simpa using ho)⟩
def nh[Tabs](g3 g4:Nat):Prop:=
 (∀c,c<256->Tabs.tab g3 c (.int .u8 (Lib.firstT c)))/\(∀i,i<16->Tabs.tab g4 (2 *i) (.int .u8 (Lib.accLo i))/\Tabs.tab g4 (2 *i+1) (.int .u8 (Lib.accHi i)))
theorem nh.tabs{g3 g4:Nat}(h:nh g3 g4){w:World}{pub:Nat->Nat->Prop}{e:Nat->Option CObj}(ht:ik w pub e):Lib.Utf8Tabs g3 g4 w:=
 ⟨fun c hc=>(ht.1 _ _ _ (h.1 c hc)).2,fun i hi=>⟨(ht.1 _ _ _ (h.2 i hi).1).2,(ht.1 _ _ _ (h.2 i hi).2).2⟩⟩
theorem Ig(s:Str)(k:Nat)(h:k<s.length):((⟨s.toArray⟩:ByteArray).get! k)=s.getD k 0:=by rw[Utf8W.get!_of_lt _ k (by simpa[ByteArray.size]using h)];have:(⟨s.toArray⟩:ByteArray)[k]'(by simpa[ByteArray.size]using h)=s[k]:=rfl;rw[this];simp[Ke,h]
theorem xF(n b0 b1 b2 b3 c1 c2 c3:Nat)(h1:1<n->b1=c1)(h2:2<n->b2=c2)(h3:3<n->b3=c3):Lib.decodeN n b0 b1 b2 b3=Lib.decodeN n b0 c1 c2 c3:=by
 rcases Kl 3 n with k|k
 ·rw[h1 (by omega),h2 (by omega),h3 k]
 rcases Kl 2 n with k2|k2
 ·rw[h1 (by omega),h2 k2];unfold Lib.decodeN;have e:¬3<n:=by omega
  simp only[e,false_and,and_false,KP]
 rcases Kl 1 n with k1|k1
 ·rw[h1 k1];unfold Lib.decodeN;have e:¬3<n:=by omega
  have e':¬2<n:=by omega
  simp only[e,e',false_and,and_false,KP]
 ·unfold Lib.decodeN;have e:¬3<n:=by omega
  have e':¬2<n:=by omega
  have e'':¬1<n:=by omega
  simp only[e,e',e'',false_and,and_false,KP]
theorem ph(s:Str):Lib.decodeGo ⟨s.toArray⟩=jO s:=by
 unfold Lib.decodeGo jO;have hs:(⟨s.toArray⟩:ByteArray).size=s.length:=by simp[ByteArray.size]
 rw[hs];by_cases h:s=[]
 ·subst h;rfl
 have hl:=Ls.2 h;rw[Kb (by omega),Kb h,Lib.decode_at,hs,MO,Ig s 0 hl];exact xF _ _ _ _ _ _ _ _ (fun k=>by rw[Ig s 1 k]) (fun k=>by rw[Ig s 2 k]) (fun k=>by rw[Ig s 3 k])
def tv:Pat:=p1 .str fun s=>.ret (.tup [.int .i32 ((jO s).1:Int),.int .i64 ((jO s).2:Int)])
theorem Au(s:Str):(jO s).1<=1114111/\(jO s).2<=s.length:=by
 by_cases h:s=[]
 ·subst h;decide
 ·have:=rN h;exact⟨this.2.2.1,this.2.2.2.2⟩
theorem oq{f:Nat}(L:Lays.n197 P ρ)(hu:nh (ρ.g 3) (ρ.g 4))(hf:ρ.f 197=f)(he:aB P f):ag P f tv:=by subst hf;refine aL he fun s _ ho=>?_;refine dX fun w pub vs ht hv=>?_;obtain⟨v,rfl,h1⟩:=VL.one_inv hv;obtain⟨rfl,hl⟩:=h1.str_inv;have hl':s.length<=9223372036854775807:=hl;refine(Any.utf8_DecodeRuneInString L ⟨s.toArray⟩ w (hu.tabs ht)).mono ?_;rintro en w' ⟨rfl,hb⟩;refine⟨⟨_,rfl,fun Ω=>?_⟩,hb⟩;rw[ph];obtain⟨d1,d2⟩:=Au s;exact V.of_tup (VL.cons (.int .i32 _ (by show(-2147483648:Int)<=_;omega) (by show _<=(2147483647:Int);omega)) (VL.cons (.int .i64 _ (by show(-9223372036854775808:Int)<=_;omega) (by show _<=(9223372036854775807:Int);omega)) .nil))
theorem rT:∀(n:Nat)(l:Str)(k:Nat),Lib.validGoD n l=(jm n l k).isNone
 |0,_,_=>rfl
 |n+1,l,k=>by
  unfold Lib.validGoD;rw[jm];by_cases h:l=[]
  ·rw[Kf h,Kf h];rfl
  rw[Kb h,Kb h]
  have hd:Lib.decodeL l=jO l:=by
   rw[<-ph];unfold Lib.decodeL Lib.decodeGo
   rw[Kb (by
    have:=Ls.2 h;simp[ByteArray.size];exact h)]
  obtain⟨b1,b2,_⟩:=rN h;rw[hd];by_cases u:iB l=0
  ·rw[Kf (b1.2 u),Kf u];rfl
  ·rw[Kb (fun e=>u (b1.1 e)),Kb u,b2 u];exact rT n _ _
def Gd:Pat:=p1 .str fun s=>.ret (.bool (kO s).isNone)
theorem xG{f:Nat}(L:Lays.n196 P ρ)(hu:nh (ρ.g 3) (ρ.g 4))(hf:ρ.f 196=f)(he:aB P f):ag P f Gd:=by subst hf;refine aL he fun s _ ho=>?_;refine dX fun w pub vs ht hv=>?_;obtain⟨v,rfl,h1⟩:=VL.one_inv hv;obtain⟨rfl,hl⟩:=h1.str_inv;have hl':s.length<=9223372036854775807:=hl;refine(Any.utf8_ValidString L ⟨s.toArray⟩ w (by simpa[ByteArray.size]using hl') (hu.tabs ht)).mono ?_;rintro en w' ⟨rfl,hb⟩;refine⟨⟨_,rfl,fun Ω=>?_⟩,hb⟩;have e:Lib.validD s=(kO s).isNone:=rT s.length s 0;have e2:(⟨s.toArray⟩:ByteArray).data.toList=s:=rfl;rw[e2,e];exact .bool _
end Go.AL
end
section
namespace Go.Proofs
open Go.Shelf
def Tryz.lays160_ren:Go.Shelf.Ren:=⟨fun|160=>119|232=>167|231=>166|227=>168|234=>170|233=>169|236=>172|235=>171|228=>217|271=>219|151=>218|197=>165|120=>261|152=>260|260=>216|137=>175|119=>285|224=>271|225=>270|217=>223|266=>267|n=>n,fun|9=>9|4=>4|3=>3|5=>5|117=>218|116=>217|0=>0|124=>221|21=>21|105=>213|46=>161|119=>271|139=>274|138=>273|n=>n,fun|3=>0|4=>1|n=>n⟩
theorem Tryz.lays160:Go.Proofs.Lays.n160 Tryz.prog Tryz.lays160_ren:={
 mixed:=by kernel_rfl
 f119:=Xt Tryz.func285
 f120:=Xt Tryz.func261
 f137:=Xt Tryz.func175
 f151:=Xt Tryz.func218
 f152:=Xt Tryz.func260
 f160:=Xt Tryz.func119
 f197:=Xt Tryz.func165
 f217:=Xt Tryz.func223
 f224:=Xt Tryz.func271
 f225:=Xt Tryz.func270
 f227:=Xt Tryz.func168
 f228:=Xt Tryz.func217
 f231:=Xt Tryz.func166
 f232:=Xt Tryz.func167
 f233:=Xt Tryz.func169
 f234:=Xt Tryz.func170
 f235:=Xt Tryz.func171
 f236:=Xt Tryz.func172
 f260:=Xt Tryz.func216
 f266:=Xt Tryz.func267
 f271:=Xt Tryz.func219
 t0:=Tryz.underlying0
 a0:=Tryz.isAgg0
 z0:=Tryz.sizeOf0
 v0:=Tryz.zeroValue0
 t3:=Tryz.underlying3
 a3:=Tryz.isAgg3
 z3:=Tryz.sizeOf3
 v3:=Tryz.zeroValue3
 t4:=Tryz.underlying4
 a4:=Tryz.isAgg4
 z4:=Tryz.sizeOf4
 v4:=Tryz.zeroValue4
 t5:=Tryz.underlying5
 a5:=Tryz.isAgg5
 z5:=Tryz.sizeOf5
 v5:=Tryz.zeroValue5
 t9:=Tryz.underlying9
 a9:=Tryz.isAgg9
 z9:=Tryz.sizeOf9
 v9:=Tryz.zeroValue9
 t21:=Tryz.underlying21
 a21:=Tryz.isAgg21
 z21:=Tryz.sizeOf21
 v21:=Tryz.zeroValue21
 t46:=Tryz.underlying161
 a46:=Tryz.isAgg161
 z46:=Tryz.sizeOf161
 v46:=Tryz.zeroValue161
 t105:=Tryz.underlying213
 a105:=Tryz.isAgg213
 z105:=Tryz.sizeOf213
 v105:=Tryz.zeroValue213
 t116:=Tryz.underlying217
 a116:=Tryz.isAgg217
 z116:=Tryz.sizeOf217
 t117:=Tryz.underlying218
 a117:=Tryz.isAgg218
 z117:=Tryz.sizeOf218
 v117:=Tryz.zeroValue218
 t119:=Tryz.underlying271
 a119:=Tryz.isAgg271
 z119:=Tryz.sizeOf271
 t124:=Tryz.underlying221
 a124:=Tryz.isAgg221
 z124:=Tryz.sizeOf221
 v124:=Tryz.zeroValue221
 t138:=Tryz.underlying273
 a138:=Tryz.isAgg273
 z138:=Tryz.sizeOf273
 v138:=Tryz.zeroValue273
 t139:=Tryz.underlying274
 a139:=Tryz.isAgg274
 z139:=Tryz.sizeOf274
 v139:=Tryz.zeroValue274
 g3:=by kernel_rfl
 g4:=by kernel_rfl}
def Tryz.lays145_ren:Go.Shelf.Ren:=⟨fun|145=>173|220=>220|219=>233|217=>223|225=>270|224=>271|267=>272|266=>267|314=>290|n=>n,fun|9=>9|4=>4|59=>222|3=>3|5=>5|46=>161|146=>294|51=>210|n=>n,fun|1=>2|n=>n⟩
theorem Tryz.lays145:Go.Proofs.Lays.n145 Tryz.prog Tryz.lays145_ren:={
 mixed:=by kernel_rfl
 f145:=Xt Tryz.func173
 f217:=Xt Tryz.func223
 f219:=Xt Tryz.func233
 f220:=Xt Tryz.func220
 f224:=Xt Tryz.func271
 f225:=Xt Tryz.func270
 f266:=Xt Tryz.func267
 f267:=Xt Tryz.func272
 f314:=Xt Tryz.func290
 t3:=Tryz.underlying3
 a3:=Tryz.isAgg3
 z3:=Tryz.sizeOf3
 v3:=Tryz.zeroValue3
 t4:=Tryz.underlying4
 a4:=Tryz.isAgg4
 z4:=Tryz.sizeOf4
 v4:=Tryz.zeroValue4
 t5:=Tryz.underlying5
 a5:=Tryz.isAgg5
 z5:=Tryz.sizeOf5
 v5:=Tryz.zeroValue5
 t9:=Tryz.underlying9
 a9:=Tryz.isAgg9
 z9:=Tryz.sizeOf9
 v9:=Tryz.zeroValue9
 t46:=Tryz.underlying161
 a46:=Tryz.isAgg161
 z46:=Tryz.sizeOf161
 v46:=Tryz.zeroValue161
 t51:=Tryz.underlying210
 a51:=Tryz.isAgg210
 z51:=Tryz.sizeOf210
 v51:=Tryz.zeroValue210
 t59:=Tryz.underlying222
 a59:=Tryz.isAgg222
 z59:=Tryz.sizeOf222
 v59:=Tryz.zeroValue222
 t146:=Tryz.underlying294
 a146:=Tryz.isAgg294
 z146:=Tryz.sizeOf294
 v146:=Tryz.zeroValue294
 g1:=by kernel_rfl}
def Tryz.lays146_ren:Go.Shelf.Ren:=⟨fun|146=>87|221=>132|268=>190|138=>191|143=>192|195=>231|197=>165|218=>232|219=>233|260=>216|217=>223|225=>270|224=>271|267=>272|266=>267|314=>290|n=>n,fun|9=>9|31=>24|3=>3|4=>4|0=>0|105=>213|21=>21|5=>5|46=>161|119=>271|139=>274|138=>273|146=>294|51=>210|n=>n,fun|1=>2|3=>0|4=>1|n=>n⟩
theorem Tryz.lays146:Go.Proofs.Lays.n146 Tryz.prog Tryz.lays146_ren:={
 mixed:=by kernel_rfl
 f138:=Xt Tryz.func191
 f143:=Xt Tryz.func192
 f146:=Xt Tryz.func87
 f195:=Xt Tryz.func231
 f197:=Xt Tryz.func165
 f217:=Xt Tryz.func223
 f218:=Xt Tryz.func232
 f219:=Xt Tryz.func233
 f221:=Xt Tryz.func132
 f224:=Xt Tryz.func271
 f225:=Xt Tryz.func270
 f260:=Xt Tryz.func216
 f266:=Xt Tryz.func267
 f267:=Xt Tryz.func272
 f268:=Xt Tryz.func190
 f314:=Xt Tryz.func290
 t0:=Tryz.underlying0
 a0:=Tryz.isAgg0
 z0:=Tryz.sizeOf0
 v0:=Tryz.zeroValue0
 t3:=Tryz.underlying3
 a3:=Tryz.isAgg3
 z3:=Tryz.sizeOf3
 v3:=Tryz.zeroValue3
 t4:=Tryz.underlying4
 a4:=Tryz.isAgg4
 z4:=Tryz.sizeOf4
 v4:=Tryz.zeroValue4
 t5:=Tryz.underlying5
 a5:=Tryz.isAgg5
 z5:=Tryz.sizeOf5
 v5:=Tryz.zeroValue5
 t9:=Tryz.underlying9
 a9:=Tryz.isAgg9
 z9:=Tryz.sizeOf9
 v9:=Tryz.zeroValue9
 t21:=Tryz.underlying21
 a21:=Tryz.isAgg21
 z21:=Tryz.sizeOf21
 v21:=Tryz.zeroValue21
 t31:=Tryz.underlying24
 a31:=Tryz.isAgg24
 z31:=Tryz.sizeOf24
 v31:=Tryz.zeroValue24
 t46:=Tryz.underlying161
 a46:=Tryz.isAgg161
 z46:=Tryz.sizeOf161
 v46:=Tryz.zeroValue161
 t51:=Tryz.underlying210
 a51:=Tryz.isAgg210
 z51:=Tryz.sizeOf210
 v51:=Tryz.zeroValue210
 t105:=Tryz.underlying213
 a105:=Tryz.isAgg213
 z105:=Tryz.sizeOf213
 v105:=Tryz.zeroValue213
 t119:=Tryz.underlying271
 a119:=Tryz.isAgg271
 z119:=Tryz.sizeOf271
 t138:=Tryz.underlying273
 a138:=Tryz.isAgg273
 z138:=Tryz.sizeOf273
 v138:=Tryz.zeroValue273
 t139:=Tryz.underlying274
 a139:=Tryz.isAgg274
 z139:=Tryz.sizeOf274
 v139:=Tryz.zeroValue274
 t146:=Tryz.underlying294
 a146:=Tryz.isAgg294
 z146:=Tryz.sizeOf294
 v146:=Tryz.zeroValue294
 g1:=by kernel_rfl
 g3:=by kernel_rfl
 g4:=by kernel_rfl}
def Tryz.lays144_ren:Go.Shelf.Ren:=⟨fun|144=>177|143=>192|219=>233|217=>223|225=>270|224=>271|267=>272|266=>267|314=>290|n=>n,fun|9=>9|4=>4|3=>3|5=>5|46=>161|146=>294|51=>210|n=>n,fun|1=>2|n=>n⟩
theorem Tryz.lays144:Go.Proofs.Lays.n144 Tryz.prog Tryz.lays144_ren:={
 mixed:=by kernel_rfl
 f143:=Xt Tryz.func192
 f144:=Xt Tryz.func177
 f217:=Xt Tryz.func223
 f219:=Xt Tryz.func233
 f224:=Xt Tryz.func271
 f225:=Xt Tryz.func270
 f266:=Xt Tryz.func267
 f267:=Xt Tryz.func272
 f314:=Xt Tryz.func290
 t3:=Tryz.underlying3
 a3:=Tryz.isAgg3
 z3:=Tryz.sizeOf3
 v3:=Tryz.zeroValue3
 t4:=Tryz.underlying4
 a4:=Tryz.isAgg4
 z4:=Tryz.sizeOf4
 v4:=Tryz.zeroValue4
 t5:=Tryz.underlying5
 a5:=Tryz.isAgg5
 z5:=Tryz.sizeOf5
 v5:=Tryz.zeroValue5
 t9:=Tryz.underlying9
 a9:=Tryz.isAgg9
 z9:=Tryz.sizeOf9
 v9:=Tryz.zeroValue9
 t46:=Tryz.underlying161
 a46:=Tryz.isAgg161
 z46:=Tryz.sizeOf161
 v46:=Tryz.zeroValue161
 t51:=Tryz.underlying210
 a51:=Tryz.isAgg210
 z51:=Tryz.sizeOf210
 v51:=Tryz.zeroValue210
 t146:=Tryz.underlying294
 a146:=Tryz.isAgg294
 z146:=Tryz.sizeOf294
 v146:=Tryz.zeroValue294
 g1:=by kernel_rfl}
def Tryz.lays137_ren:Go.Shelf.Ren:=⟨fun|137=>175|217=>223|266=>267|n=>n,fun|9=>9|5=>5|3=>3|n=>n,fun|n=>n⟩
theorem Tryz.lays137:Go.Proofs.Lays.n137 Tryz.prog Tryz.lays137_ren:={
 mixed:=by kernel_rfl
 f137:=Xt Tryz.func175
 f217:=Xt Tryz.func223
 f266:=Xt Tryz.func267
 t3:=Tryz.underlying3
 a3:=Tryz.isAgg3
 z3:=Tryz.sizeOf3
 v3:=Tryz.zeroValue3
 t5:=Tryz.underlying5
 a5:=Tryz.isAgg5
 z5:=Tryz.sizeOf5
 v5:=Tryz.zeroValue5
 t9:=Tryz.underlying9
 a9:=Tryz.isAgg9
 z9:=Tryz.sizeOf9
 v9:=Tryz.zeroValue9}
def Tryz.lays197_ren:Go.Shelf.Ren:=⟨fun|197=>165|260=>216|n=>n,fun|9=>9|21=>21|3=>3|4=>4|5=>5|105=>213|119=>271|0=>0|46=>161|139=>274|138=>273|n=>n,fun|3=>0|4=>1|n=>n⟩
theorem Tryz.lays197:Go.Proofs.Lays.n197 Tryz.prog Tryz.lays197_ren:={
 mixed:=by kernel_rfl
 f197:=Xt Tryz.func165
 f260:=Xt Tryz.func216
 t0:=Tryz.underlying0
 a0:=Tryz.isAgg0
 z0:=Tryz.sizeOf0
 v0:=Tryz.zeroValue0
 t3:=Tryz.underlying3
 a3:=Tryz.isAgg3
 z3:=Tryz.sizeOf3
 v3:=Tryz.zeroValue3
 t4:=Tryz.underlying4
 a4:=Tryz.isAgg4
 z4:=Tryz.sizeOf4
 v4:=Tryz.zeroValue4
 t5:=Tryz.underlying5
 a5:=Tryz.isAgg5
 z5:=Tryz.sizeOf5
 v5:=Tryz.zeroValue5
 t9:=Tryz.underlying9
 a9:=Tryz.isAgg9
 z9:=Tryz.sizeOf9
 v9:=Tryz.zeroValue9
 t21:=Tryz.underlying21
 a21:=Tryz.isAgg21
 z21:=Tryz.sizeOf21
 v21:=Tryz.zeroValue21
 t46:=Tryz.underlying161
 a46:=Tryz.isAgg161
 z46:=Tryz.sizeOf161
 v46:=Tryz.zeroValue161
 t105:=Tryz.underlying213
 a105:=Tryz.isAgg213
 z105:=Tryz.sizeOf213
 v105:=Tryz.zeroValue213
 t119:=Tryz.underlying271
 a119:=Tryz.isAgg271
 z119:=Tryz.sizeOf271
 t138:=Tryz.underlying273
 a138:=Tryz.isAgg273
 z138:=Tryz.sizeOf273
 v138:=Tryz.zeroValue273
 t139:=Tryz.underlying274
 a139:=Tryz.isAgg274
 z139:=Tryz.sizeOf274
 v139:=Tryz.zeroValue274
 g3:=by kernel_rfl
 g4:=by kernel_rfl}
def Tryz.lays196_ren:Go.Shelf.Ren:=⟨fun|196=>276|259=>291|n=>n,fun|9=>9|4=>4|3=>3|5=>5|12=>12|119=>271|0=>0|46=>161|139=>274|138=>273|53=>212|n=>n,fun|3=>0|4=>1|n=>n⟩
theorem Tryz.lays196:Go.Proofs.Lays.n196 Tryz.prog Tryz.lays196_ren:={
 mixed:=by kernel_rfl
 f196:=Xt Tryz.func276
 f259:=Xt Tryz.func291
 t0:=Tryz.underlying0
 a0:=Tryz.isAgg0
 z0:=Tryz.sizeOf0
 v0:=Tryz.zeroValue0
 t3:=Tryz.underlying3
 a3:=Tryz.isAgg3
 z3:=Tryz.sizeOf3
 v3:=Tryz.zeroValue3
 t4:=Tryz.underlying4
 a4:=Tryz.isAgg4
 z4:=Tryz.sizeOf4
 v4:=Tryz.zeroValue4
 t5:=Tryz.underlying5
 a5:=Tryz.isAgg5
 z5:=Tryz.sizeOf5
 v5:=Tryz.zeroValue5
 t9:=Tryz.underlying9
 a9:=Tryz.isAgg9
 z9:=Tryz.sizeOf9
 v9:=Tryz.zeroValue9
 t12:=Tryz.underlying12
 a12:=Tryz.isAgg12
 z12:=Tryz.sizeOf12
 v12:=Tryz.zeroValue12
 t46:=Tryz.underlying161
 a46:=Tryz.isAgg161
 z46:=Tryz.sizeOf161
 v46:=Tryz.zeroValue161
 t53:=Tryz.underlying212
 a53:=Tryz.isAgg212
 z53:=Tryz.sizeOf212
 v53:=Tryz.zeroValue212
 t119:=Tryz.underlying271
 a119:=Tryz.isAgg271
 z119:=Tryz.sizeOf271
 t138:=Tryz.underlying273
 a138:=Tryz.isAgg273
 z138:=Tryz.sizeOf273
 v138:=Tryz.zeroValue273
 t139:=Tryz.underlying274
 a139:=Tryz.isAgg274
 z139:=Tryz.sizeOf274
 v139:=Tryz.zeroValue274
 g3:=by kernel_rfl
 g4:=by kernel_rfl}
end Go.Proofs
end
section
namespace Go.Proofs
open Go.Shelf
def Tryz.lays190_ren:Go.Shelf.Ren:=⟨fun|190=>144|125=>100|258=>205|128=>154|129=>155|302=>244|303=>245|304=>246|305=>247|306=>248|307=>249|308=>250|309=>251|310=>252|333=>280|329=>207|330=>208|334=>281|335=>282|336=>60|344=>293|n=>n,fun|31=>24|9=>9|3=>3|46=>161|0=>0|51=>210|53=>212|4=>4|183=>203|182=>202|131=>207|5=>5|218=>247|222=>251|228=>265|229=>197|n=>n,fun|n=>n⟩
theorem Tryz.lays190:Go.Proofs.Lays.n190 Tryz.prog Tryz.lays190_ren:={
 mixed:=by kernel_rfl
 f125:=Xt Tryz.func100
 f128:=Xt Tryz.func154
 f129:=Xt Tryz.func155
 f190:=Xt Tryz.func144
 f258:=Xt Tryz.func205
 f302:=Xt Tryz.func244
 f303:=Xt Tryz.func245
 f304:=Xt Tryz.func246
 f305:=Xt Tryz.func247
 f306:=Xt Tryz.func248
 f307:=Xt Tryz.func249
 f308:=Xt Tryz.func250
 f309:=Xt Tryz.func251
 f310:=Xt Tryz.func252
 f329:=Xt Tryz.func207
 f330:=Xt Tryz.func208
 f333:=Xt Tryz.func280
 f334:=Xt Tryz.func281
 f335:=Xt Tryz.func282
 f336:=Xt Tryz.func60
 f344:=Xt Tryz.func293
 t0:=Tryz.underlying0
 a0:=Tryz.isAgg0
 z0:=Tryz.sizeOf0
 v0:=Tryz.zeroValue0
 t3:=Tryz.underlying3
 a3:=Tryz.isAgg3
 z3:=Tryz.sizeOf3
 v3:=Tryz.zeroValue3
 t4:=Tryz.underlying4
 a4:=Tryz.isAgg4
 z4:=Tryz.sizeOf4
 v4:=Tryz.zeroValue4
 t5:=Tryz.underlying5
 a5:=Tryz.isAgg5
 z5:=Tryz.sizeOf5
 v5:=Tryz.zeroValue5
 t9:=Tryz.underlying9
 a9:=Tryz.isAgg9
 z9:=Tryz.sizeOf9
 v9:=Tryz.zeroValue9
 t31:=Tryz.underlying24
 a31:=Tryz.isAgg24
 z31:=Tryz.sizeOf24
 v31:=Tryz.zeroValue24
 t46:=Tryz.underlying161
 a46:=Tryz.isAgg161
 z46:=Tryz.sizeOf161
 v46:=Tryz.zeroValue161
 t51:=Tryz.underlying210
 a51:=Tryz.isAgg210
 z51:=Tryz.sizeOf210
 v51:=Tryz.zeroValue210
 t53:=Tryz.underlying212
 a53:=Tryz.isAgg212
 z53:=Tryz.sizeOf212
 v53:=Tryz.zeroValue212
 t131:=Tryz.underlying207
 a131:=Tryz.isAgg207
 z131:=Tryz.sizeOf207
 v131:=Tryz.zeroValue207
 t182:=Tryz.underlying202
 a182:=Tryz.isAgg202
 z182:=Tryz.sizeOf202
 v182:=Tryz.zeroValue202
 t183:=Tryz.underlying203
 a183:=Tryz.isAgg203
 z183:=Tryz.sizeOf203
 v183:=Tryz.zeroValue203
 t218:=Tryz.underlying247
 a218:=Tryz.isAgg247
 z218:=Tryz.sizeOf247
 v218:=Tryz.zeroValue247
 t222:=Tryz.underlying251
 a222:=Tryz.isAgg251
 z222:=Tryz.sizeOf251
 v222:=Tryz.zeroValue251
 t228:=Tryz.underlying265
 a228:=Tryz.isAgg265
 z228:=Tryz.sizeOf265
 v228:=Tryz.zeroValue265
 t229:=Tryz.underlying197
 a229:=Tryz.isAgg197
 z229:=Tryz.sizeOf197
 v229:=Tryz.zeroValue197}
def Tryz.lays194_ren:Go.Shelf.Ren:=⟨fun|194=>97|n=>n,fun|31=>24|9=>9|3=>3|4=>4|0=>0|n=>n,fun|n=>n⟩
theorem Tryz.lays194:Go.Proofs.Lays.n194 Tryz.prog Tryz.lays194_ren:={
 mixed:=by kernel_rfl
 f194:=Xt Tryz.func97
 t0:=Tryz.underlying0
 a0:=Tryz.isAgg0
 z0:=Tryz.sizeOf0
 v0:=Tryz.zeroValue0
 t3:=Tryz.underlying3
 a3:=Tryz.isAgg3
 z3:=Tryz.sizeOf3
 v3:=Tryz.zeroValue3
 t4:=Tryz.underlying4
 a4:=Tryz.isAgg4
 z4:=Tryz.sizeOf4
 v4:=Tryz.zeroValue4
 t9:=Tryz.underlying9
 a9:=Tryz.isAgg9
 z9:=Tryz.sizeOf9
 v9:=Tryz.zeroValue9
 t31:=Tryz.underlying24
 a31:=Tryz.isAgg24
 z31:=Tryz.sizeOf24
 v31:=Tryz.zeroValue24}
def Tryz.lays172_ren:Go.Shelf.Ren:=⟨fun|172=>174|244=>221|245=>222|247=>262|279=>263|280=>264|281=>265|282=>266|287=>286|316=>287|171=>289|205=>288|321=>295|322=>296|243=>297|246=>300|283=>301|284=>302|285=>303|286=>304|129=>155|317=>305|318=>306|319=>307|320=>308|337=>309|338=>310|n=>n,fun|9=>9|3=>3|75=>226|76=>227|4=>4|5=>5|167=>276|37=>229|0=>0|85=>277|2=>2|168=>279|53=>212|175=>288|46=>161|210=>292|127=>301|145=>304|143=>302|21=>21|171=>306|173=>308|212=>311|51=>210|20=>20|213=>312|232=>313|233=>314|80=>315|n=>n,fun|15=>3|16=>4|17=>5|18=>6|19=>7|n=>n⟩
theorem Tryz.lays172:Go.Proofs.Lays.n172 Tryz.prog Tryz.lays172_ren:={
 mixed:=by kernel_rfl
 f129:=Xt Tryz.func155
 f171:=Xt Tryz.func289
 f172:=Xt Tryz.func174
 f205:=Xt Tryz.func288
 f243:=Xt Tryz.func297
 f244:=Xt Tryz.func221
 f245:=Xt Tryz.func222
 f246:=Xt Tryz.func300
 f247:=Xt Tryz.func262
 f279:=Xt Tryz.func263
 f280:=Xt Tryz.func264
 f281:=Xt Tryz.func265
 f282:=Xt Tryz.func266
 f283:=Xt Tryz.func301
 f284:=Xt Tryz.func302
 f285:=Xt Tryz.func303
 f286:=Xt Tryz.func304
 f287:=Xt Tryz.func286
 f316:=Xt Tryz.func287
 f317:=Xt Tryz.func305
 f318:=Xt Tryz.func306
 f319:=Xt Tryz.func307
 f320:=Xt Tryz.func308
 f321:=Xt Tryz.func295
 f322:=Xt Tryz.func296
 f337:=Xt Tryz.func309
 f338:=Xt Tryz.func310
 t0:=Tryz.underlying0
 a0:=Tryz.isAgg0
 z0:=Tryz.sizeOf0
 v0:=Tryz.zeroValue0
 t2:=Tryz.underlying2
 a2:=Tryz.isAgg2
 z2:=Tryz.sizeOf2
 v2:=Tryz.zeroValue2
 t3:=Tryz.underlying3
 a3:=Tryz.isAgg3
 z3:=Tryz.sizeOf3
 v3:=Tryz.zeroValue3
 t4:=Tryz.underlying4
 a4:=Tryz.isAgg4
 z4:=Tryz.sizeOf4
 v4:=Tryz.zeroValue4
 t5:=Tryz.underlying5
 a5:=Tryz.isAgg5
 z5:=Tryz.sizeOf5
 v5:=Tryz.zeroValue5
 t9:=Tryz.underlying9
 a9:=Tryz.isAgg9
 z9:=Tryz.sizeOf9
 v9:=Tryz.zeroValue9
 t20:=Tryz.underlying20
 a20:=Tryz.isAgg20
 z20:=Tryz.sizeOf20
 v20:=Tryz.zeroValue20
 t21:=Tryz.underlying21
 a21:=Tryz.isAgg21
 z21:=Tryz.sizeOf21
 v21:=Tryz.zeroValue21
 t37:=Tryz.underlying229
 a37:=Tryz.isAgg229
 z37:=Tryz.sizeOf229
 v37:=Tryz.zeroValue229
 t46:=Tryz.underlying161
 a46:=Tryz.isAgg161
 z46:=Tryz.sizeOf161
 v46:=Tryz.zeroValue161
 t51:=Tryz.underlying210
 a51:=Tryz.isAgg210
 z51:=Tryz.sizeOf210
 v51:=Tryz.zeroValue210
 t53:=Tryz.underlying212
 a53:=Tryz.isAgg212
 z53:=Tryz.sizeOf212
 v53:=Tryz.zeroValue212
 t75:=Tryz.underlying226
 a75:=Tryz.isAgg226
 z75:=Tryz.sizeOf226
 v75:=Tryz.zeroValue226
 t76:=Tryz.underlying227
 a76:=Tryz.isAgg227
 z76:=Tryz.sizeOf227
 v76:=Tryz.zeroValue227
 t85:=Tryz.underlying277
 a85:=Tryz.isAgg277
 z85:=Tryz.sizeOf277
 v85:=Tryz.zeroValue277
 t127:=Tryz.underlying301
 a127:=Tryz.isAgg301
 z127:=Tryz.sizeOf301
 v127:=Tryz.zeroValue301
 t143:=Tryz.underlying302
 a143:=Tryz.isAgg302
 z143:=Tryz.sizeOf302
 v143:=Tryz.zeroValue302
 t145:=Tryz.underlying304
 a145:=Tryz.isAgg304
 z145:=Tryz.sizeOf304
 v145:=Tryz.zeroValue304
 t167:=Tryz.underlying276
 a167:=Tryz.isAgg276
 z167:=Tryz.sizeOf276
 v167:=Tryz.zeroValue276
 t168:=Tryz.underlying279
 a168:=Tryz.isAgg279
 z168:=Tryz.sizeOf279
 v168:=Tryz.zeroValue279
 t171:=Tryz.underlying306
 a171:=Tryz.isAgg306
 z171:=Tryz.sizeOf306
 v171:=Tryz.zeroValue306
 t173:=Tryz.underlying308
 a173:=Tryz.isAgg308
 z173:=Tryz.sizeOf308
 v173:=Tryz.zeroValue308
 t175:=Tryz.underlying288
 a175:=Tryz.isAgg288
 z175:=Tryz.sizeOf288
 v175:=Tryz.zeroValue288
 t210:=Tryz.underlying292
 a210:=Tryz.isAgg292
 z210:=Tryz.sizeOf292
 v210:=Tryz.zeroValue292
 t212:=Tryz.underlying311
 a212:=Tryz.isAgg311
 z212:=Tryz.sizeOf311
 v212:=Tryz.zeroValue311
 t213:=Tryz.underlying312
 a213:=Tryz.isAgg312
 z213:=Tryz.sizeOf312
 t232:=Tryz.underlying313
 a232:=Tryz.isAgg313
 z232:=Tryz.sizeOf313
 v232:=Tryz.zeroValue313
 t233:=Tryz.underlying314
 a233:=Tryz.isAgg314
 z233:=Tryz.sizeOf314
 v233:=Tryz.zeroValue314
 g15:=by kernel_rfl
 g16:=by kernel_rfl
 g17:=by kernel_rfl
 g18:=by kernel_rfl
 g19:=by kernel_rfl}
def Tryz.sorted200_ren:Go.Shelf.Ren:=⟨fun|6=>95|8=>143|9=>144|11=>204|13=>100|12=>205|23=>154|24=>155|14=>244|15=>245|16=>246|17=>247|18=>248|19=>249|20=>250|21=>251|22=>252|25=>280|26=>207|27=>208|28=>281|29=>282|30=>60|31=>293|n=>n,fun|26=>9|28=>156|24=>24|0=>0|3=>3|37=>161|48=>210|50=>212|4=>4|40=>203|39=>202|45=>207|5=>5|9=>9|51=>247|55=>251|57=>265|58=>197|33=>113|n=>n,fun|n=>n⟩
theorem Tryz.sorted200:Go.Proofs.SlLaysZ.n6 Tryz.prog Tryz.sorted200_ren:={
 mixed:=by kernel_rfl
 f6:=⟨Tryz.f95.name,by decide,Xt Tryz.func95⟩
 f8:=⟨Tryz.f143.name,by decide,Xt Tryz.func143⟩
 f11:=⟨Tryz.f204.name,by decide,Xt Tryz.func204⟩
 t0:=Tryz.underlying0
 a0:=Tryz.isAgg0
 z0:=Tryz.sizeOf0
 v0:=Tryz.zeroValue0
 t24:=Tryz.underlying24
 a24:=Tryz.isAgg24
 z24:=Tryz.sizeOf24
 v24:=Tryz.zeroValue24
 t26:=Tryz.underlying9
 a26:=Tryz.isAgg9
 z26:=Tryz.sizeOf9
 v26:=Tryz.zeroValue9
 t28:=Tryz.underlying156
 a28:=Tryz.isAgg156
 z28:=Tryz.sizeOf156
 v28:=Tryz.zeroValue156
 i26:=by kernel_rfl}
end Go.Proofs
end
section
namespace Go.Proofs
open Go.RowKit Go.Shelf Go.AL
variable [Tabs]
attribute [local go_sem] Oper.semAt_some
set_option maxRecDepth 100000 in
set_option maxHeartbeats 2000000 in
theorem Tryz.values1(F:Fence)(n:Nat)(h7:F.fn 145)(hro:F.round=none)(hn:1<=n)(l Bs Bo b off len cap:Nat)(zs:List Str)(hreach:len<=maxLen)(J:List Str->World->Prop)(hBl:∀pre W,J pre W->W.cell? ⟨Bs,Bo,none⟩=some (.slice (some ⟨b,off,none⟩) len cap)/\∀j,j<len->W.cell? ⟨b,off+j,none⟩=some (encStr (zs[j]?.getD [])))
 (hY:∀pre x W,J pre W->pre.length<len->YieldAt F (n-1) Tryz.prog l #[encStr x] W fun e W'=>e=.returned (.bool true)/\J (pre++[x]) W')
 (W:World)(h0:J [] W) :
  CallsIn F n Tryz.prog 145 #[.func (.yield l) #[] #[],.pointer (some ⟨Bs,Bo,none⟩)] W fun e W'=>(∃v,e=.returned v)/\∃ys,ys=upto (fun j=>zs[j]?.getD []) len/\J ys W':=by
 obtain⟨hBs,hc⟩:=hBl _ _ h0;refine callsIn_of_wp Tryz.func145 rfl h7 ?_ hro;simp only[Tryz.ntmps145,LN,Kq,KT,Nat.reduceAdd,Nat.reduceSub,LB,LC,LU,LM,Le,KU]
 gi_wp2
 gi_loopw [7] (fun i wr=>∃k:Nat,k<=len/\i=.int .i64 k/\J (upto (fun j=>zs[j]?.getD []) k) wr)
  (fun i _=>len-(intOf i).toNat)
 case atStart=>exact⟨0,Kg _,rfl,h0⟩
 case round=>
  obtain⟨k,hk,rfl,hJs⟩:=hrel;have hcx:k<len->wr.cell? ⟨b,off+k,none⟩=some (encStr (zs[k]?.getD [])):=fun h=>(hBl _ _ hJs).2 k h;by_cases hlt:k<len
  ·obtain⟨fn,tmps,assign,body,hy,hR⟩:=hY _ (zs[k]?.getD []) wr hJs (by rw[xq];exact hlt);have hcx':=hcx hlt;have hsmall:(k:Int)+1<=9223372036854775807:=by unfold maxLen at hreach;omega
   gi_wp2
   refine hR.mono ?_;rintro e W3 ⟨rfl,hJ3⟩
   gi_wp2
   go_roundw
   case rel=>exact⟨k+1,by omega,by simp,by rw[DB];exact hJ3⟩
   case measure=>simp[intOf];omega
  ·obtain rfl:k=len:=by omega
   gi_wp2
   go_end0
   exact⟨⟨_,rfl⟩,_,rfl,hJs⟩
set_option maxRecDepth 100000 in
set_option maxHeartbeats 1000000 in
theorem Tryz.values1_nil(F:Fence)(n:Nat)(h7:F.fn 145)(hro:F.round=none)(l Bs Bo cap:Nat)(a:Option Addr)(J:List Str->World->Prop)(W:World)(hBs:W.cell? ⟨Bs,Bo,none⟩=some (.slice a 0 cap))(h0:J [] W) :
  CallsIn F n Tryz.prog 145 #[.func (.yield l) #[] #[],.pointer (some ⟨Bs,Bo,none⟩)] W fun e W'=>(∃v,e=.returned v)/\J [] W':=by
 refine callsIn_of_wp Tryz.func145 rfl h7 ?_ hro;simp only[Tryz.ntmps145,LN,Kq,KT,Nat.reduceAdd,Nat.reduceSub,LB,LC,LU,LM,Le,KU]
 gi_wp2
 gi_loopw [7] (fun i wr=>i=.int .i64 0/\J [] wr) (fun _ _=>0)
 case atStart=>exact⟨rfl,h0⟩
 case round=>
  obtain⟨rfl,hJs⟩:=hrel
  gi_wp2
  go_end0
  exact⟨⟨_,rfl⟩,hJs⟩
theorem Tryz.valuesL:vM Tryz.prog 145:=by
 intro w b o sv zs hz hc hs l J W a1 a2 a3 a4 a5;have hb:=aQ hc;rcases hs with⟨⟨a,cap,rfl⟩,rfl⟩|⟨g,off,cap,rfl,hg,hcs⟩
 ·refine(Tryz.values1_nil Fence.wide 2 trivial rfl l b o cap a J W ((a1.cell (p:=⟨b,o,none⟩) hb).trans hc) a5).mono ?_;rintro e W' ⟨h1,h2⟩;exact⟨h1,[],rfl,h2⟩
 ·refine(Tryz.values1 Fence.wide 2 trivial rfl (by omega) l b o g off zs.length cap zs hz J (fun pre W1 hJ=>⟨((a3 _ _ hJ).cell (p:=⟨b,o,none⟩) hb).trans hc,fun j hj=>((a3 _ _ hJ).cell (p:=⟨g,off+j,none⟩) hg).trans (hcs j hj)⟩)
   (fun pre x W1 h1 h2=>(a4 pre x W1 h1 h2).mono fun e W' h=>⟨h.1,h.2.1⟩) W a5).mono ?_
  rintro e W' ⟨h1,ys,h2,h3⟩;exact⟨h1,ys,by rw[h2,G3],h3⟩
end Go.Proofs
end
section
namespace Go.AL.Seat
open Go Go.AL Go.Proofs Go.Shelf Go.Pd
variable [Tabs]
theorem JT:SortL Tryz.prog Tryz.sorted200_ren:=
 ⟨Tryz.sorted200,⟨fun blk off cap ss W hH hblk hsz=>callsIn_wide.2 (Any.slices_Sort_string Tryz.lays190 blk off cap ss W hH hblk hsz),fun p cap W=>callsIn_wide.2 (Any.slices_Sort_string_none Tryz.lays190 p cap W)⟩,enters_of Tryz.func144 (by kernel_rfl) rfl⟩
theorem jP:ag Tryz.prog 95 (mB 145):=
 tq JT rfl (enters_of Tryz.func145 (by kernel_rfl) rfl) Tryz.valuesL (aB.mk' Tryz.func95 (by kernel_rfl))
theorem iS:ag Tryz.prog 97 mC:=tt Tryz.lays194 rfl (aB.mk' Tryz.func97 (by kernel_rfl))
theorem Ge:ag Tryz.prog 174 (p1 .str fun t=>⟨some (rL t),none,.tup [.int .i64 (lT t),.nilif],[]⟩):=Ao Tryz.lays172 rfl (aB.mk' Tryz.func174 (by kernel_rfl))
end Go.AL.Seat
end
section
namespace Go.AL.Seat
open Go Go.AL Go.Proofs Go.Shelf Go.Pd
class SeatLaid[Tabs]:Prop where
 max:∃m:Int,Tabs.tab 2 0 (.int .i64 m)
 utf:nh 0 1
variable [Tabs] [SeatLaid]
theorem xH:ag Tryz.prog 119 (p2 .str .str fun a b=>⟨some (b=pG),none,.str (lV a),[]⟩):=As Tryz.lays160 (by kernel_rfl) rfl (aB.mk' Tryz.func119 (by kernel_rfl))
theorem Ih:ag Tryz.prog 173 (p2 .str .str fun a b=>⟨some (b=[45]/\a.length<4294967281),none,.tup [.str (j9 a),.str (mD a),.bool (om a)],[]⟩):=
 let ⟨_,hm⟩:=SeatLaid.max;DI Tryz.lays145 hm rfl (aB.mk' Tryz.func173 (by kernel_rfl))
theorem ot:ag Tryz.prog 87 (p2 .str .str fun a b=>⟨some (b=[46]/\a.length<4294967281),none,.lst .str (splitB 46 a) none,[]⟩):=
 let ⟨_,hm⟩:=SeatLaid.max;xE Tryz.lays146 (by kernel_rfl) hm rfl (aB.mk' Tryz.func87 (by kernel_rfl))
theorem vT:ag Tryz.prog 177 (p2 .str .str fun a b=>⟨some (b.length=1),none,.bool (decide (b.getD 0 0∈a)),[]⟩):=rR Tryz.lays144 rfl (aB.mk' Tryz.func177 (by kernel_rfl))
theorem tw:ag Tryz.prog 175 (p2 .str (.int .u8) fun a c=>.ret (.int .i64 (G6 a c))):=pI Tryz.lays137 rfl (aB.mk' Tryz.func175 (by kernel_rfl))
theorem rU:ag Tryz.prog 165 (p1 .str fun s=>.ret (.tup [.int .i32 ((jO s).1:Int),.int .i64 ((jO s).2:Int)])):=oq Tryz.lays197 SeatLaid.utf rfl (aB.mk' Tryz.func165 (by kernel_rfl))
theorem DJ:ag Tryz.prog 276 (p1 .str fun s=>.ret (.bool (kO s).isNone)):=xG Tryz.lays196 SeatLaid.utf rfl (aB.mk' Tryz.func276 (by kernel_rfl))
end Go.AL.Seat
end
section
namespace Go.Proofs.YtbhedkjcdhgkhaaGreatDoor.Join
open Go.AL Go.AL.Seat Go.ChangeShapes Go.WideShapes Go.RowKit Go.Lib Go.Shelf
set_option maxRecDepth 1000000
theorem own:ownKnob Tryz.prog.godebug=none:=by kernel_rfl
theorem Ii:laidOutB Tryz.prog=true:=by kernel_rfl
theorem undB:Tryz.prog.underlying 4=some .bool:=by kernel_rfl
theorem undI:Tryz.prog.underlying 3=some (.int .i64):=by kernel_rfl
theorem dr:40<Tryz.prog.types.size:=Xo (by kernel_rfl)
def laid:List (String×DataW Unit):=Rows.usageFindsRow.laid
theorem JU:(Rows.laid_unicode_utf8_acceptRanges:DataW Unit)=acceptData:=by kernel_rfl
theorem JV{W:World}(h:W.ShapedOpen Tryz.prog):∃m,W.cell? ⟨2,0,none⟩=some (.int .i64 m):=
 cell_of_shapedOpen_int (t:=3) (zero:=#[.int .i64 0]) h (Xo (by kernel_rfl)) (by kernel_rfl) rfl (by kernel_rfl) (by kernel_rfl) undI
theorem kQ{W:World}(h:laidMet Tryz.prog laid W):Utf8Tabs 0 1 W:=
 utf8Tabs_of_readsT (ρ:=Tryz.lays196_ren) (U8Types.of196 Tryz.lays196) ⟨by kernel_rfl,by kernel_rfl,by kernel_rfl,by kernel_rfl,by kernel_rfl,by kernel_rfl,by kernel_rfl⟩
  (Pinned.utf8First_eq ▸ laidMet.reads h (by simp[laid,Rows.usageFindsRow,Rows.laid_unicode_utf8_first])) (JU ▸ laidMet.reads h (by simp[laid,Rows.usageFindsRow]))
theorem Gf{W:World}(h:laidMet Tryz.prog laid W)(hs:W.ShapedOpen Tryz.prog):@SeatLaid (rJ W):=by
 letI:Tabs:=rJ W
 obtain⟨m,hm⟩:=JV hs;obtain⟨u1,u2⟩:=kQ h;exact⟨⟨m,by decide,hm⟩,fun c hc=>⟨by decide,u1 c hc⟩,fun i hi=>⟨⟨by decide,(u2 i hi).1⟩,by decide,(u2 i hi).2⟩⟩
def z32:List Int:=[0,1,28,2,29,14,24,3,30,22,20,15,25,17,4,8,31,27,13,23,21,19,16,7,26,12,18,6,11,5,10,9]
def z64:List Int:=[0,1,56,2,57,49,28,3,61,58,42,50,38,29,17,4,62,47,59,36,45,43,51,22,53,39,33,30,24,18,12,5,63,55,48,27,60,41,37,16,46,35,44,21,52,32,23,11,54,26,40,15,34,20,31,10,25,14,19,9,13,8,7,6]
def zPow:List Int:=[1,10,100,1000,10000,100000,1000000,10000000,100000000,1000000000,10000000000,100000000000,1000000000000,10000000000000,100000000000000,1000000000000000,10000000000000000,100000000000000000,1000000000000000000,10000000000000000000]
def zAcc:List Int:=[128,191,160,191,128,159,144,191,128,143,0,0,0,0,0,0,0,0,0,0,0,0,0,0,0,0,0,0,0,0,0,0]
def Jk:List Int:=List.map Int.ofNat Pinned.utf8FirstZ
noncomputable def lE(os:Os):World:=
 let N:=(World.settled Tryz.prog os).heap.size
 let w0:=World.holding Tryz.prog os ⟨#[.cells #[.string ⟨#[118,97,108,117,101,32,111,117,116,32,111,102,32,114,97,110,103,101]⟩] 304,.cells #[.string ⟨#[105,110,118,97,108,105,100,32,115,121,110,116,97,120]⟩] 304],#[],[]⟩
 let put (h:Array Obj) (g:Nat) (cs:Array Value):Array Obj:=h.modify g fun
  |.cells _ t frozen=>.cells cs t frozen
  |o=>o
 let h0:=put (put w0.heap 3 #[.iface 302 (.pointer (some ⟨N+1,0,none⟩))]) 4 #[.iface 302 (.pointer (some ⟨N,0,none⟩))]
 let h1:=put (put (put h0 5 (zPow.map (Value.int .u64)).toArray) 6 (z32.map (Value.int .u8)).toArray) 7 (z64.map (Value.int .u8)).toArray
 let h2:=put (put h1 0 (Jk.map (Value.int .u8)).toArray) 1 (zAcc.map (Value.int .u8)).toArray
 {w0 with heap:=h2}
noncomputable abbrev N0:Nat:=(World.settled Tryz.prog default).heap.size
theorem Jl(os:Os)(args:Array Value):LaidIn Tryz.prog ((lE os).forCall (fun _ _=>0) ⟨#[],args,[]⟩).memory laid [6,7,5,1,4,N0,3,N0+1,0]:=
 LaidIn.of_run [6,7,5,1,4,N0,3,N0+1,0] 10 (by kernel_rfl) (by kernel_rfl) (by kernel_rfl) (by kernel_rfl)
theorem Gg(os:Os)(args:Array Value):laidMet Tryz.prog laid ((lE os).forCall (fun _ _=>0) ⟨#[],args,[]⟩).memory:=(Jl os args).met
end Go.Proofs.YtbhedkjcdhgkhaaGreatDoor.Join
end
noncomputable section
namespace Go.AL
open Go.ChangeShapes Go.WideShapes Go.RowKit
variable [Tabs]
variable {H:Type} {enc:TypeId×Value->H} {P:Program} {w:World} {base:Nat} {held:Bool}
structure UseAt(P:Program)(t:TypeId):Prop where
 ex:∃(f0 f1:Field),P.underlying t=some (.struct #[f0,f1])/\P.cellsOf t=2/\(f0.offset=0/\f1.offset=1)/\(P.cellsOf f0.type=1/\P.cellsOf f1.type=1)/\P.underlying f0.type=some .string/\P.underlying f1.type=some .string
structure ChgAt(P:Program)(t:TypeId):Prop where
 ex:∃(f0 f1:Field),P.underlying t=some (.struct #[f0,f1])/\P.cellsOf t=2/\(f0.offset=0/\f1.offset=1)/\(P.cellsOf f0.type=1/\P.cellsOf f1.type=1)/\P.underlying f0.type=some (.int .i64)/\P.underlying f1.type=some .string
end Go.AL
end
section
namespace Go.Pd
open Go.AL
def df(b:UInt8):Bool:=!(decide (bI b<32)&&!decide (bI b=10)&&!decide (bI b=9))
def iT(s:Str):Bool:=s.all df&&(kO s).isNone
def bg(s:Shape):Bool:=decide (bH s=0)&&allS ao s
def cJ(t:Trm)(n v s p:Nat):Bool:=decide (t.names.length=n)&&decide (t.vars.length=v)&&decide (t.shapes.length=s)&&decide (t.parts.length=p)
def iC(t:Trm):Bool:=decide (0<=t.pos)&&(decide (t.n=0)||decide (t.kind=1))&&(decide (t.pkg=[])||decide (t.kind=5))&&t.shapes.all bg
def kS(l:List Str):Bool:=l.all au&&decide l.Nodup
def k9(t:Trm):Bool:=
 if t.kind=1 then decide (t.name=[])&&decide (0<=t.n)&&decide (t.n<=999999999999999)&&cJ t 0 0 0 0
 else if t.kind=2 then iT t.name&&cJ t 0 0 0 0
 else if t.kind=3∨t.kind=4 then decide (t.name=[])&&cJ t 0 0 0 0
 else if t.kind=5 then au t.name&&(decide (t.pkg=[])||au t.pkg)&&cJ t 0 0 0 0
 else if t.kind=6 then decide (t.name=[])&&decide (t.names.length<=4096)&&kS t.names&&cJ t t.names.length 0 t.names.length 1
 else if t.kind=7 then decide (t.name=[])&&decide (0<t.parts.length)&&cJ t 0 0 0 t.parts.length
 else if t.kind=8 then decide (t.name=[])&&kS t.names&&cJ t t.names.length 0 0 t.names.length
 else if t.kind=9∨t.kind=10 then au t.name&&cJ t 0 0 0 1
 else if t.kind=11 then decide (t.name=[])&&cJ t 0 0 1 t.parts.length
 else if t.kind=12 then decide (t.name=[])&&cJ t 0 0 1 3
 else if t.kind=13 then decide (t.name=[])&&kS t.names&&t.vars.all au&&cJ t t.names.length t.names.length (t.names.length+1) (t.names.length+1)
 else if t.kind=14 then au t.name&&cJ t 0 0 0 2
 else if t.kind=15 then decide (t.name=[])&&cJ t 0 0 1 1
 else if t.kind=16∨t.kind=17 then bO t.name&&cJ t 0 0 0 1
 else false
def az(t:Trm):Bool:=iC t&&k9 t
mutual
def allT(f:Trm->Bool):Trm->Bool
 |⟨k,g,q,z,ns,vs,ss,ps,pp⟩=>f ⟨k,g,q,z,ns,vs,ss,ps,pp⟩&&allTL f ps
def allTL(f:Trm->Bool):List Trm->Bool
 |[]=>true
 |p::r=>allT f p&&allTL f r
end
theorem allT_eq(f:Trm->Bool)(t:Trm):allT f t=(f t&&allTL f t.parts):=by cases t;rw[allT]
theorem allTL_all(f:Trm->Bool):∀l:List Trm,allTL f l=l.all (allT f)
 |[]=>rfl
 |p::r=>by rw[KR,<-allTL_all f r];rw[allTL]
def cG(t:Trm):Bool:=allT (fun x=>decide (x.names.length<=8796093022208)) t
theorem DK{t x:Trm}(h:cG t=true)(hx:x∈t.parts):cG x=true:=by unfold cG at h⊢;rw[allT_eq,Ka,allTL_all]at h;exact Kp.1 h.2 x hx
theorem Av{t:Trm}(h:cG t=true):t.names.length<=8796093022208:=by unfold cG at h;rw[allT_eq,Ka]at h;exact Xo h.1
def db(t:Trm):Int:=
 if 4096<(countT t 4096).1 then 3 else if 40<(countT t 4096).2 then 91 else if allT az t=true then 0 else 80
end Go.Pd
namespace Go.Pd
open Go.AL
theorem dnZ(n:Nat):decide ((n:Int)=0)=decide (n=0):=L0.2 (by omega)
theorem dn1(n:Nat):decide ((n:Int)=1)=decide (n=1):=L0.2 (by omega)
theorem dn2(n:Nat):decide ((n:Int)=2)=decide (n=2):=L0.2 (by omega)
theorem dn3(n:Nat):decide ((n:Int)=3)=decide (n=3):=L0.2 (by omega)
theorem dnN(n m:Nat):decide ((n:Int)=(m:Int))=decide (n=m):=L0.2 (by omega)
theorem dnS(n m:Nat):decide ((n:Int)=(m:Int)+1)=decide (n=m+1):=L0.2 (by omega)
theorem dnL(n:Nat):decide ((n:Int)<=4096)=decide (n<=4096):=L0.2 (by omega)
theorem dnP(n:Nat):decide ((0:Int)<(n:Int))=decide (0<n):=L0.2 (by omega)
theorem xI(s:Str)(k:Nat)(h:k<s.length):(cK s).getD k (dfl (Ty.int IntKind.u8))=bI (s.getD k 0):=by unfold cK;simp[Ke,h,bI]
theorem ue(b:UInt8):df b=false↔(bI b<32/\bI b≠10/\bI b≠9):=by unfold df;simp only[Bool.not_eq_false',Ka,Kc,Ko,KD];omega
end Go.Pd
end
noncomputable section
namespace Go.AL
open Go.ChangeShapes Go.WideShapes Go.RowKit
variable [Tabs]
structure GoodR{H:Type}(P:Program)(N M:Nat)(g:TypeId->DataW H->Prop):Prop where
 str:∀t s,P.underlying t=some .string->g t (.lit (.string s))->s.length<=M
 len:∀t e es sp,P.underlying t=some (.slice e)->g t (.slice es sp)->16<=P.bytesOf e->es.length<=N
 el:∀t e es sp,P.underlying t=some (.slice e)->g t (.slice es sp)->∀x∈es,g e x
 part:∀t fs ps,P.underlying t=some (.struct fs)->g t (.agg ps)->∀(i:Nat)(f:Field) p,fs[i]?=some f->ps[i]?=some p->g f.type p
variable {H:Type} {enc:TypeId×Value->H} {P:Program} {w:World} {base:Nat} {held:Bool}
theorem Jm{N M:Nat}{g:TypeId->DataW H->Prop}(hb:GoodR P N M g){t e:TypeId}{τ:Ty}{Q:den τ->Prop}{fuel:Nat}{cs:List Value}{x:DataW H×List MemPlace}(ht:P.underlying t=some (.slice e))(hc:P.cellsOf e=ab τ)(h:DataW.trod enc P w base (fun _=>true) held fuel t cs=some x)(hg:g t x.1)
 (hel:∀(n:Nat)(ds:List Value)(y:DataW H×List MemPlace),fuel=n+1->DataW.trod enc P w base (fun _=>true) held n e ds=some y->g e y.1->∃z:den τ,VL (Om0 w) (cells τ z) ds/\Q z)
 (hsp:∀a len cap,cs=[.slice (some a) len cap]->a.spot=none):∃(l:List (den τ))(v:Value),cs=[v]/\V (Om0 w) (.lst τ l none) v/\(16<=P.bytesOf e->l.length<=N)/\∀z∈l,Q z:=by
 rcases MQ ht h with⟨rfl,_⟩|⟨a,len,cap,elems,rest,n,hfu,rfl,hx,_,hlc,hcm,hlen,hels,_,_⟩
 ·exact⟨[],_,rfl,.lstNil τ none (fun id hid=>by cases hid),fun _=>Kg _,fun z hz=>by cases hz⟩
 ·have hs:=hsp a len cap rfl;obtain⟨bl,off,spot⟩:=a;simp only at hs;subst hs
  have each:∀i,i<len->∃z:den τ,∃ds:List Value,ds.length=ab τ/\(∀j,j<ab τ->w.cell? ⟨bl,off+(i *ab τ+j),none⟩=ds[j]?)/\VL (Om0 w) (cells τ z) ds/\Q z:=by
   intro i hi;have h1:=hels i hi;obtain⟨y,hy⟩:∃y,elems[i]?=some y:=⟨_,K9 (by omega)⟩;rw[hy,hc,Mv]at h1;obtain⟨ds,hd,hy'⟩:=h1;obtain⟨_,hdl,hdc⟩:=Nc hd
   obtain⟨z,hz,hq⟩:=hel n ds y hfu hy' (by
    rw[hx]at hg;exact hb.el _ _ _ _ ht hg _ (List.mem_map_of_mem (KA hy)))
   refine⟨z,ds,hdl,fun j hj=>?_,hz,hq⟩;have:=hdc j hj
   have ha:∀(o n:Nat),(⟨bl,o,none⟩:Addr).add n=⟨bl,o+n,none⟩:=by
    intro o n;unfold Addr.add;by_cases h0:n=0
    ·subst h0;rfl
    ·rw[Kb h0]
   rw[ha,ha,LZ]at this;exact this
  have hz:∃l:List (den τ),l.length=len/\∀i z,l[i]?=some z->∃ds:List Value,ds.length=ab τ/\(∀j,j<ab τ->w.cell? ⟨bl,off+(i *ab τ+j),none⟩=ds[j]?)/\VL (Om0 w) (cells τ z) ds/\Q z:=by
   refine⟨(List.range len).attach.map fun i=>(each i.1 (LG.1 i.2)).choose,by simp,fun i z hi=>?_⟩;have hil:i<len:=by have:=(KS.1 hi).1;simpa using this
   simp only[KF,KB]at hi;obtain⟨⟨k,hk⟩,h1,h2⟩:=hi;have hki:k=i:=by have:=KS.1 h1;obtain⟨_,e⟩:=this;have:=Lu Subtype.val e;simpa using this.symm
   subst hki;rw[<-h2];exact(each k (LG.1 hk)).choose_spec
  obtain⟨l,hll,hle⟩:=hz;have hQ:∀z∈l,Q z:=fun z hz=>by obtain⟨i,hi⟩:=LX hz;obtain⟨_,_,_,_,hq⟩:=hle i z hi;exact hq
  have hL:16<=P.bytesOf e->l.length<=N:=fun h16=>by
   rw[hx]at hg;rw[hll,<-hlen];have:=hb.len _ _ _ _ ht hg h16
   rwa [Lr]at this
  refine⟨l,_,rfl,?_,hL,hQ⟩;have key:=V.lst (Ω:=Om0 w) τ l none bl off cap (fun i j=>(w.cell? ⟨bl,off+(i *ab τ+j),none⟩).getD undef) (by omega) (by unfold maxLen at hcm;unfold b6;omega) (fun id hid=>by cases hid) (fun i z hz j c hj=>?_) (fun i z hz j c hj=>?_)
  ·rw[hll]at key;exact key
  ·obtain⟨ds,d1,d2,d3,_⟩:=hle i z hz;have hjw:j<ab τ:=by rw[<-aU τ z];exact(KS.1 hj).1
   have hv:w.cell? ⟨bl,off+(i *ab τ+j),none⟩=some ds[j]:=by rw[d2 j hjw];exact K9 (by omega)
   refine⟨⟨_,hv⟩,?_⟩;show w.cell? _=_;rw[hv];rfl
  ·obtain⟨ds,d1,d2,d3,_⟩:=hle i z hz;have hjw:j<ab τ:=by rw[<-aU τ z];exact(KS.1 hj).1
   have hd:ds[j]?=some ds[j]:=K9 (by omega);rw[d2 j hjw,hd];exact d3.2 j c ds[j] hj hd
theorem vU{N M:Nat}{g:TypeId->DataW H->Prop}(hb:GoodR P N M g){t e:TypeId}{τ:Ty}{Q:den τ->Prop}{fuel:Nat}{cs:List Value}{x:DataW H×List MemPlace}(ht:P.underlying t=some (.slice e))(hc:P.cellsOf e=ab τ)(hw:0<ab τ)
 (h:DataW.trod enc P w base (fun _=>true) held fuel t cs=some x)(hg:g t x.1)
 (hel:∀(n:Nat)(ds:List Value)(y:DataW H×List MemPlace),fuel=n+1->DataW.trod enc P w base (fun _=>true) held n e ds=some y->g e y.1->∃z:den τ,VL (Om0 w) (cells τ z) ds/\Q z) :
  ∃(l:List (den τ))(v:Value),cs=[v]/\V (Om0 w) (.lst τ l none) v/\(16<=P.bytesOf e->l.length<=N)/\∀z∈l,Q z:=by
 have h0:=h;rcases MQ ht h with⟨rfl,_⟩|⟨a,len,cap,elems,rest,n,hfu,rfl,_,_,hlc,hcm,hlen,hels,hrest,_⟩
 ·exact⟨[],_,rfl,.lstNil τ none (fun id hid=>by cases hid),fun _=>Kg _,fun z hz=>by cases hz⟩
 ·by_cases hcap:cap=0
  ·have:len=0:=by omega
   subst hcap this;exact⟨[],_,rfl,.lstVoid τ a,fun _=>Kg _,fun z hz=>by cases hz⟩
  ·refine Jm hb ht hc h0 hg hel fun a' len' cap' e'=>?_;simp only[L7,Lm,Xs,KI]at e';obtain⟨rfl,rfl,rfl⟩:=e'
   have hr:∃(ad:Addr)(y:DataW H×List MemPlace),ad=a/\(w.cells? base ad (P.cellsOf e)).bind (DataW.trod enc P w base (fun _=>true) held n e)=some y:=by
    by_cases hl:len=0
    ·obtain⟨r1,r2⟩:=hrest rfl;have:=r2 0 (by omega);rw[hl]at this;refine⟨_,_,?_,this.trans (K9 (by omega))⟩;simp[Addr.add]
    ·have:=hels 0 (by omega);refine⟨_,_,?_,this.trans (K9 (by omega))⟩;simp[Addr.add]
   obtain⟨ad,y,rfl,hy⟩:=hr;rw[Mv]at hy;obtain⟨ds,hd,_⟩:=hy;obtain⟨_,hdl,hdc⟩:=Nc hd;have:=hdc 0 (by rw[hc];exact hw);have ha:ad.add 0=ad:=by simp[Addr.add]
   rw[ha,K9 (by rw[hdl,hc];exact hw)]at this;unfold World.cell? at this;split at this
   ·split at this
    ·cases this
    ·rename_i hs;cases hsp:ad.spot
     ·rfl
     ·rw[hsp]at hs;exact absurd rfl hs
   ·cases this
theorem ni{N M:Nat}{g:TypeId->DataW H->Prop}(hb:GoodR P N M g){sp:Nat->Bool}{t:TypeId}{fs:Array Field}{fuel:Nat}{cs:List Value}{x:DataW H×List MemPlace}(ht:P.underlying t=some (.struct fs))(h:DataW.trod enc P w base sp held fuel t cs=some x)(hg:g t x.1) :
  ∃n,fuel=n+1/\cs.length=P.cellsOf t/\∀(i:Nat)(f:Field),fs[i]?=some f->∃y,DataW.trod enc P w base sp held n f.type ((cs.drop f.offset).take (P.cellsOf f.type))=some y/\g f.type y.1:=by
 obtain⟨xs,n,hn,hx,hl,hs,hf⟩:=DataW.trod_struct ht h;refine⟨n,hn,hl,fun i f hif=>?_⟩
 have hi:i<xs.length:=by
  rw[hs];rcases Kl i fs.size with k|k
  ·exact k
  ·rw[KO k]at hif;cases hif
 refine⟨xs[i],by rw[hf i f hif];exact K9 hi,?_⟩;rw[hx]at hg;exact hb.part _ _ _ ht hg i f _ hif (by rw[KF,K9 hi];rfl)
theorem Jn{N M:Nat}{g:TypeId->DataW H->Prop}(hb:GoodR P N M g){sp:Nat->Bool}{t:TypeId}{fuel:Nat}{cs:List Value}{x:DataW H×List MemPlace}(ht:P.underlying t=some .string)(h:DataW.trod enc P w base sp held fuel t cs=some x)(hg:g t x.1) :
  ∃(s:Str)(v:Value),cs=[v]/\V (Om0 w) (.str s) v/\s.length<=M:=by
 obtain⟨s,rfl,hx,hw⟩:=DataW.trod_string ht h;refine⟨s.data.toList,_,rfl,?_,by rw[hx]at hg;exact hb.str _ _ ht hg⟩;have e:s=⟨s.data.toList.toArray⟩:=by cases s;simp
 have hl:s.data.toList.length<=b6:=by have:s.data.size=s.size:=rfl;unfold maxLen at hw;unfold b6;simp only[LJ,this];omega
 have:=V.str (Ω:=Om0 w) s.data.toList hl;rw[<-e]at this;exact this
structure TermAt(P:Program)(t:TypeId):Prop where
 ex:∃(f0 f1 f2 f3 f4 f5 f6 f7 f8:Field)(e g:TypeId),P.underlying t=some (.struct #[f0,f1,f2,f3,f4,f5,f6,f7,f8])/\P.cellsOf t=9/\
  (f0.offset=0/\f1.offset=1/\f2.offset=2/\f3.offset=3/\f4.offset=4/\f5.offset=5/\f6.offset=6/\f7.offset=7/\f8.offset=8)/\
  (P.cellsOf f0.type=1/\P.cellsOf f1.type=1/\P.cellsOf f2.type=1/\P.cellsOf f3.type=1/\P.cellsOf f4.type=1/\P.cellsOf f5.type=1/\P.cellsOf f6.type=1/\P.cellsOf f7.type=1/\P.cellsOf f8.type=1)/\
  (P.underlying f0.type=some (.int .i64)/\P.underlying f1.type=some .string/\P.underlying f2.type=some .string/\P.underlying f3.type=some (.int .i64)/\P.underlying f4.type=some (.slice e)/\P.underlying f5.type=some (.slice e)/\
   P.underlying f6.type=some (.slice g)/\P.underlying f7.type=some (.slice t)/\P.underlying f8.type=some (.int .i64))/\(P.underlying e=some .string/\P.cellsOf e=1/\P.bytesOf e=16)/\ShapeAt P g
def ja(N M:Nat)(x:Trm):Bool:=decide (x.names.length<=N)&&decide (x.name.length<=M)
theorem Jo{N M:Nat}{g:TypeId->DataW H->Prop}(hb:GoodR P N M g){t:TypeId}(hs:TermAt P t):∀(fuel:Nat)(cs:List Value)(x:DataW H×List MemPlace),DataW.trod enc P w base (fun _=>true) held fuel t cs=some x->g t x.1->
  ∃s:Trm,VL (Om0 w) (cells (.st .term) s) cs/\Pd.allT (ja N M) s=true:=by
 obtain⟨f0,f1,f2,f3,f4,f5,f6,f7,f8,e,e6,ht,hc,⟨o0,o1,o2,o3,o4,o5,o6,o7,o8⟩,⟨c0,c1,c2,c3,c4,c5,c6,c7,c8⟩,⟨u0,u1,u2,u3,u4,u5,u6,u7,u8⟩,⟨us,ce,b16⟩,hg⟩:=hs;have cg:P.cellsOf e6=ab (.st .shape):=by obtain⟨_,_,_,_,_,_,_,hc,_⟩:=hg;rw[hc];rfl
 intro fuel
 induction fuel using Nat.strongRecOn with
 |_ fuel ih=>
 intro cs x h hN;obtain⟨n,hn,hl,hf⟩:=ni hb ht h hN;rw[hc]at hl;obtain⟨y0,h0,_⟩:=hf 0 f0 rfl;obtain⟨y1,h1,_⟩:=hf 1 f1 rfl;obtain⟨y2,h2,b2⟩:=hf 2 f2 rfl;obtain⟨y3,h3,_⟩:=hf 3 f3 rfl;obtain⟨y4,h4,b4⟩:=hf 4 f4 rfl;obtain⟨y5,h5,_⟩:=hf 5 f5 rfl;obtain⟨y6,h6,_⟩:=hf 6 f6 rfl;obtain⟨y7,h7,b7⟩:=hf 7 f7 rfl;obtain⟨y8,h8,_⟩:=hf 8 f8 rfl
 match cs,hl with
 |[a0,a1,a2,a3,a4,a5,a6,a7,a8],_=>
  rw[o0,c0]at h0;rw[o1,c1]at h1;rw[o2,c2]at h2;rw[o3,c3]at h3;rw[o4,c4]at h4;rw[o5,c5]at h5;rw[o6,c6]at h6;rw[o7,c7]at h7;rw[o8,c8]at h8;simp only[LF,LK,Lv,Mg]at h0 h1 h2 h3 h4 h5 h6 h7 h8;obtain⟨k,e0,v0⟩:=k8 u0 h0;obtain⟨p,w1,e1,v1⟩:=lR u1 h1;obtain⟨m,w2,e2,v2,l2⟩:=Jn hb u2 h2 b2;obtain⟨z,e3,v3⟩:=k8 u3 h3;have strs:∀(n:Nat)(ds:List Value)(y:DataW H×List MemPlace),DataW.trod enc P w base (fun _=>true) held n e ds=some y->∃z:den .str,VL (Om0 w) (cells .str z) ds:=fun n ds y hy=>by obtain⟨s,v,rfl,hv⟩:=lR us hy;exact⟨s,VL.cons hv .nil⟩
  obtain⟨ns,w4,e4,v4,l4,_⟩:=vU (τ:=.str) (Q:=fun _=>True) hb u4 ce (by decide) h4 b4 (fun n ds y _ hy _=>by obtain⟨z,hz⟩:=strs n ds y hy;exact⟨z,hz,trivial⟩);obtain⟨vs,w5,e5,v5⟩:=mz (τ:=.str) u5 ce (by decide) h5 (fun n ds y _ hy=>strs n ds y hy);obtain⟨ss,w6,e6,v6⟩:=mz (τ:=.st .shape) u6 cg (by decide) h6 (fun n ds y _ hy=>Cy hg n ds y hy);obtain⟨ps,w7,e7,v7,_,q7⟩:=vU (τ:=.st .term) (Q:=fun s=>Pd.allT (ja N M) s=true) hb u7 (by rw[hc];rfl) (by decide) h7 b7 (fun k ds y hk hy hle=>ih k (by omega) ds y hy hle);obtain⟨at_,e8,v8⟩:=k8 u8 h8;simp only[L7,KI]at e0 e1 e2 e3 e4 e5 e6 e7 e8;subst e0 e1 e2 e3 e4 e5 e6 e7 e8;refine⟨⟨k,p,m,z,ns,vs,ss,ps,at_⟩,VL.cons v0 (VL.cons v1 (VL.cons v2 (VL.cons v3 (VL.cons v4 (VL.cons v5 (VL.cons v6 (VL.cons v7 (VL.cons v8 .nil)))))))),?_⟩;rw[Pd.allT_eq,Ka,Pd.allTL_all,Kp];refine⟨?_,q7⟩;unfold ja;rw[Xd (show ns.length<=N from l4 (Nat.le_of_eq b16.symm)),Xd (show m.length<=M from l2)];rfl
end Go.AL
end
noncomputable section
namespace Go.AL
open Go.ChangeShapes Go.WideShapes Go.RowKit
variable [Tabs]
variable {H:Type} {enc:TypeId×Value->H} {P:Program} {w:World} {base:Nat} {held:Bool}
def Jp(P:Program)(t:TypeId):Prop:=∀(fs:Array Field)(i:Nat)(f:Field)(e:TypeId),P.underlying t=some (.struct fs)->fs[i]?=some f->P.underlying f.type=some (.slice e)->16<=P.bytesOf e
structure ItemAtQ(P:Program)(t:TypeId):Prop where
 ex:∃(f0 f1 f2:Field),P.underlying t=some (.struct #[f0,f1,f2])/\P.cellsOf t=7/\(f0.offset=0/\f1.offset=1/\f2.offset=2)/\
  (P.cellsOf f0.type=1/\P.cellsOf f1.type=1/\P.cellsOf f2.type=5)/\P.underlying f0.type=some (.int .i64)/\P.underlying f1.type=some .string/\ShapeAt P f2.type/\Jp P f2.type
structure DepAt(P:Program)(t:TypeId):Prop where
 ex:∃(f0 f1:Field)(e:TypeId),P.underlying t=some (.struct #[f0,f1])/\P.cellsOf t=2/\(f0.offset=0/\f1.offset=1)/\(P.cellsOf f0.type=1/\P.cellsOf f1.type=1)/\P.underlying f0.type=some .string/\P.underlying f1.type=some (.slice e)/\ItemAtQ P e/\16<=P.bytesOf e
end Go.AL
end
noncomputable section
namespace Go.Pd
open Go Go.AL
def ltU(a b:Nam):Bool:=decide (a.pkg<b.pkg)||(decide (a.pkg=b.pkg)&&decide (a.name<b.name))
mutual
def useS:Shape->List Nam
 |⟨k,p,n,_,ps⟩=>(if k=9/\p≠[]then[⟨p,n⟩]else[])++useSL ps
def useSL:List Shape->List Nam
 |[]=>[]
 |p::r=>useS p++useSL r
end
mutual
def useT:Trm->List Nam
 |⟨k,g,q,_,_,_,ss,ps,_⟩=>(if k=5/\g≠[]then[⟨g,q⟩]else[])++(useSL ss++useTL ps)
def useTL:List Trm->List Nam
 |[]=>[]
 |p::r=>useT p++useTL r
end
theorem CA(s:Shape):useS s=(if s.kind=9/\s.pkg≠[]then[⟨s.pkg,s.name⟩]else[])++useSL s.parts:=by cases s;rw[useS]
theorem qa(t:Trm):useT t=(if t.kind=5/\t.pkg≠[]then[⟨t.pkg,t.name⟩]else[])++(useSL t.shapes++useTL t.parts):=by cases t;rw[useT]
theorem ou:∀a b:List Shape,useSL (a++b)=useSL a++useSL b
 |[],b=>by rw[useSL];rfl
 |x::a,b=>by rw[KU,useSL,useSL,ou a b,KQ]
theorem ow:∀a b:List Trm,useTL (a++b)=useTL a++useTL b
 |[],b=>by rw[useTL];rfl
 |x::a,b=>by rw[KU,useTL,useTL,ow a b,KQ]
def Aw(m:List (Nam×Int))(u:Nam):List (Nam×Int):=dA m u (IntKind.i64.wrap ((dF m u).getD 0+1))
def aI(m:List (Nam×Int))(l:List Nam):List (Nam×Int):=l.foldl Aw m
theorem gI(m:List (Nam×Int))(a b:List Nam):aI m (a++b)=aI (aI m a) b:=N9
def cA:List Nam->Nam->List Nam
 |[],u=>[u]
 |x::r,u=>if ltU x u=true then x::cA r u else if x=u then x::r else u::x::r
def an(l:List Nam)(us:List Nam):List Nam:=us.foldl cA l
def xJ(l:List Nam):Prop:=l.Pairwise fun a b=>ltU a b=true
theorem iU(a:Nam):ltU a a=false:=by unfold ltU;simp[List.lt_irrefl]
theorem mE{a b c:Nam}(h:ltU a b=true)(k:ltU b c=true):ltU a c=true:=by
 unfold ltU at *
 simp only[L6,Ka,Kc]at *
 rcases h with h|⟨h1,h2⟩<;>rcases k with k|⟨k1,k2⟩
 ·exact .inl (List.lt_trans h k)
 ·exact .inl (k1 ▸ h)
 ·exact .inl (h1 ▸ k)
 ·exact .inr ⟨h1.trans k1,List.lt_trans h2 k2⟩
theorem lF(a b:Nam):ltU a b=true∨a=b∨ltU b a=true:=by
 unfold ltU;simp only[L6,Ka,Kc];rcases List.le_total a.pkg b.pkg with h|h
 all_goals
  by_cases e:a.pkg=b.pkg
  ·rcases List.le_total a.name b.name with k|k<;>by_cases f:a.name=b.name
   ·right;left;cases a;cases b;simp_all
   ·left;right;exact⟨e,Mj fun q=>f (MR k (List.not_lt.1 q))⟩
   ·right;left;cases a;cases b;simp_all
   ·right;right;right;exact⟨e.symm,Mj fun q=>f (MR (List.not_lt.1 q) k)⟩
 ·left;left;exact Mj fun q=>e (MR h (List.not_lt.1 q))
 ·right;right;left;exact Mj fun q=>e (MR (List.not_lt.1 q) h)
theorem rV(u v:Nam):∀l:List Nam,v∈cA l u↔v∈l∨v=u
 |[]=>by simp[cA]
 |x::r=>by
  unfold cA;split
  ·rw[Ks,rV u v r,Ks];exact or_assoc.symm
  ·split
   ·rename_i _ e;subst e;rw[Ks];exact⟨.inl,fun h=>h.elim id .inl⟩
   ·rw[Ks];exact Or.comm
theorem xK(u:Nam):∀{l:List Nam},xJ l->xJ (cA l u)
 |[],_=>List.pairwise_singleton _ _
 |x::r,h=>by
  have h1:=Lj.1 h;unfold cA;split
  ·rename_i k;refine Lj.2 ⟨fun y hy=>?_,xK u h1.2⟩;rcases(rV u y r).1 hy with q|rfl
   ·exact h1.1 y q
   ·exact k
  ·rename_i k;split
   ·exact h
   ·rename_i e
    have k2:ltU u x=true:=by
     rcases lF x u with q|q|q
     ·exact absurd q k
     ·exact absurd q e
     ·exact q
    refine Lj.2 ⟨fun y hy=>?_,h⟩;rcases Ks.1 hy with rfl|q
    ·exact k2
    ·exact mE k2 (h1.1 y q)
theorem uf:∀(us:List Nam) {l:List Nam},xJ l->xJ (an l us)
 |[],_,h=>h
 |u::r,_,h=>uf r (xK u h)
theorem ug(v:Nam):∀(us l:List Nam),v∈an l us↔v∈l∨v∈us
 |[],l=>by simp[an]
 |u::r,l=>by show v∈an (cA l u) r↔_;rw[ug v r,rV,Ks];exact or_assoc
theorem uh(m:List (Nam×Int))(u v:Nam)(n:Int):v∈(dA m u n).map (·.1)↔v∈m.map (·.1)∨v=u:=by
 induction m with
 |nil=>simp[dA]
 |cons x r ih=>
  obtain⟨a,c⟩:=x;unfold dA;split
  ·rename_i e;subst e;simp only[KN,Ks];exact⟨fun h=>h.elim .inr (fun q=>.inl (.inr q)),fun h=>h.elim id .inl⟩
  ·simp only[KN,Ks,ih];exact or_assoc.symm
theorem ui(v:Nam):∀(us:List Nam)(m:List (Nam×Int)),v∈(aI m us).map (·.1)↔v∈m.map (·.1)∨v∈us
 |[],m=>by simp[aI]
 |u::r,m=>by show v∈(aI (Aw m u) r).map (·.1)↔_;rw[ui v r,Aw,uh,Ks];exact or_assoc
theorem vV:∀{a b:List Nam},xJ a->xJ b->(∀v,v∈a↔v∈b)->a=b
 |[],[],_,_,_=>rfl
 |[],y::_,_,_,h=>nomatch (h y).2 (KK ..)
 |x::_,[],_,_,h=>nomatch (h x).1 (KK ..)
 |x::r,y::s,ha,hb,h=>by
  have a1:=Lj.1 ha;have b1:=Lj.1 hb
  have e:x=y:=by
   rcases Ks.1 ((h x).1 (KK ..))with q|q
   ·exact q
   ·rcases Ks.1 ((h y).2 (KK ..))with p|p
    ·exact p.symm
    ·have:=mE (a1.1 y p) (b1.1 x q);rw[iU]at this;cases this
  subst e;rw[vV a1.2 b1.2 fun v=>?_];have n1:x∉r:=fun q=>by have:=a1.1 x q;rw[iU]at this;cases this
  have n2:x∉s:=fun q=>by have:=b1.1 x q;rw[iU]at this;cases this
  refine⟨fun q=>?_,fun q=>?_⟩
  ·rcases Ks.1 ((h v).1 (Kx _ q))with e|p
   ·subst e;exact absurd q n1
   ·exact p
  ·rcases Ks.1 ((h v).2 (Kx _ q))with e|p
   ·subst e;exact absurd q n2
   ·exact p
def leU(a b:Nam):Bool:=!ltU b a
def fO(l:List Nam):List Nam:=l.mergeSort leU
theorem uj{l:List Nam}(h:l.Nodup):xJ (fO l):=by
 have h1:(fO l).Pairwise fun a b=>leU a b=true:=List.pairwise_mergeSort (fun a b c p q=>by
  unfold leU at *
  rw[Ko]at *
  rcases LV (ltU c a)with k|k
  ·rcases lF a b with t|t|t
   ·rw[mE k t]at q;cases q
   ·subst t;rw[k]at q;cases q
   ·rw[t]at p;cases p
  ·exact k) (fun a b=>by
  unfold leU;rcases lF a b with t|t|t
  ·have:ltU b a=false:=by
    rcases LV (ltU b a)with k|k
    ·have:=mE t k;rw[iU]at this;cases this
    ·exact k
   rw[this];rfl
  ·subst t;rw[iU];rfl
  ·have:ltU a b=false:=by
    rcases LV (ltU a b)with k|k
    ·have:=mE t k;rw[iU]at this;cases this
    ·exact k
   rw[this];cases ltU b a<;>rfl) l
 have h2:(fO l).Nodup:=(List.mergeSort_perm l leU).nodup_iff.2 h;refine List.Pairwise.imp (fun{a b} q=>?_) (h1.and h2);obtain⟨q1,q2⟩:=q;rcases lF a b with t|t|t
 ·exact t
 ·exact absurd t q2
 ·unfold leU at q1;rw[t]at q1;cases q1
theorem Gh(us:List Nam)(h:((aI [] us).map (·.1)).Nodup):fO ((aI [] us).map (·.1))=an [] us:=
 vV (uj h) (uf us List.Pairwise.nil) fun v=>by rw[fO,N3,ui,ug];simp
end Go.Pd
end
section
namespace Go.Pd
open Go.AL
mutual
def sizeF:Shape->Int->Int
 |⟨_,_,_,_,ps⟩,m=>sizeL ps 1 m
def sizeL:List Shape->Int->Int->Int
 |[],n,_=>n
 |p::r,n,m=>if n<=m then sizeL r (n+sizeF p (m-n)) m else n
end
mutual
theorem sizeF_bd:∀(s:Shape)(m:Int),0<=m->1<=sizeF s m/\sizeF s m<=m+1
 |⟨_,_,_,_,ps⟩,m,h=>by simp only[sizeF];exact sizeL_bd ps 1 m (by omega) (by omega)
theorem sizeL_bd:∀(l:List Shape)(n m:Int),1<=n->n<=m+1->1<=sizeL l n m/\sizeL l n m<=m+1
 |[],n,m,h1,h2=>by simp only[sizeL];omega
 |p::r,n,m,h1,h2=>by
  simp only[sizeL];split
  ·have:=sizeF_bd p (m-n) (by omega);exact sizeL_bd r _ m (by omega) (by omega)
  ·omega
end
def dI:Str->Nat
 |[]=>0
 |b::r=>if ep (bI b)=true then dI r+1 else 0
theorem uk:∀s:Str,(dI s=s.length↔(s.all fun c=>ep (bI c))=true)
 |[]=>by simp[dI]
 |b::r=>by
  simp only[dI,Kq,KR,Ka];by_cases h:ep (bI b)=true
  ·rw[Kf h,<-uk r];constructor
   ·intro e;exact⟨h,by omega⟩
   ·rintro⟨_,e⟩;omega
  ·rw[Kb h];constructor
   ·intro e;omega
   ·rintro⟨e,_⟩;exact absurd e h
theorem pj(first:Int->Bool)(s:Str):cW first s=(!decide (s=[])&&decide (s.length<=24)&&first (bI (s.getD 0 0))&&decide (dI s=s.length)):=by unfold cW;congr 1;rw[Bool.eq_iff_iff,Kc];exact(uk s).symm
def gY(ns:List Str)(n:Int):Bool:=decide ((ns.length:Int)=n)&&ns.all au&&decide ns.Nodup
mutual
def deepF:Shape->Nat
 |⟨_,_,_,_,ps⟩=>maxDeep ps+1
def maxDeep:List Shape->Nat
 |[]=>0
 |p::r=>max (deepF p) (maxDeep r)
end
mutual
theorem deepS_F:∀(s:Shape)(l:Int),deepS s l=l+deepF s-1
 |⟨_,_,_,_,ps⟩,l=>by simp only[deepS,deepF];rw[deepL_F ps (l+1) l (by omega)];omega
theorem deepL_F:∀(ps:List Shape)(m d:Int),m-1<=d->deepL ps m d=max d (m+maxDeep ps-1)
 |[],m,d,h=>by simp only[deepL,maxDeep];omega
 |p::r,m,d,h=>by simp only[deepL,maxDeep];rw[deepL_F r m _ (by omega),deepS_F p m];omega
end
mutual
theorem deepF_sz:∀s:Shape,deepF s<=sz s
 |⟨_,_,_,_,ps⟩=>by have:=maxDeep_sz ps;simp only[deepF,sz];omega
theorem maxDeep_sz:∀l:List Shape,maxDeep l<=szL l
 |[]=>Kn _
 |p::r=>by have:=deepF_sz p;have:=maxDeep_sz r;simp only[maxDeep,szL];omega
end
mutual
theorem sizeF_eq:∀(s:Shape)(m:Int),0<=m->sizeF s m=min (sz s:Int) (m+1)
 |⟨_,_,_,_,ps⟩,m,h=>by simp only[sizeF,sz];rw[sizeL_eq ps 1 m (by omega)];omega
theorem sizeL_eq:∀(l:List Shape)(n m:Int),n<=m+1->sizeL l n m=min (n+szL l) (m+1)
 |[],n,m,h=>by simp only[sizeL,szL];omega
 |p::r,n,m,h=>by
  simp only[sizeL,szL];have:=fa p;split
  ·rw[sizeF_eq p (m-n) (by omega),sizeL_eq r _ m (by omega)];omega
  ·omega
end
theorem Jq(s:Shape):bH s=if 400<sizeF s 400 then 3 else if 40<(deepF s:Int)then 91 else if allS bc s=true then 0 else 70:=by
 unfold bH;rw[sizeF_eq s 400 (by omega),deepS_F];have e:(1:Int)+deepF s-1=deepF s:=by omega
 rw[e];by_cases h:400<sz s
 ·rw[Kf h,Kf (show(400:Int)<min (sz s:Int) (400+1) by omega)]
 ·rw[Kb h,Kb (show ¬(400:Int)<min (sz s:Int) (400+1) by omega)]
end Go.Pd
end
section
namespace Go.Pd
open Go.AL
def p0(A:Ans):Pat
 |[],[]=>some A
 |_,_=>none
theorem JW[Tabs]{P:Program}{f:Nat}{A:Ans}(he:aB P f)(h:aF P f [] [] A):ag P f (p0 A):=by
 intro args S A' hA _ _;unfold p0 at hA;split at hA
 ·simp only[Xs]at hA;subst hA;exact⟨he,h⟩
 ·cases hA
end Go.Pd
end
section
namespace Go.Proofs.YtbhedkjcdhgkhaaGreatDoor.Join
open Go.AL Go.AL.Seat Go.Pd Go.ChangeShapes Go.WideShapes Go.RowKit Go.Lib Go.Shelf
set_option maxRecDepth 1000000
theorem CB:ShapeAt Tryz.prog 53:=⟨_,_,_,_,_,9,Tryz.underlying53,by kernel_rfl,⟨rfl,rfl,rfl,rfl,rfl⟩,⟨by kernel_rfl,by kernel_rfl,by kernel_rfl,by kernel_rfl,by kernel_rfl⟩,by kernel_rfl,by kernel_rfl,by kernel_rfl,by kernel_rfl,by kernel_rfl,by kernel_rfl,by kernel_rfl⟩
def J0(P:Program)(t:TypeId):Bool:=match P.underlying t with
 |some (.struct fs)=>fs.toList.all fun f=>match P.underlying f.type with
  |some (.slice e)=>decide (16<=P.bytesOf e)
  |_=>true
 |_=>true
variable {H:Type}
theorem Gi(d:DataW H):1<=Rows.uptoBulk d:=by
 cases d with
 |lit l=>cases l<;>(unfold Rows.uptoBulk;omega)
 |_=>unfold Rows.uptoBulk;omega
theorem xL:∀l:List (DataW H),l.length<=Rows.uptoBulkAll l
 |[]=>Kg _
 |d::r=>by have:=xL r;have:=Gi d;unfold Rows.uptoBulkAll;rw[Kq];omega
theorem nj{d:DataW H}:∀{l:List (DataW H)},d∈l->Rows.uptoBulk d<=Rows.uptoBulkAll l
 |x::r,h=>by
  unfold Rows.uptoBulkAll;rcases Ks.1 h with rfl|h
  ·omega
  ·have:=nj h;omega
theorem DL(P:Program):GoodR (H:=H) P 1048576 1048576 (fun _ d=>Rows.uptoBulk d<=1048576) where
 str t s ht h:=by unfold Rows.uptoBulk at h;omega
 len t e es sp ht h h16:=by have:=xL es;unfold Rows.uptoBulk at h;omega
 el t e es sp ht h x hx:=by have:=nj hx;unfold Rows.uptoBulk at h;omega
 part t fs ps ht h i f p hf hp:=by have:=nj (KA hp);unfold Rows.uptoBulk at h;omega
theorem Gj{ds:List (DataW H)}(h:Rows.uptoSmall H ds=true){d:DataW H}(hd:d∈ds):Rows.uptoBulk d<=1048576:=by have:=nj hd;have:=Xo h;omega
end Go.Proofs.YtbhedkjcdhgkhaaGreatDoor.Join
end
noncomputable section
namespace Go.AL
open Go.ChangeShapes Go.WideShapes Go.RowKit
variable [Tabs]
theorem VL.app{Ω:Om}{xs bs:List AV}{cs ds:List Value}(h:VL Ω xs cs)(k:VL Ω bs ds):VL Ω (xs++bs) (cs++ds):=by
 induction xs generalizing cs with
 |nil=>have:cs=[]:=Kk h.1.symm;subst this;exact k
 |cons a xs ih=>
  match cs,h with
  |c::cs,h=>exact VL.cons (h.2 0 a c rfl rfl) (ih ⟨by have:=h.1;simpa using this,fun j x y hx hy=>h.2 (j+1) x y hx hy⟩)
variable {H:Type} {enc:TypeId×Value->H} {P:Program} {w:World} {base:Nat} {held:Bool}
theorem DM{N M:Nat}{g:TypeId->DataW H->Prop}(hb:GoodR P N M g){t e:TypeId}{τ:Ty}{l:List (den τ)}{v:Value}{fuel:Nat}{x:DataW H×List MemPlace}(ht:P.underlying t=some (.slice e))(h16:16<=P.bytesOf e)
 (h:DataW.trod enc P w base (fun _=>true) held fuel t [v]=some x)(hg:g t x.1)(hv:V (Om0 w) (.lst τ l none) v):l.length<=N:=by
 rcases hv.lst_inv with⟨rfl,_⟩|⟨rfl,_⟩|⟨b,off,cap,vals,rfl,_⟩
 ·exact Kg _
 ·exact Kg _
 ·rcases MQ ht h with⟨hc,_⟩|⟨a,len,cap',elems,rest,n,hfu,hcs,hx,_,hlc,hcm,hlen,hels,_,_⟩
  ·simp at hc
  ·simp only[L7,Lm,KI]at hcs;rw[hx]at hg;have:=hb.len _ _ _ _ ht hg h16;rw[Lr]at this;omega
theorem dY{N M:Nat}{g:TypeId->DataW H->Prop}(hb:GoodR P N M g){t e:TypeId}{fs:Array Field}{i:Nat}{f:Field}{τ:Ty}{l:List (den τ)}{as':List AV}{cs:List Value}{fuel:Nat}{x:DataW H×List MemPlace}(ht:P.underlying t=some (.struct fs))(hi:fs[i]?=some f)
 (h1:P.cellsOf f.type=1)(hf:P.underlying f.type=some (.slice e))(h16:16<=P.bytesOf e)(h:DataW.trod enc P w base (fun _=>true) held fuel t cs=some x)(hg:g t x.1)(hv:VL (Om0 w) as' cs)(hc:as'[f.offset]?=some (.lst τ l none)):l.length<=N:=by
 obtain⟨n,hn,hl,hfs⟩:=ni hb ht h hg;obtain⟨y,hy,gy⟩:=hfs i f hi;have hlt:f.offset<cs.length:=by rw[<-hv.1];exact(KS.1 hc).1
 have e1:(cs.drop f.offset).take 1=[cs[f.offset]]:=by rw[M1 hlt];rfl
 rw[h1,e1]at hy;exact DM hb hf h16 hy gy (hv.2 f.offset _ _ hc (K9 hlt))
structure VersAt(P:Program)(t:TypeId):Prop where
 ex:∃(f0 f1 f2 f3:Field),P.underlying t=some (.struct #[f0,f1,f2,f3])/\P.cellsOf t=4/\(f0.offset=0/\f1.offset=1/\f2.offset=2/\f3.offset=3)/\
  (P.cellsOf f0.type=1/\P.cellsOf f1.type=1/\P.cellsOf f2.type=1/\P.cellsOf f3.type=1)/\P.underlying f0.type=some (.int .i64)/\P.underlying f1.type=some (.int .i64)/\P.underlying f2.type=some (.int .i64)/\P.underlying f3.type=some .string
theorem Gk{t:TypeId}(hs:VersAt P t)(fuel:Nat)(cs:List Value)(x:DataW H×List MemPlace)(h:DataW.trod enc P w base (fun _=>true) held fuel t cs=some x):∃s:Vers,VL (Om0 w) (cells (.st .version) s) cs:=by
 obtain⟨f0,f1,f2,f3,ht,hc,⟨o0,o1,o2,o3⟩,⟨c0,c1,c2,c3⟩,u0,u1,u2,u3⟩:=hs;obtain⟨n,hn,hl,hf⟩:=pY ht h;rw[hc]at hl;obtain⟨y0,h0⟩:=hf 0 f0 rfl;obtain⟨y1,h1⟩:=hf 1 f1 rfl;obtain⟨y2,h2⟩:=hf 2 f2 rfl;obtain⟨y3,h3⟩:=hf 3 f3 rfl
 match cs,hl with
 |[a0,a1,a2,a3],_=>rw[o0,c0]at h0;rw[o1,c1]at h1;rw[o2,c2]at h2;rw[o3,c3]at h3;simp only[LF,LK,Lv,Mg]at h0 h1 h2 h3;obtain⟨k0,e0,v0⟩:=k8 u0 h0;obtain⟨k1,e1,v1⟩:=k8 u1 h1;obtain⟨k2,e2,v2⟩:=k8 u2 h2;obtain⟨k3,v',e3,v3⟩:=lR u3 h3;simp only[L7,KI]at e0 e1 e2 e3;subst e0 e1 e2 e3;exact⟨⟨k0,k1,k2,k3⟩,VL.cons v0 (VL.cons v1 (VL.cons v2 (VL.cons v3 .nil)))⟩
structure BndAt(P:Program)(t:TypeId):Prop where
 ex:∃(f0 f1:Field),P.underlying t=some (.struct #[f0,f1])/\P.cellsOf t=5/\(f0.offset=0/\f1.offset=1)/\(P.cellsOf f0.type=1/\P.cellsOf f1.type=4)/\P.underlying f0.type=some (.int .i64)/\VersAt P f1.type
theorem JX{t:TypeId}(hs:BndAt P t)(fuel:Nat)(cs:List Value)(x:DataW H×List MemPlace)(h:DataW.trod enc P w base (fun _=>true) held fuel t cs=some x):∃s:Bnd,VL (Om0 w) (cells (.st .bound) s) cs:=by
 obtain⟨f0,f1,ht,hc,⟨o0,o1⟩,⟨c0,c1⟩,u0,u1⟩:=hs;obtain⟨n,hn,hl,hf⟩:=pY ht h;rw[hc]at hl;obtain⟨y0,h0⟩:=hf 0 f0 rfl;obtain⟨y1,h1⟩:=hf 1 f1 rfl
 match cs,hl with
 |[a0,a1,a2,a3,a4],_=>rw[o0,c0]at h0;rw[o1,c1]at h1;simp only[LF,LK,Lv,Mg]at h0 h1;obtain⟨k0,e0,v0⟩:=k8 u0 h0;obtain⟨s,v1⟩:=Gk u1 _ _ _ h1;simp only[L7,KI]at e0;subst e0;exact⟨⟨k0,s⟩,VL.cons v0 (VL.app v1 .nil)⟩
structure ImpAt(P:Program)(t:TypeId):Prop where
 ex:∃(f0 f1 f2 f3:Field)(e:TypeId),P.underlying t=some (.struct #[f0,f1,f2,f3])/\P.cellsOf t=7/\(f0.offset=0/\f1.offset=1/\f2.offset=5/\f3.offset=6)/\
  (P.cellsOf f0.type=1/\P.cellsOf f1.type=4/\P.cellsOf f2.type=1/\P.cellsOf f3.type=1)/\P.underlying f0.type=some .string/\VersAt P f1.type/\P.underlying f2.type=some (.slice e)/\P.underlying f3.type=some (.int .i64)/\BndAt P e
theorem JY{t:TypeId}(hs:ImpAt P t)(fuel:Nat)(cs:List Value)(x:DataW H×List MemPlace)(h:DataW.trod enc P w base (fun _=>true) held fuel t cs=some x):∃s:Impt,VL (Om0 w) (cells (.st .imp) s) cs:=by
 obtain⟨f0,f1,f2,f3,e,ht,hc,⟨o0,o1,o2,o3⟩,⟨c0,c1,c2,c3⟩,u0,u1,u2,u3,hb⟩:=hs;obtain⟨n,hn,hl,hf⟩:=pY ht h;rw[hc]at hl;obtain⟨y0,h0⟩:=hf 0 f0 rfl;obtain⟨y1,h1⟩:=hf 1 f1 rfl;obtain⟨y2,h2⟩:=hf 2 f2 rfl;obtain⟨y3,h3⟩:=hf 3 f3 rfl;have hw:P.cellsOf e=ab (.st .bound):=by obtain⟨_,_,_,hc,_⟩:=hb;rw[hc];rfl
 match cs,hl with
 |[a0,a1,a2,a3,a4,a5,a6],_=>rw[o0,c0]at h0;rw[o1,c1]at h1;rw[o2,c2]at h2;rw[o3,c3]at h3;simp only[LF,LK,Lv,Mg]at h0 h1 h2 h3;obtain⟨k0,v',e0,v0⟩:=lR u0 h0;obtain⟨s,v1⟩:=Gk u1 _ _ _ h1;obtain⟨l,w2,e2,v2⟩:=mz (τ:=.st .bound) u2 hw (by decide) h2 (fun n ds y _ hy=>JX hb n ds y hy);obtain⟨k3,e3,v3⟩:=k8 u3 h3;simp only[L7,KI]at e0 e2 e3;subst e0 e2 e3;exact⟨⟨k0,s,l,k3⟩,VL.cons v0 (VL.app v1 (VL.cons v2 (VL.cons v3 .nil)))⟩
def xM(N:Nat)(s:Dcl):Prop:=s.shape.names.length<=N/\s.shape.parts.length<=N/\s.term.names.length<=N/\s.term.vars.length<=N/\s.term.shapes.length<=N/\s.term.parts.length<=N
def kT(P:Program)(t:TypeId):Prop:=∀(fs:Array Field)(i:Nat)(f:Field)(e:TypeId),P.underlying t=some (.struct fs)->fs[i]?=some f->P.underlying f.type=some (.slice e)->16<=P.bytesOf e
theorem xN{N M:Nat}{g:TypeId->DataW H->Prop}(hb:GoodR P N M g){t:TypeId}(hs:ShapeAt P t)(hw:kT P t){fuel:Nat}{cs:List Value}{x:DataW H×List MemPlace}{s:Shape}(h:DataW.trod enc P w base (fun _=>true) held fuel t cs=some x)(hg:g t x.1)
 (hv:VL (Om0 w) (cells (.st .shape) s) cs):s.names.length<=N/\s.parts.length<=N:=by
 obtain⟨f0,f1,f2,f3,f4,e,ht,hc,⟨o0,o1,o2,o3,o4⟩,⟨c0,c1,c2,c3,c4⟩,u0,u1,u2,u3,us,ce,u4⟩:=hs;exact⟨dY (i:=3) (f:=f3) (τ:=.str) hb ht rfl c3 u3 (hw _ 3 f3 _ ht rfl u3) h hg hv (by rw[o3];rfl),dY (i:=4) (f:=f4) (τ:=.st .shape) hb ht rfl c4 u4 (hw _ 4 f4 _ ht rfl u4) h hg hv (by rw[o4];rfl)⟩
theorem Ax{N M:Nat}{g:TypeId->DataW H->Prop}(hb:GoodR P N M g){t:TypeId}(hs:TermAt P t)(hw:kT P t){fuel:Nat}{cs:List Value}{x:DataW H×List MemPlace}{s:Trm}(h:DataW.trod enc P w base (fun _=>true) held fuel t cs=some x)(hg:g t x.1)
 (hv:VL (Om0 w) (cells (.st .term) s) cs):s.names.length<=N/\s.vars.length<=N/\s.shapes.length<=N/\s.parts.length<=N:=by
 obtain⟨f0,f1,f2,f3,f4,f5,f6,f7,f8,e,e6,ht,hc,⟨o0,o1,o2,o3,o4,o5,o6,o7,o8⟩,⟨c0,c1,c2,c3,c4,c5,c6,c7,c8⟩,⟨u0,u1,u2,u3,u4,u5,u6,u7,u8⟩,⟨us,ce,b16⟩,hg'⟩:=hs
 exact⟨dY (i:=4) (f:=f4) (τ:=.str) hb ht rfl c4 u4 (hw _ 4 f4 _ ht rfl u4) h hg hv (by rw[o4];rfl),dY (i:=5) (f:=f5) (τ:=.str) hb ht rfl c5 u5 (hw _ 5 f5 _ ht rfl u5) h hg hv (by rw[o5];rfl),
  dY (i:=6) (f:=f6) (τ:=.st .shape) hb ht rfl c6 u6 (hw _ 6 f6 _ ht rfl u6) h hg hv (by rw[o6];rfl),dY (i:=7) (f:=f7) (τ:=.st .term) hb ht rfl c7 u7 (hw _ 7 f7 _ ht rfl u7) h hg hv (by rw[o7];rfl)⟩
structure DclAt(P:Program)(t:TypeId):Prop where
 ex:∃(f0 f1 f2 f3 f4:Field),P.underlying t=some (.struct #[f0,f1,f2,f3,f4])/\P.cellsOf t=17/\(f0.offset=0/\f1.offset=1/\f2.offset=2/\f3.offset=7/\f4.offset=16)/\
  (P.cellsOf f0.type=1/\P.cellsOf f1.type=1/\P.cellsOf f2.type=5/\P.cellsOf f3.type=9/\P.cellsOf f4.type=1)/\P.underlying f0.type=some (.int .i64)/\P.underlying f1.type=some .string/\(ShapeAt P f2.type/\kT P f2.type)/\(TermAt P f3.type/\kT P f3.type)/\P.underlying f4.type=some (.int .i64)
theorem JZ{N M:Nat}{g:TypeId->DataW H->Prop}(hb:GoodR P N M g){t:TypeId}(hs:DclAt P t)(fuel:Nat)(cs:List Value)(x:DataW H×List MemPlace)(h:DataW.trod enc P w base (fun _=>true) held fuel t cs=some x)(hg:g t x.1) :
  ∃s:Dcl,VL (Om0 w) (cells (.st .decl) s) cs/\Pd.allT (ja N M) s.term=true/\xM N s:=by
 obtain⟨f0,f1,f2,f3,f4,ht,hc,⟨o0,o1,o2,o3,o4⟩,⟨c0,c1,c2,c3,c4⟩,u0,u1,⟨u2,q2⟩,⟨u3,q3⟩,u4⟩:=hs;obtain⟨n,hn,hl,hf⟩:=ni hb ht h hg;rw[hc]at hl;obtain⟨y0,h0,_⟩:=hf 0 f0 rfl;obtain⟨y1,h1,_⟩:=hf 1 f1 rfl;obtain⟨y2,h2,b2⟩:=hf 2 f2 rfl;obtain⟨y3,h3,b3⟩:=hf 3 f3 rfl;obtain⟨y4,h4,_⟩:=hf 4 f4 rfl
 match cs,hl with
 |[a0,a1,a2,a3,a4,a5,a6,a7,a8,a9,a10,a11,a12,a13,a14,a15,a16],_=>rw[o0,c0]at h0;rw[o1,c1]at h1;rw[o2,c2]at h2;rw[o3,c3]at h3;rw[o4,c4]at h4;simp only[LF,LK,Lv,Mg]at h0 h1 h2 h3 h4;obtain⟨k0,e0,v0⟩:=k8 u0 h0;obtain⟨k1,v',e1,v1⟩:=lR u1 h1;obtain⟨s,v2⟩:=Cy u2 _ _ _ h2;obtain⟨m,v3,q⟩:=Jo hb u3 _ _ _ h3 b3;obtain⟨l1,l2⟩:=xN hb u2 q2 h2 b2 v2;obtain⟨l3,l4,l5,l6⟩:=Ax hb u3 q3 h3 b3 v3;obtain⟨k4,e4,v4⟩:=k8 u4 h4;simp only[L7,KI]at e0 e1 e4;subst e0 e1 e4;exact⟨⟨k0,k1,s,m,k4⟩,VL.cons v0 (VL.cons v1 (VL.app v2 (VL.app v3 (VL.cons v4 .nil)))),q,l1,l2,l3,l4,l5,l6⟩
structure ModuAt(P:Program)(t:TypeId):Prop where
 ex:∃(f0 f1 f2 f3 f4:Field)(e1 e2 e3:TypeId),P.underlying t=some (.struct #[f0,f1,f2,f3,f4])/\P.cellsOf t=5/\(f0.offset=0/\f1.offset=1/\f2.offset=2/\f3.offset=3/\f4.offset=4)/\
  (P.cellsOf f0.type=1/\P.cellsOf f1.type=1/\P.cellsOf f2.type=1/\P.cellsOf f3.type=1/\P.cellsOf f4.type=1)/\P.underlying f0.type=some .string/\P.underlying f1.type=some (.slice e1)/\P.underlying f2.type=some (.slice e2)/\
  P.underlying f3.type=some (.slice e3)/\P.underlying f4.type=some (.int .i64)/\ImpAt P e1/\DclAt P e2/\P.underlying e3=some .string/\P.cellsOf e3=1
theorem Jr{N M:Nat}{g:TypeId->DataW H->Prop}(hb:GoodR P N M g){t:TypeId}(hs:ModuAt P t)(fuel:Nat)(cs:List Value)(x:DataW H×List MemPlace)(h:DataW.trod enc P w base (fun _=>true) held fuel t cs=some x)(hg:g t x.1) :
  ∃s:Modu,VL (Om0 w) (cells (.st .modu) s) cs/\∀d∈s.decls,Pd.allT (ja N M) d.term=true/\xM N d:=by
 obtain⟨f0,f1,f2,f3,f4,e1,e2,e3,ht,hc,⟨o0,o1,o2,o3,o4⟩,⟨c0,c1,c2,c3,c4⟩,u0,u1,u2,u3,u4,hi,hd,us,cs3⟩:=hs;obtain⟨n,hn,hl,hf⟩:=ni hb ht h hg;rw[hc]at hl;obtain⟨y0,h0,_⟩:=hf 0 f0 rfl;obtain⟨y1,h1,_⟩:=hf 1 f1 rfl;obtain⟨y2,h2,b2⟩:=hf 2 f2 rfl;obtain⟨y3,h3,_⟩:=hf 3 f3 rfl;obtain⟨y4,h4,_⟩:=hf 4 f4 rfl;have w1:P.cellsOf e1=ab (.st .imp):=by obtain⟨_,_,_,_,_,_,hc,_⟩:=hi;rw[hc];rfl
 have w2:P.cellsOf e2=ab (.st .decl):=by obtain⟨_,_,_,_,_,_,hc,_⟩:=hd;rw[hc];rfl
 match cs,hl with
 |[a0,a1,a2,a3,a4],_=>rw[o0,c0]at h0;rw[o1,c1]at h1;rw[o2,c2]at h2;rw[o3,c3]at h3;rw[o4,c4]at h4;simp only[LF,LK,Lv,Mg]at h0 h1 h2 h3 h4;obtain⟨k0,v',e0,v0⟩:=lR u0 h0;obtain⟨li,x1,g1,v1⟩:=mz (τ:=.st .imp) u1 w1 (by decide) h1 (fun n ds y _ hy=>JY hi n ds y hy);obtain⟨ld,x2,g2,v2,_,q⟩:=vU (τ:=.st .decl) (Q:=fun d:Dcl=>Pd.allT (ja N M) d.term=true/\xM N d) hb u2 w2 (by decide) h2 b2 (fun n ds y _ hy hq=>JZ hb hd n ds y hy hq);obtain⟨le,x3,g3,v3⟩:=mz (τ:=.str) u3 cs3 (by decide) h3 (fun n ds y _ hy=>by obtain⟨s,hv,e,hs⟩:=lR us hy;subst e;exact⟨s,VL.cons hs .nil⟩);obtain⟨k4,g4,v4⟩:=k8 u4 h4;simp only[L7,KI]at e0 g1 g2 g3 g4;subst e0 g1 g2 g3 g4;exact⟨⟨k0,li,ld,le,k4⟩,VL.cons v0 (VL.cons v1 (VL.cons v2 (VL.cons v3 (VL.cons v4 .nil)))),q⟩
end Go.AL
end
section
namespace Go.AL
open Go Go.Proofs
section
variable {H:Type} {enc:TypeId×Value->H} {P:Program} {w:World} {base:Nat} {held:Bool} [Tabs]
theorem Ay{N M:Nat}{g:TypeId->DataW H->Prop}(hb:GoodR P N M g){t:TypeId}(hs:ModuAt P t)(hw:kT P t){fuel:Nat}{cs:List Value}{x:DataW H×List MemPlace}{s:Modu}(h:DataW.trod enc P w base (fun _=>true) held fuel t cs=some x)(hg:g t x.1)
 (hv:VL (Om0 w) (cells (.st .modu) s) cs):s.imports.length<=N:=by
 obtain⟨f0,f1,f2,f3,f4,e1,e2,e3,ht,hc,⟨o0,o1,o2,o3,o4⟩,⟨c0,c1,c2,c3,c4⟩,u0,u1,u2,u3,u4,hi,hd,us,cs3⟩:=hs;exact dY (i:=1) (f:=f1) (τ:=.st .imp) hb ht rfl c1 u1 (hw _ 1 f1 _ ht rfl u1) h hg hv (by rw[o1];rfl)
theorem Az{N M:Nat}{g:TypeId->DataW H->Prop}(hb:GoodR P N M g){t:TypeId}(hs:ModuAt P t)(hw:kT P t){r:Reach}{b0:Nat}{v:Value}{d:DataW H}{ps:List MemPlace}(hv:Value.okWide P w r b0 t v)(h:DataW.Trod enc P w base (fun _=>true) held t v d ps)(hg:g t d) :
  ∃s:Modu,V (Om0 w) (.st .modu s) v/\(∀d∈s.decls,Pd.allT (ja N M) d.term=true/\xM N d)/\s.imports.length<=N:=by
 obtain⟨fu,h⟩:=h;obtain⟨s,hs',hq⟩:=Jr hb hs _ _ _ h hg;refine⟨s,.st .modu s v ?_,hq,Ay hb hs hw h hg hs'⟩;have hl:=hs'.1;have hc:(cells (.st .modu) s).length=5:=rfl;rw[hc]at hl
 cases v with|agg vs=>have:=V.of_agg hs';simpa[Value.cells]using this|_=>simp[Value.cells]at hl
end
end Go.AL
end
