/- Plain facts. What the functions' conditions say, proved. The contracts of the functions. No condition. -/
import Derived.Test.YtdmbjejhifjhbaaGreatDoorT05
import Derived.KernelRfl
import Derived.Laws.OwnMore
import Derived.Sort.Walk0
import Derived.Test.YtdmbjejhifjhbaaGreatDoorProg
import Derived.WalkKit
set_option linter.all false
set_option maxRecDepth 100000
section
namespace Go.Pd
open Go.AL
def mu(f n:Nat):Str:=oK f n (mr (n%10))
theorem AX:∀(f n:Nat)(a b:Str),oK f n (a++b)=oK f n a++b
 |0,_,_,_=>rfl
 |f+1,n,a,b=>by
  unfold oK;split
  ·rw[<-Pm];exact AX f _ _ b
  ·rfl
theorem ma{f n:Nat}(h:n<10):mu f n=mr n:=by
 unfold mu;rw[Rf h]
 cases f with|zero=>rfl|succ f=>unfold oK;rw[OA (by omega)]
theorem nT{f n:Nat}(h:10<=n):mu (f+1) n=mu f (n/10)++mr (n%10):=by unfold mu;show(if 10<=n then oK f (n/10) (mr (n/10%10)++mr (n%10))else _)=_;rw[OB h,AX]
theorem pM{d:Nat}(h:d<10):mr d=[UInt8.ofNat (48+d)]:=by
 have:d=0∨d=1∨d=2∨d=3∨d=4∨d=5∨d=6∨d=7∨d=8∨d=9:=by omega
 rcases this with rfl|rfl|rfl|rfl|rfl|rfl|rfl|rfl|rfl|rfl<;>rfl
theorem nU{d:Nat}(h:d<10):(UInt8.ofNat (48+d)).toNat=48+d:=by rw[UInt8.toNat_ofNat'];exact Rf (by omega)
theorem u6(a:Str)(c:UInt8):cu (a++[c])=10 *cu a+((c.toNat:Int)-48):=by unfold cu;rw[QJ];rfl
theorem KH{d:Nat}(h:d<10):aY (bI (UInt8.ofNat (48+d)))=true:=by unfold aY bI;rw[nU h,Xd (by omega),OY,Xd (by omega)]
theorem u7:∀(f n:Nat),n<10 ^ (f+1)->cu (mu f n)=(n:Int)/\((mu f n).all fun c=>aY (bI c))=true/\1<=(mu f n).length/\(mu f n).length<=f+1/\(1<=n->bI ((mu f n).getD 0 0)≠48)
 |f,n,h=>by
  by_cases hs:n<10
  ·rw[ma hs,pM hs];refine⟨?_,?_,ON _,by show 1<=f+1;omega,fun h1=>?_⟩
   ·show 10 *(0:Int)+(((UInt8.ofNat (48+n)).toNat:Int)-48)=n;rw[nU hs];omega
   ·rw[P4,KH hs];rfl
   ·show((UInt8.ofNat (48+n)).toNat:Int)≠48;rw[nU hs];omega
  ·match f,h with
   |0,h=>rw[PU,Nat.pow_one]at h;omega
   |f+1,h=>
    have h10:n/10<10 ^ (f+1):=by rw[RL]at h;exact(Re (by decide)).2 h
    obtain⟨e1,e2,e3,e4,e5⟩:=u7 f (n/10) h10;have hm:n%10<10:=Nat.mod_lt _ (by decide);rw[nT (by omega),pM hm];refine⟨?_,?_,?_,?_,fun _=>?_⟩
    ·rw[u6,e1,nU hm];omega
    ·rw[Qa,e2,P4,KH hm];rfl
    ·rw[OE];omega
    ·rw[OE];show _+1<=_;omega
    ·have:=e5 (by omega);rw[OG,OQ (by omega),<-OG];exact this
theorem u9{c:UInt8}(h:aY (bI c)=true):48<=c.toNat/\c.toNat<=57:=by unfold aY bI at h;rw[OF,OK,OK]at h;omega
theorem ub:∀(l:Str),(l.all fun c=>aY (bI c))=true->∀a:Int,0<=a->a<=l.foldl (fun n c=>10 *n+((c.toNat:Int)-48)) a
 |[],_,a,_=>P8 a
 |c::r,h,a,ha=>by rw[P4,OF]at h;have:=u9 h.1;have:=ub r h.2 (10 *a+((c.toNat:Int)-48)) (by omega);show a<=r.foldl _ (10 *a+((c.toNat:Int)-48));omega
theorem wh:∀(f:Nat)(t:Str),t.length<=f+1->t≠[]->(t.all fun c=>aY (bI c))=true->(1<t.length->bI (t.getD 0 0)≠48)->mu f (cu t).toNat=t
 |f,t,hl,hn,ha,hz=>by
  rcases List.eq_nil_or_concat t with e|⟨a,c,rfl⟩
  ·exact absurd e hn
  ·rw[List.concat_eq_append]at hl hn ha hz⊢;rw[Qa,OF,P4,OF]at ha;have hc:=u9 ha.2.1;rw[u6];have ec:UInt8.ofNat (48+(c.toNat-48))=c:=by rw[show 48+(c.toNat-48)=c.toNat by omega];exact UInt8.ofNat_toNat
   by_cases e:a=[]
   ·subst e;have e0:(10 *cu []+((c.toNat:Int)-48)).toNat=c.toNat-48:=by show(10 *(0:Int)+((c.toNat:Int)-48)).toNat=_;omega
    rw[e0,ma (by omega),pM (by omega),ec];rfl
   ·have hp:=Pw.2 e;rw[OE]at hl hz;have hl:a.length+1<=f+1:=hl;have hz:bI ((a++[c]).getD 0 0)≠48:=hz (by show 1<a.length+1;omega);rw[OG,OQ hp,<-OG]at hz
    match f,hl with
    |0,hl=>omega
    |f+1,hl=>
     have ih:=wh f a (by omega) e ha.1 (fun _=>hz)
     have hpos:1<=cu a:=by
      match a,ha.1,hz with
      |[],_,_=>exact absurd rfl e
      |x::r,hx,hz=>rw[P4,OF]at hx;have h1:=u9 hx.1;have hz:¬(x.toNat:Int)=48:=hz;have:=ub r hx.2 (10 *0+((x.toNat:Int)-48)) (by omega);show 1<=r.foldl _ (10 *0+((x.toNat:Int)-48));omega
     have e1:(10 *cu a+((c.toNat:Int)-48)).toNat/10=(cu a).toNat:=by omega
     have e2:(10 *cu a+((c.toNat:Int)-48)).toNat%10=c.toNat-48:=by omega
     rw[nT (by omega),e1,e2,ih,pM (by omega),ec]
end Go.Pd
end
section
namespace Go.Pd
open Go.AL
theorem wi:∀(f n:Nat),n<10 ^ (f+1)->mu (f+1) n=mu f n
 |f,n,h=>by
  by_cases hs:n<10
  ·rw[ma hs,ma hs]
  ·match f,h with
   |0,h=>rw[PU,Nat.pow_one]at h;omega
   |f+1,h=>
    have h10:n/10<10 ^ (f+1):=by rw[RL]at h;exact(Re (by decide)).2 h
    have h':10<=n:=by omega
    rw[nT (f:=f+1) h',wi f _ h10,nT (f:=f) (n:=n) h']
theorem wj(n:Nat)(h:n<10 ^ 6):∀j,mu (5+j) n=mu 5 n
 |0=>rfl
 |j+1=>by rw[<-wj n h j];exact wi (5+j) n (R2 h (Rl (by decide) (by omega)))
theorem Fl(n:Int):ct n=mu 20 n.toNat:=rfl
theorem iK{n:Int}(h0:0<=n)(h1:n<=999999):cu (ct n)=n/\((ct n).all fun c=>aY (bI c))=true/\ct n≠[]/\fB (ct n)=true:=by
 have hn:n.toNat<10 ^ 6:=RB (show n.toNat<=999999 by omega) (by decide);have e:ct n=mu 5 n.toNat:=by rw[Fl];exact wj n.toNat hn 15
 obtain⟨e1,e2,e3,e4,e5⟩:=u7 5 n.toNat hn;rw[e];have hne:mu 5 n.toNat≠[]:=fun q=>by rw[q]at e3;exact absurd e3 (by decide)
 refine⟨by rw[e1];omega,e2,hne,?_⟩;unfold fB cq;rw[Xf hne,e2,Xd e4];by_cases hz:n.toNat=0
 ·rw[hz];rfl
 ·rw[Xf (p:=bI _=48) (e5 (by omega)),Ps];rfl
theorem MG{c x:UInt8}(h:aY (bI c)=true)(hx:x.toNat<48):c≠x:=fun e=>by have:=u9 h;rw[e]at this;omega
theorem jK{c:UInt8}:∀(a r:Str),(∀x∈a,x≠c)->splitB c (a++c::r)=a::splitB c r
 |[],r,_=>by show(if c=c then _ else _)=_;rw[OB rfl]
 |b::a,r,h=>by have ih:=jK a r (fun x hx=>h x (P6 _ hx));show(if b=c then _ else match splitB c (a++c::r)with|[]=>[[b]]|p::ps=>(b::p)::ps)=_;rw[OA (h b (Q6 ..)),ih]
theorem uc{c:UInt8}:∀(a:Str),(∀x∈a,x≠c)->splitB c a=[a]
 |[],_=>rfl
 |b::a,h=>by have ih:=uc a (fun x hx=>h x (P6 _ hx));show(if b=c then _ else match splitB c a with|[]=>[[b]]|p::ps=>(b::p)::ps)=_;rw[OA (h b (Q6 ..)),ih]
def Fm(c:UInt8):List Str->Str
 |[]=>[]
 |[a]=>a
 |a::b::r=>a++c::Fm c (b::r)
theorem nV(c:UInt8):∀s:Str,splitB c s≠[]
 |[]=>by simp[splitB]
 |b::r=>by
  unfold splitB;split
  ·simp
  ·split<;>simp
theorem rC(c:UInt8):∀s:Str,Fm c (splitB c s)=s
 |[]=>rfl
 |b::r=>by
  have ih:=rC c r;have hn:=nV c r;unfold splitB;split
  ·next e=>
   match hs:splitB c r with
   |[]=>exact absurd hs hn
   |p::ps=>rw[hs]at ih;show[]++c::Fm c (p::ps)=b::r;rw[ih,e];rfl
  ·match hs:splitB c r with
   |[]=>exact absurd hs hn
   |[p]=>rw[hs]at ih;show b::p=b::r;exact Qb _ ih
   |p::q::ps=>rw[hs]at ih;show(b::p)++c::Fm c (q::ps)=b::r;exact Qb (b::·) ih
theorem Fo(p:UInt8->Bool):∀s:Str,(s.takeWhile p).length<s.length->p (s.getD (s.takeWhile p).length 0)=false
 |[],h=>absurd h (by simp)
 |b::r,h=>by
  by_cases e:p b=true
  ·rw[List.takeWhile_cons_of_pos e]at h⊢;exact Fo p r (by simpa using h)
  ·rw[List.takeWhile_cons_of_neg e];exact P5.2 e
theorem Hs(s:Str):s=aU s++(if eT s=true then 45::cX s else[]):=by
 have h:aU s++s.drop (aU s).length=s:=List.prefix_iff_eq_append.1 (List.takeWhile_prefix _);have hn:=Fo (fun b=>!decide (b=45)) s;unfold eT cX;by_cases hm:(aU s).length<s.length
 ·rw[OB (Xd hm)];have hn:(!decide (s.getD (aU s).length 0=45))=false:=hn hm;rw[RD]at hn;have hn:=Xo hn;rw[aJ s _ 0 hm,hn]at h;exact h.symm
 ·rw[OA (fun e=>hm (Xo e)),PT];rw[Px (by omega),PT]at h;exact h.symm
theorem KI{x y:Str}(hx:∀c∈x,c≠45)(hy:y=[]∨∃r,y=45::r):aU (x++y)=x:=by
 unfold aU;rw[List.takeWhile_append_of_pos (fun a ha=>by simpa using hx a ha)];rcases hy with rfl|⟨r,rfl⟩
 ·simp
 ·rw[List.takeWhile_cons_of_neg (by simp),PT]
theorem nW{t:Str}{x:UInt8}(h:(t.all fun c=>aY (bI c))=true)(hx:x.toNat<48):∀c∈t,c≠x:=fun c hc=>MG (P0.1 h c hc) hx
theorem DC{v:Vers}(h:bW v=0):cz (jb v)=(v,0):=by
 obtain⟨⟨a1,a2⟩,⟨b1,b2⟩,⟨c1,c2⟩,_⟩:=nv h;obtain⟨p1,p2,p3,p4⟩:=iK a1 a2;obtain⟨q1,q2,q3,q4⟩:=iK b1 b2;obtain⟨r1,r2,r3,r4⟩:=iK c1 c2;have e:jb v=(ct v.major++46::(ct v.minor++46::ct v.patch))++(if v.pre=[]then[]else 45::v.pre):=by unfold jb;simp only[Pm,PI,OM]
 have hx:∀c∈ct v.major++46::(ct v.minor++46::ct v.patch),c≠45:=by
  intro c hc;rw[Po,OT,Po,OT]at hc;rcases hc with hc|rfl|hc|rfl|hc
  ·exact nW p2 (by decide) c hc
  ·decide
  ·exact nW q2 (by decide) c hc
  ·decide
  ·exact nW r2 (by decide) c hc
 have hc:aU (jb v)=ct v.major++46::(ct v.minor++46::ct v.patch):=by
  rw[e];refine KI hx ?_;split
  ·exact .inl rfl
  ·exact .inr ⟨_,rfl⟩
 have hs:splitB 46 (aU (jb v))=[ct v.major,ct v.minor,ct v.patch]:=by rw[hc,jK _ _ (nW p2 (by decide)),jK _ _ (nW q2 (by decide)),uc _ (nW r2 (by decide))]
 have hr:cX (jb v)=v.pre:=by
  unfold cX;rw[hc];conv=>lhs;rw[e]
  rw[<-R7,List.drop_left];split
  ·next z=>rw[z];rfl
  ·rfl
 have hm:eT (jb v)=true->¬cX (jb v)=[]:=by
  intro m z;rw[hr]at z;unfold eT at m;have m:=Xo m;rw[hc]at m;conv at m=>rhs;rw[e]
  rw[OB z,PT]at m;omega
 rw[ku (by rw[hs];rfl) hm,hs];have hv:eD (jb v)=v:=by unfold eD;rw[hs,hr];show(⟨cu (ct v.major),cu (ct v.minor),cu (ct v.patch),v.pre⟩:Vers)=v;rw[p1,q1,r1]
 rw[hv,OB h,OB];rw[P4,P4,P4,p4,q4,r4];rfl
theorem oL{t:Str}(h:fB t=true):ct (cu t)=t:=by unfold fB cq at h;simp only[OF,OW,P1,OK,Q5]at h;obtain⟨⟨⟨h1,h2⟩,h3⟩,h4⟩:=h;rw[Fl];exact wh 20 t (by omega) h1 h2 (fun q=>h4.elim (fun z=>absurd q z) (fun z=>z))
theorem DD{s:Str}(h:(cz s).2=0):jb (cz s).1=s/\bW (cz s).1=0:=by
 by_cases h3:(splitB 46 (aU s)).length=3
 ·by_cases hm:eT s=true->¬cX s=[]
  ·rw[ku h3 hm]at h⊢;by_cases hn:(splitB 46 (aU s)).all fB=true
   ·rw[OB hn]at h⊢;by_cases hc:bW (eD s)=0
    ·rw[OB hc]at h⊢;refine⟨?_,hc⟩;have hj:=rC 46 (aU s);have hcr:=Hs s
     have ht:(if cX s=[]then[]else[45]++cX s)=if eT s=true then 45::cX s else[]:=by
      by_cases m:eT s=true
      ·rw[OB m,OA (hm m)];rfl
      ·rw[OA m,OB];unfold eT at m;have m:¬(aU s).length<s.length:=fun e=>m (Xd e);unfold cX;exact Px (by omega)
     show ct (eD s).major++[46]++ct (eD s).minor++[46]++ct (eD s).patch++(if cX s=[]then[]else[45]++cX s)=s;rw[ht];unfold eD
     match hl:splitB 46 (aU s),h3 with
     |[a,b,c],_=>
      rw[hl]at hn hj;rw[P4,P4,P4,OF,OF,OF]at hn;show ct (cu a)++[46]++ct (cu b)++[46]++ct (cu c)++_=s;rw[oL hn.1,oL hn.2.1,oL hn.2.2.1];have hj:a++46::(b++46::c)=aU s:=hj;conv=>rhs;rw[hcr,<-hj]
      simp only[Pm,PI,OM]
    ·rw[OA hc]at h;exact absurd h (by decide)
   ·rw[OA hn]at h;exact absurd h (by decide)
  ·have:eT s=true/\cX s=[]:=by
    by_cases m:eT s=true
    ·by_cases z:cX s=[]
     ·exact⟨m,z⟩
     ·exact absurd (fun _=>z) hm
    ·exact absurd (fun q=>absurd q m) hm
   rw[rq this.1 this.2]at h;exact absurd h (by decide)
 ·rw[rn h3]at h;exact absurd h (by decide)
theorem DE(s:Str):(cz s).2=0∨cz s=(noV,40):=by
 unfold cz
 repeat' split
 all_goals first|exact .inr rfl|exact .inl rfl
theorem AY(s:Str)(h:(cz s).2=0):cz s=((cz s).1,0):=by rw[<-h]
end Go.Pd
end
section
namespace Go.Pd
open Go.AL
def KJ(t:Str)(a:Int):Int:=t.foldl (fun n c=>10 *n+((c.toNat:Int)-48)) a
theorem wm(c:UInt8)(t:Str)(a:Int):KJ (c::t) a=KJ t (10 *a+((c.toNat:Int)-48)):=rfl
theorem MH{r:List Int}{p:Nat}(hl:r.length=3)(hp:p<=2):r.set p (r.getD p 0)=r:=by
 match r,hl with
 |[a,b,c],_=>
  have e:p=0∨p=1∨p=2:=by omega
  rcases e with rfl|rfl|rfl<;>rfl
theorem ye{r:List Int}{p:Nat}{v:Int}(hl:r.length=3)(hp:p<=2):(r.set p v).getD p 0=v:=by
 match r,hl with
 |[a,b,c],_=>
  have e:p=0∨p=1∨p=2:=by omega
  rcases e with rfl|rfl|rfl<;>rfl
theorem MI{r:List Int}{p:Nat}{v w:Int}(hl:r.length=3)(hp:p<=2):(r.set p v).set p w=r.set p w:=by
 match r,hl with
 |[a,b,c],_=>
  have e:p=0∨p=1∨p=2:=by omega
  rcases e with rfl|rfl|rfl<;>rfl
theorem yh(s:Str)(f i p:Nat)(r:List Int):rvL s (f+1) i p r=if i<s.length/\¬bI (s.getD i 0)=45 then
   if bI (s.getD i 0)=46 then(if 2<p+1 then none else rvL s f (i+1) (p+1) r)
   else if bI (s.getD i 0)<48∨57<bI (s.getD i 0)then none
   else rvL s f (i+1) p (if r.getD p 0<=999999 then r.set p (10 *r.getD p 0+(bI (s.getD i 0)-48))else r)
  else some (r,i):=rfl
theorem gN{s:Str}{i:Nat}{c:UInt8}{x:Str}(h:s.drop i=c::x):i<s.length/\s.getD i 0=c/\s.drop (i+1)=x:=by
 have hi:i<s.length:=by
  by_cases hi:i<s.length
  ·exact hi
  ·rw[Px (by omega)]at h;cases h
 rw[aJ s i 0 hi]at h;injection h with h1 h2
 exact⟨hi,h1,h2⟩
theorem mb(s:Str):∀(t rest:Str)(f i p:Nat)(r:List Int),s.drop i=t++rest->(t.all fun c=>aY (bI c))=true->p<=2->r.length=3->0<=r.getD p 0->KJ t (r.getD p 0)<=999999->
  rvL s (t.length+f) i p r=rvL s f (i+t.length) p (r.set p (KJ t (r.getD p 0)))
 |[],rest,f,i,p,r,hd,ha,hp,hl,h0,h1=>by show rvL s (0+f) i p r=rvL s f (i+0) p (r.set p (r.getD p 0));rw[MH hl hp,PU];rfl
 |c::t,rest,f,i,p,r,hd,ha,hp,hl,h0,h1=>by
  rw[P4,OF]at ha;have hc:=u9 ha.1;obtain⟨g1,g2,g3⟩:=gN hd;have eb:bI (s.getD i 0)=(c.toNat:Int):=by rw[g2];rfl
  rw[wm]at h1;have hm:=ub t ha.2 (10 *r.getD p 0+((c.toNat:Int)-48)) (by omega);have hm:10 *r.getD p 0+((c.toNat:Int)-48)<=KJ t (10 *r.getD p 0+((c.toNat:Int)-48)):=hm;have e:(c::t).length+f=(t.length+f)+1:=by show t.length+1+f=_;omega
  rw[e,yh,eb,OB ⟨g1,by omega⟩,OA (by omega),OA (by omega),OB (by omega)];have ih:=mb s t rest f (i+1) p (r.set p (10 *r.getD p 0+((c.toNat:Int)-48))) g3 ha.2 hp (by rw[Ro];exact hl) (by rw[ye hl hp];omega) (by rw[ye hl hp];exact h1);rw[ih,ye hl hp,MI hl hp,wm];have e2:i+1+t.length=i+(c::t).length:=by show _=i+(t.length+1);omega
  rw[e2]
theorem Fp{s:Str}{f i p:Nat}{r:List Int}{x:Str}(h:s.drop i=46::x)(hp:p<=1):rvL s (f+1) i p r=rvL s f (i+1) (p+1) r:=by
 obtain⟨g1,g2,g3⟩:=gN h;have eb:bI (s.getD i 0)=46:=by rw[g2];rfl
 rw[yh,eb,OB ⟨g1,by decide⟩,OB rfl,OA (by omega)]
theorem MJ{s:Str}{f i p:Nat}{r:List Int}(h:s.drop i=[]∨∃x,s.drop i=45::x):rvL s (f+1) i p r=some (r,i):=by
 rw[yh,OA];rintro⟨h1,h2⟩;rcases h with h|⟨x,h⟩
 ·have:=Qb List.length h;rw[PK]at this;have:s.length-i=0:=this;omega
 ·obtain⟨_,g2,_⟩:=gN h;rw[g2]at h2;exact h2 rfl
theorem lB{s a b:Str}{i:Nat}(h:s.drop i=a++b):s.drop (i+a.length)=b:=by rw[<-R7,h,List.drop_left]
theorem Ht{s a b c y:Str}(hs:s=a++46::(b++46::(c++y)))(hy:y=[]∨∃x,y=45::x)
 (da:(a.all fun c=>aY (bI c))=true)(db:(b.all fun c=>aY (bI c))=true)(dc:(c.all fun c=>aY (bI c))=true)
 (va:cu a<=999999)(vb:cu b<=999999)(vc:cu c<=999999) :
  rvL s (s.length+1) 0 0 [0,0,0]=some ([cu a,cu b,cu c],a.length+1+b.length+1+c.length):=by
 have hl:s.length=a.length+(b.length+(c.length+y.length+1)+1):=by rw[hs];simp only[OE,OP]
 have e:s.length+1=a.length+((b.length+((c.length+(y.length+1))+1))+1):=by omega
 have h0:s.drop 0=a++46::(b++46::(c++y)):=hs;have h1:=lB h0;have h2:=(gN h1).2.2;have h3:=lB h2;have h4:=(gN h3).2.2;have h5:=lB h4
 have s1:rvL s (a.length+((b.length+((c.length+(y.length+1))+1))+1)) 0 0 [0,0,0]=rvL s ((b.length+((c.length+(y.length+1))+1))+1) (0+a.length) 0 [cu a,0,0]:=
  mb s a _ _ 0 0 [0,0,0] h0 da (by decide) rfl (P8 0) va
 have s2:rvL s ((b.length+((c.length+(y.length+1))+1))+1) (0+a.length) 0 [cu a,0,0]=rvL s (b.length+((c.length+(y.length+1))+1)) (0+a.length+1) 1 [cu a,0,0]:=Fp h1 (by decide)
 have s3:rvL s (b.length+((c.length+(y.length+1))+1)) (0+a.length+1) 1 [cu a,0,0]=rvL s ((c.length+(y.length+1))+1) (0+a.length+1+b.length) 1 [cu a,cu b,0]:=
  mb s b _ _ _ 1 [cu a,0,0] h2 db (by decide) rfl (P8 0) vb
 have s4:rvL s ((c.length+(y.length+1))+1) (0+a.length+1+b.length) 1 [cu a,cu b,0]=rvL s (c.length+(y.length+1)) (0+a.length+1+b.length+1) 2 [cu a,cu b,0]:=Fp h3 (by decide)
 have s5:rvL s (c.length+(y.length+1)) (0+a.length+1+b.length+1) 2 [cu a,cu b,0]=rvL s (y.length+1) (0+a.length+1+b.length+1+c.length) 2 [cu a,cu b,cu c]:=
  mb s c _ _ _ 2 [cu a,cu b,0] h4 dc (by decide) rfl (P8 0) vc
 have s6:rvL s (y.length+1) (0+a.length+1+b.length+1+c.length) 2 [cu a,cu b,cu c]=some ([cu a,cu b,cu c],0+a.length+1+b.length+1+c.length):=by
  refine MJ ?_;rcases hy with q|⟨x,q⟩
  ·exact .inl (by rw[h5,q])
  ·exact .inr ⟨x,by rw[h5,q]⟩
 rw[e,s1,s2,s3,s4,s5,s6,PU]
theorem DF(s:Str):fG s=cz s:=by
 rcases DE s with h|h
 ·obtain⟨g1,g2⟩:=DD h;have hv:=AY s h;generalize (cz s).1=v at g1 g2 hv;rw[hv];obtain⟨⟨a1,a2⟩,⟨b1,b2⟩,⟨c1,c2⟩,d1⟩:=nv g2;obtain⟨p1,p2,p3,p4⟩:=iK a1 a2;obtain⟨q1,q2,q3,q4⟩:=iK b1 b2;obtain⟨r1,r2,r3,r4⟩:=iK c1 c2;have n6:∀{t:Str},fB t=true->t.length<=6:=fun{t} q=>by unfold fB at q;simp only[OF,OK]at q;exact q.1.2
  have l1:=n6 p4;have l2:=n6 q4;have l3:=n6 r4
  have e:s=ct v.major++46::(ct v.minor++46::(ct v.patch++(if v.pre=[]then[]else 45::v.pre))):=by
   conv=>lhs;rw[<-g1]
   unfold jb;simp only[Pm,PI,OM]
  have hy:(if v.pre=[]then[]else 45::v.pre)=[]∨∃x,(if v.pre=[]then[]else 45::v.pre)=45::x:=by
   split
   ·exact .inl rfl
   ·exact .inr ⟨_,rfl⟩
  have hR:=Ht e hy p2 q2 r2 (by rw[p1];exact a2) (by rw[q1];exact b2) (by rw[r1];exact c2)
  have hyl:(if v.pre=[]then[]else 45::v.pre).length<=25:=by
   split
   ·exact OJ _
   ·show v.pre.length+1<=25;omega
  have hl:s.length=(ct v.major).length+((ct v.minor).length+((ct v.patch).length+(if v.pre=[]then[]else 45::v.pre).length+1)+1):=by
   conv=>lhs;rw[e]
   simp only[OE,OP]
  unfold fG;rw[OA (by omega),hR,p1,q1,r1];have h5:s.drop ((ct v.major).length+1+(ct v.minor).length+1+(ct v.patch).length)=(if v.pre=[]then[]else 45::v.pre):=by have h0:s.drop 0=ct v.major++46::(ct v.minor++46::(ct v.patch++(if v.pre=[]then[]else 45::v.pre))):=e;have:=lB (gN (lB (gN (lB h0)).2.2)).2.2;rw[PU]at this;exact this
  have hver:dy s [v.major,v.minor,v.patch] ((ct v.major).length+1+(ct v.minor).length+1+(ct v.patch).length)=v:=by
   unfold dy;by_cases z:v.pre=[]
   ·rw[OB z]at hl;have:¬(ct v.major).length+1+(ct v.minor).length+1+(ct v.patch).length<s.length:=by rw[hl];show ¬_<_+(_+(_+0+1)+1);omega
    rw[OA this,<-z];rfl
   ·rw[OA z]at h5;obtain⟨w1,_,w3⟩:=gN h5;rw[OB w1,w3];rfl
  show(if ¬(dL (dy s _ _)).2=0∨¬(dL (dy s _ _)).1=s then(noV,40)else(dy s _ _,0))=_;rw[hver];have hsh:dL v=(jb v,0):=by unfold dL;rw[OB g2]
  rw[hsh,OA];rintro(q|q)
  ·exact q rfl
  ·exact q g1
 ·rw[h];unfold fG;split
  ·rfl
  ·match rvL s (s.length+1) 0 0 [0,0,0]with
   |none=>rfl
   |some (r,i)=>
    show(if ¬(dL (dy s r i)).2=0∨¬(dL (dy s r i)).1=s then(noV,40)else(dy s r i,0))=_;by_cases q:¬(dL (dy s r i)).2=0∨¬(dL (dy s r i)).1=s
    ·rw[OB q]
    ·exfalso;generalize dy s r i=v at q;by_cases hc:bW v=0
     ·have hsh:dL v=(jb v,0):=by unfold dL;rw[OB hc]
      rw[hsh]at q;have q2:jb v=s:=Classical.byContradiction fun z=>q (.inr z);have:=DC hc;rw[q2,h]at this;injection this with _ t
      exact absurd t (by decide)
     ·have hsh:dL v=([],40):=by unfold dL;rw[OA hc]
      rw[hsh]at q;exact q (.inl (by decide))
end Go.Pd
end
section
open Go Go.Proofs Go.RowKit Go.Pd
namespace Go.AL.Seat
def vS(s:Str):Value:=.string ⟨s.toArray⟩
def ic(acc:List Str)(b:UInt8):List Str:=if b=46 then acc++[[]]else acc.set (acc.length-1) (acc.getD (acc.length-1) []++[b])
def eA(s:Str)(k:Nat):List Str:=(s.take k).foldl ic [[]]
theorem kC(s:Str)(k:Nat)(h:k<s.length):eA s (k+1)=ic (eA s k) (s[k]'h):=by unfold eA;rw[Ra h,QJ];rfl
theorem DG(acc:List Str)(b:UInt8)(h:1<=acc.length):1<=(ic acc b).length/\(ic acc b).length<=acc.length+1:=by
 unfold ic;split
 ·rw[OE];simp
 ·rw[Ro];omega
theorem oM(s:Str):∀k,k<=s.length->1<=(eA s k).length/\(eA s k).length<=k+1
 |0,_=>⟨ON _,ON _⟩
 |k+1,h=>by obtain⟨h1,h2⟩:=oM s k (by omega);rw[kC s k (by omega)];have:=DG (eA s k) (s[k]'(by omega)) h1;omega
theorem DH{acc:List Str}{b:UInt8}{m:Nat}(h:∀x∈acc,x.length<=m):∀x∈ic acc b,x.length<=m+1:=by
 intro x hx;unfold ic at hx;split at hx
 ·rcases Po.1 hx with k|k
  ·have:=h x k;omega
  ·simp only[Pp]at k;subst k;simp
 ·rcases List.mem_or_eq_of_mem_set hx with k|k
  ·have:=h x k;omega
  ·subst k;rw[OE];rcases OS (acc.length-1) acc.length with q|q
   ·have:=h (acc.getD (acc.length-1) []) (by rw[OG,OC q];exact QR q);simp only[OD];omega
   ·rw[OG,OI q];simp
theorem oN(s:Str):∀k,k<=s.length->∀x∈eA s k,x.length<=k
 |0,_=>fun x hx=>by simp[eA]at hx;subst hx;simp
 |k+1,h=>by rw[kC s k (by omega)];exact DH (oN s k (by omega))
theorem Tryz.info9':(Tryz.prog.info? 9).map (fun i=>(i.zero,i.size,i.bytes))=some (some (.string ByteArray.empty),1,16):=by kernel_rfl
set_option maxHeartbeats 1600000 in
set_option maxRecDepth 1000000 in
theorem Hu(s:Str)(w:World)(hs:s.length<=4096) :
  Calls Tryz.prog 251 #[vS s] w fun e w'=>∃v,e=.returned v/\w'.ownsRow w.heap.size 9 1 v (eA s s.length).length ((eA s s.length).map vS)/\Below w.heap.size w w':=by
 obtain⟨i0,hi,hz0,hz1,hz2⟩:=info_parts Tryz.info9';unfold vS
 go_enter Tryz.func251,Tryz.ntmps251
 go_wp2
 go_loopw [3,4] (fun v i wr=>∃k:Nat,k<=s.length/\i=.int .i64 k/\wr.ownsRow w.heap.size 9 1 v (eA s k).length ((eA s k).map vS)/\Below w.heap.size w wr)
  (fun _ i _=>s.length-(RowKit.intOf i).toNat)
 case atStart=>
  exact⟨0,OJ _,rfl,⟨rfl,.inr ⟨w.heap.size,1,#[.string ⟨#[]⟩],rfl,ON _,heap_alloc_new w _,ON _,by decide,rfl,rfl⟩⟩,(Below.refl _ _).alloc (ON _) _⟩
 case round=>
  obtain⟨k,hk,rfl,hown,hnx⟩:=hrel;have hpl:=oM s k hk;obtain⟨n,hn⟩:∃n,(eA s k).length=n+1:=⟨_,(Nat.succ_pred (by omega)).symm⟩;rw[hn]at hown;have hsh:=hown.2;rcases hsh with⟨_,h0⟩|⟨g,cap,cur,rfl,hg1,_,hg2,hg3,_,_⟩
  ·omega
  have hfz:wr.frozen? ⟨g,n,none⟩=false:=hown.frozenAt n;by_cases hlt:k<s.length
  ·have hlt':k<(⟨s.toArray⟩:ByteArray).size:=by show k<s.toArray.size;simpa using hlt
   by_cases hd:(s[k]'hlt).toNat=46
   ·have hnext:eA s (k+1)=eA s k++[[]]:=by rw[kC s k hlt];unfold ic;rw[OB (UInt8.toNat_inj.1 hd)]
    have hd2:((((⟨s.toArray⟩:ByteArray)[k]'hlt').toNat:Int) ==46)=true:=by
     have e:((⟨s.toArray⟩:ByteArray)[k]'hlt').toNat=(s[k]'hlt).toNat:=by rfl
     rw[e,hd];rfl
    go_wp2_with (at_builtin;refine wpList_append_own _ rfl _ _ 25 rfl w.heap.size 9 i0 (.string ByteArray.empty) 1 16 Tryz.underlying25 hi hz0 hz1 hz2 rfl (by decide) _ _ _ rfl (hown.alloc _) ⟨wr.heap.size,0,none⟩ 1 1 [.string ByteArray.empty] rfl rfl ?c1 ?c2 ?c3 ?c4 ?c5 ?_)
    case c1=>
     intro j u hj
     match j,hj with
     |0,hj=>simp at hj;subst hj;simp[Addr.add];rfl
    case c2=>intro u hu;simp at hu;subst hu;rfl
    case c3=>unfold maxLen;omega
    case c4=>omega
    case c5=>have:=hnx.size;simp;omega
    intro v' w1 hown' hgrow _;have hown2:w1.ownsRow w.heap.size 9 1 v' (eA s (k+1)).length ((eA s (k+1)).map vS):=by rw[hnext,OE,hn,List.map_append];exact hown'
    clear hown'
    go_wp2
    go_roundw
    case rel=>exact⟨k+1,by omega,by go_num,hown2,(hnx.alloc (by have:=hnx.size;omega) _).grown hgrow (by have:=hnx.size;simp;omega) (by intro q hq;cases hq;exact hg1)⟩
    case measure=>simp[RowKit.intOf];omega
   ·have hd2:((((⟨s.toArray⟩:ByteArray)[k]'hlt').toNat:Int) ==46)=false:=by
     have e:((⟨s.toArray⟩:ByteArray)[k]'hlt').toNat=(s[k]'hlt).toNat:=by rfl
     rw[e];simp;omega
    have hn5:n<=5000:=by omega
    obtain⟨L,hlast,hLl,hnext⟩:∃L:Str,wr.cell? ⟨g,n,none⟩=some (.string ⟨L.toArray⟩)/\L.length<=5000/\eA s (k+1)=(eA s k).set n (L++[s[k]'hlt]):=by
     refine⟨(eA s k).getD n [],?_,?_,?_⟩
     ·rw[hown.cellAt n (by omega),Pl,OC (by omega),OG,OC (by omega)];rfl
     ·have:=oN s k hk ((eA s k).getD n []) (by rw[OG,OC (by omega)];exact QR _);omega
     ·rw[kC s k hlt];unfold ic;rw[OA (fun e=>hd (by rw[e];rfl)),hn];rfl
    have hrun:∀wx,(Instr.slice 9 (.string ⟨s.toArray⟩) (some (.int .i64 (k:Int))) (some (.int .i64 ((k:Int)+1))) none).run Tryz.prog wx=.ok (.string ⟨#[s[k]'hlt]⟩) wx:=fun wx=>by
     rw[run_slice_string wx 9 _ .i64 .i64 _ _ Tryz.underlying9 (by omega) (by omega) (by show(k:Int)+1<=(s.toArray.size:Int);simp;omega),ByteArray.extract_mk];have e1:((k:Int)+1).toNat-((k:Int)).toNat=1:=by omega
     rw[e1,OH,Qh hlt];rfl
    have hadd:∀wx,(Op.stringOp .add (⟨L.toArray⟩:ByteArray) (⟨#[s[k]'hlt]⟩:ByteArray)).run Tryz.prog wx=.ok (.string ⟨(L++[s[k]'hlt]).toArray⟩) wx:=fun wx=>
     run_string_add_lists wx L [s[k]'hlt] (by omega) (by simp)
    go_wp2_with fail
    all_goals (try (exfalso;rename_i hq _;rw[hd2]at hq;cases hq))
    go_region
    all_goals go_wp2
    all_goals go_roundw
    case rel=>
     refine⟨k+1,by omega,by go_num,?_,(hnx.setCell hg1 _).drew⟩;rw[hnext,Ro,hn,List.map_set];exact(hown.stored n _).1.drew
    case measure=>simp[RowKit.intOf];omega
  ·have hkl:k=s.length:=by omega
   subst hkl
   go_wp2_with fail
   go_ret
   exact⟨_,rfl,by rw[hn];exact hown,hnx⟩
theorem nw:∀(s:Str)(acc:List Str)(p:Str),s.foldl ic (acc++[p])=acc++(match splitB 46 s with|[]=>[p]|q::qs=>(p++q)::qs)
 |[],acc,p=>by simp[splitB]
 |b::r,acc,p=>by
  rw[QZ];by_cases hb:b=46
  ·subst hb;have e1:ic (acc++[p]) 46=(acc++[p])++[[]]:=by unfold ic;rw[OB rfl]
   rw[e1,nw r (acc++[p]) []];have hne:=nV 46 r;have e2:splitB 46 (46::r)=[]::splitB 46 r:=by rw[splitB,OB rfl]
   rw[e2]
   cases e:splitB 46 r with|nil=>exact absurd e hne|cons q qs=>simp
  ·have e1:ic (acc++[p]) b=acc++[p++[b]]:=by unfold ic;rw[OA hb];simp
   rw[e1,nw r acc (p++[b])];have hne:=nV 46 r;have e2:splitB 46 (b::r)=match splitB 46 r with|[]=>[[b]]|p::ps=>(b::p)::ps:=by rw[splitB,OA hb];rfl
   rw[e2]
   cases e:splitB 46 r with|nil=>exact absurd e hne|cons q qs=>simp
theorem AZ(s:Str):eA s s.length=splitB 46 s:=by
 unfold eA;rw[Pt];have:=nw s [] [];simp only[OM]at this;rw[this]
 cases e:splitB 46 s with|nil=>exact absurd e (nV 46 s)|cons q qs=>rfl
variable [Tabs]
theorem DI:ab Tryz.prog 251 (p1 .str fun s=>⟨some (s.length<=4096),none,.lst .str (splitB 46 s) none,[]⟩):=by
 refine b7 (aA.mk' Tryz.func251 (by kernel_rfl)) fun s _ ho=>?_;have hlen:s.length<=4096:=ho _ rfl;intro w pub e vs hp ht hv hs hd hi;obtain⟨v,rfl,h1⟩:=VL.one_inv hv;obtain⟨rfl,hl⟩:=h1.str_inv;refine(Hu s w hlen).mono ?_;rintro en w' ⟨v,rfl,hown,hb⟩;have hpl:=oM s s.length (ON _);have hmem:=oN s s.length (ON _);rw[AZ]at hown hpl hmem;generalize splitB 46 s=xs at *
 rcases hown.2 with⟨_,h0⟩|⟨g,cap,cur,rfl,hg1,hg,hg2,hg3,hg4,hg5⟩
 ·omega
 have hw1:ah .str=1:=rfl;refine⟨fun b o=>pub b o∨(w.heap.size<=b/\∃v,w'.cell? ⟨b,o,none⟩=some v),e,?_⟩;refine And.intro (fun b pv u h=>by cases h) (And.intro ?_ ?_)
 ·refine qZ (vs:=xs.map vS) hg (by rw[hw1];exact hg5) ⟨?_,fun j c u hc hu=>?_⟩ hg2 hg3 (fun i hi=>.inr ⟨hg1,?_⟩) (fun id hid=>by cases hid)
  ·rw[cv,hw1];simp
  ·have e1:bJ .str xs=xs.map AV.str:=by unfold bJ;rw[QV];rfl
   rw[e1,Pl,OV]at hc;rw[Pl,OV]at hu;obtain⟨x,hx,rfl⟩:=hc;obtain⟨y,hy,rfl⟩:=hu;rw[hx]at hy;cases hy;exact .str x (by have:=hmem x (Pg hx);unfold cY;omega)
  ·have:=hown.cellAt i hi;rw[this];exact⟨_,OC (by rw[hown.1];exact hi)⟩
 ·exact{
   os:=hb.os
   tape:=hb.tape
   output:=hb.output
   size:=hb.size
   block:=fun b h _=>hb.block b h
   cell:=fun b o h _=>aR (hb.block b h) o
   kind:=fun b h _=>⟨cD (hb.block b h),fun o=>bZ (hb.block b h) o⟩
   ext:=⟨fun _ c h=>⟨c,h,CLe.refl c⟩,fun _ _ h=>.inl h,fun b o h=>by obtain⟨v,hv⟩:=hp b o h;exact aR (hb.block b (bX hv)) o⟩
   fresh:=fun b o h=>h.elim .inl (fun k=>.inr (.inl k.1))
   ok:=fun b o h=>by
    rcases h with h|h
    ·obtain⟨v,hv⟩:=hp b o h;exact⟨v,(aR (hb.block b (bX hv)) o).trans hv⟩
    ·exact h.2
   slots:=fun id o h=>by simp[putB,aM]at h
   dom:=fun id _=>hd id rfl
   inj:=fun i j c d b o h=>by rw[hd i rfl]at h;cases h}
end Go.AL.Seat
end
section
namespace Go.Pd
open Go.AL
abbrev okF:Flt:=⟨0,0⟩
def jc(l:List Tokn)(a:Int):Flt:=⟨90,(az l a).pos⟩
def ad(l:List Tokn)(a:Int)(t:Str):Int×Flt:=if aG l a t=true then(a+1,okF)else(a,jc l a)
def aL(l:List Tokn)(a k:Int):Str×Int×Flt:=if(az l a).kind=k then((az l a).text,a+1,okF)else([],a,jc l a)
def ag(l:List Tokn)(a:Int)(ns:List Str):Str×Int×Flt:=
 ((aL l a 1).1,(aL l a 1).2.1,if(aL l a 1).2.2.err=0/\(aL l a 1).1∈ns then⟨111,(az l a).pos⟩else(aL l a 1).2.2)
def aP{σ:Type}(l:List Tokn)(r:σ->Int->σ×Int×Flt)(btw en:Str):Nat->σ->Int->σ×Int×Flt
 |0,x,a=>(x,a-1,okF)
 |n+1,x,a=>
  if(r x a).2.2.err=0 then
   if aG l (r x a).2.1 en=true then((r x a).1,(r x a).2.1,okF)
   else if(ad l (r x a).2.1 btw).2.err=0 then aP l r btw en n (r x a).1 (ad l (r x a).2.1 btw).1
   else((r x a).1,(ad l (r x a).2.1 btw).1,(ad l (r x a).2.1 btw).2)
  else r x a
def aw{σ:Type}(l:List Tokn)(r:σ->Int->σ×Int×Flt)(btw en:Str)(x:σ)(a:Int):σ×Int×Flt:=
 if aG l a en=true then(x,a,okF)else aP l r btw en (l.length+2) x a
def dM{σ:Type}(b:σ×Int×Flt):σ×Int×Flt:=if b.2.2.err=0 then(b.1,b.2.1+1,okF)else b
def cn{σ:Type}(l:List Tokn)(t:Str)(b:σ×Int×Flt):σ×Int×Flt:=if b.2.2.err=0 then(b.1,ad l b.2.1 t)else b
abbrev SR3:=Shape×Int×Flt
def cA(l:List Tokn)(R:Int->SR3)(x:Shape)(a:Int):SR3:=
 let b:=cn l [58] (ag l a x.names)
 if b.2.2.err=0 then
  let d:=R b.2.1
  if d.2.2.err=0 then(⟨x.kind,x.pkg,x.name,x.names++[b.1],x.parts++[d.1]⟩,d.2.1,okF)else(x,d.2.1,d.2.2)
 else(x,b.2.1,b.2.2)
def Ba(x:Shape)(p:Shape):Shape:=⟨x.kind,x.pkg,x.name,x.names,x.parts++[p]⟩
def cJ(R:Int->SR3)(x:Shape)(a:Int):SR3:=if(R a).2.2.err=0 then(Ba x (R a).1,(R a).2.1,okF)else(x,(R a).2.1,(R a).2.2)
def eL(l:List Tokn)(R:Int->SR3)(a k:Int)(btw en:Str):SR3:=dM (aw l (cA l R) btw en ⟨k,[],[],[],[]⟩ a)
def dv(l:List Tokn)(R:Int->SR3)(a:Int):SR3:=
 let c:=cn l [45,62] (dM (aw l (cJ R) [44] [41] ⟨8,[],[],[],[]⟩ a))
 if c.2.2.err=0 then
  let d:=R c.2.1
  (Ba c.1 d.1,d.2.1,d.2.2)
 else c
def mc(l:List Tokn)(R:Int->SR3)(a:Int):SR3:=
 let t:=az l a
 if t.kind=2 then(fW [] t.text,a+1,okF)
 else if t.kind=1 then
  let b:=ad l (a+1) [47]
  if b.2.err=0 then
   let c:=aL l b.1 2
   (fW t.text c.1,c.2.1,c.2.2)
  else(⟨0,[],[],[],[]⟩,b.1,b.2)
 else if aG l a [91]=true then
  let b:=cn l [93] (R (a+1))
  (⟨5,[],[],[],[b.1]⟩,b.2.1,b.2.2)
 else if aG l a [123]=true then eL l R (a+1) 6 [44] [125]
 else if aG l a [60]=true then eL l R (a+1) 7 [124] [62]
 else if aG l a [40]=true then dv l R (a+1)
 else(⟨0,[],[],[],[]⟩,a,jc l a)
def ay(l:List Tokn):Nat->Int->SR3
 |0,a=>(⟨0,[],[],[],[]⟩,a,okF)
 |n+1,a=>mc l (ay l n) a
def dk(l:List Tokn)(a:Int):SR3:=
 let b:=ay l big a
 (b.1,b.2.1,if b.2.2.err=0/\¬bD b.1=0 then⟨bD b.1,(az l a).pos⟩else b.2.2)
abbrev TR3:=Trm×Int×Flt
def aD(l:List Tokn)(R:Int->TR3):List Str->Trm->Int->TR3
 |[],t,a=>(t,a,okF)
 |w::ws,t,a=>
  if(ad l a w).2.err=0 then
   if(R (ad l a w).1).2.2.err=0 then aD l R ws (ar t (R (ad l a w).1).1) (R (ad l a w).1).2.1
   else(t,(R (ad l a w).1).2.1,(R (ad l a w).1).2.2)
  else(t,(ad l a w).1,(ad l a w).2)
def aV(l:List Tokn)(a:Int)(t:Trm)(f:Flt)(ahead:Str):TR3:=
 if f.err=0 then
  if(ad l a ahead).2.err=0 then(ak t (dk l (ad l a ahead).1).1,(dk l (ad l a ahead).1).2.1,(dk l (ad l a ahead).1).2.2)
  else(t,(ad l a ahead).1,(ad l a ahead).2)
 else(t,a,f)
def cH(R:Int->TR3)(t:Trm)(a:Int):TR3:=if(R a).2.2.err=0 then(ar t (R a).1,(R a).2.1,okF)else(t,(R a).2.1,(R a).2.2)
def dU(l:List Tokn)(R:Int->TR3)(a:Int)(t:Trm)(en:Str):TR3:=dM (aw l (cH R) [44] en t a)
def dj(l:List Tokn)(t:Trm)(a:Int):TR3:=
 let b:=ag l a t.names
 if b.2.2.err=0 then aV l b.2.1 (bc t b.1) okF [58]else(t,b.2.1,b.2.2)
def qC(l:List Tokn)(R:Int->TR3)(a:Int)(t:Trm):TR3:=
 let b:=ad l a [40]
 if b.2.err=0 then
  let c:=aw l (dj l) [44] [41] t b.1
  if c.2.2.err=0 then aD l R [[45,62]] c.1 (c.2.1+1)else c
 else(t,b.1,b.2)
def cr(l:List Tokn)(R:Int->TR3)(t:Trm)(a:Int):TR3:=
 let b:=ag l a t.names
 if b.2.2.err=0 then
  let c:=ad l b.2.1 [40]
  if c.2.err=0 then
   let d:=aL l c.1 1
   let e:=cn l [41] (aV l d.2.1 (cK (bc t b.1) d.1) d.2.2 [58])
   if e.2.2.err=0 then aD l R [[45,62]] e.1 e.2.1 else e
  else(bc t b.1,c.1,c.2)
 else(t,b.2.1,b.2.2)
def dN(l:List Tokn)(R:Int->TR3)(a:Int)(t:Trm):TR3:=dM (aw l (cr l R) [124] [125] t a)
def cO(l:List Tokn)(R:Int->TR3)(t:Trm)(a:Int):TR3:=
 let b:=ag l a t.names
 if b.2.2.err=0 then aD l R [[61]] (bc t b.1) b.2.1 else(t,b.2.1,b.2.2)
def gw(l:List Tokn)(R:Int->TR3)(a:Int)(t:Trm):TR3:=dM (aw l (cO l R) [44] [125] t a)
def pN(t:Trm)(s:Str):Trm:=⟨t.kind,t.pkg,s,t.n,t.names,t.vars,t.shapes,t.parts,t.pos⟩
def fD(l:List Tokn)(R:Int->TR3)(a:Int)(t:Trm)(k:Int):TR3:=
 let b:=aL l a k
 if b.2.2.err=0 then cn l [41] (aD l R [[40]] (pN t b.1) b.2.1)else(t,b.2.1,b.2.2)
def ie(l:List Tokn)(R:Int->TR3)(a p:Int):TR3:=
 let u:=R a
 if u.2.2.err=0 then
  if aG l u.2.1 [97,115]=true then
   let b:=aV l u.2.1 ⟨15,[],[],0,[],[],[],[u.1],p⟩ okF [97,115]
   if b.2.2.err=0 then(b.1,ad l b.2.1 [41])else(⟨15,[],[],0,[],[],[],[u.1],p⟩,b.2.1,b.2.2)
  else(u.1,ad l u.2.1 [41])
 else(⟨0,[],[],0,[],[],[],[],p⟩,u.2.1,u.2.2)
def de(k p:Int):Trm:=⟨k,[],[],0,[],[],[],[],p⟩
def gq(l:List Tokn)(R:Int->TR3)(a:Int):TR3:=
 let tok:=az l a
 let p:=tok.pos
 if tok.kind=3 then(⟨1,[],[],ei tok.text,[],[],[],[],p⟩,a+1,okF)
 else if tok.kind=4 then(⟨2,[],tok.text,0,[],[],[],[],p⟩,a+1,okF)
 else if tok.kind=1 then
  if aG l (a+1) [47]=true then
   let b:=aL l (a+2) 1
   (⟨5,tok.text,b.1,0,[],[],[],[],p⟩,b.2.1,b.2.2)
  else(⟨5,[],tok.text,0,[],[],[],[],p⟩,a+1,okF)
 else if aG l a [116,114,117,101]=true then(de 3 p,a+1,okF)
 else if aG l a [102,97,108,115,101]=true then(de 4 p,a+1,okF)
 else if aG l a [40]=true then ie l R (a+1) p
 else if aG l a [123]=true then gw l R (a+1) (de 8 p)
 else if aG l a [64]=true then fD l R (a+1) (de 10 p) 1
 else if aG l a [110,101,119]=true then fD l R (a+1) (de 16 p) 2
 else if aG l a [114,97,119]=true then fD l R (a+1) (de 17 p) 2
 else(de 0 p,a,jc l a)
def eV(l:List Tokn)(R:Int->TR3)(p:Int):Nat->TR3->TR3
 |0,x=>x
 |n+1,x=>
  if x.2.2.err=0/\aG l x.2.1 [40]=true then eV l R p n (dU l R (x.2.1+1) ⟨7,[],[],0,[],[],[],[x.1],p⟩ [41])
  else if x.2.2.err=0/\aG l x.2.1 [46]=true then
   eV l R p n (⟨9,[],(aL l (x.2.1+1) 1).1,0,[],[],[],[x.1],p⟩,(aL l (x.2.1+1) 1).2.1,(aL l (x.2.1+1) 1).2.2)
  else x
def jd(l:List Tokn)(R:Int->TR3)(a:Int):TR3:=eV l R (az l a).pos (l.length+2) (gq l R a)
def oO(l:List Tokn)(R:Int->TR3)(a:Int):TR3:=
 let p:=(az l a).pos
 if aG l a [102,117,110]=true then qC l R (a+1) (de 6 p)
 else if aG l a [108,101,116]=true then
  let b:=aL l (a+1) 1
  if b.2.2.err=0 then aD l R [[61],[105,110]] (pN (de 14 p) b.1) b.2.1 else(de 14 p,b.2.1,b.2.2)
 else if aG l a [105,102]=true then
  let b:=aD l R [[105,102],[116,104,101,110],[101,108,115,101]] (de 12 p) a
  aV l b.2.1 b.1 b.2.2 [97,115]
 else if aG l a [99,97,115,101]=true then
  let b:=cn l [123] (cn l [111,102] (aD l R [[99,97,115,101]] (de 13 p) a))
  if b.2.2.err=0 then
   let e:=dN l R b.2.1 b.1
   aV l e.2.1 e.1 e.2.2 [97,115]
  else b
 else if aG l a [91]=true then
  let b:=dU l R (a+1) (de 11 p) [93]
  aV l b.2.1 b.1 b.2.2 [111,102]
 else jd l R a
def aa(l:List Tokn):Nat->Int->TR3
 |0,a=>(⟨0,[],[],0,[],[],[],[],0⟩,a,okF)
 |n+1,a=>oO l (aa l n) a
end Go.Pd
end
section
namespace Go.Pd
open Go.AL
abbrev st(l:List Tokn)(a:Int):PS:=⟨l,a,0,0⟩
variable {l:List Tokn}
def Rel{α:Type}(l:List Tokn)(p:α×PS)(r:α×Int×Flt):Prop:=if r.2.2.err=0 then p=(r.1,st l r.2.1)else p.2.err=r.2.2.err/\p.2.fat=r.2.2.pos
def Hv(l:List Tokn)(p:PS)(r:Int×Flt):Prop:=if r.2.err=0 then p=st l r.1 else p.err=r.2.err/\p.fat=r.2.pos
def fy{α:Type}(f:PS->α×PS):Prop:=∀s,¬s.err=0->(f s).2=s
theorem kJ(l:List Tokn)(t:Str)(a:Int):isF t (st l a)=aG l a t:=by simp[isF,b6]
theorem nX(t:Str){s:PS}(h:¬s.err=0):isF t s=false:=by simp[isF,b6,h]
theorem iU(l:List Tokn)(a:Int):aQ (st l a)=st l (a+1):=rfl
theorem pO(l:List Tokn)(e p a:Int):dh e p (st l a)=⟨l,a,e,p⟩:=rfl
theorem qD{e p:Int}{s:PS}(h:¬s.err=0):dh e p s=s:=by simp[dh,h]
theorem cP{t:Str}{s:PS}(h:¬s.err=0):au t s=s:=by simp[au,nX t h,qD h]
theorem qE{k:Int}{s:PS}(h:¬s.err=0):(bd k s).2=s:=by simp[bd,b6,h,qD h]
theorem ig(l:List Tokn)(t:Str)(a:Int):Hv l (au t (st l a)) (ad l a t):=by
 unfold Hv au ad;rw[kJ];split
 ·rfl
 ·simp[pO,jc,aH]
theorem ka(l:List Tokn)(k:Int)(a:Int):Rel l ((bd k (st l a)).1.text,(bd k (st l a)).2) (aL l a k):=by
 unfold Rel bd aL;simp only[aH,b6];split
 ·simp_all [iU]
 ·simp_all [pO,jc]
theorem Hw(l:List Tokn)(k:Int)(a:Int)(h:(aL l a k).2.2.err=0):(bd k (st l a)).1=az l a:=by
 unfold bd;unfold aL at h;simp only[aH,b6];split at h
 ·simp_all
 ·simp[jc]at h
theorem nY(l:List Tokn)(ns:List Str)(a:Int):Rel l (cp ns (st l a)) (ag l a ns):=by
 have h:=ka l 1 a;have h2:=Hw l 1 a;unfold Rel at h⊢;unfold cp ag;by_cases e:(aL l a 1).2.2.err=0
 ·rw[OB e]at h;have h1:=Qb Prod.fst h;have h3:=Qb Prod.snd h;simp only at h1 h3;rw[h3,h1];by_cases m:(aL l a 1).1∈ns
  ·simp only[e,m,b6,dh,h2 e,Rm,Q8,Rz,Pu];simp
  ·simp only[e,m,b6,Rm,Q8,Ru,Pa,Pu]
 ·rw[OA e]at h;have hb:¬(bd 1 (st l a)).2.err=0:=by rw[h.1];exact e
  simp only[e,b6,hb,QC,Qx,Bool.true_eq_false,RJ,Pa];exact h
theorem qF{σ:Type}{b e:Str}{one:σ->PS->σ×PS}{n:Nat}{x:σ}{s:PS}(h:¬s.err=0):(bB b e one n x s).2=s:=by cases n<;>simp[bB,b6,h]
theorem wo{σ:Type}{b e:Str}{one:σ->PS->σ×PS}{x:σ}{s:PS}(h:¬s.err=0):(ai b e one x s).2=s:=by simp[ai,nX e h,qF h]
def ny{σ:Type}(l:List Tokn)(one:σ->PS->σ×PS)(r:σ->Int->σ×Int×Flt):Prop:=∀x a,Rel l (one x (st l a)) (r x a)
def ud{σ:Type}(l:List Tokn)(p:σ×PS)(r:σ×Int×Flt):Prop:=if r.2.2.err=0 then p=(r.1,st l (r.2.1+1))else p.2.err=r.2.2.err/\p.2.fat=r.2.2.pos
theorem ue{σ:Type}{l:List Tokn}{one:σ->PS->σ×PS}{r:σ->Int->σ×Int×Flt}(h:ny l one r)(btw en:Str):∀(n:Nat)(x:σ)(a:Int),
  ud l (bB btw en one n x (st l a)) (aP l r btw en n x a)
 |0,x,a=>by simp[ud,bB,aP,okF]
 |n+1,x,a=>by
  have h1:=h x a;simp only[bB,aP];have hb:b6 (st l a)=false:=rfl;rw[hb];simp only[P9,Pa];unfold Rel at h1;by_cases e:(r x a).2.2.err=0
  ·rw[OB e]at h1;rw[h1,OB e];simp only[kJ];by_cases f:aG l (r x a).2.1 en=true
   ·simp[f,ud,iU]
   ·rw[OA f,OA f];have h2:=ig l btw (r x a).2.1;unfold Hv at h2;by_cases g:(ad l (r x a).2.1 btw).2.err=0
    ·rw[OB g]at h2;rw[h2,OB g];exact ue h btw en n _ _
    ·rw[OA g]at h2;rw[OA g];have hk:¬(au btw (st l (r x a).2.1)).err=0:=by rw[h2.1];exact g
     simp only[ud,OA g,qF hk];exact h2
  ·rw[OA e]at h1;have hk:¬(one x (st l a)).2.err=0:=by rw[h1.1];exact e
   rw[OA e,nX en hk,cP hk];simp only[P9,Pa,ud,OA e,qF hk];exact h1
theorem je{σ:Type}{l:List Tokn}{one:σ->PS->σ×PS}{r:σ->Int->σ×Int×Flt}(h:ny l one r)(btw en:Str)(x:σ)(a:Int) :
  ud l (ai btw en one x (st l a)) (aw l r btw en x a):=by
 unfold ai aw;rw[kJ];split
 ·simp[ud,iU]
 ·exact ue h btw en _ x a
theorem Rel.elim{α:Type}{p:α×PS}{r:α×Int×Flt}(h:Rel l p r):(r.2.2.err=0/\p=(r.1,st l r.2.1))∨(¬r.2.2.err=0/\¬p.2.err=0/\p.2.err=r.2.2.err/\p.2.fat=r.2.2.pos):=by
 unfold Rel at h;split at h
 ·rename_i e;exact .inl ⟨e,h⟩
 ·rename_i e;exact .inr ⟨e,by rw[h.1];exact e,h⟩
theorem Hv.elim{p:PS}{r:Int×Flt}(h:Hv l p r):(r.2.err=0/\p=st l r.1)∨(¬r.2.err=0/\¬p.err=0/\p.err=r.2.err/\p.fat=r.2.pos):=by
 unfold Hv at h;split at h
 ·rename_i e;exact .inl ⟨e,h⟩
 ·rename_i e;exact .inr ⟨e,by rw[h.1];exact e,h⟩
theorem ud.elim{α:Type}{p:α×PS}{r:α×Int×Flt}(h:ud l p r):(r.2.2.err=0/\p=(r.1,st l (r.2.1+1)))∨(¬r.2.2.err=0/\¬p.2.err=0/\p.2.err=r.2.2.err/\p.2.fat=r.2.2.pos):=by
 unfold ud at h;split at h
 ·rename_i e;exact .inl ⟨e,h⟩
 ·rename_i e;exact .inr ⟨e,by rw[h.1];exact e,h⟩
theorem Rel.ok{l:List Tokn}{α:Type}{x:α}{a b:Int}{f:Flt}(hf:f.err=0)(h:a=b):Rel l (x,st l a) (x,b,f):=by simp[Rel,hf,h]
theorem Rel.bad{α:Type}{p:α×PS}{x:α}{b:Int}{f:Flt}(hf:¬f.err=0)(h:p.2.err=f.err/\p.2.fat=f.pos):Rel l p (x,b,f):=by simp only[Rel,hf,Pa];exact h
theorem kc{α:Type}{l:List Tokn}{t:Str}{p:α×PS}{r:α×Int×Flt}(h:Rel l p r):Rel l (p.1,au t p.2) (cn l t r):=by
 unfold cn;rcases h.elim with⟨e,rfl⟩|⟨e,hb,h⟩
 ·rw[OB e];rcases(ig l t r.2.1).elim with⟨f,g⟩|⟨f,_,g⟩
  ·simp only[Rel,f,Pu];rw[g]
  ·exact .bad f g
 ·rw[OA e];simp only[Rel,OA e,cP hb];exact h
theorem kd{α:Type}{p:α×PS}{r:α×Int×Flt}(h:ud l p r):Rel l p (dM r):=by
 unfold dM;rcases h.elim with⟨e,rfl⟩|⟨e,hb,h⟩
 ·rw[OB e];exact .ok rfl rfl
 ·rw[OA e];simp only[Rel,OA e];exact h
theorem Rel.map{α β:Type}(f:α->β){p:α×PS}{r:α×Int×Flt}(h:Rel l p r):Rel l (f p.1,p.2) (f r.1,r.2.1,r.2.2):=by
 rcases h.elim with⟨e,rfl⟩|⟨e,hb,h⟩
 ·exact .ok e rfl
 ·exact .bad e h
section
variable {l:List Tokn} {R:PS->Shape×PS} {R':Int->SR3}
theorem yi(hK:fy R):fy (jW R):=by
 intro s h;have hb:b6 s=true:=by simp[b6,h]
 simp only[jW,hb,nX _ h,Bool.true_eq_false,Ru,Pa,P9,qD h]
theorem me:∀n,fy (an n)
 |0=>fun s _=>rfl
 |n+1=>yi (me n)
theorem pP:fy (ck):=by
 intro s h;have h1:(an big s).2=s:=me big s h;have hb:b6 s=true:=by simp[b6,h]
 simp only[ck,h1,hb,Pu]
theorem pQ(hK:fy R)(h:∀a,Rel l (R (st l a)) (R' a)):ny l (aE R) (cA l R'):=by
 intro x a;have h1:=kc (l:=l) (t:=[58]) (nY l x.names a);simp only[aE,cA];rcases h1.elim with⟨e,g⟩|⟨e,hb,g⟩
 ·rw[OB e];simp only[Qd]at g;obtain⟨g1,g2⟩:=g;rw[g1,g2];rcases(h (cn l [58] (ag l a x.names)).2.1).elim with⟨e2,k⟩|⟨e2,kb,k⟩
  ·rw[OB e2,k];exact .ok rfl rfl
  ·rw[OA e2];exact .bad e2 k
 ·rw[OA e];have:=hK _ hb;simp only at this;exact .bad e (by simp only[this];exact g)
theorem Bb(h:∀a,Rel l (R (st l a)) (R' a)):ny l (aI R) (cJ R'):=by
 intro x a;simp only[aI,cJ,Ba];rcases(h a).elim with⟨e,k⟩|⟨e,kb,k⟩
 ·rw[OB e,k];exact .ok rfl rfl
 ·rw[OA e];exact .bad e k
theorem DJ(hK:fy R)(h:∀a,Rel l (R (st l a)) (R' a))(a:Int):Rel l (jW R (st l a)) (mc l R' a):=by
 have hb:b6 (st l a)=false:=rfl;simp only[jW,mc,hb,kJ,Pb,aH,iU];split
 ·exact .ok rfl rfl
 split
 ·rcases(ig l [47] (a+1)).elim with⟨e,g⟩|⟨e,gb,g⟩
  ·rw[OB e,g];exact(ka l 2 _).map (fW (az l a).text)
  ·rw[OA e];refine .bad e ?_;rw[qE gb];exact g
 split
 ·exact(kc (h (a+1))).map fun x=>(⟨5,[],[],[],[x]⟩:Shape)
 split
 ·exact kd (je (pQ hK h) _ _ _ _)
 split
 ·exact kd (je (pQ hK h) _ _ _ _)
 split
 ·simp only[dv];have h1:=kc (l:=l) (t:=[45,62]) (kd (je (l:=l) (Bb h) [44] [41] (⟨8,[],[],[],[]⟩:Shape) (a+1)));rcases h1.elim with⟨e,g⟩|⟨e,gb,g⟩
  ·rw[OB e];simp only[Qd]at g;obtain⟨g1,g2⟩:=g;rw[g1,g2];exact(h _).map fun p=>Ba _ p
  ·rw[OA e];simp only[Rel,OA e,aI];rw[hK _ gb];exact g
 ·simp[Rel,pO,jc]
theorem qG(l:List Tokn):∀(n:Nat)(a:Int),Rel l (an n (st l a)) (ay l n a)
 |0,a=>.ok rfl rfl
 |n+1,a=>DJ (me n) (qG l n) a
theorem qH(l:List Tokn)(a:Int):Rel l (ck (st l a)) (dk l a):=by
 simp only[ck,dk];rcases(qG l big a).elim with⟨e,g⟩|⟨e,gb,g⟩
 ·rw[g];by_cases c:bD (ay l big a).1=0
  ·simp only[b6,c,e,Rm,Q8,P9,Pa,Pu,QI,Ru];exact .ok e rfl
  ·simp only[b6,c,e,Rm,Q8,P9,Pa,not_false_eq_true,Rz,Pu,dh,aH];exact .bad c ⟨rfl,rfl⟩
 ·have hb:b6 (an big (st l a)).2=true:=by simp[b6,gb]
  simp only[hb,Pu,e,RJ,Pa];exact .bad e g
end
end Go.Pd
end
section
namespace Go.Pd
open Go.AL
section
variable {l:List Tokn} {R:PS->Trm×PS} {R':Int->TR3}
theorem eM(hK:fy R)(t:Trm):fy (aF R t):=fun s h=>hK s h
theorem ke(w:Str)(t:Trm):fy (fe w t):=by intro s h;simp only[fe,cP h];exact pP s h
theorem yj(hK:fy R):fy (dQ R):=by intro s h;simp only[dQ,cP h,hK s h]
theorem Bc(R:PS->Trm×PS):fy (eo R):=by
 intro s h;have hb:b6 s=true:=by simp[b6,h]
 simp only[eo,hb,Pu]
theorem Hx{p:Int}{n:Nat}{t:Trm}{s:PS}(h:¬s.err=0):(gJ R p n t s).2=s:=by cases n<;>simp[gJ,b6,h]
theorem Bd(R:PS->Trm×PS):fy (gi R):=by intro s h;have h1:(eo R s).2=s:=Bc R s h;simp only[gi,h1];exact Hx h
theorem Be(R:PS->Trm×PS):fy (mq R):=by intro s h;simp only[mq,nX _ h,P9,Pa];exact Bd R s h
theorem rD:∀n,fy (a7 n)
 |0=>fun s _=>rfl
 |n+1=>Be _
theorem wu(h:∀a,Rel l (R (st l a)) (R' a)):ny l (aF R) (cH R'):=by
 intro t a;simp only[aF,cH];rcases(h a).elim with⟨e,k⟩|⟨e,kb,k⟩
 ·rw[OB e,k];exact .ok rfl rfl
 ·rw[OA e];exact .bad e k
theorem jf(hK:fy R)(h:∀a,Rel l (R (st l a)) (R' a))(w:Str)(t:Trm)(a:Int):Rel l (aF R t (au w (st l a))) (aD l R' [w] t a):=by
 simp only[aD];rcases(ig l w a).elim with⟨e,g⟩|⟨e,gb,g⟩
 ·rw[OB e,g];simp only[aF];rcases(h (ad l a w).1).elim with⟨f,k⟩|⟨f,kb,k⟩
  ·rw[OB f,k];exact .ok rfl rfl
  ·rw[OA f];exact .bad f k
 ·rw[OA e];refine .bad e ?_;rw[eM hK t _ gb];exact g
theorem qI(hK:fy R)(h:∀a,Rel l (R (st l a)) (R' a))(w:Str){p:Trm×PS}{r:TR3}(hp:Rel l p r) :
  Rel l (aF R p.1 (au w p.2)) (if r.2.2.err=0 then aD l R' [w] r.1 r.2.1 else r):=by
 rcases hp.elim with⟨e,rfl⟩|⟨e,gb,g⟩
 ·rw[OB e];exact jf hK h w r.1 r.2.1
 ·rw[OA e];simp only[Rel,OA e];rw[cP gb,eM hK _ _ gb];exact g
theorem oP(l:List Tokn)(R':Int->TR3)(w:Str)(ws:List Str)(t:Trm)(a:Int) :
  aD l R' (w::ws) t a=if(aD l R' [w] t a).2.2.err=0 then aD l R' ws (aD l R' [w] t a).1 (aD l R' [w] t a).2.1 else aD l R' [w] t a:=by
 simp only[aD];by_cases e:(ad l a w).2.err=0
 ·by_cases f:(R' (ad l a w).1).2.2.err=0
  ·simp[e,f]
  ·simp[e,f]
 ·simp[e]
theorem Fq(w:Str)(t:Trm)(a:Int){f:Flt}(hf:f.err=0):Rel l (fe w t (st l a)) (aV l a t f w):=by
 simp only[fe,aV,OB hf];rcases(ig l w a).elim with⟨e,g⟩|⟨e,gb,g⟩
 ·rw[OB e,g];exact(qH l _).map (ak t)
 ·rw[OA e];refine .bad e ?_;rw[pP _ gb];exact g
theorem pR(w:Str){p:Trm×PS}{r:TR3}(hp:Rel l p r):Rel l (fe w p.1 p.2) (aV l r.2.1 r.1 r.2.2 w):=by
 rcases hp.elim with⟨e,rfl⟩|⟨e,gb,g⟩
 ·exact Fq w r.1 r.2.1 e
 ·simp only[aV,OA e];refine .bad e ?_;rw[ke w _ _ gb];exact g
theorem DK(l:List Tokn):ny l (aK) (dj l):=by
 intro t a;simp only[aK,dj];rcases(nY l t.names a).elim with⟨e,g⟩|⟨e,gb,g⟩
 ·rw[OB e,g];exact Fq _ _ _ rfl
 ·rw[OA e];refine .bad e ?_;rw[ke _ _ _ gb];exact g
theorem yl(hK:fy R)(h:∀a,Rel l (R (st l a)) (R' a)):ny l (ao R) (cO l R'):=by
 intro t a;simp only[ao,cO];rcases(nY l t.names a).elim with⟨e,g⟩|⟨e,gb,g⟩
 ·rw[OB e,g];exact jf hK h _ _ _
 ·rw[OA e];refine .bad e ?_;rw[cP gb,eM hK _ _ gb];exact g
theorem DL(hK:fy R)(h:∀a,Rel l (R (st l a)) (R' a)):ny l (ax R) (cr l R'):=by
 intro t a;simp only[ax,cr];rcases(nY l t.names a).elim with⟨e,g⟩|⟨e,gb,g⟩
 ·rw[OB e,g];rcases(ig l [40] (ag l a t.names).2.1).elim with⟨e2,g2⟩|⟨e2,gb2,g2⟩
  ·rw[OB e2,g2];have h3:=ka l 1 (ad l (ag l a t.names).2.1 [40]).1;have h4:=pR (l:=l) [58] (h3.map fun x=>cK (bc t (ag l a t.names).1) x);have h5:=kc (l:=l) (t:=[41]) h4;rcases h5.elim with⟨e6,g6⟩|⟨e6,gb6,g6⟩
   ·simp only at e6 g6;rw[OB e6];simp only[Qd]at g6;obtain⟨g7,g8⟩:=g6;rw[g7,g8];exact jf hK h _ _ _
   ·simp only at e6 gb6 g6;rw[OA e6];simp only[Rel,OA e6];rw[cP gb6,eM hK _ _ gb6];exact g6
  ·rw[OA e2];refine .bad e2 ?_;have k1:∀k,(bd k (au [40] (st l (ag l a t.names).2.1))).2=au [40] (st l (ag l a t.names).2.1):=fun k=>qE gb2;have k2:∀x:Trm,(fe [58] x (au [40] (st l (ag l a t.names).2.1))).2=au [40] (st l (ag l a t.names).2.1):=fun x=>ke _ x _ gb2;rw[k1,k2,cP gb2,cP gb2,eM hK _ _ gb2];exact g2
 ·rw[OA e];refine .bad e ?_;have k0:au [40] (cp t.names (st l a)).2=(cp t.names (st l a)).2:=cP gb;have k1:∀k,(bd k (cp t.names (st l a)).2).2=(cp t.names (st l a)).2:=fun k=>qE gb;have k2:∀x:Trm,(fe [58] x (cp t.names (st l a)).2).2=(cp t.names (st l a)).2:=fun x=>ke _ x _ gb;rw[k0,k1,k2,cP gb,cP gb,eM hK _ _ gb];exact g
theorem qJ(hK:fy R)(h:∀a,Rel l (R (st l a)) (R' a))(m k p a:Int) :
  Rel l ((⟨m,[],(bd k (st l a)).1.text,0,[],[],[],(dQ R (bd k (st l a)).2).1,p⟩:Trm),(dQ R (bd k (st l a)).2).2) (fD l R' a (de m p) k):=by
 simp only[fD];rcases(ka l k a).elim with⟨e,g⟩|⟨e,gb,g⟩
 ·rw[OB e];simp only[Qd]at g;rw[g.1,g.2];have h1:=kc (l:=l) (t:=[41]) (jf (l:=l) hK h [40] (pN (de m p) (aL l a k).1) (aL l a k).2.1);exact h1
 ·rw[OA e];refine .bad e ?_;simp only at gb g;simp only;rw[yj hK _ gb];exact g
theorem Hy(hK:fy R)(h:∀a,Rel l (R (st l a)) (R' a))(p a:Int) :
  Rel l (if isF [97,115] (R (st l a)).2=true then((⟨15,[],[],0,[],[],[(ck (aQ (R (st l a)).2)).1],[(R (st l a)).1],p⟩:Trm),au [41] (ck (aQ (R (st l a)).2)).2)else((R (st l a)).1,au [41] (R (st l a)).2)) (ie l R' a p):=by
 simp only[ie];rcases(h a).elim with⟨e,g⟩|⟨e,gb,g⟩
 ·rw[OB e,g,kJ];simp only[iU];by_cases f:aG l (R' a).2.1 [97,115]=true
  ·rw[OB f,OB f];have hn:(ad l (R' a).2.1 [97,115])=((R' a).2.1+1,okF):=by simp[ad,f]
   have h2:aV l (R' a).2.1 ⟨15,[],[],0,[],[],[],[(R' a).1],p⟩ okF [97,115]=(ak ⟨15,[],[],0,[],[],[],[(R' a).1],p⟩ (dk l ((R' a).2.1+1)).1,(dk l ((R' a).2.1+1)).2.1,(dk l ((R' a).2.1+1)).2.2):=by simp[aV,hn]
   rw[h2];rcases(qH l ((R' a).2.1+1)).elim with⟨e3,g3⟩|⟨e3,gb3,g3⟩
   ·rw[OB e3,g3];rcases(ig l [41] (dk l ((R' a).2.1+1)).2.1).elim with⟨e4,g4⟩|⟨e4,gb4,g4⟩
    ·simp only[Rel,e4,Pu];rw[g4];rfl
    ·exact .bad e4 g4
   ·rw[OA e3];refine .bad e3 ?_;rw[cP gb3];exact g3
  ·rw[OA f,OA f];rcases(ig l [41] (R' a).2.1).elim with⟨e4,g4⟩|⟨e4,gb4,g4⟩
   ·simp only[Rel,e4,Pu];rw[g4]
   ·exact .bad e4 g4
 ·rw[OA e,nX _ gb];simp only[P9,Pa];refine .bad e ?_;rw[cP gb];exact g
theorem ij{α:Type}{c:Prop}[Decidable c]{p q:α×PS}{r u:α×Int×Flt}(h1:c->Rel l p r)(h2:¬c->Rel l q u):Rel l (if c then p else q) (if c then r else u):=by
 by_cases h:c
 ·rw[OB h,OB h];exact h1 h
 ·rw[OA h,OA h];exact h2 h
theorem wv(hK:fy R)(h:∀a,Rel l (R (st l a)) (R' a))(a:Int):Rel l (eo R (st l a)) (gq l R' a):=by
 have hb:¬b6 (st l a)=true:=by simp[b6]
 unfold eo gq;simp only[kJ,aH,iU];rw[OA hb];refine ij (fun _=>.ok rfl rfl) (fun _=>?_);refine ij (fun _=>.ok rfl rfl) (fun _=>?_);apply ij<;>intro _
 ·refine ij (fun _=>?_) (fun _=>.ok rfl rfl);have:=(ka l 1 (a+2)).map fun x=>(⟨5,(az l a).text,x,0,[],[],[],[],(az l a).pos⟩:Trm);rw[show a+1+1=a+2 by omega];exact this
 refine ij (fun _=>.ok rfl rfl) (fun _=>?_);refine ij (fun _=>.ok rfl rfl) (fun _=>?_);refine ij (fun _=>Hy hK h _ _) (fun _=>?_);refine ij (fun _=>kd (je (yl hK h) _ _ _ _)) (fun _=>?_);refine ij (fun _=>qJ hK h _ _ _ _) (fun _=>?_);refine ij (fun _=>qJ hK h _ _ _ _) (fun _=>?_);refine ij (fun _=>qJ hK h _ _ _ _) (fun _=>?_);simp[Rel,pO,jc]
theorem qK(h:∀a,Rel l (R (st l a)) (R' a))(p:Int):∀(n:Nat)(x:Trm×PS)(r:TR3),Rel l x r->Rel l (gJ R p n x.1 x.2) (eV l R' p n r)
 |0,x,r,hx=>hx
 |n+1,x,r,hx=>by
  simp only[gJ,eV];rcases hx.elim with⟨e,g⟩|⟨e,gb,g⟩
  ·subst g;have hb:b6 (st l r.2.1)=false:=rfl;simp only[hb,kJ,e,Ph,iU,P9,Pa];split
   ·exact qK h p n _ _ (kd (je (wu h) [44] [41] _ _))
   split
   ·exact qK h p n (_,_) _ ((ka l 1 (r.2.1+1)).map fun y=>(⟨9,[],y,0,[],[],[],[r.1],p⟩:Trm))
   ·exact .ok e rfl
  ·have hb:b6 x.2=true:=by simp[b6,gb]
   simp only[hb,Pu,e,RJ,Pa];simp only[Rel,OA e];exact g
theorem Hz(hK:fy R)(h:∀a,Rel l (R (st l a)) (R' a))(a:Int):Rel l (gi R (st l a)) (jd l R' a):=
 qK h _ _ _ _ (wv hK h a)
theorem HA(hK:fy R)(h:∀a,Rel l (R (st l a)) (R' a))(a:Int):Rel l (mq R (st l a)) (oO l R' a):=by
 simp only[mq,oO,kJ,aH,iU];split
 ·simp only[qC];rcases(ig l [40] (a+1)).elim with⟨e,g⟩|⟨e,gb,g⟩
  ·rw[OB e,g];have h1:=je (l:=l) (DK l) [44] [41] (de 6 (az l a).pos) (ad l (a+1) [40]).1;rcases h1.elim with⟨e2,g2⟩|⟨e2,gb2,g2⟩
   ·rw[OB e2];have h3:=jf (l:=l) hK h [45,62] (aw l (dj l) [44] [41] (de 6 (az l a).pos) (ad l (a+1) [40]).1).1 ((aw l (dj l) [44] [41] (de 6 (az l a).pos) (ad l (a+1) [40]).1).2.1+1);unfold de at g2 h3⊢;rw[g2];exact h3
   ·rw[OA e2];unfold de at gb2 g2 e2⊢;simp only[Rel,OA e2];rw[cP gb2,eM hK _ _ gb2];exact g2
  ·rw[OA e];refine .bad e ?_;have k1:∀x:Trm,(ai [44] [41] (aK) x (au [40] (st l (a+1)))).2=au [40] (st l (a+1)):=fun x=>wo gb;rw[k1,cP gb,eM hK _ _ gb];exact g
 split
 ·rcases(ka l 1 (a+1)).elim with⟨e,g⟩|⟨e,gb,g⟩
  ·rw[OB e,oP];simp only[Qd]at g;rw[g.1,g.2];exact qI hK h [105,110] (jf (l:=l) hK h [61] (pN (de 14 (az l a).pos) (aL l (a+1) 1).1) (aL l (a+1) 1).2.1)
  ·rw[OA e];refine .bad e ?_;simp only at gb g;have k1:∀x:Trm,(aF R x (bd 1 (st l (a+1))).2).2=(bd 1 (st l (a+1))).2:=fun x=>eM hK x _ gb;rw[cP gb,k1,cP gb,k1];exact g
 split
 ·rename_i hs
  have h0:Rel l (aF R (de 12 (az l a).pos) (st l (a+1))) (aD l R' [[105,102]] (de 12 (az l a).pos) a):=by
   have:=jf (l:=l) hK h [105,102] (de 12 (az l a).pos) a
   rwa [show au [105,102] (st l a)=st l (a+1)from by simp[au,kJ,hs,iU]]at this
  have h1:=qI (l:=l) hK h [116,104,101,110] h0;have h2:=qI (l:=l) hK h [101,108,115,101] h1;have h3:=pR (l:=l) [97,115] h2
  have e3:aD l R' [[105,102],[116,104,101,110],[101,108,115,101]] (de 12 (az l a).pos) a=(if(if(aD l R' [[105,102]] (de 12 (az l a).pos) a).2.2.err=0 then aD l R' [[116,104,101,110]] (aD l R' [[105,102]] (de 12 (az l a).pos) a).1 (aD l R' [[105,102]] (de 12 (az l a).pos) a).2.1 else aD l R' [[105,102]] (de 12 (az l a).pos) a).2.2.err=0 then aD l R' [[101,108,115,101]] (if(aD l R' [[105,102]] (de 12 (az l a).pos) a).2.2.err=0 then aD l R' [[116,104,101,110]] (aD l R' [[105,102]] (de 12 (az l a).pos) a).1 (aD l R' [[105,102]] (de 12 (az l a).pos) a).2.1 else aD l R' [[105,102]] (de 12 (az l a).pos) a).1 (if(aD l R' [[105,102]] (de 12 (az l a).pos) a).2.2.err=0 then aD l R' [[116,104,101,110]] (aD l R' [[105,102]] (de 12 (az l a).pos) a).1 (aD l R' [[105,102]] (de 12 (az l a).pos) a).2.1 else aD l R' [[105,102]] (de 12 (az l a).pos) a).2.1 else(if(aD l R' [[105,102]] (de 12 (az l a).pos) a).2.2.err=0 then aD l R' [[116,104,101,110]] (aD l R' [[105,102]] (de 12 (az l a).pos) a).1 (aD l R' [[105,102]] (de 12 (az l a).pos) a).2.1 else aD l R' [[105,102]] (de 12 (az l a).pos) a)):=by
   rw[oP l R' [105,102]];by_cases q:(aD l R' [[105,102]] (de 12 (az l a).pos) a).2.2.err=0
   ·simp only[OB q];rw[oP l R' [116,104,101,110]]
   ·simp only[OA q]
  rw[e3];exact h3
 split
 ·rename_i hs
  have h0:Rel l (aF R (de 13 (az l a).pos) (st l (a+1))) (aD l R' [[99,97,115,101]] (de 13 (az l a).pos) a):=by
   have:=jf (l:=l) hK h [99,97,115,101] (de 13 (az l a).pos) a
   rwa [show au [99,97,115,101] (st l a)=st l (a+1)from by simp[au,kJ,hs,iU]]at this
  have h1:=kc (l:=l) (t:=[123]) (kc (l:=l) (t:=[111,102]) h0);rcases h1.elim with⟨e,g⟩|⟨e,gb,g⟩
  ·rw[OB e];simp only[Qd]at g;obtain⟨g1,g2⟩:=g;have h2:=pR (l:=l) [97,115] (kd (je (l:=l) (DL (l:=l) hK h) [124] [125] (cn l [123] (cn l [111,102] (aD l R' [[99,97,115,101]] (de 13 (az l a).pos) a))).1 (cn l [123] (cn l [111,102] (aD l R' [[99,97,115,101]] (de 13 (az l a).pos) a))).2.1));generalize hr:aV l _ _ _ [97,115]=r at h2
   have h3:∀(X:Trm)(S:PS),X=(cn l [123] (cn l [111,102] (aD l R' [[99,97,115,101]] (de 13 (az l a).pos) a))).1->S=st l (cn l [123] (cn l [111,102] (aD l R' [[99,97,115,101]] (de 13 (az l a).pos) a))).2.1->
     Rel l (fe [97,115] (ai [124] [125] (ax R) X S).1 (ai [124] [125] (ax R) X S).2) r:=by
    rintro _ _ rfl rfl;exact h2
   have h4:=h3 _ _ g1 g2;rw[<-hr]at h4;exact h4
  ·rw[OA e];simp only at gb g;unfold de at gb g e⊢;simp only[Rel,OA e];have k1:∀x:Trm,(ai [124] [125] (ax R) x (au [123] (au [111,102] (aF R ⟨13,[],[],0,[],[],[],[],(az l a).pos⟩ (st l (a+1))).2))).2=au [123] (au [111,102] (aF R ⟨13,[],[],0,[],[],[],[],(az l a).pos⟩ (st l (a+1))).2):=fun x=>wo gb;have k2:∀x:Trm,(fe [97,115] x (au [123] (au [111,102] (aF R ⟨13,[],[],0,[],[],[],[],(az l a).pos⟩ (st l (a+1))).2))).2=au [123] (au [111,102] (aF R ⟨13,[],[],0,[],[],[],[],(az l a).pos⟩ (st l (a+1))).2):=fun x=>ke _ x _ gb;rw[k1,k2];exact g
 split
 ·exact pR [111,102] (kd (je (wu h) [44] [93] (de 11 (az l a).pos) (a+1)))
 ·exact Hz hK h a
theorem nz(l:List Tokn):∀(n:Nat)(a:Int),Rel l (a7 n (st l a)) (aa l n a)
 |0,a=>.ok rfl rfl
 |n+1,a=>HA (rD n) (nz l n) a
end
end Go.Pd
end
section
namespace Go.Pd
open Go.AL
def On(l:List Tokn)(a:Int)(f:Flt)(b:Int):Prop:=f.err=0->a<b/\b<=(l.length:Int)
def Wk(l:List Tokn)(a:Int)(f:Flt)(b:Int):Prop:=f.err=0->a<=b/\b<=(l.length:Int)
def OnR{α:Type}(l:List Tokn)(n:Nat)(R:Int->α×Int×Flt):Prop:=∀a,0<=a->a<=(l.length:Int)->((l.length:Int)-a).toNat+1<n->On l a (R a).2.2 (R a).2.1
def OnO{σ:Type}(l:List Tokn)(n:Nat)(r:σ->Int->σ×Int×Flt):Prop:=∀x a,0<=a->a<=(l.length:Int)->((l.length:Int)-a).toNat+1<n->On l a (r x a).2.2 (r x a).2.1
section
variable {l:List Tokn}
theorem On.wk{a b:Int}{f:Flt}(h:On l a f b):Wk l a f b:=fun e=>⟨Rt (h e).1,(h e).2⟩
theorem cg{a:Int}{t:Str}(h:aG l a t=true):a<(l.length:Int):=by apply fj;unfold aG at h;intro k;rw[k]at h;simp at h
theorem pS(a:Int):(jc l a).err=90:=rfl
theorem MK(a:Int)(t:Str):On l a (ad l a t).2 (ad l a t).1:=by
 unfold ad;by_cases h:aG l a t=true
 ·rw[OB h];have:=cg h;exact fun _=>⟨by show a<a+1;omega,by show a+1<=_;omega⟩
 ·rw[OA h];intro e;exact absurd e (by rw[pS];decide)
theorem bp{a:Int}{t:Str}(h:(ad l a t).2.err=0):(ad l a t).1=a+1/\a<(l.length:Int):=by
 unfold ad at h⊢;by_cases k:aG l a t=true
 ·rw[OB k];exact⟨rfl,cg k⟩
 ·rw[OA k]at h;exact absurd h (by rw[pS];decide)
theorem nZ{k:Int}(hk:¬k=0)(a:Int):On l a (aL l a k).2.2 (aL l a k).2.1:=by
 unfold aL;by_cases h:(az l a).kind=k
 ·rw[OB h];have:=fj (l:=l) (a:=a) (by omega);exact fun _=>⟨by show a<a+1;omega,by show a+1<=_;omega⟩
 ·rw[OA h];intro e;exact absurd e (by rw[pS];decide)
theorem DM{a:Int}{ns:List Str}(h:(ag l a ns).2.2.err=0):(aL l a 1).2.2.err=0:=by
 unfold ag at h;by_cases k:(aL l a 1).2.2.err=0/\(aL l a 1).1∈ns
 ·exact k.1
 ·simp only[OA k]at h;exact h
theorem lC(a:Int)(ns:List Str):On l a (ag l a ns).2.2 (ag l a ns).2.1:=fun e=>nZ (by decide) a (DM e)
theorem Fs{α:Type}{R:PS->α×PS}{R':Int->α×Int×Flt}{n:Nat}(hl:l.length<=4097)(hN:aO l)(hs:gX R n)(hr:∀a,Rel l (R (st l a)) (R' a)):OnR l n R':=by
 intro a h0 h1 hn he;have hrem:∀b:Int,rem (st l b)=((l.length:Int)-b).toNat+1:=fun b=>by simp[rem]
 obtain⟨g,e⟩:=hs (st l a) ⟨h0,h1,hl,hN⟩ (by rw[hrem];exact hn);have h:=hr a;unfold Rel at h;rw[OB he]at h;have e2:(R (st l a)).2=st l (R' a).2.1:=by rw[h]
 rw[e2]at g e;have gg:=g.good;unfold a8 at gg;simp only at gg;unfold lf at e;rw[hrem,hrem]at e;omega
theorem pT(hl:l.length<=4097)(hN:aO l)(n:Nat):OnR l n (ay l n):=Fs hl hN (bu n) (qG l n)
theorem fq(hl:l.length<=4097)(hN:aO l)(n:Nat):OnR l n (aa l n):=Fs hl hN (dR n) (nz l n)
theorem KK(hl:l.length<=4097)(hN:aO l){a:Int}(h0:0<=a)(h1:a<=(l.length:Int)):On l a (dk l a).2.2 (dk l a).2.1:=
 Fs (n:=big) hl hN (fun _ hi _=>kq hi) (qH l) a h0 h1 (by unfold big;omega)
theorem uh{σ:Type}{r:σ->Int->σ×Int×Flt}{n:Nat}(h:OnO l n r)(btw en:Str):∀(k:Nat)(x:σ)(a:Int),0<=a->a<=(l.length:Int)->((l.length:Int)-a).toNat+1<n->(l.length:Int)-a<k->
  (aP l r btw en k x a).2.2.err=0->a<=(aP l r btw en k x a).2.1/\(aP l r btw en k x a).2.1<(l.length:Int)
 |0,x,a,h0,h1,_,hk=>by omega
 |k+1,x,a,h0,h1,hn,hk=>by
  rw[aP];have o:=h x a h0 h1 hn;by_cases e:(r x a).2.2.err=0
  ·rw[OB e];obtain⟨o1,o2⟩:=o e;by_cases s:aG l (r x a).2.1 en=true
   ·rw[OB s];have:=cg s;exact fun _=>⟨by show a<=(r x a).2.1;omega,this⟩
   ·rw[OA s];by_cases d:(ad l (r x a).2.1 btw).2.err=0
    ·rw[OB d];obtain⟨d1,d2⟩:=bp d;intro f;have:=uh h btw en k (r x a).1 (ad l (r x a).2.1 btw).1 (by omega) (by omega) (by omega) (by omega) f;omega
    ·rw[OA d];exact fun f=>absurd f d
  ·rw[OA e];exact fun f=>absurd f e
theorem DN{σ:Type}{r:σ->Int->σ×Int×Flt}{n:Nat}(h:OnO l n r)(btw en:Str)(x:σ)(a:Int)(h0:0<=a)(h1:a<=(l.length:Int))(hn:((l.length:Int)-a).toNat+1<n)
 (he:(aw l r btw en x a).2.2.err=0):a<=(aw l r btw en x a).2.1/\(aw l r btw en x a).2.1<(l.length:Int):=by
 unfold aw at he⊢;by_cases s:aG l a en=true
 ·rw[OB s];exact⟨P8 _,cg s⟩
 ·rw[OA s]at he⊢;exact uh h btw en _ x a h0 h1 hn (by omega) he
theorem KL{σ:Type}{b:σ×Int×Flt}:(dM b).2.2.err=0↔b.2.2.err=0:=by
 unfold dM;by_cases h:b.2.2.err=0
 ·rw[OB h];exact⟨fun _=>h,fun _=>rfl⟩
 ·rw[OA h]
theorem Ft{σ:Type}{r:σ->Int->σ×Int×Flt}{n:Nat}(h:OnO l n r)(btw en:Str)(x:σ)(a:Int)(h0:0<=a)(h1:a<=(l.length:Int))(hn:((l.length:Int)-a).toNat+1<n) :
  On l a (dM (aw l r btw en x a)).2.2 (dM (aw l r btw en x a)).2.1:=fun he=>by
 have e:=KL.1 he;obtain⟨p1,p2⟩:=DN h btw en x a h0 h1 hn e;unfold dM;rw[OB e];exact⟨by show a<_+1;omega,by show _+1<=_;omega⟩
theorem ML{α:Type}{a:Int}{t:Str}{b:α×Int×Flt}(h:Wk l a b.2.2 b.2.1):On l a (cn l t b).2.2 (cn l t b).2.1:=by
 unfold cn;by_cases e:b.2.2.err=0
 ·rw[OB e];intro f;obtain⟨k1,k2⟩:=MK b.2.1 t f;exact⟨by have:=(h e).1;show a<(ad l b.2.1 t).1;omega,k2⟩
 ·rw[OA e];exact fun f=>absurd f e
theorem DO{R:Int->TR3}{n:Nat}(h:OnR l n R):∀(ws:List Str)(t:Trm)(a:Int),0<=a->a<=(l.length:Int)->((l.length:Int)-a).toNat+1<n+1->Wk l a (aD l R ws t a).2.2 (aD l R ws t a).2.1
 |[],t,a,h0,h1,hn=>fun _=>⟨P8 _,h1⟩
 |w::ws,t,a,h0,h1,hn=>by
  rw[aD];by_cases e:(ad l a w).2.err=0
  ·rw[OB e];obtain⟨e1,e2⟩:=bp e;by_cases d:(R (ad l a w).1).2.2.err=0
   ·rw[OB d];obtain⟨d1,d2⟩:=h _ (by omega) (by omega) (by omega) d;intro f;obtain⟨k1,k2⟩:=DO h ws _ _ (by omega) d2 (by omega) f;exact⟨by omega,k2⟩
   ·rw[OA d];exact fun f=>absurd f d
  ·rw[OA e];exact fun f=>absurd f e
theorem ui{R:Int->TR3}{n:Nat}(h:OnR l n R)(w:Str)(ws:List Str)(t:Trm)(a:Int)(h0:0<=a)(h1:a<=(l.length:Int))(hn:((l.length:Int)-a).toNat+1<n+1):On l a (aD l R (w::ws) t a).2.2 (aD l R (w::ws) t a).2.1:=by
 rw[aD];by_cases e:(ad l a w).2.err=0
 ·rw[OB e];obtain⟨e1,e2⟩:=bp e;by_cases d:(R (ad l a w).1).2.2.err=0
  ·rw[OB d];obtain⟨d1,d2⟩:=h _ (by omega) (by omega) (by omega) d;intro f;obtain⟨k1,k2⟩:=DO h ws _ _ (by omega) d2 (by omega) f;exact⟨by omega,k2⟩
  ·rw[OA d];exact fun f=>absurd f d
 ·rw[OA e];exact fun f=>absurd f e
theorem pU(hl:l.length<=4097)(hN:aO l){a b:Int}{t:Trm}{f:Flt}(ahead:Str)(h0:0<=a)(h:Wk l a f b):On l a (aV l b t f ahead).2.2 (aV l b t f ahead).2.1:=by
 unfold aV;by_cases e:f.err=0
 ·rw[OB e];obtain⟨k1,k2⟩:=h e;by_cases d:(ad l b ahead).2.err=0
  ·rw[OB d];obtain⟨d1,d2⟩:=bp d;intro g;obtain⟨w1,w2⟩:=KK hl hN (by omega) (by omega) g;exact⟨by show a<(dk _ _).2.1;omega,w2⟩
  ·rw[OA d];exact fun f=>absurd f d
 ·rw[OA e];exact fun f=>absurd f e
theorem MM{R:Int->TR3}{n:Nat}(h:OnR l n R):OnO l n (cH R):=fun x a h0 h1 hn=>by
 unfold cH;by_cases d:(R a).2.2.err=0
 ·rw[OB d];exact fun _=>h a h0 h1 hn d
 ·rw[OA d];exact fun f=>absurd f d
theorem DP{R:Int->TR3}{n:Nat}(hl:l.length<=4097)(hN:aO l)(h:OnR l n R):OnO l (n+1) (cr l R):=fun x a h0 h1 hn=>by
 unfold cr;dsimp only;by_cases e:(ag l a x.names).2.2.err=0
 ·rw[OB e];obtain⟨k1,k2⟩:=lC a x.names e;by_cases d:(ad l (ag l a x.names).2.1 [40]).2.err=0
  ·rw[OB d];obtain⟨d1,d2⟩:=bp d;have hk:=nZ (l:=l) (k:=1) (by decide) (ad l (ag l a x.names).2.1 [40]).1;have ht:=pU hl hN (t:=cK (bc x (ag l a x.names).1) (aL l (ad l (ag l a x.names).2.1 [40]).1 1).1) [58] (by omega) hk.wk;have hth:=ML (l:=l) (t:=[41]) ht.wk;by_cases g:(cn l [41] (aV l (aL l (ad l (ag l a x.names).2.1 [40]).1 1).2.1 (cK (bc x (ag l a x.names).1) (aL l (ad l (ag l a x.names).2.1 [40]).1 1).1) (aL l (ad l (ag l a x.names).2.1 [40]).1 1).2.2 [58])).2.2.err=0
   ·rw[OB g];obtain⟨g1,g2⟩:=hth g;intro f;obtain⟨r1,r2⟩:=DO h _ _ _ (by omega) g2 (by omega) f;exact⟨by omega,r2⟩
   ·rw[OA g];exact fun f=>absurd f g
  ·rw[OA d];exact fun f=>absurd f d
 ·rw[OA e];exact fun f=>absurd f e
theorem Fu{R:Int->TR3}{n:Nat}(h:OnR l n R)(a:Int)(t:Trm)(en:Str)(h0:0<=a)(h1:a<=(l.length:Int))(hn:((l.length:Int)-a).toNat+1<n):On l a (dU l R a t en).2.2 (dU l R a t en).2.1:=
 Ft (MM h) [44] en t a h0 h1 hn
theorem MN{R:Int->TR3}{n:Nat}(hl:l.length<=4097)(hN:aO l)(h:OnR l n R)(a:Int)(t:Trm)(h0:0<=a)(h1:a<=(l.length:Int))(hn:((l.length:Int)-a).toNat+1<n+1):On l a (dN l R a t).2.2 (dN l R a t).2.1:=
 Ft (DP hl hN h) [124] [125] t a h0 h1 hn
theorem MO{R:PS->Trm×PS}{R':Int->TR3}{n:Nat}(hl:l.length<=4097)(hN:aO l)(hK:fy R)(hs:gX R n)(hr:∀a,Rel l (R (st l a)) (R' a)):OnR l (n+1) (gq l R'):=
 Fs hl hN (fun s hi hn=>let m:=oH hs hi hn;⟨m.goes,m.eats⟩) (wv hK hr)
end
end Go.Pd
end
section
namespace Go.AL
variable [Tabs]
section
variable {P:Program}
def p4(τ σ ρ μ:Ty)(F:den τ->den σ->den ρ->den μ->Ans):Pat
 |[a,b,c,d],[]=>(match arg τ a,arg σ b,arg ρ c,arg μ d with|some a,some b,some c,some d=>some (F a b c d)|_,_,_,_=>none)
 |_,_=>none
def p5(τ σ ρ μ ν:Ty)(F:den τ->den σ->den ρ->den μ->den ν->Ans):Pat
 |[a,b,c,d,e],[]=>(match arg τ a,arg σ b,arg ρ c,arg μ d,arg ν e with|some a,some b,some c,some d,some e=>some (F a b c d e)|_,_,_,_,_=>none)
 |_,_=>none
theorem Ng{f:Nat}{τ σ ρ μ ν:Ty}{F:den τ->den σ->den ρ->den μ->den ν->Ans}(he:aA P f)
 (h:∀x y z u v,Wf τ x->Wf σ y->Wf ρ z->(∀q,(F x y z u v).ob=some q->q)->aB P f [inj τ x,inj σ y,inj ρ z,inj μ u,inj ν v] [] (F x y z u v)):ab P f (p5 τ σ ρ μ ν F):=by
 intro args S A hA ho _;unfold p5 at hA;split at hA
 ·split at hA
  ·rename_i x y z u v hx hy hz hu hv;simp at hA;subst hA;exact⟨he,aB.args (.cons (Rd.arg hx) (.cons (Rd.arg hy) (.cons (Rd.arg hz) (.cons (Rd.arg hu) (.cons (Rd.arg hv) .nil))))) (aB.wf fun hw=>h x y z u v hw.one hw.two hw.three ho)⟩
  ·cases hA
 ·cases hA
end
end Go.AL
end
section
namespace Go.Pd
open Go.AL
def iv(l:List Tokn)(a:Int):Int×Flt:=if a<0∨(l.length:Int)<a then(0,⟨2,0⟩)else if 4097<l.length then(0,⟨3,0⟩)else(a,⟨0,0⟩)
def frF(l:List Tokn)(a:Int)(ns:List Str)(k:Nat):Flt:=if(aL l a 1).2.2.err=0/\(aL l a 1).1∈ns.take k then⟨111,(az l a).pos⟩else(aL l a 1).2.2
section
variable {l:List Tokn} {a:Int} {ns:List Str}
theorem KM:frF l a ns 0=(aL l a 1).2.2:=by unfold frF;rw[OA (by simp)]
theorem KN{k:Nat}(h:(frF l a ns k).err=0):(aL l a 1).2.2.err=0/\¬(aL l a 1).1∈ns.take k/\frF l a ns k=(aL l a 1).2.2:=by
 unfold frF at h⊢;by_cases c:(aL l a 1).2.2.err=0/\(aL l a 1).1∈ns.take k
 ·rw[OB c]at h;exact absurd h (by show ¬(111:Int)=0;decide)
 ·rw[OA c]at h⊢;exact⟨h,fun m=>c ⟨h,m⟩,rfl⟩
theorem MP{k:Nat}(h:(frF l a ns k).err=0)(hk:k<ns.length)(e:ns.getD k []=(aL l a 1).1):frF l a ns (k+1)=⟨111,(az l a).pos⟩:=by obtain⟨h1,h2,_⟩:=KN h;unfold frF;rw[OB ⟨h1,by rw[dW ns k [] hk,<-e];simp⟩]
theorem KO{k:Nat}(h:(frF l a ns k).err=0)(hk:k<ns.length)(e:¬ns.getD k []=(aL l a 1).1):frF l a ns k=frF l a ns (k+1):=by
 obtain⟨h1,h2,h3⟩:=KN h;rw[h3];unfold frF
 rw[OA (fun c=>by
  have:=c.2;rw[dW ns k [] hk]at this;rcases Po.1 this with m|m
  ·exact h2 m
  ·simp only[Pp]at m;exact e m.symm)]
theorem MQ:frF l a ns ns.length=(ag l a ns).2.2:=by unfold frF;rw[Pt];rfl
theorem MR{k:Nat}(h:¬(frF l a ns k).err=0):frF l a ns k=(ag l a ns).2.2:=by
 show _=if(aL l a 1).2.2.err=0/\(aL l a 1).1∈ns then(⟨111,(az l a).pos⟩:Flt)else(aL l a 1).2.2
 unfold frF at h⊢;by_cases c:(aL l a 1).2.2.err=0/\(aL l a 1).1∈ns.take k
 ·rw[OB c,OB ⟨c.1,List.mem_of_mem_take c.2⟩]
 ·rw[OA c]at h⊢;rw[OA (fun m=>h m.1)]
end
section
variable {l:List Tokn} {σ:Type} {r:σ->Int->σ×Int×Flt} {btw en:Str} {k:Nat} {x:σ} {a:Int}
theorem fE(h:¬(r x a).2.2.err=0):aP l r btw en (k+1) x a=r x a:=by rw[aP,OA h]
theorem nA(h:(r x a).2.2.err=0)(s:aG l (r x a).2.1 en=true):aP l r btw en (k+1) x a=((r x a).1,(r x a).2.1,okF):=by rw[aP,OB h,OB s]
theorem kD(h:(r x a).2.2.err=0)(s:¬aG l (r x a).2.1 en=true)(d:¬(ad l (r x a).2.1 btw).2.err=0) :
  aP l r btw en (k+1) x a=((r x a).1,(ad l (r x a).2.1 btw).1,(ad l (r x a).2.1 btw).2):=by rw[aP,OB h,OA s,OA d]
theorem kE(h:(r x a).2.2.err=0)(s:¬aG l (r x a).2.1 en=true)(d:(ad l (r x a).2.1 btw).2.err=0) :
  aP l r btw en (k+1) x a=aP l r btw en k (r x a).1 (ad l (r x a).2.1 btw).1:=by rw[aP,OB h,OA s,OB d]
theorem oQ(s:aG l a en=true):aw l r btw en x a=(x,a,okF):=by unfold aw;rw[OB s]
theorem uj(s:¬aG l a en=true):aw l r btw en x a=aP l r btw en (l.length+2) x a:=by unfold aw;rw[OA s]
theorem kF{b:σ×Int×Flt}(h:b.2.2.err=0):dM b=(b.1,b.2.1+1,okF):=by unfold dM;rw[OB h]
theorem fa{b:σ×Int×Flt}(h:¬b.2.2.err=0):dM b=b:=by unfold dM;rw[OA h]
theorem il{t:Str}{b:σ×Int×Flt}(h:b.2.2.err=0):cn l t b=(b.1,ad l b.2.1 t):=by unfold cn;rw[OB h]
theorem gO{t:Str}{b:σ×Int×Flt}(h:¬b.2.2.err=0):cn l t b=b:=by unfold cn;rw[OA h]
end
section
variable {l:List Tokn} {R:Int->SR3} {x:Shape} {a:Int}
theorem rn_1(h:¬(ag l a x.names).2.2.err=0):cA l R x a=(x,(ag l a x.names).2.1,(ag l a x.names).2.2):=by unfold cA;rw[gO h];dsimp only;rw[OA h]
theorem rn_2(h:(ag l a x.names).2.2.err=0)(d:¬(ad l (ag l a x.names).2.1 [58]).2.err=0):cA l R x a=(x,(ad l (ag l a x.names).2.1 [58]).1,(ad l (ag l a x.names).2.1 [58]).2):=by unfold cA;rw[il h];dsimp only;rw[OA d]
theorem rn_3(h:(ag l a x.names).2.2.err=0)(d:(ad l (ag l a x.names).2.1 [58]).2.err=0)(e:¬(R (ad l (ag l a x.names).2.1 [58]).1).2.2.err=0) :
  cA l R x a=(x,(R (ad l (ag l a x.names).2.1 [58]).1).2.1,(R (ad l (ag l a x.names).2.1 [58]).1).2.2):=by
 unfold cA;rw[il h];dsimp only;rw[OB d,OA e]
theorem rn_4(h:(ag l a x.names).2.2.err=0)(d:(ad l (ag l a x.names).2.1 [58]).2.err=0)(e:(R (ad l (ag l a x.names).2.1 [58]).1).2.2.err=0) :
  cA l R x a=(⟨x.kind,x.pkg,x.name,x.names++[(ag l a x.names).1],x.parts++[(R (ad l (ag l a x.names).2.1 [58]).1).1]⟩,(R (ad l (ag l a x.names).2.1 [58]).1).2.1,okF):=by
 unfold cA;rw[il h];dsimp only;rw[OB d,OB e]
theorem rp_1(h:¬(R a).2.2.err=0):cJ R x a=(x,(R a).2.1,(R a).2.2):=by unfold cJ;rw[OA h]
theorem rp_2(h:(R a).2.2.err=0):cJ R x a=(Ba x (R a).1,(R a).2.1,okF):=by unfold cJ;rw[OB h]
end
end Go.Pd
end
section
namespace Go.Pd
open Go.AL
def p0(A:Ans):Pat
 |[],[]=>some A
 |_,_=>none
theorem Ob[Tabs]{P:Program}{f:Nat}{A:Ans}(he:aA P f)(h:aB P f [] [] A):ab P f (p0 A):=by
 intro args S A' hA _ _;unfold p0 at hA;split at hA
 ·simp only[Xs]at hA;subst hA;exact⟨he,h⟩
 ·cases hA
end Go.Pd
end
section
open Go Go.AL Go.Pd
namespace Go.AL.Seat
theorem MS(n:Nat)(s:Shape)(m:Int)(hs:Wf (.st .shape) s)(ho:sz s<=n+1/\0<=m/\m<=1000000) :
  let A:=(1:Int);let B:=(0:Int);let C:=s=s/\m=m/\B=B/\s=s/\True;let D:=(↑(List.length s.parts):Int);let E:=dfl (Ty.st SN.shape);(∃(x:Nat×Int),(x.1<=List.length s.parts/\A<=x.2/\x.2<=m+A/\sizeL (List.drop x.1 s.parts) x.2 m=sizeF s m)/\A=x.2/\B=(↑x.1:Int)/\C)/\∀(x:Nat×Int),let F:=(↑x.1:Int);let G:=m-x.2;let H:=List.getD s.parts (Int.toNat F) E;let I:=True/\x.2=sizeF s m/\True;x.1<=List.length s.parts/\A<=x.2/\x.2<=m+A/\sizeL (List.drop x.1 s.parts) x.2 m=sizeF s m->if decide (F<D)=true then if decide (x.2<=m)=true then(B<=F/\F<D)/\inR IntKind.i64 G/\(sz H<=n/\B<=m-x.2/\m-x.2<=(1000000:Int))/\inR IntKind.i64 (x.2+sizeF H G)/\inR IntKind.i64 (F+A)/\∃(y:Nat×Int),(y.1<=List.length s.parts/\A<=y.2/\y.2<=m+A/\sizeL (List.drop y.1 s.parts) y.2 m=sizeF s m)/\List.length s.parts-y.1<List.length s.parts-x.1/\x.2+sizeF H G=y.2/\F+A=(↑y.1:Int)/\C else I else I:=by
 conv=>zeta
 have ln:=hs.parts.len;have hz:=pz s;obtain⟨ho1,ho2,ho3⟩:=ho;have h0:sizeL s.parts 1 m=sizeF s m:=by cases s;rfl
 simp only[OH,PO,Ph,Pb];refine⟨⟨(0,1),⟨OJ _,by omega,by omega,h0⟩,rfl,rfl⟩,?_⟩;rintro⟨k,c⟩ ⟨h1,h2,h3,h4⟩;simp only at h1 h2 h3 h4⊢;apply a6<;>intro hk
 ·replace hk:=Xo hk;have hk:k<s.parts.length:=by omega
  have hm:=jU (bO s.parts k (dfl (.st .shape)) hk);rw[aJ s.parts k (dfl (.st .shape)) hk]at h4;simp only[sizeL]at h4;apply a6<;>intro hc
  ·replace hc:=Xo hc;rw[OB hc]at h4;have hb:=sizeF_bd (s.parts.getD k (dfl (.st .shape))) (m-c) (by omega);exact⟨by omega,aj (by omega) (by omega),by omega,aj (by omega) (by omega),ba hk ln,(k+1,_),⟨by omega,by simp only;omega,by simp only;omega,h4⟩,by simp only;omega,rfl,rfl⟩
  ·rw[OA (fun e=>hc (Xd e))]at h4;exact h4
 ·replace hk:¬((k:Int)<(s.parts.length:Int)):=fun e=>hk (Xd e);have e:k=s.parts.length:=by omega
  subst e;rw[OO]at h4;exact h4
theorem HB(c:Int)  :
  if decide ((97:Int)<=c)=true then True/\decide (c<=(122:Int))=bV c/\True else True/\false=bV c/\True:=by
 simp only[Ph,Pb];unfold bV;by_cases h:(97:Int)<=c
 ·rw[OB (Xd h)];simp[h]
 ·rw[OA (by simpa using h)];simp[h]
theorem HC(c:Int)  :
  if decide ((65:Int)<=c)=true then True/\decide (c<=(90:Int))=cb c/\True else True/\false=cb c/\True:=by
 simp only[Ph,Pb];unfold cb;by_cases h:(65:Int)<=c
 ·rw[OB (Xd h)];simp[h]
 ·rw[OA (by simpa using h)];simp[h]
theorem HD(c:Int)  :
  if decide ((48:Int)<=c)=true then True/\decide (c<=(57:Int))=aY c/\True else True/\false=aY c/\True:=by
 simp only[Ph,Pb];unfold aY;by_cases h:(48:Int)<=c
 ·rw[OB (Xd h)];simp[h]
 ·rw[OA (by simpa using h)];simp[h]
theorem KP(s:Str)(hs:Wf .str s) :
  let A:=(0:Int);let B:=s=s/\A=A/\True;let C:=(↑(List.length s):Int);let D:=(0:UInt8);let E:=(1:Int);let F:=(↑(dq s):Int);(∃(x:Nat),(x<=List.length s/\dq s=x+dq (List.drop x s))/\A=(↑x:Int)/\B)/\∀(x:Nat),let G:=(↑x:Int);let H:=A<=G/\G<C;let I:=(↑(UInt8.toNat (List.getD s (Int.toNat G) D)):Int);let J:=inR IntKind.i64 (G+E)/\∃(y:Nat),(y<=List.length s/\dq s=y+dq (List.drop y s))/\List.length s-y<List.length s-x/\G+E=(↑y:Int)/\B;let K:=True/\G=F/\True;x<=List.length s/\dq s=x+dq (List.drop x s)->if decide (G<C)=true then H/\if bV I=true then J else H/\if cb I=true then J else H/\if aY I=true then J else H/\if decide (I=(95:Int))=true then J else K else K:=by
 conv=>zeta
 have ln:=hs.str;have eb:∀b:UInt8,(b.toNat:Int)=bI b:=fun _=>rfl;simp only[OH,PO,Ph,Pb,eb];refine⟨⟨0,⟨OJ _,by simp⟩,rfl⟩,?_⟩;rintro k ⟨h1,h2⟩;apply a6<;>intro h
 ·replace h:=Xo h;have hk:k<s.length:=by omega
  rw[aJ s k 0 hk]at h2;simp only[dq]at h2;have fin:cd (bI (s.getD k 0))=true->(inR IntKind.i64 ((k:Int)+1)/\∃y:Nat,(y<=s.length/\dq s=y+dq (s.drop y))/\s.length-y<s.length-k/\(k:Int)+1=(y:Int)):=by intro e;rw[OB e]at h2;exact⟨ba hk ln,k+1,⟨by omega,by omega⟩,by omega,by omega⟩
  have hr:cd (bI (s.getD k 0))=(bV (bI (s.getD k 0))||cb (bI (s.getD k 0))||aY (bI (s.getD k 0))||decide (bI (s.getD k 0)=95)):=rfl;refine⟨by omega,a6 (fun a=>fin (by rw[hr,a];simp)) (fun a=>⟨by omega,a6 (fun b=>fin (by rw[hr,b];simp)) (fun b=>⟨by omega,a6 (fun c=>fin (by rw[hr,c];simp)) (fun c=>⟨by omega,a6 (fun d=>fin (by rw[hr,d];simp)) (fun d=>?_)⟩)⟩)⟩)⟩;rw[OA ?_]at h2
  ·omega
  ·rw[hr];simp only[Pf]at a b c d;rw[a,b,c,d];simp
 ·replace h:¬((k:Int)<(s.length:Int)):=fun e=>h (Xd e);have e:k=s.length:=by omega
  subst e;rw[OO]at h2;simp only[dq]at h2;omega
theorem KQ(s:Str)(l:List Str)(hl:Wf (.lst .str) l) :
  let A:=s=s/\l=l/\True;let B:=(↑(List.length l):Int);(∃(x:Nat),(x<=List.length l/\decide (s∈l)=decide (s∈List.drop x l))/\(0:Int)=(↑x:Int)/\A)/\∀(x:Nat),let C:=(↑x:Int);x<=List.length l/\decide (s∈l)=decide (s∈List.drop x l)->if decide (C<B)=true then((0:Int)<=C/\C<B)/\if decide (s=List.getD l (Int.toNat C) (dfl Ty.str))=true then True/\true=decide (s∈l)/\True else inR IntKind.i64 (C+(1:Int))/\∃(y:Nat),(y<=List.length l/\decide (s∈l)=decide (s∈List.drop y l))/\List.length l-y<List.length l-x/\C+(1:Int)=(↑y:Int)/\A else True/\false=decide (s∈l)/\True:=by
 conv=>zeta
 have ln:=hl.len;simp only[OH,PO,Ph,Pb];refine⟨⟨0,⟨OJ _,by simp⟩,rfl⟩,?_⟩;rintro k ⟨h1,h2⟩;apply a6<;>intro h
 ·replace h:=Xo h;have hk:k<l.length:=by omega
  rw[aJ l k (dfl .str) hk]at h2;refine⟨by omega,a6 (fun a=>?_) (fun a=>?_)⟩
  ·rw[h2,Xo a];simp
  ·refine⟨ba hk ln,k+1,⟨by omega,?_⟩,by omega,by omega⟩;rw[h2,Pv,OT];constructor
   ·rintro(h|h)
    ·exact absurd (Xd h) a
    ·exact h
   ·exact Or.inr
 ·replace h:¬((k:Int)<(l.length:Int)):=fun e=>h (Xd e);have e:k=l.length:=by omega
  subst e;rw[h2,OO];simp
theorem KR(s:Str)  :
  let A:=101;True/\decide (s∈[([109,111,100,117,108,A]:Str),([105,109,112,111,114,116]:Str),([112,105,110]:Str),([114,97,110,103,A]:Str),([116,121,112,A]:Str),([111,112,97,113,117,A]:Str),([108,A,116]:Str),([105,110]:Str),([A,120,112,111,114,116]:Str),([102,117,110]:Str),([105,102]:Str),([116,104,A,110]:Str),([A,108,115,A]:Str),([99,97,115,A]:Str),([111,102]:Str),([97,115]:Str),([110,A,119]:Str),([114,97,119]:Str),([116,114,117,A]:Str),([102,97,108,115,A]:Str)])=l9 s/\True:=by
 conv=>zeta
 exact Xr
theorem KS(s:Str)  :
  let A:=(↑(List.length s):Int);let B:=(0:Int);let C:=True/\false=aX s/\True;if(!decide (s=[]))=true then if decide (A<=(24:Int))=true then(B<=B/\B<A)/\if bV (↑(UInt8.toNat (List.getD s (Int.toNat B) (0:UInt8))):Int)=true then if decide ((↑(dq s):Int)=A)=true then True/\(!l9 s)=aX s/\True else C else C else C else C:=by
 conv=>zeta
 have eb:∀b:UInt8,(b.toNat:Int)=bI b:=fun _=>rfl;simp only[OH,PW,PO,Ph,Pb,eb];have hF:aX s=(!decide (s=[])&&decide (s.length<=24)&&bV (bI (s.getD 0 0))&&decide (dq s=s.length)&&!l9 s):=by unfold aX;rw[rA]
 apply a6<;>intro a
 ·have a':decide (s=[])=false:=by simpa using a
  have hpos:0<s.length:=Pw.2 (of_decide_eq_false a');apply a6<;>intro b
  ·have b':s.length<=24:=by have:=Xo b;omega
   refine⟨by omega,a6 (fun c=>?_) (fun c=>?_)⟩
   ·apply a6<;>intro d
    ·have d':dq s=s.length:=by have:=Xo d;omega
     rw[hF,a',c,d'];simp[b']
    ·have d':¬dq s=s.length:=fun e=>d (Xd (by omega));rw[hF];simp[d']
   ·simp only[Pf]at c;rw[hF,c];simp
  ·have b':¬s.length<=24:=fun e=>b (Xd (by omega));rw[hF];simp[b']
 ·have a':decide (s=[])=true:=by simpa using a
  rw[hF,a'];simp
theorem HE(s:Str)  :
  let A:=(↑(List.length s):Int);let B:=(0:Int);let C:=True/\false=dH s/\True;if(!decide (s=[]))=true then if decide (A<=(24:Int))=true then(B<=B/\B<A)/\if cb (↑(UInt8.toNat (List.getD s (Int.toNat B) (0:UInt8))):Int)=true then True/\decide ((↑(dq s):Int)=A)=dH s/\True else C else C else C:=by
 conv=>zeta
 have eb:∀b:UInt8,(b.toNat:Int)=bI b:=fun _=>rfl;simp only[OH,PW,PO,Ph,Pb,eb];have hF:dH s=(!decide (s=[])&&decide (s.length<=24)&&cb (bI (s.getD 0 0))&&decide (dq s=s.length)):=by unfold dH;rw[rA]
 apply a6<;>intro a
 ·have a':decide (s=[])=false:=by simpa using a
  have hpos:0<s.length:=Pw.2 (of_decide_eq_false a');apply a6<;>intro b
  ·have b':s.length<=24:=by have:=Xo b;omega
   refine⟨by omega,a6 (fun c=>?_) (fun c=>?_)⟩
   ·rw[hF,a',c];simp[b',Int.ofNat_inj]
   ·simp only[Pf]at c;rw[hF,c];simp
  ·have b':¬s.length<=24:=fun e=>b (Xd (by omega));rw[hF];simp[b']
 ·have a':decide (s=[])=true:=by simpa using a
  rw[hF,a'];simp
theorem HF(ns:List Str)(n:Int)(hl:Wf (.lst .str) ns) :
  let A:=(0:Int);let B:=True;let C:=ns=ns/\n=n/\B;let D:=(↑(List.length ns):Int);let E:=dfl Ty.str;let F:=B/\false=jx ns n/\B;let G:=ns=ns/\n=n/\true=true/\false=false/\B;let H:=(1:Int);(∃(x:Nat),let I:=List.take x ns;(x<=List.length ns/\List.all I aX=true/\List.Nodup I)/\A=(↑x:Int)/\C)/\∀(x:Nat),let I:=List.take x ns;let J:=(↑x:Int);let K:=A<=J/\J<D;let L:=Int.toNat J;x<=List.length ns/\List.all I aX=true/\List.Nodup I->if decide (J<D)=true then K/\if(!aX (List.getD ns L E))=true then F else(∃(x_1:Nat),let M:=(↑x_1:Int);(M<=J/\¬List.getD ns L E∈List.take x_1 ns)/\A=M/\J=J/\G)/\∀(x_1:Nat),let M:=(↑x_1:Int);M<=J/\¬List.getD ns L E∈List.take x_1 ns->if decide (M<J)=true then(A<=M/\M<D)/\K/\if decide (List.getD ns (Int.toNat M) E=List.getD ns L E)=true then F else inR IntKind.i64 (M+H)/\∃(y:Nat),((↑y:Int)<=J/\¬List.getD ns L E∈List.take y ns)/\Int.toNat J-y<Int.toNat J-x_1/\M+H=(↑y:Int)/\J=J/\G else inR IntKind.i64 (J+H)/\∃(y:Nat),let N:=List.take y ns;(y<=List.length ns/\List.all N aX=true/\List.Nodup N)/\List.length ns-y<List.length ns-x/\J+H=(↑y:Int)/\C else B/\decide (D=n)=jx ns n/\B:=by
 conv=>zeta
 have ln:=hl.len;simp only[OH,PO,Ph,Pb];refine⟨⟨0,⟨OJ _,by simp,by simp⟩,rfl⟩,?_⟩;rintro k ⟨h1,h2,h3⟩;apply a6<;>intro h
 ·replace h:=Xo h;have hk:k<ns.length:=by omega
  have hmem:=bO ns k (dfl .str) hk;have ht:=dW ns k (dfl .str) hk;refine⟨by omega,a6 (fun a=>?_) (fun a=>?_)⟩
  ·have a':ns.all aX=false:=by rw[P5];intro e;have:=P0.1 e _ hmem;rw[this]at a;simp at a
   unfold jx;rw[a'];simp
  ·have a':aX (ns.getD k (dfl .str))=true:=by simpa using a
   refine⟨⟨0,⟨by omega,by simp⟩,rfl⟩,?_⟩;rintro j ⟨j1,j2⟩;apply a6<;>intro b
   ·replace b:=Xo b;have hj:j<k:=by omega
    have hjn:j<ns.length:=by omega
    have htj:=dW ns j (dfl .str) hjn;refine⟨by omega,by omega,a6 (fun c=>?_) (fun c=>?_)⟩
    ·replace c:=Xo c;have hnd:¬ns.Nodup:=by intro hn;rw[QO]at hn;have:=Qj.1 hn j k hjn hk hj;rw[OG,OG,OC hjn,OC hk]at c;exact this c
     unfold jx;simp[hnd]
    ·refine⟨ba hjn ln,j+1,⟨by omega,?_⟩,by omega,by omega⟩;rw[htj,Po,Pp,Ry];exact⟨j2,fun e=>c (Xd e.symm)⟩
   ·have hj:j=k:=by have:¬((j:Int)<(k:Int)):=fun e=>b (Xd e);omega
    subst hj;refine⟨ba hk ln,j+1,⟨by omega,?_,?_⟩,by omega,by omega⟩
    ·rw[ht,Qa,h2];simpa using a'
    ·rw[ht,List.nodup_append];refine⟨h3,by simp,fun x hx y hy=>?_⟩;rw[Pp]at hy;subst hy;intro e;subst e;exact j2 hx
 ·replace h:¬((k:Int)<(ns.length:Int)):=fun e=>h (Xd e);have e:k=ns.length:=by omega
  subst e;rw[Pt]at h2 h3;unfold jx;rw[h2];simp[h3]
theorem KT(s:Shape)(hs:Wf (.st .shape) s) :
  let A:=(↑(List.length s.names):Int);let B:=(0:Int);let C:=True;let D:=(↑(List.length s.parts):Int);let E:=C/\decide (D=B)=bK s/\C;let F:=C/\false=bK s/\C;let G:=if decide (A=B)=true then E else F;let H:=if dH s.name=true then G else F;let I:=if dH s.name=true then F else F;let J:=if aX s.pkg=true then H else if decide (s.pkg=[])=true then if decide (s.kind=(9:Int))=true then I else I else I;let K:=if decide (s.name=([73,110,116]:Str))=true then J else if decide (s.name=([66,111,111,108]:Str))=true then J else if decide (s.name=([84,101,120,116]:Str))=true then J else if aX s.pkg=true then H else if decide (s.pkg=[])=true then if decide (s.kind=(9:Int))=true then if dH s.name=true then if(!decide (s.name=([65,110,121]:Str)))=true then G else F else F else I else I;let L:=C/\jx s.names D=bK s/\C;let M:=(1:Int);if decide (s.kind=(9:Int))=true then K else if decide (s.kind=(10:Int))=true then K else if(!decide (s.pkg=[]))=true then F else if(!decide (s.name=[]))=true then F else if decide (s.kind=(6:Int))=true then L else if decide (s.kind=(7:Int))=true then L else if decide (B<A)=true then F else if decide (s.kind=(8:Int))=true then C/\decide (M<=D)=bK s/\C else if decide (s.kind=(5:Int))=true then C/\decide (D=M)=bK s/\C else if decide (M<=s.kind)=true then if decide (s.kind<=(4:Int))=true then E else F else F:=by
 conv=>zeta
 have n0:((s.names.length:Int)=0)↔s.names=[]:=by rw[<-PJ];omega
 have n1:(0<(s.names.length:Int))↔¬s.names=[]:=by rw[<-PJ];omega
 have p0:((s.parts.length:Int)=0)↔s.parts=[]:=by rw[<-PJ];omega
 have p1:((s.parts.length:Int)=1)↔s.parts.length=1:=by omega
 have p2:(1<=(s.parts.length:Int))↔¬s.parts=[]:=by rw[<-PJ];omega
 have hn:jx s.names (s.parts.length:Int)=fh s:=by unfold jx fh;rw[Pv.2 (show((s.names.length:Int)=(s.parts.length:Int))↔s.names.length=s.parts.length by omega)]
 simp only[n0,n1,p0,p1,p2,hn,OK,Ph,Pb];have hf:bK s=bK s:=rfl;conv at hf=>rhs;unfold bK
 unfold mV at hf;have hk:(s.kind=1∨s.kind=2∨s.kind=3∨s.kind=4)↔(1<=s.kind/\s.kind<=4):=by omega
 simp only[hk]at hf;clear hk n0 n1 p0 p1 p2 hn;revert hf;generalize bK s=F;generalize fh s=A;generalize dH s.name=B;generalize aX s.pkg=C;generalize s.kind=K;intro hf
 repeat' (apply a6<;>intro _)
 all_goals (subst hf;(try simp_all);try (intros;omega))
theorem KU(n:Nat)(s:Shape)(hs:Wf (.st .shape) s)(hn:sz s<=n+1) :
  let A:=True/\false=allS bK s/\True;let B:=s=s/\false=false/\s=s/\True;let C:=(↑(List.length s.parts):Int);let D:=dfl (Ty.st SN.shape);if(!bK s)=true then A else(∃(x:Nat),(x<=List.length s.parts/\allS bK s=allL bK (List.drop x s.parts))/\(0:Int)=(↑x:Int)/\B)/\∀(x:Nat),let E:=(↑x:Int);let F:=List.getD s.parts (Int.toNat E) D;x<=List.length s.parts/\allS bK s=allL bK (List.drop x s.parts)->if decide (E<C)=true then((0:Int)<=E/\E<C)/\sz F<=n/\if(!allS bK F)=true then A else inR IntKind.i64 (E+(1:Int))/\∃(y:Nat),(y<=List.length s.parts/\allS bK s=allL bK (List.drop y s.parts))/\List.length s.parts-y<List.length s.parts-x/\E+(1:Int)=(↑y:Int)/\B else True/\true=allS bK s/\True:=by
 conv=>zeta
 have ln:=hs.parts.len;have hz:=pz s;simp only[OH,PO,Ph,Pb];apply a6<;>intro h
 ·have h:bK s=false:=by simpa using h
  rw[nN,h];rfl
 have h:bK s=true:=by simpa using h
 refine⟨⟨0,⟨OJ _,by rw[nN,h];rfl⟩,rfl⟩,?_⟩;rintro k ⟨h1,h3⟩;apply a6<;>intro h
 ·replace h:=Xo h;have hk:k<s.parts.length:=by omega
  have hm:=jU (bO s.parts k (dfl (.st .shape)) hk);rw[aJ s.parts k (dfl (.st .shape)) hk]at h3;simp only[allL]at h3;refine⟨by omega,by omega,?_⟩;cases e:allS bK (s.parts.getD k (dfl (.st .shape)))
  ·rw[e]at h3;rw[h3];simp
  ·simp only[e,OY]at h3;exact⟨ba hk ln,k+1,⟨by omega,h3⟩,by omega,by omega⟩
 ·replace h:¬((k:Int)<(s.parts.length:Int)):=fun e=>h (Xd e);have e:k=s.parts.length:=by omega
  subst e;rw[h3,OO];rfl
theorem MT(n:Nat)(s:Shape)(hs:Wf (.st .shape) s)(hn:sz s<=n+1)(hb:n<=1000000) :
  let A:=(0:Int);let B:=(↑(maxDeep s.parts):Int);let C:=s=s/\A=A/\s=s/\True;let D:=(↑(List.length s.parts):Int);let E:=dfl (Ty.st SN.shape);let F:=(1:Int);(∃(x:Nat×Int),(x.1<=List.length s.parts/\A<=x.2/\max x.2 (↑(maxDeep (List.drop x.1 s.parts)):Int)=B)/\A=x.2/\A=(↑x.1:Int)/\C)/\∀(x:Nat×Int),let G:=(↑x.1:Int);let H:=List.getD s.parts (Int.toNat G) E;let I:=(↑(deepF H):Int);let J:=inR IntKind.i64 (G+F);x.1<=List.length s.parts/\A<=x.2/\max x.2 (↑(maxDeep (List.drop x.1 s.parts)):Int)=B->if decide (G<D)=true then(A<=G/\G<D)/\sz H<=n/\if decide (x.2<I)=true then J/\∃(y:Nat×Int),(y.1<=List.length s.parts/\A<=y.2/\max y.2 (↑(maxDeep (List.drop y.1 s.parts)):Int)=B)/\List.length s.parts-y.1<List.length s.parts-x.1/\I=y.2/\G+F=(↑y.1:Int)/\C else J/\∃(y:Nat×Int),(y.1<=List.length s.parts/\A<=y.2/\max y.2 (↑(maxDeep (List.drop y.1 s.parts)):Int)=B)/\List.length s.parts-y.1<List.length s.parts-x.1/\x.2=y.2/\G+F=(↑y.1:Int)/\C else inR IntKind.i64 (x.2+F)/\True/\x.2+F=(↑(deepF s):Int)/\True:=by
 conv=>zeta
 have ln:=hs.parts.len;have hz:=pz s;have hd:deepF s=maxDeep s.parts+1:=by cases s;rfl
 have hds:=maxDeep_sz s.parts;simp only[OH,PO,Ph,Pb];refine⟨⟨(0,0),⟨OJ _,by simp,by simp only[Q0];omega⟩,rfl,rfl⟩,?_⟩;rintro⟨k,c⟩ ⟨h1,h2,h3⟩;simp only at h1 h2 h3⊢;apply a6<;>intro h
 ·replace h:=Xo h;have hk:k<s.parts.length:=by omega
  have hm:=jU (bO s.parts k (dfl (.st .shape)) hk);rw[aJ s.parts k (dfl (.st .shape)) hk]at h3;simp only[maxDeep]at h3;refine⟨by omega,by omega,a6 (fun a=>?_) (fun a=>?_)⟩
  ·replace a:=Xo a;exact⟨ba hk ln,(k+1,(deepF (s.parts.getD k (dfl (.st .shape))):Int)),⟨by omega,by simp only;omega,by simp only;omega⟩,by simp only;omega,rfl,rfl⟩
  ·replace a:¬c<(deepF (s.parts.getD k (dfl (.st .shape))):Int):=fun e=>a (Xd e);exact⟨ba hk ln,(k+1,c),⟨by omega,by simp only;omega,by simp only;omega⟩,by simp only;omega,rfl,rfl⟩
 ·replace h:¬((k:Int)<(s.parts.length:Int)):=fun e=>h (Xd e);have e:k=s.parts.length:=by omega
  subst e;rw[OO]at h3;simp only[maxDeep]at h3;exact⟨aj (by omega) (by omega),by omega⟩
theorem HG(s:Shape)(hs:Wf (.st .shape) s) :
  let A:=(400:Int);let B:=True;let C:=sz s<=(400:Nat);(sz s<=sz s/\(0:Int)<=A/\A<=(1000000:Int))/\if decide (A<sizeF s A)=true then B/\(3:Int)=bD s/\B else C/\if decide ((40:Int)<(↑(deepF s):Int))=true then B/\(91:Int)=bD s/\B else C/\if(!allS bK s)=true then B/\(70:Int)=bD s/\B else B/\(0:Int)=bD s/\B:=by
 conv=>zeta
 simp only[PO,Ph,Pb];rw[NN];refine⟨⟨ON _,by omega,by omega⟩,a6 (fun h=>?_) (fun h=>?_)⟩
 ·rw[OB (Xo h)]
 ·have h':¬(400:Int)<sizeF s 400:=fun e=>h (Xd e);have hs4:sz s<=400:=by rw[sizeF_eq s 400 (by omega)]at h';omega
  rw[OA h'];refine⟨hs4,a6 (fun g=>?_) (fun g=>⟨hs4,?_⟩)⟩
  ·rw[OB (Xo g)]
  ·rw[OA (fun e=>g (Xd e))];cases allS bK s<;>simp
theorem HH(n:Nat)(a b:Shape)(ha:Wf (.st .shape) a)(hb:Wf (.st .shape) b)(hn:sz a<=n+1) :
  let A:=True/\false=eqS a b/\True;let B:=(↑(List.length a.names):Int);let C:=(↑(List.length b.names):Int);let D:=(↑(List.length a.parts):Int);let E:=(↑(List.length b.parts):Int);let F:=List.length a.names=List.length b.names;let G:=List.length a.parts=List.length b.parts;let H:=(0:Int);let I:=false=false/\a=a/\b=b/\True;let J:=a=a/\b=b/\I;let K:=(1:Int);let L:=a=a/\b=b/\false=false/\I;let M:=dfl (Ty.st SN.shape);if(!decide (a.kind=b.kind))=true then A else if(!decide (a.pkg=b.pkg))=true then A else if(!decide (a.name=b.name))=true then A else if(!decide (B=C))=true then A else if(!decide (D=E))=true then A else(∃(x:Nat),(x<=List.length a.names/\F/\G/\eqS a b=(decide (List.drop x a.names=List.drop x b.names)&&eqL a.parts b.parts))/\H=(↑x:Int)/\J)/\∀(x:Nat),let N:=(↑x:Int);x<=List.length a.names/\F/\G/\eqS a b=(decide (List.drop x a.names=List.drop x b.names)&&eqL a.parts b.parts)->if decide (N<B)=true then(H<=N/\N<B)/\(H<=N/\N<C)/\if(!decide (List.getD a.names (Int.toNat N) (dfl Ty.str)=List.getD b.names (Int.toNat N) (dfl Ty.str)))=true then A else inR IntKind.i64 (N+K)/\∃(y:Nat),(y<=List.length a.names/\F/\G/\eqS a b=(decide (List.drop y a.names=List.drop y b.names)&&eqL a.parts b.parts))/\List.length a.names-y<List.length a.names-x/\N+K=(↑y:Int)/\J else(∃(x_1:Nat),(x_1<=List.length a.parts/\G/\eqS a b=eqL (List.drop x_1 a.parts) (List.drop x_1 b.parts))/\H=(↑x_1:Int)/\N=N/\L)/\∀(x_1:Nat),let O:=(↑x_1:Int);let P:=List.getD a.parts (Int.toNat O) M;x_1<=List.length a.parts/\G/\eqS a b=eqL (List.drop x_1 a.parts) (List.drop x_1 b.parts)->if decide (O<D)=true then(H<=O/\O<D)/\(H<=O/\O<E)/\sz P<=n/\if(!eqS P (List.getD b.parts (Int.toNat O) M))=true then A else inR IntKind.i64 (O+K)/\∃(y:Nat),(y<=List.length a.parts/\G/\eqS a b=eqL (List.drop y a.parts) (List.drop y b.parts))/\List.length a.parts-y<List.length a.parts-x_1/\O+K=(↑y:Int)/\N=N/\L else True/\true=eqS a b/\True:=by
 conv=>zeta
 have lna:=ha.names.len;have lpa:=ha.parts.len;have hz:=pz a;have he:eqS a b=(decide (a.kind=b.kind)&&decide (a.pkg=b.pkg)&&decide (a.name=b.name)&&decide (a.names=b.names)&&eqL a.parts b.parts):=by cases a;cases b;rfl
 simp only[OH,PO,Ph,Pb];refine a6 (fun h=>?_) (fun h1=>a6 (fun h=>?_) (fun h2=>a6 (fun h=>?_) (fun h3=>a6 (fun h=>?_) (fun h4=>a6 (fun h=>?_) (fun h5=>?_)))))
 ·rw[he];simp only[OW]at h;rw[h];simp
 ·rw[he];simp only[OW]at h;rw[h];simp
 ·rw[he];simp only[OW]at h;rw[h];simp
 ·have:¬a.names=b.names:=by intro e;rw[e]at h;simp at h
  rw[he];simp[this]
 ·have:a.parts.length≠b.parts.length:=by intro e;rw[e]at h;simp at h
  rw[he,rX this];simp
 have l4:a.names.length=b.names.length:=by simp at h4;omega
 have l5:a.parts.length=b.parts.length:=by simp at h5;omega
 have he':eqS a b=(decide (a.names=b.names)&&eqL a.parts b.parts):=by rw[he];simp only[Pf,RD]at h1 h2 h3;rw[h1,h2,h3];simp
 refine⟨⟨0,⟨OJ _,l4,l5,by simpa using he'⟩,rfl⟩,?_⟩;rintro k ⟨k1,_,_,k4⟩;apply a6<;>intro h
 ·replace h:=Xo h;have hk:k<a.names.length:=by omega
  have hk':k<b.names.length:=by omega
  rw[aJ a.names k (dfl .str) hk,aJ b.names k (dfl .str) hk']at k4;refine⟨by omega,by omega,a6 (fun c=>?_) (fun c=>?_)⟩
  ·have c':¬a.names.getD k (dfl .str)=b.names.getD k (dfl .str):=by simpa using c
   rw[k4];have:¬(a.names.getD k (dfl .str)::a.names.drop (k+1)=b.names.getD k (dfl .str)::b.names.drop (k+1)):=fun e=>c' (List.cons.inj e).1;simp only[this,QC,P2]
  ·have c':a.names.getD k (dfl .str)=b.names.getD k (dfl .str):=by simpa using c
   refine⟨ba hk lna,k+1,⟨by omega,l4,l5,?_⟩,by omega,by omega⟩;rw[k4,c'];congr 1;rw[Pv];simp
 ·replace h:¬((k:Int)<(a.names.length:Int)):=fun e=>h (Xd e);have e:k=a.names.length:=by omega
  subst e;have k4':eqS a b=eqL a.parts b.parts:=by rw[k4,OO,l4,OO];simp
  refine⟨⟨0,⟨OJ _,l5,by simpa using k4'⟩,rfl⟩,?_⟩;rintro j ⟨j1,_,j3⟩;apply a6<;>intro h
  ·replace h:=Xo h;have hj:j<a.parts.length:=by omega
   have hj':j<b.parts.length:=by omega
   have hm:=jU (bO a.parts j (dfl (.st .shape)) hj);rw[aJ a.parts j (dfl (.st .shape)) hj,aJ b.parts j (dfl (.st .shape)) hj']at j3;simp only[eqL]at j3;refine⟨by omega,by omega,by omega,a6 (fun c=>?_) (fun c=>?_)⟩
   ·have c':eqS (a.parts.getD j (dfl (.st .shape))) (b.parts.getD j (dfl (.st .shape)))=false:=by simpa using c
    rw[j3,c'];rfl
   ·have c':eqS (a.parts.getD j (dfl (.st .shape))) (b.parts.getD j (dfl (.st .shape)))=true:=by simpa using c
    rw[c',OY]at j3;exact⟨ba hj lpa,j+1,⟨by omega,l5,j3⟩,by omega,by omega⟩
  ·replace h:¬((j:Int)<(a.parts.length:Int)):=fun e=>h (Xd e);have e:j=a.parts.length:=by omega
   subst e;rw[j3,OO,l5,OO];rfl
theorem Bf(s:Str)(hs:Wf .str s) :
  let A:=(List.all s fun(c:UInt8)=>aY (bI c));let B:=(0:Int);let C:=s=s/\True;let D:=(↑(List.length s):Int);let E:=True/\false=cq s/\True;(∃(x:Nat),(x<=List.length s/\A=List.all (List.drop x s) fun(c:UInt8)=>aY (bI c))/\B=(↑x:Int)/\C)/\∀(x:Nat),let F:=(↑x:Int);let G:=B<=F/\F<D;let H:=(↑(UInt8.toNat (List.getD s (Int.toNat F) (0:UInt8))):Int);(x<=List.length s/\A=List.all (List.drop x s) fun(c:UInt8)=>aY (bI c))->if decide (F<D)=true then G/\if decide (H<(48:Int))=true then E else G/\if decide ((57:Int)<H)=true then E else inR IntKind.i64 (F+(1:Int))/\∃(y:Nat),(y<=List.length s/\A=List.all (List.drop y s) fun(c:UInt8)=>aY (bI c))/\List.length s-y<List.length s-x/\F+(1:Int)=(↑y:Int)/\C else True/\(!decide (s=[]))=cq s/\True:=by
 conv=>zeta
 have ln:=hs.str;have eb:∀b:UInt8,(b.toNat:Int)=bI b:=fun _=>rfl;simp only[eb,OH];refine⟨⟨0,⟨OJ _,rfl⟩,rfl,?_⟩,?_⟩
 ·exact Xr
 rintro k ⟨h1,h2⟩;apply a6<;>intro h
 ·have hk:k<s.length:=by have:=Xo h;omega
  rw[aJ s k 0 hk,P4]at h2;have l0:(0:Int)<=(k:Int)/\(k:Int)<(s.length:Int):=⟨by omega,by omega⟩;have bad:aY (bI (s.getD k 0))=false->false=cq s:=fun e=>by unfold cq;rw[h2,e,P2,Ps]
  refine⟨l0,a6 (fun a=>⟨trivial,?_,trivial⟩) (fun a=>⟨l0,a6 (fun b=>⟨trivial,?_,trivial⟩) (fun b=>?_)⟩)⟩
  ·have a:=Xo a;refine bad ?_;unfold aY;rw[Xf (by omega),P2]
  ·have b:=Xo b;refine bad ?_;unfold aY;rw[Bool.and_comm,Xf (by omega),P2]
  ·have a:¬bI (s.getD k 0)<48:=fun e=>a (Xd e);have b:¬57<bI (s.getD k 0):=fun e=>b (Xd e);have hd:aY (bI (s.getD k 0))=true:=by unfold aY;rw[Xd (by omega),OY,Xd (by omega)]
   rw[hd,OY]at h2;refine⟨ba hk ln,k+1,⟨by omega,h2⟩,by omega,rfl,?_⟩;exact Xr
 ·have hk:s.length<=k:=by have:¬(k:Int)<(s.length:Int):=fun e=>h (Xd e);omega
  rw[Px hk]at h2;refine⟨trivial,?_,trivial⟩;unfold cq;rw[h2];exact(Qe _).symm
theorem HI(s:Str)(hs:Wf .str s) :
  let A:=(List.all s fun(c:UInt8)=>gj (bI c));let B:=(0:Int);let C:=True;let D:=s=s/\C;let E:=(↑(List.length s):Int);let F:=(0:UInt8);let G:=(45:Int);let H:=(48:Int);let I:=C/\false=dn s/\C;let J:=(57:Int);let K:=(1:Int);let L:=C/\true=dn s/\C;(∃(x:Nat),(x<=List.length s/\A=List.all (List.drop x s) fun(c:UInt8)=>gj (bI c))/\B=(↑x:Int)/\D)/\∀(x:Nat),let M:=(↑x:Int);let N:=B<=M/\M<E;let O:=(↑(UInt8.toNat (List.getD s (Int.toNat M) F)):Int);let P:=inR IntKind.i64 (M+K)/\∃(y:Nat),(y<=List.length s/\A=List.all (List.drop y s) fun(c:UInt8)=>gj (bI c))/\List.length s-y<List.length s-x/\M+K=(↑y:Int)/\D;let Q:=N/\if(!decide (O=G))=true then N/\if decide (O<H)=true then I else N/\if decide (J<O)=true then I else P else P;let R:=if(!decide (O<=(90:Int)))=true then Q else P;(x<=List.length s/\A=List.all (List.drop x s) fun(c:UInt8)=>gj (bI c))->if decide (M<E)=true then N/\if decide ((97:Int)<=O)=true then N/\N/\if decide ((65:Int)<=O)=true then N/\if(!decide (O<=(122:Int)))=true then R else P else if(!decide (O<=(122:Int)))=true then Q else P else N/\if decide ((65:Int)<=O)=true then N/\R else Q else if(!decide (s=[]))=true then if(!cq s)=true then L else if decide (s=([48]:Str))=true then L else(B<=B/\B<E)/\C/\(!decide ((↑(UInt8.toNat (List.getD s (Int.toNat B) F)):Int)=H))=dn s/\C else I:=by
 conv=>zeta
 have ln:=hs.str;have eb:∀b:UInt8,(b.toNat:Int)=bI b:=fun _=>rfl;simp only[eb,OH,PW];refine⟨⟨0,⟨OJ _,rfl⟩,rfl,?_⟩,?_⟩
 ·exact Xr
 rintro k ⟨h1,h2⟩;apply a6<;>intro h
 ·have hk:k<s.length:=by have:=Xo h;omega
  clear h;rw[aJ s k 0 hk,P4]at h2;have l0:(0:Int)<=(k:Int)/\(k:Int)<(s.length:Int):=⟨by omega,by omega⟩;have bad:¬((48<=bI (s.getD k 0)/\bI (s.getD k 0)<=57)∨(97<=bI (s.getD k 0)/\bI (s.getD k 0)<=122)∨(65<=bI (s.getD k 0)/\bI (s.getD k 0)<=90)∨bI (s.getD k 0)=45)->false=dn s:=fun e=>by have e:gj (bI (s.getD k 0))=false:=P5.2 (fun q=>e ((n9 _).1 q));unfold dn;rw[h2,e,P2,Ps]
  have good:((48<=bI (s.getD k 0)/\bI (s.getD k 0)<=57)∨(97<=bI (s.getD k 0)/\bI (s.getD k 0)<=122)∨(65<=bI (s.getD k 0)/\bI (s.getD k 0)<=90)∨bI (s.getD k 0)=45)->(s.all fun c=>gj (bI c))=(s.drop (k+1)).all fun c=>gj (bI c):=fun e=>by rw[h2,(n9 _).2 e,OY]
  clear h2 h1
  repeat' (first|refine⟨l0,?_⟩|apply a6<;>intro q)
  all_goals simp only[OK,OW,P1]at *
  all_goals first
   |exact⟨trivial,bad (by omega),trivial⟩
   |(refine⟨ba hk ln,k+1,⟨by omega,good (by omega)⟩,by omega,(by first|rfl|trivial),?_⟩;exact Xr)
 ·have hk:s.length<=k:=by have:¬(k:Int)<(s.length:Int):=fun e=>h (Xd e);omega
  rw[Px hk]at h2;have h2:(s.all fun c=>gj (bI c))=true:=h2;have e:dn s=(!decide (s=[])&&!(cq s&&decide (bI (s.getD 0 0)=48)&&!decide (s=[48]))):=by unfold dn;rw[h2,Qe]
  rw[e];clear e h2 h h1;refine a6 (fun a=>a6 (fun b=>?_) (fun b=>a6 (fun c=>?_) (fun c=>?_))) (fun a=>?_)
  ·rw[OW]at b;rw[a,b,P2,P2];exact Xr
  ·rw[a,c,Q8,Ps];exact Xr
  ·have a':¬s=[]:=by simpa using a
   have hp:=Pw.2 a';have b:cq s=true:=by simpa using b
   rw[a,b,P5.2 c,OY,OY,Qx,Qe];exact⟨⟨P8 0,by omega⟩,trivial,rfl,trivial⟩
  ·rw[P5.2 a,P2];exact Xr
theorem Bg(n:Int)(ho:0<=n/\n<=999999) :
  let A:=(10:Int);let B:=(0:Int);let C:=Int.tmod n A;let D:=(1:Int);let E:=Int.tmod n A+D;let F:=([48,49,50,51,52,53,54,55,56,57]:Str);let G:=(↑(List.length F):Int);let H:=(20:Nat);let I:=(10:Nat);let J:=(999999:Nat);let K:=(21:Nat);let L:=dT UInt8=dT UInt8/\True;(A≠B/\inR IntKind.i64 C)/\inR IntKind.i64 E/\(B<=Int.tmod n A/\Int.tmod n A<=Int.tmod n A+D/\Int.tmod n A+D<=G)/\(∃(x:Nat×Nat×Str),(x.1<=H/\x.2.1<I ^ x.1/\x.2.1<=J/\List.length x.2.2<=K-x.1/\ct n=oK x.1 x.2.1 x.2.2)/\n=(↑x.2.1:Int)/\List.drop (Int.toNat C) (List.take (Int.toNat E) F)=x.2.2/\L)/\∀(x:Nat×Nat×Str),let M:=(↑x.2.1:Int);let N:=Int.tdiv M A;let O:=Int.tmod N A;let P:=Int.tmod N A+D;let Q:=List.take (Int.toNat P) F;x.1<=H/\x.2.1<I ^ x.1/\x.2.1<=J/\List.length x.2.2<=K-x.1/\ct n=oK x.1 x.2.1 x.2.2->if decide (A<=M)=true then(A≠B/\inR IntKind.i64 N)/\(A≠B/\inR IntKind.i64 O)/\inR IntKind.i64 P/\(B<=Int.tmod N A/\Int.tmod N A<=Int.tmod N A+D/\Int.tmod N A+D<=G)/\List.length (List.drop (Int.toNat O) Q)+List.length x.2.2<=(9223372036854775807:Nat)/\∃(y:Nat×Nat×Str),(y.1<=H/\y.2.1<I ^ y.1/\y.2.1<=J/\List.length y.2.2<=K-y.1/\ct n=oK y.1 y.2.1 y.2.2)/\y.1<x.1/\Int.tdiv M A=(↑y.2.1:Int)/\List.drop (Int.toNat O) Q++x.2.2=y.2.2/\L else True/\x.2.2=ct n/\True:=by
 conv=>zeta
 obtain⟨m,rfl⟩:=Int.eq_ofNat_of_zero_le ho.1;have tm:∀a:Nat,Int.tmod (a:Int) 10=((a%10:Nat):Int):=fun _=>rfl;have td:∀a:Nat,Int.tdiv (a:Int) 10=((a/10:Nat):Int):=fun _=>rfl;have tn:∀a:Nat,Int.toNat ((a:Int)+1)=a+1:=fun a=>by omega
 have ds:∀a:Nat,List.drop a (List.take (a+1) [(48:UInt8),(49:UInt8),(50:UInt8),(51:UInt8),(52:UInt8),(53:UInt8),(54:UInt8),(55:UInt8),(56:UInt8),(57:UInt8)])=mr a:=fun _=>rfl;have dl:List.length [(48:UInt8),(49:UInt8),(50:UInt8),(51:UInt8),(52:UInt8),(53:UInt8),(54:UInt8),(55:UInt8),(56:UInt8),(57:UInt8)]=10:=rfl;simp only[tm,td,tn,OH,ds,dl];have hm:m<=999999:=by omega
 refine⟨⟨by decide,aj (by omega) (by omega)⟩,aj (by omega) (by omega),⟨by omega,by omega,by omega⟩,⟨(20,m,mr (m%10)),⟨ON _,RB hm (by show 999999<10 ^ 20;decide),hm,by have:=pL (m%10);show(mr (m%10)).length<=21-20;omega,rfl⟩,rfl,?_⟩,?_⟩
 ·exact Xr
 rintro⟨f,x,acc⟩ ⟨h1,h2,h3,h4,h5⟩;simp only at h1 h2 h3 h4 h5⊢;apply a6<;>intro a
 ·have a:=Xo a
  cases f with
  |zero=>rw[Nat.pow_zero]at h2;omega
  |succ f=>
   have hd:=pL (x/10%10);have h5:ct (m:Int)=oK f (x/10) (mr (x/10%10)++acc):=by rw[h5];show(if 10<=x then _ else _)=_;rw[OB (by omega)]
   have h2:x/10<10 ^ f:=by rw[RL]at h2;exact(Re (by decide)).2 h2
   refine⟨⟨by decide,aj (by omega) (by omega)⟩,⟨by decide,aj (by omega) (by omega)⟩,aj (by omega) (by omega),⟨by omega,by omega,by omega⟩,by omega,(f,x/10,mr (x/10%10)++acc),⟨by show f<=20;omega,h2,by show x/10<=999999;omega,by show(mr (x/10%10)++acc).length<=21-f;rw[OE];omega,h5⟩,by show f<f+1;omega,rfl,rfl,?_⟩;exact Xr
 ·have a:¬(10:Int)<=(x:Int):=fun e=>a (Xd e);refine⟨trivial,?_,trivial⟩;rw[h5]
  cases f with
  |zero=>rfl
  |succ f=>
   show acc=if 10<=x then _ else _
   rw[OA (by omega)]
theorem DQ(v:Vers)(hv:Wf (.st .version) v) :
  let A:=(0:Int);let B:=True/\(40:Int)=bW v/\True;let C:=(999999:Int);let D:=True/\A=bW v/\True;let E:=(46:UInt8);let F:=splitB E v.pre;let G:=v=v/\false=false/\false=false/\splitB E v.pre=splitB E v.pre/\v=v/\True;let H:=(↑(List.length F):Int);if decide (v.major<A)=true then B else if decide (C<v.major)=true then B else if decide (v.minor<A)=true then B else if decide (C<v.minor)=true then B else if decide (v.patch<A)=true then B else if decide (C<v.patch)=true then B else if decide ((24:Int)<(↑(List.length v.pre):Int))=true then B else if decide (v.pre=[])=true then D else List.length v.pre<=(4096:Nat)/\(∃(x:Nat),(x<=List.length F/\List.all F dn=List.all (List.drop x F) dn)/\A=(↑x:Int)/\G)/\∀(x:Nat),let I:=(↑x:Int);x<=List.length F/\List.all F dn=List.all (List.drop x F) dn->if decide (I<H)=true then(A<=I/\I<H)/\if(!dn (List.getD F (Int.toNat I) (dfl Ty.str)))=true then B else inR IntKind.i64 (I+(1:Int))/\∃(y:Nat),(y<=List.length F/\List.all F dn=List.all (List.drop y F) dn)/\List.length F-y<List.length F-x/\I+(1:Int)=(↑y:Int)/\G else D:=by
 conv=>zeta
 refine a6 (fun a=>?_) (fun a=>a6 (fun b=>?_) (fun b=>a6 (fun c=>?_) (fun c=>a6 (fun d=>?_) (fun d=>a6 (fun e=>?_) (fun e=>a6 (fun f=>?_) (fun f=>a6 (fun g=>?_) (fun g=>a6 (fun h=>?_) (fun h=>?_))))))))
 ·refine⟨trivial,?_,trivial⟩;unfold bW;rw[OB (by have:=Xo a;omega)]
 ·refine⟨trivial,?_,trivial⟩;unfold bW;rw[OB (by have:=Xo b;omega)]
 ·refine⟨trivial,?_,trivial⟩;unfold bW;rw[OB (by have:=Xo c;omega)]
 ·refine⟨trivial,?_,trivial⟩;unfold bW;rw[OB (by have:=Xo d;omega)]
 ·refine⟨trivial,?_,trivial⟩;unfold bW;rw[OB (by have:=Xo e;omega)]
 ·refine⟨trivial,?_,trivial⟩;unfold bW;rw[OB (by have:=Xo f;omega)]
 all_goals
  have hn:¬(v.major<0∨999999<v.major∨v.minor<0∨999999<v.minor∨v.patch<0∨999999<v.patch):=by have a:¬v.major<0:=fun q=>a (Xd q);have b:¬999999<v.major:=fun q=>b (Xd q);have c:¬v.minor<0:=fun q=>c (Xd q);have d:¬999999<v.minor:=fun q=>d (Xd q);have e:¬v.patch<0:=fun q=>e (Xd q);have f:¬999999<v.patch:=fun q=>f (Xd q);omega
 ·refine⟨trivial,?_,trivial⟩;unfold bW;rw[OA hn,OB (by have:=Xo g;omega)]
 ·refine⟨trivial,?_,trivial⟩;have g:¬(24:Int)<(v.pre.length:Int):=fun e=>g (Xd e);unfold bW;rw[OA hn,OA (by omega),OB (Xo h)]
 have g:¬(24:Int)<(v.pre.length:Int):=fun e=>g (Xd e);have hg:bW v=if(splitB 46 v.pre).all dn=true then 0 else 40:=by unfold bW;rw[OA hn,OA (by omega),OA (fun q=>h (Xd q))]
 have hs:=iR 46 v.pre;refine⟨by omega,⟨0,⟨OJ _,rfl⟩,rfl,?_⟩,?_⟩
 ·exact Xr
 rintro k ⟨k1,k2⟩;apply a6<;>intro m
 ·have m:=Xo m;have hk:k<(splitB 46 v.pre).length:=by omega
  rw[aJ (splitB 46 v.pre) k (dfl Ty.str) hk,P4]at k2;simp only[OH];refine⟨⟨by omega,m⟩,a6 (fun n=>?_) (fun n=>?_)⟩
  ·have n:dn ((splitB 46 v.pre).getD k (dfl Ty.str))=false:=by simpa using n
   rw[n,P2]at k2;rw[hg,OA (by rw[k2];exact Pk)];exact Xr
  ·have n:dn ((splitB 46 v.pre).getD k (dfl Ty.str))=true:=by simpa using n
   rw[n,OY]at k2;refine⟨aj (by omega) (by omega),k+1,⟨by omega,k2⟩,by omega,rfl,?_⟩;exact Xr
 ·have hk:(splitB 46 v.pre).length<=k:=by have:¬(k:Int)<((splitB 46 v.pre).length:Int):=fun e=>m (Xd e);omega
  rw[Px hk]at k2;have k2:(splitB 46 v.pre).all dn=true:=k2;rw[hg,OB k2];exact Xr
theorem HJ(v:Vers)(hv:Wf (.st .version) v) :
  let A:=(0:Int);let B:=dL v;let C:=(999999:Int);let D:=([46]:Str);let E:=(9223372036854775807:Nat);let F:=([45]:Str);let G:=A=B.2/\True;if(!decide (bW v=A))=true then True/\[]=B.1/\(40:Int)=B.2/\True else(A<=v.major/\v.major<=C)/\List.length (ct v.major)+List.length D<=E/\(A<=v.minor/\v.minor<=C)/\List.length (ct v.major++D)+List.length (ct v.minor)<=E/\List.length (ct v.major++D++ct v.minor)+List.length D<=E/\(A<=v.patch/\v.patch<=C)/\List.length (ct v.major++D++ct v.minor++D)+List.length (ct v.patch)<=E/\if(!decide (v.pre=[]))=true then List.length (ct v.major++D++ct v.minor++D++ct v.patch)+List.length F<=E/\List.length (ct v.major++D++ct v.minor++D++ct v.patch++F)+List.length v.pre<=E/\True/\ct v.major++D++ct v.minor++D++ct v.patch++F++v.pre=B.1/\G else True/\ct v.major++D++ct v.minor++D++ct v.patch=B.1/\G:=by
 conv=>zeta
 apply a6<;>intro a
 ·have a:¬bW v=0:=by simpa using a
  unfold dL;rw[OA a];exact Xr
 have a:bW v=0:=by simpa using a
 obtain⟨b1,b2,b3,b4⟩:=nv a;have c1:=u5 v.major;have c2:=u5 v.minor;have c3:=u5 v.patch;have e:dL v=(jb v,0):=by unfold dL;rw[OB a]
 rw[e];unfold jb;simp only[OE,OP,P7];refine⟨b1,by omega,b2,by omega,by omega,b3,by omega,a6 (fun h=>?_) (fun h=>?_)⟩
 ·have h:¬v.pre=[]:=by simpa using h
  rw[OA h];exact⟨by omega,by omega,trivial,by simp only[Pm],(by first|rfl|trivial),trivial⟩
 ·have h:v.pre=[]:=by simpa using h
  rw[OB h];exact⟨trivial,(PT _).symm,(by first|rfl|trivial),trivial⟩
theorem DR(s:Str)(ho:s.length<=4096) :
  let A:=(↑(List.length s):Int);let B:=True;let C:=(0:Int);let D:=cz s;let E:=[]=D.1.pre;let F:=B/\C=D.1.major/\C=D.1.minor/\C=D.1.patch/\E/\(40:Int)=D.2/\B;let G:=(2:Nat);let H:=(3:Nat);let I:=(99999999:Int);let J:=s=s;let K:=false=false;let L:=[C,C,C];let M:=List.length L=List.length L;let N:=C=C/\C=C/\C=C/\dT UInt8=dT UInt8/\B;let O:=(0:UInt8);let P:=(46:Int);let Q:=(1:Int);let R:=(2:Int);let S:=(↑(List.length L):Int);let T:=dfl (Ty.int IntKind.i64);let U:=(999999:Int);let V:=(10:Int);let W:=(48:Int);let X:=C<=C/\C<S;let Y:=C<=Q/\Q<S;let Z:=C<=R/\R<S;let a:=Int.toNat C;let b:=Int.toNat Q;let c:=Int.toNat R;let d:=List.take (Int.toNat A) s;let e:=C=D.2/\B;if decide ((60:Int)<A)=true then F else(∃(x:Nat×Nat×Nat×List Int),(x.2.1<=List.length s/\List.length s<x.2.1+x.1/\x.2.2.1<=G/\List.length x.2.2.2=H/\(∀(k:Nat),k<H->C<=List.getD x.2.2.2 k C/\List.getD x.2.2.2 k C<=I)/\fG s=ib s (rvL s x.1 x.2.1 x.2.2.1 x.2.2.2))/\C=(↑x.2.1:Int)/\C=(↑x.2.2.1:Int)/\J/\K/\M/\L=x.2.2.2/\N)/\∀(x:Nat×Nat×Nat×List Int),let f:=(↑x.2.1:Int);let g:=C<=f/\f<A;let h:=(↑(UInt8.toNat (List.getD s (Int.toNat f) O)):Int);let i:=(↑x.2.2.1:Int);let j:=C<=i+Q/\i+Q<S;let l:=Int.toNat (i+Q)<List.length x.2.2.2;let m:=Int.toNat (i+Q);let n:=h-W;let o:=inR IntKind.u8 n;let p:=inR IntKind.i64 n;let q:=V*List.getD x.2.2.2 m T+n;let r:=inR IntKind.i64 (f+Q);let t:=r/\∃(y:Nat×Nat×Nat×List Int),(y.2.1<=List.length s/\List.length s<y.2.1+y.1/\y.2.2.1<=G/\List.length y.2.2.2=H/\(∀(k:Nat),k<H->C<=List.getD y.2.2.2 k C/\List.getD y.2.2.2 k C<=I)/\fG s=ib s (rvL s y.1 y.2.1 y.2.2.1 y.2.2.2))/\y.1<x.1/\f+Q=(↑y.2.1:Int)/\i+Q=(↑y.2.2.1:Int)/\J/\K/\M/\x.2.2.2=y.2.2.2/\N;let u:=C<=i/\i<S;let v:=Int.toNat i<List.length x.2.2.2;let w:=Int.toNat i;let z:=V*List.getD x.2.2.2 w T+n;let A0:=r/\∃(y:Nat×Nat×Nat×List Int),(y.2.1<=List.length s/\List.length s<y.2.1+y.1/\y.2.2.1<=G/\List.length y.2.2.2=H/\(∀(k:Nat),k<H->C<=List.getD y.2.2.2 k C/\List.getD y.2.2.2 k C<=I)/\fG s=ib s (rvL s y.1 y.2.1 y.2.2.1 y.2.2.2))/\y.1<x.1/\f+Q=(↑y.2.1:Int)/\i=(↑y.2.2.1:Int)/\J/\K/\M/\x.2.2.2=y.2.2.2/\N;let A1:=Int.toNat (f+Q);let A2:=(dL {major:=List.getD x.2.2.2 a T,minor:=List.getD x.2.2.2 b T,patch:=List.getD x.2.2.2 c T,pre:=List.drop A1 d:Vers});let A3:=List.getD x.2.2.2 a T=D.1.major;let A4:=List.getD x.2.2.2 b T=D.1.minor;let A5:=List.getD x.2.2.2 c T=D.1.patch;let A6:=(dL {major:=List.getD x.2.2.2 a T,minor:=List.getD x.2.2.2 b T,patch:=List.getD x.2.2.2 c T,pre:=[]:Vers});let A7:=X/\Int.toNat C<List.length x.2.2.2/\Y/\Int.toNat Q<List.length x.2.2.2/\Z/\Int.toNat R<List.length x.2.2.2/\if decide (f<A)=true then r/\(C<=f+Q/\f+Q<=A/\A<=A)/\if(!decide (A2.2=C))=true then F else if(!decide (A2.1=s))=true then F else B/\A3/\A4/\A5/\List.drop A1 d=D.1.pre/\e else if(!decide (A6.2=C))=true then F else if(!decide (A6.1=s))=true then F else B/\A3/\A4/\A5/\E/\e;x.2.1<=List.length s/\List.length s<x.2.1+x.1/\x.2.2.1<=G/\List.length x.2.2.2=H/\(∀(k:Nat),k<H->C<=List.getD x.2.2.2 k C/\List.getD x.2.2.2 k C<=I)/\fG s=ib s (rvL s x.1 x.2.1 x.2.2.1 x.2.2.2)->if decide (f<A)=true then g/\if(!decide (h=(45:Int)))=true then g/\if decide (h=P)=true then inR IntKind.i64 (i+Q)/\if decide (R<i+Q)=true then F else g/\if(!decide (h=P))=true then j/\l/\if decide (List.getD x.2.2.2 m T<=U)=true then j/\l/\inR IntKind.i64 (V*List.getD x.2.2.2 m T)/\g/\o/\p/\inR IntKind.i64 q/\j/\l/\r/\∃(y:Nat×Nat×Nat×List Int),(y.2.1<=List.length s/\List.length s<y.2.1+y.1/\y.2.2.1<=G/\List.length y.2.2.2=H/\(∀(k:Nat),k<H->C<=List.getD y.2.2.2 k C/\List.getD y.2.2.2 k C<=I)/\fG s=ib s (rvL s y.1 y.2.1 y.2.2.1 y.2.2.2))/\y.1<x.1/\f+Q=(↑y.2.1:Int)/\i+Q=(↑y.2.2.1:Int)/\J/\K/\M/\List.set x.2.2.2 m q=y.2.2.2/\N else t else t else g/\if decide (h<W)=true then F else g/\if decide ((57:Int)<h)=true then F else if decide (R<i)=true then F else g/\if(!decide (h=P))=true then u/\v/\if decide (List.getD x.2.2.2 w T<=U)=true then u/\v/\inR IntKind.i64 (V*List.getD x.2.2.2 w T)/\g/\o/\p/\inR IntKind.i64 z/\u/\v/\r/\∃(y:Nat×Nat×Nat×List Int),(y.2.1<=List.length s/\List.length s<y.2.1+y.1/\y.2.2.1<=G/\List.length y.2.2.2=H/\(∀(k:Nat),k<H->C<=List.getD y.2.2.2 k C/\List.getD y.2.2.2 k C<=I)/\fG s=ib s (rvL s y.1 y.2.1 y.2.2.1 y.2.2.2))/\y.1<x.1/\f+Q=(↑y.2.1:Int)/\i=(↑y.2.2.1:Int)/\J/\K/\M/\List.set x.2.2.2 w z=y.2.2.2/\N else A0 else A0 else A7 else A7:=by
 conv=>zeta
 simp only[<-DF s];apply a6<;>intro h
 ·have h:=Xo h;have k6:fG s=(noV,40):=by unfold fG;rw[OB (by omega)]
  rw[k6];exact Xr
 have ln:¬(60:Int)<(s.length:Int):=fun e=>h (Xd e);clear h;have e:fG s=ib s (rvL s (s.length+1) 0 0 [0,0,0]):=by unfold fG;rw[OA (by omega)]
 have not_dec:∀{p:Prop} [Decidable p],(!decide p)=true->¬p:=fun{p} _ q=>by simpa using q
 have yes_dec:∀{p:Prop} [Decidable p],¬(!decide p)=true->p:=fun{p} _ q=>by simpa using q
 refine⟨⟨(s.length+1,0,0,[0,0,0]),⟨OJ _,by show s.length<0+(s.length+1);omega,by show 0<=2;omega,rfl,?_,e⟩,rfl,rfl,?_⟩,?_⟩
 ·intro k hk;have g:k=0∨k=1∨k=2:=by omega
  rcases g with rfl|rfl|rfl<;>exact(show(0:Int)<=0/\(0:Int)<=99999999 from⟨by decide,by decide⟩)
 ·exact Xr
 clear e;rintro⟨f,i,p,r⟩ ⟨k1,k2,k3,k4,k5,k6⟩;simp only at k1 k2 k3 k4 k5 k6⊢;have eb:∀b:UInt8,(b.toNat:Int)=bI b:=fun _=>rfl;have tn:∀a:Nat,Int.toNat ((a:Int)+1)=a+1:=fun a=>by omega
 have tt1:Int.toNat 1=1:=rfl;have tt2:Int.toNat 2=2:=rfl;have l3:List.length [(0:Int),(0:Int),(0:Int)]=3:=rfl;have hz:∀k,r.getD k (dfl (Ty.int IntKind.i64))=r.getD k 0:=fun _=>rfl;simp only[eb,tn,tt1,tt2,l3,hz,OH,PW,Pt]
 cases f with
 |zero=>omega
 |succ f=>
 have hR:rvL s (f+1) i p r=if i<s.length/\¬bI (s.getD i 0)=45 then
   if bI (s.getD i 0)=46 then(if 2<p+1 then none else rvL s f (i+1) (p+1) r)
   else if bI (s.getD i 0)<48∨57<bI (s.getD i 0)then none
   else rvL s f (i+1) p (if r.getD p 0<=999999 then r.set p (10 *r.getD p 0+(bI (s.getD i 0)-48))else r)
  else some (r,i):=rfl
 rw[hR]at k6;clear hR eb tn tt1 tt2 l3 hz;apply a6<;>intro c
 ·have c:=Xo c;have l0:(0:Int)<=(i:Int)/\(i:Int)<(s.length:Int):=⟨by omega,by omega⟩;refine⟨l0,a6 (fun d=>⟨l0,a6 (fun g=>⟨aj (by omega) (by omega),a6 (fun m=>?_) (fun m=>⟨l0,a6 (fun q=>?_) (fun q=>?_)⟩)⟩) (fun g=>⟨l0,a6 (fun m=>?_) (fun m=>⟨l0,a6 (fun n=>?_) (fun n=>a6 (fun q=>?_) (fun q=>⟨l0,a6 (fun t=>?_) (fun t=>?_)⟩))⟩)⟩)⟩) (fun d=>?_)⟩
  ·have m:=Xo m;rw[OB ⟨by omega,not_dec d⟩,OB (Xo g),OB (by omega)]at k6;rw[k6];exact Xr
  ·exact absurd (Xo g) (not_dec q)
  ·have m:¬(2:Int)<(p:Int)+1:=fun z=>m (Xd z);rw[OB ⟨by omega,not_dec d⟩,OB (Xo g),OA (by omega)]at k6;refine⟨aj (by omega) (by omega),(f,i+1,p+1,r),⟨by show i+1<=s.length;omega,by show s.length<i+1+f;omega,by show p+1<=2;omega,k4,k5,k6⟩,by show f<f+1;omega,rfl,rfl,?_⟩;exact Xr
  ·rw[OB ⟨by omega,not_dec d⟩,OA (fun z=>g (Xd z)),OB (.inl (Xo m))]at k6;rw[k6];exact Xr
  ·rw[OB ⟨by omega,not_dec d⟩,OA (fun z=>g (Xd z)),OB (.inr (Xo n))]at k6;rw[k6];exact Xr
  ·have q:=Xo q;omega
  ·have m:¬bI (s.getD i 0)<48:=fun z=>m (Xd z);have n:¬57<bI (s.getD i 0):=fun z=>n (Xd z);rw[OB ⟨by omega,not_dec d⟩,OA (fun z=>g (Xd z)),OA (by omega)]at k6;have k7:=k5 p (by omega);refine⟨⟨by omega,by omega⟩,by omega,a6 (fun z=>?_) (fun z=>?_)⟩
   ·have z:=Xo z;rw[OB z]at k6;refine⟨⟨by omega,by omega⟩,by omega,aj (by omega) (by omega),l0,⟨by show(0:Int)<=_;omega,by show _<=(255:Int);omega⟩,aj (by omega) (by omega),aj (by omega) (by omega),⟨by omega,by omega⟩,by omega,aj (by omega) (by omega),(f,i+1,p,r.set p (10 *r.getD p 0+(bI (s.getD i 0)-48))),⟨by show i+1<=s.length;omega,by show s.length<i+1+f;omega,k3,by show(r.set p _).length=3;rw[Ro];exact k4,MF k4 k3 k5 (by omega) (by omega),k6⟩,by show f<f+1;omega,rfl,rfl,?_⟩;exact Xr
   ·rw[OA (fun y=>z (Xd y))]at k6;refine⟨aj (by omega) (by omega),(f,i+1,p,r),⟨by show i+1<=s.length;omega,by show s.length<i+1+f;omega,k3,k4,k5,k6⟩,by show f<f+1;omega,rfl,rfl,?_⟩;exact Xr
  ·exact absurd (yes_dec t) (fun z=>g (Xd z))
  ·rw[OA (fun q=>q.2 (yes_dec d))]at k6;refine⟨⟨P8 0,by decide⟩,by omega,⟨by decide,by decide⟩,by omega,⟨by decide,by decide⟩,by omega,?_⟩;have hG:ib s (some (r,i))=if ¬(dL (dy s r i)).2=0∨¬(dL (dy s r i)).1=s then(noV,40)else(dy s r i,0):=rfl
   rw[hG]at k6;clear hG k5;apply a6<;>intro m
   ·have m:=Xo m;have hv:dy s r i=⟨r.getD 0 0,r.getD 1 0,r.getD 2 0,s.drop (i+1)⟩:=by unfold dy;rw[OB (by omega)]
    rw[hv]at k6;refine⟨aj (by omega) (by omega),⟨by omega,by omega,P8 _⟩,a6 (fun a=>?_) (fun a=>a6 (fun b=>?_) (fun b=>?_))⟩
    ·have a:=not_dec a;rw[OB (.inl a)]at k6;rw[k6];exact Xr
    ·have b:=not_dec b;rw[OB (.inr b)]at k6;rw[k6];exact Xr
    ·have a:=yes_dec a;have b:=yes_dec b;rw[OA (fun q=>q.elim (fun z=>z a) (fun z=>z b))]at k6;rw[k6];exact Xr
   ·have hv:dy s r i=⟨r.getD 0 0,r.getD 1 0,r.getD 2 0,[]⟩:=by unfold dy;rw[OA (fun q=>m (Xd (by omega)))]
    rw[hv]at k6;refine a6 (fun a=>?_) (fun a=>a6 (fun b=>?_) (fun b=>?_))
    ·have a:=not_dec a;rw[OB (.inl a)]at k6;rw[k6];exact Xr
    ·have b:=not_dec b;rw[OB (.inr b)]at k6;rw[k6];exact Xr
    ·have a:=yes_dec a;have b:=yes_dec b;rw[OA (fun q=>q.elim (fun z=>z a) (fun z=>z b))]at k6;rw[k6];exact Xr
 ·rw[OA (fun q=>c (Xd (by omega)))]at k6;refine⟨⟨P8 0,by decide⟩,by omega,⟨by decide,by decide⟩,by omega,⟨by decide,by decide⟩,by omega,?_⟩;have hG:ib s (some (r,i))=if ¬(dL (dy s r i)).2=0∨¬(dL (dy s r i)).1=s then(noV,40)else(dy s r i,0):=rfl
  rw[hG]at k6;clear hG k5;apply a6<;>intro m
  ·have m:=Xo m;have hv:dy s r i=⟨r.getD 0 0,r.getD 1 0,r.getD 2 0,s.drop (i+1)⟩:=by unfold dy;rw[OB (by omega)]
   rw[hv]at k6;refine⟨aj (by omega) (by omega),⟨by omega,by omega,P8 _⟩,a6 (fun a=>?_) (fun a=>a6 (fun b=>?_) (fun b=>?_))⟩
   ·have a:=not_dec a;rw[OB (.inl a)]at k6;rw[k6];exact Xr
   ·have b:=not_dec b;rw[OB (.inr b)]at k6;rw[k6];exact Xr
   ·have a:=yes_dec a;have b:=yes_dec b;rw[OA (fun q=>q.elim (fun z=>z a) (fun z=>z b))]at k6;rw[k6];exact Xr
  ·have hv:dy s r i=⟨r.getD 0 0,r.getD 1 0,r.getD 2 0,[]⟩:=by unfold dy;rw[OA (fun q=>m (Xd (by omega)))]
   rw[hv]at k6;refine a6 (fun a=>?_) (fun a=>a6 (fun b=>?_) (fun b=>?_))
   ·have a:=not_dec a;rw[OB (.inl a)]at k6;rw[k6];exact Xr
   ·have b:=not_dec b;rw[OB (.inr b)]at k6;rw[k6];exact Xr
   ·have a:=yes_dec a;have b:=yes_dec b;rw[OA (fun q=>q.elim (fun z=>z a) (fun z=>z b))]at k6;rw[k6];exact Xr
theorem KV(p:Int)  :
  let A:=True;let B:=A/\false=fX p/\A;if decide ((0:Int)<=p)=true then if decide (p<=(1114111:Int))=true then if decide (p<(55296:Int))=true then A/\true=fX p/\A else A/\decide ((57343:Int)<p)=fX p/\A else B else B:=by
 conv=>zeta
 unfold fX;by_cases a:0<=p<;>by_cases b:p<=1114111<;>by_cases c:p<55296<;>simp[a,b,c]
theorem KW(p:Int)(ho:0<=p/\p<=1114111) :
  let A:=(128:Int);let B:=True;let C:=(fun(n:Int)=>UInt8.ofNat (Int.toNat n));let D:=(64:Int);let E:=(0:Int);let F:=D≠E;let G:=Int.tdiv p D;let H:=F/\inR IntKind.i64 G;let I:=(192:Int)+Int.tdiv p D;let J:=F/\inR IntKind.i64 (Int.tmod p D);let K:=A+Int.tmod p D;let L:=inR IntKind.i64 (K);let M:=inR IntKind.u8 (K);let N:=(4096:Int);let O:=Int.tdiv p N;let P:=N≠E/\inR IntKind.i64 O;let Q:=(224:Int)+Int.tdiv p N;let R:=F/\inR IntKind.i64 (Int.tmod G D);let S:=A+Int.tmod G D;let T:=inR IntKind.i64 (S);let U:=inR IntKind.u8 (S);let V:=(262144:Int);let W:=(240:Int)+Int.tdiv p V;let X:=A+Int.tmod O D;if decide (p<A)=true then inR IntKind.u8 p/\B/\List.map C [p]=ez p/\B else if decide (p<(2048:Int))=true then H/\inR IntKind.i64 (I)/\inR IntKind.u8 (I)/\J/\L/\M/\B/\List.map C [I,K]=ez p/\B else if decide (p<(65536:Int))=true then P/\inR IntKind.i64 (Q)/\inR IntKind.u8 (Q)/\H/\R/\T/\U/\J/\L/\M/\B/\List.map C [Q,S,K]=ez p/\B else(V≠E/\inR IntKind.i64 (Int.tdiv p V))/\inR IntKind.i64 (W)/\inR IntKind.u8 (W)/\P/\(F/\inR IntKind.i64 (Int.tmod O D))/\inR IntKind.i64 (X)/\inR IntKind.u8 (X)/\H/\R/\T/\U/\J/\L/\M/\B/\List.map C [W,X,S,K]=ez p/\B:=by
 conv=>zeta
 obtain⟨h1,h2⟩:=ho;have t1:Int.tdiv p 64=p/64:=QP h1;have t2:Int.tdiv p 4096=p/4096:=QP h1;have t3:Int.tdiv p 262144=p/262144:=QP h1;have m0:Int.tmod p 64=p%64:=QQ h1;have m1:Int.tmod (p/64) 64=p/64%64:=QQ (by omega);have m2:Int.tmod (p/4096) 64=p/4096%64:=QQ (by omega);simp only[t1,t2,t3,m0,m1,m2];have u8:∀n:Int,0<=n->n<=255->inR IntKind.u8 n:=fun n a b=>⟨a,b⟩;have i64:∀n:Int,-10000000<=n->n<=10000000->inR IntKind.i64 n:=fun n a b=>aj (by omega) (by omega);unfold ez lA;apply a6<;>intro a
 ·have a:=Xo a;rw[OB a];exact⟨u8 _ (by omega) (by omega),trivial,rfl,trivial⟩
 have a:¬p<128:=fun e=>a (Xd e);rw[OA a];apply a6<;>intro b
 ·have b:=Xo b;rw[OB b]
  repeat (first|exact trivial|refine⟨by first|rfl|trivial|(exact⟨by decide,i64 _ (by omega) (by omega)⟩)|(exact i64 _ (by omega) (by omega))|(exact u8 _ (by omega) (by omega)),?_⟩)
 have b:¬p<2048:=fun e=>b (Xd e);rw[OA b];apply a6<;>intro d
 ·have d:=Xo d;rw[OB d]
  repeat (first|exact trivial|refine⟨by first|rfl|trivial|(exact⟨by decide,i64 _ (by omega) (by omega)⟩)|(exact i64 _ (by omega) (by omega))|(exact u8 _ (by omega) (by omega)),?_⟩)
 ·have d:¬p<65536:=fun e=>d (Xd e);rw[OA d]
  repeat (first|exact trivial|refine⟨by first|rfl|trivial|(exact⟨by decide,i64 _ (by omega) (by omega)⟩)|(exact i64 _ (by omega) (by omega))|(exact u8 _ (by omega) (by omega)),?_⟩)
theorem KX(s:Str)(hs:Wf .str s) :
  let A:=(0:Int);let B:=hZ s;let C:=True/\A=B.1/\A=B.2/\True;let D:=(↑(List.length s):Int);let E:=A<=A/\A<D;let F:=(0:UInt8);let G:=(↑(UInt8.toNat (List.getD s (Int.toNat A) F)):Int);let H:=inR IntKind.i64 G;let I:=(240:Int);let J:=(↑(dm s):Int);let K:=false=false/\True;let L:=s=s/\A=A/\A=A/\K;let M:=(224:Int);let N:=(192:Int);let O:=(1:Int);let P:=(1:Nat);let Q:=(-300:Int);let R:=(300:Int);let S:=(2:Nat);let T:=(-20000:Int);let U:=(20000:Int);let V:=(3:Nat);let W:=(-1300000:Int);let X:=(1300000:Int);let Y:=(4:Nat);let Z:=(-90000000:Int);let a:=(90000000:Int);let b:=J=J/\s=s/\A=A/\A=A/\false=false/\K;let c:=(64:Int);if decide (s=[])=true then C else E/\H/\(E/\if decide (I<=G)=true then E/\H/\inR IntKind.i64 (G-I)/\(4:Int)=J/\G-I=iu s/\L else E/\if decide (M<=G)=true then E/\H/\inR IntKind.i64 (G-M)/\(3:Int)=J/\G-M=iu s/\L else E/\if decide (N<=G)=true then E/\H/\inR IntKind.i64 (G-N)/\(2:Int)=J/\G-N=iu s/\L else O=J/\G=iu s/\L)/\if decide (D<J)=true then C else(∃(x:Nat),(P<=x/\x<=dm s/\(x=P->Q<=bf s x/\bf s x<=R)/\(x=S->T<=bf s x/\bf s x<=U)/\(x=V->W<=bf s x/\bf s x<=X)/\(x=Y->Z<=bf s x/\bf s x<=a))/\O=(↑x:Int)/\iu s=bf s x/\b)/\∀(x:Nat),let d:=(↑x:Int);let e:=(↑(UInt8.toNat (List.getD s (Int.toNat d) F)):Int);P<=x/\x<=dm s/\(x=P->Q<=bf s x/\bf s x<=R)/\(x=S->T<=bf s x/\bf s x<=U)/\(x=V->W<=bf s x/\bf s x<=X)/\(x=Y->Z<=bf s x/\bf s x<=a)->if decide (d<J)=true then inR IntKind.i64 (bf s x*c)/\(A<=d/\d<D)/\inR IntKind.i64 e/\inR IntKind.i64 (bf s x*c+e)/\inR IntKind.i64 (bf s x*c+e-(128:Int))/\inR IntKind.i64 (d+O)/\∃(y:Nat),(P<=y/\y<=dm s/\(y=P->Q<=bf s y/\bf s y<=R)/\(y=S->T<=bf s y/\bf s y<=U)/\(y=V->W<=bf s y/\bf s y<=X)/\(y=Y->Z<=bf s y/\bf s y<=a))/\dm s-y<dm s-x/\d+O=(↑y:Int)/\bf s x*c+e-(128:Int)=bf s y/\b else if(!fX (bf s x))=true then C else(A<=bf s x/\bf s x<=(1114111:Int))/\(A<=A/\A<=J/\J<=D)/\if(!decide (ez (bf s x)=List.drop (Int.toNat A) (List.take (Int.toNat J) s)))=true then C else True/\bf s x=B.1/\J=B.2/\True:=by
 conv=>zeta
 have ln:=hs.str;apply a6<;>intro h
 ·have h:=Xo h;subst h;exact Xr
 have hne:s≠[]:=fun e=>h (Xd e);have hpos:=Pw.2 hne;have eb:∀b:UInt8,(b.toNat:Int)=bI b:=fun _=>rfl;simp only[eb,PW,OH];obtain⟨n1,n2⟩:=Nf (s.getD 0 0);have i64:∀n:Int,-10000000000<=n->n<=10000000000->inR IntKind.i64 n:=fun n a b=>aj (by omega) (by omega);have l0:(0:Int)<=0/\(0:Int)<(s.length:Int):=⟨by omega,by omega⟩;have hL:dm s=if 240<=bI (s.getD 0 0)then 4 else if 224<=bI (s.getD 0 0)then 3 else if 192<=bI (s.getD 0 0)then 2 else 1:=rfl
 have h0:iu s=if 240<=bI (s.getD 0 0)then bI (s.getD 0 0)-240 else if 224<=bI (s.getD 0 0)then bI (s.getD 0 0)-224 else if 192<=bI (s.getD 0 0)then bI (s.getD 0 0)-192 else bI (s.getD 0 0):=rfl
 refine⟨l0,i64 _ (by omega) (by omega),⟨l0,a6 (fun a=>?_) (fun a=>⟨l0,a6 (fun b=>?_) (fun b=>⟨l0,a6 (fun c=>?_) (fun c=>?_)⟩)⟩)⟩,?_⟩
 ·have a:=Xo a;rw[OB a]at hL h0;refine⟨l0,i64 _ (by omega) (by omega),i64 _ (by omega) (by omega),by rw[hL];rfl,h0.symm,?_⟩;exact Xr
 ·have a:¬240<=bI (s.getD 0 0):=fun e=>a (Xd e);have b:=Xo b;rw[OA a,OB b]at hL h0;refine⟨l0,i64 _ (by omega) (by omega),i64 _ (by omega) (by omega),by rw[hL];rfl,h0.symm,?_⟩;exact Xr
 ·have a:¬240<=bI (s.getD 0 0):=fun e=>a (Xd e);have b:¬224<=bI (s.getD 0 0):=fun e=>b (Xd e);have c:=Xo c;rw[OA a,OA b,OB c]at hL h0;refine⟨l0,i64 _ (by omega) (by omega),i64 _ (by omega) (by omega),by rw[hL];rfl,h0.symm,?_⟩;exact Xr
 ·have a:¬240<=bI (s.getD 0 0):=fun e=>a (Xd e);have b:¬224<=bI (s.getD 0 0):=fun e=>b (Xd e);have c:¬192<=bI (s.getD 0 0):=fun e=>c (Xd e);rw[OA a,OA b,OA c]at hL h0;refine⟨by rw[hL];rfl,h0.symm,?_⟩;exact Xr
 have hb0:-300<=iu s/\iu s<=300:=by rw[h0];(repeat' split)<;>omega
 have hb1:1<=dm s/\dm s<=4:=by rw[hL];(repeat' split)<;>omega
 clear hL h0 n1 n2;apply a6<;>intro a
 ·have a:=Xo a;have e:hZ s=(0,0):=by unfold hZ;rw[OA hne,OB (by omega)]
  rw[e];exact Xr
 have a:¬(s.length:Int)<(dm s:Int):=fun e=>a (Xd e);have hF:hZ s=if fX (bf s (dm s))=true/\ez (bf s (dm s))=s.take (dm s)then(bf s (dm s),(dm s:Int))else(0,0):=by unfold hZ;rw[OA hne,OA (by omega)]
 refine⟨⟨1,⟨ON _,hb1.1,fun _=>hb0,fun e=>by omega,fun e=>by omega,fun e=>by omega⟩,?_⟩,?_⟩
 ·exact Xr
 rintro k ⟨k1,k2,k3,k4,k5,k6⟩;apply a6<;>intro b
 ·have b:k<dm s:=by have:=Xo b;omega
  obtain⟨m1,m2⟩:=Nf (s.getD k 0);have hf:bf s (k+1)=bf s k *64+bI (s.getD k 0)-128:=by obtain⟨j,rfl⟩:∃j,k=j+1:=⟨k-1,by omega⟩;rfl
  have hk:k=1∨k=2∨k=3:=by omega
  have hb:-1300000<=bf s k/\bf s k<=1300000:=by
   rcases hk with e|e|e
   ·have:=k3 e;omega
   ·have:=k4 e;omega
   ·exact k5 e
  refine⟨i64 _ (by omega) (by omega),⟨by omega,by omega⟩,i64 _ (by omega) (by omega),i64 _ (by omega) (by omega),i64 _ (by omega) (by omega),i64 _ (by omega) (by omega),k+1,⟨by omega,by omega,fun e=>by omega,fun e=>by have:=k3 (by omega);omega,fun e=>by have:=k4 (by omega);omega,fun e=>by have:=k5 (by omega);omega⟩,by omega,by omega,hf.symm,?_⟩;exact Xr
 ·have b:k=dm s:=by have:¬((k:Int)<(dm s:Int)):=fun e=>b (Xd e);omega
  subst b;simp only[Q0];apply a6<;>intro c
  ·rw[OA (fun e=>by rw[e.1]at c;cases c)]at hF;rw[hF];exact Xr
  have c:fX (bf s (dm s))=true:=by simpa using c
  have c':=c;unfold fX at c';simp only[OF,OK]at c';refine⟨⟨c'.1.1,c'.1.2⟩,⟨by omega,by omega,by omega⟩,a6 (fun d=>?_) (fun d=>?_)⟩
  ·have d:¬ez (bf s (dm s))=s.take (dm s):=by simpa using d
   rw[OA (fun e=>d e.2)]at hF;rw[hF];exact Xr
  ·have d:ez (bf s (dm s))=s.take (dm s):=by simpa using d
   rw[OB ⟨c,d⟩]at hF;rw[hF];exact Xr
theorem DS(s:Str)(ho:s.length<=4096) :
  let A:=(0:Int);let B:=True;let C:=A=A/\A=A/\B;let D:=s=s/\A=A/\C;let E:=(↑(List.length s):Int);let F:=(0:UInt8);let G:=(1:Int);let H:=aq bm s A;let I:=(45:Int);let J:=true=decide (List.length s<=aq bm s A+(1:Nat)∨bI (List.getD s H F)≠I∨bI (List.getD s (aq bm s A+(1:Nat)) F)≠I);let K:=(↑H:Int);let L:=false=false/\C;let M:=s=s/\A=A/\L;let N:=cw s;let O:=A=N.2.err/\A=N.2.pos/\B;let P:=false=false/\s=s/\L;let Q:=List.take (Int.toNat E) s;let R:=if decide (List.length s<=aq bm s A+(1:Nat)∨bI (List.getD s H F)≠I∨bI (List.getD s (aq bm s A+(1:Nat)) F)≠I)=true then B/\K=N.1/\O else(∃(x:Nat×Nat),(x.1<=List.length s/\List.length s<x.1+x.2/\cw s=nk s x.2 x.1)/\K=(↑x.1:Int)/\P)/\∀(x:Nat×Nat),let S:=(↑x.1:Int);let T:=hZ (List.drop (Int.toNat S) Q);let U:=B/\S=N.1/\O;x.1<=List.length s/\List.length s<x.1+x.2/\cw s=nk s x.2 x.1->if decide (S<E)=true then(A<=S/\S<E)/\if(!decide ((↑(UInt8.toNat (List.getD s (Int.toNat S) F)):Int)=(10:Int)))=true then(A<=S/\S<=E/\E<=E)/\if decide (T.2=A)=true then B/\A=N.1/\(30:Int)=N.2.err/\S=N.2.pos/\B else inR IntKind.i64 (S+T.2)/\∃(y:Nat×Nat),(y.1<=List.length s/\List.length s<y.1+y.2/\cw s=nk s y.2 y.1)/\y.2<x.2/\S+T.2=(↑y.1:Int)/\P else U else U;(∃(x:Nat),(x<=List.length s/\aq bm s A=x+aq bm s (↑x:Int))/\A=(↑x:Int)/\D)/\∀(x:Nat),let S:=(↑x:Int);let T:=A<=S/\S<E;let U:=(↑(UInt8.toNat (List.getD s (Int.toNat S) F)):Int);let V:=inR IntKind.i64 (S+G);let W:=V/\∃(y:Nat),(y<=List.length s/\aq bm s A=y+aq bm s (↑y:Int))/\List.length s-y<List.length s-x/\S+G=(↑y:Int)/\D;let X:=J/\S=K/\M;let Y:=(V/\if decide (E<=S+G)=true then X else T/\if(!decide (U=I))=true then X else V/\(A<=S+G/\S+G<E)/\(!decide ((↑(UInt8.toNat (List.getD s (Int.toNat (S+G)) F)):Int)=I))=decide (List.length s<=aq bm s A+(1:Nat)∨bI (List.getD s H F)≠I∨bI (List.getD s (aq bm s A+(1:Nat)) F)≠I)/\S=K/\M)/\R;x<=List.length s/\aq bm s A=x+aq bm s S->if decide (S<E)=true then T/\if decide (U=(9:Int))=true then W else T/\if decide (U=(10:Int))=true then W else T/\if decide (U=(13:Int))=true then W else T/\if decide (U=(32:Int))=true then W else Y else Y:=by
 conv=>zeta
 have ln:=ho;have eb:∀b:UInt8,(b.toNat:Int)=bI b:=fun _=>rfl;simp only[eb,OH,Pt,nr];refine⟨⟨0,⟨OJ _,by simp⟩,rfl,?_⟩,?_⟩
 ·exact Xr
 rintro x ⟨h1,h2⟩;apply a6<;>intro h
 ·have hk:x<s.length:=by have:=Xo h;omega
  clear h;have l0:(0:Int)<=(x:Int)/\(x:Int)<(s.length:Int):=⟨by omega,by omega⟩;refine⟨l0,a6 (fun a=>?_) (fun a=>⟨l0,a6 (fun b=>?_) (fun b=>⟨l0,a6 (fun c=>?_) (fun c=>⟨l0,a6 (fun d=>?_) (fun d=>?_)⟩)⟩)⟩)⟩
  ·have hb:bm (bI (s.getD x 0))=true:=(eU _).2 (by have:=Xo a;omega);refine⟨aj (by omega) (by omega),x+1,⟨by omega,nS hk hb h2⟩,by omega,by omega,?_⟩;exact Xr
  ·have hb:bm (bI (s.getD x 0))=true:=(eU _).2 (by have:=Xo b;omega);refine⟨aj (by omega) (by omega),x+1,⟨by omega,nS hk hb h2⟩,by omega,by omega,?_⟩;exact Xr
  ·have hb:bm (bI (s.getD x 0))=true:=(eU _).2 (by have:=Xo c;omega);refine⟨aj (by omega) (by omega),x+1,⟨by omega,nS hk hb h2⟩,by omega,by omega,?_⟩;exact Xr
  ·have hb:bm (bI (s.getD x 0))=true:=(eU _).2 (by have:=Xo d;omega);refine⟨aj (by omega) (by omega),x+1,⟨by omega,nS hk hb h2⟩,by omega,by omega,?_⟩;exact Xr
  replace a:¬bI (s.getD x 0)=9:=fun e=>a (Xd e);replace b:¬bI (s.getD x 0)=10:=fun e=>b (Xd e);replace c:¬bI (s.getD x 0)=13:=fun e=>c (Xd e);replace d:¬bI (s.getD x 0)=32:=fun e=>d (Xd e)
  have hb:bm (bI (s.getD x 0))=false:=by
   cases e:bm (bI (s.getD x 0))with|false=>rfl|true=>have:=(eU _).1 e;omega
  have hx:=DA hk hb h2;clear a b c d hb l0 h2;rw[hx];have hP:cw s=if s.length<=x+1∨bI (s.getD x 0)≠45∨bI (s.getD (x+1) 0)≠45 then((x:Int),⟨0,0⟩)else nk s (s.length+1) x:=by unfold cw;rw[hx]
  have t1:Int.toNat ((x:Int)+1)=x+1:=by omega
  rw[t1];refine⟨⟨aj (by omega) (by omega),a6 (fun a=>?_) (fun a=>?_)⟩,a6 (fun g=>?_) (fun g=>?_)⟩
  ·have a:=Xo a;refine⟨(Xd (.inl (by omega))).symm,rfl,?_⟩;exact Xr
  ·have a:¬(s.length:Int)<=(x:Int)+1:=fun e=>a (Xd e);refine⟨⟨by omega,by omega⟩,a6 (fun b=>?_) (fun b=>?_)⟩
   ·have b:¬bI (s.getD x 0)=45:=by simpa using b
    refine⟨(Xd (.inr (.inl b))).symm,rfl,?_⟩;exact Xr
   ·have b:bI (s.getD x 0)=45:=by simpa using b
    refine⟨aj (by omega) (by omega),⟨by omega,by omega⟩,?_,rfl,?_⟩
    ·rw[Qk,Qg,OW,P1];constructor
     ·exact fun e=>.inr (.inr e)
     ·rintro(e|e|e)
      ·omega
      ·exact absurd b e
      ·exact e
    exact Xr
  ·rw[hP,OB (Xo g)];exact Xr
  ·have g':=fun e=>g (Xd e);refine⟨⟨(x,s.length+1),⟨h1,by show s.length<x+(s.length+1);omega,by rw[hP,OA g']⟩,rfl,?_⟩,?_⟩
   ·exact Xr
   clear hP t1 g g' hx h1;rintro⟨n,f⟩ ⟨k1,k2,k3⟩;simp only at k1 k2 k3⊢
   cases f with
   |zero=>omega
   |succ f=>
    have hR:nk s (f+1) n=if n<s.length/\bI (s.getD n 0)≠10 then(if dE (s.drop n)=0 then(0,⟨30,n⟩)else nk s f (n+dE (s.drop n)))else(n,⟨0,0⟩):=rfl
    rw[hR]at k3;have hu:=lY k1;apply a6<;>intro c
    ·have c:=Xo c;refine⟨⟨by omega,by omega⟩,a6 (fun d=>?_) (fun d=>?_)⟩
     ·have d:¬bI (s.getD n 0)=10:=by simpa using d
      rw[OB ⟨by omega,d⟩]at k3;refine⟨⟨by omega,by omega,by omega⟩,a6 (fun e=>?_) (fun e=>?_)⟩
      ·have e:=Xo e;rw[OB (by omega)]at k3;rw[k3];exact Xr
      ·have e:¬((dE (s.drop n):Nat):Int)=0:=fun q=>e (Xd q);rw[OA (by omega)]at k3;refine⟨aj (by omega) (by omega),(n+dE (s.drop n),f),⟨hu,by show s.length<n+dE (s.drop n)+f;omega,k3⟩,by show f<f+1;omega,rfl,?_⟩;exact Xr
     ·have d:bI (s.getD n 0)=10:=by simpa using d
      rw[OA (fun q=>q.2 d)]at k3;rw[k3];exact Xr
    ·have c:¬(n:Int)<(s.length:Int):=fun e=>c (Xd e);rw[OA (fun q=>c (by omega))]at k3;rw[k3];exact Xr
 ·have hk:s.length<=x:=by have:¬(x:Int)<(s.length:Int):=fun e=>h (Xd e);omega
  have hx:=Hp hk h2;clear h h2;rw[hx];have hP:cw s=if s.length<=x+1∨bI (s.getD x 0)≠45∨bI (s.getD (x+1) 0)≠45 then((x:Int),⟨0,0⟩)else nk s (s.length+1) x:=by unfold cw;rw[hx]
  have t1:Int.toNat ((x:Int)+1)=x+1:=by omega
  rw[t1];refine⟨⟨aj (by omega) (by omega),a6 (fun a=>?_) (fun a=>?_)⟩,a6 (fun g=>?_) (fun g=>?_)⟩
  ·have a:=Xo a;refine⟨(Xd (.inl (by omega))).symm,rfl,?_⟩;exact Xr
  ·have a:¬(s.length:Int)<=(x:Int)+1:=fun e=>a (Xd e);refine⟨⟨by omega,by omega⟩,a6 (fun b=>?_) (fun b=>?_)⟩
   ·have b:¬bI (s.getD x 0)=45:=by simpa using b
    refine⟨(Xd (.inr (.inl b))).symm,rfl,?_⟩;exact Xr
   ·have b:bI (s.getD x 0)=45:=by simpa using b
    refine⟨aj (by omega) (by omega),⟨by omega,by omega⟩,?_,rfl,?_⟩
    ·rw[Qk,Qg,OW,P1];constructor
     ·exact fun e=>.inr (.inr e)
     ·rintro(e|e|e)
      ·omega
      ·exact absurd b e
      ·exact e
    exact Xr
  ·rw[hP,OB (Xo g)];exact Xr
  ·have g':=fun e=>g (Xd e);refine⟨⟨(x,s.length+1),⟨h1,by show s.length<x+(s.length+1);omega,by rw[hP,OA g']⟩,rfl,?_⟩,?_⟩
   ·exact Xr
   clear hP t1 g g' hx h1;rintro⟨n,f⟩ ⟨k1,k2,k3⟩;simp only at k1 k2 k3⊢
   cases f with
   |zero=>omega
   |succ f=>
    have hR:nk s (f+1) n=if n<s.length/\bI (s.getD n 0)≠10 then(if dE (s.drop n)=0 then(0,⟨30,n⟩)else nk s f (n+dE (s.drop n)))else(n,⟨0,0⟩):=rfl
    rw[hR]at k3;have hu:=lY k1;apply a6<;>intro c
    ·have c:=Xo c;refine⟨⟨by omega,by omega⟩,a6 (fun d=>?_) (fun d=>?_)⟩
     ·have d:¬bI (s.getD n 0)=10:=by simpa using d
      rw[OB ⟨by omega,d⟩]at k3;refine⟨⟨by omega,by omega,by omega⟩,a6 (fun e=>?_) (fun e=>?_)⟩
      ·have e:=Xo e;rw[OB (by omega)]at k3;rw[k3];exact Xr
      ·have e:¬((dE (s.drop n):Nat):Int)=0:=fun q=>e (Xd q);rw[OA (by omega)]at k3;refine⟨aj (by omega) (by omega),(n+dE (s.drop n),f),⟨hu,by show s.length<n+dE (s.drop n)+f;omega,k3⟩,by show f<f+1;omega,rfl,?_⟩;exact Xr
     ·have d:bI (s.getD n 0)=10:=by simpa using d
      rw[OA (fun q=>q.2 d)]at k3;rw[k3];exact Xr
    ·have c:¬(n:Int)<(s.length:Int):=fun e=>c (Xd e);rw[OA (fun q=>c (by omega))]at k3;rw[k3];exact Xr
theorem DT(s:Str)(hs:Wf .str s) :
  let A:=(0:Int);let B:=True;let C:=(↑(List.length s):Int);let D:=B/\false=rB s/\B;let E:=(1:Int);(∃(x:Nat),(x<=List.length s/\List.all s cI=List.all (List.drop x s) cI)/\A=(↑x:Int)/\s=s/\B)/\∀(x:Nat),let F:=(↑x:Int);x<=List.length s/\List.all s cI=List.all (List.drop x s) cI->if decide (F<C)=true then(A<=F/\F<C)/\if(!aY (↑(UInt8.toNat (List.getD s (Int.toNat F) (0:UInt8))):Int))=true then D else inR IntKind.i64 (F+E)/\∃(y:Nat),(y<=List.length s/\List.all s cI=List.all (List.drop y s) cI)/\List.length s-y<List.length s-x/\F+E=(↑y:Int)/\s=s/\B else if decide (E<=C)=true then if decide (C<=(15:Int))=true then if decide (C=E)=true then B/\true=rB s/\B else(A<=A/\A<C)/\B/\(!decide ((↑(UInt8.toNat (List.getD s (Int.toNat A) (0:UInt8))):Int)=(48:Int)))=rB s/\B else D else D:=by
 conv=>zeta
 have ln:=hs.str;have eb:∀b:UInt8,(b.toNat:Int)=bI b:=fun _=>rfl;have ed:∀b:UInt8,aY (bI b)=cI b:=fun _=>rfl;simp only[eb,ed,OH,PW];refine⟨⟨0,⟨OJ _,rfl⟩,?_⟩,?_⟩
 ·exact Xr
 rintro k ⟨h1,h2⟩;apply a6<;>intro h
 ·have hk:k<s.length:=by have:=Xo h;omega
  rw[aJ s k 0 hk,P4]at h2;refine⟨⟨by omega,by omega⟩,a6 (fun a=>?_) (fun a=>?_)⟩
  ·have a:cI (s.getD k 0)=false:=by simpa using a
   refine⟨trivial,?_,trivial⟩;unfold rB;rw[h2,a];rfl
  ·have a:cI (s.getD k 0)=true:=by simpa using a
   rw[a,OY]at h2;refine⟨ba hk ln,k+1,⟨by omega,h2⟩,by omega,by omega,?_⟩;exact Xr
 ·have hk:k=s.length:=by have:¬((k:Int)<(s.length:Int)):=fun e=>h (Xd e);omega
  rw[hk,OO]at h2;have h2:s.all cI=true:=h2;unfold rB;rw[h2];apply a6<;>intro a
  ·have a:=Xo a;apply a6<;>intro b
   ·have b:=Xo b;rw[Xd (p:=1<=s.length) (by omega),Xd (p:=s.length<=15) (by omega)];apply a6<;>intro c
    ·have c:=Xo c;rw[Xd (p:=s.length=1) (by omega)];exact Xr
    ·have c:¬(s.length:Int)=1:=fun e=>c (Xd e);rw[Xf (p:=s.length=1) (by omega)];refine⟨⟨by omega,by omega⟩,trivial,?_,trivial⟩;simp
   ·have b:¬(s.length:Int)<=15:=fun e=>b (Xd e);rw[Xf (p:=s.length<=15) (by omega)];exact⟨trivial,by simp,trivial⟩
  ·have a:¬(1:Int)<=(s.length:Int):=fun e=>a (Xd e);rw[Xf (p:=1<=s.length) (by omega)];exact⟨trivial,by simp,trivial⟩
theorem KY(s:Str)  :
  True/\decide (s∈[([40]:Str),([41]:Str),([123]:Str),([125]:Str),([91]:Str),([93]:Str),([60]:Str),([62]:Str),([60,61]:Str),([62,61]:Str),([61]:Str),([94]:Str),([42]:Str),([44]:Str),([58]:Str),([46]:Str),([47]:Str),([64]:Str),([124]:Str),([45,62]:Str)])=j7 s/\True:=by
 refine⟨trivial,?_,trivial⟩;exact Qk.2 (Qg.trans (Ho s))
theorem DU(s:Str)(ho:s.length<=4096/\0<s.length) :
  let A:=(1:Int);let B:=s=s;let C:=(0:Int);let D:=C=C;let E:=(60:Int);let F:=True;let G:=D/\dT UInt8=dT UInt8/\D/\D/\D/\E=E/\D/\F;let H:=(↑(List.length s):Int);let I:=(0:UInt8);let J:=dC s;let K:=C=J.1.pos;let L:=C=J.2.2.pos/\F;let M:=C=J.1.kind;let N:=[]=J.1.text;let O:=F/\M/\N/\K/\C=J.2.1/\E=J.2.2.err/\L;let P:=[(10:Int)];let Q:=(1:Nat);let R:=(140737488355328:Nat);let S:=(2:Int);let T:=[(9:Int)];let U:=List.take (Int.toNat H) s;(∃(x:Nat×Str×Nat),(x.2.2<=List.length s/\List.length x.2.1<=x.2.2/\List.length s<x.2.2+x.1/\dC s=dr s x.1 x.2.1 x.2.2)/\aT x.2.1=[]/\A=(↑x.2.2:Int)/\B/\List.length (aT x.2.1)=(0:Nat)/\G)/\∀(x:Nat×Str×Nat),let V:=(↑x.2.2:Int);let W:=C<=V/\V<H;let X:=Int.toNat V;let Y:=(↑(UInt8.toNat (List.getD s X I)):Int);let Z:=inR IntKind.i64 (V+A);let a:=aT x.2.1;let b:=C<=V+A/\V+A<H;let c:=(↑(UInt8.toNat (List.getD s (Int.toNat (V+A)) I)):Int);let d:=List.length a=List.length a;let e:=inR IntKind.i64 (V+S);let f:=Z/\b/\(d/\(List.length a+List.length [c])*Q<=R)/\e/\∃(y:Nat×Str×Nat),(y.2.2<=List.length s/\List.length y.2.1<=y.2.2/\List.length s<y.2.2+y.1/\dC s=dr s y.1 y.2.1 y.2.2)/\y.1<x.1/\aT x.2.1++[c]=aT y.2.1/\V+S=(↑y.2.2:Int)/\B/\List.length (aT x.2.1++[c])=List.length (aT y.2.1)/\G;let g:=hZ (List.drop X U);let h:=inR IntKind.i64 (V+g.2);let i:=List.drop X (List.take (Int.toNat (V+g.2)) s);x.2.2<=List.length s/\List.length x.2.1<=x.2.2/\List.length s<x.2.2+x.1/\dC s=dr s x.1 x.2.1 x.2.2->if decide (V<H)=true then W/\if decide (Y=(34:Int))=true then Z/\F/\(4:Int)=J.1.kind/\List.map (fun(n:Int)=>UInt8.ofNat (Int.toNat n)) a=J.1.text/\K/\V+A=J.2.1/\C=J.2.2.err/\L else W/\if decide (Y<(32:Int))=true then O else W/\if decide (Y=(92:Int))=true then Z/\if decide (V+A=H)=true then O else Z/\b/\if decide (c=(110:Int))=true then(d/\(List.length a+List.length P)*Q<=R)/\e/\∃(y:Nat×Str×Nat),(y.2.2<=List.length s/\List.length y.2.1<=y.2.2/\List.length s<y.2.2+y.1/\dC s=dr s y.1 y.2.1 y.2.2)/\y.1<x.1/\aT x.2.1++P=aT y.2.1/\V+S=(↑y.2.2:Int)/\B/\List.length (aT x.2.1++P)=List.length (aT y.2.1)/\G else if decide (c=(116:Int))=true then(d/\(List.length a+List.length T)*Q<=R)/\e/\∃(y:Nat×Str×Nat),(y.2.2<=List.length s/\List.length y.2.1<=y.2.2/\List.length s<y.2.2+y.1/\dC s=dr s y.1 y.2.1 y.2.2)/\y.1<x.1/\aT x.2.1++T=aT y.2.1/\V+S=(↑y.2.2:Int)/\B/\List.length (aT x.2.1++T)=List.length (aT y.2.1)/\G else if decide (c=(34:Int))=true then f else if decide (c=(92:Int))=true then f else O else(C<=V/\V<=H/\H<=H)/\if decide (g.2=C)=true then F/\M/\N/\K/\C=J.2.1/\(30:Int)=J.2.2.err/\V=J.2.2.pos/\F else h/\(C<=V/\V<=V+g.2/\V+g.2<=H)/\(d/\(List.length a+List.length i)*Q<=R)/\h/\∃(y:Nat×Str×Nat),(y.2.2<=List.length s/\List.length y.2.1<=y.2.2/\List.length s<y.2.2+y.1/\dC s=dr s y.1 y.2.1 y.2.2)/\y.1<x.1/\aT x.2.1++aT i=aT y.2.1/\V+g.2=(↑y.2.2:Int)/\B/\List.length (aT x.2.1++aT i)=List.length (aT y.2.1)/\G else O:=by
 conv=>zeta
 obtain⟨ln,lp⟩:=ho;have eb:∀b:UInt8,(b.toNat:Int)=bI b:=fun _=>rfl;have el:∀l:Str,(aT l).length=l.length:=fun l=>PY _;simp only[eb,el,OH,Pt,nr];refine⟨⟨(s.length+2,[],1),⟨lp,OJ _,by show s.length<1+(s.length+2);omega,rfl⟩,rfl,rfl,?_⟩,?_⟩
 ·exact Xr
 rintro⟨f,acc,i⟩ ⟨k1,k2,k3,k4⟩;simp only at k1 k2 k3 k4⊢
 cases f with
 |zero=>omega
 |succ f=>
  have t1:Int.toNat ((i:Int)+1)=i+1:=by omega
  have t2:Int.toNat ((i:Int)+(dE (s.drop i):Int))=i+dE (s.drop i):=by omega
  have t3:(s.take (i+dE (s.drop i))).drop i=(s.drop i).take (dE (s.drop i)):=by rw[List.drop_take,Qw]
  simp only[t1,t2,t3]
  have hR:dr s (f+1) acc i=if i<s.length then
    if bI (s.getD i 0)=34 then okK 4 acc (i+1)
    else if bI (s.getD i 0)<32 then qB
    else if bI (s.getD i 0)=92 then
     if i+1=s.length then qB
     else match lh (bI (s.getD (i+1) 0))with
      |none=>qB
      |some x=>dr s f (acc++[UInt8.ofNat x.toNat]) (i+2)
    else if dE (s.drop i)=0 then(Dy,0,⟨30,i⟩)
    else dr s f (acc++(s.drop i).take (dE (s.drop i))) (i+dE (s.drop i))
   else qB:=rfl
  rw[hR]at k4;clear hR t1 t2 t3;have hu:=lY k1;apply a6<;>intro c
  ·have c:=Xo c;have l0:(0:Int)<=(i:Int)/\(i:Int)<(s.length:Int):=⟨by omega,by omega⟩;rw[OB (by omega)]at k4;refine⟨l0,a6 (fun a=>?_) (fun a=>⟨l0,a6 (fun b=>?_) (fun b=>⟨l0,a6 (fun d=>?_) (fun d=>?_)⟩)⟩)⟩
   ·rw[OB (Xo a)]at k4;rw[k4];exact⟨aj (by omega) (by omega),trivial,rfl,oJ acc,rfl,rfl,rfl,rfl,trivial⟩
   ·rw[OA (fun e=>a (Xd e)),OB (Xo b)]at k4;rw[k4];exact Xr
   ·rw[OA (fun e=>a (Xd e)),OA (fun e=>b (Xd e)),OB (Xo d)]at k4;refine⟨aj (by omega) (by omega),a6 (fun e=>?_) (fun e=>?_)⟩
    ·have e:=Xo e;rw[OB (by omega)]at k4;rw[k4];exact Xr
    ·have e:¬(i:Int)+1=(s.length:Int):=fun q=>e (Xd q);rw[OA (by omega)]at k4;refine⟨aj (by omega) (by omega),⟨by omega,by omega⟩,a6 (fun g=>?_) (fun g=>a6 (fun h=>?_) (fun h=>a6 (fun m=>?_) (fun m=>a6 (fun n=>?_) (fun n=>?_))))⟩
     ·have g:=Xo g;rw[g]at k4;have k5:dC s=dr s f (acc++[10]) (i+2):=k4
      skip
      refine⟨⟨trivial,by show(acc.length+1) *1<=_;omega⟩,aj (by omega) (by omega),(f,acc++[10],i+2),⟨by show i+2<=s.length;omega,by show(acc++[10]).length<=i+2;rw[OE];show acc.length+1<=i+2;omega,by show s.length<i+2+f;omega,k5⟩,by show f<f+1;omega,(fo acc [10]).symm,rfl,?_⟩
      repeat (first|exact trivial|refine⟨by first|rfl|trivial|(simp[aT]),?_⟩)
     ·have h:=Xo h;rw[h]at k4;have k5:dC s=dr s f (acc++[9]) (i+2):=k4
      skip
      refine⟨⟨trivial,by show(acc.length+1) *1<=_;omega⟩,aj (by omega) (by omega),(f,acc++[9],i+2),⟨by show i+2<=s.length;omega,by show(acc++[9]).length<=i+2;rw[OE];show acc.length+1<=i+2;omega,by show s.length<i+2+f;omega,k5⟩,by show f<f+1;omega,(fo acc [9]).symm,rfl,?_⟩
      repeat (first|exact trivial|refine⟨by first|rfl|trivial|(simp[aT]),?_⟩)
     ·have m:=Xo m;rw[m]at k4;have k5:dC s=dr s f (acc++[34]) (i+2):=k4;rw[m];refine⟨aj (by omega) (by omega),⟨by omega,by omega⟩,⟨trivial,by show(acc.length+1) *1<=_;omega⟩,aj (by omega) (by omega),(f,acc++[34],i+2),⟨by show i+2<=s.length;omega,by show(acc++[34]).length<=i+2;rw[OE];show acc.length+1<=i+2;omega,by show s.length<i+2+f;omega,k5⟩,by show f<f+1;omega,(fo acc [34]).symm,rfl,?_⟩
      repeat (first|exact trivial|refine⟨by first|rfl|trivial|(simp[aT]),?_⟩)
     ·have n:=Xo n;rw[n]at k4;have k5:dC s=dr s f (acc++[92]) (i+2):=k4;rw[n];refine⟨aj (by omega) (by omega),⟨by omega,by omega⟩,⟨trivial,by show(acc.length+1) *1<=_;omega⟩,aj (by omega) (by omega),(f,acc++[92],i+2),⟨by show i+2<=s.length;omega,by show(acc++[92]).length<=i+2;rw[OE];show acc.length+1<=i+2;omega,by show s.length<i+2+f;omega,k5⟩,by show f<f+1;omega,(fo acc [92]).symm,rfl,?_⟩
      repeat (first|exact trivial|refine⟨by first|rfl|trivial|(simp[aT]),?_⟩)
     ·have hn:lh (bI (s.getD (i+1) 0))=none:=by unfold lh;rw[OA (fun q=>g (Xd q)),OA (fun q=>h (Xd q)),OA (fun q=>m (Xd q)),OA (fun q=>n (Xd q))]
      rw[hn]at k4;rw[k4];exact Xr
   ·rw[OA (fun e=>a (Xd e)),OA (fun e=>b (Xd e)),OA (fun e=>d (Xd e))]at k4;refine⟨⟨by omega,by omega,by omega⟩,a6 (fun e=>?_) (fun e=>?_)⟩
    ·have e:=Xo e;rw[OB (by omega)]at k4;rw[k4];exact Xr
    ·have e:¬((dE (s.drop i):Nat):Int)=0:=fun q=>e (Xd q);rw[OA (by omega)]at k4;have hl:((s.drop i).take (dE (s.drop i))).length<=dE (s.drop i):=by rw[Qf];omega
     refine⟨aj (by omega) (by omega),⟨by omega,by omega,by omega⟩,⟨trivial,by omega⟩,aj (by omega) (by omega),(f,acc++(s.drop i).take (dE (s.drop i)),i+dE (s.drop i)),⟨hu,by show(acc++(s.drop i).take (dE (s.drop i))).length<=i+dE (s.drop i);rw[OE];omega,by show s.length<i+dE (s.drop i)+f;omega,k4⟩,by show f<f+1;omega,(fo _ _).symm,rfl,?_⟩
     repeat (first|exact trivial|refine⟨by first|rfl|trivial|(simp[aT]),?_⟩)
  ·have c:¬(i:Int)<(s.length:Int):=fun e=>c (Xd e);rw[OA (by omega)]at k4;rw[k4];exact Xr
theorem HK(s:Str)(ho:s.length<=4096/\0<s.length) :
  let A:=(0:Int);let B:=A<=A;let C:=(↑(List.length s):Int);let D:=Int.toNat A;let E:=(0:UInt8);let F:=(↑(UInt8.toNat (List.getD s D E)):Int);let G:=(↑(dq s):Int);let H:=List.take (Int.toNat G) s;let I:=List.drop D H;let J:=True;let K:=cC s;let L:=A=K.1.pos;let M:=A=K.2.2.pos/\J;let N:=A=K.2.2.err/\M;let O:=List.drop D H=K.1.text/\L/\G=K.2.1/\N;let P:=(1:Int);let Q:=(2:Int);let R:=(60:Int);let S:=J/\A=K.1.kind/\[]=K.1.text/\L/\A=K.2.1/\R=K.2.2.err/\M;let T:=(B/\A<=G/\G<=C)/\if l9 I=true then J/\(5:Int)=K.1.kind/\O else if aX I=true then J/\P=K.1.kind/\O else if dH I=true then J/\Q=K.1.kind/\O else S;let U:=A=A;let V:=s=s/\U/\F=F/\false=false/\true=true/\U/\dT UInt8=dT UInt8/\U/\U/\U/\R=R/\U/\J;let W:=(4096:Nat);let X:=(3:Int)=K.1.kind;let Y:=(7:Int)=K.1.kind;let Z:=dC s;let a:=B/\A<=Q/\Q<=C;let b:=List.take (Int.toNat Q) s;let c:=(6:Int)=K.1.kind;let d:=B/\A<=P/\P<=C;let e:=List.take (Int.toNat P) s;let f:=d/\if j7 (List.drop D e)=true then d/\J/\c/\List.drop D e=K.1.text/\L/\P=K.2.1/\N else S;(B/\A<C)/\if bV F=true then T else if cb F=true then T else if aY F=true then(∃(x:Nat),(x<=List.length s/\aq aZ s A=x+aq aZ s (↑x:Int))/\A=(↑x:Int)/\V)/\∀(x:Nat),let g:=(↑x:Int);let h:=A<=g/\g<C;let i:=(↑(UInt8.toNat (List.getD s (Int.toNat g) E)):Int);let j:=inR IntKind.i64 (g+P)/\∃(y:Nat),(y<=List.length s/\aq aZ s A=y+aq aZ s (↑y:Int))/\List.length s-y<List.length s-x/\g+P=(↑y:Int)/\V;let k:=B/\A<=g/\g<=C;let l:=List.take (Int.toNat g) s;let m:=List.drop D l;let n:=List.drop D l=K.1.text/\L/\g=K.2.1/\N;let o:=k/\List.length m<=W/\k/\if rB m=true then k/\J/\X/\n else if decide ((cz m).2=A)=true then k/\J/\Y/\n else S;x<=List.length s/\aq aZ s A=x+aq aZ s g->if decide (g<C)=true then h/\if bV i=true then j else h/\if cb i=true then j else h/\if aY i=true then j else h/\if decide (i=(46:Int))=true then j else h/\if decide (i=(45:Int))=true then j else o else o else if decide (F=(34:Int))=true then(List.length s<=W/\(0:Nat)<List.length s)/\J/\Z.1=K.1/\Z.2.1=K.2.1/\Z.2.2=K.2.2/\J else if decide (Q<=C)=true then a/\if j7 (List.drop D b)=true then a/\J/\c/\List.drop D b=K.1.text/\L/\Q=K.2.1/\N else f else f:=by
 conv=>zeta
 obtain⟨ln,lp⟩:=ho;have eb:∀b:UInt8,(b.toNat:Int)=bI b:=fun _=>rfl;have tt1:Int.toNat 1=1:=rfl;have tt2:Int.toNat 2=2:=rfl;simp only[eb,tt1,tt2,OH,PW,Q0];have hl:=tZ s
 have hF:cC s=if bV (bI (s.getD 0 0))=true∨cb (bI (s.getD 0 0))=true then pJ s
  else if aY (bI (s.getD 0 0))=true then pK (s.take (aq aZ s 0)) (aq aZ s 0)
  else if bI (s.getD 0 0)=34 then dC s
  else s9 s:=rfl
 refine⟨⟨P8 0,by omega⟩,a6 (fun h1=>?_) (fun h1=>a6 (fun h2=>?_) (fun h2=>a6 (fun h3=>?_) (fun h3=>a6 (fun h4=>?_) (fun h4=>?_))))⟩
 ·rw[OB (.inl h1)]at hF;unfold pJ at hF;refine⟨⟨P8 0,by omega,by omega⟩,a6 (fun a=>?_) (fun a=>a6 (fun b=>?_) (fun b=>a6 (fun d=>?_) (fun d=>?_)))⟩
  ·rw[OB a]at hF;rw[hF];exact Xr
  ·rw[OA a,OB b]at hF;rw[hF];exact Xr
  ·rw[OA a,OA b,OB d]at hF;rw[hF];exact Xr
  ·rw[OA a,OA b,OA d]at hF;rw[hF];exact Xr
 ·rw[OB (.inr h2)]at hF;unfold pJ at hF;refine⟨⟨P8 0,by omega,by omega⟩,a6 (fun a=>?_) (fun a=>a6 (fun b=>?_) (fun b=>a6 (fun d=>?_) (fun d=>?_)))⟩
  ·rw[OB a]at hF;rw[hF];exact Xr
  ·rw[OA a,OB b]at hF;rw[hF];exact Xr
  ·rw[OA a,OA b,OB d]at hF;rw[hF];exact Xr
  ·rw[OA a,OA b,OA d]at hF;rw[hF];exact Xr
 ·rw[OA (fun e=>e.elim h1 h2),OB h3]at hF;refine⟨⟨0,⟨OJ _,by simp⟩,rfl,?_⟩,?_⟩
  ·exact Xr
  rintro x ⟨k1,k2⟩;apply a6<;>intro h
  ·have hk:x<s.length:=by have:=Xo h;omega
   clear h;have l0:(0:Int)<=(x:Int)/\(x:Int)<(s.length:Int):=⟨by omega,by omega⟩;refine⟨l0,a6 (fun a=>?_) (fun a=>⟨l0,a6 (fun b=>?_) (fun b=>⟨l0,a6 (fun c=>?_) (fun c=>⟨l0,a6 (fun d=>?_) (fun d=>⟨l0,a6 (fun e=>?_) (fun e=>?_)⟩)⟩)⟩)⟩)⟩
   ·have hb:aZ (bI (s.getD x 0))=true:=by unfold aZ;rw[a];simp only[QU,PN]
    refine⟨aj (by omega) (by omega),x+1,⟨by omega,nu hk hb k2⟩,by omega,rfl,?_⟩;exact Xr
   ·have hb:aZ (bI (s.getD x 0))=true:=by unfold aZ;rw[b];simp only[QU,PN]
    refine⟨aj (by omega) (by omega),x+1,⟨by omega,nu hk hb k2⟩,by omega,rfl,?_⟩;exact Xr
   ·have hb:aZ (bI (s.getD x 0))=true:=by unfold aZ;rw[c];simp only[QU,PN]
    refine⟨aj (by omega) (by omega),x+1,⟨by omega,nu hk hb k2⟩,by omega,rfl,?_⟩;exact Xr
   ·have hb:aZ (bI (s.getD x 0))=true:=by unfold aZ;rw[d];simp only[QU,PN]
    refine⟨aj (by omega) (by omega),x+1,⟨by omega,nu hk hb k2⟩,by omega,rfl,?_⟩;exact Xr
   ·have hb:aZ (bI (s.getD x 0))=true:=by unfold aZ;rw[e];simp only[QU,PN]
    refine⟨aj (by omega) (by omega),x+1,⟨by omega,nu hk hb k2⟩,by omega,rfl,?_⟩;exact Xr
   have hb:aZ (bI (s.getD x 0))=false:=by unfold aZ;rw[P5.2 a,P5.2 b,P5.2 c,P5.2 d,P5.2 e];rfl
   have hx:=Hr hk hb k2;clear a b c d e hb l0 k2;rw[hx]at hF;unfold pK at hF;refine⟨⟨P8 0,by omega,by omega⟩,by rw[Qf];omega,⟨P8 0,by omega,by omega⟩,a6 (fun a=>⟨⟨P8 0,by omega,by omega⟩,?_⟩) (fun a=>a6 (fun b=>⟨⟨P8 0,by omega,by omega⟩,?_⟩) (fun b=>?_))⟩
   ·rw[OB a]at hF;rw[hF];exact Xr
   ·rw[OA a,OB (Xo b)]at hF;rw[hF];exact Xr
   ·rw[OA a,OA (fun e=>b (Xd e))]at hF;rw[hF];exact Xr
  ·have hk:s.length<=x:=by have:¬(x:Int)<(s.length:Int):=fun e=>h (Xd e);omega
   have hx:=KF hk k2;clear h k2;rw[hx]at hF;unfold pK at hF;refine⟨⟨P8 0,by omega,by omega⟩,by rw[Qf];omega,⟨P8 0,by omega,by omega⟩,a6 (fun a=>⟨⟨P8 0,by omega,by omega⟩,?_⟩) (fun a=>a6 (fun b=>⟨⟨P8 0,by omega,by omega⟩,?_⟩) (fun b=>?_))⟩
   ·rw[OB a]at hF;rw[hF];exact Xr
   ·rw[OA a,OB (Xo b)]at hF;rw[hF];exact Xr
   ·rw[OA a,OA (fun e=>b (Xd e))]at hF;rw[hF];exact Xr
 ·rw[OA (fun e=>e.elim h1 h2),OA h3,OB (Xo h4)]at hF;rw[hF];exact⟨⟨ln,lp⟩,trivial,rfl,rfl,rfl,trivial⟩
 ·rw[OA (fun e=>e.elim h1 h2),OA h3,OA (fun e=>h4 (Xd e))]at hF;unfold s9 at hF;apply a6<;>intro a
  ·have a:=Xo a;have l2:(0:Int)<=0/\(0:Int)<=2/\(2:Int)<=(s.length:Int):=⟨P8 0,by decide,a⟩;have l1:(0:Int)<=0/\(0:Int)<=1/\(1:Int)<=(s.length:Int):=⟨P8 0,by decide,by omega⟩;refine⟨l2,a6 (fun b=>⟨l2,?_⟩) (fun b=>⟨l1,a6 (fun c=>⟨l1,?_⟩) (fun c=>?_)⟩)⟩
   ·rw[OB ⟨by omega,b⟩]at hF;rw[hF];exact Xr
   ·rw[OA (fun e=>b e.2),OB c]at hF;rw[hF];exact Xr
   ·rw[OA (fun e=>b e.2),OA c]at hF;rw[hF];exact Xr
  ·have a:¬(2:Int)<=(s.length:Int):=fun e=>a (Xd e);have l1:(0:Int)<=0/\(0:Int)<=1/\(1:Int)<=(s.length:Int):=⟨P8 0,by decide,by omega⟩;refine⟨l1,a6 (fun c=>⟨l1,?_⟩) (fun c=>?_)⟩
   ·rw[OA (fun e=>a (by omega)),OB c]at hF;rw[hF];exact Xr
   ·rw[OA (fun e=>a (by omega)),OA c]at hF;rw[hF];exact Xr
theorem KZ(s:Str)(hs:Wf .str s) :
  let A:=(↑(List.length s):Int);let B:=True;let C:=bR s;let D:=C.1=[];let E:=(0:Int);let F:=false=false;let G:=E=E/\E=E/\B;let H:=List.take (Int.toNat A) s;let I:=(140737488355328:Nat);let J:=[{kind:=E,text:=[],pos:=A:Tokn}];if decide ((4096:Int)<A)=true then B/\D/\(3:Int)=C.2.err/\(4096:Int)=C.2.pos/\B else(∃(x:Nat×Nat×List Tokn),(x.2.1<=List.length s/\List.length x.2.2<=x.2.1/\List.length s<x.2.1+x.1/\bR s=jl s x.1 x.2.1 x.2.2)/\E=(↑x.2.1:Int)/\x.2.2=[]/\s=s/\F/\List.length x.2.2=(0:Nat)/\G)/\∀(x:Nat×Nat×List Tokn),let K:=(↑x.2.1:Int);let L:=E<=K/\K<=A/\A<=A;let M:=List.drop (Int.toNat K) H;let N:=List.length M<=(4096:Nat);let O:=cw M;let P:=cC M;let Q:=List.length x.2.2=List.length x.2.2;let R:=[{kind:=P.1.kind,text:=P.1.text,pos:=K:Tokn}];x.2.1<=List.length s/\List.length x.2.2<=x.2.1/\List.length s<x.2.1+x.1/\bR s=jl s x.1 x.2.1 x.2.2->if decide (K<A)=true then L/\N/\if(!decide (O.2.err=E))=true then inR IntKind.i64 (K+O.2.pos)/\B/\D/\O.2.err=C.2.err/\K+O.2.pos=C.2.pos/\B else if decide (E<O.1)=true then inR IntKind.i64 (K+O.1)/\∃(y:Nat×Nat×List Tokn),(y.2.1<=List.length s/\List.length y.2.2<=y.2.1/\List.length s<y.2.1+y.1/\bR s=jl s y.1 y.2.1 y.2.2)/\y.1<x.1/\K+O.1=(↑y.2.1:Int)/\x.2.2=y.2.2/\s=s/\F/\List.length x.2.2=List.length y.2.2/\G else L/\(N/\(0:Nat)<List.length M)/\if(!decide (P.2.2.err=E))=true then inR IntKind.i64 (K+P.2.2.pos)/\B/\D/\P.2.2.err=C.2.err/\K+P.2.2.pos=C.2.pos/\B else(Q/\(List.length x.2.2+List.length R)*(32:Nat)<=I)/\inR IntKind.i64 (K+P.2.1)/\∃(y:Nat×Nat×List Tokn),(y.2.1<=List.length s/\List.length y.2.2<=y.2.1/\List.length s<y.2.1+y.1/\bR s=jl s y.1 y.2.1 y.2.2)/\y.1<x.1/\K+P.2.1=(↑y.2.1:Int)/\x.2.2++R=y.2.2/\s=s/\F/\List.length (x.2.2++R)=List.length y.2.2/\G else(Q/\(List.length x.2.2+List.length J)*(32:Nat)<=I)/\B/\x.2.2++J=C.1/\E=C.2.err/\E=C.2.pos/\B:=by
 conv=>zeta
 apply a6<;>intro h
 ·have h:=Xo h;have e:bR s=([],⟨3,4096⟩):=by unfold bR;rw[OB (by omega)]
  rw[e];exact Xr
 have ln:s.length<=4096:=by have:¬(4096:Int)<(s.length:Int):=fun e=>h (Xd e);omega
 have e:bR s=jl s (s.length+2) 0 []:=by unfold bR;rw[OA (by omega)]
 refine⟨⟨(s.length+2,0,[]),⟨OJ _,ON _,by show s.length<0+(s.length+2);omega,e⟩,rfl,rfl,?_⟩,?_⟩
 ·exact Xr
 clear e h;rintro⟨f,a,out⟩ ⟨k1,k2,k3,k4⟩;simp only[OH,Pt]at k1 k2 k3 k4⊢
 cases f with
 |zero=>omega
 |succ f=>
  have hR:jl s (f+1) a out=if a<s.length then
    if ¬(cw (s.drop a)).2.err=0 then([],⟨(cw (s.drop a)).2.err,a+(cw (s.drop a)).2.pos⟩)
    else if 0<(cw (s.drop a)).1 then jl s f (a+(cw (s.drop a)).1.toNat) out
    else if ¬(cC (s.drop a)).2.2.err=0 then([],⟨(cC (s.drop a)).2.2.err,a+(cC (s.drop a)).2.2.pos⟩)
    else jl s f (a+(cC (s.drop a)).2.1.toNat) (out++[MC (cC (s.drop a)).1 a])
   else(out++[⟨0,[],(s.length:Int)⟩],⟨0,0⟩):=rfl
  rw[hR]at k4;clear hR;apply a6<;>intro c
  ·have c:=Xo c;rw[OB (by omega)]at k4;have dl:(s.drop a).length=s.length-a:=PK;obtain⟨p1,p2,p3,p4⟩:=yb (s.drop a);obtain⟨q1,q2,q3⟩:=DB (s:=s.drop a) (by omega);rw[dl]at p2 p4 q1 q3⊢;refine⟨⟨by omega,by omega,by omega⟩,by omega,a6 (fun d=>?_) (fun d=>a6 (fun g=>?_) (fun g=>⟨⟨by omega,by omega,by omega⟩,⟨by omega,by omega⟩,a6 (fun m=>?_) (fun m=>?_)⟩))⟩
   ·have d:¬(cw (s.drop a)).2.err=0:=by simpa using d
    rw[OB d]at k4;rw[k4];exact⟨aj (by omega) (by omega),trivial,rfl,rfl,rfl,trivial⟩
   ·have d:(cw (s.drop a)).2.err=0:=by simpa using d
    have g:=Xo g;rw[OA (fun e=>e d),OB g]at k4;refine⟨aj (by omega) (by omega),(f,a+(cw (s.drop a)).1.toNat,out),⟨by show a+(cw (s.drop a)).1.toNat<=s.length;omega,by show out.length<=a+(cw (s.drop a)).1.toNat;omega,by show s.length<a+(cw (s.drop a)).1.toNat+f;omega,k4⟩,by show f<f+1;omega,by show(a:Int)+(cw (s.drop a)).1=((a+(cw (s.drop a)).1.toNat:Nat):Int);omega,rfl,?_⟩;exact Xr
   ·have d:(cw (s.drop a)).2.err=0:=by simpa using d
    have m:¬(cC (s.drop a)).2.2.err=0:=by simpa using m
    rw[OA (fun e=>e d),OA (fun e=>g (Xd e)),OB m]at k4;rw[k4];exact⟨aj (by omega) (by omega),trivial,rfl,rfl,rfl,trivial⟩
   ·have d:(cw (s.drop a)).2.err=0:=by simpa using d
    have m:(cC (s.drop a)).2.2.err=0:=by simpa using m
    have q1:=q1 m;rw[OA (fun e=>e d),OA (fun e=>g (Xd e)),OA (fun e=>e m)]at k4;refine⟨⟨trivial,by show(out.length+1) *32<=_;omega⟩,aj (by omega) (by omega),(f,a+(cC (s.drop a)).2.1.toNat,out++[MC (cC (s.drop a)).1 a]),⟨by show a+(cC (s.drop a)).2.1.toNat<=s.length;omega,by show(out++[MC (cC (s.drop a)).1 a]).length<=a+(cC (s.drop a)).2.1.toNat;rw[OE];show out.length+1<=_;omega,by show s.length<a+(cC (s.drop a)).2.1.toNat+f;omega,k4⟩,by show f<f+1;omega,by show(a:Int)+(cC (s.drop a)).2.1=((a+(cC (s.drop a)).2.1.toNat:Nat):Int);omega,rfl,?_⟩;exact Xr
  ·have c:¬(a:Int)<(s.length:Int):=fun e=>c (Xd e);rw[OA (by omega)]at k4;rw[k4];exact⟨⟨trivial,by show(out.length+1) *32<=_;omega⟩,trivial,rfl,rfl,rfl,trivial⟩
theorem L0(l:List Tokn)(a:Int)(hl:Wf (.lst (.st .token)) l)(ho:0<=a) :
  let A:=(↑(List.length l):Int);let B:=(0:Int);let C:=True;let D:=dfl (Ty.st SN.token);let E:=az l a;let F:=(1:Int);if decide (a<A)=true then(B<=a/\a<A)/\C/\List.getD l (Int.toNat a) D=az l a/\C else if decide (A=B)=true then C/\B=E.kind/\[]=E.text/\B=E.pos/\C else inR IntKind.i64 (A-F)/\(B<=A-F/\A-F<A)/\C/\B=E.kind/\[]=E.text/\(List.getD l (Int.toNat (A-F)) D).pos=E.pos/\C:=by
 conv=>zeta
 have ln:=hl.len;unfold az;apply a6<;>intro h
 ·have h:=Xo h;rw[OB h];refine⟨⟨by omega,by omega⟩,?_⟩;exact Xr
 ·have h:¬a<(l.length:Int):=fun e=>h (Xd e);rw[OA h];apply a6<;>intro k
  ·have k:=Xo k;rw[OB (by omega)];exact Xr
  ·have k:¬(l.length:Int)=0:=fun e=>k (Xd e);rw[OA (by omega)];refine⟨aj (by omega) (by omega),⟨by omega,by omega⟩,?_⟩;exact Xr
theorem L1(l:List Tokn)(a:Int)(t:Str)(ho:0<=a) :
  let A:=az l a;let B:=True;(0:Int)<=a/\if decide (A.text=t)=true then if decide (A.kind=(6:Int))=true then B/\true=aG l a t/\B else B/\decide (A.kind=(5:Int))=aG l a t/\B else B/\false=aG l a t/\B:=by
 conv=>zeta
 refine⟨ho,?_⟩;unfold aG;by_cases a1:(az l a).text=t<;>by_cases b:(az l a).kind=6<;>by_cases c:(az l a).kind=5<;>simp[a1,b,c]
theorem L2(l:List Tokn)(a:Int)(ho:0<=a) :
  (0:Int)<=a/\True/\(90:Int)=(90:Int)/\(az l a).pos=(jc l a).pos/\True:=by
 refine⟨ho,?_⟩;exact Xr
theorem L3(l:List Tokn)(a:Int)(t:Str)(hl:Wf (.lst (.st .token)) l)(ho:0<=a) :
  let A:=(0:Int);let B:=ad l a t;A<=a/\if(!aG l a t)=true then A<=a/\True/\a=B.1/\jc l a=B.2/\True else inR IntKind.i64 (a+(1:Int))/\True/\a+(1:Int)=B.1/\A=B.2.err/\A=B.2.pos/\True:=by
 conv=>zeta
 have ln:=hl.len;refine⟨ho,a6 (fun h=>?_) (fun h=>?_)⟩
 ·have h:¬aG l a t=true:=by simpa using h
  unfold ad;rw[OA h];refine⟨ho,?_⟩;exact Xr
 ·have h:aG l a t=true:=by simpa using h
  have:=cg h;unfold ad;rw[OB h];refine⟨aj (by omega) (by omega),?_⟩;exact Xr
theorem L4(l:List Tokn)(a k:Int)(hl:Wf (.lst (.st .token)) l)(ho:0<=a/\¬k=0) :
  let A:=(0:Int);let B:=aL l a k;A<=a/\if(!decide ((az l a).kind=k))=true then A<=a/\True/\[]=B.1/\a=B.2.1/\jc l a=B.2.2/\True else inR IntKind.i64 (a+(1:Int))/\True/\(az l a).text=B.1/\a+(1:Int)=B.2.1/\A=B.2.2.err/\A=B.2.2.pos/\True:=by
 conv=>zeta
 have ln:=hl.len;obtain⟨ho,hk⟩:=ho;refine⟨ho,a6 (fun h=>?_) (fun h=>?_)⟩
 ·have h:¬(az l a).kind=k:=by simpa using h
  unfold aL;rw[OA h];refine⟨ho,?_⟩;exact Xr
 ·have h:(az l a).kind=k:=by simpa using h
  have:=fj (l:=l) (a:=a) (by omega);unfold aL;rw[OB h];refine⟨aj (by omega) (by omega),?_⟩;exact Xr
theorem HL(l:List Tokn)(a:Int)(ns:List Str)(hn:Wf (.lst .str) ns)(ho:0<=a) :
  let A:=(0:Int);let B:=(1:Int);let C:=dT UInt8=dT UInt8;let D:=A=A;let E:=aL l a B;let F:=E.1=E.1;let G:=E.2.1=E.2.1;let H:=D/\D/\True;let I:=(↑(List.length ns):Int);let J:=ag l a ns;let K:=E.2.1=J.2.1;(A<=a/\¬B=A)/\(∃(x:Nat),x<=List.length ns/\A=(↑x:Int)/\l=l/\a=a/\ns=ns/\C/\D/\F/\G/\E.2.2=frF l a ns x/\H)/\∀(x:Nat),let L:=(↑x:Int);let M:=inR IntKind.i64 (L+B);let N:=True/\E.1=J.1/\K/\frF l a ns x=J.2.2/\True;x<=List.length ns->if decide (L<I)=true then if decide ((frF l a ns x).err=A)=true then(A<=L/\L<I)/\if decide (List.getD ns (Int.toNat L) (dfl Ty.str)=E.1)=true then A<=a/\M/\∃(y:Nat),let O:=frF l a ns y;y<=List.length ns/\List.length ns-y<List.length ns-x/\L+B=(↑y:Int)/\l=l/\a=a/\ns=ns/\C/\D/\F/\G/\(111:Int)=O.err/\(az l a).pos=O.pos/\H else M/\∃(y:Nat),y<=List.length ns/\List.length ns-y<List.length ns-x/\L+B=(↑y:Int)/\l=l/\a=a/\ns=ns/\C/\D/\F/\G/\frF l a ns x=frF l a ns y/\H else N else N:=by
 conv=>zeta
 have ln:=hn.len;refine⟨⟨ho,by decide⟩,⟨0,OJ _,rfl,?_⟩,?_⟩
 ·rw[KM];exact Xr
 rintro k hk;apply a6<;>intro h
 ·have h:k<ns.length:=by have:=Xo h;omega
  apply a6<;>intro e
  ·have e:=Xo e;refine⟨⟨by omega,by omega⟩,a6 (fun m=>?_) (fun m=>?_)⟩
   ·have m:=Xo m;have hh:=MP e h m;refine⟨ho,ba h ln,k+1,h,by omega,by omega,?_⟩;rw[hh];exact Xr
   ·have m:¬ns.getD k []=(aL l a 1).1:=fun q=>m (Xd q);have hh:=KO e h m;refine⟨ba h ln,k+1,h,by omega,by omega,?_⟩;rw[<-hh];exact Xr
  ·rw[MR (fun q=>e (Xd q))];exact Xr
 ·have h:k=ns.length:=by have:¬((k:Int)<(ns.length:Int)):=fun q=>h (Xd q);omega
  rw[h,MQ];exact Xr
theorem DV(p m:Str)  :
  let A:=(1:Nat);let B:=(5:Nat);let C:=p=[];let D:=([73,110,116]:Str);let E:=¬(C/\m=D);let F:=(2:Nat);let G:=([66,111,111,108]:Str);let H:=¬(C/\m=G);let I:=(3:Nat);let J:=([84,101,120,116]:Str);let K:=¬(C/\m=J);let L:=(4:Nat);let M:=([65,110,121]:Str);let N:=¬(C/\m=M);let O:=(1:Int);let P:=[[],D,G,J,M];let Q:=(0:Int);let R:=dT UInt8=dT UInt8;let S:=p=p/\m=m/\P=P/\Q=Q/\R/\R/\List.length P=List.length P/\True;let T:=fW p m;let U:=T.names=[]/\T.parts=[]/\True;(∃(x:Nat),(A<=x/\x<=B/\(A<x->E)/\(F<x->H)/\(I<x->K)/\(L<x->N))/\O=(↑x:Int)/\S)/\∀(x:Nat),let V:=(↑x:Int);let W:=inR IntKind.i64 (V+O)/\∃(y:Nat),(A<=y/\y<=B/\(A<y->E)/\(F<y->H)/\(I<y->K)/\(L<y->N))/\B-y<B-x/\V+O=(↑y:Int)/\S;A<=x/\x<=B/\(A<x->E)/\(F<x->H)/\(I<x->K)/\(L<x->N)->if decide (V<=(4:Int))=true then if decide (C)=true then(Q<=V/\V<(↑(List.length P):Int))/\if decide (m=List.getD P (Int.toNat V) (dfl Ty.str))=true then True/\V=T.kind/\[]=T.pkg/\[]=T.name/\U else W else W else True/\(9:Int)=T.kind/\p=T.pkg/\m=T.name/\U:=by
 conv=>zeta
 refine⟨⟨1,⟨ON _,by omega,fun h=>by omega,fun h=>by omega,fun h=>by omega,fun h=>by omega⟩,?_⟩,?_⟩
 ·exact Xr
 rintro x ⟨h1,h2,h3,h4,h5,h6⟩;apply a6<;>intro h
 ·have h:(x:Int)<=4:=Xo h;have hx:x=1∨x=2∨x=3∨x=4:=by omega
  apply a6<;>intro hp
  ·have hp:=Xo hp;refine⟨⟨by omega,by show(x:Int)<5;omega⟩,a6 (fun hm=>?_) (fun hm=>?_)⟩
   ·have hm:=Xo hm;subst hp;rcases hx with rfl|rfl|rfl|rfl
    all_goals (have hm':m=_:=hm;simp only[OH,Qu,QY]at hm';subst hm')
    all_goals (unfold fW;simp)
   ·have hm:=fun q=>hm (Xd q);refine⟨aj (by omega) (by omega),x+1,⟨by omega,by omega,fun q=>?_,fun q=>?_,fun q=>?_,fun q=>?_⟩,by omega,by omega,?_⟩
    ·by_cases k:1<x
     ·exact h3 k
     ·obtain rfl:x=1:=by omega
      exact fun w=>hm w.2
    ·by_cases k:2<x
     ·exact h4 k
     ·obtain rfl:x=2:=by omega
      exact fun w=>hm w.2
    ·by_cases k:3<x
     ·exact h5 k
     ·obtain rfl:x=3:=by omega
      exact fun w=>hm w.2
    ·by_cases k:4<x
     ·exact h6 k
     ·obtain rfl:x=4:=by omega
      exact fun w=>hm w.2
    ·exact Xr
  ·have hp:¬p=[]:=fun q=>hp (Xd q);refine⟨aj (by omega) (by omega),x+1,⟨by omega,by omega,fun _ q=>hp q.1,fun _ q=>hp q.1,fun _ q=>hp q.1,fun _ q=>hp q.1⟩,by omega,by omega,?_⟩;exact Xr
 ·have h:¬(x:Int)<=4:=fun q=>h (Xd q);unfold fW;by_cases hp:p=[]
  ·have a1:¬m=_:=fun q=>h3 (by omega) ⟨hp,q⟩;have a2:¬m=_:=fun q=>h4 (by omega) ⟨hp,q⟩;have a3:¬m=_:=fun q=>h5 (by omega) ⟨hp,q⟩;have a4:¬m=_:=fun q=>h6 (by omega) ⟨hp,q⟩;simp[a1,a2,a3,a4]
  ·simp[hp]
theorem HM(l:List Tokn)(a:Int)(hl:Wf (.lst (.st .token)) l) :
  let A:=(0:Int);let B:=iv l a;let C:=A=B.2.pos/\True;let D:=True/\A=B.1/\(2:Int)=B.2.err/\C;let E:=(↑(List.length l):Int);if decide (a<A)=true then D else if decide (E<a)=true then D else if decide ((4097:Int)<E)=true then True/\A=B.1/\(3:Int)=B.2.err/\C else True/\a=B.1/\A=B.2.err/\C:=by
 conv=>zeta
 have ln:=hl.len;unfold iv;apply a6<;>intro h
 ·have h:=Xo h;rw[OB (.inl h)];exact Xr
 have h:¬a<0:=fun q=>h (Xd q);apply a6<;>intro k
 ·have k:=Xo k;rw[OB (.inr k)];exact Xr
 have k:¬(l.length:Int)<a:=fun q=>k (Xd q);have e:¬(a<0∨(l.length:Int)<a):=fun q=>q.elim h k;rw[OA e];apply a6<;>intro d
 ·have d:=Xo d;rw[OB (by omega)];exact Xr
 ·have d:¬(4097:Int)<(l.length:Int):=fun q=>d (Xd q);rw[OA (by omega)];exact Xr
theorem Bh(n:Nat)(l:List Tokn)(a k:Int)(btw en:Str)(ho:l.length<=4097/\aO l/\0<=a/\a<=(l.length:Int)/\((l.length:Int)-a).toNat+1<n+1) :
  let A:=(0:Int);let B:=(↑(List.length l):Int);let C:=(1:Nat);let D:=(2:Nat);let E:=(0:Nat);let F:=cA l (ay l n);let G:=l=l;let H:=k=k;let I:=btw=btw;let J:=en=en;let K:=dT UInt8=dT UInt8;let L:=True;let M:=A=A/\K/\K/\A=A/\A=A/\L;let N:=([58]:Str);let O:=eL l (ay l n) a k btw en;let P:=List.length l<=(4097:Nat);let Q:=aO l;let R:=(16:Nat);let S:=(140737488355328:Nat);let T:=(88:Nat);let U:=(1:Int);let V:=A=O.2.2.err/\A=O.2.2.pos/\L;(∃(x:Nat×Nat×Int×Shape),(A<=x.2.2.1/\x.2.2.1<=B/\Int.toNat (B-x.2.2.1)+C<n+C/\B-x.2.2.1<(↑x.1:Int)/\x.2.1+x.1=List.length l+D/\List.length x.2.2.2.names=x.2.1/\List.length x.2.2.2.parts=x.2.1/\(x.2.1=E->x.2.2.1=a/\x.2.2.2={kind:=k,pkg:=[],name:=[],names:=[],parts:=[]:Shape})/\(E<x.2.1->aP l F btw en x.1 x.2.2.2 x.2.2.1=aw l F btw en {kind:=k,pkg:=[],name:=[],names:=[],parts:=[]:Shape} a))/\a=x.2.2.1/\A=(↑x.2.1:Int)/\G/\H/\I/\J/\k=x.2.2.2.kind/\[]=x.2.2.2.pkg/\[]=x.2.2.2.name/\x.2.2.2.names=[]/\x.2.2.2.parts=[]/\List.length x.2.2.2.names=E/\List.length x.2.2.2.parts=E/\M)/\∀(x:Nat×Nat×Int×Shape),let W:=A<=x.2.2.1;let X:=ag l x.2.2.1 x.2.2.2.names;let Y:=A<=X.2.1;let Z:=ad l X.2.1 N;let b:=x.2.2.2.kind=O.1.kind;let c:=x.2.2.2.pkg=O.1.pkg;let d:=x.2.2.2.name=O.1.name;let e:=x.2.2.2.names=O.1.names;let f:=x.2.2.2.parts=O.1.parts;let g:=ay l n Z.1;let h:=[X.1];let i:=List.length x.2.2.2.names=List.length x.2.2.2.names/\(List.length x.2.2.2.names+List.length h)*R<=S;let j:=List.length x.2.2.2.parts=List.length x.2.2.2.parts;let m:=[g.1];let o:=A<=g.2.1;let p:=x.2.2.2.names++h=O.1.names;let q:=x.2.2.2.parts++m=O.1.parts;let r:=ad l g.2.1 btw;let s:=(↑x.2.1:Int);let t:=inR IntKind.i64 (s+U);let u:=x.2.2.2.names++h;let v:=ay l n X.2.1;let w:=[v.1];let z:=A<=v.2.1;let A0:=x.2.2.2.parts++w=O.1.parts;let A1:=ad l v.2.1 btw;let A2:=W/\if decide (X.2.2.err=A)=true then Y/\if(!decide (Z.2.err=A))=true then L/\b/\c/\d/\e/\f/\Z.1=O.2.1/\Z.2=O.2.2/\L else(P/\Q/\A<=Z.1/\Z.1<=B/\Int.toNat (B-Z.1)+C<n)/\if(!decide (g.2.2.err=A))=true then L/\b/\c/\d/\e/\f/\g.2.1=O.2.1/\g.2.2=O.2.2/\L else i/\(j/\(List.length x.2.2.2.parts+List.length m)*T<=S)/\o/\if aG l g.2.1 en=true then inR IntKind.i64 (g.2.1+U)/\L/\b/\c/\d/\p/\q/\g.2.1+U=O.2.1/\V else o/\if(!decide (r.2.err=A))=true then L/\b/\c/\d/\p/\q/\r.1=O.2.1/\r.2=O.2.2/\L else t/\∃(y:Nat×Nat×Int×Shape),(A<=y.2.2.1/\y.2.2.1<=B/\Int.toNat (B-y.2.2.1)+C<n+C/\B-y.2.2.1<(↑y.1:Int)/\y.2.1+y.1=List.length l+D/\List.length y.2.2.2.names=y.2.1/\List.length y.2.2.2.parts=y.2.1/\(y.2.1=E->y.2.2.1=a/\y.2.2.2={kind:=k,pkg:=[],name:=[],names:=[],parts:=[]:Shape})/\(E<y.2.1->aP l F btw en y.1 y.2.2.2 y.2.2.1=aw l F btw en {kind:=k,pkg:=[],name:=[],names:=[],parts:=[]:Shape} a))/\y.1<x.1/\r.1=y.2.2.1/\s+U=(↑y.2.1:Int)/\G/\H/\I/\J/\x.2.2.2.kind=y.2.2.2.kind/\x.2.2.2.pkg=y.2.2.2.pkg/\x.2.2.2.name=y.2.2.2.name/\x.2.2.2.names++h=y.2.2.2.names/\x.2.2.2.parts++m=y.2.2.2.parts/\List.length u=List.length y.2.2.2.names/\List.length (x.2.2.2.parts++m)=List.length y.2.2.2.parts/\M else if(!decide (X.2.2.err=A))=true then L/\b/\c/\d/\e/\f/\X.2.1=O.2.1/\X.2.2=O.2.2/\L else(P/\Q/\Y/\X.2.1<=B/\Int.toNat (B-X.2.1)+C<n)/\if(!decide (v.2.2.err=A))=true then L/\b/\c/\d/\e/\f/\v.2.1=O.2.1/\v.2.2=O.2.2/\L else i/\(j/\(List.length x.2.2.2.parts+List.length w)*T<=S)/\z/\if aG l v.2.1 en=true then inR IntKind.i64 (v.2.1+U)/\L/\b/\c/\d/\p/\A0/\v.2.1+U=O.2.1/\V else z/\if(!decide (A1.2.err=A))=true then L/\b/\c/\d/\p/\A0/\A1.1=O.2.1/\A1.2=O.2.2/\L else t/\∃(y:Nat×Nat×Int×Shape),(A<=y.2.2.1/\y.2.2.1<=B/\Int.toNat (B-y.2.2.1)+C<n+C/\B-y.2.2.1<(↑y.1:Int)/\y.2.1+y.1=List.length l+D/\List.length y.2.2.2.names=y.2.1/\List.length y.2.2.2.parts=y.2.1/\(y.2.1=E->y.2.2.1=a/\y.2.2.2={kind:=k,pkg:=[],name:=[],names:=[],parts:=[]:Shape})/\(E<y.2.1->aP l F btw en y.1 y.2.2.2 y.2.2.1=aw l F btw en {kind:=k,pkg:=[],name:=[],names:=[],parts:=[]:Shape} a))/\y.1<x.1/\A1.1=y.2.2.1/\s+U=(↑y.2.1:Int)/\G/\H/\I/\J/\x.2.2.2.kind=y.2.2.2.kind/\x.2.2.2.pkg=y.2.2.2.pkg/\x.2.2.2.name=y.2.2.2.name/\x.2.2.2.names++h=y.2.2.2.names/\x.2.2.2.parts++w=y.2.2.2.parts/\List.length u=List.length y.2.2.2.names/\List.length (x.2.2.2.parts++w)=List.length y.2.2.2.parts/\M;W/\x.2.2.1<=B/\Int.toNat (B-x.2.2.1)+C<n+C/\B-x.2.2.1<(↑x.1:Int)/\x.2.1+x.1=List.length l+D/\List.length x.2.2.2.names=x.2.1/\List.length x.2.2.2.parts=x.2.1/\(x.2.1=E->x.2.2.1=a/\x.2.2.2={kind:=k,pkg:=[],name:=[],names:=[],parts:=[]:Shape})/\(E<x.2.1->aP l F btw en x.1 x.2.2.2 x.2.2.1=aw l F btw en {kind:=k,pkg:=[],name:=[],names:=[],parts:=[]:Shape} a)->W/\if(!aG l x.2.2.1 en)=true then A2 else if decide (A<s)=true then A2 else inR IntKind.i64 (x.2.2.1+U)/\L/\b/\c/\d/\e/\f/\x.2.2.1+U=O.2.1/\V:=by
 conv=>zeta
 obtain⟨g1,g2,h0,h1,hn⟩:=ho;have hG:eL l (ay l n) a k btw en=dM (aw l (cA l (ay l n)) btw en ⟨k,[],[],[],[]⟩ a):=rfl;have hY:=oQ (l:=l) (r:=cA l (ay l n)) (btw:=btw) (en:=en) (x:=⟨k,[],[],[],[]⟩) (a:=a);have hN:=uj (l:=l) (r:=cA l (ay l n)) (btw:=btw) (en:=en) (x:=⟨k,[],[],[],[]⟩) (a:=a);generalize aw l (cA l (ay l n)) btw en ⟨k,[],[],[],[]⟩ a=R0 at hG hY hN⊢;generalize eL l (ay l n) a k btw en=G at hG⊢;refine⟨⟨(l.length+2,0,a,⟨k,[],[],[],[]⟩),⟨h0,h1,hn,by show(l.length:Int)-a<((l.length+2:Nat):Int);omega,by show 0+(l.length+2)=_;omega,rfl,rfl,fun _=>⟨rfl,rfl⟩,fun h=>absurd h (Nat.lt_irrefl 0)⟩,?_⟩,?_⟩
 ·exact Xr
 rintro⟨j,m,A,X⟩ ⟨i1,i2,i3,i4,i5,i6,i7,i8,i9⟩;simp only at i1 i2 i3 i4 i5 i6 i7 i8 i9⊢;refine⟨i1,a6 (fun s=>?_) (fun s=>?_)⟩
 ·have s:¬aG l A en=true:=by simpa using s
  have hb:aP l (cA l (ay l n)) btw en j X A=R0:=by
   by_cases hm:m=0
   ·obtain⟨rfl,rfl⟩:=i8 hm;subst hm;rw[hN s,show j=l.length+2 by omega]
   ·exact i9 (by omega)
  obtain⟨j,rfl⟩:∃q,j=q+1:=⟨j-1,by omega⟩;refine⟨i1,a6 (fun f1=>?_) (fun f1=>?_)⟩
  ·have f1:=Xo f1;obtain⟨p1,p2⟩:=lC A X.names f1;refine⟨by omega,a6 (fun d1=>?_) (fun d1=>?_)⟩
   ·have d1:¬(ad l (ag l A X.names).2.1 [58]).2.err=0:=by simpa using d1
    have e1:=rn_2 (R:=ay l n) f1 d1;rw[fE (by rw[e1];exact d1),e1]at hb;rw[fa (b:=R0) (by rw[<-hb];exact d1)]at hG;subst hb;subst hG;exact Xr
   have d1:(ad l (ag l A X.names).2.1 [58]).2.err=0:=by simpa using d1
   obtain⟨q1,q2⟩:=bp d1;have hr:((l.length:Int)-(ad l (ag l A X.names).2.1 [58]).1).toNat+1<n:=by omega
   refine⟨⟨g1,g2,by omega,by omega,hr⟩,a6 (fun d2=>?_) (fun d2=>?_)⟩
   ·have d2:¬(ay l n (ad l (ag l A X.names).2.1 [58]).1).2.2.err=0:=by simpa using d2
    have e1:=rn_3 f1 d1 d2;rw[fE (by rw[e1];exact d2),e1]at hb;rw[fa (b:=R0) (by rw[<-hb];exact d2)]at hG;subst hb;subst hG;exact Xr
   have d2:(ay l n (ad l (ag l A X.names).2.1 [58]).1).2.2.err=0:=by simpa using d2
   obtain⟨s1,s2⟩:=pT g1 g2 n _ (by omega) (by omega) hr d2;have e1:=rn_4 f1 d1 d2;refine⟨⟨by trivial,by simp only[OD];omega⟩,⟨by trivial,by simp only[OD];omega⟩,by omega,a6 (fun c=>?_) (fun c=>?_)⟩
   ·rw[nA (by rw[e1]) (by rw[e1];exact c),e1]at hb;rw[kF (b:=R0) (by rw[<-hb])]at hG;subst hb;subst hG;refine⟨aj (by omega) (by omega),?_⟩;exact Xr
   refine⟨by omega,a6 (fun d3=>?_) (fun d3=>?_)⟩
   ·have d3:¬(ad l (ay l n (ad l (ag l A X.names).2.1 [58]).1).2.1 btw).2.err=0:=by simpa using d3
    rw[kD (by rw[e1]) (by rw[e1];exact c) (by rw[e1];exact d3),e1]at hb;rw[fa (b:=R0) (by rw[<-hb];exact d3)]at hG;subst hb;subst hG;exact Xr
   have d3:(ad l (ay l n (ad l (ag l A X.names).2.1 [58]).1).2.1 btw).2.err=0:=by simpa using d3
   obtain⟨w1,w2⟩:=bp d3;rw[kE (by rw[e1]) (by rw[e1];exact c) (by rw[e1];exact d3),e1]at hb;refine⟨aj (by omega) (by omega),(j,m+1,(ad l (ay l n (ad l (ag l A X.names).2.1 [58]).1).2.1 btw).1,⟨X.kind,X.pkg,X.name,X.names++[(ag l A X.names).1],X.parts++[(ay l n (ad l (ag l A X.names).2.1 [58]).1).1]⟩),⟨by show 0<=(ad l _ _).1;omega,by show(ad l _ _).1<=_;omega,by show((l.length:Int)-(ad l _ _).1).toNat+1<n+1;omega,by show(l.length:Int)-(ad l _ _).1<(j:Int);omega,by show m+1+j=_;omega,by show(X.names++[_]).length=_;rw[OE,i6];rfl,by show(X.parts++[_]).length=_;rw[OE,i7];rfl,fun q=>absurd q (Nat.succ_ne_zero m),fun _=>hb⟩,by show j<j+1;omega,rfl,by show(m:Int)+1=((m+1:Nat):Int);omega,?_⟩;exact Xr
  ·have f1:¬(ag l A X.names).2.2.err=0:=fun q=>f1 (Xd q);apply a6<;>intro d1
   ·have e1:=rn_1 (R:=ay l n) f1;rw[fE (by rw[e1];exact f1),e1]at hb;rw[fa (b:=R0) (by rw[<-hb];exact f1)]at hG;subst hb;subst hG;exact Xr
   ·exact absurd (by simpa using d1) f1
 ·have s:aG l A en=true:=by simpa using s
  apply a6<;>intro hm
  ·have hm:=Xo hm;have hb:=i9 (by omega);obtain⟨j,rfl⟩:∃q,j=q+1:=⟨j-1,by omega⟩;refine⟨i1,a6 (fun f1=>?_) (fun f1=>?_)⟩
   ·have f1:=Xo f1;obtain⟨p1,p2⟩:=lC A X.names f1;refine⟨by omega,a6 (fun d1=>?_) (fun d1=>?_)⟩
    ·have d1:¬(ad l (ag l A X.names).2.1 [58]).2.err=0:=by simpa using d1
     have e1:=rn_2 (R:=ay l n) f1 d1;rw[fE (by rw[e1];exact d1),e1]at hb;rw[fa (b:=R0) (by rw[<-hb];exact d1)]at hG;subst hb;subst hG;exact Xr
    have d1:(ad l (ag l A X.names).2.1 [58]).2.err=0:=by simpa using d1
    obtain⟨q1,q2⟩:=bp d1;have hr:((l.length:Int)-(ad l (ag l A X.names).2.1 [58]).1).toNat+1<n:=by omega
    refine⟨⟨g1,g2,by omega,by omega,hr⟩,a6 (fun d2=>?_) (fun d2=>?_)⟩
    ·have d2:¬(ay l n (ad l (ag l A X.names).2.1 [58]).1).2.2.err=0:=by simpa using d2
     have e1:=rn_3 f1 d1 d2;rw[fE (by rw[e1];exact d2),e1]at hb;rw[fa (b:=R0) (by rw[<-hb];exact d2)]at hG;subst hb;subst hG;exact Xr
    have d2:(ay l n (ad l (ag l A X.names).2.1 [58]).1).2.2.err=0:=by simpa using d2
    obtain⟨s1,s2⟩:=pT g1 g2 n _ (by omega) (by omega) hr d2;have e1:=rn_4 f1 d1 d2;refine⟨⟨by trivial,by simp only[OD];omega⟩,⟨by trivial,by simp only[OD];omega⟩,by omega,a6 (fun c=>?_) (fun c=>?_)⟩
    ·rw[nA (by rw[e1]) (by rw[e1];exact c),e1]at hb;rw[kF (b:=R0) (by rw[<-hb])]at hG;subst hb;subst hG;refine⟨aj (by omega) (by omega),?_⟩;exact Xr
    refine⟨by omega,a6 (fun d3=>?_) (fun d3=>?_)⟩
    ·have d3:¬(ad l (ay l n (ad l (ag l A X.names).2.1 [58]).1).2.1 btw).2.err=0:=by simpa using d3
     rw[kD (by rw[e1]) (by rw[e1];exact c) (by rw[e1];exact d3),e1]at hb;rw[fa (b:=R0) (by rw[<-hb];exact d3)]at hG;subst hb;subst hG;exact Xr
    have d3:(ad l (ay l n (ad l (ag l A X.names).2.1 [58]).1).2.1 btw).2.err=0:=by simpa using d3
    obtain⟨w1,w2⟩:=bp d3;rw[kE (by rw[e1]) (by rw[e1];exact c) (by rw[e1];exact d3),e1]at hb;refine⟨aj (by omega) (by omega),(j,m+1,(ad l (ay l n (ad l (ag l A X.names).2.1 [58]).1).2.1 btw).1,⟨X.kind,X.pkg,X.name,X.names++[(ag l A X.names).1],X.parts++[(ay l n (ad l (ag l A X.names).2.1 [58]).1).1]⟩),⟨by show 0<=(ad l _ _).1;omega,by show(ad l _ _).1<=_;omega,by show((l.length:Int)-(ad l _ _).1).toNat+1<n+1;omega,by show(l.length:Int)-(ad l _ _).1<(j:Int);omega,by show m+1+j=_;omega,by show(X.names++[_]).length=_;rw[OE,i6];rfl,by show(X.parts++[_]).length=_;rw[OE,i7];rfl,fun q=>absurd q (Nat.succ_ne_zero m),fun _=>hb⟩,by show j<j+1;omega,rfl,by show(m:Int)+1=((m+1:Nat):Int);omega,?_⟩;exact Xr
   ·have f1:¬(ag l A X.names).2.2.err=0:=fun q=>f1 (Xd q);apply a6<;>intro d1
    ·have e1:=rn_1 (R:=ay l n) f1;rw[fE (by rw[e1];exact f1),e1]at hb;rw[fa (b:=R0) (by rw[<-hb];exact f1)]at hG;subst hb;subst hG;exact Xr
    ·exact absurd (by simpa using d1) f1
  ·have hm:m=0:=by have:¬(0:Int)<(m:Int):=fun q=>hm (Xd q);omega
   obtain⟨rfl,rfl⟩:=i8 hm;rw[hY s,kF rfl]at hG;subst hG;have:=cg s;refine⟨aj (by omega) (by omega),?_⟩;exact Xr
theorem vj(n:Nat)(l:List Tokn)(a:Int)(ho:l.length<=4097/\aO l/\0<=a/\a<=(l.length:Int)/\((l.length:Int)-a).toNat+1<n) :
  let A:=(0:Int);let B:=(↑(List.length l):Int);let C:=(1:Nat);let D:=(2:Nat);let E:=cJ (ay l n);let F:=([44]:Str);let G:=([41]:Str);let H:=(0:Nat);let I:=dT UInt8=dT UInt8;let J:=True;let K:=A=A/\I/\I/\A=A/\A=A/\J;let L:=List.length l<=(4097:Nat);let M:=dv l (ay l n) a;let N:=M.1.names=[];let O:=(140737488355328:Nat);let P:=(1:Int);let Q:=([45,62]:Str);A<=a/\(∃(x:Nat×Int×Shape×Bool),(A<=x.2.1/\x.2.1<=B/\Int.toNat (B-x.2.1)+C<n/\B-x.2.1<(↑x.1:Int)/\List.length x.2.2.1.parts+x.1=List.length l+D/\x.2.2.1.names=[]/\(x.2.2.2=false->aw l E F G {kind:=(8:Int),pkg:=[],name:=[],names:=[],parts:=[]:Shape} a=(x.2.2.1,x.2.1,okF)/\x.2.1<B)/\(x.2.2.2=true->aP l E F G x.1 x.2.2.1 x.2.1=aw l E F G {kind:=(8:Int),pkg:=[],name:=[],names:=[],parts:=[]:Shape} a))/\a=x.2.1/\(!aG l a G)=x.2.2.2/\l=l/\(8:Int)=x.2.2.1.kind/\[]=x.2.2.1.pkg/\[]=x.2.2.1.name/\x.2.2.1.parts=[]/\List.length x.2.2.1.parts=H/\K)/\∀(x:Nat×Int×Shape×Bool),let R:=A<=x.2.1;let S:=x.2.1<=B;let T:=Int.toNat (B-x.2.1)+C<n;let U:=ay l n x.2.1;let V:=x.2.2.1.kind=M.1.kind;let W:=x.2.2.1.pkg=M.1.pkg;let X:=x.2.2.1.name=M.1.name;let Y:=x.2.2.1.parts=M.1.parts;let Z:=List.length x.2.2.1.parts=List.length x.2.2.1.parts;let b:=[U.1];let c:=A<=U.2.1;let d:=!aG l U.2.1 G;let e:=ad l U.2.1 F;let f:=if x.2.2.2=true then C else H;let g:=x.2.2.1.parts++b;let h:=x.2.1+P;let i:=ad l h Q;let j:=ay l n i.1;R/\S/\T/\B-x.2.1<(↑x.1:Int)/\List.length x.2.2.1.parts+x.1=List.length l+D/\x.2.2.1.names=[]/\(x.2.2.2=false->aw l E F G {kind:=(8:Int),pkg:=[],name:=[],names:=[],parts:=[]:Shape} a=(x.2.2.1,x.2.1,okF)/\x.2.1<B)/\(x.2.2.2=true->aP l E F G x.1 x.2.2.1 x.2.1=aw l E F G {kind:=(8:Int),pkg:=[],name:=[],names:=[],parts:=[]:Shape} a)->if x.2.2.2=true then(L/\aO l/\R/\S/\T)/\if(!decide (U.2.2.err=A))=true then J/\V/\W/\X/\N/\Y/\U.2.1=M.2.1/\U.2.2=M.2.2/\J else(Z/\(List.length x.2.2.1.parts+List.length b)*(88:Nat)<=O)/\c/\if d=true then c/\if(!decide (e.2.err=A))=true then J/\V/\W/\X/\N/\x.2.2.1.parts++b=M.1.parts/\e.1=M.2.1/\e.2=M.2.2/\J else ∃(y:Nat×Int×Shape×Bool),(A<=y.2.1/\y.2.1<=B/\Int.toNat (B-y.2.1)+C<n/\B-y.2.1<(↑y.1:Int)/\List.length y.2.2.1.parts+y.1=List.length l+D/\y.2.2.1.names=[]/\(y.2.2.2=false->aw l E F G {kind:=(8:Int),pkg:=[],name:=[],names:=[],parts:=[]:Shape} a=(y.2.2.1,y.2.1,okF)/\y.2.1<B)/\(y.2.2.2=true->aP l E F G y.1 y.2.2.1 y.2.1=aw l E F G {kind:=(8:Int),pkg:=[],name:=[],names:=[],parts:=[]:Shape} a))/\((y.1+if y.2.2.2=true then C else H)<x.1+f)/\e.1=y.2.1/\d=y.2.2.2/\l=l/\x.2.2.1.kind=y.2.2.1.kind/\x.2.2.1.pkg=y.2.2.1.pkg/\x.2.2.1.name=y.2.2.1.name/\x.2.2.1.parts++b=y.2.2.1.parts/\List.length g=List.length y.2.2.1.parts/\K else ∃(y:Nat×Int×Shape×Bool),(A<=y.2.1/\y.2.1<=B/\Int.toNat (B-y.2.1)+C<n/\B-y.2.1<(↑y.1:Int)/\List.length y.2.2.1.parts+y.1=List.length l+D/\y.2.2.1.names=[]/\(y.2.2.2=false->aw l E F G {kind:=(8:Int),pkg:=[],name:=[],names:=[],parts:=[]:Shape} a=(y.2.2.1,y.2.1,okF)/\y.2.1<B)/\(y.2.2.2=true->aP l E F G y.1 y.2.2.1 y.2.1=aw l E F G {kind:=(8:Int),pkg:=[],name:=[],names:=[],parts:=[]:Shape} a))/\((y.1+if y.2.2.2=true then C else H)<x.1+f)/\U.2.1=y.2.1/\d=y.2.2.2/\l=l/\x.2.2.1.kind=y.2.2.1.kind/\x.2.2.1.pkg=y.2.2.1.pkg/\x.2.2.1.name=y.2.2.1.name/\x.2.2.1.parts++b=y.2.2.1.parts/\List.length g=List.length y.2.2.1.parts/\K else inR IntKind.i64 h/\A<=x.2.1+P/\if(!decide (i.2.err=A))=true then J/\V/\W/\X/\N/\Y/\i.1=M.2.1/\i.2=M.2.2/\J else(L/\aO l/\A<=i.1/\i.1<=B/\Int.toNat (B-i.1)+C<n)/\(Z/\(List.length x.2.2.1.parts+List.length [j.1])*(88:Nat)<=O)/\J/\V/\W/\X/\N/\x.2.2.1.parts++[j.1]=M.1.parts/\j.2.1=M.2.1/\j.2.2=M.2.2/\J:=by
 conv=>zeta
 obtain⟨g1,g2,h0,h1,hn⟩:=ho;have hG:dv l (ay l n) a=if(cn l [45,62] (dM (aw l (cJ (ay l n)) [44] [41] ⟨8,[],[],[],[]⟩ a))).2.2.err=0 then(Ba (cn l [45,62] (dM (aw l (cJ (ay l n)) [44] [41] ⟨8,[],[],[],[]⟩ a))).1 (ay l n (cn l [45,62] (dM (aw l (cJ (ay l n)) [44] [41] ⟨8,[],[],[],[]⟩ a))).2.1).1,(ay l n (cn l [45,62] (dM (aw l (cJ (ay l n)) [44] [41] ⟨8,[],[],[],[]⟩ a))).2.1).2.1,(ay l n (cn l [45,62] (dM (aw l (cJ (ay l n)) [44] [41] ⟨8,[],[],[],[]⟩ a))).2.1).2.2)else cn l [45,62] (dM (aw l (cJ (ay l n)) [44] [41] ⟨8,[],[],[],[]⟩ a)):=rfl
 have hY:=oQ (l:=l) (r:=cJ (ay l n)) (btw:=[44]) (en:=[41]) (x:=⟨8,[],[],[],[]⟩) (a:=a);have hN:=uj (l:=l) (r:=cJ (ay l n)) (btw:=[44]) (en:=[41]) (x:=⟨8,[],[],[],[]⟩) (a:=a);generalize aw l (cJ (ay l n)) [44] [41] ⟨8,[],[],[],[]⟩ a=R0 at hG hY hN⊢;generalize dv l (ay l n) a=G at hG⊢;have hbad:∀{q:SR3},q=R0->¬q.2.2.err=0->G=q:=fun e hz=>by subst e;rw[fa hz,gO hz,OA hz]at hG;exact hG
 refine⟨h0,⟨(l.length+2,a,⟨8,[],[],[],[]⟩,!aG l a [41]),⟨h0,h1,hn,by show(l.length:Int)-a<((l.length+2:Nat):Int);omega,by show 0+(l.length+2)=_;omega,rfl,fun h=>?_,fun h=>(hN (by simpa using h)).symm⟩,?_⟩,?_⟩
 ·have h:aG l a [41]=true:=by simpa using h
  exact⟨hY h,cg h⟩
 ·exact Xr
 rintro⟨j,A,X,more⟩ ⟨i1,i2,i3,i4,i5,i6,i7,i8⟩;simp only at i1 i2 i3 i4 i5 i6 i7 i8⊢;apply a6<;>intro hm
 ·have hb:=i8 hm;obtain⟨j,rfl⟩:∃q,j=q+1:=⟨j-1,by omega⟩;refine⟨⟨g1,g2,i1,i2,i3⟩,a6 (fun d=>?_) (fun d=>?_)⟩
  ·have d:¬(ay l n A).2.2.err=0:=by simpa using d
   have e1:=rp_1 (x:=X) d;rw[fE (by rw[e1];exact d),e1]at hb;have hG:=hbad hb d;subst hG;exact Xr
  have d:(ay l n A).2.2.err=0:=by simpa using d
  obtain⟨s1,s2⟩:=pT g1 g2 n A i1 i2 i3 d;have e1:=rp_2 (x:=X) d;have hlen:(X.parts++[(ay l n A).1]).length+j=l.length+2:=by rw[OE,OD];omega
  refine⟨⟨by trivial,by simp only[OD];omega⟩,by omega,a6 (fun c=>?_) (fun c=>?_)⟩
  ·have c':¬aG l (ay l n A).2.1 [41]=true:=by simpa using c
   refine⟨by omega,a6 (fun d3=>?_) (fun d3=>?_)⟩
   ·have d3:¬(ad l (ay l n A).2.1 [44]).2.err=0:=by simpa using d3
    rw[kD (by rw[e1]) (by rw[e1];exact c') (by rw[e1];exact d3),e1]at hb;have hG:=hbad hb d3;subst hG;exact Xr
   ·have d3:(ad l (ay l n A).2.1 [44]).2.err=0:=by simpa using d3
    obtain⟨w1,w2⟩:=bp d3;rw[kE (by rw[e1]) (by rw[e1];exact c') (by rw[e1];exact d3),e1]at hb;refine⟨(j,(ad l (ay l n A).2.1 [44]).1,Ba X (ay l n A).1,!aG l (ay l n A).2.1 [41]),⟨by show 0<=(ad l _ _).1;omega,by show(ad l _ _).1<=_;omega,by show((l.length:Int)-(ad l _ _).1).toNat+1<n;omega,by show(l.length:Int)-(ad l _ _).1<(j:Int);omega,hlen,i6,fun h=>(by have h:=c.symm.trans h;cases h),fun _=>hb⟩,?_,rfl,rfl,?_⟩
    ·show(j+if(!aG l (ay l n A).2.1 [41])=true then 1 else 0)<j+1+if more=true then 1 else 0
     rw[OB hm];split<;>omega
    ·exact Xr
  ·have c:aG l (ay l n A).2.1 [41]=true:=by simpa using c
   rw[nA (by rw[e1]) (by rw[e1];exact c),e1]at hb;have hlt:=cg c;refine⟨(j,(ay l n A).2.1,Ba X (ay l n A).1,!aG l (ay l n A).2.1 [41]),⟨by show 0<=(ay l n A).2.1;omega,s2,by show((l.length:Int)-(ay l n A).2.1).toNat+1<n;omega,by show(l.length:Int)-(ay l n A).2.1<(j:Int);omega,hlen,i6,fun _=>⟨hb.symm,hlt⟩,fun h=>(by rw[c]at h;cases h)⟩,?_,rfl,rfl,?_⟩
   ·show(j+if(!aG l (ay l n A).2.1 [41])=true then 1 else 0)<j+1+if more=true then 1 else 0
    rw[OB hm];split<;>omega
   ·exact Xr
 ·obtain⟨hR,hA⟩:=i7 (by simpa using hm);rw[hR,kF (b:=(X,A,okF)) rfl,il (b:=(X,A+1,okF)) rfl]at hG;refine⟨aj (by omega) (by omega),by omega,a6 (fun d=>?_) (fun d=>?_)⟩
  ·have d:¬(ad l (A+1) [45,62]).2.err=0:=by simpa using d
   rw[OA d]at hG;subst hG;exact Xr
  ·have d:(ad l (A+1) [45,62]).2.err=0:=by simpa using d
   obtain⟨w1,w2⟩:=bp d;rw[OB d]at hG;subst hG;refine⟨⟨g1,g2,by omega,by omega,by omega⟩,⟨by trivial,by simp only[OD];omega⟩,?_⟩;exact Xr
theorem DW(n:Nat)(l:List Tokn)(a:Int)(ho:l.length<=4097/\aO l/\0<=a/\a<=(l.length:Int)/\((l.length:Int)-a).toNat+1<n+1) :
  let A:=(0:Int);let B:=A<=a;let C:=az l a;let D:=(2:Int);let E:=(1:Int);let F:=a+E;let G:=inR IntKind.i64 F;let H:=True;let I:=(1:Nat);let J:=ay l (n+I) a;let K:=A<=a+E;let L:=(ad l F ([47]:Str));let M:=A=J.1.kind;let N:=[]=J.1.pkg;let O:=[]=J.1.name;let P:=J.1.names=[];let Q:=J.1.parts=[];let R:=aL l L.1 D;let S:=List.length l<=(4097:Nat);let T:=(↑(List.length l):Int);let U:=S/\aO l/\K/\a+E<=T/\Int.toNat (T-F)+I<n;let V:=ay l n F;let W:=(5:Int)=J.1.kind;let X:=[V.1]=J.1.parts;let Y:=(ad l V.2.1 ([93]:Str));let Z:=S/\aO l/\K/\a+E<=T/\Int.toNat (T-F)+I<n+I;let b:=ay l n;let c:=(eL l b F (6:Int) ([44]:Str) ([125]:Str));let d:=(eL l b F (7:Int) ([124]:Str) ([62]:Str));let e:=dv l b F;B/\if decide (C.kind=D)=true then G/\H/\fW [] C.text=J.1/\a+E=J.2.1/\A=J.2.2.err/\A=J.2.2.pos/\H else if decide (C.kind=E)=true then G/\K/\if(!decide (L.2.err=A))=true then H/\M/\N/\O/\P/\Q/\L.1=J.2.1/\L.2=J.2.2/\H else(A<=L.1/\¬D=A)/\H/\fW C.text R.1=J.1/\R.2.1=J.2.1/\R.2.2=J.2.2/\H else B/\if aG l a ([91]:Str)=true then G/\U/\if decide (V.2.2.err=A)=true then A<=V.2.1/\H/\W/\N/\O/\P/\X/\Y.1=J.2.1/\Y.2=J.2.2/\H else H/\W/\N/\O/\P/\X/\V.2.1=J.2.1/\V.2.2=J.2.2/\H else B/\if aG l a ([123]:Str)=true then G/\Z/\H/\c.1=J.1/\c.2.1=J.2.1/\c.2.2=J.2.2/\H else B/\if aG l a ([60]:Str)=true then G/\Z/\H/\d.1=J.1/\d.2.1=J.2.1/\d.2.2=J.2.2/\H else B/\if aG l a ([40]:Str)=true then G/\U/\H/\e.1=J.1/\e.2.1=J.2.1/\e.2.2=J.2.2/\H else B/\H/\M/\N/\O/\P/\Q/\a=J.2.1/\jc l a=J.2.2/\H:=by
 conv=>zeta
 obtain⟨g1,g2,h0,h1,hn⟩:=ho;have hG:ay l (n+1) a=mc l (ay l n) a:=rfl;have ln:(l.length:Int)<=4097:=by omega
 generalize ay l (n+1) a=G at hG⊢;unfold mc at hG;dsimp only at hG;refine⟨h0,a6 (fun c=>?_) (fun c=>?_)⟩
 ·have c:=Xo c;rw[OB c]at hG;subst hG;refine⟨aj (by omega) (by omega),?_⟩;exact Xr
 have c:¬(az l a).kind=2:=fun q=>c (Xd q);rw[OA c]at hG;apply a6<;>intro c
 ·have c:=Xo c;rw[OB c]at hG;refine⟨aj (by omega) (by omega),by omega,a6 (fun d=>?_) (fun d=>?_)⟩
  ·have d:¬(ad l (a+1) [47]).2.err=0:=by simpa using d
   rw[OA d]at hG;subst hG;exact Xr
  ·have d:(ad l (a+1) [47]).2.err=0:=by simpa using d
   obtain⟨w1,w2⟩:=bp d;rw[OB d]at hG;subst hG;refine⟨⟨by omega,by decide⟩,?_⟩;exact Xr
 have c:¬(az l a).kind=1:=fun q=>c (Xd q);rw[OA c]at hG;refine⟨h0,a6 (fun c=>?_) (fun c=>?_)⟩
 ·rw[OB c]at hG;have hlt:=cg c;refine⟨aj (by omega) (by omega),⟨g1,g2,by omega,by omega,by omega⟩,a6 (fun d=>?_) (fun d=>?_)⟩
  ·have d:=Xo d;obtain⟨s1,s2⟩:=pT g1 g2 n (a+1) (by omega) (by omega) (by omega) d;rw[il (b:=ay l n (a+1)) d]at hG;subst hG;refine⟨by omega,?_⟩;exact Xr
  ·have d:¬(ay l n (a+1)).2.2.err=0:=fun q=>d (Xd q);rw[gO (b:=ay l n (a+1)) d]at hG;subst hG;exact Xr
 rw[OA c]at hG;refine⟨h0,a6 (fun c=>?_) (fun c=>?_)⟩
 ·rw[OB c]at hG;have hlt:=cg c;subst hG;refine⟨aj (by omega) (by omega),⟨g1,g2,by omega,by omega,by omega⟩,?_⟩;exact Xr
 rw[OA c]at hG;refine⟨h0,a6 (fun c=>?_) (fun c=>?_)⟩
 ·rw[OB c]at hG;have hlt:=cg c;subst hG;refine⟨aj (by omega) (by omega),⟨g1,g2,by omega,by omega,by omega⟩,?_⟩;exact Xr
 rw[OA c]at hG;refine⟨h0,a6 (fun c=>?_) (fun c=>?_)⟩
 ·rw[OB c]at hG;have hlt:=cg c;subst hG;refine⟨aj (by omega) (by omega),⟨g1,g2,by omega,by omega,by omega⟩,?_⟩;exact Xr
 rw[OA c]at hG;subst hG;refine⟨h0,?_⟩;exact Xr
theorem DX(l:List Tokn)(a:Int)(ho:l.length<=4097/\aO l/\0<=a/\a<=(l.length:Int)) :
  let A:=(0:Int);let B:=(↑(List.length l):Int);let C:=ay l big a;let D:=dk l a;let E:=C.2.1=D.2.1;let F:=True/\C.1=D.1/\E/\C.2.2=D.2.2/\True;(List.length l<=(4097:Nat)/\aO l/\A<=a/\a<=B/\Int.toNat (B-a)+(1:Nat)<big)/\if decide (C.2.2.err=A)=true then if(!decide (bD C.1=A))=true then A<=a/\True/\C.1=D.1/\E/\bD C.1=D.2.2.err/\(az l a).pos=D.2.2.pos/\True else F else F:=by
 conv=>zeta
 obtain⟨g1,g2,h0,h1⟩:=ho;have hG:dk l a=((ay l big a).1,(ay l big a).2.1,if(ay l big a).2.2.err=0/\¬bD (ay l big a).1=0 then⟨bD (ay l big a).1,(az l a).pos⟩else(ay l big a).2.2):=rfl;rw[hG];refine⟨⟨g1,g2,h0,h1,by unfold big;omega⟩,a6 (fun e=>?_) (fun e=>?_)⟩
 ·have e:=Xo e;apply a6<;>intro c
  ·have c:¬bD (ay l big a).1=0:=by simpa using c
   simp only[OB (show(ay l big a).2.2.err=0/\¬bD (ay l big a).1=0 from⟨e,c⟩)];refine⟨h0,?_⟩;exact Xr
  ·have c:bD (ay l big a).1=0:=by simpa using c
   simp only[OA (show ¬((ay l big a).2.2.err=0/\¬bD (ay l big a).1=0)from fun q=>q.2 c)];exact Xr
 ·have e:¬(ay l big a).2.2.err=0:=fun q=>e (Xd q);simp only[OA (show ¬((ay l big a).2.2.err=0/\¬bD (ay l big a).1=0)from fun q=>e q.1)];exact Xr
end Go.AL.Seat
end
section
open Go Go.AL Go.Proofs Go.Shelf Go.Pd
namespace Go.AL.Seat
open Go.Proofs.Tryz
variable [Tabs]
variable [SeatLaid]
theorem Fv:aA prog 112:=ee func112
theorem DY(n:Nat)(s:AL.Shape)(m:Int)(hs:Wf (.st .shape) s)(ho:sz s<=n+1/\0<=m/\m<=1000000)(hA:ab prog 112 (p2 (.st .shape) (.int .i64) fun s m=>⟨some (sz s<=n/\0<=m/\m<=1000000),none,.int .i64 (sizeF s m),[]⟩)):aB prog 112 [.st .shape s,.int .i64 m] [] (.ret (.int .i64 (sizeF s m))):=
 g0 (sc (hA) sn) ⟨[(3,fun S0=>⟨Nat×Int,fun x=>x.1<=s.parts.length/\1<=x.2/\x.2<=m+1/\sizeL (s.parts.drop x.1) x.2 m=sizeF s m,fun x=>[(5,.int .i64 x.2),(6,.int .i64 x.1)],fun _=>[],fun x=>s.parts.length-x.1⟩)],[],[]⟩ func112 (MS n s m hs ho)
theorem L5:∀n:Nat,ab prog 112 (p2 (.st .shape) (.int .i64) fun s m=>⟨some (sz s<=n/\0<=m/\m<=1000000),none,.int .i64 (sizeF s m),[]⟩):=by
 intro n
 induction n with
 |zero=>exact dB Fv fun a m _ _ ho=>absurd (ho _ rfl).1 (by have:=jV a;omega)
 |succ n ih=>exact dB Fv fun a m ha _ ho=>DY n a m ha (ho _ rfl) ih
theorem oR:ab prog 139 (p1 (.int .u8) fun c=>.ret (.bool (bV c))):=
 b7 (ee func139) fun c _ _=>g0 sn a0 func139 (HB c)
theorem oS:ab prog 140 (p1 (.int .u8) fun c=>.ret (.bool (cb c))):=
 b7 (ee func140) fun c _ _=>g0 sn a0 func140 (HC c)
theorem oT:ab prog 145 (p1 (.int .u8) fun c=>.ret (.bool (aY c))):=
 b7 (ee func145) fun c _ _=>g0 sn a0 func145 (HD c)
theorem qL:ab prog 141 (p1 .str fun s=>.ret (.int .i64 (dq s:Int))):=
 b7 (ee func141) fun s hs _=>g0 (sc oR (sc oS (sc oT sn))) ⟨[(2,fun S0=>⟨Nat,fun k=>k<=s.length/\dq s=k+dq (s.drop k),fun k=>[(3,.int .i64 k)],fun _=>[],fun k=>s.length-k⟩)],[],[]⟩ func141 (KP s hs)
theorem wy:ab prog 198 (p2 .str (.lst .str) fun s l=>.ret (.bool (decide (s∈l)))):=
 dB (ee func198) fun s l _ hl _=>g0 sn ⟨[(2,fun S0=>⟨Nat,fun k=>k<=l.length/\decide (s∈l)=decide (s∈l.drop k),fun k=>[(5,.int .i64 k)],fun _=>[],fun k=>l.length-k⟩)],[],[]⟩ func198 (KQ s l hl)
theorem wA:ab prog 142 (p1 .str fun s=>.ret (.bool (l9 s))):=
 b7 (ee func142) fun s _ _=>g0 (sc wy sn) a0 func142 (KR s)
theorem lD:ab prog 143 (p1 .str fun s=>.ret (.bool (aX s))):=
 b7 (ee func143) fun s _ _=>g0 (sc oR (sc qL (sc wA sn))) a0 func143 (KS s)
theorem oU:ab prog 144 (p1 .str fun s=>.ret (.bool (dH s))):=
 b7 (ee func144) fun s _ _=>g0 (sc oS (sc qL sn)) a0 func144 (HE s)
theorem DZ:ab prog 206 (p2 (.lst .str) (.int .i64) fun ns n=>.ret (.bool (jx ns n))):=
 dB (ee func206) fun ns n hl _ _=>g0 (sc lD sn) ⟨[(2,fun S0=>⟨Nat,fun k=>k<=ns.length/\(ns.take k).all aX=true/\(ns.take k).Nodup,fun k=>[(5,.int .i64 k)],fun _=>[],fun k=>ns.length-k⟩),(7,fun S0=>IK S0 5 fun k0=>⟨Nat,fun j=>(j:Int)<=k0/\(ns.getD k0.toNat (dfl .str))∉ns.take j,fun j=>[(6,.int .i64 j)],fun _=>[],fun j=>k0.toNat-j⟩)],[],[]⟩ func206 (HF ns n hl)
theorem HN:ab prog 162 (p1 (.st .shape) fun s=>.ret (.bool (bK s))):=
 b7 (ee func162) fun s hs _=>g0 (sc DZ (sc oU (sc lD sn))) a0 func162 (KT s hs)
theorem Bi:aA prog 114:=ee func114
theorem Bj(n:Nat)(s:AL.Shape)(hs:Wf (.st .shape) s)(hn:sz s<=n+1)(hA:ab prog 114 (p1 (.st .shape) fun s=>⟨some (sz s<=n),none,.bool (allS bK s),[]⟩)):aB prog 114 [.st .shape s] [] (.ret (.bool (allS bK s))):=
 g0 (sc HN (sc (hA) sn)) ⟨[(4,fun S0=>⟨Nat,fun k=>k<=s.parts.length/\allS bK s=allL bK (s.parts.drop k),fun k=>[(3,.int .i64 k)],fun _=>[],fun k=>s.parts.length-k⟩)],[],[]⟩ func114 (KU n s hs hn)
theorem HO:∀n:Nat,ab prog 114 (p1 (.st .shape) fun s=>⟨some (sz s<=n),none,.bool (allS bK s),[]⟩):=by
 intro n
 induction n with
 |zero=>exact b7 Bi fun a _ ho=>absurd (ho _ rfl) (by have:=jV a;omega)
 |succ n ih=>exact b7 Bi fun a hs ho=>Bj n a hs (ho _ rfl) ih
theorem Fw:aA prog 113:=ee func113
theorem E0(n:Nat)(s:AL.Shape)(hs:Wf (.st .shape) s)(hn:sz s<=n+1)(hb:n<=1000000)(hA:ab prog 113 (p1 (.st .shape) fun s=>⟨some (sz s<=n),none,.int .i64 (deepF s:Int),[]⟩)):aB prog 113 [.st .shape s] [] (.ret (.int .i64 (deepF s:Int))):=
 g0 (sc (hA) sn) ⟨[(3,fun S0=>⟨Nat×Int,fun x=>x.1<=s.parts.length/\0<=x.2/\max x.2 (maxDeep (s.parts.drop x.1):Int)=maxDeep s.parts,fun x=>[(3,.int .i64 x.2),(4,.int .i64 x.1)],fun _=>[],fun x=>s.parts.length-x.1⟩)],[],[]⟩ func113 (MT n s hs hn hb)
theorem L6:∀n:Nat,n<=1000000->ab prog 113 (p1 (.st .shape) fun s=>⟨some (sz s<=n),none,.int .i64 (deepF s:Int),[]⟩):=by
 intro n
 induction n with
 |zero=>exact fun _=>b7 Fw fun a _ ho=>absurd (ho _ rfl) (by have:=jV a;omega)
 |succ n ih=>exact fun hb=>b7 Fw fun a hs ho=>E0 n a hs (ho _ rfl) (by omega) (ih (by omega))
theorem um:ab prog 55 (p1 (.st .shape) fun s=>.ret (.int .i64 (bD s))):=
 b7 (ee func55) fun s hs _=>g0 (sc (L5 (sz s)) (sc (L6 400 (by decide)) (sc (HO 400) sn))) a0 func55 (HG s hs)
theorem wB:aA prog 14:=ee func14
theorem ym(n:Nat)(a b:Shape)(ha:Wf (.st .shape) a)(hb:Wf (.st .shape) b)(hn:sz a<=n+1)(hA:ab prog 14 (p2 (.st .shape) (.st .shape) fun a b=>⟨some (sz a<=n),none,.bool (eqS a b),[]⟩)):aB prog 14 [.st .shape a,.st .shape b] [] (.ret (.bool (eqS a b))):=
 g0 (sc (hA) sn) ⟨[(4,fun S0=>⟨Nat,fun k=>k<=a.names.length/\a.names.length=b.names.length/\a.parts.length=b.parts.length/\eqS a b=(decide (a.names.drop k=b.names.drop k)&&eqL a.parts b.parts),fun k=>[(5,.int .i64 k)],fun _=>[],fun k=>a.names.length-k⟩),(9,fun S0=>⟨Nat,fun k=>k<=a.parts.length/\a.parts.length=b.parts.length/\eqS a b=eqL (a.parts.drop k) (b.parts.drop k),fun k=>[(6,.int .i64 k)],fun _=>[],fun k=>a.parts.length-k⟩)],[],[]⟩ func14 (HH n a b ha hb hn)
theorem E1:∀n:Nat,ab prog 14 (p2 (.st .shape) (.st .shape) fun a b=>⟨some (sz a<=n),none,.bool (eqS a b),[]⟩):=by
 intro n
 induction n with
 |zero=>exact dB wB fun a b _ _ ho=>absurd (ho _ rfl) (by have:=jV a;omega)
 |succ n ih=>exact dB wB fun a b ha hb ho=>ym n a b ha hb (ho _ rfl) ih
theorem yn:ab prog 270 (p1 .str fun s=>.ret (.bool (cq s))):=
 b7 (ee func270) fun s hs _=>g0 sn ⟨[(2,fun S0=>⟨Nat,fun k=>k<=s.length/\(s.all fun c=>aY (bI c))=(s.drop k).all fun c=>aY (bI c),fun k=>[(3,.int .i64 k)],fun _=>[],fun k=>s.length-k⟩)],[],[]⟩ func270 (Bf s hs)
theorem E2:ab prog 252 (p1 .str fun s=>.ret (.bool (dn s))):=
 b7 (ee func252) fun s hs _=>g0 (sc yn sn) ⟨[(2,fun S0=>⟨Nat,fun k=>k<=s.length/\(s.all fun c=>gj (bI c))=(s.drop k).all fun c=>gj (bI c),fun k=>[(3,.int .i64 k)],fun _=>[],fun k=>s.length-k⟩)],[],[]⟩ func252 (HI s hs)
theorem yo:ab prog 227 (p1 (.int .i64) fun n=>⟨some (0<=n/\n<=999999),none,.str (ct n),[]⟩):=
 b7 (ee func227) fun n _ ho=>g0 sn ⟨[(3,fun S0=>⟨Nat×Nat×Str,fun y=>y.1<=20/\y.2.1<10 ^ y.1/\y.2.1<=999999/\y.2.2.length<=21-y.1/\ct n=oK y.1 y.2.1 y.2.2,fun y=>[(0,.int .i64 y.2.1),(4,.str y.2.2)],fun _=>[],fun y=>y.1⟩)],[],[]⟩ func227 (Bg n (ho _ rfl))
theorem Bk:ab prog 226 (p1 (.st .version) fun v=>.ret (.int .i64 (bW v))):=
 b7 (ee func226) fun v hv _=>g0 (sc (DI) (sc E2 sn)) ⟨[(7,fun S0=>⟨Nat,fun k=>k<=(splitB 46 v.pre).length/\(splitB 46 v.pre).all dn=((splitB 46 v.pre).drop k).all dn,fun k=>[(4,.int .i64 k)],fun _=>[],fun k=>(splitB 46 v.pre).length-k⟩)],[],[]⟩ func226 (DQ v hv)
theorem E3:ab prog 199 (p1 (.st .version) fun v=>.ret (.tup [.str (dL v).1,.int .i64 (dL v).2])):=
 b7 (ee func199) fun v hv _=>g0 (sc Bk (sc yo sn)) a0 func199 (HJ v hv)
theorem Bl:ab prog 146 Oz:=
 b7 (ee func146) fun s _ ho=>g1 nn (fun _=>[]) nn (fun d=>Nat.beq d 14) nn (sc E3 sn) ⟨[(6,fun S0=>⟨Nat×Nat×Nat×List Int,fun y=>y.2.1<=s.length/\s.length<y.2.1+y.1/\y.2.2.1<=2/\y.2.2.2.length=3/\(∀k,k<3->0<=y.2.2.2.getD k 0/\y.2.2.2.getD k 0<=99999999)/\fG s=ib s (rvL s y.1 y.2.1 y.2.2.1 y.2.2.2),fun y=>[(6,.int .i64 y.2.1),(5,.int .i64 y.2.2.1)],fun y=>[(14,.box (.row (.int .i64) y.2.2.2))],fun y=>y.1⟩)],[],[]⟩ func146 (DR s (ho _ rfl))
theorem HP:ab prog 196 (p1 (.int .i64) fun p=>.ret (.bool (fX p))):=
 b7 (ee func196) fun p _ _=>g0 sn a0 func196 (KV p)
theorem HQ:ab prog 197 (p1 (.int .i64) fun p=>⟨some (0<=p/\p<=1114111),none,.str (ez p),[]⟩):=
 b7 (ee func197) fun p _ ho=>g0 sn a0 func197 (KW p (ho _ rfl))
theorem qM:ab prog 138 (p1 .str fun s=>.ret (.tup [.int .i64 (hZ s).1,.int .i64 (hZ s).2])):=
 b7 (ee func138) fun s hs _=>g0 (sc HP (sc HQ sn)) ⟨[(16,fun S0=>⟨Nat,fun k=>1<=k/\k<=dm s/\(k=1->-300<=bf s k/\bf s k<=300)/\(k=2->-20000<=bf s k/\bf s k<=20000)/\(k=3->-1300000<=bf s k/\bf s k<=1300000)/\(k=4->-90000000<=bf s k/\bf s k<=90000000),fun k=>[(6,.int .i64 k),(5,.int .i64 (bf s k))],fun _=>[],fun k=>dm s-k⟩)],[],[(100013,fun S0=>⟨[(4,.int .i64 (dm s:Int)),(5,.int .i64 (iu s))],[]⟩)]⟩ func138 (KX s hs)
theorem Bm:ab prog 85 (p1 .str fun s=>⟨some (s.length<=4096),none,.tup [.int .i64 (cw s).1,.st .fault (cw s).2],[]⟩):=
 b7 (ee func85) fun s _ ho=>g0 (sc qM sn) ⟨[(2,fun S0=>⟨Nat,fun k=>k<=s.length/\aq bm s 0=k+aq bm s (k:Int),fun k=>[(4,.int .i64 k)],fun _=>[],fun k=>s.length-k⟩),(6,fun S0=>⟨Nat×Nat,fun y=>y.1<=s.length/\s.length<y.1+y.2/\cw s=nk s y.2 y.1,fun y=>[(4,.int .i64 y.1)],fun _=>[],fun y=>y.2⟩)],[],[(4,fun S0=>⟨[(54,.bool (decide (s.length<=aq bm s 0+1∨bI (s.getD (aq bm s 0) 0)≠45∨bI (s.getD (aq bm s 0+1) 0)≠45))),(4,.int .i64 (aq bm s 0:Int))],[]⟩)]⟩ func85 (DS s (ho _ rfl))
theorem Bn:ab prog 147 (p1 .str fun s=>.ret (.bool (rB s))):=
 b7 (ee func147) fun s hs _=>g0 (sc oT sn) ⟨[(2,fun S0=>⟨Nat,fun k=>k<=s.length/\s.all cI=(s.drop k).all cI,fun k=>[(3,.int .i64 k)],fun _=>[],fun k=>s.length-k⟩)],[],[]⟩ func147 (DT s hs)
theorem HR:ab prog 149 (p1 .str fun s=>.ret (.bool (j7 s))):=
 b7 (ee func149) fun s _ _=>g0 (sc wy sn) a0 func149 (KY s)
theorem Bp:ab prog 148 (p1 .str fun s=>⟨some (s.length<=4096/\0<s.length),none,.tup [.st .token (dC s).1,.int .i64 (dC s).2.1,.st .fault (dC s).2.2],[]⟩):=
 b7 (ee func148) fun s _ ho=>g0 (sc qM sn) ⟨[(4,fun S0=>⟨Nat×Str×Nat,fun y=>y.2.2<=s.length/\y.2.1.length<=y.2.2/\s.length<y.2.2+y.1/\dC s=dr s y.1 y.2.1 y.2.2,fun y=>[(6,.lst (.int .u8) (aT y.2.1) (some 701)),(7,.int .i64 y.2.2)],fun y=>[(701,.tail (.int .u8) (aT y.2.1).length)],fun y=>y.1⟩)],[],[]⟩ func148 (DU s (ho _ rfl))
theorem E4:ab prog 86 (p1 .str fun s=>⟨some (s.length<=4096/\0<s.length),none,.tup [.st .token (cC s).1,.int .i64 (cC s).2.1,.st .fault (cC s).2.2],[]⟩):=
 b7 (ee func86) fun s _ ho=>g0 (sc oR (sc oS (sc oT (sc qL (sc wA (sc lD (sc oU (sc Bl (sc Bn (sc Bp (sc HR sn))))))))))) ⟨[(15,fun S0=>⟨Nat,fun k=>k<=s.length/\aq aZ s 0=k+aq aZ s (k:Int),fun k=>[(9,.int .i64 k)],fun _=>[],fun k=>s.length-k⟩)],[],[]⟩ func86 (HK s (ho _ rfl))
theorem HS:ab prog 43 (p1 .str fun s=>.ret (.tup [.lst (.st .token) (bR s).1 none,.st .fault (bR s).2])):=
 b7 (ee func43) fun s hs _=>g0 (sc Bm (sc E4 sn)) ⟨[(5,fun S0=>⟨Nat×Nat×List Tokn,fun y=>y.2.1<=s.length/\y.2.2.length<=y.2.1/\s.length<y.2.1+y.1/\bR s=jl s y.1 y.2.1 y.2.2,fun y=>[(5,.int .i64 y.2.1),(4,.lst (.st .token) y.2.2 (some 701))],fun y=>[(701,.tail (.st .token) y.2.2.length)],fun y=>y.1⟩)],[],[]⟩ func43 (KZ s hs)
theorem fA:ab prog 39 (p2 (.lst (.st .token)) (.int .i64) fun l a=>⟨some (0<=a),none,.st .token (az l a),[]⟩):=
 dB (ee func39) fun l a hl _ ho=>g0 sn a0 func39 (L0 l a hl (ho _ rfl))
theorem dX:ab prog 68 (p3 (.lst (.st .token)) (.int .i64) .str fun l a t=>⟨some (0<=a),none,.bool (aG l a t),[]⟩):=
 vK (ee func68) fun l a t _ _ _ ho=>g0 (sc fA sn) a0 func68 (L1 l a t (ho _ rfl))
theorem o6:ab prog 87 (p2 (.lst (.st .token)) (.int .i64) fun l a=>⟨some (0<=a),none,.st .fault (jc l a),[]⟩):=
 dB (ee func87) fun l a _ _ ho=>g0 (sc fA sn) a0 func87 (L2 l a (ho _ rfl))
theorem cQ:ab prog 73 (p3 (.lst (.st .token)) (.int .i64) .str fun l a t=>⟨some (0<=a),none,.tup [.int .i64 (ad l a t).1,.st .fault (ad l a t).2],[]⟩):=
 vK (ee func73) fun l a t hl _ _ ho=>g0 (sc dX (sc o6 sn)) a0 func73 (L3 l a t hl (ho _ rfl))
theorem iL:ab prog 70 (p3 (.lst (.st .token)) (.int .i64) (.int .i64) fun l a k=>⟨some (0<=a/\¬k=0),none,.tup [.str (aL l a k).1,.int .i64 (aL l a k).2.1,.st .fault (aL l a k).2.2],[]⟩):=
 vK (ee func70) fun l a k hl _ _ ho=>g0 (sc fA (sc o6 sn)) a0 func70 (L4 l a k hl (ho _ rfl))
theorem mf:ab prog 120 (p3 (.lst (.st .token)) (.int .i64) (.lst .str) fun l a ns=>⟨some (0<=a),none,.tup [.str (ag l a ns).1,.int .i64 (ag l a ns).2.1,.st .fault (ag l a ns).2.2],[]⟩):=
 vK (ee func120) fun l a ns _ _ hn ho=>g0 (sc fA (sc iL sn)) ⟨[(3,fun S0=>⟨Nat,fun k=>k<=ns.length,fun k=>[(12,.int .i64 k)],fun k=>[(11,.box (.st .fault (frF l a ns k)))],fun k=>ns.length-k⟩)],[],[]⟩ func120 (HL l a ns hn (ho _ rfl))
theorem Bq:ab prog 109 (p2 .str .str fun p m=>.ret (.st .shape (fW p m))):=
 dB (ee func109) fun p m _ _ _=>g0 sn ⟨[(3,fun S0=>⟨Nat,fun k=>1<=k/\k<=5/\(1<k->¬(p=[]/\m=[73,110,116]))/\(2<k->¬(p=[]/\m=[66,111,111,108]))/\(3<k->¬(p=[]/\m=[84,101,120,116]))/\(4<k->¬(p=[]/\m=[65,110,121])),fun k=>[(6,.int .i64 k)],fun _=>[],fun k=>5-k⟩)],[],[]⟩ func109 (DV p m)
theorem E5:ab prog 31 (p2 (.lst (.st .token)) (.int .i64) fun l a=>.ret (.tup [.int .i64 (iv l a).1,.st .fault (iv l a).2])):=
 dB (ee func31) fun l a hl _ _=>g0 sn a0 func31 (HM l a hl)
theorem Br:aA prog 110:=ee func110
theorem uo(n:Nat)(l:List Tokn)(a k:Int)(btw en:Str)(ho:l.length<=4097/\aO l/\0<=a/\a<=(l.length:Int)/\((l.length:Int)-a).toNat+1<n+1)(hS:ab prog 54 (p2 (.lst (.st .token)) (.int .i64) fun l a=>⟨some (l.length<=4097/\aO l/\0<=a/\a<=(l.length:Int)/\((l.length:Int)-a).toNat+1<n),none,.tup [.st .shape (ay l n a).1,.int .i64 (ay l n a).2.1,.st .fault (ay l n a).2.2],[]⟩)):aB prog 110 [.lst (.st .token) l none,.int .i64 a,.int .i64 k,.str btw,.str en] [] (⟨some (l.length<=4097/\aO l/\0<=a/\a<=(l.length:Int)/\((l.length:Int)-a).toNat+1<n+1),none,.tup [.st .shape (eL l (ay l n) a k btw en).1,.int .i64 (eL l (ay l n) a k btw en).2.1,.st .fault (eL l (ay l n) a k btw en).2.2],[]⟩):=
 g0 (sc dX (sc mf (sc cQ (sc (hS) sn)))) ⟨[(3,fun S0=>⟨Nat×Nat×Int×Shape,fun y=>0<=y.2.2.1/\y.2.2.1<=(l.length:Int)/\((l.length:Int)-y.2.2.1).toNat+1<n+1/\(l.length:Int)-y.2.2.1<y.1/\y.2.1+y.1=l.length+2/\y.2.2.2.names.length=y.2.1/\y.2.2.2.parts.length=y.2.1/\(y.2.1=0->y.2.2.1=a/\y.2.2.2=⟨k,[],[],[],[]⟩)/\(0<y.2.1->aP l (cA l (ay l n)) btw en y.1 y.2.2.2 y.2.2.1=aw l (cA l (ay l n)) btw en ⟨k,[],[],[],[]⟩ a),fun y=>[(1,.int .i64 y.2.2.1),(14,.int .i64 (y.2.1:Int))],fun y=>[(13,.box (.agg [.int .i64 (y.2.2.2).kind,.str (y.2.2.2).pkg,.str (y.2.2.2).name,.lst .str (y.2.2.2).names (some 701),.lst (.st .shape) (y.2.2.2).parts (some 702)])),(701,.tail .str y.2.2.2.names.length),(702,.tail (.st .shape) y.2.2.2.parts.length)],fun y=>y.1⟩)],[],[]⟩ func110 (Bh n l a k btw en ho)
theorem yp(n:Nat)(hS:ab prog 54 (p2 (.lst (.st .token)) (.int .i64) fun l a=>⟨some (l.length<=4097/\aO l/\0<=a/\a<=(l.length:Int)/\((l.length:Int)-a).toNat+1<n),none,.tup [.st .shape (ay l n a).1,.int .i64 (ay l n a).2.1,.st .fault (ay l n a).2.2],[]⟩)):ab prog 110 (p5 (.lst (.st .token)) (.int .i64) (.int .i64) .str .str fun l a k btw en=>⟨some (l.length<=4097/\aO l/\0<=a/\a<=(l.length:Int)/\((l.length:Int)-a).toNat+1<n+1),none,.tup [.st .shape (eL l (ay l n) a k btw en).1,.int .i64 (eL l (ay l n) a k btw en).2.1,.st .fault (eL l (ay l n) a k btw en).2.2],[]⟩):=
 Ng Br fun l a k btw en _ _ _ ho=>uo n l a k btw en (ho _ rfl) hS
theorem vk:aA prog 111:=ee func111
theorem qN(n:Nat)(l:List Tokn)(a:Int)(ho:l.length<=4097/\aO l/\0<=a/\a<=(l.length:Int)/\((l.length:Int)-a).toNat+1<n)(hS:ab prog 54 (p2 (.lst (.st .token)) (.int .i64) fun l a=>⟨some (l.length<=4097/\aO l/\0<=a/\a<=(l.length:Int)/\((l.length:Int)-a).toNat+1<n),none,.tup [.st .shape (ay l n a).1,.int .i64 (ay l n a).2.1,.st .fault (ay l n a).2.2],[]⟩)):aB prog 111 [.lst (.st .token) l none,.int .i64 a] [] (⟨some (l.length<=4097/\aO l/\0<=a/\a<=(l.length:Int)/\((l.length:Int)-a).toNat+1<n),none,.tup [.st .shape (dv l (ay l n) a).1,.int .i64 (dv l (ay l n) a).2.1,.st .fault (dv l (ay l n) a).2.2],[]⟩):=
 g0 (sc dX (sc cQ (sc (hS) sn))) ⟨[(3,fun S0=>⟨Nat×Int×Shape×Bool,fun y=>0<=y.2.1/\y.2.1<=(l.length:Int)/\((l.length:Int)-y.2.1).toNat+1<n/\(l.length:Int)-y.2.1<y.1/\y.2.2.1.parts.length+y.1=l.length+2/\y.2.2.1.names=[]/\(y.2.2.2=false->aw l (cJ (ay l n)) [44] [41] ⟨8,[],[],[],[]⟩ a=(y.2.2.1,y.2.1,okF)/\y.2.1<(l.length:Int))/\(y.2.2.2=true->aP l (cJ (ay l n)) [44] [41] y.1 y.2.2.1 y.2.1=aw l (cJ (ay l n)) [44] [41] ⟨8,[],[],[],[]⟩ a),fun y=>[(1,.int .i64 y.2.1),(8,.bool y.2.2.2)],fun y=>[(7,.box (.agg [.int .i64 (y.2.2.1).kind,.str (y.2.2.1).pkg,.str (y.2.2.1).name,.nils,.lst (.st .shape) (y.2.2.1).parts (some 702)])),(702,.tail (.st .shape) y.2.2.1.parts.length)],fun y=>y.1+(if y.2.2.2=true then 1 else 0)⟩)],[],[]⟩ func111 (vj n l a ho)
theorem ur(n:Nat)(hS:ab prog 54 (p2 (.lst (.st .token)) (.int .i64) fun l a=>⟨some (l.length<=4097/\aO l/\0<=a/\a<=(l.length:Int)/\((l.length:Int)-a).toNat+1<n),none,.tup [.st .shape (ay l n a).1,.int .i64 (ay l n a).2.1,.st .fault (ay l n a).2.2],[]⟩)):ab prog 111 (p2 (.lst (.st .token)) (.int .i64) fun l a=>⟨some (l.length<=4097/\aO l/\0<=a/\a<=(l.length:Int)/\((l.length:Int)-a).toNat+1<n),none,.tup [.st .shape (dv l (ay l n) a).1,.int .i64 (dv l (ay l n) a).2.1,.st .fault (dv l (ay l n) a).2.2],[]⟩):=
 dB vk fun l a _ _ ho=>qN n l a (ho _ rfl) hS
theorem uu:aA prog 54:=ee func54
theorem vl(n:Nat)(l:List Tokn)(a:Int)(ho:l.length<=4097/\aO l/\0<=a/\a<=(l.length:Int)/\((l.length:Int)-a).toNat+1<n+1)(hS:ab prog 54 (p2 (.lst (.st .token)) (.int .i64) fun l a=>⟨some (l.length<=4097/\aO l/\0<=a/\a<=(l.length:Int)/\((l.length:Int)-a).toNat+1<n),none,.tup [.st .shape (ay l n a).1,.int .i64 (ay l n a).2.1,.st .fault (ay l n a).2.2],[]⟩))(hF:ab prog 110 (p5 (.lst (.st .token)) (.int .i64) (.int .i64) .str .str fun l a k btw en=>⟨some (l.length<=4097/\aO l/\0<=a/\a<=(l.length:Int)/\((l.length:Int)-a).toNat+1<n+1),none,.tup [.st .shape (eL l (ay l n) a k btw en).1,.int .i64 (eL l (ay l n) a k btw en).2.1,.st .fault (eL l (ay l n) a k btw en).2.2],[]⟩))(hG:ab prog 111 (p2 (.lst (.st .token)) (.int .i64) fun l a=>⟨some (l.length<=4097/\aO l/\0<=a/\a<=(l.length:Int)/\((l.length:Int)-a).toNat+1<n),none,.tup [.st .shape (dv l (ay l n) a).1,.int .i64 (dv l (ay l n) a).2.1,.st .fault (dv l (ay l n) a).2.2],[]⟩)):aB prog 54 [.lst (.st .token) l none,.int .i64 a] [] (⟨some (l.length<=4097/\aO l/\0<=a/\a<=(l.length:Int)/\((l.length:Int)-a).toNat+1<n+1),none,.tup [.st .shape (ay l (n+1) a).1,.int .i64 (ay l (n+1) a).2.1,.st .fault (ay l (n+1) a).2.2],[]⟩):=
 g0 (sc fA (sc Bq (sc cQ (sc iL (sc dX (sc o6 (sc (hS) (sc (hF) (sc (hG) sn))))))))) a0 func54 (DW n l a ho)
theorem kG:∀n:Nat,ab prog 54 (p2 (.lst (.st .token)) (.int .i64) fun l a=>⟨some (l.length<=4097/\aO l/\0<=a/\a<=(l.length:Int)/\((l.length:Int)-a).toNat+1<n),none,.tup [.st .shape (ay l n a).1,.int .i64 (ay l n a).2.1,.st .fault (ay l n a).2.2],[]⟩)
 |0=>dB uu fun l a _ _ ho=>absurd (ho _ rfl).2.2.2.2 (Ql _)
 |n+1=>dB uu fun l a _ _ ho=>vl n l a (ho _ rfl) (kG n) (yp n (kG n)) (ur n (kG n))
theorem nB:ab prog 32 (p2 (.lst (.st .token)) (.int .i64) fun l a=>⟨some (l.length<=4097/\aO l/\0<=a/\a<=(l.length:Int)),none,.tup [.st .shape (dk l a).1,.int .i64 (dk l a).2.1,.st .fault (dk l a).2.2],[]⟩):=
 dB (ee func32) fun l a _ _ ho=>g0 (sc (kG big) (sc fA (sc um sn))) a0 func32 (DX l a (ho _ rfl))
end Go.AL.Seat
end
