/- Plain facts. No condition. -/
import Derived.Test.YtpiedfeneggkmaaGreatDoorT04
import Derived.KernelRfl
import Derived.Sort.Walk0
set_option linter.all false
set_option maxRecDepth 100000
section
namespace Go.Proofs.YtpiedfeneggkmaaGreatDoor.Join
open Go.AL Go.AL.Seat Go.ChangeShapes Go.WideShapes Go.RowKit Go.Lib Go.Shelf
set_option maxRecDepth 1000000
theorem Ha:TermAt Tryz.prog 26:=⟨_,_,_,_,_,_,_,_,_,9,34,Tryz.underlying26,by kernel_rfl,⟨rfl,rfl,rfl,rfl,rfl,rfl,rfl,rfl,rfl⟩,⟨by kernel_rfl,by kernel_rfl,by kernel_rfl,by kernel_rfl,by kernel_rfl,by kernel_rfl,by kernel_rfl,by kernel_rfl,by kernel_rfl⟩,
 ⟨by kernel_rfl,by kernel_rfl,by kernel_rfl,by kernel_rfl,by kernel_rfl,by kernel_rfl,by kernel_rfl,by kernel_rfl,by kernel_rfl⟩,⟨by kernel_rfl,by kernel_rfl,by kernel_rfl⟩,AJ⟩
theorem HG:Tryz.prog.readableRec 26=true:=by kernel_rfl
end Go.Proofs.YtpiedfeneggkmaaGreatDoor.Join
end
section
namespace Go.Pd
open Go.AL
variable {l:List Tokn} {R:PS->Trm×PS}
end Go.Pd
namespace Go.Pd
open Go.AL
structure TokG(t:Tokn):Prop where
 kind:¬t.kind=0
 name:t.kind=1->aI t.text=true
 upper:t.kind=2->aY t.text=true
 num:t.kind=3->nU t.text
 pos:0<=t.pos
end Go.Pd
namespace Go.Pd
open Go.AL
end Go.Pd
end
section
namespace Go.Pd
open Go.AL
mutual
def sizeF:Shape->Int->Int
 |⟨_,_,_,_,ps⟩,m=>sizeL ps 1 m
def sizeL:List Shape->Int->Int->Int
 |[],n,_=>n
 |p::r,n,m=>if n<=m then sizeL r (n+sizeF p (m-n)) m else n
end
mutual
theorem sizeF_bd:∀(s:Shape)(m:Int),0<=m->1<=sizeF s m/\sizeF s m<=m+1
 |⟨_,_,_,_,ps⟩,m,h=>by simp only[sizeF];exact sizeL_bd ps 1 m (by omega) (by omega)
theorem sizeL_bd:∀(l:List Shape)(n m:Int),1<=n->n<=m+1->1<=sizeL l n m/\sizeL l n m<=m+1
 |[],n,m,h1,h2=>by simp only[sizeL];omega
 |p::r,n,m,h1,h2=>by
  simp only[sizeL];split
  ·have:=sizeF_bd p (m-n) (by omega);exact sizeL_bd r _ m (by omega) (by omega)
  ·omega
end
def de:Str->Nat
 |[]=>0
 |b::r=>if dT (bI b)=true then de r+1 else 0
theorem sG:∀s:Str,(de s=s.length↔(s.all fun c=>dT (bI c))=true)
 |[]=>by simp[de]
 |b::r=>by
  simp only[de,List.length_cons,List.all_cons,Bool.and_eq_true];by_cases h:dT (bI b)=true
  ·rw[if_pos h,<-sG r];constructor
   ·intro e;exact⟨h,by omega⟩
   ·rintro⟨_,e⟩;omega
  ·rw[if_neg h];constructor
   ·intro e;omega
   ·rintro⟨e,_⟩;exact absurd e h
theorem nZ(first:Int->Bool)(s:Str):ct first s=(!decide (s=[])&&decide (s.length<=24)&&first (bI (s.getD 0 0))&&decide (de s=s.length)):=by unfold ct;congr 1;rw[Bool.eq_iff_iff,decide_eq_true_eq];exact(sG s).symm
def fy(ns:List Str)(n:Int):Bool:=decide ((ns.length:Int)=n)&&ns.all aI&&decide ns.Nodup
mutual
def deepF:Shape->Nat
 |⟨_,_,_,_,ps⟩=>maxDeep ps+1
def maxDeep:List Shape->Nat
 |[]=>0
 |p::r=>max (deepF p) (maxDeep r)
end
mutual
theorem deepS_F:∀(s:Shape)(l:Int),deepS s l=l+deepF s-1
 |⟨_,_,_,_,ps⟩,l=>by simp only[deepS,deepF];rw[deepL_F ps (l+1) l (by omega)];omega
theorem deepL_F:∀(ps:List Shape)(m d:Int),m-1<=d->deepL ps m d=max d (m+maxDeep ps-1)
 |[],m,d,h=>by simp only[deepL,maxDeep];omega
 |p::r,m,d,h=>by simp only[deepL,maxDeep];rw[deepL_F r m _ (by omega),deepS_F p m];omega
end
mutual
theorem deepF_sz:∀s:Shape,deepF s<=sz s
 |⟨_,_,_,_,ps⟩=>by have:=maxDeep_sz ps;simp only[deepF,sz];omega
theorem maxDeep_sz:∀l:List Shape,maxDeep l<=szL l
 |[]=>Nat.le_refl _
 |p::r=>by have:=deepF_sz p;have:=maxDeep_sz r;simp only[maxDeep,szL];omega
end
mutual
theorem sizeF_eq:∀(s:Shape)(m:Int),0<=m->sizeF s m=min (sz s:Int) (m+1)
 |⟨_,_,_,_,ps⟩,m,h=>by simp only[sizeF,sz];rw[sizeL_eq ps 1 m (by omega)];omega
theorem sizeL_eq:∀(l:List Shape)(n m:Int),n<=m+1->sizeL l n m=min (n+szL l) (m+1)
 |[],n,m,h=>by simp only[sizeL,szL];omega
 |p::r,n,m,h=>by
  simp only[sizeL,szL];have:=dG p;split
  ·rw[sizeF_eq p (m-n) (by omega),sizeL_eq r _ m (by omega)];omega
  ·omega
end
theorem Hb(s:Shape):aC s=if 400<sizeF s 400 then 3 else if 40<(deepF s:Int)then 91 else if allS aj s=true then 0 else 70:=by
 unfold aC;rw[sizeF_eq s 400 (by omega),deepS_F];have e:(1:Int)+deepF s-1=deepF s:=by omega
 rw[e];by_cases h:400<sz s
 ·rw[if_pos h,if_pos (show(400:Int)<min (sz s:Int) (400+1) by omega)]
 ·rw[if_neg h,if_neg (show ¬(400:Int)<min (sz s:Int) (400+1) by omega)]
end Go.Pd
end
section
namespace Go.Pd
open Go.AL
theorem GG{K V:Type}[DecidableEq K]:∀(m:List (K×V))(k k':K)(v:V),dE (eF m k v) k'=if k'=k then some v else dE m k'
 |[],k,k',v=>by simp[eF,dE]
 |(a,u)::r,k,k',v=>by
  simp only[eF];by_cases h:k=a
  ·subst h;rw[if_pos rfl];by_cases h':k'=k<;>simp[dE,h']
  ·rw[if_neg h];simp only[dE,GG r k k' v];by_cases h1:k'=a
   ·subst h1;simp[Ne.symm h]
   ·simp[h1]
def dS:List Str->List Shape->Str->Option Shape
 |n::r,p::q,name=>if n=name then some p else dS r q name
 |_,_,_=>none
def aH(s:Shape)(name:Str):Option Shape:=dS s.names s.parts name
theorem qu:∀{ns:List Str} {ps:List Shape} {n:Str} {p:Shape},dS ns ps n=some p->p∈ps
 |[],ps,n,p,h=>by cases ps<;>simp[dS]at h
 |a::r,[],n,p,h=>by simp[dS]at h
 |a::r,b::q,n,p,h=>by
  simp only[dS]at h;split at h
  ·simp at h;subst h;simp
  ·exact List.mem_cons_of_mem _ (qu h)
theorem kP{f:Shape->Bool}{s:Shape}(h:allS f s=true):f s=true/\allL f s.parts=true:=by rw[ep,Bool.and_eq_true]at h;exact h
end Go.Pd
end
section
namespace Go.Pd
open Go.AL
def p0(A:Ans):Pat
 |[],[]=>some A
 |_,_=>none
theorem GH[Tabs]{P:Program}{f:Nat}{A:Ans}(he:aJ P f)(h:aF P f [] [] A):ak P f (p0 A):=by
 intro args S A' hA _ _;unfold p0 at hA;split at hA
 ·simp only[Xs]at hA;subst hA;exact⟨he,h⟩
 ·cases hA
end Go.Pd
end
section
namespace Go.Pd
open Go.AL
mutual
theorem eqS_refl:∀a:Shape,eqS a a=true
 |⟨k,p,n,ns,ps⟩=>by simp[eqS,eqL_refl ps]
theorem eqL_refl:∀a:List Shape,eqL a a=true
 |[]=>rfl
 |a::r=>by simp[eqL,eqS_refl a,eqL_refl r]
end
end Go.Pd
end
section
namespace Go.Pd
open Go.AL
def o9:List Bndg->Bool
 |[]=>true
 |b::r=>if 800<sizeF b.shape 800 then false else o9 r
def ic(l:List Bndg):Bool:=if 60<(l.length:Int)then false else o9 l
def jv(e:Envt):Bool:=ic e.types&&ic e.values&&ic e.own
theorem E7{l:List Bndg}(h:ic l=true):l.length<=60:=by
 unfold ic at h;split at h
 ·cases h
 ·omega
def bk(env:Envt)(b:List Bndg):Envt:=⟨env.self,env.types,env.values++b,env.own⟩
def szB:List Bndg->Nat
 |[]=>0
 |b::r=>sz b.shape+szB r
theorem E8:∀(l:List Bndg),∀x∈l,sz x.shape<=szB l
 |[],x,h=>by cases h
 |b::r,x,h=>by
  rcases List.mem_cons.1 h with rfl|h
  ·rw[szB];omega
  ·have:=E8 r x h;rw[szB];omega
end Go.Pd
end
noncomputable section
namespace Go.Pd
open Go.AL
def cz(F:Shape->Shape->Bool)(must:Bool)(b:Shape):List Str->List Shape->Bool
 |m::r,p::q=>(match aH b m with|none=>!must|some x=>F p x)&&cz F must b r q
 |_,_=>true
def dH(F:Shape->Shape->Bool)(fn:Bool):List Shape->List Shape->Bool
 |p::r,q::s=>(if(fn&&!r.isEmpty)=true then F q p else F p q)&&dH F fn r s
 |_,_=>true
def aD:Nat->Shape->Shape->Bool
 |0,_,_=>false
 | n+1,a,b=>decide (a.kind=4)||decide (b.kind=4)||
   (decide (a.kind=b.kind)&&decide (a.pkg=b.pkg)&&decide (a.name=b.name)&&
    (if a.kind=6 then cz (aD n) false b a.names a.parts&&b.names.all (fun m=>(aH a m).isSome)
    else if a.kind=7 then cz (aD n) true b a.names a.parts
    else decide (a.parts.length=b.parts.length)&&dH (aD n) (decide (a.kind=8)) a.parts b.parts))
def fc(a b:Shape):Bool:=decide (aC a=0)&&decide (aC b=0)&&aD 800 a b
theorem fZ{s:Shape}(h:aj s=true):s.names=[]∨s.names.length=s.parts.length:=by
 unfold aj cE at h;simp only at h
 repeat' split at h
 all_goals simp only[Bool.and_eq_true,decide_eq_true_eq,List.all_eq_true,Bool.false_eq_true]at h
 all_goals first
  |exact .inl h.1.2
  |exact .inr h.2.1.1.2
  |exact .inr h.2.1.1
  |skip
theorem iX{o:Shape}{m:Str}{x:Shape}(h:aH o m=some x):True/\x∈o.parts:=⟨trivial,qu h⟩
theorem qv(m:Str)(d:Shape):∀(ns:List Str)(ps:List Shape)(k:Nat),ns.length=ps.length->
  (cu ns m (k:Int)=-1/\dS ns ps m=none)∨∃j,j<ns.length/\cu ns m (k:Int)=((k+j:Nat):Int)/\dS ns ps m=some (ps.getD j d)
 |[],ps,k,_=>.inl ⟨rfl,by cases ps<;>rfl⟩
 |a::r,p::q,k,h=>by
  simp only[cu,dS];by_cases e:a=m
  ·rw[if_pos e,if_pos e];exact .inr ⟨0,by simp,by simp,rfl⟩
  ·rw[if_neg e,if_neg e];have:=qv m d r q (k+1) (by simpa using h);rw[show((k:Int)+1)=((k+1:Nat):Int) by omega];rcases this with h1|⟨j,h1,h2,h3⟩
   ·exact .inl h1
   ·exact .inr ⟨j+1,by simp;omega,by rw[h2];omega,by rw[h3];rfl⟩
theorem sH{s:Shape}(m:Str)(d:Shape)(h:s.names=[]∨s.names.length=s.parts.length):(¬0<=cu s.names m 0/\aH s m=none)∨(0<=cu s.names m 0/\cu s.names m 0<(s.parts.length:Int)/\aH s m=some (s.parts.getD (cu s.names m 0).toNat d)):=by
 unfold aH;rcases h with e|e
 ·rw[e];exact .inl ⟨by simp[cu],by cases s.parts<;>rfl⟩
 ·rcases qv m d s.names s.parts 0 e with⟨h1,h2⟩|⟨j,h1,h2,h3⟩
  ·have h1:cu s.names m 0=-1:=h1;exact .inl ⟨by omega,h2⟩
  ·have h2:cu s.names m 0=((0+j:Nat):Int):=h2;refine .inr ⟨by omega,by omega,?_⟩;rw[h2,h3,Int.toNat_natCast,Nat.zero_add]
theorem E9{s:Shape}(m:Str)(d:Shape)(h:aj s=true):(¬0<=cu s.names m 0/\aH s m=none)∨(0<=cu s.names m 0/\cu s.names m 0<(s.parts.length:Int)/\aH s m=some (s.parts.getD (cu s.names m 0).toNat d)):=sH m d (fZ h)
theorem Ea{s:Shape}(h:aC s=0):(aM s).names=[]∨(aM s).names.length=(aM s).parts.length:=by
 unfold aM;rw[if_pos h];obtain⟨k,p,n,ns,ps⟩:=s;by_cases e:ns=[]
 ·exact .inl (by rw[sortedS,if_pos e])
 ·exact .inr (by rw[sortedS];simp[e])
def uh(g:Nat)(F:Shape->Shape->Ans):Pat:=fun args S=>
 match args,S with
 |[.ptr 900 0,a,b],[(900,.box (.agg [.fn f []]))]=>
  (match Nat.beq f g,arg (.st .shape) a,arg (.st .shape) b with
  |true,some x,some y=>some (F x y)
  |_,_,_=>none)
 |_,_=>none
theorem sI[Tabs]{P:Program}{f g:Nat}{F:Shape->Shape->Ans}(he:aJ P f)(h:∀a b,Wf (.st .shape) a->Wf (.st .shape) b->(∀q,(F a b).ob=some q->q)->aF P f [.ptr 900 0,.st .shape a,.st .shape b] [(900,.box (.agg [.fn g []]))] (F a b)) :
  ak P f (uh g F):=by
 intro args S A hA ho _;unfold uh at hA;split at hA
 ·split at hA
  ·rename_i x y hb hx hy;simp only[Xs]at hA;subst hA;have e:=Nat.eq_of_beq_eq_true hb;subst e;exact⟨he,aF.args (.cons (Rd.refl _) (.cons (Rd.arg hx) (.cons (Rd.arg hy) .nil))) (aF.wf fun hw=>h _ _ hw.cons.2.cons.1 hw.cons.2.cons.2.cons.1 ho)⟩
  ·cases hA
 ·cases hA
def mm(g:Nat)(F:List Str->Shape->Ans):Pat:=fun args S=>
 match args,S with
 |[a,.fn f [.ptr 900 0]],[(900,.box (.st .shape s))]=>(match Nat.beq f g,arg (.lst .str) a with|true,some x=>some (F x s)|_,_=>none)
 |_,_=>none
theorem oc[Tabs]{P:Program}{f g:Nat}{F:List Str->Shape->Ans}(he:aJ P f)(h:∀a s,Wf (.lst .str) a->(∀q,(F a s).ob=some q->q)->aF P f [.lst .str a none,.fn g [.ptr 900 0]] [(900,.box (.st .shape s))] (F a s)) :
  ak P f (mm g F):=by
 intro args S A hA ho _;unfold mm at hA;split at hA
 ·split at hA
  ·rename_i x hb hx;simp only[Xs]at hA;subst hA;have e:=Nat.eq_of_beq_eq_true hb;subst e;exact⟨he,aF.args (.cons (Rd.arg hx) (.cons (Rd.refl _) .nil)) (aF.wf fun hw=>h _ _ hw.one ho)⟩
  ·cases hA
 ·cases hA
def yH(F:Str->Shape->Ans):Pat:=fun args S=>
 match args,S with
 |[a,.ptr 900 0],[(900,.box (.st .shape s))]=>(match arg .str a with|some x=>some (F x s)|_=>none)
 |_,_=>none
theorem BR[Tabs]{P:Program}{f:Nat}{F:Str->Shape->Ans}(he:aJ P f)(h:∀a s,(∀q,(F a s).ob=some q->q)->aF P f [.str a,.ptr 900 0] [(900,.box (.st .shape s))] (F a s)) :
  ak P f (yH F):=by
 intro args S A hA ho _;unfold yH at hA;split at hA
 ·split at hA
  ·rename_i x hx;simp only[Xs]at hA;subst hA;exact⟨he,aF.args (.cons (Rd.arg hx) (.cons (Rd.refl _) .nil)) (h _ _ ho)⟩
  ·cases hA
 ·cases hA
end Go.Pd
end
noncomputable section
namespace Go.Pd
open Go.AL
def az:List Bndg->Str->Str->Option Shape
 |[],_,_=>none
 |b::r,o,m=>match az r o m with
  |some s=>some s
  |none=>if b.pkg=o/\b.name=m then some b.shape else none
def od(l:List Bndg)(m:List (Nam×Shape)):List (Nam×Shape):=l.foldl (fun m b=>eF m ⟨b.pkg,b.name⟩ b.shape) m
def iz(l:List Bndg):List (Nam×Shape):=od l []
def bu(m:List (Nam×Shape))(o n:Str):Option Shape:=dE m ⟨o,n⟩
theorem AM(k:Nam):∀(l:List Bndg)(m:List (Nam×Shape)),dE (od l m) k=match az l k.pkg k.name with|some s=>some s|none=>dE m k
 |[],m=>rfl
 |b::r,m=>by
  rw[od,List.foldl_cons,<-od,AM k r,az]
  cases az r k.pkg k.name with
  |some s=>rfl
  |none=>
   rw[GG];by_cases h:b.pkg=k.pkg/\b.name=k.name
   ·rw[if_pos h,if_pos (show k=⟨b.pkg,b.name⟩ by cases k;simp at h;rw[h.1,h.2])]
   ·rw[if_neg h,if_neg (fun e=>h (by rw[e];exact⟨rfl,rfl⟩))]
theorem vU(l:List Bndg):bu (iz l)=az l:=by funext o n;unfold bu iz;rw[AM];show(match az l o n with|some s=>some s|none=>none)=_;cases az l o n<;>rfl
mutual
def fillS(g:Str->Str->Option Shape):Shape->Option Shape
 |⟨k,o,m,ns,ps⟩=>if k=9 then g o m else(fillL g ps).map fun q=>⟨k,o,m,ns,q⟩
def fillL(g:Str->Str->Option Shape):List Shape->Option (List Shape)
 |[]=>some []
 |p::r=>match fillS g p with
  |none=>none
  |some q=>(fillL g r).map fun l=>q::l
end
theorem iY(g:Str->Str->Option Shape)(s:Shape):fillS g s=if s.kind=9 then g s.pkg s.name else(fillL g s.parts).map fun q=>⟨s.kind,s.pkg,s.name,s.names,q⟩:=by cases s;rw[fillS]
def aq(s:Shape)(l:List Bndg):Shape×Int:=
 if aC s=0 then
  match fillS (az l) s with
  |none=>(al,110)
  |some q=>if aC q=0 then(aM q,0)else(al,aC q)
 else(al,aC s)
def yI(A:Option (List (Nam×Shape))->Nam->Shape->Ans):Pat:=fun args S=>
 match args,S with
 |[.ptr 900 0,k,v],(900,.box a)::r=>
  (match arg (.st .nm) k,arg (.st .shape) v with
  |some k,some v=>(match a,r with
   |.agg [.nilm],[]=>some (A none k v)
   |.map 901,[(901,.map (.st .nm) (.st .shape) m)]=>some (A (some m) k v)
   |_,_=>none)
  |_,_=>none)
 |_,_=>none
theorem BS[Tabs]{P:Program}{f:Nat}{A:Option (List (Nam×Shape))->Nam->Shape->Ans}(he:aJ P f)
 (h0:∀k v,aF P f [.ptr 900 0,.st .nm k,.st .shape v] [(900,.box (.agg [.nilm]))] (A none k v))
 (h1:∀m k v,aF P f [.ptr 900 0,.st .nm k,.st .shape v] [(900,.box (.map 901)),(901,.map (.st .nm) (.st .shape) m)] (A (some m) k v)):ak P f (yI A):=by
 intro args S B hB ho _;unfold yI at hB;split at hB
 ·split at hB
  ·rename_i k v hk hv;split at hB
   ·cases hB;exact⟨he,aF.args (.cons (Rd.refl _) (.cons (Rd.arg hk) (.cons (Rd.arg hv) .nil))) (h0 _ _)⟩
   ·cases hB;exact⟨he,aF.args (.cons (Rd.refl _) (.cons (Rd.arg hk) (.cons (Rd.arg hv) .nil))) (h1 _ _ _)⟩
   ·cases hB
  ·cases hB
 ·cases hB
def yJ(A:Option (List (Nam×Shape))->Nam->Ans):Pat:=fun args S=>
 match args,S with
 |[.ptr 900 0,k],(900,.box a)::r=>
  (match arg (.st .nm) k with
  |some k=>(match a,r with
   |.agg [.nilm],[]=>some (A none k)
   |.map 901,[(901,.map (.st .nm) (.st .shape) m)]=>some (A (some m) k)
   |_,_=>none)
  |_=>none)
 |_,_=>none
theorem BT[Tabs]{P:Program}{f:Nat}{A:Option (List (Nam×Shape))->Nam->Ans}(he:aJ P f)
 (h0:∀k,aF P f [.ptr 900 0,.st .nm k] [(900,.box (.agg [.nilm]))] (A none k))
 (h1:∀m k,aF P f [.ptr 900 0,.st .nm k] [(900,.box (.map 901)),(901,.map (.st .nm) (.st .shape) m)] (A (some m) k)):ak P f (yJ A):=by
 intro args S B hB ho _;unfold yJ at hB;split at hB
 ·split at hB
  ·rename_i k hk;split at hB
   ·cases hB;exact⟨he,aF.args (.cons (Rd.refl _) (.cons (Rd.arg hk) .nil)) (h0 _)⟩
   ·cases hB;exact⟨he,aF.args (.cons (Rd.refl _) (.cons (Rd.arg hk) .nil)) (h1 _ _)⟩
   ·cases hB
  ·cases hB
 ·cases hB
def mn(A:Option (List (Nam×Shape))->Shape->Ans):Pat:=fun args S=>
 match args,S with
 |[s,.ptr 900 0],(900,.box a)::r=>
  (match arg (.st .shape) s with
  |some s=>(match a,r with
   |.agg [.nilm],[]=>some (A none s)
   |.map 901,[(901,.map (.st .nm) (.st .shape) m)]=>some (A (some m) s)
   |_,_=>none)
  |_=>none)
 |_,_=>none
theorem qw[Tabs]{P:Program}{f:Nat}{A:Option (List (Nam×Shape))->Shape->Ans}(he:aJ P f)
 (h0:∀s,Wf (.st .shape) s->(∀q,(A none s).ob=some q->q)->aF P f [.st .shape s,.ptr 900 0] [(900,.box (.agg [.nilm]))] (A none s))
 (h1:∀m s,Wf (.st .shape) s->(∀q,(A (some m) s).ob=some q->q)->aF P f [.st .shape s,.ptr 900 0] [(900,.box (.map 901)),(901,.map (.st .nm) (.st .shape) m)] (A (some m) s)):ak P f (mn A):=by
 intro args S B hB ho _;unfold mn at hB;split at hB
 ·split at hB
  ·rename_i k hk;split at hB
   ·cases hB;exact⟨he,aF.args (.cons (Rd.arg hk) (.cons (Rd.refl _) .nil)) (aF.wf fun hw=>h0 _ hw.cons.1 ho)⟩
   ·cases hB;exact⟨he,aF.args (.cons (Rd.arg hk) (.cons (Rd.refl _) .nil)) (aF.wf fun hw=>h1 _ _ hw.cons.1 ho)⟩
   ·cases hB
  ·cases hB
 ·cases hB
def qx(A0:Ans)(A1:Bndg->List Bndg->Ans):Pat:=fun args S=>
 match args,S with
 |[a],[]=>(match arg (.lst (.st .bind)) a with|some []=>some A0|some (b::r)=>some (A1 b r)|none=>none)
 |_,_=>none
theorem vV[Tabs]{P:Program}{f:Nat}{A0:Ans}{A1:Bndg->List Bndg->Ans}(he:aJ P f)
 (h0:aF P f [.lst (.st .bind) [] none] [] A0)(h1:∀b r,Wf (.lst (.st .bind)) (b::r)->aF P f [.lst (.st .bind) (b::r) none] [] (A1 b r)):ak P f (qx A0 A1):=by
 intro args S B hB ho _;unfold qx at hB;split at hB
 ·split at hB
  ·rename_i hk;cases hB;exact⟨he,aF.args (.cons (Rd.arg hk) .nil) h0⟩
  ·rename_i b r hk;cases hB;exact⟨he,aF.args (.cons (Rd.arg hk) .nil) (aF.wf fun hw=>h1 _ _ hw.one)⟩
  ·cases hB
 ·cases hB
end Go.Pd
end
section
namespace Go.Pd
open Go.AL
def ofK(k:Int):Shape:=⟨k,[],[],[],[]⟩
theorem oe(b:Bndg)(o m:Str):∀l:List Bndg,az (l++[b]) o m=if b.pkg=o/\b.name=m then some b.shape else az l o m
 |[]=>rfl
 |x::r=>by
  rw[List.cons_append,az,oe b o m r,az];by_cases h:b.pkg=o/\b.name=m
  ·rw[if_pos h,if_pos h]
  ·rw[if_neg h,if_neg h]
theorem og(l:List Bndg)(o m:Str)(d:Bndg){k:Nat}(h:k<l.length):az (l.take (k+1)) o m=if(l.getD k d).pkg=o/\(l.getD k d).name=m then some (l.getD k d).shape else az (l.take k) o m:=by
 have e:l.take (k+1)=l.take k++[l.getD k d]:=by rw[List.take_succ];simp[List.getD_eq_getElem?_getD,h]
 rw[e,oe]
def fQ(o m:Str):Shape:=⟨10,o,m,[],[]⟩
def kx(m:Str)(s:Shape):Bndg:=⟨[],m,s⟩
def cb:Flt:=⟨0,0⟩
def au(T:Trm->Envt->Shape×Flt)(p:Trm)(want:Shape)(env:Envt):Flt:=
 if(T p env).2.err=0/\fc (T p env).1 want=false then⟨140,p.pos⟩else(T p env).2
def cv(T:Trm->Envt->Shape×Flt)(env:Envt):List Trm->List Shape->Flt
 |p::r,w::q=>if(au T p w env).err=0 then cv T env r q else au T p w env
 |_,_=>cb
def b6(T:Trm->Envt->Shape×Flt)(env:Envt)(w:Shape):List Trm->Flt
 |p::r=>if(au T p w env).err=0 then b6 T env w r else au T p w env
 |[]=>cb
def ae(l:List Bndg)(at_:Int):List Shape->List Shape×Flt
 |[]=>([],cb)
 |s::r=>if(aq s l).2=0 then(if(ae l at_ r).2.err=0 then((aq s l).1::(ae l at_ r).1,cb)else([],(ae l at_ r).2))else([],⟨(aq s l).2,at_⟩)
def aN(T:Trm->Envt->Shape×Flt)(env:Envt):List Trm->List Shape×(Shape×Flt)
 |[]=>([],(al,cb))
 |p::r=>if(T p env).2.err=0 then((T p env).1::(aN T env r).1,(aN T env r).2)else([],T p env)
def aR(T:Trm->Envt->Shape×Flt)(t:Trm)(env:Envt):Shape×Flt:=
 let r:=T (t.parts.getD 0 ao) env
 if r.2.err=0 then
  if r.1.kind=4 then
   (if(b6 T env (ofK 4) (t.parts.drop 1)).err=0 then(r.1,cb)else(r.1,b6 T env (ofK 4) (t.parts.drop 1)))
  else if r.1.kind=8/\r.1.parts.length=t.parts.length then
   (if(cv T env (t.parts.drop 1) r.1.parts).err=0 then(r.1.parts.getD (r.1.parts.length-1) al,cb)else(r.1,cv T env (t.parts.drop 1) r.1.parts))
  else(r.1,⟨140,t.pos⟩)
 else r
def cw(T:Trm->Envt->Shape×Flt)(t:Trm)(env:Envt):Shape×Flt:=
 let r:=T (t.parts.getD 0 ao) env
 if r.2.err=0 then
  if r.1.kind=4 then r
  else if r.1.kind=6/\(aH r.1 t.name).isSome=true then((aH r.1 t.name).getD al,cb)
  else(r.1,⟨140,t.pos⟩)
 else r
def ck(l:List Bndg)(m:Str):Option Shape:=match l with
 |[]=>none
 |b::r=>match ck r m with
  |some s=>some s
  |none=>if b.name=m then some b.shape else none
def dq(T:Trm->Envt->Shape×Flt)(t:Trm)(env:Envt):Shape×Flt:=
 match ck env.own t.name with
 |none=>(al,⟨110,t.pos⟩)
 |some s=>if t.kind=17 then(aM s,au T (t.parts.getD 0 ao) (fQ env.self t.name) env)else(fQ env.self t.name,au T (t.parts.getD 0 ao) (aM s) env)
def fe(T:Trm->Envt->Shape×Flt)(env:Envt)(w:Shape):List Trm->List Str->List Shape->Flt
 |p::r,v::vs,s::ss=>if(au T p w (bk env [kx v s])).err=0 then fe T env w r vs ss else au T p w (bk env [kx v s])
 |_,_,_=>cb
def cD:List Str->List Shape->List Bndg
 |m::r,s::q=>kx m s::cD r q
 |_,_=>[]
def ar(T:Trm->Envt->Shape×Flt)(t:Trm)(env:Envt):Shape×Flt:=
 let l:=ae env.types t.pos t.shapes
 if l.2.err=0 then
  if t.kind=6 then
   let r:=T (t.parts.getD 0 ao) (bk env (cD t.names l.1))
   (⟨8,[],[],[],l.1++[r.1]⟩,r.2)
  else if t.kind=11 then
   (if(b6 T env (l.1.getD 0 al) t.parts).err=0 then(⟨5,[],[],[],l.1⟩,cb)else(l.1.getD 0 al,b6 T env (l.1.getD 0 al) t.parts))
  else if t.kind=15 then(l.1.getD 0 al,au T (t.parts.getD 0 ao) (l.1.getD 0 al) env)
  else if t.kind=12 then
   (l.1.getD 0 al,
    if(au T (t.parts.getD 0 ao) (ofK 2) env).err=0 then
     (if(au T (t.parts.getD 1 ao) (l.1.getD 0 al) env).err=0 then au T (t.parts.getD 2 ao) (l.1.getD 0 al) env else au T (t.parts.getD 1 ao) (l.1.getD 0 al) env)
    else au T (t.parts.getD 0 ao) (ofK 2) env)
  else
   (l.1.getD (l.1.length-1) al,
    if(au T (t.parts.getD 0 ao) ⟨7,[],[],t.names,l.1.take (l.1.length-1)⟩ env).err=0 then fe T env (l.1.getD (l.1.length-1) al) (t.parts.drop 1) t.vars l.1
    else au T (t.parts.getD 0 ao) ⟨7,[],[],t.names,l.1.take (l.1.length-1)⟩ env)
 else(al,l.2)
def ax(T:Trm->Envt->Shape×Flt)(t:Trm)(env:Envt):Shape×Flt:=
 if t.kind=1 then(ofK 1,cb)
 else if t.kind=2 then(ofK 3,cb)
 else if t.kind=3∨t.kind=4 then(ofK 2,cb)
 else if t.kind=5 then
  match az env.values t.pkg t.name with
  |some s=>(aM s,cb)
  |none=>(al,⟨110,t.pos⟩)
 else if t.kind=7 then aR T t env
 else if t.kind=8 then
  (if(aN T env t.parts).2.2.err=0 then(⟨6,[],[],t.names,(aN T env t.parts).1⟩,cb)else(aN T env t.parts).2)
 else if t.kind=9 then cw T t env
 else if t.kind=10 then(⟨7,[],[],[t.name],[(T (t.parts.getD 0 ao) env).1]⟩,(T (t.parts.getD 0 ao) env).2)
 else if t.kind=14 then
  (if(T (t.parts.getD 0 ao) env).2.err=0 then T (t.parts.getD 1 ao) (bk env [kx t.name (T (t.parts.getD 0 ao) env).1])else T (t.parts.getD 0 ao) env)
 else if t.kind=16∨t.kind=17 then dq T t env
 else ar T t env
def ea(t:Trm)(r:Shape×Flt):Shape×Flt:=
 if r.2.err=0 then(if aC r.1=0 then(aM r.1,cb)else(al,⟨aC r.1,t.pos⟩))else(al,r.2)
def aa:Nat->Trm->Envt->Shape×Flt
 |0,_,_=>(al,cb)
 |n+1,t,env=>ea t (ax (aa n) t env)
def bQ(t:Trm)(env:Envt):Shape×Flt:=if cC t=0 then aa (szT t) t env else(al,⟨cC t,0⟩)
theorem sJ{n:Nat}{t:Trm}{e:Envt}(h:(aa n t e).2.err=0):(aa n t e).1.names=[]∨(aa n t e).1.names.length=(aa n t e).1.parts.length:=by
 cases n with
 |zero=>exact .inl rfl
 |succ n=>
  rw[show aa (n+1) t e=ea t (ax (aa n) t e)from rfl]at h⊢;revert h;generalize ax (aa n) t e=r;intro h;unfold ea at h⊢;by_cases h1:r.2.err=0
  ·rw[if_pos h1]at h⊢;by_cases h2:aC r.1=0
   ·rw[if_pos h2];exact Ea h2
   ·rw[if_neg h2]at h;exact absurd h h2
  ·rw[if_neg h1]at h;exact absurd h h1
theorem qy{t:Trm}{n j:Nat}(d:Trm)(hz:szT t<=n+1)(hf:allT ag t=true)(hj:j<t.parts.length) :
  szT (t.parts.getD j d)<=n/\allT ag (t.parts.getD j d)=true/\szT (t.parts.getD j d)+1<=szT t:=by
 have m:=AL.getD_mem t.parts j d hj;have h1:=iy m;have h2:=jt t;rw[allT_eq,Bool.and_eq_true,allTL_all,List.all_eq_true]at hf;exact⟨by omega,hf.2 _ m,by omega⟩
theorem ga(l:List Bndg)(a:Int)(s:Shape)(r:List Shape):ae l a (s::r)=if(aq s l).2=0 then(if(ae l a r).2.err=0 then((aq s l).1::(ae l a r).1,cb)else([],(ae l a r).2))else([],⟨(aq s l).2,a⟩):=rfl
theorem kQ{l:List Bndg}{a:Int}:∀{s:List Shape},(ae l a s).2.err=0->ae l a s=((ae l a s).1,cb)
 |[],_=>rfl
 |s::r,h=>by
  rw[ga]at h⊢;by_cases h1:(aq s l).2=0
  ·rw[if_pos h1]at h⊢;by_cases h2:(ae l a r).2.err=0
   ·rw[if_pos h2]
   ·rw[if_neg h2]at h;exact absurd h h2
  ·rw[if_neg h1]at h;exact absurd h h1
theorem qz{l:List Bndg}{a:Int}:∀{s:List Shape},¬(ae l a s).2.err=0->ae l a s=([],(ae l a s).2)
 |[],h=>absurd rfl h
 |s::r,h=>by
  rw[ga]at h⊢;by_cases h1:(aq s l).2=0
  ·rw[if_pos h1]at h⊢;by_cases h2:(ae l a r).2.err=0
   ·rw[if_pos h2]at h;exact absurd rfl h
   ·rw[if_neg h2]
  ·rw[if_neg h1]
theorem qA(b:Bndg)(m:Str):∀l:List Bndg,ck (l++[b]) m=if b.name=m then some b.shape else ck l m
 |[]=>rfl
 |x::r=>by
  rw[List.cons_append,ck,qA b m r,ck];by_cases h:b.name=m
  ·rw[if_pos h,if_pos h]
  ·rw[if_neg h,if_neg h]
theorem qB(l:List Bndg)(m:Str)(d:Bndg){k:Nat}(h:k<l.length):ck (l.take (k+1)) m=if(l.getD k d).name=m then some (l.getD k d).shape else ck (l.take k) m:=by
 have e:l.take (k+1)=l.take k++[l.getD k d]:=by rw[List.take_succ];simp[List.getD_eq_getElem?_getD,h]
 rw[e,qA]
theorem nc{T:Trm->Envt->Shape×Flt}{t:Trm}{env:Envt}(h:ck env.own t.name=none):dq T t env=(al,⟨110,t.pos⟩):=by unfold dq;rw[h]
theorem nd{T:Trm->Envt->Shape×Flt}{t:Trm}{env:Envt}{s:Shape}(h:ck env.own t.name=some s):dq T t env=if t.kind=17 then(aM s,au T (t.parts.getD 0 ao) (fQ env.self t.name) env)else(fQ env.self t.name,au T (t.parts.getD 0 ao) (aM s) env):=by unfold dq;rw[h]
theorem sK(e:Envt):bk e []=e:=by cases e;unfold bk;rw[List.append_nil]
theorem oh(e:Envt)(l r:List Bndg):bk (bk e l) r=bk e (l++r):=by unfold bk;rw[List.append_assoc]
theorem lI{l:List Bndg}{a:Int}:∀{ss:List Shape},(ae l a ss).2.err=0->(ae l a ss).1.length=ss.length
 |[],_=>rfl
 |s::r,h=>by
  rw[ga]at h⊢;by_cases h1:(aq s l).2=0
  ·rw[if_pos h1]at h⊢;by_cases h2:(ae l a r).2.err=0
   ·rw[if_pos h2,List.length_cons,List.length_cons,lI h2]
   ·rw[if_neg h2]at h;exact absurd h h2
  ·rw[if_neg h1]at h;exact absurd h h1
theorem nf{n:Nat}{t:Trm}{e:Envt}(h:(aa n t e).2.err=0):(aa n t e).2=cb:=by
 cases n with
 |zero=>rfl
 |succ n=>
  rw[show aa (n+1) t e=ea t (ax (aa n) t e)from rfl]at h⊢;revert h;generalize ax (aa n) t e=r;intro h;unfold ea at h⊢;by_cases h1:r.2.err=0
  ·rw[if_pos h1]at h⊢;by_cases h2:aC r.1=0
   ·rw[if_pos h2]
   ·rw[if_neg h2]at h;exact absurd h h2
  ·rw[if_neg h1]at h;exact absurd h h1
theorem gK{n:Nat}{t:Trm}{w:Shape}{e:Envt}(h:(au (aa n) t w e).err=0):au (aa n) t w e=cb:=by
 unfold au at h⊢;by_cases c:(aa n t e).2.err=0/\fc (aa n t e).1 w=false
 ·rw[if_pos c]at h;exact absurd (show(140:Int)=0 from h) (by decide)
 ·rw[if_neg c]at h⊢;exact nf h
theorem BU{c:Prop}[Decidable c]{a b:Bool}{P:Prop}(h:(if c then a else b)=true)(f:c->a=true->P)(g:¬c->b=true->P):P:=by
 by_cases k:c
 ·rw[if_pos k]at h;exact f k h
 ·rw[if_neg k]at h;exact g k h
structure RoomR(t:Trm):Prop where
 k6:t.kind=6->t.names.length<=4096/\t.shapes.length=t.names.length/\t.parts.length=1
 k7:t.kind=7->0<t.parts.length
 k1:t.kind=9∨t.kind=10∨t.kind=16∨t.kind=17->t.parts.length=1
 k11:t.kind=11->t.shapes.length=1
 k12:t.kind=12->t.shapes.length=1/\t.parts.length=3
 k13:t.kind=13->t.vars.length=t.names.length/\t.shapes.length=t.names.length+1/\t.parts.length=t.names.length+1
 k14:t.kind=14->t.parts.length=2
 k15:t.kind=15->t.shapes.length=1/\t.parts.length=1
 all:1<=t.kind/\t.kind<=17
theorem oY{t:Trm}(h:allT ag t=true):RoomR t:=by
 rw[allT_eq,Bool.and_eq_true]at h;have h:=h.1;unfold ag at h;rw[Bool.and_eq_true]at h;have hb:=h.2;unfold jF eY at hb
 repeat' (refine BU hb (fun hk hb=>?_) (fun hk hb=>?_))
 all_goals simp only[Bool.and_eq_true,decide_eq_true_eq,Bool.false_eq_true]at hb
 all_goals (refine⟨?_,?_,?_,?_,?_,?_,?_,?_,?_⟩<;>intros<;>(repeat' apply And.intro)<;>omega)
theorem mo(t:Trm):t.parts.length+1<=szT t:=by
 have h1:∀l:List Trm,l.length<=szTL l:=by
  intro l
  induction l with
  |nil=>exact Nat.zero_le _
  |cons a r ih=>rw[szTL];have:=fw a;simp;omega
 have:=h1 t.parts;have:=jt t;omega
theorem jw{t:Trm}{n v:Nat}(hz:szT t<=n+1)(hf:allT ag t=true)(hv:v+4096 *szT t<=100000000){j w:Nat}(d:Trm)(hj:j<t.parts.length)(hw:w<=v+4096) :
  szT (t.parts.getD j d)<=n/\allT ag (t.parts.getD j d)=true/\w+4096 *szT (t.parts.getD j d)<=100000000:=by
 have h:=qy d hz hf hj;exact⟨h.1,h.2.1,by omega⟩
theorem ndF{p:Prop}[Decidable p](h:(!decide p)=true):¬p:=by simpa using h
theorem ndT{p:Prop}[Decidable p](h:¬(!decide p)=true):p:=by simpa using h
end Go.Pd
end
section
namespace Go.Pd
open Go.AL
section Agree
variable {T U:Trm->Envt->Shape×Flt} {R:Envt->Envt->Prop} {Q:Trm->Prop}
variable (hT:∀p,Q p->∀e f,R e f->T p e=U p f) (hW:∀e f l,R e f->R (bk e l) (bk f l))
include hT
include hW
end Agree
structure Alike(b:Bndg)(e f:Envt):Prop where
 types:e.types=f.types
 own:e.own=f.own
 self:e.self=f.self
 vals:∀o m,¬(o=b.pkg/\m=b.name)->az e.values o m=az f.values o m
end Go.Pd
end
section
namespace Go.Pd
open Go.AL
abbrev SR3:=Shape×Int×Flt
abbrev TR3:=Trm×Int×Flt
end Go.Pd
end
section
namespace Go.Pd
open Go.AL
abbrev st(l:List Tokn)(a:Int):PS:=⟨l,a,0,0⟩
variable {l:List Tokn}
section
variable {l:List Tokn} {R:PS->Shape×PS} {R':Int->SR3}
end
end Go.Pd
end
section
namespace Go.AL
variable [Tabs]
section
variable {P:Program}
def p4(τ σ ρ μ:Ty)(F:den τ->den σ->den ρ->den μ->Ans):Pat
 |[a,b,c,d],[]=>(match arg τ a,arg σ b,arg ρ c,arg μ d with|some a,some b,some c,some d=>some (F a b c d)|_,_,_,_=>none)
 |_,_=>none
def p5(τ σ ρ μ ν:Ty)(F:den τ->den σ->den ρ->den μ->den ν->Ans):Pat
 |[a,b,c,d,e],[]=>(match arg τ a,arg σ b,arg ρ c,arg μ d,arg ν e with|some a,some b,some c,some d,some e=>some (F a b c d e)|_,_,_,_,_=>none)
 |_,_=>none
theorem HH{f:Nat}{τ σ ρ μ ν:Ty}{F:den τ->den σ->den ρ->den μ->den ν->Ans}(he:aJ P f)
 (h:∀x y z u v,Wf τ x->Wf σ y->Wf ρ z->(∀q,(F x y z u v).ob=some q->q)->aF P f [inj τ x,inj σ y,inj ρ z,inj μ u,inj ν v] [] (F x y z u v)):ak P f (p5 τ σ ρ μ ν F):=by
 intro args S A hA ho _;unfold p5 at hA;split at hA
 ·split at hA
  ·rename_i x y z u v hx hy hz hu hv;simp at hA;subst hA;exact⟨he,aF.args (.cons (Rd.arg hx) (.cons (Rd.arg hy) (.cons (Rd.arg hz) (.cons (Rd.arg hu) (.cons (Rd.arg hv) .nil))))) (aF.wf fun hw=>h x y z u v hw.one hw.two hw.three ho)⟩
  ·cases hA
 ·cases hA
end
end Go.AL
end
section
namespace Go.Pd
open Go.AL
def ec(p:Int):Bool:=decide (0<=p)&&decide (p<=1114111)&&(decide (p<55296)||decide (57343<p))
def iZ(n:Int):UInt8:=UInt8.ofNat n.toNat
def dh(p:Int):Str:=
 if p<128 then[iZ p]
 else if p<2048 then[iZ (192+p/64),iZ (128+p%64)]
 else if p<65536 then[iZ (224+p/4096),iZ (128+p/64%64),iZ (128+p%64)]
 else[iZ (240+p/262144),iZ (128+p/4096%64),iZ (128+p/64%64),iZ (128+p%64)]
def bK(s:Str):Nat:=if 240<=bI (s.getD 0 0)then 4 else if 224<=bI (s.getD 0 0)then 3 else if 192<=bI (s.getD 0 0)then 2 else 1
def fA(s:Str):Int:=if 240<=bI (s.getD 0 0)then bI (s.getD 0 0)-240 else if 224<=bI (s.getD 0 0)then bI (s.getD 0 0)-224 else if 192<=bI (s.getD 0 0)then bI (s.getD 0 0)-192 else bI (s.getD 0 0)
def bc(s:Str):Nat->Int
 |0=>fA s
 |1=>fA s
 |k+2=>bc s (k+1) *64+bI (s.getD (k+1) 0)-128
def cP(s:Str):Int×Int:=
 if s=[]then(0,0)else if s.length<bK s then(0,0)
 else if ec (bc s (bK s))=true/\dh (bc s (bK s))=s.take (bK s)then(bc s (bK s),bK s)else(0,0)
end Go.Pd
end
section
namespace Go.Pd
open Go.AL
theorem eD{n:Int}{b:UInt8}(h0:0<=n)(h1:n<=255):iZ n=b↔n=bI b:=by
 unfold iZ bI;constructor
 ·intro e;rw[<-e,UInt8.toNat_ofNat'];have:n.toNat%2 ^ 8=n.toNat:=Nat.mod_eq_of_lt (by omega);rw[this];omega
 ·intro e;rw[e,Int.toNat_natCast];exact UInt8.ofNat_toNat
theorem Eb{p:Int}(h:0<=p)(a:UInt8):dh p=[a]↔p<128/\p=bI a:=by
 unfold dh;split
 ·simp only[List.cons.injEq,and_true];rw[eD h (by omega)];omega
 ·refine⟨fun e=>?_,fun e=>by omega⟩;revert e;split<;>(try split)<;>simp
theorem Ec{p:Int}(h:0<=p)(a b:UInt8):dh p=[a,b]↔128<=p/\p<2048/\192+p/64=bI a/\128+p%64=bI b:=by
 unfold dh;split
 ·refine⟨fun e=>?_,fun e=>by omega⟩;simp at e
 split
 ·simp only[List.cons.injEq,and_true];rw[eD (by omega) (by omega),eD (by omega) (by omega)];omega
 ·refine⟨fun e=>?_,fun e=>by omega⟩;revert e;split<;>simp
theorem Ed{p:Int}(h:0<=p)(a b c:UInt8):dh p=[a,b,c]↔2048<=p/\p<65536/\224+p/4096=bI a/\128+p/64%64=bI b/\128+p%64=bI c:=by
 unfold dh;split
 ·refine⟨fun e=>?_,fun e=>by omega⟩;simp at e
 split
 ·refine⟨fun e=>?_,fun e=>by omega⟩;simp at e
 split
 ·simp only[List.cons.injEq,and_true];rw[eD (by omega) (by omega),eD (by omega) (by omega),eD (by omega) (by omega)];omega
 ·refine⟨fun e=>?_,fun e=>by omega⟩;simp at e
theorem Ee{p:Int}(h:0<=p)(hp:p<=1114111)(a b c d:UInt8):dh p=[a,b,c,d]↔65536<=p/\240+p/262144=bI a/\128+p/4096%64=bI b/\128+p/64%64=bI c/\128+p%64=bI d:=by
 unfold dh;split
 ·refine⟨fun e=>?_,fun e=>by omega⟩;simp at e
 split
 ·refine⟨fun e=>?_,fun e=>by omega⟩;simp at e
 split
 ·refine⟨fun e=>?_,fun e=>by omega⟩;simp at e
 ·simp only[List.cons.injEq,and_true];rw[eD (by omega) (by omega),eD (by omega) (by omega),eD (by omega) (by omega),eD (by omega) (by omega)];omega
theorem jx(p:Int):ec p=true↔0<=p/\p<=1114111/\(p<55296∨57343<p):=by unfold ec;simp only[Bool.and_eq_true,Bool.or_eq_true,decide_eq_true_eq,and_assoc]
theorem vW(s:Str):(cP s).2=(ib s:Int):=by
 match s with
 |[]=>rfl
 |b::r=>
  rw[DX];have hb:=UInt8.toNat_lt b;have e0:bI ((b::r).getD 0 0)=(b.toNat:Int):=rfl;unfold cP;rw[if_neg (List.cons_ne_nil _ _)];by_cases c4:240<=(b.toNat:Int)
  ·have hL:bK (b::r)=4:=by unfold bK;rw[e0,if_pos c4]
   rw[hL]
   match r with
   |[]=>rw[if_pos (by simp)];unfold kn;simp only[List.length_nil];(repeat' split)<;>first|rfl|omega
   |[c1]=>rw[if_pos (by simp)];unfold kn;simp only[List.length_cons,List.length_nil];(repeat' split)<;>first|rfl|omega
   |[c1,c2]=>rw[if_pos (by simp)];unfold kn;simp only[List.length_cons,List.length_nil];(repeat' split)<;>first|rfl|omega
   |c1::c2::c3::r=>
    have h1:=UInt8.toNat_lt c1;have h2:=UInt8.toNat_lt c2;have h3:=UInt8.toNat_lt c3
    have hf:bc (b::c1::c2::c3::r) 4=((((b.toNat:Int)-240) *64+c1.toNat-128) *64+c2.toNat-128) *64+c3.toNat-128:=by
     have:fA (b::c1::c2::c3::r)=(b.toNat:Int)-240:=by unfold fA;rw[show bI ((b::c1::c2::c3::r).getD 0 0)=(b.toNat:Int)from rfl,if_pos c4]
     unfold bc bc bc bc;rw[this];rfl
    rw[if_neg (by simp),hf];have ht:(b::c1::c2::c3::r).take 4=[b,c1,c2,c3]:=rfl;rw[ht];generalize hp:((((b.toNat:Int)-240) *64+c1.toNat-128) *64+c2.toNat-128) *64+c3.toNat-128=p;have key:(ec p=true/\dh p=[b,c1,c2,c3])↔(0<=p/\p<=1114111/\(p<55296∨57343<p))/\(65536<=p/\240+p/262144=(b.toNat:Int)/\128+p/4096%64=(c1.toNat:Int)/\128+p/64%64=(c2.toNat:Int)/\128+p%64=(c3.toNat:Int)):=by rw[jx];exact and_congr_right fun e=>Ee e.1 e.2.1 _ _ _ _
    unfold kn;simp only[List.length_cons,List.getD_cons_zero,List.getD_cons_succ];rw[show p/4096=p/64/64 by omega,show p/262144=p/64/64/64 by omega]at key;generalize hu:p/64=u at key;generalize hv:u/64=v at key;generalize hw:v/64=w at key;split
    ·next h=>
     have h:=key.1 h;have x0:b.toNat/8=30/\c1.toNat/64=2/\c2.toNat/64=2/\c3.toNat/64=2:=by omega
     have x1:b.toNat%8 *262144+c1.toNat%64 *4096+c2.toNat%64 *64+c3.toNat%64=p.toNat:=by omega
     rw[x1,if_neg (by omega),if_neg (by omega),if_neg (by omega),if_pos ⟨x0.1,⟨by omega,x0.2.1⟩,⟨by omega,x0.2.2.1⟩,by omega,x0.2.2.2⟩,if_pos (by omega)]
    ·next h=>
     by_cases x0:b.toNat/8=30/\c1.toNat/64=2/\c2.toNat/64=2/\c3.toNat/64=2
     ·have x1:((b.toNat%8 *262144+c1.toNat%64 *4096+c2.toNat%64 *64+c3.toNat%64:Nat):Int)=p:=by omega
      have x2:¬((b.toNat%8 *262144+c1.toNat%64 *4096+c2.toNat%64 *64+c3.toNat%64)≥65536/\((b.toNat%8 *262144+c1.toNat%64 *4096+c2.toNat%64 *64+c3.toNat%64)<55296∨57344<=(b.toNat%8 *262144+c1.toNat%64 *4096+c2.toNat%64 *64+c3.toNat%64)/\(b.toNat%8 *262144+c1.toNat%64 *4096+c2.toNat%64 *64+c3.toNat%64)<=1114111)):=fun e=>h (key.2 ⟨by omega,by omega⟩);rw[if_neg (by omega),if_neg (by omega),if_neg (by omega),if_pos ⟨x0.1,⟨by omega,x0.2.1⟩,⟨by omega,x0.2.2.1⟩,by omega,x0.2.2.2⟩,if_neg x2];rfl
     ·rw[if_neg (by omega),if_neg (by omega),if_neg (by omega),if_neg (fun e=>x0 ⟨e.1,e.2.1.2,e.2.2.1.2,e.2.2.2.2⟩)];rfl
  by_cases c3:224<=(b.toNat:Int)
  ·have hL:bK (b::r)=3:=by unfold bK;rw[e0,if_neg c4,if_pos c3]
   rw[hL]
   match r with
   |[]=>rw[if_pos (by simp)];unfold kn;simp only[List.length_nil];(repeat' split)<;>first|rfl|omega
   |[c1]=>rw[if_pos (by simp)];unfold kn;simp only[List.length_cons,List.length_nil];(repeat' split)<;>first|rfl|omega
   |c1::c2::r=>
    have h1:=UInt8.toNat_lt c1;have h2:=UInt8.toNat_lt c2
    have hf:bc (b::c1::c2::r) 3=(((b.toNat:Int)-224) *64+c1.toNat-128) *64+c2.toNat-128:=by
     have:fA (b::c1::c2::r)=(b.toNat:Int)-224:=by unfold fA;rw[show bI ((b::c1::c2::r).getD 0 0)=(b.toNat:Int)from rfl,if_neg c4,if_pos c3]
     unfold bc bc bc;rw[this];rfl
    rw[if_neg (by simp),hf];have ht:(b::c1::c2::r).take 3=[b,c1,c2]:=rfl;rw[ht];generalize hp:(((b.toNat:Int)-224) *64+c1.toNat-128) *64+c2.toNat-128=p;have key:(ec p=true/\dh p=[b,c1,c2])↔(0<=p/\p<=1114111/\(p<55296∨57343<p))/\(2048<=p/\p<65536/\224+p/4096=(b.toNat:Int)/\128+p/64%64=(c1.toNat:Int)/\128+p%64=(c2.toNat:Int)):=by rw[jx];exact and_congr_right fun e=>Ed e.1 _ _ _
    unfold kn;simp only[List.length_cons,List.getD_cons_zero,List.getD_cons_succ];rw[show p/4096=p/64/64 by omega]at key;generalize hu:p/64=u at key;generalize hv:u/64=v at key;split
    ·next h=>
     have h:=key.1 h;have x0:b.toNat/16=14/\c1.toNat/64=2/\c2.toNat/64=2:=by omega
     have x1:b.toNat%16 *4096+c1.toNat%64 *64+c2.toNat%64=p.toNat:=by omega
     rw[x1,if_neg (by omega),if_neg (by omega),if_pos ⟨x0.1,⟨by omega,x0.2.1⟩,by omega,x0.2.2⟩,if_pos (by omega)]
    ·next h=>
     by_cases x0:b.toNat/16=14/\c1.toNat/64=2/\c2.toNat/64=2
     ·have x1:((b.toNat%16 *4096+c1.toNat%64 *64+c2.toNat%64:Nat):Int)=p:=by omega
      have x2:¬((b.toNat%16 *4096+c1.toNat%64 *64+c2.toNat%64)≥2048/\((b.toNat%16 *4096+c1.toNat%64 *64+c2.toNat%64)<55296∨57344<=(b.toNat%16 *4096+c1.toNat%64 *64+c2.toNat%64)/\(b.toNat%16 *4096+c1.toNat%64 *64+c2.toNat%64)<=1114111)):=fun e=>h (key.2 ⟨by omega,by omega⟩);rw[if_neg (by omega),if_neg (by omega),if_pos ⟨x0.1,⟨by omega,x0.2.1⟩,by omega,x0.2.2⟩,if_neg x2];rfl
     ·rw[if_neg (by omega),if_neg (by omega),if_neg (fun e=>x0 ⟨e.1,e.2.1.2,e.2.2.2⟩),if_neg (by omega)];rfl
  by_cases c2:192<=(b.toNat:Int)
  ·have hL:bK (b::r)=2:=by unfold bK;rw[e0,if_neg c4,if_neg c3,if_pos c2]
   rw[hL]
   match r with
   |[]=>rw[if_pos (by simp)];unfold kn;simp only[List.length_nil];(repeat' split)<;>first|rfl|omega
   |c1::r=>
    have h1:=UInt8.toNat_lt c1
    have hf:bc (b::c1::r) 2=((b.toNat:Int)-192) *64+c1.toNat-128:=by
     have:fA (b::c1::r)=(b.toNat:Int)-192:=by unfold fA;rw[show bI ((b::c1::r).getD 0 0)=(b.toNat:Int)from rfl,if_neg c4,if_neg c3,if_pos c2]
     unfold bc bc;rw[this];rfl
    rw[if_neg (by simp),hf];have ht:(b::c1::r).take 2=[b,c1]:=rfl;rw[ht];generalize hp:((b.toNat:Int)-192) *64+c1.toNat-128=p;have key:(ec p=true/\dh p=[b,c1])↔(0<=p/\p<=1114111/\(p<55296∨57343<p))/\(128<=p/\p<2048/\192+p/64=(b.toNat:Int)/\128+p%64=(c1.toNat:Int)):=by rw[jx];exact and_congr_right fun e=>Ec e.1 _ _
    unfold kn;simp only[List.length_cons,List.getD_cons_zero,List.getD_cons_succ];generalize hu:p/64=u at key;split
    ·next h=>
     have h:=key.1 h;have x0:b.toNat/32=6/\c1.toNat/64=2:=by omega
     have x1:b.toNat%32 *64+c1.toNat%64=p.toNat:=by omega
     rw[x1,if_neg (by omega),if_pos ⟨x0.1,by omega,x0.2⟩,if_pos (by omega)]
    ·next h=>
     by_cases x0:b.toNat/32=6/\c1.toNat/64=2
     ·have x1:((b.toNat%32 *64+c1.toNat%64:Nat):Int)=p:=by omega
      generalize b.toNat%32 *64+c1.toNat%64=q at x1⊢;have x2:¬(q≥128):=fun e=>h (key.2 ⟨by omega,by omega⟩);rw[if_neg (by omega),if_pos ⟨x0.1,by omega,x0.2⟩,if_neg x2];rfl
     ·rw[if_neg (by omega),if_neg (fun e=>x0 ⟨e.1,e.2.2⟩),if_neg (by omega),if_neg (by omega)];rfl
  ·have hL:bK (b::r)=1:=by unfold bK;rw[e0,if_neg c4,if_neg c3,if_neg c2]
   rw[hL,if_neg (by simp)];have hf:bc (b::r) 1=(b.toNat:Int):=by unfold bc fA;rw[e0,if_neg c4,if_neg c3,if_neg c2]
   rw[hf];have ht:(b::r).take 1=[b]:=rfl;rw[ht]
   have key:(ec (b.toNat:Int)=true/\dh (b.toNat:Int)=[b])↔(b.toNat:Int)<128:=by
    rw[jx,Eb (by omega)];constructor
    ·exact fun e=>e.2.1
    ·exact fun e=>⟨by omega,e,rfl⟩
   by_cases h:b.toNat<128
   ·rw[if_pos (key.2 (by omega))];unfold kn;rw[if_pos h]
   ·rw[if_neg (fun e=>h (by have:=key.1 e;omega))];unfold kn;rw[if_neg h,if_neg (by omega),if_neg (by omega),if_neg (by omega)];rfl
theorem G1(s:Str):ib s<=s.length:=by
 by_cases h:s=[]
 ·subst h;exact Nat.le_refl _
 by_cases e:ib s=0
 ·omega
 obtain⟨_,h2,_,_,h5⟩:=qj h;have:=h2 e;omega
theorem AN{s:Str}{n:Nat}(h:n<=s.length):n+ib (s.drop n)<=s.length:=by have:=G1 (s.drop n);rw[List.length_drop]at this;omega
end Go.Pd
end
section
namespace Go.Pd
open Go.AL
mutual
def dx:Trm->Int->Int
 |⟨_,_,_,_,_,_,_,ps,_⟩,m=>sizeTL ps 1 m
def sizeTL:List Trm->Int->Int->Int
 |[],n,_=>n
 |p::r,n,m=>if n<=m then sizeTL r (n+dx p (m-n)) m else n
end
mutual
def deepT:Trm->Nat
 |⟨_,_,_,_,_,_,_,ps,_⟩=>maxDT ps+1
def maxDT:List Trm->Nat
 |[]=>0
 |p::r=>max (deepT p) (maxDT r)
end
mutual
theorem sizeT_bd:∀(s:Trm)(m:Int),0<=m->1<=dx s m/\dx s m<=m+1
 |⟨_,_,_,_,_,_,_,ps,_⟩,m,h=>by simp only[dx];exact sizeTL_bd ps 1 m (by omega) (by omega)
theorem sizeTL_bd:∀(l:List Trm)(n m:Int),1<=n->n<=m+1->1<=sizeTL l n m/\sizeTL l n m<=m+1
 |[],n,m,h1,h2=>by simp only[sizeTL];omega
 |p::r,n,m,h1,h2=>by
  simp only[sizeTL];split
  ·have:=sizeT_bd p (m-n) (by omega);exact sizeTL_bd r _ m (by omega) (by omega)
  ·omega
end
mutual
theorem deepT_sz:∀s:Trm,deepT s<=szT s
 |⟨_,_,_,_,_,_,_,ps,_⟩=>by have:=maxDT_sz ps;simp only[deepT,szT];omega
theorem maxDT_sz:∀l:List Trm,maxDT l<=szTL l
 |[]=>Nat.le_refl _
 |p::r=>by have:=deepT_sz p;have:=maxDT_sz r;simp only[maxDT,szTL];omega
end
mutual
theorem sizeT_eq:∀(s:Trm)(m:Int),0<=m->dx s m=min (szT s:Int) (m+1)
 |⟨_,_,_,_,_,_,_,ps,_⟩,m,h=>by simp only[dx,szT];rw[sizeTL_eq ps 1 m (by omega)];omega
theorem sizeTL_eq:∀(l:List Trm)(n m:Int),n<=m+1->sizeTL l n m=min (n+szTL l) (m+1)
 |[],n,m,h=>by simp only[sizeTL,szTL];omega
 |p::r,n,m,h=>by
  simp only[sizeTL,szTL];have:=fw p;split
  ·rw[sizeT_eq p (m-n) (by omega),sizeTL_eq r _ m (by omega)];omega
  ·omega
end
mutual
theorem countT_size:∀(s:Trm)(m:Int),0<=m->(countT s m).1=min (szT s:Int) (m+1)
 |⟨_,_,_,_,_,_,_,ps,_⟩,m,h=>by simp only[countT,szT];rw[countL_size ps m 1 0 (by omega)];omega
theorem countL_size:∀(l:List Trm)(m n d:Int),n<=m+1->(countL l m n d).1=min (n+szTL l) (m+1)
 |[],m,n,d,h=>by simp only[countL,szTL];omega
 |p::r,m,n,d,h=>by
  simp only[countL,szTL];have:=fw p;split
  ·show n=_;omega
  ·rw[countL_size r m _ _ (by rw[countT_size p (m-n) (by omega)];omega),countT_size p (m-n) (by omega)];omega
end
mutual
theorem countT_deep:∀(s:Trm)(m:Int),(szT s:Int)<=m->(countT s m).2=deepT s
 |⟨_,_,_,_,_,_,_,ps,_⟩,m,h=>by simp only[szT]at h;simp only[countT,deepT];rw[countL_deep ps m 1 0 (by omega) (by omega)];omega
theorem countL_deep:∀(l:List Trm)(m n d:Int),n+szTL l<=m->0<=d->(countL l m n d).2=max d (maxDT l)
 |[],m,n,d,h,h0=>by simp only[countL,maxDT];omega
 |p::r,m,n,d,h,h0=>by
  simp only[szTL]at h;simp only[countL,maxDT];rw[if_neg (by omega)];have e1:(countT p (m-n)).1=szT p:=by rw[countT_size p (m-n) (by omega)];omega
  rw[countL_deep r m _ _ (by rw[e1];omega) (by omega),countT_deep p (m-n) (by omega)];omega
end
theorem yK(t:Trm):cC t=if 4096<dx t 4096 then 3 else if 40<(deepT t:Int)then 91 else if allT ag t=true then 0 else 80:=by
 unfold cC;rw[countT_size t 4096 (by omega),sizeT_eq t 4096 (by omega)];by_cases h:(4096:Int)<min (szT t:Int) (4096+1)
 ·rw[if_pos h,if_pos h]
 ·rw[if_neg h,if_neg h,countT_deep t 4096 (by omega)]
def ed(ns:List Str)(b:Bool):Bool:=ns.all aI&&(!b||decide ns.Nodup)
def b5(t:Trm)(n v s p:Int):Bool:=decide ((t.names.length:Int)=n)&&decide ((t.vars.length:Int)=v)&&decide ((t.shapes.length:Int)=s)&&decide ((t.parts.length:Int)=p)
def jy(s:Str):Nat->Nat->List Int->List Int×Flt
 |0,_,acc=>(acc,⟨0,0⟩)
 |f+1,i,acc=>if i<s.length then(if ib (s.drop i)=0 then([],⟨30,i⟩)else jy s f (i+ib (s.drop i)) (acc++[(cP (s.drop i)).1]))else(acc,⟨0,0⟩)
def eL(s:Str):List Int×Flt:=jy s (s.length+1) 0 []
end Go.Pd
end
section
namespace Go.Pd
open Go.AL
mutual
def bareT:Trm->Trm
 |⟨k,g,n,z,ns,vs,ss,ps,_⟩=>⟨k,g,n,z,ns,vs,ss,bareTL ps,0⟩
def bareTL:List Trm->List Trm
 |[]=>[]
 |p::r=>bareT p::bareTL r
end
theorem qC{t:Trm}(ht:cC t=0):allT ag t=true:=by
 unfold cC at ht;by_cases a:4096<(countT t 4096).1
 ·rw[if_pos a]at ht;exact absurd ht (by decide)
 rw[if_neg a]at ht;by_cases b:40<(countT t 4096).2
 ·rw[if_pos b]at ht;exact absurd ht (by decide)
 rw[if_neg b]at ht;by_cases c:allT ag t=true
 ·exact c
 ·rw[if_neg c]at ht;exact absurd ht (by decide)
theorem qD{t:Trm}(h:cC t=0):szT t<=4096/\deepT t<=40:=by
 unfold cC at h;by_cases a:4096<(countT t 4096).1
 ·rw[if_pos a]at h;exact absurd h (by decide)
 rw[if_neg a]at h;rw[countT_size t 4096 (by omega)]at a;by_cases b:40<(countT t 4096).2
 ·rw[if_pos b]at h;exact absurd h (by decide)
 rw[countT_deep t 4096 (by omega)]at b;omega
def zapF(f:Flt):Flt:=⟨f.err,0⟩
def zapR(r:Shape×Flt):Shape×Flt:=(r.1,zapF r.2)
section Bare
variable {T:Trm->Envt->Shape×Flt} (hT:∀p e,T (bareT p) e=zapR (T p e))
include hT
end Bare
section Bare2
variable {T:Trm->Envt->Shape×Flt} (hT:∀p e,T (bareT p) e=zapR (T p e))
include hT
end Bare2
end Go.Pd
end
section
namespace Go.Pd
open Go.AL
theorem rY(names:List Str)(xs:List Int):(fP names xs).Pairwise fun i j=>bH names i<=bH names j:=by
 have:=List.pairwise_mergeSort (le:=fun i j=>decide (bH names i<=bH names j)) (by
  intro a b c h1 h2;simp only[decide_eq_true_eq]at h1 h2⊢;exact List.le_trans h1 h2) (by
  intro a b;simp only[Bool.or_eq_true,decide_eq_true_eq];exact List.le_total _ _) xs
 exact this.imp fun h=>by simpa using h
theorem eh{s:Shape}(h:aj s=true):s.names=[]∨s.names.length=s.parts.length/\s.names.Nodup:=by have:=mg h;unfold bN at this;simpa using this
end Go.Pd
end
section
namespace Go.Pd
open Go.AL
theorem yL{l m:List Shape}(h:l.Perm m):∀a d:Int,deepL l a d=deepL m a d:=by
 induction h with
 |nil=>exact fun _ _=>rfl
 |cons x _ ih=>exact fun a d=>by simp only[deepL];exact ih _ _
 |swap x y l=>exact fun a d=>by simp only[deepL];congr 1;omega
 |trans _ _ h1 h2=>exact fun a d=>(h1 a d).trans (h2 a d)
mutual
theorem deep_sorted:∀(s:Shape)(a:Int),deepS (sortedS s) a=deepS s a
 |⟨k,p,n,ns,ps⟩,a=>by simp only[sortedS,deepS];rw[yL (js k p n ns ps da),deepL_sorted ps]
theorem deepL_sorted:∀(l:List Shape)(a d:Int),deepL (sortedL l) a d=deepL l a d
 |[],_,_=>rfl
 |x::r,a,d=>by simp only[sortedL,deepL,deep_sorted x,deepL_sorted r]
end
theorem gd:∀l:List Shape,sortedL l=l.map sortedS
 |[]=>rfl
 |a::r=>by rw[sortedL,gd r,List.map_cons]
theorem gx{s:Shape}(h:s.names.length=s.parts.length):(sortedS s).names.Perm s.names:=by
 obtain⟨k,p,n,ns,ps⟩:=s;simp only[sortedS];split
 ·rename_i e;rw[e]
 ·have h:ns.length=ps.length:=h;have:=(fX ⟨k,p,n,ns,ps⟩).map (bH ns);have e:=cO ns ([]:Str);rw[h]at e;rw[show(bP (⟨k,p,n,ns,ps⟩:Shape).parts.length).map (bH ns)=ns from e]at this;exact this
theorem jz(s:Shape):(sortedS s).parts.Perm (s.parts.map sortedS):=by obtain⟨k,p,n,ns,ps⟩:=s;simp only[sortedS];rw[<-gd];exact js k p n ns ps da
theorem ig(s:Shape):(sortedS s).parts.length=s.parts.length:=by rw[(jz s).length_eq,List.length_map]
theorem ej{s:Shape}(h:s.names=[]):(sortedS s).names=[]:=by obtain⟨k,p,n,ns,ps⟩:=s;simp only[sortedS];exact if_pos h
theorem ky(s:Shape):(sortedS s).kind=s.kind/\(sortedS s).pkg=s.pkg/\(sortedS s).name=s.name:=by cases s;exact⟨rfl,rfl,rfl⟩
theorem qE{α:Type}{f:α->Bool}{l m:List α}(h:l.Perm m):l.all f=m.all f:=by
 induction h with
 |nil=>rfl
 |cons x _ ih=>rw[List.all_cons,List.all_cons,ih]
 |swap x y l=>rw[List.all_cons,List.all_cons,List.all_cons,List.all_cons,<-Bool.and_assoc,<-Bool.and_assoc,Bool.and_comm (f y)]
 |trans _ _ h1 h2=>exact h1.trans h2
theorem ui{s:Shape}(h:cE s=true):cE (sortedS s)=true:=by
 unfold cE at h⊢;simp only[Bool.and_eq_true,decide_eq_true_eq]at h⊢;have hp:=gx h.1.1;refine⟨⟨?_,?_⟩,?_⟩
 ·rw[hp.length_eq,ig,h.1.1]
 ·rw[qE hp];exact h.1.2
 ·exact hp.nodup_iff.2 h.2
theorem BV{s:Shape}:decide ((sortedS s).parts=[])=decide (s.parts=[]):=by have:=ig s;refine decide_eq_decide.2 ?_;rw[<-List.length_eq_zero_iff,<-List.length_eq_zero_iff,this]
theorem oi{s:Shape}(h:aj s=true):aj (sortedS s)=true:=by
 obtain⟨e1,e2,e3⟩:=ky s;have e4:=ig s;have e5:=@BV s;unfold aj at h⊢;simp only[e1,e2,e3,e4,e5]at h⊢
 have sp:∀{c:Prop} [Decidable c] {a b x y:Bool},(if c then a else b)=true->(a=true->x=true)->(b=true->y=true)->(if c then x else y)=true:=fun{c} _ {a b x y} h h1 h2=>by
  by_cases k:c
  ·rw[if_pos k]at h⊢;exact h1 h
  ·rw[if_neg k]at h⊢;exact h2 h
 refine sp h (fun h=>?_) fun h=>sp h (fun h=>?_) fun h=>sp h (fun h=>?_) fun h=>sp h (fun h=>?_) fun h=>sp h (fun h=>?_) fun h=>sp h (fun h=>?_) fun h=>h
 ·simp only[Bool.and_eq_true,decide_eq_true_eq]at h⊢;exact⟨⟨h.1.1,ej h.1.2⟩,h.2⟩
 ·simp only[Bool.and_eq_true,decide_eq_true_eq]at h⊢;exact⟨⟨h.1.1,ej h.1.2⟩,h.2⟩
 ·rw[Bool.and_eq_true]at h⊢;exact⟨h.1,ui h.2⟩
 ·simp only[Bool.and_eq_true,decide_eq_true_eq]at h⊢;exact⟨⟨h.1.1,ej h.1.2⟩,h.2⟩
 ·simp only[Bool.and_eq_true,decide_eq_true_eq]at h⊢;exact⟨⟨h.1.1,ej h.1.2⟩,h.2⟩
 ·simp only[Bool.and_eq_true,decide_eq_true_eq]at h⊢;exact⟨⟨h.1.1,ej h.1.2⟩,h.2⟩
theorem qF{f:Shape->Bool}(hf:∀s,f s=true->f (sortedS s)=true):∀(n:Nat)(s:Shape),sz s<=n->allS f s=true->allS f (sortedS s)=true
 |0,s,h,_=>by have:=dG s;omega
 |n+1,s,h,ha=>by rw[ep,Bool.and_eq_true,mh,List.all_eq_true]at ha⊢;refine⟨hf s ha.1,fun x hx=>?_⟩;obtain⟨y,hy,rfl⟩:=List.mem_map.1 ((jz s).mem_iff.1 hx);have h1:=db hy;have h2:=eC s;exact qF hf n y (by omega) (ha.2 y hy)
theorem kz{s:Shape}(h:aC s=0):aC (aM s)=0:=by have h1:=bX h;unfold aM;rw[if_pos h];unfold aC;rw[sz_sorted,deep_sorted,if_neg (by omega),if_neg (by omega),if_pos (qF (fun s hs=>oi hs) _ s (Nat.le_refl _) h1.2.2)]
theorem yM{s:Shape}(hs:s.names.Pairwise (·<= ·))(h:s.names=[]∨s.names.length=s.parts.length/\s.names.Nodup):aw s=bP s.parts.length:=by
 unfold aw;split
 ·rfl
 ·rename_i hne;rcases h with h|⟨h1,h2⟩
  ·exact absurd h hne
  letI:=mK
  refine(lF h2 (fun x hx=>?_) (.refl _) ?_).symm
  ·rw[h1];exact hZ.1 hx
  ·rw[<-h1];unfold bP;rw[List.pairwise_map];refine List.Pairwise.imp_of_mem ?_ (List.pairwise_lt_range (n:=s.names.length));intro i j hi hj hij;have hi:=List.mem_range.1 hi;have hj:=List.mem_range.1 hj;unfold bH;simp only[Int.toNat_natCast,List.getD_eq_getElem?_getD,List.getElem?_eq_getElem hi,List.getElem?_eq_getElem hj,Option.getD_some];exact List.pairwise_iff_getElem.1 hs i j hi hj hij
theorem BW(s:Shape):(sortedS s).names.Pairwise (·<= ·):=by
 obtain⟨k,p,n,ns,ps⟩:=s;simp only[sortedS];split
 ·exact List.Pairwise.nil
 ·rename_i hne;unfold aw;rw[if_neg hne,List.pairwise_map];exact rY _ _
theorem Hc{s:Shape}(hs:s.names.Pairwise (·<= ·))(h:s.names=[]∨s.names.length=s.parts.length/\s.names.Nodup)(hp:∀p∈s.parts,sortedS p=p):sortedS s=s:=by
 have hpl:=yM hs h;obtain⟨k,p,n,ns,ps⟩:=s;rw[sortedS,hpl];have e:sortedL ps=ps:=by rw[gd];have hp:∀p∈ps,sortedS p=p:=hp;exact(List.map_congr_left hp).trans (List.map_id ps)
 have e1:=cO ps da;rw[e,show(⟨k,p,n,ns,ps⟩:Shape).parts.length=ps.length from rfl,e1];by_cases hn:ns=[]
 ·rw[if_pos hn,hn]
 ·rw[if_neg hn];rcases h with h|⟨h,_⟩
  ·exact absurd h hn
  have h:ns.length=ps.length:=h;have e2:=cO ns ([]:Str);rw[h]at e2;rw[show(bP ps.length).map (bH ns)=ns from e2]
theorem mq:∀(n:Nat)(s:Shape),sz s<=n->allS aj s=true->sortedS (sortedS s)=sortedS s
 |0,s,h,_=>by have:=dG s;omega
 |n+1,s,h,ha=>by rw[ep,Bool.and_eq_true,mh,List.all_eq_true]at ha;refine Hc (BW s) (eh (oi ha.1)) fun x hx=>?_;obtain⟨y,hy,rfl⟩:=List.mem_map.1 ((jz s).mem_iff.1 hx);have h1:=db hy;have h2:=eC s;exact mq n y (by omega) (ha.2 y hy)
theorem yN{s:Shape}(h:aC s=0):aM (aM s)=aM s:=by have hc:=kz h;rw[aM,if_pos hc,aM,if_pos h];exact mq _ s (Nat.le_refl _) (bX h).2.2
end Go.Pd
end
section
namespace Go.Pd
open Go.AL
def G2(s:Shape):Bool:=!decide (s.kind=9)
structure ClE(e:Envt):Prop where
 types:∀b∈e.types,allS G2 b.shape=true
 values:∀b∈e.values,allS G2 b.shape=true
 own:∀b∈e.own,allS G2 b.shape=true
section
variable {T:Trm->Envt->Shape×Flt} (hT:∀p e,ClE e->(T p e).2.err=0->allS G2 (T p e).1=true)
include hT
end
end Go.Pd
end
section
namespace Go.Pd
open Go.AL
theorem qG:∀(f:Nat)(s:Str)(i:Nat)(acc:List Int),s.length-i<f->i<=s.length->((jy s f i acc).2.err=0↔kq s i=none)
 |0,s,i,acc,h,_=>absurd h (Nat.not_lt_zero _)
 |f+1,s,i,acc,h,hi=>by
  rw[jy];by_cases k:i<s.length
  ·rw[if_pos k];by_cases b:ib (s.drop i)=0
   ·rw[if_pos b,BK k b];simp
   ·rw[if_neg b,yD k b];have:=AN (s:=s) (n:=i) hi;exact qG f s _ _ (by omega) this
  ·rw[if_neg k,BJ (by omega)];simp
theorem qH(s:Str):(eL s).2.err=0↔km s=none:=by rw[<-yC];exact qG _ s 0 [] (by omega) (Nat.zero_le _)
theorem yO{s:Str}(h:s.all cG=true):decide ((eL s).2.err=0)=fY s:=by
 unfold fY;rw[h,Bool.true_and]
 cases e:km s with
 |none=>rw[Xd ((qH s).2 e)];rfl
 |some k=>rw[Xf (fun q=>by have:=(qH s).1 q;rw[e]at this;cases this)];rfl
theorem BX{c:Prop}[Decidable c]{a b:Bool}{P:Prop}(h:(if c then a else b)=true)(f:a=true->P)(g:b=true->P):P:=by
 by_cases k:c
 ·rw[if_pos k]at h;exact f h
 ·rw[if_neg k]at h;exact g h
theorem qI{t:Trm}(h:jF t=true):ku t.names=true/\t.vars.all aI=true:=by
 unfold jF eY at h
 repeat' (refine BX h (fun h=>?_) (fun h=>?_))
 all_goals simp only[Bool.and_eq_true,decide_eq_true_eq,Bool.false_eq_true]at h
 all_goals refine⟨?_,?_⟩
 all_goals first
  |exact h.1.2|exact h.1.1.2
  |(have e1:=List.eq_nil_of_length_eq_zero (l:=t.vars) (by omega);rw[e1];rfl)
  |(have e1:=List.eq_nil_of_length_eq_zero (l:=t.names) (by omega);rw[e1];rfl)
  |exact h.elim
theorem yP{t:Trm}(h:ed t.names true=false):ag t=false:=by rw[Bool.eq_false_iff];intro e;unfold ag at e;rw[Bool.and_eq_true]at e;have:=(qI e.2).1;unfold ku at this;unfold ed at h;simp at this h;exact h this.1 this.2
theorem BY{t:Trm}(h:ed t.vars false=false):ag t=false:=by rw[Bool.eq_false_iff];intro e;unfold ag at e;rw[Bool.and_eq_true]at e;have:=(qI e.2).2;unfold ed at h;rw[this]at h;simp at h
def di(t:Trm):Bool:=allT (fun x=>decide (x.name.length<=2000000)&&decide (x.names.length<=2000000)) t
theorem yQ{t x:Trm}(h:di t=true)(hx:x∈t.parts):di x=true:=by unfold di at h⊢;rw[allT_eq,Bool.and_eq_true,allTL_all]at h;exact List.all_eq_true.1 h.2 x hx
theorem yR{t:Trm}(h:di t=true):t.name.length<=2000000/\t.names.length<=2000000:=by unfold di at h;rw[allT_eq,Bool.and_eq_true,Bool.and_eq_true,decide_eq_true_eq,decide_eq_true_eq]at h;exact h.1
end Go.Pd
end
section
namespace Go.Pd
open Go.AL
end Go.Pd
namespace Go.Pd
open Go.AL
theorem G3(x y:Int):(decide (x=x)&&(decide (y=y)&&true))=true:=by simp
theorem yS{e:Envt}(h:¬(!jv e)=true):e.values.length<=60:=by
 have h:jv e=true:=by simpa using h
 unfold jv at h;simp only[Bool.and_eq_true]at h;exact E7 h.1.2
end Go.Pd
end
