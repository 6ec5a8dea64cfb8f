/- Plain facts. What the functions' conditions say, proved. No condition. -/
import Derived.Test.YtlhofbjllomgiaaGreatDoorT05
import Derived.Deep.RegionHeld3
import Derived.Handy
import Derived.Lib.ItoaNum
import Derived.Shelf.SlSortCmp.QuietGrown
import Derived.Sort.Walk0
set_option linter.all false
set_option maxRecDepth 100000
noncomputable section
namespace Go.Pd
open Go Go.AL
variable {U:Nam->Prop}
def yr(U:Nam->Prop)(l k:List Bndg):Prop:=∀o n,(o=[]∨U ⟨o,n⟩)->aO l o n=aO k o n
structure EqU(U:Nam->Prop)(e f:Envt):Prop where
 self:e.self=f.self
 own:e.own=f.own
 types:yr U e.types f.types
 vals:yr U e.values f.values
theorem uo{l k:List Bndg}(h:yr U l k)(r:List Bndg):yr U (l++r) (k++r):=fun o n q=>by rw[gV,gV,h o n q]
mutual
theorem fill_use{l k:List Bndg}(h:yr U l k):∀s:Shape,(∀u∈useS s,U u)->fillS (aO l) s=fillS (aO k) s
 |⟨c,p,n,ns,ps⟩,hu=>by
  rw[useS]at hu;have hr:=fillL_use h ps fun u q=>hu u (Ow.2 (.inr q));rw[fillS,fillS,hr];by_cases hc:c=9
  ·rw[O3 hc,O3 hc];refine h p n ?_;by_cases hp:p=[]
   ·exact .inl hp
   ·refine .inr (hu _ (Ow.2 (.inl ?_)));rw[O3 ⟨hc,hp⟩];exact OH.2 rfl
  ·rw[O0 hc,O0 hc]
theorem fillL_use{l k:List Bndg}(h:yr U l k):∀s:List Shape,(∀u∈useSL s,U u)->fillL (aO l) s=fillL (aO k) s
 |[],_=>rfl
 |p::r,hu=>by rw[useSL]at hu;rw[fillL,fillL,fill_use h p fun u q=>hu u (Ow.2 (.inl q)),fillL_use h r fun u q=>hu u (Ow.2 (.inr q))]
end
theorem qR{l k:List Bndg}(h:yr U l k){s:Shape}(hu:∀u∈useS s,U u):aN s l=aN s k:=by unfold aN;rw[fill_use h s hu]
theorem wI{l k:List Bndg}(h:yr U l k)(a:Int):∀ss:List Shape,(∀u∈useSL ss,U u)->ar l a ss=ar k a ss
 |[],_=>by simp only[ar]
 |s::r,hu=>by rw[useSL]at hu;rw[fX,fX,qR h fun u q=>hu u (Ow.2 (.inl q)),wI h a r fun u q=>hu u (Ow.2 (.inr q))]
theorem EqU.with{e f:Envt}(h:EqU U e f)(l:List Bndg):EqU U (cb e l) (cb f l):=⟨h.self,h.own,h.types,uo h.vals l⟩
theorem GL{t p:Trm}(hp:p∈t.parts):∀u∈useT p,u∈useT t:=fun u hu=>by
 rw[mJ];refine Ow.2 (.inr (Ow.2 (.inr ?_)));generalize t.parts=l at hp
 induction l with
 |nil=>cases hp
 |cons x r ih=>
  rw[useTL];rcases O7.1 hp with rfl|hp
  ·exact Ow.2 (.inl hu)
  ·exact Ow.2 (.inr (ih hp))
theorem wJ:∀(n:Nat)(t:Trm),(∀u∈useT t,U u)->∀e f,EqU U e f->ag n t e=ag n t f
 |0,_,_,_,_,_=>rfl
 |n+1,t,ht,e,f,h=>by
  have hp:∀p∈t.parts,∀u∈useT p,U u:=fun p hp u hu=>ht u (GL hp u hu);have hs:∀u∈useSL t.shapes,U u:=fun u hu=>ht u (by rw[mJ];exact Ow.2 (.inr (Ow.2 (.inl hu))));show kT t (bh (ag n) t e)=kT t (bh (ag n) t f)
  rw[yh (Q:=fun p=>∀u∈useT p,U u) (R:=EqU U) (fun p hp e f h=>wJ n p hp e f h) (fun e f l h=>h.with l)
   (fun j _=>by
    rcases O5 j t.parts.length with hl|hl
    ·exact hp _ (AL.getD_mem t.parts j aS hl)
    ·rw[O4,O2 hl];intro u hu;exact absurd hu (by show u∉useT aS;unfold aS;simp[useT,useSL,useTL])) hp h (wI h.types _ _ hs) h.own h.self
   (fun k=>h.vals _ _ (by
    by_cases g:t.pkg=[]
    ·exact .inl g
    ·refine .inr (ht _ ?_);rw[mJ,O3 ⟨k,g⟩];exact Ow.2 (.inl (OH.2 rfl))))]
theorem GM{e f:Envt}(h:EqU U e f){t:Trm}(ht:∀u∈useT t,U u):fI t e=fI t f:=by unfold fI;rw[wJ _ t ht e f h]
structure EqCU(U:Nam->Prop)(r q:DcC):Prop where
 f:r.f=q.f
 e:EqU U r.c.e q.c.e
 m:r.c.m=q.c.m
theorem LC{d:Dcl}(hd:∀u∈qQ d,U u){c b:Cst}(h:EqU U c.e b.e)(hm:c.m=b.m):EqCU U (kW d c) (kW d b):=by
 unfold qQ at hd;unfold kW;by_cases k:d.kind=3
 ·rw[O3 k,O3 k,GM h fun u hu=>hd u (Ow.2 (.inr hu))];unfold JC;split
  ·exact⟨rfl,h.with _,by show bP _ _ _=bP _ _ _;rw[hm]⟩
  ·exact⟨rfl,h,hm⟩
 ·rw[O0 k,O0 k,qR h.types fun u hu=>hd u (Ow.2 (.inl hu))];unfold JD;split
  ·split
   ·exact⟨rfl,⟨h.self,by show _++_=_++_;rw[h.own],by rw[h.self];exact uo h.types _,h.vals⟩,by show bP _ _ _=bP _ _ _;rw[hm]⟩
   ·exact⟨rfl,⟨h.self,h.own,uo h.types _,h.vals⟩,by show bP _ _ _=bP _ _ _;rw[hm]⟩
  ·exact⟨rfl,h,hm⟩
theorem AX:∀(l:List Dcl) {c b:Cst},(∀u∈cU l,U u)->EqU U c.e b.e->c.m=b.m->(eE l c).f=(eE l b).f/\(eE l c).c.m=(eE l b).c.m
 |[],c,b,_,h,hm=>⟨rfl,hm⟩
 |d::r,c,b,hu,h,hm=>by
  rw[cU]at hu;have q:=LC (fun u z=>hu u (Ow.2 (.inl z))) h hm;simp only[eE];rw[q.f];split
  ·exact AX r (fun u z=>hu u (Ow.2 (.inr z))) q.e q.m
  ·exact⟨q.f,q.m⟩
theorem JH{base:List Bndg}{m k:Modu}(hm:k.decls=m.decls)(he:k.exports=m.exports)(hp:k.pos=m.pos){i j:ImC}(hf:i.f=j.f)(h:i.f.err=0->EqU (fun u=>u∈cU m.decls) i.e j.e):GI base k j=GI base m i:=by
 unfold GI;rw[hm,he,hp,<-hf];by_cases c:i.f.err=0
 ·rw[O3 c,O3 c];obtain⟨d1,d2⟩:=AX (U:=fun u=>u∈cU m.decls) m.decls (c:=⟨i.e,[]⟩) (b:=⟨j.e,[]⟩) (fun u hu=>hu) (h c) rfl;rw[<-d1,<-d2]
 ·rw[O0 c,O0 c]
theorem LD{m:Modu}(h:bq m=0):∀i∈m.imports,i.name≠[]:=by
 have ok:okM m=true:=by
  unfold bq at h;split at h
  ·assumption
  ·cases h
 unfold okM at ok;simp only[NZ]at ok;intro i hi e;have:=O9.1 ok.2.1 i hi;unfold mS at this;simp only[NZ]at this;have:=this.1.1.1.1;rw[e]at this;exact absurd this (by decide)
def jl(m:Modu):Modu:=⟨m.name,m.imports.filter (fun i=>dM (da m) i),m.decls,m.exports,m.pos⟩
theorem nX{m:Modu}(h:bq m=0):bq (jl m)=0:=by
 have ok:okM m=true:=by
  unfold bq at h;split at h
  ·assumption
  ·cases h
 have:okM (jl m)=true:=by
  unfold okM qL at ok⊢;simp only[NZ,O1]at ok⊢;obtain⟨⟨⟨⟨a1,a2⟩,a3⟩,a4⟩,b,c,d,⟨e1,e2⟩,e3⟩:=ok;refine⟨⟨⟨⟨a1,OT (QG _ _) a2⟩,a3⟩,a4⟩,?_,c,d,⟨?_,e2⟩,e3⟩
  ·exact O9.2 fun i hi=>O9.1 b i (OO.1 hi).1
  ·exact e1.sublist ((List.filter_sublist.map _).cons₂ _)
 unfold bq;rw[O3 this]
theorem GN{m:Modu}(h:bq m=0):da (jl m)=da m:=by unfold da;rw[O3 h,O3 (nX h)];rfl
theorem wK{us:List Nam}:∀{l:List Impt},(∀i∈l,dM us i=true)->cC us l=[]
 |[],_=>rfl
 |x::r,h=>by rw[cC,O3 (h x (Ox ..)),wK fun i hi=>h i (Og _ hi)]
theorem GO{m:Modu}(h:bq m=0):eF (jl m)=[]:=by unfold eF;rw[O3 (nX h),GN h];exact wK fun i hi=>(OO.1 hi).2
theorem LF{base:List Bndg}{m:Modu}{ds:List Depd}(h:(jM base m ds).f.err=0):jM base (jl m) ds=jM base m ds/\eF (jl m)=[]:=by
 have hc:bq m=0:=Qn fun c=>by unfold jM at h;rw[O0 c]at h;exact c h
 refine⟨?_,GO hc⟩;unfold jM at h⊢;rw[O3 hc]at h;rw[O3 hc,O3 (nX hc)];have us:da m=tZ [] (cU m.decls):=O3 hc;have mem:∀u,u∈da m↔u∈cU m.decls:=fun u=>by rw[us,pY];simp
 have ci:(gE ds m.imports (vr base m.name)).f.err=0:=Qn fun c=>by unfold GI at h;rw[O0 c]at h;exact c h
 obtain⟨h1,h2⟩:=ui ds _ _ ci;have k1:(gE ds (jl m).imports (vr base m.name)).f=cQ:=Fm ds _ _ fun i hi=>h1 i (OO.1 hi).1;obtain⟨_,h3⟩:=ui ds (jl m).imports (vr base m.name) (by rw[k1];rfl);have e0:(jl m).name=m.name:=rfl;rw[e0];refine JH rfl rfl rfl (by rw[h2,k1]) fun _=>?_;rw[h2,h3];have nn:=LD hc;obtain⟨n1,_⟩:=uk hc;have n2:((jl m).imports.map (·.name)).Nodup:=n1.sublist (List.filter_sublist.map _)
 have key:∀(a:List Bndg)(g:Impt->List Bndg),(∀i,∀b∈g i,b.pkg=i.name)->yr (fun u=>u∈cU m.decls) (a++m.imports.flatMap g) (a++(jl m).imports.flatMap g):=fun a g hg o n q=>by
  rw[gV,gV]
  have:aO (m.imports.flatMap g) o n=aO ((jl m).imports.flatMap g) o n:=by
   by_cases z:∃i∈m.imports,i.name=o
   ·obtain⟨i,hi,rfl⟩:=z;have hu:=(mem _).2 (q.resolve_left (nn i hi))
    have hi2:i∈(jl m).imports:=OO.2 ⟨hi,by
     unfold dM;rw[List.any_eq_true];exact⟨_,hu,Xd rfl⟩⟩
    rw[nV hg n1 i hi rfl,nV hg n2 i hi2 rfl]
   ·rw[AO hg fun i hi e=>z ⟨i,hi,e⟩,AO (l:=(jl m).imports) hg fun i hi e=>z ⟨i,(OO.1 hi).1,e⟩]
  rw[this]
 exact⟨rfl,rfl,key _ _ (N8 ds),key _ _ (N9 ds)⟩
end Go.Pd
end
section
namespace Go.Pd
open Go Go.AL
def two:List Str:=[[97,100,100],[115,117,98],[109,117,108],[108,101,115,115],[115,97,109,101],[98,111,116,104],[99,97,116]]
def ones:List Str:=[[110,111,116],[115,105,122,101],[115,104,111,119]]
structure Ev where
 f:Flt
 v:Thg
 st:Int
end Go.Pd
end
noncomputable section
namespace Go.Pd
open Go Go.AL
end Go.Pd
end
section
namespace Go.Pd
open Go Go.AL
def OkX(S:Nat)(t:Trm):Prop:=szT t<=S/\allT ao t=true/\nQ t=true
structure HeadH(x:Thg):Prop where
 lo:-9223372036854775808<=x.n
 hi:x.n<=9223372036854775807
 txt:x.text.length<=2000000
 nms:x.names.length<=2000000
 pts:x.parts.length<=1000000
 tru:x.kind=3->x.n=0∨x.n=1
 rcd:x.kind=5->x.names.length=x.parts.length
 one:x.kind=6∨x.kind=7->x.parts.length=1
mutual
inductive OkH(S:Nat):Thg->Prop
 |mk (x:Thg) (h:HeadH x) (hp:∀y∈x.parts,OkH S y) (hf:∀f,x.fn=some f->OkF S f):OkH S x
inductive OkF(S:Nat):Fnc->Prop
 |mk (f:Fnc) (hs:OkS S f.scp) (hb:(∃b,f.body=some b/\OkX S b/\f.args=(f.names.length:Int))∨(f.body=none/\((f.args=2/\f.basic∈two)∨(f.args=1/\f.basic∈ones)))):OkF S f
inductive OkS(S:Nat):Option Scp->Prop
 |nil:OkS S none
 |bnd (s:Scp) (hw:OkH S s.what) (hr:OkS S s.rest):OkS S (some s)
end
variable {S:Nat}
variable {mo st:Int}
end Go.Pd
end
section
namespace Go.Pd
open Go Go.AL
variable {k mo st:Int}
end Go.Pd
end
section
namespace Go.Pd
open Go Go.AL
def sc1(se:Str)(ty va:List Bndg):List (Nat×SObj):=[(900,.box (.agg [.str se,.lst (.st .bind) ty (some 901),.lst (.st .bind) va (some 902),.nils])),(901,.tail (.st .bind) ty.length),(902,.tail (.st .bind) va.length)]
def sc2(e:Envt):List (Nat×SObj):=[(900,.box (.agg [.str e.self,.lst (.st .bind) e.types none,.lst (.st .bind) e.values (some 901),.lst (.st .bind) e.own (some 902)])),(901,.tail (.st .bind) e.values.length),(902,.tail (.st .bind) e.own.length)]
def ck1(se:Str)(ty va:List Bndg):List (Nat×SObj):=[(900,.box (.agg [.str se,.lst (.st .bind) ty (some 901),.lst (.st .bind) va (some 902),.nils,.map 903])),(901,.tail (.st .bind) ty.length),(902,.tail (.st .bind) va.length),(903,.map .str (.st .item) [])]
def ck2(c:Cst):List (Nat×SObj):=[(900,.box (.agg [.str c.e.self,.lst (.st .bind) c.e.types none,.lst (.st .bind) c.e.values (some 901),.lst (.st .bind) c.e.own (some 902),.map 903])),(901,.tail (.st .bind) c.e.values.length),(902,.tail (.st .bind) c.e.own.length),(903,.map .str (.st .item) c.m)]
theorem uq(o:Str):∀(l m:List AL.Item),bc o (l++m)=bc o l++bc o m
 |[],m=>rfl
 |x::r,m=>by
  rw[OQ];simp only[bc,uq o r m];split
  ·rfl
  ·split<;>rfl
theorem kX(o:Str):∀l:List AL.Item,(bc o l).length<=l.length
 |[]=>Od _
 |x::r=>by
  have:=kX o r;simp only[bc];split
  ·simp only[O8];omega
  ·split<;>simp only[O8]<;>omega
theorem GP(o:Str)(l:List AL.Item)(k:Nat)(d:AL.Item)(h:k<l.length) :
  bc o (l.take (k+1))=bc o (l.take k)++(if(l.getD k d).kind=1 then[⟨o,(l.getD k d).name,(l.getD k d).shape⟩]else if(l.getD k d).kind=2 then[⟨o,(l.getD k d).name,eh o (l.getD k d).name⟩]else[]):=by
 rw[cD l k d h,uq];simp only[bc]
def obA(p:Prop):Ans->Ans
 |⟨some q,n,v,u⟩=>⟨some (p/\q),n,v,u⟩
 |⟨none,n,v,u⟩=>⟨some p,n,v,u⟩
theorem ur{p:Prop}{A:Ans}(h:∀q,(obA p A).ob=some q->q):p/\∀q,A.ob=some q->q:=by
 obtain⟨o,n,v,u⟩:=A
 cases o with|some q=>exact⟨(h _ rfl).1,fun q' e=>by cases e;exact(h _ rfl).2⟩|none=>exact⟨h _ rfl,fun q' e=>by cases e⟩
variable [Tabs] {P:Program} {f:Nat}
theorem ak.obA{args:List AV}{S:List (Nat×SObj)}{p:Prop}{A:Ans}(h:ak P f args S A):ak P f args S (Pd.obA p A):=by obtain⟨o,n,v,u⟩:=A;cases o<;>exact h
def LG(F1:Str->List Bndg->List Bndg->Str->Str->Shape->Ans)(F2:Envt->Str->Str->Shape->Ans):Pat:=fun args S=>
 match args with
 |[.ptr 900 0,o,n,x]=>(match arg .str o,arg .str n,arg (.st .shape) x with
  |some o,some n,some x=>(match S with
   |[(900,.box (.agg [.str se,.lst (.st .bind) ty (some 901),.lst (.st .bind) va (some 902),.nils])),(901,.tail (.st .bind) i),(902,.tail (.st .bind) j)]=>some (obA (i=ty.length/\j=va.length) (F1 se ty va o n x))
   |[(900,.box (.agg [.str se,.lst (.st .bind) ty none,.lst (.st .bind) va (some 901),.lst (.st .bind) ow (some 902)])),(901,.tail (.st .bind) i),(902,.tail (.st .bind) j)]=>some (obA (i=va.length/\j=ow.length) (F2 ⟨se,ty,va,ow⟩ o n x))
   |_=>none)
  |_,_,_=>none)
 |_=>none
theorem LH{F1:Str->List Bndg->List Bndg->Str->Str->Shape->Ans}{F2:Envt->Str->Str->Shape->Ans}(he:Enters P f)
 (h1:∀se ty va o n x,(∀q,(F1 se ty va o n x).ob=some q->q)->ak P f [.ptr 900 0,.str o,.str n,.st .shape x] (sc1 se ty va) (F1 se ty va o n x))
 (h2:∀e o n x,(∀q,(F2 e o n x).ob=some q->q)->ak P f [.ptr 900 0,.str o,.str n,.st .shape x] (sc2 e) (F2 e o n x)):ah P f (LG F1 F2):=by
 intro args S A hA ho _;unfold LG at hA;split at hA
 ·split at hA
  ·rename_i o n x k1 k2 k3;split at hA
   ·cases hA;obtain⟨⟨q1,q2⟩,hq⟩:=ur ho;clear ho;subst q1 q2;exact⟨he,ak.args (.cons (Rd.refl _) (.cons (Rd.arg k1) (.cons (Rd.arg k2) (.cons (Rd.arg k3) .nil)))) (ak.obA (h1 _ _ _ _ _ _ hq))⟩
   ·cases hA;obtain⟨⟨q1,q2⟩,hq⟩:=ur ho;clear ho;subst q1 q2;exact⟨he,ak.args (.cons (Rd.refl _) (.cons (Rd.arg k1) (.cons (Rd.arg k2) (.cons (Rd.arg k3) .nil)))) (ak.obA (h2 ⟨_,_,_,_⟩ _ _ _ hq))⟩
   ·cases hA
  ·cases hA
 ·cases hA
def Nb(F:Envt->Str->Shape->Ans):Pat:=fun args S=>
 match args with
 |[.ptr 900 0,n,x]=>(match arg .str n,arg (.st .shape) x with
  |some n,some x=>(match S with
   |[(900,.box (.agg [.str se,.lst (.st .bind) ty none,.lst (.st .bind) va (some 901),.lst (.st .bind) ow (some 902)])),(901,.tail (.st .bind) i),(902,.tail (.st .bind) j)]=>some (obA (i=va.length/\j=ow.length) (F ⟨se,ty,va,ow⟩ n x))
   |_=>none)
  |_,_=>none)
 |_=>none
theorem LI{F:Envt->Str->Shape->Ans}(he:Enters P f)
 (h2:∀e n x,(∀q,(F e n x).ob=some q->q)->ak P f [.ptr 900 0,.str n,.st .shape x] (sc2 e) (F e n x)):ah P f (Nb F):=by
 intro args S A hA ho _;unfold Nb at hA;split at hA
 ·split at hA
  ·rename_i n x k2 k3;split at hA
   ·cases hA;obtain⟨⟨q1,q2⟩,hq⟩:=ur ho;clear ho;subst q1 q2;exact⟨he,ak.args (.cons (Rd.refl _) (.cons (Rd.arg k2) (.cons (Rd.arg k3) .nil))) (ak.obA (h2 ⟨_,_,_,_⟩ _ _ hq))⟩
   ·cases hA
  ·cases hA
 ·cases hA
def JI(F:Cst->Dcl->Ans):Pat:=fun args S=>
 match args with
 |[.ptr 900 0,d]=>(match arg (.st .decl) d with
  |some d=>(match S with
   |[(900,.box (.agg [.str se,.lst (.st .bind) ty none,.lst (.st .bind) va (some 901),.lst (.st .bind) ow (some 902),.map 903])),(901,.tail (.st .bind) i),(902,.tail (.st .bind) j),(903,.map .str (.st .item) m)]=>some (obA (i=va.length/\j=ow.length) (F ⟨⟨se,ty,va,ow⟩,m⟩ d))
   |_=>none)
  |_=>none)
 |_=>none
theorem JJ{F:Cst->Dcl->Ans}(he:Enters P f)
 (h2:∀c d,Wf (.st .decl) d->(∀q,(F c d).ob=some q->q)->ak P f [.ptr 900 0,.st .decl d] (ck2 c) (F c d)):ah P f (JI F):=by
 intro args S A hA ho _;unfold JI at hA;split at hA
 ·split at hA
  ·rename_i d k2;split at hA
   ·cases hA;obtain⟨⟨q1,q2⟩,hq⟩:=ur ho;clear ho;subst q1 q2;exact⟨he,ak.args (.cons (Rd.refl _) (.cons (Rd.arg k2) .nil)) (ak.wf fun hw=>ak.obA (h2 ⟨⟨_,_,_,_⟩,_⟩ _ (WfL.two (τ:=.st .decl) hw) hq))⟩
   ·cases hA
  ·cases hA
 ·cases hA
def Nc(F:Str->List Bndg->List Bndg->Depd->Ans):Pat:=fun args S=>
 match args with
 |[.ptr 900 0,d]=>(match arg (.st .dep) d with
  |some d=>(match S with
   |[(900,.box (.agg [.str se,.lst (.st .bind) ty (some 901),.lst (.st .bind) va (some 902),.nils,.map 903])),(901,.tail (.st .bind) i),(902,.tail (.st .bind) j),(903,.map .str (.st .item) [])]=>some (obA (i=ty.length/\j=va.length) (F se ty va d))
   |_=>none)
  |_=>none)
 |_=>none
theorem LJ{F:Str->List Bndg->List Bndg->Depd->Ans}(he:Enters P f)
 (h2:∀se ty va d,Wf (.st .dep) d->(∀q,(F se ty va d).ob=some q->q)->ak P f [.ptr 900 0,.st .dep d] (ck1 se ty va) (F se ty va d)):ah P f (Nc F):=by
 intro args S A hA ho _;unfold Nc at hA;split at hA
 ·split at hA
  ·rename_i d k2;split at hA
   ·cases hA;obtain⟨⟨q1,q2⟩,hq⟩:=ur ho;clear ho;subst q1 q2;exact⟨he,ak.args (.cons (Rd.refl _) (.cons (Rd.arg k2) .nil)) (ak.wf fun hw=>ak.obA (h2 _ _ _ _ (WfL.two (τ:=.st .dep) hw) hq))⟩
   ·cases hA
  ·cases hA
 ·cases hA
end Go.Pd
end
noncomputable section
namespace Go.Pd
open Go Go.AL
def jN(n:Str):List Depd->Nat->Int->Int
 |[],_,a=>a
 |d::r,k,a=>if d.name=n then jN n r (k+1) k else jN n r (k+1) a
theorem wL(n:Str):∀(l:List Depd)(k:Nat)(a:Int),(mb l n=none/\jN n l k a=a)∨∃i:Nat,i<l.length/\jN n l k a=((k+i:Nat):Int)/\mb l n=some (l.getD i (dfl (.st .dep)))
 |[],_,_=>.inl ⟨rfl,rfl⟩
 |d::r,k,a=>by
  simp only[jN,mb];have key:∀b,(mb r n=none/\jN n r (k+1) b=b)∨∃i:Nat,i<r.length/\jN n r (k+1) b=((k+1+i:Nat):Int)/\mb r n=some (r.getD i (dfl (.st .dep))):=fun b=>wL n r (k+1) b
  have more:∀b,(∃i:Nat,i<r.length/\jN n r (k+1) b=((k+1+i:Nat):Int)/\mb r n=some (r.getD i (dfl (.st .dep))))->∃i:Nat,i<(d::r).length/\jN n r (k+1) b=((k+i:Nat):Int)/\mb r n=some ((d::r).getD i (dfl (.st .dep))):=fun b ⟨i,h1,h2,h3⟩=>
   ⟨i+1,by simp only[O8];omega,by rw[h2];congr 1;omega,by rw[h3];rfl⟩
  by_cases e:d.name=n
  ·rw[O3 e,O3 e];rcases key k with⟨h1,h2⟩|h
   ·exact .inr ⟨0,by simp,by rw[h2];rfl,by rw[h1];rfl⟩
   ·obtain⟨i,h1,h2,h3⟩:=more _ h;exact .inr ⟨i,h1,h2,by rw[h3]⟩
  ·rw[O0 e,O0 e];rcases key a with⟨h1,h2⟩|h
   ·exact .inl ⟨by rw[h1],h2⟩
   ·obtain⟨i,h1,h2,h3⟩:=more _ h;exact .inr ⟨i,h1,h2,by rw[h3]⟩
theorem qb(o:Str):∀l:List AL.Item,(dq o l).length<=l.length
 |[]=>Od _
 |x::r=>by have:=qb o r;simp only[dq];split<;>simp only[O8]<;>omega
theorem AY{m:Modu}(h:bq m=0):m.imports.length<=8/\m.exports.length<=60/\m.exports.Nodup/\∀d∈m.decls,d.kind=1∨d.kind=2∨d.kind=3:=by
 have ne:=(uk h).2;unfold bq at h;split at h
 ·rename_i g;unfold okM qL at g;simp only[NZ,O1,O9]at g;refine⟨g.1.1.1.2,g.1.1.2,ne,fun d hd=>?_⟩;have:=g.2.2.1 d hd;unfold lX gH at this;rw[NZ]at this;have:=this.1;by_cases k1:d.kind=1
  ·exact .inl k1
  by_cases k2:d.kind=2
  ·exact .inr (.inl k2)
  by_cases k3:d.kind=3
  ·exact .inr (.inr k3)
  exfalso;simp[k1,k2,k3]at this
 ·cases h
structure GrC(c b:Cst):Prop where
 self:b.e.self=c.e.self
 ty:b.e.types.length<=c.e.types.length+1
 va:b.e.values.length<=c.e.values.length+1
 ow:b.e.own.length<=c.e.own.length+1
theorem Nd(d:Dcl)(c:Cst):GrC c (kW d c).c:=by
 unfold kW;split
 ·unfold JC;split
  ·exact⟨rfl,by simp[cb],by simp[cb],by simp[cb]⟩
  ·exact⟨rfl,Ri _,Ri _,Ri _⟩
 ·unfold JD;split
  ·split
   ·exact⟨rfl,by simp,by simp,by simp⟩
   ·exact⟨rfl,by simp,by simp,by simp⟩
  ·exact⟨rfl,Ri _,Ri _,Ri _⟩
theorem LK:Its []:=fun x h=>by cases h
open Go.Pd Go.Proofs Go.Shelf Go.Lib Go.Sort Go.Maps
variable [Tabs] {P:Program} {ρ:Ren}
def uu(gc:Nat):Pat:=fun args S=>
 match args,S with
 |[.glst s n 900,.fn g []],[(900,.grow (.st .item) s' xs)]=>
  if g=gc then some ⟨some ((s=s'/\n=xs.length)/\(xs.map (·.name)).Nodup/\xs.length<=1000000),none,.tup [],[(900,.grow (.st .item) s (AN xs))]⟩else none
 |_,_=>none
theorem AZ{f gc:Nat}(L:SlLaysF0.n6 P ρ)(hf:ρ.f 6=f)(aE:∀w,(isAgg (ρ.t 24)).run P w=.ok true w)(zE:∀w,(Go.sizeOf (ρ.t 24)).run P w=.ok 7 w)(eg:∀args w,(callFunc gc args).run P w=.ok (.enter gc args) w)
 {cf:Str->Str->Int}(hcf:∀a b:Str,decide (cf a b<0)=ltStr a b)(C:N7 P gc 7 1 cf)(he:AL.Enters P f):ah P f (uu gc):=by
 subst hf;intro args S A h hob hkeys;unfold uu at h;split at h
 ·rename_i s n g s' xs;split at h
  ·rename_i e;subst e;cases h;obtain⟨⟨rfl,rfl⟩,h3,h4⟩:=hob _ rfl;exact⟨he,vq (τ:=.st .item) (q:=1) L aE zE eg (fun x:AL.Item=>x.name) (fun _=>rfl) cf hcf C s _ xs rfl h3 (by omega) _⟩
  ·cases h
 ·cases h
end Go.Pd
end
noncomputable section
namespace Go.Proofs
open Go.RowKit Go.Shelf Go.AL Go.Sort Go.Pd Go.Lib
set_option maxHeartbeats 4000000
theorem NQ(w:World)(A B:Obj):(w.alloc A).alloc B=grow (w.drewN 0) #[A,B]:=by rw[alloc_eq_grow,alloc_eq_grow,grow_grow];rfl
theorem Tryz.cmp26(a b:ByteArray)(x0 x2 x3 x4 x5 x6 y0 y2 y3 y4 y5 y6:Value)(w:World) :
  Calls Tryz.prog 26 #[.agg #[x0,.string a,x2,x3,x4,x5,x6],.agg #[y0,.string b,y2,y3,y4,y5,y6]] w fun e w'=>e=.returned (.int .i64 (compareBytes a.data.toList b.data.toList))/\∃q os',w'=grow (w.drewN q) os':=by
 go_enter Tryz.func26,Tryz.ntmps26
 go_wp2_with (go_at_call 27;refine(Any.strings_Compare Tryz.lays106 _ _ _).mono ?_;rintro e w' ⟨rfl,rfl⟩)
 go_ret
 exact⟨rfl,0,_,NQ _ _ _⟩
theorem Tryz.cmpI:N7 Tryz.prog 26 7 1 (fun a b=>compareBytes a b):=by
 intro W xs ys a b hx hy h1 h2 ha hb
 match xs,hx with
 |[x0,x1,x2,x3,x4,x5,x6],_=>
  match ys,hy with
  |[y0,y1,y2,y3,y4,y5,y6],_=>
   obtain rfl:x1=.string ⟨a.toArray⟩:=by simpa using ha
   obtain rfl:y1=.string ⟨b.toArray⟩:=by simpa using hb
   exact Tryz.cmp26 ⟨a.toArray⟩ ⟨b.toArray⟩ x0 x2 x3 x4 x5 x6 y0 y2 y3 y4 y5 y6 W
end Go.Proofs
namespace Go.AL.Seat
open Go Go.AL Go.Proofs Go.Shelf Go.Pd Go.RowKit
variable [Tabs]
theorem GQ:ah Tryz.prog 25 (uu 26):=
 AZ Tryz.sortf rfl (fun w=>by kernel_rfl) (fun w=>by kernel_rfl) (enters_of Tryz.func26 (by kernel_rfl) rfl) (fun a b=>dz a b) Tryz.cmpI (Enters.mk' Tryz.func25 (by kernel_rfl))
end Go.AL.Seat
end
section
open Go Go.AL Go.Pd
namespace Go.AL.Seat
theorem JK(c:Int)  :
  if decide ((97:Int)<=c)=true then True/\decide (c<=(122:Int))=dI c/\True else True/\false=dI c/\True:=by
 unfold dI;simp only[lN];split<;>simp[*]
theorem JL(c:Int)  :
  if decide ((65:Int)<=c)=true then True/\decide (c<=(90:Int))=dR c/\True else True/\false=dR c/\True:=by
 unfold dR;simp only[lN];split<;>simp[*]
theorem JM(c:Int)  :
  if decide ((48:Int)<=c)=true then True/\decide (c<=(57:Int))=iI c/\True else True/\false=iI c/\True:=by
 unfold iI;simp only[lN];split<;>simp[*]
theorem LL(c:Int)  :
  let A:=True/\true=iB c/\True;if dI c=true then A else if dR c=true then A else if iI c=true then A else True/\decide (c=(95:Int))=iB c/\True:=by
 conv=>zeta
 unfold iB;cases dI c<;>cases dR c<;>cases iI c<;>simp
theorem GR(s:Str)(hs:Wf .str s) :
  let A:=True/\false=dJ dI s/\True;let B:=(↑(List.length s):Int);let C:=(0:Int);let D:=s=s/\false=false/\B=B/\True;if decide (s=[])=true then A else if decide ((24:Int)<B)=true then A else(C<=C/\C<B)/\if(!dI (↑(UInt8.toNat (List.getD s (Int.toNat C) (0:UInt8))):Int))=true then A else(∃(x:Nat),(x<=List.length s/\dJ dI s=List.all (List.drop x s) fun(c:UInt8)=>iB (bI c))/\C=(↑x:Int)/\D)/\∀(x:Nat),let E:=(↑x:Int);(x<=List.length s/\dJ dI s=List.all (List.drop x s) fun(c:UInt8)=>iB (bI c))->if decide (E<B)=true then(C<=E/\E<B)/\if(!iB (↑(UInt8.toNat (List.getD s (Int.toNat E) (0:UInt8))):Int))=true then A else inR IntKind.i64 (E+(1:Int))/\∃(y:Nat),(y<=List.length s/\dJ dI s=List.all (List.drop y s) fun(c:UInt8)=>iB (bI c))/\List.length s-y<List.length s-x/\E+(1:Int)=(↑y:Int)/\D else True/\true=dJ dI s/\True:=by
 conv=>zeta
 have hlen:=hs.str;have eb:∀b:UInt8,(b.toNat:Int)=bI b:=fun _=>rfl;simp only[lN,Oi,Int.toNat_zero,OV,OK,eb,dJ];generalize dI (bI (s.getD 0 0))=f0;by_cases h0:s=[]
 ·simp[h0]
 have hpos:0<s.length:=PG.2 h0;by_cases h1:s.length<=24
 ·rw[O0 h0,O0 (by omega)];refine⟨by omega,?_⟩
  cases f0 with
  |false=>simp
  |true=>
   simp only[RJ,P4,OL,h0,h1,R0,decide_true,R3,OW];refine⟨⟨0,⟨by omega,rfl⟩,rfl⟩,?_⟩;rintro k ⟨h3,h4⟩;split
   ·have hk:k<s.length:=by omega
    rw[an s k 0 hk,P6]at h4;generalize iB (bI (s.getD k 0))=r at h4⊢;refine⟨by omega,?_⟩
    cases r with|false=>simpa using h4.symm|true=>simp only[RJ,P4,OL];exact⟨aA hk hlen,k+1,⟨by omega,by simpa using h4⟩,by omega,by omega⟩
   ·have hk:k=s.length:=by omega
    subst hk;simpa using h4.symm
 ·rw[O0 h0,O3 (by omega)];simp[h1]
theorem GS(s:Str)(hs:Wf .str s) :
  let A:=True/\false=dJ dR s/\True;let B:=(↑(List.length s):Int);let C:=(0:Int);let D:=s=s/\false=false/\B=B/\True;if decide (s=[])=true then A else if decide ((24:Int)<B)=true then A else(C<=C/\C<B)/\if(!dR (↑(UInt8.toNat (List.getD s (Int.toNat C) (0:UInt8))):Int))=true then A else(∃(x:Nat),(x<=List.length s/\dJ dR s=List.all (List.drop x s) fun(c:UInt8)=>iB (bI c))/\C=(↑x:Int)/\D)/\∀(x:Nat),let E:=(↑x:Int);(x<=List.length s/\dJ dR s=List.all (List.drop x s) fun(c:UInt8)=>iB (bI c))->if decide (E<B)=true then(C<=E/\E<B)/\if(!iB (↑(UInt8.toNat (List.getD s (Int.toNat E) (0:UInt8))):Int))=true then A else inR IntKind.i64 (E+(1:Int))/\∃(y:Nat),(y<=List.length s/\dJ dR s=List.all (List.drop y s) fun(c:UInt8)=>iB (bI c))/\List.length s-y<List.length s-x/\E+(1:Int)=(↑y:Int)/\D else True/\true=dJ dR s/\True:=by
 conv=>zeta
 have hlen:=hs.str;have eb:∀b:UInt8,(b.toNat:Int)=bI b:=fun _=>rfl;simp only[lN,Oi,Int.toNat_zero,OV,OK,eb,dJ];generalize dR (bI (s.getD 0 0))=f0;by_cases h0:s=[]
 ·simp[h0]
 have hpos:0<s.length:=PG.2 h0;by_cases h1:s.length<=24
 ·rw[O0 h0,O0 (by omega)];refine⟨by omega,?_⟩
  cases f0 with
  |false=>simp
  |true=>
   simp only[RJ,P4,OL,h0,h1,R0,decide_true,R3,OW];refine⟨⟨0,⟨by omega,rfl⟩,rfl⟩,?_⟩;rintro k ⟨h3,h4⟩;split
   ·have hk:k<s.length:=by omega
    rw[an s k 0 hk,P6]at h4;generalize iB (bI (s.getD k 0))=r at h4⊢;refine⟨by omega,?_⟩
    cases r with|false=>simpa using h4.symm|true=>simp only[RJ,P4,OL];exact⟨aA hk hlen,k+1,⟨by omega,by simpa using h4⟩,by omega,by omega⟩
   ·have hk:k=s.length:=by omega
    subst hk;simpa using h4.symm
 ·rw[O0 h0,O3 (by omega)];simp[h1]
theorem LM(s:Str)  :
  let A:=101;let B:=True/\true=zP s/\True;if decide (s=([109,111,100,117,108,A]:Str))=true then B else if decide (s=([105,109,112,111,114,116]:Str))=true then B else if decide (s=([112,105,110]:Str))=true then B else if decide (s=([114,97,110,103,A]:Str))=true then B else if decide (s=([116,121,112,A]:Str))=true then B else if decide (s=([111,112,97,113,117,A]:Str))=true then B else if decide (s=([108,A,116]:Str))=true then B else if decide (s=([105,110]:Str))=true then B else if decide (s=([A,120,112,111,114,116]:Str))=true then B else if decide (s=([102,117,110]:Str))=true then B else if decide (s=([105,102]:Str))=true then B else if decide (s=([116,104,A,110]:Str))=true then B else if decide (s=([A,108,115,A]:Str))=true then B else if decide (s=([99,97,115,A]:Str))=true then B else if decide (s=([111,102]:Str))=true then B else if decide (s=([97,115]:Str))=true then B else if decide (s=([110,A,119]:Str))=true then B else if decide (s=([114,97,119]:Str))=true then B else if decide (s=([116,114,117,A]:Str))=true then B else if decide (s=([102,97,108,115,A]:Str))=true then B else True/\false=zP s/\True:=by
 conv=>zeta
 refine aa (fun h=>?_) (fun h0=>?_)
 ·rw[Xo h];exact Xr
 refine aa (fun h=>?_) (fun h1=>?_)
 ·rw[Xo h];exact Xr
 refine aa (fun h=>?_) (fun h2=>?_)
 ·rw[Xo h];exact Xr
 refine aa (fun h=>?_) (fun h3=>?_)
 ·rw[Xo h];exact Xr
 refine aa (fun h=>?_) (fun h4=>?_)
 ·rw[Xo h];exact Xr
 refine aa (fun h=>?_) (fun h5=>?_)
 ·rw[Xo h];exact Xr
 refine aa (fun h=>?_) (fun h6=>?_)
 ·rw[Xo h];exact Xr
 refine aa (fun h=>?_) (fun h7=>?_)
 ·rw[Xo h];exact Xr
 refine aa (fun h=>?_) (fun h8=>?_)
 ·rw[Xo h];exact Xr
 refine aa (fun h=>?_) (fun h9=>?_)
 ·rw[Xo h];exact Xr
 refine aa (fun h=>?_) (fun h10=>?_)
 ·rw[Xo h];exact Xr
 refine aa (fun h=>?_) (fun h11=>?_)
 ·rw[Xo h];exact Xr
 refine aa (fun h=>?_) (fun h12=>?_)
 ·rw[Xo h];exact Xr
 refine aa (fun h=>?_) (fun h13=>?_)
 ·rw[Xo h];exact Xr
 refine aa (fun h=>?_) (fun h14=>?_)
 ·rw[Xo h];exact Xr
 refine aa (fun h=>?_) (fun h15=>?_)
 ·rw[Xo h];exact Xr
 refine aa (fun h=>?_) (fun h16=>?_)
 ·rw[Xo h];exact Xr
 refine aa (fun h=>?_) (fun h17=>?_)
 ·rw[Xo h];exact Xr
 refine aa (fun h=>?_) (fun h18=>?_)
 ·rw[Xo h];exact Xr
 refine aa (fun h=>?_) (fun h19=>?_)
 ·rw[Xo h];exact Xr
 refine⟨trivial,?_,trivial⟩;symm;refine Xf fun hm=>?_;unfold Mn at hm;rcases O7.1 hm with e|hm
 ·exact h0 (Xd e)
 rcases O7.1 hm with e|hm
 ·exact h1 (Xd e)
 rcases O7.1 hm with e|hm
 ·exact h2 (Xd e)
 rcases O7.1 hm with e|hm
 ·exact h3 (Xd e)
 rcases O7.1 hm with e|hm
 ·exact h4 (Xd e)
 rcases O7.1 hm with e|hm
 ·exact h5 (Xd e)
 rcases O7.1 hm with e|hm
 ·exact h6 (Xd e)
 rcases O7.1 hm with e|hm
 ·exact h7 (Xd e)
 rcases O7.1 hm with e|hm
 ·exact h8 (Xd e)
 rcases O7.1 hm with e|hm
 ·exact h9 (Xd e)
 rcases O7.1 hm with e|hm
 ·exact h10 (Xd e)
 rcases O7.1 hm with e|hm
 ·exact h11 (Xd e)
 rcases O7.1 hm with e|hm
 ·exact h12 (Xd e)
 rcases O7.1 hm with e|hm
 ·exact h13 (Xd e)
 rcases O7.1 hm with e|hm
 ·exact h14 (Xd e)
 rcases O7.1 hm with e|hm
 ·exact h15 (Xd e)
 rcases O7.1 hm with e|hm
 ·exact h16 (Xd e)
 rcases O7.1 hm with e|hm
 ·exact h17 (Xd e)
 rcases O7.1 hm with e|hm
 ·exact h18 (Xd e)
 rcases O7.1 hm with e|hm
 ·exact h19 (Xd e)
 exact absurd hm Pz
theorem LN(s:Str)  :
  if dJ dI s=true then True/\(!zP s)=aX s/\True else True/\false=aX s/\True:=by
 unfold aX;cases dJ dI s<;>simp
theorem JN(s:Str)  :
  True/\dJ dR s=eG s/\True:=by
 simp[eG]
theorem GU(a:List Str)(v:Str)(ha:Wf (.lst .str) a) :
  let A:=(0:Int);let B:=(↑(List.length a):Int);let C:=a=a/\v=v/\B=B/\True;(∃(x:Nat),(x<=List.length a/\ct a v A=ct (List.drop x a) v (↑x:Int))/\A=(↑x:Int)/\C)/\∀(x:Nat),let D:=(↑x:Int);x<=List.length a/\ct a v A=ct (List.drop x a) v D->if decide (D<B)=true then(A<=D/\D<B)/\if decide (v=List.getD a (Int.toNat D) (dfl Ty.str))=true then True/\D=ct a v A/\True else inR IntKind.i64 (D+(1:Int))/\∃(y:Nat),(y<=List.length a/\ct a v A=ct (List.drop y a) v (↑y:Int))/\List.length a-y<List.length a-x/\D+(1:Int)=(↑y:Int)/\C else True/\(-1:Int)=ct a v A/\True:=by
 conv=>zeta
 have la:=ha.len;simp only[Oi,Pw,OV,OK];refine⟨⟨0,⟨by omega,by simp⟩,by simp⟩,?_⟩;rintro k ⟨h1,h3⟩;apply aa<;>intro h
 ·replace h:=Xo h;have hk:k<a.length:=by omega
  rw[an a k (dfl .str) hk]at h3;refine⟨by omega,?_⟩;by_cases e:a.getD k (dfl .str)=v
  ·rw[O3 (by simpa using e.symm),h3,ct,O3 e]
  ·rw[O0 (by simpa using fun h=>e h.symm)];exact⟨aA hk la,k+1,⟨by omega,by rw[h3,ct,O0 e];rfl⟩,by omega,by omega⟩
 ·replace h:¬((k:Int)<(a.length:Int)):=fun e=>h (Xd e);have e:k=a.length:=by omega
  subst e;rw[h3];simp[ct]
theorem JO(s:Str)  :
  let A:=True/\true=nM s/\True;if decide (s=([73,110,116]:Str))=true then A else if decide (s=([66,111,111,108]:Str))=true then A else if decide (s=([84,101,120,116]:Str))=true then A else True/\decide (s=([65,110,121]:Str))=nM s/\True:=by
 conv=>zeta
 simp only[Pw,OV,OK,nM];by_cases a:s=[73,110,116]<;>by_cases b:s=[66,111,111,108]<;>by_cases c:s=[84,101,120,116]<;>by_cases d:s=[65,110,121]<;>simp[a,b,c,d]
theorem GV(a:List Str)  :
  True/\a=a/\True:=by
 trivial
theorem JP(s:Shape)(hs:Wf (.st .shape) s)(ho:s.parts.length *16<=140737488355328) :
  let A:=(↑(List.length s.names):Int);let B:=True/\false=eH s/\True;let C:=List.length s.names=List.length s.parts;let D:=s=s/\false=false/\s.names=s.names/\A=A/\s=s/\True;let E:=(List.mergeSort s.names fun(x y:Str)=>decide (x<=y));if(!decide (A=(↑(List.length s.parts):Int)))=true then B else(∃(x:Nat),(x<=List.length s.names/\C/\eH s=(List.all (List.drop x s.names) aX&&decide (List.Nodup s.names)))/\(0:Int)=(↑x:Int)/\D)/\∀(x:Nat),let F:=(↑x:Int);x<=List.length s.names/\C/\eH s=(List.all (List.drop x s.names) aX&&decide (List.Nodup s.names))->if decide (F<A)=true then((0:Int)<=F/\F<A)/\if(!aX (List.getD s.names (Int.toNat F) (dfl Ty.str)))=true then B else inR IntKind.i64 (F+(1:Int))/\∃(y:Nat),(y<=List.length s.names/\C/\eH s=(List.all (List.drop y s.names) aX&&decide (List.Nodup s.names)))/\List.length s.names-y<List.length s.names-x/\F+(1:Int)=(↑y:Int)/\D else List.length s.names*(16:Nat)<=(140737488355328:Nat)/\List.length E=List.length E/\True/\decide ((↑(List.length (Lib.compact E)):Int)=A)=eH s/\True:=by
 conv=>zeta
 have ln:=hs.names.len;simp only[Oi,Pw,OV,OK];apply aa<;>intro h
 ·have:s.names.length≠s.parts.length:=by simp at h;omega
  simp[eH,this]
 have hl:s.names.length=s.parts.length:=by simp at h;omega
 refine⟨⟨0,⟨by omega,hl,by simp[eH,hl]⟩,rfl⟩,?_⟩;rintro k ⟨h1,_,h3⟩;apply aa<;>intro h
 ·replace h:=Xo h;have hk:k<s.names.length:=by omega
  rw[an s.names k (dfl .str) hk]at h3;refine⟨by omega,?_⟩;simp only[P6]at h3;cases e:aX (s.names.getD k (dfl .str))
  ·rw[e]at h3;rw[h3];simp
  ·simp only[e,OW]at h3;exact⟨aA hk ln,k+1,⟨by omega,hl,h3⟩,by omega,by omega⟩
 ·replace h:¬((k:Int)<(s.names.length:Int)):=fun e=>h (Xd e);have e:k=s.names.length:=by omega
  subst e;have hc:=jg s.names;unfold fT at hc;refine⟨by omega,?_⟩;rw[h3,Ol];simp only[RR,OW];rw[Pg,<-hc];omega
theorem LO(s:Shape)(hs:Wf (.st .shape) s)(ho:s.parts.length *16<=140737488355328) :
  let A:=(0:Int);let B:=True;let C:=(↑(List.length s.parts):Int);let D:=B/\false=aV s/\B;let E:=if decide ((↑(List.length s.names):Int)=A)=true then B/\decide (C=A)=aV s/\B else D;let F:=if decide (s.name=[])=true then E else D;let G:=if decide (s.name=[])=true then List.length s.parts*(16:Nat)<=(140737488355328:Nat)/\B/\eH s=aV s/\B else D;let H:=if aX s.pkg=true then E else D;let I:=if decide (s.kind=(9:Int))=true then if eG s.name=true then if decide (s.pkg=[])=true then if(!nM s.name)=true then E else H else H else D else if decide (s.kind=(10:Int))=true then if eG s.name=true then H else D else D;if decide (s.pkg=[])=true then if decide (s.kind=(1:Int))=true then F else if decide (s.kind=(2:Int))=true then F else if decide (s.kind=(3:Int))=true then F else if decide (s.kind=(4:Int))=true then F else if decide (s.kind=(5:Int))=true then if decide (s.name=[])=true then if decide ((↑(List.length s.names):Int)=A)=true then B/\decide (C=(1:Int))=aV s/\B else D else D else if decide (s.kind=(6:Int))=true then G else if decide (s.kind=(7:Int))=true then G else if decide (s.kind=(8:Int))=true then if decide (s.name=[])=true then if decide ((↑(List.length s.names):Int)=A)=true then B/\decide (A<C)=aV s/\B else D else D else I else if decide (s.kind=(1:Int))=true then D else if decide (s.kind=(2:Int))=true then D else if decide (s.kind=(3:Int))=true then D else if decide (s.kind=(4:Int))=true then D else if decide (s.kind=(5:Int))=true then D else if decide (s.kind=(6:Int))=true then D else if decide (s.kind=(7:Int))=true then D else if decide (s.kind=(8:Int))=true then D else I:=by
 conv=>zeta
 have n0:((s.names.length:Int)=0)↔s.names=[]:=by rw[<-Ps];omega
 have p0:((s.parts.length:Int)=0)↔s.parts=[]:=by rw[<-Ps];omega
 have p1:((s.parts.length:Int)=1)↔s.parts.length=1:=by omega
 have p2:(0<(s.parts.length:Int))↔¬s.parts=[]:=by rw[<-Ps];omega
 simp only[n0,p0,p1,p2,O1,OV,OK,ho];have hf:aV s=aV s:=rfl;conv at hf=>rhs;unfold aV
 revert hf;generalize aV s=F;generalize eH s=A;generalize eG s.name=B;generalize aX s.pkg=C;generalize nM s.name=D;generalize s.kind=K;intro hf
 repeat' (apply aa<;>intro _)
 all_goals (subst hf;simp_all)
theorem DG(n:Nat)(s:Shape)(hs:Wf (.st .shape) s)(hn:sz s<=n+1)(hb:n<=1000000) :
  let A:=True/\false=allS aV s/\True;let B:=(↑(List.length s.parts):Int);let C:=s=s/\false=false/\s.parts=s.parts/\B=B/\s=s/\True;let D:=dfl (Ty.st SN.shape);List.length s.parts*(16:Nat)<=(140737488355328:Nat)/\if(!aV s)=true then A else(∃(x:Nat),(x<=List.length s.parts/\allS aV s=allL aV (List.drop x s.parts))/\(0:Int)=(↑x:Int)/\C)/\∀(x:Nat),let E:=(↑x:Int);let F:=List.getD s.parts (Int.toNat E) D;x<=List.length s.parts/\allS aV s=allL aV (List.drop x s.parts)->if decide (E<B)=true then((0:Int)<=E/\E<B)/\sz F<=n/\if(!allS aV F)=true then A else inR IntKind.i64 (E+(1:Int))/\∃(y:Nat),(y<=List.length s.parts/\allS aV s=allL aV (List.drop y s.parts))/\List.length s.parts-y<List.length s.parts-x/\E+(1:Int)=(↑y:Int)/\C else True/\true=allS aV s/\True:=by
 conv=>zeta
 have ln:=hs.parts.len;have hz:=jh s;have hl:=mE s.parts;simp only[Oi,Pw,OV,OK];refine⟨by omega,aa (fun h=>?_) (fun h=>?_)⟩
 ·rw[allS_eq];simp at h;simp[h]
 refine⟨⟨0,⟨by omega,by rw[allS_eq];simp at h;simp[h]⟩,rfl⟩,?_⟩;rintro k ⟨h1,h3⟩;apply aa<;>intro h
 ·replace h:=Xo h;have hk:k<s.parts.length:=by omega
  have hm:=eZ (getD_mem s.parts k (dfl (.st .shape)) hk);rw[an s.parts k (dfl (.st .shape)) hk]at h3;simp only[allL]at h3;refine⟨by omega,by omega,?_⟩;cases e:allS aV (s.parts.getD k (dfl (.st .shape)))
  ·rw[e]at h3;rw[h3];simp
  ·simp only[e,OW]at h3;exact⟨aA hk ln,k+1,⟨by omega,h3⟩,by omega,by omega⟩
 ·replace h:¬((k:Int)<(s.parts.length:Int)):=fun e=>h (Xd e);have e:k=s.parts.length:=by omega
  subst e;rw[h3,Ol];rfl
theorem GW(n:Nat)(s:Shape)(hs:Wf (.st .shape) s)(hn:sz s<=n+1)(ho:allS fo s=true)(hb:n<=1000000) :
  let A:=(0:Int);let B:=(↑(List.length s.parts):Int);let C:=s=s;let D:=Int.toNat B=Int.toNat B;let E:=(↑(Int.toNat B):Int);let F:=E=E;let G:=gD UInt8=gD UInt8;let H:=s.kind=s.kind;let I:=s.pkg=s.pkg;let J:=s.name=s.name;let K:=True;let L:=C/\A=A/\G/\G/\H/\I/\J/\K;let M:=(1:Int);let N:=(↑(List.length s.names):Int);let O:=false=false;let P:=true=true;let Q:=(fun(i:Int)=>List.getD s.names (Int.toNat i) []);let R:=bM s;let S:=(fun(i:Int)=>List.getD (sortedL s.parts) (Int.toNat i) xU);let T:=(0:Nat);let U:=C/\A=A/\G/\G/\K;let V:=dfl (Ty.int IntKind.i64);let W:=dfl Ty.str;let X:=(140737488355328:Nat);let Y:=dfl (Ty.st SN.shape);let Z:=(88:Nat);let a:=bM s=bM s;let b:=sortedS s;let c:=s.kind=b.kind;let d:=s.name=b.name;(A<=B/\B<=B/\B*(↑(8:Nat):Int)<=(140737488355328:Int))/\(∃(x:Nat),x<=List.length s.parts/\A=(↑x:Int)/\C/\D/\F/\List.replicate (Int.toNat B) A=dt x++List.replicate (List.length s.parts-x) A/\L)/\∀(x:Nat),let e:=(↑x:Int);let f:=List.length s.parts-x;let g:=dt x++List.replicate f A;let h:=e=e;x<=List.length s.parts->if decide (e<E)=true then(A<=e/\e<E)/\Int.toNat e<List.length g/\inR IntKind.i64 (e+M)/\∃(y:Nat),y<=List.length s.parts/\List.length s.parts-y<List.length s.parts-x/\e+M=(↑y:Int)/\C/\D/\F/\List.set g (Int.toNat e) e=dt y++List.replicate (List.length s.parts-y) A/\L else if decide (A<N)=true then(Int.toNat B=List.length g/\dt x++List.replicate f A≠[]/\(∀(x_1:Int),x_1∈dt x++List.replicate f A->A<=x_1/\x_1<N)/\List.Nodup s.names/\List.length g<(4611686018427387904:Nat))/\(∃(x_1:Nat),let k:=List.take x_1 R;let l:=if s.names=[]then[]else List.map Q k;x_1<=List.length s.parts/\A=(↑x_1:Int)/\h/\C/\D/\F/\O/\P/\D/\F/\H/\I/\J/\l=[]/\List.map S k=[]/\(List.mergeSort g fun(i j:Int)=>decide (List.getD s.names (Int.toNat i) []<=List.getD s.names (Int.toNat j) []))=bM s/\List.length l=T/\x_1=T/\U)/\∀(x_1:Nat),let k:=(↑x_1:Int);let l:=Int.toNat k;let m:=A<=List.getD R l V;let o:=List.take x_1 R;let p:=if s.names=[]then[]else List.map Q o;let q:=Int.toNat (List.getD R l V);let r:=[List.getD s.names q W];let t:=m/\List.getD R l V<B;let u:=List.getD s.parts q Y;let v:=sz u<=n/\allS fo u=true;let w:=List.map S o;let z:=[sortedS u];let A0:=List.length w=x_1/\(List.length w+List.length z)*Z<=X;let A1:=inR IntKind.i64 (k+M);let A2:=List.map S o++z;x_1<=List.length s.parts->if decide (k<E)=true then(A<=k/\k<E)/\Int.toNat k<List.length R/\if decide (A<N)=true then(m/\List.getD R l V<N)/\(List.length p=List.length p/\(List.length p+List.length r)*(16:Nat)<=X)/\t/\v/\A0/\A1/\∃(y:Nat),let A3:=List.take y R;let A4:=if s.names=[]then[]else List.map Q A3;y<=List.length s.parts/\List.length s.parts-y<List.length s.parts-x_1/\k+M=(↑y:Int)/\h/\C/\D/\F/\O/\P/\D/\F/\H/\I/\J/\(p++r=A4)/\List.map S o++z=List.map S A3/\a/\List.length (p++r)=List.length (A4)/\List.length A2=y/\U else t/\v/\A0/\A1/\∃(y:Nat),let A3:=List.take y R;let A4:=if s.names=[]then[]else List.map Q A3;y<=List.length s.parts/\List.length s.parts-y<List.length s.parts-x_1/\k+M=(↑y:Int)/\h/\C/\D/\F/\O/\P/\D/\F/\H/\I/\J/\(p=A4)/\List.map S o++z=List.map S A3/\a/\List.length p=List.length (A4)/\List.length A2=y/\U else K/\c/\s.pkg=b.pkg/\d/\p=b.names/\List.map S o=b.parts/\K else(∃(x_1:Nat),let k:=List.take x_1 R;let l:=if s.names=[]then[]else List.map Q k;x_1<=List.length s.parts/\A=(↑x_1:Int)/\h/\C/\D/\F/\O/\O/\D/\F/\H/\I/\J/\l=[]/\List.map S k=[]/\dt x++List.replicate f A=bM s/\List.length l=T/\x_1=T/\U)/\∀(x_1:Nat),let k:=(↑x_1:Int);let l:=Int.toNat k;let m:=A<=List.getD R l V;let o:=List.take x_1 R;let p:=if s.names=[]then[]else List.map Q o;let q:=Int.toNat (List.getD R l V);let r:=[List.getD s.names q W];let t:=m/\List.getD R l V<B;let u:=List.getD s.parts q Y;let v:=sz u<=n/\allS fo u=true;let w:=List.map S o;let z:=[sortedS u];let A0:=List.length w=x_1/\(List.length w+List.length z)*Z<=X;let A1:=inR IntKind.i64 (k+M);let A2:=List.map S o++z;x_1<=List.length s.parts->if decide (k<E)=true then(A<=k/\k<E)/\Int.toNat k<List.length R/\if decide (A<N)=true then(m/\List.getD R l V<N)/\(List.length p=List.length p/\(List.length p+List.length r)*(16:Nat)<=X)/\t/\v/\A0/\A1/\∃(y:Nat),let A3:=List.take y R;let A4:=if s.names=[]then[]else List.map Q A3;y<=List.length s.parts/\List.length s.parts-y<List.length s.parts-x_1/\k+M=(↑y:Int)/\h/\C/\D/\F/\O/\O/\D/\F/\H/\I/\J/\(p++r=A4)/\List.map S o++z=List.map S A3/\a/\List.length (p++r)=List.length (A4)/\List.length A2=y/\U else t/\v/\A0/\A1/\∃(y:Nat),let A3:=List.take y R;let A4:=if s.names=[]then[]else List.map Q A3;y<=List.length s.parts/\List.length s.parts-y<List.length s.parts-x_1/\k+M=(↑y:Int)/\h/\C/\D/\F/\O/\O/\D/\F/\H/\I/\J/\(p=A4)/\List.map S o++z=List.map S A3/\a/\List.length p=List.length (A4)/\List.length A2=y/\U else K/\c/\s.pkg=b.pkg/\d/\p=b.names/\List.map S o=b.parts/\K:=by
 conv=>zeta
 have ln:=hs.parts.len;have hz:=jh s;have hl:=mE s.parts;have hor:fo s=true/\allL fo s.parts=true:=by rw[allS_eq]at ho;simpa using ho
 simp only[Oi,Pw,OV,OK];refine⟨by omega,⟨0,by omega,rfl,by simp[dt]⟩,?_⟩;rintro k hk;apply aa<;>intro h
 ·replace h:=Xo h;exact⟨by omega,by simp[dK];omega,aA (by omega) ln,k+1,by omega,by omega,by omega,G9 (by omega)⟩
 replace h:¬((k:Int)<(s.parts.length:Int)):=fun e=>h (Xd e);have e:k=s.parts.length:=by omega
 subst e;simp only[QO,List.replicate_zero,P2];have hr:dt s.parts.length=[]↔s.parts=[]:=by rw[<-Ps,dK,Ps]
 have hp2:=vi s
 have at_:∀k,k<s.parts.length->0<=(bM s).getD k (dfl (.int .i64))/\(bM s).getD k (dfl (.int .i64))<s.parts.length:=fun k hk=>
  CZ.1 (getD_mem (bM s) k (dfl (.int .i64)) (by rw[hp2];exact hk))
 apply aa<;>intro h2
 ·have hne:s.names≠[]:=by intro e;rw[e]at h2;simp at h2
  have ho1:s.names.length=s.parts.length/\s.names.Nodup:=by have:=hor.1;unfold fo at this;simpa[hne]using this
  refine⟨⟨by rw[dK],?_,fun x hx=>?_,ho1.2,by rw[dK];omega⟩,⟨0,by omega,rfl,by simp,by simp,?_,by simp,rfl⟩,?_⟩
  ·rw[Ne,hr];intro e;rw[e]at ho1;exact hne (Ps.1 (by simpa using ho1.1))
  ·rw[ho1.1];exact tD.1 hx
  ·unfold bM iS dr;rw[O0 hne]
  ·rintro k hk2;apply aa<;>intro h
   ·replace h:=Xo h;have hk3:k<s.parts.length:=by omega
    obtain⟨a1,a2⟩:=at_ k hk3;refine⟨by omega,by omega,?_⟩;rw[O3 h2];have hi:((bM s).getD k (dfl (.int .i64))).toNat<s.parts.length:=by omega
    have f1:=eZ (getD_mem s.parts _ (dfl (.st .shape)) hi);have f2:=gw hor.2 (getD_mem s.parts _ (dfl (.st .shape)) hi);have t1:=cD (bM s) k (dfl (.int .i64)) (by rw[hp2];exact hk3);have t2:List.map (fun i:Int=>(sortedL s.parts).getD i.toNat xU) (List.take (k+1) (bM s))=List.map (fun i:Int=>(sortedL s.parts).getD i.toNat xU) (List.take k (bM s))++[sortedS (s.parts.getD ((bM s).getD k (dfl (.int .i64))).toNat (dfl (.st .shape)))]:=by rw[t1,Q1,QF,kO _ _ xU (dfl (.st .shape)) hi]
    have t3:List.map (fun i:Int=>s.names.getD i.toNat []) (List.take (k+1) (bM s))=List.map (fun i:Int=>s.names.getD i.toNat []) (List.take k (bM s))++[s.names.getD ((bM s).getD k (dfl (.int .i64))).toNat []]:=by rw[t1,Q1,QF]
    have tl:(List.take k (bM s)).length=k:=by rw[Pt,hp2];omega
    refine⟨⟨a1,by omega⟩,?_,⟨a1,a2⟩,⟨by omega,f2⟩,⟨by rw[P3,tl],by rw[P3,tl];simp only[OI];omega⟩,aA hk3 ln,k+1,by omega,by omega,by omega,?_,t2.symm,?_,?_⟩
    ·rw[O0 hne,P3,tl];simp only[OI];omega
    ·rw[O0 hne,O0 hne,t3];rfl
    ·rw[O0 hne,O0 hne,t3];rfl
    ·rw[Oj,P3,tl];rfl
   ·replace h:¬((k:Int)<(s.parts.length:Int)):=fun e=>h (Xd e);have e:k=s.parts.length:=by omega
    subst e;rw[<-hp2,OY,O0 hne];obtain⟨kk,pp,nn,ns,ps⟩:=s;simp only[sortedS];rw[O0 hne];exact Xr
 ·have hne:s.names=[]:=by refine Qn fun hc=>h2 (Xd ?_);have:=PG.2 hc;omega
  have hpl:bM s=dt s.parts.length:=by unfold bM;rw[O3 hne]
  simp only[hne,P1,ON,OI];refine⟨⟨0,by omega,rfl,trivial,by simp,hpl.symm,trivial,rfl⟩,?_⟩;rintro k hk2;apply aa<;>intro h
  ·replace h:=Xo h;have hk3:k<s.parts.length:=by omega
   obtain⟨a1,a2⟩:=at_ k hk3;refine⟨by omega,by omega,?_⟩;rw[O0 (by simp)];have hi:((bM s).getD k (dfl (.int .i64))).toNat<s.parts.length:=by omega
   have f1:=eZ (getD_mem s.parts _ (dfl (.st .shape)) hi);have f2:=gw hor.2 (getD_mem s.parts _ (dfl (.st .shape)) hi);have t1:=cD (bM s) k (dfl (.int .i64)) (by rw[hp2];exact hk3);have t2:List.map (fun i:Int=>(sortedL s.parts).getD i.toNat xU) (List.take (k+1) (bM s))=List.map (fun i:Int=>(sortedL s.parts).getD i.toNat xU) (List.take k (bM s))++[sortedS (s.parts.getD ((bM s).getD k (dfl (.int .i64))).toNat (dfl (.st .shape)))]:=by rw[t1,Q1,QF,kO _ _ xU (dfl (.st .shape)) hi]
   have tl:(List.take k (bM s)).length=k:=by rw[Pt,hp2];omega
   exact⟨⟨a1,a2⟩,⟨by omega,f2⟩,⟨by rw[P3,tl],by rw[P3,tl];omega⟩,aA hk3 ln,k+1,by omega,by omega,by omega,trivial,t2.symm,trivial,by rw[Oj,P3,tl];rfl⟩
  ·replace h:¬((k:Int)<(s.parts.length:Int)):=fun e=>h (Xd e);have e:k=s.parts.length:=by omega
   subst e;rw[<-hp2,OY];obtain⟨kk,pp,nn,ns,ps⟩:=s;simp only at hne;subst hne;simp only[sortedS,P1];exact Xr
theorem LP(c:Int)(hc:0<=c/\c<=400) :
  let A:=(1:Int);let B:=c+A=c+A/\True;inR IntKind.i64 (c+A)/\if decide ((400:Int)<c+A)=true then decide ((400:Int)<c+A)=true/\B else decide ((400:Int)<c+A)=false/\B:=by
 conv=>zeta
 refine⟨aU (by omega) (by omega),aa (fun h=>?_) (fun h=>?_)⟩
 ·exact⟨h,rfl,trivial⟩
 ·exact⟨by simpa using h,rfl,trivial⟩
theorem LQ(n:Nat)(s:Shape)(l c:Int)(hs:Wf (.st .shape) s)(hn:sz s<=n+1)(hc:0<=c/\c<=400/\1<=l/\l<=c+1) :
  let A:=(0:Int);let B:=(400:Int);let C:=(1:Int);let D:=(↑(sz s):Int);let E:=decide (B<c+D)=true;let F:=(401:Int);let G:=l+C;let H:=s.parts=s.parts;let I:=(↑(List.length s.parts):Int);let J:=s=s/\True;let K:=dfl (Ty.st SN.shape);(A<=c/\c<=B)/\if decide (B<c+C)=true then E/\c+C=F/\True else(∃(x:Nat×Int),let L:=(↑(szL (List.take x.1 s.parts)):Int);(x.1<=List.length s.parts/\c+C+L<=B/\deepL (List.drop x.1 s.parts) G x.2=deepS s l)/\l=x.2/\A=(↑x.1:Int)/\s=s/\l=l/\A=A/\H/\I=I/\c+C=c+C+L/\J)/\∀(x:Nat×Int),let L:=(↑(szL (List.take x.1 s.parts)):Int);let M:=c+C+L<=B;let N:=(↑x.1:Int);let O:=List.getD s.parts (Int.toNat N) K;let P:=(↑(sz O):Int);x.1<=List.length s.parts/\M/\deepL (List.drop x.1 s.parts) G x.2=deepS s l->if decide (N<I)=true then(A<=N/\N<I)/\inR IntKind.i64 G/\(sz O<=n/\A<=c+C+L/\M/\C<=l+C/\l+C<=c+C+L+C)/\if decide (B<c+C+L+P)=true then E/\F=F/\True else inR IntKind.i64 (N+C)/\∃(y:Nat×Int),let Q:=(↑(szL (List.take y.1 s.parts)):Int);(y.1<=List.length s.parts/\c+C+Q<=B/\deepL (List.drop y.1 s.parts) G y.2=deepS s l)/\List.length s.parts-y.1<List.length s.parts-x.1/\max x.2 (deepS O G)=y.2/\N+C=(↑y.1:Int)/\s=s/\l=l/\A=A/\H/\I=I/\c+C+L+P=c+C+Q/\J else decide (B<c+D)=false/\x.2=deepS s l/\c+C+L=c+D/\True:=by
 conv=>zeta
 have ln:=hs.parts.len;have hz:=jh s;refine⟨⟨hc.1,hc.2.1⟩,aa (fun h=>?_) (fun h=>?_)⟩
 ·replace h:=Xo h;have:=fH s;exact⟨Xd (by omega),by omega,trivial⟩
 replace h:¬(400:Int)<c+1:=fun e=>h (Xd e);have hd0:deepL s.parts (l+1) l=deepS s l:=by cases s;rfl
 refine⟨⟨(0,l),⟨Of _,by simp[szL];omega,by simpa using hd0⟩,rfl,rfl,rfl,rfl,rfl,rfl,rfl,by simp[szL],rfl,trivial⟩,?_⟩;rintro⟨k,d⟩ ⟨h1,h2,h3⟩;simp only[Oi]at h1 h2 h3⊢;have hc0:(0:Int)<=(szL (s.parts.take k):Int):=by omega
 apply aa<;>intro hk
 ·replace hk:=Xo hk;have hk:k<s.parts.length:=by omega
  have hs1:=nd s.parts k (dfl (.st .shape)) hk;have hm:=eZ (getD_mem s.parts k (dfl (.st .shape)) hk);rw[an s.parts k (dfl (.st .shape)) hk]at h3;simp only[deepL]at h3;have ht:=zR s.parts (k+1);refine⟨by omega,aU (by omega) (by omega),⟨by omega,by omega,h2,by omega,by omega⟩,aa (fun h=>?_) (fun h=>?_)⟩
  ·replace h:=Xo h;exact⟨Xd (by omega),by trivial,by trivial⟩
  ·replace h:=fun e=>h (Xd e);replace h:¬(400:Int)<c+1+(szL (s.parts.take k):Int)+(sz (s.parts.getD k (dfl (.st .shape))):Int):=h;exact⟨aA hk ln,(k+1,_),⟨by omega,by simp only;omega,h3⟩,by simp only;omega,rfl,by simp only;omega,by trivial,by trivial,by trivial,by trivial,by trivial,by simp only;omega,by trivial,by trivial⟩
 ·replace hk:¬((k:Int)<(s.parts.length:Int)):=fun e=>hk (Xd e);have e:k=s.parts.length:=by omega
  subst e;rw[OY]at h2⊢;rw[Ol]at h3;exact⟨Xf (by omega),h3,by omega,trivial⟩
theorem JQ(s:Shape)(hs:Wf (.st .shape) s) :
  let A:=(0:Int);let B:=(1:Int);let C:=(↑(sz s):Int);let D:=if sz s<=(400:Nat)then C else(401:Int);let E:=if sz s<=(400:Nat)then deepS s B else A;(sz s<=sz s/\A<=A/\A<=(400:Int)/\B<=B/\B<=A+B)/\if decide ((400:Int)<A+C)=true then((401:Int)=D)/\(A=E)/\false=decide (sz s<=(400:Nat))/\True else(A+C=D)/\(deepS s B=E)/\true=decide (sz s<=(400:Nat))/\True:=by
 conv=>zeta
 refine⟨by simp,aa (fun h=>?_) (fun h=>?_)⟩
 ·replace h:=Xo h;have h':¬sz s<=400:=by omega
  rw[O0 h',O0 h'];exact⟨rfl,rfl,by simp[h'],trivial⟩
 ·replace h:¬(400:Int)<0+(sz s:Int):=fun e=>h (Xd e);have h':sz s<=400:=by omega
  rw[O3 h',O3 h'];exact⟨by omega,by trivial,by simp[h'],trivial⟩
theorem JR(s:Shape)  :
  let A:=True;if(!decide (sz s<=(400:Nat)))=true then A/\(3:Int)=aG s/\A else if decide ((40:Int)<if sz s<=(400:Nat)then deepS s (1:Int)else(0:Int))=true then A/\(91:Int)=aG s/\A else sz s<=(400:Nat)/\if(!allS aV s)=true then A/\(70:Int)=aG s/\A else A/\(0:Int)=aG s/\A:=by
 conv=>zeta
 unfold aG;by_cases h1:sz s<=400
 ·rw[O0 (by simp[h1]),O3 h1,O0 (show ¬400<sz s by omega)];by_cases h2:(40:Int)<deepS s 1
  ·rw[O3 (by simp[h2]),O3 h2];exact Xr
  ·rw[O0 (by simp[h2]),O0 h2];refine⟨h1,?_⟩;cases allS aV s<;>simp
 ·rw[O3 (by simp[h1]),O3 (show 400<sz s by omega)];exact Xr
theorem LR(s:Shape)  :
  if(!decide (aG s=(0:Int)))=true then True/\s=bO s/\True else(sz s<=(400:Nat)/\allS fo s=true)/\True/\sortedS s=bO s/\True:=by
 unfold bO;by_cases h:aG s=0
 ·rw[O0 (by simp[h]),O3 h];exact⟨⟨(dD h).1,tF h⟩,trivial,rfl,trivial⟩
 ·rw[O3 (by simp[h]),O0 h];exact Xr
theorem LS(n:Nat)(s:Shape)(m:Int)(hs:Wf (.st .shape) s)(ho:sz s<=n+1/\0<=m/\m<=1000000) :
  let A:=(1:Int);let B:=(0:Int);let C:=s=s/\m=m/\B=B/\s=s/\True;let D:=(↑(List.length s.parts):Int);let E:=dfl (Ty.st SN.shape);(∃(x:Nat×Int),(x.1<=List.length s.parts/\A<=x.2/\x.2<=m+A/\sizeL (List.drop x.1 s.parts) x.2 m=sizeF s m)/\A=x.2/\B=(↑x.1:Int)/\C)/\∀(x:Nat×Int),let F:=(↑x.1:Int);let G:=m-x.2;let H:=List.getD s.parts (Int.toNat F) E;let I:=True/\x.2=sizeF s m/\True;x.1<=List.length s.parts/\A<=x.2/\x.2<=m+A/\sizeL (List.drop x.1 s.parts) x.2 m=sizeF s m->if decide (F<D)=true then if decide (x.2<=m)=true then(B<=F/\F<D)/\inR IntKind.i64 G/\(sz H<=n/\B<=m-x.2/\m-x.2<=(1000000:Int))/\inR IntKind.i64 (x.2+sizeF H G)/\inR IntKind.i64 (F+A)/\∃(y:Nat×Int),(y.1<=List.length s.parts/\A<=y.2/\y.2<=m+A/\sizeL (List.drop y.1 s.parts) y.2 m=sizeF s m)/\List.length s.parts-y.1<List.length s.parts-x.1/\x.2+sizeF H G=y.2/\F+A=(↑y.1:Int)/\C else I else I:=by
 conv=>zeta
 have ln:=hs.parts.len;have hz:=jh s;obtain⟨ho1,ho2,ho3⟩:=ho;have h0:sizeL s.parts 1 m=sizeF s m:=by cases s;rfl
 simp only[Oi,Pw,OV,OK];refine⟨⟨(0,1),⟨Of _,by omega,by omega,h0⟩,rfl,rfl⟩,?_⟩;rintro⟨k,c⟩ ⟨h1,h2,h3,h4⟩;simp only at h1 h2 h3 h4⊢;apply aa<;>intro hk
 ·replace hk:=Xo hk;have hk:k<s.parts.length:=by omega
  have hm:=eZ (getD_mem s.parts k (dfl (.st .shape)) hk);rw[an s.parts k (dfl (.st .shape)) hk]at h4;simp only[sizeL]at h4;apply aa<;>intro hc
  ·replace hc:=Xo hc;rw[O3 hc]at h4;have hb:=sizeF_bd (s.parts.getD k (dfl (.st .shape))) (m-c) (by omega);exact⟨by omega,aU (by omega) (by omega),by omega,aU (by omega) (by omega),aA hk ln,(k+1,_),⟨by omega,by simp only;omega,by simp only;omega,h4⟩,by simp only;omega,rfl,rfl⟩
  ·rw[O0 (fun e=>hc (Xd e))]at h4;exact h4
 ·replace hk:¬((k:Int)<(s.parts.length:Int)):=fun e=>hk (Xd e);have e:k=s.parts.length:=by omega
  subst e;rw[Ol]at h4;exact h4
theorem GX(n:Nat)(a b:Shape)(ha:Wf (.st .shape) a)(hb:Wf (.st .shape) b)(hn:sz a<=n+1) :
  let A:=True/\false=eqS a b/\True;let B:=(↑(List.length a.names):Int);let C:=(↑(List.length b.names):Int);let D:=(↑(List.length a.parts):Int);let E:=(↑(List.length b.parts):Int);let F:=List.length a.names=List.length b.names;let G:=List.length a.parts=List.length b.parts;let H:=(0:Int);let I:=false=false/\a=a/\b=b/\True;let J:=a=a/\b=b/\I;let K:=(1:Int);let L:=a=a/\b=b/\false=false/\I;let M:=dfl (Ty.st SN.shape);if(!decide (a.kind=b.kind))=true then A else if(!decide (a.pkg=b.pkg))=true then A else if(!decide (a.name=b.name))=true then A else if(!decide (B=C))=true then A else if(!decide (D=E))=true then A else(∃(x:Nat),(x<=List.length a.names/\F/\G/\eqS a b=(decide (List.drop x a.names=List.drop x b.names)&&eqL a.parts b.parts))/\H=(↑x:Int)/\J)/\∀(x:Nat),let N:=(↑x:Int);x<=List.length a.names/\F/\G/\eqS a b=(decide (List.drop x a.names=List.drop x b.names)&&eqL a.parts b.parts)->if decide (N<B)=true then(H<=N/\N<B)/\(H<=N/\N<C)/\if(!decide (List.getD a.names (Int.toNat N) (dfl Ty.str)=List.getD b.names (Int.toNat N) (dfl Ty.str)))=true then A else inR IntKind.i64 (N+K)/\∃(y:Nat),(y<=List.length a.names/\F/\G/\eqS a b=(decide (List.drop y a.names=List.drop y b.names)&&eqL a.parts b.parts))/\List.length a.names-y<List.length a.names-x/\N+K=(↑y:Int)/\J else(∃(x_1:Nat),(x_1<=List.length a.parts/\G/\eqS a b=eqL (List.drop x_1 a.parts) (List.drop x_1 b.parts))/\H=(↑x_1:Int)/\N=N/\L)/\∀(x_1:Nat),let O:=(↑x_1:Int);let P:=List.getD a.parts (Int.toNat O) M;x_1<=List.length a.parts/\G/\eqS a b=eqL (List.drop x_1 a.parts) (List.drop x_1 b.parts)->if decide (O<D)=true then(H<=O/\O<D)/\(H<=O/\O<E)/\sz P<=n/\if(!eqS P (List.getD b.parts (Int.toNat O) M))=true then A else inR IntKind.i64 (O+K)/\∃(y:Nat),(y<=List.length a.parts/\G/\eqS a b=eqL (List.drop y a.parts) (List.drop y b.parts))/\List.length a.parts-y<List.length a.parts-x_1/\O+K=(↑y:Int)/\N=N/\L else True/\true=eqS a b/\True:=by
 conv=>zeta
 have lna:=ha.names.len;have lpa:=ha.parts.len;have hz:=jh a;have he:eqS a b=(decide (a.kind=b.kind)&&decide (a.pkg=b.pkg)&&decide (a.name=b.name)&&decide (a.names=b.names)&&eqL a.parts b.parts):=by cases a;cases b;rfl
 simp only[Oi,Pw,OV,OK];refine aa (fun h=>?_) (fun h1=>aa (fun h=>?_) (fun h2=>aa (fun h=>?_) (fun h3=>aa (fun h=>?_) (fun h4=>aa (fun h=>?_) (fun h5=>?_)))))
 ·rw[he];simp only[Oa]at h;rw[h];simp
 ·rw[he];simp only[Oa]at h;rw[h];simp
 ·rw[he];simp only[Oa]at h;rw[h];simp
 ·have:¬a.names=b.names:=by intro e;rw[e]at h;simp at h
  rw[he];simp[this]
 ·have:a.parts.length≠b.parts.length:=by intro e;rw[e]at h;simp at h
  rw[he,F3 this];simp
 have l4:a.names.length=b.names.length:=by simp at h4;omega
 have l5:a.parts.length=b.parts.length:=by simp at h5;omega
 have he':eqS a b=(decide (a.names=b.names)&&eqL a.parts b.parts):=by rw[he];simp only[QQ,Bool.not_eq_false']at h1 h2 h3;rw[h1,h2,h3];simp
 refine⟨⟨0,⟨Of _,l4,l5,by simpa using he'⟩,rfl⟩,?_⟩;rintro k ⟨k1,_,_,k4⟩;apply aa<;>intro h
 ·replace h:=Xo h;have hk:k<a.names.length:=by omega
  have hk':k<b.names.length:=by omega
  rw[an a.names k (dfl .str) hk,an b.names k (dfl .str) hk']at k4;refine⟨by omega,by omega,aa (fun c=>?_) (fun c=>?_)⟩
  ·have c':¬a.names.getD k (dfl .str)=b.names.getD k (dfl .str):=by simpa using c
   rw[k4];have:¬(a.names.getD k (dfl .str)::a.names.drop (k+1)=b.names.getD k (dfl .str)::b.names.drop (k+1)):=fun e=>c' (List.cons.inj e).1;simp only[this,R0,Oq]
  ·have c':a.names.getD k (dfl .str)=b.names.getD k (dfl .str):=by simpa using c
   refine⟨aA hk lna,k+1,⟨by omega,l4,l5,?_⟩,by omega,by omega⟩;rw[k4,c'];congr 1;rw[Pg];simp
 ·replace h:¬((k:Int)<(a.names.length:Int)):=fun e=>h (Xd e);have e:k=a.names.length:=by omega
  subst e;have k4':eqS a b=eqL a.parts b.parts:=by rw[k4,Ol,l4,Ol];simp
  refine⟨⟨0,⟨Of _,l5,by simpa using k4'⟩,rfl⟩,?_⟩;rintro j ⟨j1,_,j3⟩;apply aa<;>intro h
  ·replace h:=Xo h;have hj:j<a.parts.length:=by omega
   have hj':j<b.parts.length:=by omega
   have hm:=eZ (getD_mem a.parts j (dfl (.st .shape)) hj);rw[an a.parts j (dfl (.st .shape)) hj,an b.parts j (dfl (.st .shape)) hj']at j3;simp only[eqL]at j3;refine⟨by omega,by omega,by omega,aa (fun c=>?_) (fun c=>?_)⟩
   ·have c':eqS (a.parts.getD j (dfl (.st .shape))) (b.parts.getD j (dfl (.st .shape)))=false:=by simpa using c
    rw[j3,c'];rfl
   ·have c':eqS (a.parts.getD j (dfl (.st .shape))) (b.parts.getD j (dfl (.st .shape)))=true:=by simpa using c
    rw[c',OW]at j3;exact⟨aA hj lpa,j+1,⟨by omega,l5,j3⟩,by omega,by omega⟩
  ·replace h:¬((j:Int)<(a.parts.length:Int)):=fun e=>h (Xd e);have e:j=a.parts.length:=by omega
   subst e;rw[j3,Ol,l5,Ol];rfl
theorem GY(n:Nat)(t:Trm)(m:Int)(hs:Wf (.st .term) t)(hz:szT t<=n+1)(h0:0<=m)(h1:m<=1000000) :
  let A:=(1:Int);let B:=(0:Int);let C:=(↑(List.length t.parts):Int);let D:=t=t/\m=m/\B=B/\B=B/\t.parts=t.parts/\C=C/\t=t/\True;let E:=countT t m;let F:=dfl (Ty.st SN.term);(∃(x:Nat×Int×Int),(x.1<=List.length t.parts/\A<=x.2.1/\x.2.1<=m+A/\B<=x.2.2/\x.2.2+A<=x.2.1/\countL (List.drop x.1 t.parts) m x.2.1 x.2.2=countL t.parts m A B)/\A=x.2.1/\B=x.2.2/\B=(↑x.1:Int)/\D)/\∀(x:Nat×Int×Int),let G:=(↑x.1:Int);let H:=inR IntKind.i64 (x.2.2+A)/\True/\x.2.1=E.1/\x.2.2+A=E.2/\True;let I:=m-x.2.1;let J:=List.getD t.parts (Int.toNat G) F;let K:=countT J I;x.1<=List.length t.parts/\A<=x.2.1/\x.2.1<=m+A/\B<=x.2.2/\x.2.2+A<=x.2.1/\countL (List.drop x.1 t.parts) m x.2.1 x.2.2=countL t.parts m A B->if decide (G<C)=true then(B<=G/\G<C)/\if decide (m<x.2.1)=true then H else inR IntKind.i64 I/\(szT J<=n/\B<=m-x.2.1/\m-x.2.1<=(1000000:Int))/\inR IntKind.i64 (x.2.1+K.1)/\inR IntKind.i64 (G+A)/\∃(y:Nat×Int×Int),(y.1<=List.length t.parts/\A<=y.2.1/\y.2.1<=m+A/\B<=y.2.2/\y.2.2+A<=y.2.1/\countL (List.drop y.1 t.parts) m y.2.1 y.2.2=countL t.parts m A B)/\List.length t.parts-y.1<List.length t.parts-x.1/\x.2.1+K.1=y.2.1/\max x.2.2 K.2=y.2.2/\G+A=(↑y.1:Int)/\D else H:=by
 conv=>zeta
 have ln:=hs.term_parts.len;rw[Ga];refine⟨⟨(0,1,0),⟨Of _,by decide,by show(1:Int)<=m+1;omega,by decide,by decide,rfl⟩,rfl,rfl,rfl,?_⟩,?_⟩
 ·exact Xr
 rintro⟨k,a,d⟩ ⟨h1,h2,h3,h4,h5,h6⟩;simp only[Oi]at h1 h2 h3 h4 h5 h6⊢;apply aa<;>intro h
 ·replace h:=Xo h;have hk:k<t.parts.length:=by omega
  rw[an t.parts k (dfl (.st .term)) hk,countL]at h6;refine⟨by omega,aa (fun c=>?_) (fun c=>?_)⟩
  ·replace c:=Xo c;rw[O3 c]at h6;rw[<-h6];refine⟨aU (by omega) (by omega),?_⟩;exact Xr
  ·replace c:¬m<a:=fun e=>c (Xd e);rw[O0 c]at h6;have hm:=jC (getD_mem t.parts k (dfl (.st .term)) hk);have he:=ji t;have hb:=countT_bound (t.parts.getD k (dfl (.st .term))) (m-a) (by omega);refine⟨aU (by omega) (by omega),⟨by omega,by omega,by omega⟩,aU (by omega) (by omega),aA hk ln,(k+1,_,_),⟨by show k+1<=_;omega,?_,?_,?_,?_,h6⟩,by show _-(k+1)<_;omega,rfl,rfl,by show _=((k+1:Nat):Int);omega,?_⟩
   ·show(1:Int)<=a+_;omega
   ·show a+_<=m+1;omega
   ·show(0:Int)<=max d _;omega
   ·show max d _+1<=a+_;omega
   exact Xr
 ·replace h:¬((k:Int)<(t.parts.length:Int)):=fun e=>h (Xd e);have e:k=t.parts.length:=by omega
  subst e;rw[Ol,countL]at h6;rw[<-h6];refine⟨aU (by omega) (by omega),?_⟩;exact Xr
theorem DH (x:Str)  :
  True/\(!aX x)=!aX x/\True:=by
 exact⟨trivial,by trivial,trivial⟩
theorem DI (l:List Str) (hl:Wf (.lst .str) l) :
  let A:=(0:Nat);let B:=(↑(List.length l):Int);let C:=l=l/\B=B/\True;(∃(x:Nat),(x<=List.length l/\ba aX (List.drop x l) x=ba aX l A)/\(0:Int)=(↑x:Int)/\C)/\∀(x:Nat),let D:=(↑x:Int);x<=List.length l/\ba aX (List.drop x l) x=ba aX l A->if decide (D<B)=true then((0:Int)<=D/\D<B)/\if(!aX (List.getD l (Int.toNat D) (dfl Ty.str)))=true then True/\D=ba aX l A/\True else inR IntKind.i64 (D+(1:Int))/\∃(y:Nat),(y<=List.length l/\ba aX (List.drop y l) y=ba aX l A)/\List.length l-y<List.length l-x/\D+(1:Int)=(↑y:Int)/\C else True/\(-1:Int)=ba aX l A/\True:=by
 conv=>zeta
 have ln:=hl.len;simp only[Oi];refine⟨⟨0,⟨Of _,by simp⟩,rfl,by trivial,by trivial,trivial⟩,?_⟩;rintro k ⟨h1,h2⟩;apply aa<;>intro h
 ·replace h:=Xo h;have hk:k<l.length:=by omega
  rw[an l k (dfl .str) hk,ba]at h2;refine⟨by omega,aa (fun c=>?_) (fun c=>?_)⟩
  ·have c:aX (l.getD k (dfl .str))=false:=by simpa using c
   rw[c,O0 P5]at h2;rw[<-h2];exact Xr
  ·have c:aX (l.getD k (dfl .str))=true:=by simpa using c
   rw[O3 c]at h2;refine⟨aA hk ln,k+1,⟨by omega,h2⟩,by omega,by omega,by trivial,by trivial,trivial⟩
 ·replace h:¬((k:Int)<(l.length:Int)):=fun e=>h (Xd e);have e:k=l.length:=by omega
  subst e;rw[Ol,ba]at h2;rw[<-h2];exact Xr
theorem DJ (l:List Str)  :
  True/\decide ((0:Int)<=ba aX l (0:Nat))=!List.all l aX/\True:=by
 exact⟨trivial,iC aX l 0,trivial⟩
theorem JS (l:List Str)  :
  True/\(!!List.all l aX)=List.all l aX/\True:=by
 exact⟨trivial,Rs _,trivial⟩
theorem JT(l:List Str)(ho:l.length *16<=140737488355328) :
  let A:=(List.mergeSort l fun(x y:Str)=>decide (x<=y));let B:=List.all l aX&&decide (List.Nodup l);List.length l*(16:Nat)<=(140737488355328:Nat)/\if List.all l aX=true then List.length A=List.length A/\True/\decide ((↑(List.length (Lib.compact A)):Int)=(↑(List.length l):Int))=B/\True else True/\false=B/\True:=by
 conv=>zeta
 have hc:=jg l;unfold fT at hc;refine⟨ho,aa (fun h=>?_) (fun h=>?_)⟩
 ·refine⟨by trivial,trivial,?_,trivial⟩;rw[h,OW,Pg,<-hc];omega
 ·have h:l.all aX=false:=by simpa using h
  exact⟨trivial,by rw[h];rfl,trivial⟩
theorem DK(n:Nat)(x:Shape) (ho:sz x<=n) :
  sz x<=n/\True/\(!allS aP x)=!allS aP x/\True:=by
 exact⟨ho,trivial,by trivial,trivial⟩
theorem DL(n:Nat)(l:List Shape) (hl:Wf (.lst (.st .shape)) l)(ho:∀x∈l,sz x<=n) :
  let A:=allS aP;let B:=(0:Nat);let C:=(↑(List.length l):Int);let D:=l=l/\C=C/\True;let E:=dfl (Ty.st SN.shape);(∃(x:Nat),(x<=List.length l/\ba A (List.drop x l) x=ba A l B)/\(0:Int)=(↑x:Int)/\D)/\∀(x:Nat),let F:=(↑x:Int);let G:=List.getD l (Int.toNat F) E;x<=List.length l/\ba A (List.drop x l) x=ba A l B->if decide (F<C)=true then((0:Int)<=F/\F<C)/\sz G<=n/\if(!allS aP G)=true then True/\F=ba A l B/\True else inR IntKind.i64 (F+(1:Int))/\∃(y:Nat),(y<=List.length l/\ba A (List.drop y l) y=ba A l B)/\List.length l-y<List.length l-x/\F+(1:Int)=(↑y:Int)/\D else True/\(-1:Int)=ba A l B/\True:=by
 conv=>zeta
 have ln:=hl.len;simp only[Oi];refine⟨⟨0,⟨Of _,by simp⟩,rfl,by trivial,by trivial,trivial⟩,?_⟩;rintro k ⟨h1,h2⟩;apply aa<;>intro h
 ·replace h:=Xo h;have hk:k<l.length:=by omega
  rw[an l k (dfl (.st .shape)) hk,ba]at h2;refine⟨by omega,ho _ (getD_mem l k _ hk),aa (fun c=>?_) (fun c=>?_)⟩
  ·have c:(allS aP) (l.getD k (dfl (.st .shape)))=false:=by simpa using c
   rw[c,O0 P5]at h2;rw[<-h2];exact Xr
  ·have c:(allS aP) (l.getD k (dfl (.st .shape)))=true:=by simpa using c
   rw[O3 c]at h2;refine⟨aA hk ln,k+1,⟨by omega,h2⟩,by omega,by omega,by trivial,by trivial,trivial⟩
 ·replace h:¬((k:Int)<(l.length:Int)):=fun e=>h (Xd e);have e:k=l.length:=by omega
  subst e;rw[Ol,ba]at h2;rw[<-h2];exact Xr
theorem DM(n:Nat)(l:List Shape) (ho:∀x∈l,sz x<=n) :
  (∀(x:Shape),x∈l->sz x<=n)/\True/\decide ((0:Int)<=ba (allS aP) l (0:Nat))=!List.all l (allS aP)/\True:=by
 exact⟨ho,trivial,iC (allS aP) l 0,trivial⟩
theorem JU(n:Nat)(l:List Shape) (ho:∀x∈l,sz x<=n) :
  (∀(x:Shape),x∈l->sz x<=n)/\True/\(!!List.all l (allS aP))=List.all l (allS aP)/\True:=by
 exact⟨ho,trivial,Rs _,trivial⟩
theorem LU(n:Nat)(s:Shape)(ho:sz s<=n+1) :
  if(!decide (s.kind=(10:Int)))=true then(∀(x:Shape),x∈s.parts->sz x<=n)/\True/\List.all s.parts (allS aP)=allS aP s/\True else True/\false=allS aP s/\True:=by
 have e0:allS aP s=(aP s&&s.parts.all (allS aP)):=by rw[allS_eq,allL_all]
 have h0:=jh s;have hm:∀x∈s.parts,sz x<=n:=fun x hx=>by have:=eZ hx;omega
 rw[e0];apply aa<;>intro h
 ·have h:aP s=true:=h;rw[h,OW];exact⟨hm,trivial,rfl,trivial⟩
 ·have h:aP s=false:=by simpa[aP]using h
  rw[h];exact Xr
theorem GZ(s:Shape)  :
  let A:=(decide (aG s=(0:Int))&&allS aP s);if decide (aG s=(0:Int))=true then sz s<=(400:Nat)/\True/\allS aP s=A/\True else True/\false=A/\True:=by
 conv=>zeta
 apply aa<;>intro h
 ·have h:aG s=0:=by simpa using h
  refine⟨?_,trivial,by simp[h],trivial⟩;unfold aG at h;by_cases c:400<sz s
  ·rw[O3 c]at h;exact absurd h (by decide)
  ·omega
 ·have h:¬aG s=0:=by simpa using h
  exact⟨trivial,by simp[h],trivial⟩
theorem Nf(t:Trm)  :
  let A:=(↑(List.length t.names):Int);let B:=(↑(List.length t.vars):Int);let C:=(↑(List.length t.shapes):Int);let D:=(↑(List.length t.parts):Int);True/\A=A/\B=B/\C=C/\D=D/\True:=by
 conv=>zeta
 exact Xr
theorem JV(s:Str)(hs:Wf .str s) :
  let A:=db s;let B:=(↑(List.length A):Int);let C:=s=s/\db s=db s/\B=B/\True;let D:=dfl (Ty.int IntKind.u8);let E:=(1:Int);(∃(x:Nat),(x<=List.length s/\List.all s jj=List.all (List.drop x s) jj)/\(0:Int)=(↑x:Int)/\C)/\∀(x:Nat),let F:=(↑x:Int);let G:=Int.toNat F;let H:=inR IntKind.i64 (F+E)/\∃(y:Nat),(y<=List.length s/\List.all s jj=List.all (List.drop y s) jj)/\List.length s-y<List.length s-x/\F+E=(↑y:Int)/\C;x<=List.length s/\List.all s jj=List.all (List.drop x s) jj->if decide (F<B)=true then((0:Int)<=F/\F<B)/\if decide (List.getD A G D<(32:Int))=true then if(!decide (List.getD A G D=(10:Int)))=true then if(!decide (List.getD A G D=(9:Int)))=true then True/\false=tO s/\True else H else H else H else True/\Option.isNone (tG s)=tO s/\True:=by
 conv=>zeta
 have ln:=hs.str;have hbl:(db s).length=s.length:=P3 _;simp only[hbl,Oi];refine⟨⟨0,⟨Of _,rfl⟩,?_⟩,?_⟩
 ·exact Xr
 rintro k ⟨h1,h2⟩;apply aa<;>intro h
 ·have hk:k<s.length:=by have:=Xo h;omega
  rw[an s k 0 hk,P6]at h2;have hq:=Gi (s.getD k 0);simp only[Af s k hk]
  have yes:¬(bI (s.getD k 0)<32/\bI (s.getD k 0)≠10/\bI (s.getD k 0)≠9)->s.all jj=(s.drop (k+1)).all jj:=fun e=>by
   have:jj (s.getD k 0)=true:=by
    cases hh:jj (s.getD k 0)with|true=>rfl|false=>exact absurd (hq.1 hh) e
   rw[h2,this,OW]
  refine⟨⟨by omega,by omega⟩,?_⟩
  repeat' (apply aa<;>intro _)
  all_goals (simp only[O1,Oa,OF]at *)
  all_goals first
   |(refine⟨trivial,?_,trivial⟩;unfold tO;rw[h2,hq.2 (by omega),Oq,Oq])
   |(refine⟨aA hk ln,k+1,⟨by omega,yes (by omega)⟩,by omega,by omega,?_⟩;exact Xr)
 ·have hk:k=s.length:=by have:¬((k:Int)<(s.length:Int)):=fun e=>h (Xd e);omega
  refine⟨trivial,?_,trivial⟩;unfold tO;rw[h2,hk,Ol];rfl
theorem Ba (x:Shape)  :
  True/\(!(decide (aG x=(0:Int))&&allS aP x))=!cN x/\True:=by
 exact⟨trivial,by trivial,trivial⟩
theorem Bb (l:List Shape) (hl:Wf (.lst (.st .shape)) l) :
  let A:=(0:Nat);let B:=(↑(List.length l):Int);let C:=l=l/\B=B/\True;(∃(x:Nat),(x<=List.length l/\ba cN (List.drop x l) x=ba cN l A)/\(0:Int)=(↑x:Int)/\C)/\∀(x:Nat),let D:=(↑x:Int);x<=List.length l/\ba cN (List.drop x l) x=ba cN l A->if decide (D<B)=true then((0:Int)<=D/\D<B)/\if(!cN (List.getD l (Int.toNat D) (dfl (Ty.st SN.shape))))=true then True/\D=ba cN l A/\True else inR IntKind.i64 (D+(1:Int))/\∃(y:Nat),(y<=List.length l/\ba cN (List.drop y l) y=ba cN l A)/\List.length l-y<List.length l-x/\D+(1:Int)=(↑y:Int)/\C else True/\(-1:Int)=ba cN l A/\True:=by
 conv=>zeta
 have ln:=hl.len;simp only[Oi];refine⟨⟨0,⟨Of _,by simp⟩,rfl,by trivial,by trivial,trivial⟩,?_⟩;rintro k ⟨h1,h2⟩;apply aa<;>intro h
 ·replace h:=Xo h;have hk:k<l.length:=by omega
  rw[an l k (dfl (.st .shape)) hk,ba]at h2;refine⟨by omega,aa (fun c=>?_) (fun c=>?_)⟩
  ·have c:cN (l.getD k (dfl (.st .shape)))=false:=by simpa using c
   rw[c,O0 P5]at h2;rw[<-h2];exact Xr
  ·have c:cN (l.getD k (dfl (.st .shape)))=true:=by simpa using c
   rw[O3 c]at h2;refine⟨aA hk ln,k+1,⟨by omega,h2⟩,by omega,by omega,by trivial,by trivial,trivial⟩
 ·replace h:¬((k:Int)<(l.length:Int)):=fun e=>h (Xd e);have e:k=l.length:=by omega
  subst e;rw[Ol,ba]at h2;rw[<-h2];exact Xr
theorem Bc (l:List Shape)  :
  True/\decide ((0:Int)<=ba cN l (0:Nat))=!List.all l cN/\True:=by
 exact⟨trivial,iC cN l 0,trivial⟩
theorem H0 (l:List Shape)  :
  True/\(!!List.all l cN)=List.all l cN/\True:=by
 exact⟨trivial,Rs _,trivial⟩
theorem JW(t:Trm)(ht:Wf (.st .term) t)(ho:t.names.length<=8796093022208) :
  let A:=(0:Int);let B:=(↑(List.length t.names):Int);let C:=(↑(List.length t.vars):Int);let D:=(↑(List.length t.shapes):Int);let E:=(↑(List.length t.parts):Int);let F:=True;let G:=t=t/\false=false/\t=t/\B=B/\C=C/\D=D/\E=E/\F;let H:=true=!oR t/\G;let I:=(1:Int);let J:=(!List.all t.shapes cN)=!oR t/\G;let K:=if(!decide (t.pkg=[]))=true then if(!decide (t.kind=(5:Int)))=true then H else J else J;let L:=F/\false=ao t/\F;let M:=F/\(decide (B=A)&&(decide (C=A)&&(decide (D=A)&&(decide (E=A)&&true))))=ao t/\F;let N:=if decide (t.name=[])=true then M else L;let O:=List.length t.names*(16:Nat)<=(140737488355328:Nat);let P:=decide (E=I)&&true;let Q:=decide (E=E)&&true;let R:=F/\(decide (B=A)&&(decide (C=A)&&(decide (D=A)&&P)))=ao t/\F;let S:=if aX t.name=true then R else L;let T:=inR IntKind.i64 (B+I);let U:=if eG t.name=true then R else L;(if decide (t.pos<A)=true then H else if(!decide (t.n=A))=true then if(!decide (t.kind=I))=true then H else K else K)/\if(!oR t)=true then L else if decide (t.kind=I)=true then if decide (t.name=[])=true then if decide (A<=t.n)=true then if decide (t.n<=(999999999999999:Int))=true then M else L else L else L else if decide (t.kind=(2:Int))=true then if tO t.name=true then M else L else if decide (t.kind=(3:Int))=true then N else if decide (t.kind=(4:Int))=true then N else if decide (t.kind=(5:Int))=true then if aX t.name=true then if decide (t.pkg=[])=true then M else if aX t.pkg=true then M else L else L else if decide (t.kind=(6:Int))=true then if decide (t.name=[])=true then if decide (B<=(4096:Int))=true then O/\if(List.all t.names aX&&decide (List.Nodup t.names))=true then F/\(decide (B=B)&&(decide (C=A)&&(decide (D=B)&&P)))=ao t/\F else L else L else L else if decide (t.kind=(7:Int))=true then if decide (t.name=[])=true then if decide (A<E)=true then F/\(decide (B=A)&&(decide (C=A)&&(decide (D=A)&&Q)))=ao t/\F else L else L else if decide (t.kind=(8:Int))=true then if decide (t.name=[])=true then O/\if(List.all t.names aX&&decide (List.Nodup t.names))=true then F/\(decide (B=B)&&(decide (C=A)&&(decide (D=A)&&(decide (E=B)&&true))))=ao t/\F else L else L else if decide (t.kind=(9:Int))=true then S else if decide (t.kind=(10:Int))=true then S else if decide (t.kind=(11:Int))=true then if decide (t.name=[])=true then F/\(decide (B=A)&&(decide (C=A)&&(decide (D=I)&&Q)))=ao t/\F else L else if decide (t.kind=(12:Int))=true then if decide (t.name=[])=true then F/\(decide (B=A)&&(decide (C=A)&&(decide (D=I)&&(decide (E=(3:Int))&&true))))=ao t/\F else L else if decide (t.kind=(13:Int))=true then if decide (t.name=[])=true then O/\if(List.all t.names aX&&decide (List.Nodup t.names))=true then if List.all t.vars aX=true then T/\T/\F/\(decide (B=B)&&(decide (C=B)&&(decide (D=B+I)&&(decide (E=B+I)&&true))))=ao t/\F else L else L else L else if decide (t.kind=(14:Int))=true then if aX t.name=true then F/\(decide (B=A)&&(decide (C=A)&&(decide (D=A)&&(decide (E=(2:Int))&&true))))=ao t/\F else L else if decide (t.kind=(15:Int))=true then if decide (t.name=[])=true then F/\(decide (B=A)&&(decide (C=A)&&(decide (D=I)&&P)))=ao t/\F else L else if decide (t.kind=(16:Int))=true then U else if decide (t.kind=(17:Int))=true then U else L:=by
 conv=>zeta
 refine⟨?_,aa (fun h=>?_) (fun h=>?_)⟩
 ·unfold oR
  repeat' (apply aa<;>intro _)
  all_goals simp_all
 ·have h:oR t=false:=by simpa using h
  unfold ao;rw[h];exact Xr
 have h:oR t=true:=by simpa using h
 have e0:ao t=Ae t:=by unfold ao;rw[h,OW]
 rw[e0];clear h e0;unfold Ae dj yb;simp only[dnZ,dn1,dn2,dn3,dnN,dnS,dnL,dnP];generalize t.names.all aX=na;generalize t.vars.all aX=va
 repeat' (first|apply aa<;>intro _|refine⟨by omega,?_⟩|refine⟨aU (by omega) (by omega),?_⟩|fail)
 all_goals (refine⟨trivial,?_,trivial⟩;try simp_all)
 all_goals first|(simp only[Bool.and_assoc];done)|(intros;omega)
theorem Bd(n:Nat)(x:Trm) (ho:szT x<=n/\cd x=true) :
  (szT x<=n/\cd x=true)/\True/\(!allT ao x)=!allT ao x/\True:=by
 exact⟨ho,trivial,by trivial,trivial⟩
theorem Be(n:Nat)(l:List Trm) (hl:Wf (.lst (.st .term)) l)(ho:∀x∈l,szT x<=n/\cd x=true) :
  let A:=allT ao;let B:=(0:Nat);let C:=(↑(List.length l):Int);let D:=l=l/\C=C/\True;let E:=dfl (Ty.st SN.term);(∃(x:Nat),(x<=List.length l/\ba A (List.drop x l) x=ba A l B)/\(0:Int)=(↑x:Int)/\D)/\∀(x:Nat),let F:=(↑x:Int);let G:=List.getD l (Int.toNat F) E;x<=List.length l/\ba A (List.drop x l) x=ba A l B->if decide (F<C)=true then((0:Int)<=F/\F<C)/\(szT G<=n/\cd G=true)/\if(!allT ao G)=true then True/\F=ba A l B/\True else inR IntKind.i64 (F+(1:Int))/\∃(y:Nat),(y<=List.length l/\ba A (List.drop y l) y=ba A l B)/\List.length l-y<List.length l-x/\F+(1:Int)=(↑y:Int)/\D else True/\(-1:Int)=ba A l B/\True:=by
 conv=>zeta
 have ln:=hl.len;simp only[Oi];refine⟨⟨0,⟨Of _,by simp⟩,rfl,by trivial,by trivial,trivial⟩,?_⟩;rintro k ⟨h1,h2⟩;apply aa<;>intro h
 ·replace h:=Xo h;have hk:k<l.length:=by omega
  rw[an l k (dfl (.st .term)) hk,ba]at h2;refine⟨by omega,ho _ (getD_mem l k _ hk),aa (fun c=>?_) (fun c=>?_)⟩
  ·have c:(allT ao) (l.getD k (dfl (.st .term)))=false:=by simpa using c
   rw[c,O0 P5]at h2;rw[<-h2];exact Xr
  ·have c:(allT ao) (l.getD k (dfl (.st .term)))=true:=by simpa using c
   rw[O3 c]at h2;refine⟨aA hk ln,k+1,⟨by omega,h2⟩,by omega,by omega,by trivial,by trivial,trivial⟩
 ·replace h:¬((k:Int)<(l.length:Int)):=fun e=>h (Xd e);have e:k=l.length:=by omega
  subst e;rw[Ol,ba]at h2;rw[<-h2];exact Xr
theorem Bf(n:Nat)(l:List Trm) (ho:∀x∈l,szT x<=n/\cd x=true) :
  (∀(x:Trm),x∈l->szT x<=n/\cd x=true)/\True/\decide ((0:Int)<=ba (allT ao) l (0:Nat))=!List.all l (allT ao)/\True:=by
 exact⟨ho,trivial,iC (allT ao) l 0,trivial⟩
theorem H2(n:Nat)(l:List Trm) (ho:∀x∈l,szT x<=n/\cd x=true) :
  (∀(x:Trm),x∈l->szT x<=n/\cd x=true)/\True/\(!!List.all l (allT ao))=List.all l (allT ao)/\True:=by
 exact⟨ho,trivial,Rs _,trivial⟩
theorem H3(n:Nat)(t:Trm)(ho:szT t<=n+1/\cd t=true) :
  List.length t.names<=(8796093022208:Nat)/\if ao t=true then(∀(x:Trm),x∈t.parts->szT x<=n/\cd x=true)/\True/\List.all t.parts (allT ao)=allT ao t/\True else True/\false=allT ao t/\True:=by
 obtain⟨h1,h2⟩:=ho;have e0:allT ao t=(ao t&&t.parts.all (allT ao)):=by rw[allT_eq,allTL_all]
 have h0:=ji t;rw[e0];refine⟨D6 h2,aa (fun h=>?_) (fun h=>?_)⟩
 ·rw[h,OW];exact⟨fun x hx=>⟨by have:=jC hx;omega,Gh h2 hx⟩,trivial,rfl,trivial⟩
 ·have h:ao t=false:=by simpa using h
  rw[h];exact Xr
theorem H4(x:Trm)(ho:cd x=true) :
  let A:=szT x<=szT x;let B:=(4096:Int);let C:=True;(A/\(0:Int)<=B/\B<=(1000000:Int))/\if decide (B<(countT x B).1)=true then C/\(3:Int)=du x/\C else if decide ((40:Int)<(countT x B).2)=true then C/\(91:Int)=du x/\C else(A/\cd x=true)/\if(!allT ao x)=true then C/\(80:Int)=du x/\C else C/\(0:Int)=du x/\C:=by
 conv=>zeta
 refine⟨⟨Od _,by omega,by omega⟩,aa (fun h=>?_) (fun h=>?_)⟩
 ·replace h:=Xo h;unfold du;rw[O3 h];exact Xr
 have h:¬_:=fun e=>h (Xd e);have e1:du x=if 40<(countT x 4096).2 then 91 else if allT ao x=true then 0 else 80:=by unfold du;rw[O0 h]
 apply aa<;>intro k
 ·rw[O3 (Xo k)]at e1;rw[e1];exact Xr
 rw[O0 (fun e=>k (Xd e))]at e1;refine⟨⟨Od _,ho⟩,aa (fun j=>?_) (fun j=>?_)⟩
 ·have j:allT ao x=false:=by simpa using j
  rw[j,O0 P5]at e1;rw[e1];exact Xr
 ·have j:allT ao x=true:=by simpa using j
  rw[O3 j]at e1;rw[e1];exact Xr
theorem JX(n:Nat)(s:Trm)(m:Int)(hs:Wf (.st .term) s)(ho:szT s<=n+1/\0<=m/\m<=1000000) :
  let A:=(1:Int);let B:=(0:Int);let C:=s=s/\m=m/\B=B/\s=s/\True;let D:=(↑(List.length s.parts):Int);let E:=dfl (Ty.st SN.term);(∃(x:Nat×Int),(x.1<=List.length s.parts/\A<=x.2/\x.2<=m+A/\sizeTL (List.drop x.1 s.parts) x.2 m=fe s m)/\A=x.2/\B=(↑x.1:Int)/\C)/\∀(x:Nat×Int),let F:=(↑x.1:Int);let G:=m-x.2;let H:=List.getD s.parts (Int.toNat F) E;let I:=True/\x.2=fe s m/\True;x.1<=List.length s.parts/\A<=x.2/\x.2<=m+A/\sizeTL (List.drop x.1 s.parts) x.2 m=fe s m->if decide (F<D)=true then if decide (x.2<=m)=true then(B<=F/\F<D)/\inR IntKind.i64 G/\(szT H<=n/\B<=m-x.2/\m-x.2<=(1000000:Int))/\inR IntKind.i64 (x.2+fe H G)/\inR IntKind.i64 (F+A)/\∃(y:Nat×Int),(y.1<=List.length s.parts/\A<=y.2/\y.2<=m+A/\sizeTL (List.drop y.1 s.parts) y.2 m=fe s m)/\List.length s.parts-y.1<List.length s.parts-x.1/\x.2+fe H G=y.2/\F+A=(↑y.1:Int)/\C else I else I:=by
 conv=>zeta
 have ln:=hs.term_parts.len;have hz:=ji s;obtain⟨ho1,ho2,ho3⟩:=ho;have h0:sizeTL s.parts 1 m=fe s m:=by cases s;rw[fe]
 simp only[Oi,Pw,OV,OK];refine⟨⟨(0,1),⟨Of _,by omega,by omega,h0⟩,rfl,rfl⟩,?_⟩;rintro⟨k,c⟩ ⟨h1,h2,h3,h4⟩;simp only at h1 h2 h3 h4⊢;apply aa<;>intro hk
 ·replace hk:=Xo hk;have hk:k<s.parts.length:=by omega
  have hm:=jC (getD_mem s.parts k (dfl (.st .term)) hk);rw[an s.parts k (dfl (.st .term)) hk]at h4;simp only[sizeTL]at h4;apply aa<;>intro hc
  ·replace hc:=Xo hc;rw[O3 hc]at h4;have hb:=sizeT_bd (s.parts.getD k (dfl (.st .term))) (m-c) (by omega);exact⟨by omega,aU (by omega) (by omega),by omega,aU (by omega) (by omega),aA hk ln,(k+1,_),⟨by omega,by simp only;omega,by simp only;omega,h4⟩,by simp only;omega,rfl,rfl⟩
  ·rw[O0 (fun e=>hc (Xd e))]at h4;exact h4
 ·replace hk:¬((k:Int)<(s.parts.length:Int)):=fun e=>hk (Xd e);have e:k=s.parts.length:=by omega
  subst e;rw[Ol]at h4;simp only[sizeTL]at h4;exact h4
theorem DN(s:Str)  :
  if(!decide (s=[]))=true then([48,49,50,51,52,53,54,55,56,57]:Str)=rh/\True/\decide (nh s=[])=cI s/\True else True/\false=cI s/\True:=by
 have e:∀l:Str,(l.all ng)=l.all fun c=>iI (bI c):=fun _=>rfl;apply aa<;>intro h
 ·refine⟨rfl,trivial,?_,trivial⟩;unfold cI;rw[h,OW,<-e];exact Bool.eq_iff_iff.2 (decide_eq_true_iff.trans (Gb s))
 ·refine⟨trivial,?_,trivial⟩;unfold cI;rw[QQ]at h;rw[h,Oq]
theorem JY(s:Str)(hs:Wf .str s) :
  let A:=True/\false=gG s/\True;let B:=(0:Int);let C:=(↑(List.length s):Int);let D:=(0:UInt8);let E:=(List.all s fun(c:UInt8)=>jo (bI c));let F:=s=s/\false=false/\C=C/\True;let G:=(1:Int);let H:=(65:Int);let I:=(90:Int);let J:=(45:Int);let K:=(∃(x:Nat),(x<=List.length s/\E=List.all (List.drop x s) fun(c:UInt8)=>jo (bI c))/\B=(↑x:Int)/\F)/\∀(x:Nat),let L:=(↑x:Int);let M:=(↑(UInt8.toNat (List.getD s (Int.toNat L) D)):Int);let N:=inR IntKind.i64 (L+G)/\∃(y:Nat),(y<=List.length s/\E=List.all (List.drop y s) fun(c:UInt8)=>jo (bI c))/\List.length s-y<List.length s-x/\L+G=(↑y:Int)/\F;let O:=if(!decide (M=J))=true then A else N;let P:=if decide (H<=M)=true then if decide (M<=I)=true then N else O else O;let Q:=if decide ((97:Int)<=M)=true then if decide (M<=(122:Int))=true then N else P else P;(x<=List.length s/\E=List.all (List.drop x s) fun(c:UInt8)=>jo (bI c))->if decide (L<C)=true then(B<=L/\L<C)/\if decide ((48:Int)<=M)=true then if decide (M<=(57:Int))=true then N else Q else Q else True/\true=gG s/\True;if decide (s=[])=true then A else if cI s=true then(B<=B/\B<C)/\if decide ((↑(UInt8.toNat (List.getD s (Int.toNat B) D)):Int)=(48:Int))=true then if(!decide (s=([48]:Str)))=true then A else K else K else K:=by
 conv=>zeta
 apply aa<;>intro h
 ·replace h:=Xo h;subst h;exact Xr
 have hne:s≠[]:=fun e=>h (Xd e);have hpos:=PG.2 hne;apply aa<;>intro h1
 ·refine⟨⟨by omega,by omega⟩,aa (fun h2=>?_) (fun h2=>?_)⟩
  ·apply aa<;>intro h3
   ·refine⟨trivial,?_,trivial⟩;have e:decide (bI (s.getD 0 0)=48)=true:=h2;unfold gG;rw[h1,e,h3];simp
   ·have hz:(cI s&&decide (bI (s.getD 0 0)=48)&&!decide (s=[48]))=false:=by rw[QQ]at h3;rw[h3,P7]
    refine⟨⟨0,⟨Of _,rfl⟩,rfl,rfl,rfl,rfl,trivial⟩,?_⟩;rintro k ⟨h1,h2⟩;simp only[Oi];apply aa<;>intro h
    ·have hk:k<s.length:=by have:=Xo h;omega
     rw[an s k 0 hk,P6]at h2;have eb:((s.getD k 0).toNat:Int)=bI (s.getD k 0):=rfl;refine⟨⟨by omega,by omega⟩,?_⟩;simp only[eb];have hp:=tH (bI (s.getD k 0));have yes:jo (bI (s.getD k 0))=true->(s.all fun c=>jo (bI c))=(s.drop (k+1)).all fun c=>jo (bI c):=fun e=>by rw[h2,e,OW]
     have no:¬jo (bI (s.getD k 0))=true->false=gG s:=fun e=>by rw[ke hne hz,h2,PC.2 e,Oq]
     generalize bI (s.getD k 0)=c at hp yes no⊢
     repeat' (apply aa<;>intro _)
     all_goals (simp only[O1,Oa,OF]at *)
     all_goals first
      |exact⟨trivial,no (fun e=>by have:=hp.1 e;omega),trivial⟩
      |exact⟨aA hk hs.str,k+1,⟨by omega,yes (hp.2 (by omega))⟩,by omega,by omega,(by first|rfl|trivial),(by first|rfl|trivial),(by first|rfl|trivial),trivial⟩
    ·have hk:k=s.length:=by have:¬((k:Int)<(s.length:Int)):=fun e=>h (Xd e);omega
     refine⟨trivial,?_,trivial⟩;rw[ke hne hz,h2,hk,Ol];rfl
  ·have hz:(cI s&&decide (bI (s.getD 0 0)=48)&&!decide (s=[48]))=false:=by
    have e:decide (bI (s.getD 0 0)=48)=false:=by rw[QQ]at h2;exact h2
    rw[e,P7,Oq]
   refine⟨⟨0,⟨Of _,rfl⟩,rfl,rfl,rfl,rfl,trivial⟩,?_⟩;rintro k ⟨h1,h2⟩;simp only[Oi];apply aa<;>intro h
   ·have hk:k<s.length:=by have:=Xo h;omega
    rw[an s k 0 hk,P6]at h2;have eb:((s.getD k 0).toNat:Int)=bI (s.getD k 0):=rfl;refine⟨⟨by omega,by omega⟩,?_⟩;simp only[eb];have hp:=tH (bI (s.getD k 0));have yes:jo (bI (s.getD k 0))=true->(s.all fun c=>jo (bI c))=(s.drop (k+1)).all fun c=>jo (bI c):=fun e=>by rw[h2,e,OW]
    have no:¬jo (bI (s.getD k 0))=true->false=gG s:=fun e=>by rw[ke hne hz,h2,PC.2 e,Oq]
    generalize bI (s.getD k 0)=c at hp yes no⊢
    repeat' (apply aa<;>intro _)
    all_goals (simp only[O1,Oa,OF]at *)
    all_goals first
     |exact⟨trivial,no (fun e=>by have:=hp.1 e;omega),trivial⟩
     |exact⟨aA hk hs.str,k+1,⟨by omega,yes (hp.2 (by omega))⟩,by omega,by omega,(by first|rfl|trivial),(by first|rfl|trivial),(by first|rfl|trivial),trivial⟩
   ·have hk:k=s.length:=by have:¬((k:Int)<(s.length:Int)):=fun e=>h (Xd e);omega
    refine⟨trivial,?_,trivial⟩;rw[ke hne hz,h2,hk,Ol];rfl
 ·have hz:(cI s&&decide (bI (s.getD 0 0)=48)&&!decide (s=[48]))=false:=by rw[QQ]at h1;rw[h1,Oq,Oq]
  refine⟨⟨0,⟨Of _,rfl⟩,rfl,rfl,rfl,rfl,trivial⟩,?_⟩;rintro k ⟨h1,h2⟩;simp only[Oi];apply aa<;>intro h
  ·have hk:k<s.length:=by have:=Xo h;omega
   rw[an s k 0 hk,P6]at h2;have eb:((s.getD k 0).toNat:Int)=bI (s.getD k 0):=rfl;refine⟨⟨by omega,by omega⟩,?_⟩;simp only[eb];have hp:=tH (bI (s.getD k 0));have yes:jo (bI (s.getD k 0))=true->(s.all fun c=>jo (bI c))=(s.drop (k+1)).all fun c=>jo (bI c):=fun e=>by rw[h2,e,OW]
   have no:¬jo (bI (s.getD k 0))=true->false=gG s:=fun e=>by rw[ke hne hz,h2,PC.2 e,Oq]
   generalize bI (s.getD k 0)=c at hp yes no⊢
   repeat' (apply aa<;>intro _)
   all_goals (simp only[O1,Oa,OF]at *)
   all_goals first
    |exact⟨trivial,no (fun e=>by have:=hp.1 e;omega),trivial⟩
    |exact⟨aA hk hs.str,k+1,⟨by omega,yes (hp.2 (by omega))⟩,by omega,by omega,(by first|rfl|trivial),(by first|rfl|trivial),(by first|rfl|trivial),trivial⟩
  ·have hk:k=s.length:=by have:¬((k:Int)<(s.length:Int)):=fun e=>h (Xd e);omega
   refine⟨trivial,?_,trivial⟩;rw[ke hne hz,h2,hk,Ol];rfl
theorem H5(v:Vers)(hv:Wf (.st .version) v) :
  let A:=(3:Nat);let B:=[v.major,v.minor,v.patch];let C:=(0:Int);let D:=(↑(List.length B):Int);let E:=v=v/\List.length B=List.length B/\True;let F:=v=v/\B=B/\D=D/\E;let G:=dfl (Ty.int IntKind.i64);let H:=True/\(40:Int)=ed v/\True;let I:=(1:Int);let J:=(46:UInt8);let K:=splitB J v.pre;let L:=(↑(List.length K):Int);let M:=v=v/\B=B/\D=D/\false=false/\false=false/\true=true/\splitB J v.pre=splitB J v.pre/\L=L/\E;let N:=True/\C=ed v/\True;(∃(x:Nat),(x<=A/\List.all (List.take x B) ri=true)/\C=(↑x:Int)/\F)/\∀(x:Nat),let O:=(↑x:Int);x<=A/\List.all (List.take x B) ri=true->if decide (O<D)=true then(C<=O/\O<D)/\if decide (List.getD B (Int.toNat O) G<C)=true then H else if decide ((999999:Int)<List.getD B (Int.toNat O) G)=true then H else inR IntKind.i64 (O+I)/\∃(y:Nat),(y<=A/\List.all (List.take y B) ri=true)/\A-y<A-x/\O+I=(↑y:Int)/\F else if decide ((24:Int)<(↑(List.length v.pre):Int))=true then H else if(!decide (v.pre=[]))=true then(([46]:Str)=([46]:Str)/\List.length v.pre<(4294967281:Nat))/\(∃(x_1:Nat),(x_1<=List.length K/\List.all (List.take x_1 K) gG=true)/\C=(↑x_1:Int)/\O=O/\M)/\∀(x_1:Nat),let P:=(↑x_1:Int);x_1<=List.length K/\List.all (List.take x_1 K) gG=true->if decide (P<L)=true then(C<=P/\P<L)/\if(!gG (List.getD K (Int.toNat P) (dfl Ty.str)))=true then H else inR IntKind.i64 (P+I)/\∃(y:Nat),(y<=List.length K/\List.all (List.take y K) gG=true)/\List.length K-y<List.length K-x_1/\P+I=(↑y:Int)/\O=O/\M else N else N:=by
 conv=>zeta
 have bad:∀k:Nat,k<3->ri ([v.major,v.minor,v.patch].getD k (dfl (.int .i64)))=false->True/\(40:Int)=ed v/\True:=fun k hk e=>
  ⟨trivial,(D3 (zW (l:=[v.major,v.minor,v.patch]) (dfl (.int .i64)) hk e)).symm,trivial⟩
 refine⟨⟨0,⟨by omega,rfl⟩,?_⟩,?_⟩
 ·exact Xr
 rintro k ⟨h1,h2⟩;have l3:[v.major,v.minor,v.patch].length=3:=rfl;simp only[Oi,l3];apply aa<;>intro h
 ·have hk:k<3:=by have:=Xo h;omega
  have bk:=bad k hk;have gk:=nk (l:=[v.major,v.minor,v.patch]) (dfl (.int .i64)) hk h2;refine⟨⟨by omega,by omega⟩,?_⟩;refine aa (fun a=>bk ?_) (fun a=>aa (fun b=>bk ?_) (fun b=>?_))
  ·have:=Xo a;have e:¬0<=[v.major,v.minor,v.patch].getD k (dfl (.int .i64)):=by omega
   unfold ri;rw[Xf e,Oq]
  ·have:=Xo b;have e:¬[v.major,v.minor,v.patch].getD k (dfl (.int .i64))<=999999:=by omega
   unfold ri;rw[Xf e,P7]
  ·have a:¬[v.major,v.minor,v.patch].getD k (dfl (.int .i64))<0:=fun e=>a (Xd e);have b:¬999999<[v.major,v.minor,v.patch].getD k (dfl (.int .i64)):=fun e=>b (Xd e);have a':0<=[v.major,v.minor,v.patch].getD k (dfl (.int .i64)):=by omega
   have b':[v.major,v.minor,v.patch].getD k (dfl (.int .i64))<=999999:=by omega
   refine⟨aU (by omega) (by omega),k+1,⟨by omega,gk ?_⟩,by omega,by omega,?_⟩
   ·unfold ri;rw[Xd a',Xd b'];rfl
   ·exact Xr
 ·have hk:k=3:=by have:¬((k:Int)<((3:Nat):Int)):=fun e=>h (Xd e);omega
  subst hk;have hg:=zX h2;apply aa<;>intro a
  ·have:=Xo a;rw[O3 (by omega)]at hg;rw[hg];exact Xr
  have a:¬(24:Int)<(v.pre.length:Int):=fun e=>a (Xd e);have hl:=fC 46 v.pre;rw[O0 (by omega)]at hg;apply aa<;>intro b
  ·have b:¬v.pre=[]:=by simpa using b
   rw[O0 b]at hg;refine⟨⟨(by first|rfl|trivial),by omega⟩,⟨0,⟨by omega,rfl⟩,?_⟩,?_⟩
   ·exact Xr
   rintro j ⟨j1,j2⟩;apply aa<;>intro c
   ·have hj:j<(splitB 46 v.pre).length:=by have:=Xo c;omega
    refine⟨⟨by omega,by omega⟩,aa (fun d=>?_) (fun d=>?_)⟩
    ·have d:gG ((splitB 46 v.pre).getD j (dfl .str))=false:=by simpa using d
     rw[zW (dfl .str) hj d,O0 P5]at hg;rw[hg];exact Xr
    ·have d:gG ((splitB 46 v.pre).getD j (dfl .str))=true:=by simpa using d
     refine⟨aU (by omega) (by omega),j+1,⟨by omega,nk (dfl .str) hj j2 d⟩,by omega,by omega,?_⟩;exact Xr
   ·have hj:(splitB 46 v.pre).length<=j:=by have:¬((j:Int)<((splitB 46 v.pre).length:Int)):=fun e=>c (Xd e);omega
    rw[IS hj]at j2;rw[O3 j2]at hg;rw[hg];exact Xr
  ·have b:v.pre=[]:=by simpa using b
   rw[O3 b]at hg;rw[hg];exact Xr
theorem H6(l:List Bndg)(hl:Wf (.lst (.st .bind)) l)(ho:l.length *120<=140737488355328) :
  let A:=([]:List Bndg);∀(b:Bool),(b=true->l=[])->if b=true then True/\l=[]/\List.length l=(0:Nat)/\True else(List.length A=List.length A/\(List.length A+List.length l)*(120:Nat)<=(140737488355328:Nat))/\True/\[]++l=l/\List.length ([]++l)=List.length l/\True:=by
 conv=>zeta
 intro b hb;apply aa<;>intro h
 ·have:=hb h;exact⟨trivial,this,by rw[this];rfl,trivial⟩
 ·exact⟨⟨rfl,by simp only[ON];omega⟩,trivial,rfl,rfl,trivial⟩
theorem LV(e:Envt)(l:List Bndg)(he:Wf (.st .env) e)(hl:Wf (.lst (.st .bind)) l)(ho:e.values.length<=1000000000/\l.length<=1000) :
  let A:=(140737488355328:Nat);let B:=cb e l;List.length e.values*(120:Nat)<=A/\(List.length e.values=List.length e.values/\(List.length e.values+List.length l)*(120:Nat)<=A)/\True/\e.self=B.self/\e.types=B.types/\e.values++l=e.values++l/\e.own=B.own/\True:=by
 conv=>zeta
 obtain⟨h1,h2⟩:=ho;exact⟨by omega,⟨rfl,by omega⟩,trivial,rfl,rfl,rfl,rfl,trivial⟩
theorem H7(a b:Shape)(f:Bool)  :
  True/\(f==decide (a.kind=(6:Int)))=decide (f=decide (a.kind=(6:Int)))/\True:=by
 exact Xr
theorem JZ   :
  True/\True:=by
 exact Xr
theorem K0(s:Shape)(m:Str)(hs:Wf (.st .shape) s)(ho:aV s=true) :
  let A:=(0:Int);let B:=A<=ct s.names m A;if decide (B)=true then(B/\ct s.names m A<(↑(List.length s.parts):Int))/\True/\some (List.getD s.parts (Int.toNat (ct s.names m A)) (dfl (Ty.st SN.shape)))=bT s m/\True else True/\bT s m=none/\True:=by
 conv=>zeta
 rcases Jd m (dfl (.st .shape)) ho with⟨h1,h2⟩|⟨h1,h2,h3⟩
 ·refine aa (fun h=>absurd (Xo h) h1) (fun _=>⟨trivial,h2,trivial⟩)
 ·exact aa (fun _=>⟨⟨h1,h2⟩,trivial,h3.symm,trivial⟩) (fun h=>absurd (Xd h1) h)
theorem H8(m:Str)(s:Shape)(ho:aV s=true) :
  aV s=true/\True/\Option.isNone (bT s m)=Option.isNone (bT s m)/\s=s/\True:=by
 exact⟨ho,trivial,rfl,rfl,trivial⟩
theorem K1(a b:Shape)  :
  let A:=(decide (aG a=(0:Int))&&decide (aG b=(0:Int)));if decide (aG a=(0:Int))=true then True/\decide (aG b=(0:Int))=A/\True else True/\false=A/\True:=by
 conv=>zeta
 cases decide (aG a=0)<;>simp
theorem LW(l:List Str)(s:Shape)(hl:Wf (.lst .str) l)(ho:aV s=true) :
  let A:=(fun(m:Str)=>Option.isSome (bT s m));let B:=(0:Nat);let C:=(↑(List.length l):Int);let D:=s=s/\True;let E:=l=l/\C=C/\D;(∃(x:Nat),(x<=List.length l/\ba A (List.drop x l) x=ba A l B)/\(0:Int)=(↑x:Int)/\E)/\∀(x:Nat),let F:=(↑x:Int);x<=List.length l/\ba A (List.drop x l) x=ba A l B->if decide (F<C)=true then((0:Int)<=F/\F<C)/\aV s=true/\if Option.isNone (bT s (List.getD l (Int.toNat F) (dfl Ty.str)))=true then True/\F=ba A l B/\D else inR IntKind.i64 (F+(1:Int))/\∃(y:Nat),(y<=List.length l/\ba A (List.drop y l) y=ba A l B)/\List.length l-y<List.length l-x/\F+(1:Int)=(↑y:Int)/\E else True/\(-1:Int)=ba A l B/\D:=by
 conv=>zeta
 have ln:=hl.len;simp only[Oi,Pw,OV,OK];refine⟨⟨0,⟨Of _,by simp⟩,rfl⟩,?_⟩;rintro k ⟨h1,h2⟩;apply aa<;>intro h
 ·replace h:=Xo h;have hk:k<l.length:=by omega
  rw[an l k (dfl .str) hk,ba]at h2;refine⟨by omega,ho,aa (fun c=>?_) (fun c=>?_)⟩
  ·have c:(bT s (l.getD k (dfl .str))).isSome=false:=by rw[Option.isNone_iff_eq_none]at c;rw[c];rfl
   rw[c,O0 P5]at h2;exact h2
  ·have c:(bT s (l.getD k (dfl .str))).isSome=true:=by cases hp:bT s (l.getD k (dfl .str))with|none=>rw[hp]at c;exact absurd rfl c|some x=>rfl
   rw[O3 c]at h2;exact⟨aA hk ln,k+1,⟨by omega,h2⟩,by omega,by omega⟩
 ·replace h:¬((k:Int)<(l.length:Int)):=fun e=>h (Xd e);have e:k=l.length:=by omega
  subst e;rw[Ol,ba]at h2;exact h2
theorem LX(l:List Str)(s:Shape)(ho:aV s=true) :
  aV s=true/\True/\(decide ((0:Int)<=ba (fun(m:Str)=>Option.isSome (bT s m)) l (0:Nat))=!List.all l fun(m:Str)=>Option.isSome (bT s m))/\s=s/\True:=by
 exact⟨ho,trivial,iC _ l 0,rfl,trivial⟩
theorem K2(n:Nat)(a b:Shape)(ha:Wf (.st .shape) a)(hb:Wf (.st .shape) b)(hn:sz a+sz b<=n+1)(oa:allS aV a=true)(ob:allS aV b=true) :
  let A:=True;let B:=(n+(1:Nat));let C:=A/\true=cE B a b/\A;let D:=A/\false=cE B a b/\A;let E:=(decide (a.kind=(6:Int))||decide (a.kind=(7:Int)));let F:=false=false;let G:=a=a/\b=b/\A;let H:=a=a/\b=b/\F/\F/\F/\G;let I:=cE n;let J:=(decide (a.kind=(7:Int)));let K:=(0:Int);let L:=(↑(List.length a.names):Int);let M:=true=true/\a=a/\b=b/\F/\F/\a.names=a.names/\L=L/\G;let N:=dfl Ty.str;let O:=(↑(List.length a.parts):Int);let P:=dfl (Ty.st SN.shape);let Q:=(1:Int);let R:=(↑(List.length b.parts):Int);let S:=(decide (a.kind=(8:Int)));let T:=F/\a=a/\b=b/\F/\F/\F/\O=O/\G;if decide (a.kind=(4:Int))=true then C else if decide (b.kind=(4:Int))=true then C else if(!decide (a.kind=b.kind))=true then D else if(!decide (a.pkg=b.pkg))=true then D else if(!decide (a.name=b.name))=true then D else(if decide (a.kind=(6:Int))=true then true=E/\H else decide (a.kind=(7:Int))=E/\H)/\if E=true then(∃(x:Nat),(x<=List.length a.names/\iO I J b (List.drop x a.names) (List.drop x a.parts)=iO I J b a.names a.parts)/\K=(↑x:Int)/\M)/\∀(x:Nat),let U:=(↑x:Int);let V:=bT b (List.getD a.names (Int.toNat U) N);let W:=List.getD a.parts (Int.toNat U) P;let X:=Option.getD V P;let Y:=inR IntKind.i64 (U+Q)/\∃(y:Nat),(y<=List.length a.names/\iO I J b (List.drop y a.names) (List.drop y a.parts)=iO I J b a.names a.parts)/\List.length a.names-y<List.length a.names-x/\U+Q=(↑y:Int)/\M;let Z:=if Option.isSome V=true then(K<=U/\U<O)/\Option.isSome V=true/\(sz W+sz X<=n/\allS aV W=true/\allS aV X=true)/\if(!cE n W X)=true then D else Y else Y;x<=List.length a.names/\iO I J b (List.drop x a.names) (List.drop x a.parts)=iO I J b a.names a.parts->if decide (U<L)=true then(K<=U/\U<L)/\aV b=true/\if Option.isNone V=true then if(!decide (true=decide (a.kind=(6:Int))))=true then D else Z else Z else if decide (false=decide (b.kind=(6:Int)))=true then C else aV a=true/\A/\(!!List.all b.names fun(m:Str)=>Option.isSome (bT a m))=cE B a b/\A else if(!decide (O=R))=true then D else(∃(x:Nat),(x<=List.length a.parts/\cE B a b=nq I S (List.drop x a.parts) (List.drop x b.parts))/\K=(↑x:Int)/\T)/\∀(x:Nat),let U:=(↑x:Int);let V:=List.getD b.parts (Int.toNat U) P;let W:=List.getD a.parts (Int.toNat U) P;let X:=allS aV V=true;let Y:=allS aV W=true;let Z:=inR IntKind.i64 (U+Q)/\∃(y:Nat),(y<=List.length a.parts/\cE B a b=nq I S (List.drop y a.parts) (List.drop y b.parts))/\List.length a.parts-y<List.length a.parts-x/\U+Q=(↑y:Int)/\T;let c:=(sz W+sz V<=n/\Y/\X)/\if(!cE n W V)=true then D else Z;x<=List.length a.parts/\cE B a b=nq I S (List.drop x a.parts) (List.drop x b.parts)->if decide (U<O)=true then(K<=U/\U<O)/\(K<=U/\U<R)/\if decide (a.kind=(8:Int))=true then inR IntKind.i64 (O-Q)/\if decide (U<O-Q)=true then(sz V+sz W<=n/\X/\Y)/\if(!cE n V W)=true then D else Z else c else c else C:=by
 conv=>zeta
 have la:=ha.parts.len;have lb:=hb.parts.len;have za:=jh a;have zb:=jh b;have fa:=rO oa;have fb:=rO ob;simp only[Oi,Pw,OV,OK];refine aa (fun h4=>by rw[cE,h4];rfl) (fun h4=>?_);refine aa (fun h5=>by rw[cE,h5];simp) (fun h5=>?_);apply aa<;>intro hk
 ·rw[cE];simp at h4 h5 hk;simp[h4,h5,hk]
 apply aa<;>intro hp
 ·rw[cE];simp at h4 h5 hp;simp[h4,h5,hp]
 apply aa<;>intro hm
 ·rw[cE];simp at h4 h5 hm;simp[h4,h5,hm]
 simp at h4 h5 hk hp hm
 have hU:cE (n+1) a b=(if a.kind=6 then iO (cE n) false b a.names a.parts&&b.names.all (fun m=>(bT a m).isSome)
    else if a.kind=7 then iO (cE n) true b a.names a.parts
    else decide (a.parts.length=b.parts.length)&&nq (cE n) (decide (a.kind=8)) a.parts b.parts):=by
  rw[cE];simp[h4,h5,hk,hp,hm]
 have lna:=ha.names.len;refine⟨aa (fun h=>by simp at h;simp[h]) (fun h=>by simp at h;simp[h]),aa (fun h67=>?_) (fun h67=>?_)⟩
 ·have hV:cE (n+1) a b=(iO (cE n) (decide (a.kind=7)) b a.names a.parts&&(if b.kind=6 then b.names.all (fun m=>(bT a m).isSome)else true)):=by
   rw[hU,<-hk];by_cases h6:a.kind=6
   ·simp[h6]
   ·simp at h67;simp[h67.resolve_left h6]
  refine⟨⟨0,⟨Of _,by simp⟩,rfl⟩,?_⟩;rintro k ⟨k1,k2⟩;apply aa<;>intro h
  ·replace h:=Xo h;have hk':k<a.names.length:=by omega
   have nl:a.names.length=a.parts.length:=(oU fa.1).resolve_left (fun e=>by rw[e]at hk';simp at hk');have hkp:k<a.parts.length:=by omega
   rw[an a.names k (dfl .str) hk',an a.parts k (dfl (.st .shape)) hkp]at k2;simp only[iO]at k2;refine⟨by omega,fb.1,?_⟩
   cases hq:bT b (a.names.getD k (dfl .str))with
   |none=>
    rw[hq]at k2;simp only[Option.isNone,Option.isSome,P1,P4,OL];apply aa<;>intro c
    ·rw[hV,<-k2];simp at c h67;simp[h67.resolve_left c]
    ·simp at c;refine⟨aA hk' lna,k+1,⟨by omega,?_⟩,by omega,by omega⟩;rw[<-k2];simp[c]
   |some x=>
    rw[hq]at k2;simp only[Option.isNone,Option.isSome,P1,P4,OL,Option.getD,OV];have m1:=getD_mem a.parts k (dfl (.st .shape)) hkp;have m2:=(Gp hq).2;have s1:=eZ m1;have s2:=eZ m2;refine⟨by omega,⟨by omega,gw fa.2 m1,gw fb.2 m2⟩,aa (fun c=>?_) (fun c=>?_)⟩
    ·simp only[Oa]at c;rw[hV,<-k2];simp only[c,Oq]
    ·simp only[Oa,PY]at c;refine⟨aA hk' lna,k+1,⟨by omega,?_⟩,by omega,by omega⟩;rw[<-k2];simp only[c,OW]
  ·replace h:¬((k:Int)<(a.names.length:Int)):=fun e=>h (Xd e);have e:k=a.names.length:=by omega
   subst e;rw[Ol]at k2;simp only[iO]at k2;rw[hV,<-k2];apply aa<;>intro c
   ·simp at c;simp[c]
   ·simp at c;exact⟨fa.1,by simp[c]⟩
 ·simp at h67;have hW:cE (n+1) a b=(decide (a.parts.length=b.parts.length)&&nq (cE n) (decide (a.kind=8)) a.parts b.parts):=by rw[hU,O0 h67.1,O0 h67.2]
  apply aa<;>intro c
  ·rw[hW];simp at c;have c':¬a.parts.length=b.parts.length:=by omega
   simp[c']
  simp at c;have c':a.parts.length=b.parts.length:=by omega
  rw[Xd c',OW]at hW;refine⟨⟨0,⟨Of _,by simpa using hW⟩,rfl⟩,?_⟩;rintro k ⟨k1,k2⟩;apply aa<;>intro h
  ·replace h:=Xo h;have ka:k<a.parts.length:=by omega
   have kb:k<b.parts.length:=by omega
   rw[an a.parts k (dfl (.st .shape)) ka,an b.parts k (dfl (.st .shape)) kb]at k2;simp only[nq]at k2;have m1:=getD_mem a.parts k (dfl (.st .shape)) ka;have m2:=getD_mem b.parts k (dfl (.st .shape)) kb;have s1:=eZ m1;have s2:=eZ m2;have f1:=gw fa.2 m1;have f2:=gw fb.2 m2;refine⟨by omega,by omega,aa (fun h8=>?_) (fun h8=>?_)⟩
   ·simp at h8;refine⟨aU (by omega) (by omega),aa (fun l=>?_) (fun l=>?_)⟩
    ·replace l:=Xo l;have le:(decide (a.kind=8)&&!(a.parts.drop (k+1)).isEmpty)=true:=by simp[h8];omega
     rw[O3 le]at k2;refine⟨⟨by omega,f2,f1⟩,aa (fun c=>?_) (fun c=>?_)⟩
     ·simp only[Oa]at c;rw[k2,c];rfl
     ·simp only[Oa,PY]at c;exact⟨aA ka la,k+1,⟨by omega,by rw[k2,c];rfl⟩,by omega,by omega⟩
    ·replace l:¬((k:Int)<(a.parts.length:Int)-1):=fun e=>l (Xd e);have le:¬(decide (a.kind=8)&&!(a.parts.drop (k+1)).isEmpty)=true:=by simp;omega
     rw[O0 le]at k2;refine⟨⟨by omega,f1,f2⟩,aa (fun c=>?_) (fun c=>?_)⟩
     ·simp only[Oa]at c;rw[k2,c];rfl
     ·simp only[Oa,PY]at c;exact⟨aA ka la,k+1,⟨by omega,by rw[k2,c];rfl⟩,by omega,by omega⟩
   ·simp at h8;have le:¬(decide (a.kind=8)&&!(a.parts.drop (k+1)).isEmpty)=true:=by simp[h8]
    rw[O0 le]at k2;refine⟨⟨by omega,f1,f2⟩,aa (fun c=>?_) (fun c=>?_)⟩
    ·simp only[Oa]at c;rw[k2,c];rfl
    ·simp only[Oa,PY]at c;exact⟨aA ka la,k+1,⟨by omega,by rw[k2,c];rfl⟩,by omega,by omega⟩
  ·replace h:¬((k:Int)<(a.parts.length:Int)):=fun e=>h (Xd e);have e:k=a.parts.length:=by omega
   subst e;rw[Ol]at k2;rw[k2];simp[nq]
theorem LY(a b:Shape)(ha:Wf (.st .shape) a)(hb:Wf (.st .shape) b) :
  if(decide (aG a=(0:Int))&&decide (aG b=(0:Int)))=true then(sz a+sz b<=(800:Nat)/\allS aV a=true/\allS aV b=true)/\True/\cE (800:Nat) a b=oS a b/\True else True/\false=oS a b/\True:=by
 apply aa<;>intro h
 ·simp only[NZ,O1]at h;have c1:=dD h.1;have c2:=dD h.2;refine⟨⟨by omega,c1.2.2,c2.2.2⟩,trivial,?_,trivial⟩;rw[oS,h.1,h.2];rfl
 ·refine⟨trivial,?_,trivial⟩;rw[oS,PC.2 h];rfl
theorem LZ(k:Nam)(v:Shape)  :
  True/\bP [] k v=bP [] k v/\True:=by
 exact Xr
theorem M0(m:List (Nam×Shape))(k:Nam)(v:Shape)  :
  True/\bP m k v=bP m k v/\True:=by
 exact Xr
theorem M1(k:Nam)  :
  True/\{kind:=(0:Int),pkg:=[],name:=[],names:=[],parts:=[]:Shape}=aJ/\false=Option.isSome (dV [] k.pkg k.name)/\True:=by
 exact Xr
theorem M3(m:List (Nam×Shape))(k:Nam)  :
  let A:=dV m k.pkg k.name;True/\Option.getD (cu m k) {kind:=(0:Int),pkg:=[],name:=[],names:=[],parts:=[]:Shape}=Option.getD A aJ/\Option.isSome (cu m k)=Option.isSome A/\m=m/\True:=by
 conv=>zeta
 exact Xr
theorem K3(n:Nat)(s:Shape)(hs:Wf (.st .shape) s)(hn:sz s<=n+1)(h4:n+1<=400)(os:allS aV s=true) :
  let A:=True;let B:=dV [];let C:=fillS B s;let D:=(0:Int);let E:=(↑(List.length s.parts):Int);let F:=s.parts=s.parts;let G:=gD UInt8=gD UInt8;let H:=s=s/\D=D/\G/\G/\A;let I:=dfl (Ty.st SN.shape);let J:=Option.getD C aJ;let K:=(140737488355328:Nat);if decide (s.kind=(9:Int))=true then A/\aJ=Option.getD C aJ/\Option.isSome (dV [] s.pkg s.name)=Option.isSome C/\A else(D<=E/\E*(↑(88:Nat):Int)<=(140737488355328:Int))/\(∃(x:Nat×List Shape),(x.1<=List.length s.parts/\List.length x.2=x.1/\fillL B s.parts=Option.map (fun(x_1:List Shape)=>x.2++x_1) (fillL B (List.drop x.1 s.parts)))/\D=(↑x.1:Int)/\[]=x.2/\s=s/\false=false/\F/\E=E/\(0:Nat)=List.length x.2/\H)/\∀(x:Nat×List Shape),let L:=(↑x.1:Int);let M:=List.getD s.parts (Int.toNat L) I;let N:=[Option.getD (fillS B M) aJ];x.1<=List.length s.parts/\List.length x.2=x.1/\fillL B s.parts=Option.map (fun(x_1:List Shape)=>x.2++x_1) (fillL B (List.drop x.1 s.parts))->if decide (L<E)=true then(D<=L/\L<E)/\(sz M<=n/\n<=(400:Nat)/\allS aV M=true)/\if(!Option.isSome (fillS B M))=true then A/\D=J.kind/\[]=J.pkg/\[]=J.name/\J.names=[]/\J.parts=[]/\false=Option.isSome C/\A else(List.length x.2=List.length x.2/\(List.length x.2+List.length N)*(88:Nat)<=K)/\inR IntKind.i64 (L+(1:Int))/\∃(y:Nat×List Shape),(y.1<=List.length s.parts/\List.length y.2=y.1/\fillL B s.parts=Option.map (fun(x:List Shape)=>y.2++x) (fillL B (List.drop y.1 s.parts)))/\List.length s.parts-y.1<List.length s.parts-x.1/\L+(1:Int)=(↑y.1:Int)/\x.2++N=y.2/\s=s/\false=false/\F/\E=E/\List.length (x.2++N)=List.length y.2/\H else List.length s.names*(16:Nat)<=K/\A/\s.kind=J.kind/\s.pkg=J.pkg/\s.name=J.name/\s.names=J.names/\x.2=J.parts/\true=Option.isSome C/\A:=by
 conv=>zeta
 have fs:=rO os;have zs:=jh s;have ln:=hs.parts.len;have lz:=mE s.parts;simp only[Oi,Pw,OV,OK];apply aa<;>intro h9
 ·simp only[O1]at h9;rw[oW,O3 h9];exact⟨rfl,rfl⟩
 simp only[O1]at h9;have hf:fillS (dV []) s=(fillL (dV []) s.parts).map fun q=>⟨s.kind,s.pkg,s.name,s.names,q⟩:=by rw[oW,O0 h9]
 refine⟨⟨by omega,by omega⟩,⟨(0,[]),⟨Of _,rfl,by simp⟩,rfl,rfl,rfl⟩,?_⟩;rintro⟨k,q⟩ ⟨h1,h2,h3⟩;dsimp only at h1 h2 h3⊢;apply aa<;>intro h
 ·replace h:=Xo h;have hk:k<s.parts.length:=by omega
  rw[an s.parts k (dfl (.st .shape)) hk]at h3;simp only[fillL]at h3;have m1:=getD_mem s.parts k (dfl (.st .shape)) hk;have s1:=eZ m1;refine⟨by omega,⟨by omega,by omega,gw fs.2 m1⟩,?_⟩
  cases hx:fillS (dV []) (s.parts.getD k (dfl (.st .shape)))with
  |none=>rw[hx]at h3;refine aa (fun c=>?_) (fun c=>absurd rfl c);rw[hf,h3];exact⟨rfl,rfl,rfl,rfl,rfl,rfl⟩
  |some x=>
   rw[hx]at h3;refine aa (fun c=>absurd c P5) (fun c=>?_);refine⟨by simp only[Option.getD,O8,ON];omega,aA hk ln,(k+1,q++[x]),⟨by omega,by simp[h2],?_⟩,by dsimp only;omega,by dsimp only;omega,rfl,rfl⟩;rw[h3]
   cases fillL (dV []) (s.parts.drop (k+1))with|none=>rfl|some l=>simp
 ·replace h:¬((k:Int)<(s.parts.length:Int)):=fun e=>h (Xd e);have e:k=s.parts.length:=by omega
  subst e;rw[Ol]at h3;simp only[fillL,Option.map,P2]at h3;rw[hf,h3];refine⟨?_,rfl,rfl,rfl,rfl,rfl,rfl⟩;rcases oU fs.1 with g|g
  ·rw[g];simp
  ·omega
theorem K4(n:Nat)(m:List (Nam×Shape))(s:Shape)(hs:Wf (.st .shape) s)(hn:sz s<=n+1)(h4:n+1<=400)(os:allS aV s=true) :
  let A:=dV m s.pkg s.name;let B:=dV m;let C:=fillS B s;let D:=m=m/\True;let E:=(0:Int);let F:=(↑(List.length s.parts):Int);let G:=s.parts=s.parts;let H:=gD UInt8=gD UInt8;let I:=m=m/\s=s/\E=E/\H/\H/\True;let J:=dfl (Ty.st SN.shape);let K:=Option.getD C aJ;let L:=(140737488355328:Nat);if decide (s.kind=(9:Int))=true then True/\Option.getD A aJ=Option.getD C aJ/\Option.isSome A=Option.isSome C/\D else(E<=F/\F*(↑(88:Nat):Int)<=(140737488355328:Int))/\(∃(x:Nat×List Shape),(x.1<=List.length s.parts/\List.length x.2=x.1/\fillL B s.parts=Option.map (fun(x_1:List Shape)=>x.2++x_1) (fillL B (List.drop x.1 s.parts)))/\E=(↑x.1:Int)/\[]=x.2/\s=s/\false=false/\G/\F=F/\(0:Nat)=List.length x.2/\I)/\∀(x:Nat×List Shape),let M:=(↑x.1:Int);let N:=List.getD s.parts (Int.toNat M) J;let O:=[Option.getD (fillS B N) aJ];x.1<=List.length s.parts/\List.length x.2=x.1/\fillL B s.parts=Option.map (fun(x_1:List Shape)=>x.2++x_1) (fillL B (List.drop x.1 s.parts))->if decide (M<F)=true then(E<=M/\M<F)/\(sz N<=n/\n<=(400:Nat)/\allS aV N=true)/\if(!Option.isSome (fillS B N))=true then True/\E=K.kind/\[]=K.pkg/\[]=K.name/\K.names=[]/\K.parts=[]/\false=Option.isSome C/\D else(List.length x.2=List.length x.2/\(List.length x.2+List.length O)*(88:Nat)<=L)/\inR IntKind.i64 (M+(1:Int))/\∃(y:Nat×List Shape),(y.1<=List.length s.parts/\List.length y.2=y.1/\fillL B s.parts=Option.map (fun(x:List Shape)=>y.2++x) (fillL B (List.drop y.1 s.parts)))/\List.length s.parts-y.1<List.length s.parts-x.1/\M+(1:Int)=(↑y.1:Int)/\x.2++O=y.2/\s=s/\false=false/\G/\F=F/\List.length (x.2++O)=List.length y.2/\I else List.length s.names*(16:Nat)<=L/\True/\s.kind=K.kind/\s.pkg=K.pkg/\s.name=K.name/\s.names=K.names/\x.2=K.parts/\true=Option.isSome C/\D:=by
 conv=>zeta
 have fs:=rO os;have zs:=jh s;have ln:=hs.parts.len;have lz:=mE s.parts;simp only[Oi,Pw,OV,OK];apply aa<;>intro h9
 ·simp only[O1]at h9;rw[oW,O3 h9];exact⟨rfl,rfl⟩
 simp only[O1]at h9;have hf:fillS (dV m) s=(fillL (dV m) s.parts).map fun q=>⟨s.kind,s.pkg,s.name,s.names,q⟩:=by rw[oW,O0 h9]
 refine⟨⟨by omega,by omega⟩,⟨(0,[]),⟨Of _,rfl,by simp⟩,rfl,rfl,rfl⟩,?_⟩;rintro⟨k,q⟩ ⟨h1,h2,h3⟩;dsimp only at h1 h2 h3⊢;apply aa<;>intro h
 ·replace h:=Xo h;have hk:k<s.parts.length:=by omega
  rw[an s.parts k (dfl (.st .shape)) hk]at h3;simp only[fillL]at h3;have m1:=getD_mem s.parts k (dfl (.st .shape)) hk;have s1:=eZ m1;refine⟨by omega,⟨by omega,by omega,gw fs.2 m1⟩,?_⟩
  cases hx:fillS (dV m) (s.parts.getD k (dfl (.st .shape)))with
  |none=>rw[hx]at h3;refine aa (fun c=>?_) (fun c=>absurd rfl c);rw[hf,h3];exact⟨rfl,rfl,rfl,rfl,rfl,rfl⟩
  |some x=>
   rw[hx]at h3;refine aa (fun c=>absurd c P5) (fun c=>?_);refine⟨by simp only[Option.getD,O8,ON];omega,aA hk ln,(k+1,q++[x]),⟨by omega,by simp[h2],?_⟩,by dsimp only;omega,by dsimp only;omega,rfl,rfl⟩;rw[h3]
   cases fillL (dV m) (s.parts.drop (k+1))with|none=>rfl|some l=>simp
 ·replace h:¬((k:Int)<(s.parts.length:Int)):=fun e=>h (Xd e);have e:k=s.parts.length:=by omega
  subst e;rw[Ol]at h3;simp only[fillL,Option.map,P2]at h3;rw[hf,h3];refine⟨?_,rfl,rfl,rfl,rfl,rfl,rfl⟩;rcases oU fs.1 with g|g
  ·rw[g];simp
  ·omega
theorem H9   :
  let A:=den (Ty.st SN.bind);let B:=gD A=gD A;let C:=(↑(List.length ([]:List Bndg)):Int);(∃(x:Nat),True/\(0:Int)=(0:Int)/\B/\B/\C=C/\True)/\∀(x:Nat),True->True/\True:=by
 conv=>zeta
 exact⟨⟨0,trivial,rfl,rfl,rfl,rfl,trivial⟩,fun _ _=>⟨trivial,trivial⟩⟩
theorem Ha(b:Bndg)(r:List Bndg)(hl:Wf (.lst (.st .bind)) (b::r)) :
  let A:=(0:Int);let B:=(b::r);let C:=(↑(List.length B):Int);let D:=(1:Int);let E:=b::r=b::r;let F:=dfl (Ty.st SN.bind);let G:=List.getD B (Int.toNat A) F;if decide (A<C)=true then(A<=A/\A<C)/\inR IntKind.i64 (A+D)/\(∃(x:Nat×List (Nam×Shape)),(x.1<=List.length B/\qH (List.drop x.1 B) x.2=lV B)/\A+D=(↑x.1:Int)/\E/\E/\C=C/\bP [] {pkg:=G.pkg,name:=G.name:Nam} G.shape=x.2/\True)/\∀(x:Nat×List (Nam×Shape)),let H:=(↑x.1:Int);let I:=List.getD B (Int.toNat H) F;x.1<=List.length B/\qH (List.drop x.1 B) x.2=lV B->if decide (H<C)=true then(A<=H/\H<C)/\inR IntKind.i64 (H+D)/\∃(y:Nat×List (Nam×Shape)),(y.1<=List.length B/\qH (List.drop y.1 B) y.2=lV B)/\List.length B-y.1<List.length B-x.1/\H+D=(↑y.1:Int)/\E/\E/\C=C/\bP x.2 {pkg:=I.pkg,name:=I.name:Nam} I.shape=y.2/\True else True/\x.2=lV B/\True else True/\False:=by
 conv=>zeta
 have ln:=hl.len;refine aa (fun _=>?_) (fun h=>absurd (Xd (by simp only[O8];omega)) h);simp only[Oi,Pw,OV,OK];refine⟨by simp only[O8];omega,aU (by omega) (by omega),⟨(1,bP [] ⟨b.pkg,b.name⟩ b.shape),⟨by simp,rfl⟩,rfl,rfl⟩,?_⟩;rintro⟨k,m⟩ ⟨h1,h2⟩;dsimp only at h1 h2⊢;apply aa<;>intro h
 ·replace h:=Xo h;have hk:k<(b::r).length:=by omega
  rw[an (b::r) k (dfl (.st .bind)) hk]at h2;exact⟨by omega,aA hk ln,(k+1,_),⟨by omega,h2⟩,by dsimp only;omega,by dsimp only;omega,rfl⟩
 ·replace h:¬((k:Int)<((b::r).length:Int)):=fun e=>h (Xd e);have e:k=(b::r).length:=by omega
  subst e;rw[Ol]at h2;exact h2
theorem Bg(s:Shape)(hs:Wf (.st .shape) s) :
  let A:=(0:Int);let B:=True;let C:=aN s [];let D:=A=C.1.kind;let E:=[]=C.1.pkg;let F:=[]=C.1.name;let G:=C.1.names=[];let H:=C.1.parts=[];let I:=(400:Nat);let J:=fillS (dV []) s;let K:=Option.getD J aJ;if(!decide (aG s=A))=true then B/\D/\E/\F/\G/\H/\aG s=C.2/\B else(sz s<=I/\I<=I/\allS aV s=true)/\if(!Option.isSome J)=true then B/\D/\E/\F/\G/\H/\(110:Int)=C.2/\B else if(!decide (aG K=A))=true then B/\D/\E/\F/\G/\H/\aG K=C.2/\B else B/\bO K=C.1/\A=C.2/\B:=by
 conv=>zeta
 have hr:aN s []=if aG s=0 then(match fillS (dV []) s with|none=>(aJ,110)|some q=>if aG q=0 then(bO q,0)else(aJ,aG q))else(aJ,aG s):=by unfold aN;rw[<-Aj];try rfl
 apply aa<;>intro h
 ·have h:¬aG s=0:=by simpa using h
  rw[hr,O0 h];exact Xr
 ·have h:aG s=0:=by simpa using h
  rw[hr,O3 h];have c:=dD h;refine⟨⟨c.1,Od _,c.2.2⟩,?_⟩
  cases hq:fillS (dV []) s with
  |none=>exact aa (fun _=>Xr) (fun g=>absurd rfl g)
  |some q=>
   refine aa (fun g=>absurd g P5) (fun _=>aa (fun g=>?_) (fun g=>?_))
   ·have g:¬aG q=0:=by simpa using g
    dsimp only;rw[O0 g];exact Xr
   ·have g:aG q=0:=by simpa using g
    dsimp only;rw[O3 g];exact Xr
theorem DO(s:Shape)(b:Bndg)(r:List Bndg)(hs:Wf (.st .shape) s)(hl:Wf (.lst (.st .bind)) (b::r)) :
  let A:=(0:Int);let B:=True;let C:=(aN s (b::r));let D:=A=C.1.kind;let E:=[]=C.1.pkg;let F:=[]=C.1.name;let G:=C.1.names=[];let H:=C.1.parts=[];let I:=(400:Nat);let J:=(fillS (dV (lV (b::r))) s);let K:=Option.getD J aJ;if(!decide (aG s=A))=true then B/\D/\E/\F/\G/\H/\aG s=C.2/\B else(sz s<=I/\I<=I/\allS aV s=true)/\if(!Option.isSome J)=true then B/\D/\E/\F/\G/\H/\(110:Int)=C.2/\B else if(!decide (aG K=A))=true then B/\D/\E/\F/\G/\H/\aG K=C.2/\B else B/\bO K=C.1/\A=C.2/\B:=by
 conv=>zeta
 have hr:aN s (b::r)=if aG s=0 then(match fillS (dV (lV (b::r))) s with|none=>(aJ,110)|some q=>if aG q=0 then(bO q,0)else(aJ,aG q))else(aJ,aG s):=by unfold aN;rw[<-Aj];try rfl
 apply aa<;>intro h
 ·have h:¬aG s=0:=by simpa using h
  rw[hr,O0 h];exact Xr
 ·have h:aG s=0:=by simpa using h
  rw[hr,O3 h];have c:=dD h;refine⟨⟨c.1,Od _,c.2.2⟩,?_⟩
  cases hq:fillS (dV (lV (b::r))) s with
  |none=>exact aa (fun _=>Xr) (fun g=>absurd rfl g)
  |some q=>
   refine aa (fun g=>absurd g P5) (fun _=>aa (fun g=>?_) (fun g=>?_))
   ·have g:¬aG q=0:=by simpa using g
    dsimp only;rw[O0 g];exact Xr
   ·have g:aG q=0:=by simpa using g
    dsimp only;rw[O3 g];exact Xr
theorem Ng(k:Int)  :
  let A:=ofK k;True/\k=A.kind/\[]=A.pkg/\[]=A.name/\A.names=[]/\A.parts=[]/\True:=by
 conv=>zeta
 exact Xr
theorem Hb(e a:Int)  :
  True/\e=e/\a=a/\True:=by
 exact Xr
theorem K5(l:List Bndg)(o m:Str)(hl:Wf (.lst (.st .bind)) l) :
  let A:=(↑(List.length l):Int);let B:=(1:Int);let C:=(0:Int);let D:=gD UInt8=gD UInt8;let E:=l=l/\o=o/\m=m/\C=C/\D/\D/\True;let F:=dfl (Ty.st SN.bind);let G:=aO l o m;let H:=Option.elim G aJ bO;inR IntKind.i64 (A-B)/\(∃(x:Nat),(x<=List.length l/\aO l o m=aO (List.take x l) o m)/\A-B=(↑x:Int)-B/\E)/\∀(x:Nat),let I:=(↑x:Int);let J:=C<=I-B/\I-B<A;let K:=List.getD l (Int.toNat (I-B)) F;let L:=inR IntKind.i64 (I-B-B)/\∃(y:Nat),(y<=List.length l/\aO l o m=aO (List.take y l) o m)/\y<x/\I-B-B=(↑y:Int)-B/\E;x<=List.length l/\aO l o m=aO (List.take x l) o m->if decide (C<=I-B)=true then J/\if decide (K.pkg=o)=true then J/\if decide (K.name=m)=true then J/\True/\bO K.shape=Option.elim G aJ bO/\true=Option.isSome G/\True else L else L else True/\C=H.kind/\[]=H.pkg/\[]=H.name/\H.names=[]/\H.parts=[]/\false=Option.isSome G/\True:=by
 conv=>zeta
 have ln:=hl.len;refine⟨aU (by omega) (by omega),⟨l.length,⟨Od _,by rw[OY]⟩,rfl,rfl,rfl,rfl,rfl,rfl,rfl,trivial⟩,?_⟩;rintro x ⟨h1,h2⟩;apply aa<;>intro h
 ·have h:=Xo h;obtain⟨k,rfl⟩:∃k,x=k+1:=⟨x-1,by omega⟩;have e1:(((k+1:Nat):Int)-1)=(k:Int):=by omega
  rw[Al l o m (dfl (.st .bind)) (by omega)]at h2;simp only[e1,Oi,Pw,OV,OK]
  have next:aO l o m=aO (l.take k) o m->inR IntKind.i64 ((k:Int)-1)/\∃(y:Nat),(y<=List.length l/\aO l o m=aO (List.take y l) o m)/\y<k+1/\(k:Int)-1=(y:Int)-1:=
   fun g=>⟨aU (by omega) (by omega),k,⟨by omega,g⟩,by omega,rfl⟩
  refine⟨by omega,aa (fun c1=>?_) (fun c1=>?_)⟩
  ·have c1:=Xo c1;refine⟨by omega,aa (fun c2=>?_) (fun c2=>?_)⟩
   ·have c2:=Xo c2;rw[O3 ⟨c1,c2⟩]at h2;rw[h2];exact⟨by omega,rfl,rfl⟩
   ·rw[O0 (fun g=>c2 (Xd g.2))]at h2;exact next h2
  ·rw[O0 (fun g=>c1 (Xd g.1))]at h2;exact next h2
 ·have h:¬(0:Int)<=(x:Int)-1:=fun e=>h (Xd e);obtain rfl:x=0:=by omega
  rw[h2];exact Xr
theorem Hc(n:Nat)(t:Trm)(e:Envt)(ht:Wf (.st .term) t)(he:Wf (.st .env) e)(hz:szT t<=n+1)(hf:allT ao t=true)(hv:e.values.length+4096 *szT t<=100000000) :
  let A:=bh (ag n) t e;let B:=(0:Int);let C:=True;let D:=(ag (n+(1:Nat)) t e);let E:=B=D.1.kind;let F:=[]=D.1.pkg;let G:=[]=D.1.name;let H:=D.1.names=[];let I:=D.1.parts=[];let J:=C/\bO A.1=D.1/\B=D.2.err/\B=D.2.pos/\C;let K:=if(!decide (A.2.err=B))=true then C/\E/\F/\G/\H/\I/\A.2.err=D.2.err/\A.2.pos=D.2.pos/\C else J;(szT t<=n+(1:Nat)/\allT ao t=true/\List.length e.values+(4096:Nat)*szT t<=(100000000:Nat))/\if decide (A.2.err=B)=true then if(!decide (aG A.1=B))=true then if(!decide (aG A.1=B))=true then C/\E/\F/\G/\H/\I/\aG A.1=D.2.err/\t.pos=D.2.pos/\C else J else K else K:=by
 conv=>zeta
 refine⟨⟨hz,hf,hv⟩,?_⟩;rw[show ag (n+1) t e=kT t (bh (ag n) t e)from rfl];generalize bh (ag n) t e=r;unfold kT;by_cases h1:r.2.err=0
 ·by_cases h2:aG r.1=0
  ·simp[h1,h2,cQ]
  ·simp[h1,h2,aJ]
 ·simp[h1,aJ]
theorem K6(n:Nat)(t:Trm)(w:Shape)(e:Envt)(ht:Wf (.st .term) t)(hw:Wf (.st .shape) w)(he:Wf (.st .env) e)(hz:szT t<=n)(hf:allT ao t=true)(hv:e.values.length+4096 *szT t<=100000000) :
  let A:=ag n t e;let B:=aW (ag n) t w e;let C:=True/\A.2.err=B.err/\A.2.pos=B.pos/\True;(szT t<=n/\allT ao t=true/\List.length e.values+(4096:Nat)*szT t<=(100000000:Nat))/\if decide (A.2.err=(0:Int))=true then if(!oS A.1 w)=true then True/\(140:Int)=B.err/\t.pos=B.pos/\True else C else C:=by
 conv=>zeta
 refine⟨⟨hz,hf,hv⟩,?_⟩;unfold aW;by_cases h1:(ag n t e).2.err=0
 ·cases h2:oS (ag n t e).1 w<;>simp[h1,h2]
 ·simp[h1]
theorem Hd(n:Nat)(t:Trm)(e:Envt)(ht:Wf (.st .term) t)(he:Wf (.st .env) e)(hp:0<t.parts.length)(hz:szT t<=n+1)(hf:allT ao t=true)(hv:e.values.length+4096 *szT t<=100000000) :
  let A:=(0:Int);let B:=List.getD t.parts (Int.toNat A) (dfl (Ty.st SN.term));let C:=ag n B e;let D:=True;let E:=iJ (ag n) t e;let F:=D/\C.1=E.1/\C.2.err=E.2.err/\C.2.pos=E.2.pos/\D;let G:=D/\C.1=E.1/\(140:Int)=E.2.err/\t.pos=E.2.pos/\D;(A<=A/\A<(↑(List.length t.parts):Int))/\(szT B<=n/\allT ao B=true/\List.length e.values+(4096:Nat)*szT B<=(100000000:Nat))/\if(!decide (C.2.err=A))=true then F else if decide (C.1.kind=(4:Int))=true then F else if(!decide (C.1.kind=(6:Int)))=true then G else if decide (ct C.1.names t.name A<A)=true then G else(A<=ct C.1.names t.name A/\ct C.1.names t.name A<(↑(List.length C.1.parts):Int))/\D/\List.getD C.1.parts (Int.toNat (ct C.1.names t.name A)) (dfl (Ty.st SN.shape))=E.1/\A=E.2.err/\A=E.2.pos/\D:=by
 conv=>zeta
 have p0:=tW (dfl (.st .term)) hz hf hp;refine⟨by omega,⟨p0.1,p0.2.1,by have:=p0.2.2;rw[show Int.toNat 0=0 from rfl];omega⟩,?_⟩;rw[show t.parts.getD (Int.toNat 0) (dfl (.st .term))=t.parts.getD 0 aS from rfl];unfold iJ;have hn:=@Gt n (t.parts.getD 0 aS) e;revert hn;generalize ag n (t.parts.getD 0 aS) e=r;intro hn;dsimp only;by_cases h1:r.2.err=0
 ·by_cases h4:r.1.kind=4
  ·simp[h1,h4]
  ·by_cases h6:r.1.kind=6
   ·rcases wq t.name (dfl (.st .shape)) (hn h1)with⟨g1,g2⟩|⟨g1,g2,g3⟩
    ·have g1':ct r.1.names t.name 0<0:=by omega
     simp[h1,h6,g1',g2]
    ·have g1':¬ct r.1.names t.name 0<0:=by omega
     simp[h1,h6,g1',g3,g1,g2,cQ]
   ·simp[h1,h4,h6]
 ·simp[h1]
theorem He(t:Trm)(e:Envt)(ht:Wf (.st .term) t)(he:Wf (.st .env) e)(hs:t.shapes.length<=1000000) :
  let A:=(0:Int);let B:=t.shapes=t.shapes;let C:=(↑(List.length t.shapes):Int);let D:=t=t/\e=e/\A=A/\A=A/\True;let E:=dfl (Ty.st SN.shape);let F:=ar e.types t.pos t.shapes;(∃(x:Nat×List Shape),let G:=List.drop x.1 t.shapes;let H:=ar e.types t.pos G;(x.1<=List.length t.shapes/\List.length x.2=x.1/\(H.2.err=A->ar e.types t.pos t.shapes=(x.2++H.1,cQ))/\(¬H.2.err=A->ar e.types t.pos t.shapes=ar e.types t.pos G))/\A=(↑x.1:Int)/\x.2=[]/\t=t/\e=e/\B/\C=C/\List.length x.2=(0:Nat)/\D)/\∀(x:Nat×List Shape),let G:=List.drop x.1 t.shapes;let H:=ar e.types t.pos G;let I:=(↑x.1:Int);let J:=aN (List.getD t.shapes (Int.toNat I) E) e.types;x.1<=List.length t.shapes/\List.length x.2=x.1/\(H.2.err=A->ar e.types t.pos t.shapes=(x.2++H.1,cQ))/\(¬H.2.err=A->ar e.types t.pos t.shapes=ar e.types t.pos G)->if decide (I<C)=true then(A<=I/\I<C)/\if(!decide (J.2=A))=true then True/\F.1=[]/\J.2=F.2.err/\t.pos=F.2.pos/\List.length F.1=(0:Nat)/\True else(List.length x.2=List.length x.2/\(List.length x.2+List.length [J.1])*(88:Nat)<=(140737488355328:Nat))/\inR IntKind.i64 (I+(1:Int))/\∃(y:Nat×List Shape),let K:=List.drop y.1 t.shapes;let L:=ar e.types t.pos K;(y.1<=List.length t.shapes/\List.length y.2=y.1/\(L.2.err=A->ar e.types t.pos t.shapes=(y.2++L.1,cQ))/\(¬L.2.err=A->ar e.types t.pos t.shapes=ar e.types t.pos K))/\List.length t.shapes-y.1<List.length t.shapes-x.1/\I+(1:Int)=(↑y.1:Int)/\x.2++[J.1]=y.2/\t=t/\e=e/\B/\C=C/\List.length (x.2++[J.1])=List.length y.2/\D else True/\x.2=F.1/\A=F.2.err/\A=F.2.pos/\List.length x.2=List.length F.1/\True:=by
 conv=>zeta
 simp only[Oi,Pw,OV,OK];refine⟨⟨(0,[]),⟨Of _,rfl,fun h=>wv h,fun _=>rfl⟩,rfl,rfl,rfl⟩,?_⟩;rintro⟨k,q⟩ ⟨h1,h2,h3,h4⟩;dsimp only at h1 h2 h3 h4⊢;apply aa<;>intro h
 ·replace h:=Xo h;have hk:k<t.shapes.length:=by omega
  rw[an t.shapes k (dfl (.st .shape)) hk,fX]at h3 h4;refine⟨by omega,aa (fun c=>?_) (fun c=>?_)⟩
  ·have c:¬(aN (t.shapes.getD k (dfl (.st .shape))) e.types).2=0:=by simpa using c
   rw[O0 c]at h4;rw[h4 c];exact⟨rfl,rfl,rfl,rfl⟩
  ·have c:(aN (t.shapes.getD k (dfl (.st .shape))) e.types).2=0:=by simpa using c
   rw[O3 c]at h3 h4;refine⟨by simp only[O8,ON];omega,aA hk (by omega),(k+1,q++[_]),⟨by omega,by simp[h2],fun g=>?_,fun g=>?_⟩,by dsimp only;omega,by dsimp only;omega,rfl,rfl⟩
   ·dsimp only at g;rw[O3 g]at h3;rw[h3 rfl];simp
   ·dsimp only at g;rw[O0 g]at h4;rw[h4 g,<-Dh g]
 ·replace h:¬((k:Int)<(t.shapes.length:Int)):=fun e=>h (Xd e);have e:k=t.shapes.length:=by omega
  subst e;rw[Ol]at h3;rw[h3 rfl];simp[ar,cQ]
theorem K7(n:Nat)(t:Trm)(e:Envt)(ht:Wf (.st .term) t)(he:Wf (.st .env) e)(hp:0<t.parts.length)(hz:szT t<=n+1)(hf:allT ao t=true)(hv:e.values.length+4096 *szT t<=100000000) :
  let A:=(0:Int);let B:=(↑(List.length t.parts):Int);let C:=dfl (Ty.st SN.term);let D:=List.getD t.parts (Int.toNat A) C;let E:=(4096:Nat);let F:=(100000000:Nat);let G:=ag n D e;let H:=True;let I:=ag n;let J:=fW I t e;let K:=G.1=J.1;let L:=(4:Int);let M:=(ag n (List.getD t.parts (0:Nat) aS) e);let N:=M.1.kind=L;let O:=(!decide (N)&&(!decide (M.1.kind=(8:Int))||!decide (List.length M.1.parts=List.length t.parts)));let P:=false=false;let Q:=decide (G.1.kind=L)=decide (G.1.kind=L);let R:=gD UInt8=gD UInt8;let S:=t=t/\e=e/\A=A/\R/\R/\A=A/\A=A/\G.1=G.1/\G.2.err=G.2.err/\G.2.pos=G.2.pos/\H;let T:=t=t/\e=e/\P/\Q/\S;let U:=(↑(List.length G.1.parts):Int);let V:=(1:Int);let W:=(1:Nat);let X:=ofK L;let Y:=List.drop W t.parts;let Z:=¬M.1.kind=L;let a:=Int.toNat V;let b:=List.take (Int.toNat B) t.parts;let c:=List.drop a b;let d:=(↑(List.length c):Int);let f:=P/\t=t/\e=e/\P/\Q/\List.drop a b=List.drop a b/\d=d/\S;let g:=dfl (Ty.st SN.shape);let h:=A=J.2.err/\A=J.2.pos/\H;(A<=A/\A<B)/\(szT D<=n/\allT ao D=true/\List.length e.values+E*szT D<=F)/\if(!decide (G.2.err=A))=true then H/\K/\G.2.err=J.2.err/\G.2.pos=J.2.pos/\H else(if(!decide (G.1.kind=L))=true then if(!decide (G.1.kind=(8:Int)))=true then true=O/\T else(!decide (U=B))=O/\T else false=O/\T)/\if O=true then H/\K/\(140:Int)=J.2.err/\t.pos=J.2.pos/\H else(A<=V/\V<=B/\B<=B)/\(∃(x:Nat),let i:=List.drop (x+W) t.parts;(x+W<=List.length t.parts/\(N->dm I e X Y=dm I e X i)/\(Z->fV I e Y M.1.parts=fV I e i (List.drop x M.1.parts)))/\A=(↑x:Int)/\f)/\∀(x:Nat),let i:=List.drop (x+W) t.parts;let j:=(↑x:Int);let k:=List.getD c (Int.toNat j) C;let l:=szT k<=n/\allT ao k=true/\List.length e.values+E*szT k<=F;let m:=aW I k (List.getD G.1.parts (Int.toNat j) g) e;let o:=inR IntKind.i64 (j+V)/\∃(y:Nat),let q:=List.drop (y+W) t.parts;(y+W<=List.length t.parts/\(N->dm I e X Y=dm I e X q)/\(Z->fV I e Y M.1.parts=fV I e q (List.drop y M.1.parts)))/\List.length t.parts-y<List.length t.parts-x/\j+V=(↑y:Int)/\f;let p:=aW I k X e;x+W<=List.length t.parts/\(N->dm I e X Y=dm I e X i)/\(Z->fV I e Y M.1.parts=fV I e i (List.drop x M.1.parts))->if decide (j<d)=true then(A<=j/\j<d)/\if(!decide (G.1.kind=L))=true then(A<=j/\j<U)/\l/\if(!decide (m.err=A))=true then H/\K/\m.err=J.2.err/\m.pos=J.2.pos/\H else o else l/\if(!decide (p.err=A))=true then H/\K/\p.err=J.2.err/\p.pos=J.2.pos/\H else o else if decide (G.1.kind=L)=true then H/\K/\h else inR IntKind.i64 (U-V)/\(A<=U-V/\U-V<U)/\H/\List.getD G.1.parts (Int.toNat (U-V)) g=J.1/\h:=by
 conv=>zeta
 have p0:=yf hz hf hv (dfl (.st .term)) hp (PD _ _);have ln:=ht.term_parts.len;have hds:List.drop (Int.toNat 1) (List.take t.parts.length t.parts)=t.parts.drop 1:=by rw[OY];rfl
 have hdg:∀k:Nat,(t.parts.drop 1).getD k (dfl (.st .term))=t.parts.getD (k+1) (dfl (.st .term)):=fun k=>by rw[O4,O4,P9,Nat.add_comm]
 rw[show t.parts.getD (Int.toNat 0) (dfl (.st .term))=t.parts.getD 0 aS from rfl];simp only[Oi,Pw,OV,OK];simp only[hds,hdg,Qe];have hC0:¬(ag n (t.parts.getD 0 aS) e).2.err=0->fW (ag n) t e=ag n (t.parts.getD 0 aS) e:=fun h=>by simp only[fW,O0 h]
 have hC4:(ag n (t.parts.getD 0 aS) e).2.err=0->(ag n (t.parts.getD 0 aS) e).1.kind=4->fW (ag n) t e=if(dm (ag n) e (ofK 4) (t.parts.drop 1)).err=0 then((ag n (t.parts.getD 0 aS) e).1,cQ)else((ag n (t.parts.getD 0 aS) e).1,dm (ag n) e (ofK 4) (t.parts.drop 1)):=fun h k=>by simp only[fW,O3 h,O3 k]
 have hC8:(ag n (t.parts.getD 0 aS) e).2.err=0->¬(ag n (t.parts.getD 0 aS) e).1.kind=4->(ag n (t.parts.getD 0 aS) e).1.kind=8/\(ag n (t.parts.getD 0 aS) e).1.parts.length=t.parts.length->fW (ag n) t e=if(fV (ag n) e (t.parts.drop 1) (ag n (t.parts.getD 0 aS) e).1.parts).err=0 then((ag n (t.parts.getD 0 aS) e).1.parts.getD ((ag n (t.parts.getD 0 aS) e).1.parts.length-1) aJ,cQ)else((ag n (t.parts.getD 0 aS) e).1,fV (ag n) e (t.parts.drop 1) (ag n (t.parts.getD 0 aS) e).1.parts):=fun h k g=>by simp only[fW,O3 h,O0 k,O3 g]
 have hC9:(ag n (t.parts.getD 0 aS) e).2.err=0->¬(ag n (t.parts.getD 0 aS) e).1.kind=4->¬((ag n (t.parts.getD 0 aS) e).1.kind=8/\(ag n (t.parts.getD 0 aS) e).1.parts.length=t.parts.length)->fW (ag n) t e=((ag n (t.parts.getD 0 aS) e).1,⟨140,t.pos⟩):=fun h k g=>by simp only[fW,O3 h,O0 k,O0 g]
 revert hC0 hC4 hC8 hC9;generalize fW (ag n) t e=R;generalize ag n (t.parts.getD 0 aS) e=r;intro hC0 hC4 hC8 hC9;have dn:decide ((r.1.parts.length:Int)=(t.parts.length:Int))=decide (r.1.parts.length=t.parts.length):=Pg.2 (by omega);refine⟨by omega,p0,aa (fun h=>?_) (fun h=>?_)⟩
 ·rw[hC0 (by simpa using h)];exact⟨rfl,rfl,rfl⟩
 have h:r.2.err=0:=by simpa using h
 rw[dn];refine⟨?_,aa (fun g=>?_) (fun g=>?_)⟩
 ·cases decide (r.1.kind=4)<;>cases decide (r.1.kind=8)<;>cases decide (r.1.parts.length=t.parts.length)<;>rfl
 ·have g':¬r.1.kind=4/\¬(r.1.kind=8/\r.1.parts.length=t.parts.length):=by simp only[NZ,OS,Oa,OF]at g;exact⟨g.1,fun q=>g.2.elim (fun x=>x q.1) (fun x=>x q.2)⟩
  rw[hC9 h g'.1 g'.2];exact⟨rfl,rfl,rfl⟩
 have g':¬r.1.kind=4->r.1.kind=8/\r.1.parts.length=t.parts.length:=fun q=>by simp only[NZ,OS,Oa,OF]at g;exact⟨PK fun x=>g ⟨q,.inl x⟩,PK fun x=>g ⟨q,.inr x⟩⟩
 refine⟨by omega,⟨0,⟨by omega,fun _=>rfl,fun _=>by rw[Pe]⟩,rfl⟩,?_⟩;rintro k ⟨h1,h2,h3⟩;apply aa<;>intro c
 ·have c:=Xo c;have hk:k+1<t.parts.length:=by omega
  have ob:=yf hz hf hv (dfl (.st .term)) hk (PD _ _);rw[an t.parts (k+1) (dfl (.st .term)) hk]at h2 h3;refine⟨by omega,aa (fun k4=>?_) (fun k4=>?_)⟩
  ·have k4:¬r.1.kind=4:=by simpa using k4
   have k8:=g' k4;have h3:=h3 k4;rw[an r.1.parts k (dfl (.st .shape)) (by omega)]at h3;simp only[fV]at h3;refine⟨by omega,ob,aa (fun f=>?_) (fun f=>?_)⟩
   ·have f:¬(aW (ag n) (t.parts.getD (k+1) (dfl (.st .term))) (r.1.parts.getD k (dfl (.st .shape))) e).err=0:=by simpa using f
    rw[O0 f]at h3;rw[hC8 h k4 k8,h3,O0 f];exact⟨rfl,rfl,rfl⟩
   ·have f:(aW (ag n) (t.parts.getD (k+1) (dfl (.st .term))) (r.1.parts.getD k (dfl (.st .shape))) e).err=0:=by simpa using f
    rw[O3 f]at h3;exact⟨aA (by omega) ln,k+1,⟨by omega,fun q=>absurd q k4,fun _=>h3⟩,by omega,by omega⟩
  ·have k4:r.1.kind=4:=by simpa using k4
   have h2:=h2 k4;simp only[dm]at h2;refine⟨ob,aa (fun f=>?_) (fun f=>?_)⟩
   ·have f:¬(aW (ag n) (t.parts.getD (k+1) (dfl (.st .term))) (ofK 4) e).err=0:=by simpa using f
    rw[O0 f]at h2;rw[hC4 h k4,h2,O0 f];exact⟨rfl,rfl,rfl⟩
   ·have f:(aW (ag n) (t.parts.getD (k+1) (dfl (.st .term))) (ofK 4) e).err=0:=by simpa using f
    rw[O3 f]at h2;exact⟨aA (by omega) ln,k+1,⟨by omega,fun _=>h2,fun q=>absurd k4 q⟩,by omega,by omega⟩
 ·have c:¬((k:Int)<((t.parts.length-1:Nat):Int)):=fun q=>c (Xd q);have hk:k+1=t.parts.length:=by omega
  rw[hk,Ol]at h2 h3;apply aa<;>intro k4
  ·have k4:r.1.kind=4:=Xo k4;rw[hC4 h k4,h2 k4];exact⟨rfl,rfl,rfl⟩
  ·have k4:¬r.1.kind=4:=fun q=>k4 (Xd q);have k8:=g' k4;have h3:=h3 k4;simp only[fV]at h3;have ei:((r.1.parts.length:Int)-1).toNat=r.1.parts.length-1:=by omega
   rw[hC8 h k4 k8,h3,ei];exact⟨aU (by omega) (by omega),by omega,rfl,rfl,rfl⟩
theorem M4(n:Nat)(t:Trm)(e:Envt)(ht:Wf (.st .term) t)(he:Wf (.st .env) e)(hp:0<t.parts.length)(hz:szT t<=n+1)(hf:allT ao t=true)(hv:e.values.length+4096 *szT t<=100000000) :
  let A:=(↑(List.length e.own):Int);let B:=(1:Int);let C:=(0:Int);let D:=gD UInt8=gD UInt8;let E:=True;let F:=t=t/\e=e/\C=C/\D/\D/\C=C/\C=C/\E;let G:=dfl (Ty.st SN.bind);let H:=ag n;let I:=nP H t e;let J:=(110:Int)=I.2.err/\t.pos=I.2.pos/\E;let K:=(C<=C/\C<(↑(List.length t.parts):Int));let L:=List.getD t.parts (Int.toNat C) (dfl (Ty.st SN.term));let M:=(szT L<=n/\allT ao L=true/\List.length e.values+(4096:Nat)*szT L<=(100000000:Nat));let N:=(aW H L {kind:=(10:Int),pkg:=e.self,name:=t.name,names:=[],parts:=[]:Shape} e);let O:=N.err=I.2.err/\N.pos=I.2.pos/\E;let P:=(10:Int)=I.1.kind;let Q:=e.self=I.1.pkg;let R:=t.name=I.1.name;let S:=I.1.names=[];let T:=I.1.parts=[];inR IntKind.i64 (A-B)/\(∃(x:Nat×Option Shape),let U:=Option.elim x.2 aJ bO;(x.1<=List.length e.own/\(x.2=none->dL e.own t.name=dL (List.take x.1 e.own) t.name)/\∀(s:Shape),x.2=some s->dL e.own t.name=some s)/\A-B=(↑x.1:Int)-B/\false=Option.isSome x.2/\t=t/\e=e/\C=U.kind/\[]=U.pkg/\[]=U.name/\U.names=[]/\U.parts=[]/\F)/\∀(x:Nat×Option Shape),let U:=(↑x.1:Int);let V:=C<=U-B/\U-B<A;let W:=List.getD e.own (Int.toNat (U-B)) G;let X:=inR IntKind.i64 (U-B-B);let Y:=Option.elim x.2 aJ bO=I.1;let Z:=aW H L (Option.elim x.2 aJ bO) e;let a:=if(!Option.isSome x.2)=true then E/\Y/\J else if decide (t.kind=(17:Int))=true then K/\M/\E/\Y/\O else K/\M/\E/\P/\Q/\R/\S/\T/\Z.err=I.2.err/\Z.pos=I.2.pos/\E;(x.1<=List.length e.own/\(x.2=none->dL e.own t.name=dL (List.take x.1 e.own) t.name)/\∀(s:Shape),x.2=some s->dL e.own t.name=some s)->if decide (C<=U-B)=true then if(!Option.isSome x.2)=true then V/\if decide (W.name=t.name)=true then V/\X/\∃(y:Nat×Option Shape),(y.1<=List.length e.own/\(y.2=none->dL e.own t.name=dL (List.take y.1 e.own) t.name)/\∀(s:Shape),y.2=some s->dL e.own t.name=some s)/\y.1<x.1/\U-B-B=(↑y.1:Int)-B/\true=Option.isSome y.2/\t=t/\e=e/\bO W.shape=Option.elim y.2 aJ bO/\F else X/\∃(y:Nat×Option Shape),(y.1<=List.length e.own/\(y.2=none->dL e.own t.name=dL (List.take y.1 e.own) t.name)/\∀(s:Shape),y.2=some s->dL e.own t.name=some s)/\y.1<x.1/\U-B-B=(↑y.1:Int)-B/\Option.isSome x.2=Option.isSome y.2/\t=t/\e=e/\Option.elim x.2 aJ bO=Option.elim y.2 aJ bO/\F else a else a:=by
 conv=>zeta
 have ln:e.own.length<=9223372036854775807:=he.env_own.len;have p0:=tW (dfl (.st .term)) hz hf hp;have q0:e.values.length+4096 *szT (t.parts.getD (Int.toNat 0) (dfl (.st .term)))<=100000000:=by rw[show Int.toNat 0=0 from rfl];have:=p0.2.2;omega
 simp only[Pw,OV,OK];refine⟨aU (by omega) (by omega),⟨(e.own.length,none),⟨Od _,fun _=>by rw[OY],fun s h=>nomatch h⟩,rfl,rfl,rfl,rfl,rfl,rfl,rfl⟩,?_⟩;rintro⟨x,o⟩ ⟨h1,h2,h3⟩;dsimp only at h1 h2 h3⊢;refine aa (fun h=>aa (fun ho=>?_) (fun ho=>?_)) (fun h=>?_)
 ·have h:=Xo h;obtain rfl:o=none:=by cases o with|none=>rfl|some s=>exact absurd ho P5
  obtain⟨k,rfl⟩:∃k,x=k+1:=⟨x-1,by omega⟩;have e1:(((k+1:Nat):Int)-1)=(k:Int):=by omega
  have h2:=h2 rfl;rw[Di e.own t.name (dfl (.st .bind)) (by omega)]at h2;simp only[e1,Oi];refine⟨by omega,aa (fun c=>?_) (fun c=>?_)⟩
  ·rw[O3 (Xo c)]at h2;exact⟨by omega,aU (by omega) (by omega),(k,some (e.own.getD k (dfl (.st .bind))).shape),⟨by dsimp only;omega,fun g=>(by cases g),fun s g=>(by cases g;exact h2)⟩,by dsimp only;omega,rfl,rfl,rfl⟩
  ·rw[O0 (fun g=>c (Xd g))]at h2;exact⟨aU (by omega) (by omega),(k,none),⟨by dsimp only;omega,fun _=>h2,fun s g=>(by cases g)⟩,by dsimp only;omega,rfl,rfl,rfl⟩
 ·have ho:o=dL e.own t.name:=by
   cases o with|none=>exact absurd rfl ho|some s=>exact(h3 s rfl).symm
  cases o with
  |none=>rw[mH ho.symm];exact aa (fun _=>⟨rfl,rfl,rfl⟩) (fun c=>absurd rfl c)
  |some s=>
   rw[mI ho.symm];refine aa (fun c=>absurd c P5) (fun _=>aa (fun c=>?_) (fun c=>?_))
   ·rw[O3 (Xo c)];exact⟨by omega,⟨p0.1,p0.2.1,q0⟩,rfl,rfl,rfl⟩
   ·rw[O0 (fun g=>c (Xd g))];exact⟨by omega,⟨p0.1,p0.2.1,q0⟩,rfl,rfl,rfl,rfl,rfl,rfl,rfl⟩
 ·have h:¬(0:Int)<=(x:Int)-1:=fun g=>h (Xd g);obtain rfl:x=0:=by omega
  have ho:o=dL e.own t.name:=by
   cases o with|none=>exact(h2 rfl).symm|some s=>exact(h3 s rfl).symm
  cases o with
  |none=>rw[mH ho.symm];exact aa (fun _=>⟨rfl,rfl,rfl⟩) (fun c=>absurd rfl c)
  |some s=>
   rw[mI ho.symm];refine aa (fun c=>absurd c P5) (fun _=>aa (fun c=>?_) (fun c=>?_))
   ·rw[O3 (Xo c)];exact⟨by omega,⟨p0.1,p0.2.1,q0⟩,rfl,rfl,rfl⟩
   ·rw[O0 (fun g=>c (Xd g))];exact⟨by omega,⟨p0.1,p0.2.1,q0⟩,rfl,rfl,rfl,rfl,rfl,rfl,rfl⟩
theorem Hf(n:Nat)(t:Trm)(e:Envt)(ht:Wf (.st .term) t)(he:Wf (.st .env) e)(hk:t.kind=6∨t.kind=11∨t.kind=12∨t.kind=13∨t.kind=15)(hz:szT t<=n+1)(hf:allT ao t=true)(hv:e.values.length+4096 *szT t<=100000000) :
  let A:=ar e.types t.pos t.shapes;let B:=(0:Int);let C:=True;let D:=ag n;let E:=cO D t e;let F:=[]=E.1.pkg;let G:=[]=E.1.name;let H:=E.1.names=[];let I:=(↑(List.length A.1):Int);let J:=(1:Int);let K:=gU t.names A.1;let L:=t=t;let M:=e=e;let N:=A.1=A.1;let O:=false=false;let P:=I-J=I-J;let Q:=t.kind=t.kind;let R:=true=true;let S:=t.names=t.names;let T:=(↑(List.length t.names):Int);let U:=B=B;let V:=gD UInt8=gD UInt8;let W:=List.length A.1=List.length A.1;let X:=U/\V/\V/\U/\U/\W/\A.2.err=A.2.err/\A.2.pos=A.2.pos/\C;let Y:=(1000000000:Nat);let Z:=dfl Ty.str;let a:=dfl (Ty.st SN.shape);let b:=(↑(List.length t.parts):Int);let c:=B<=B/\B<b;let d:=Int.toNat B;let f:=dfl (Ty.st SN.term);let g:=List.getD t.parts d f;let h:=allT ao g=true;let i:=(4096:Nat);let j:=(100000000:Nat);let k:=(List.getD A.1 (0:Nat) aJ);let l:=L/\M/\N/\O/\P/\Q/\O/\R/\t.parts=t.parts/\b=b/\L/\M/\X;let m:=B<=B/\B<I;let o:=List.getD A.1 d a;let p:=List.getD A.1 d a=E.1;let q:=szT g<=n/\h/\List.length e.values+i*szT g<=j;let r:=aW D g o e;let s:=(2:Int);let u:=aW D g (ofK s) e;let v:=Int.toNat J;let w:=List.getD t.parts v f;let z:=aW D w o e;let A0:=List.getD t.parts (Int.toNat s) f;let A1:=aW D A0 o e;let A2:=Int.toNat (I-J);let A3:=(aW D g {kind:=(7:Int),pkg:=[],name:=[],names:=t.names,parts:=List.drop d (List.take A2 A.1):Shape} e);let A4:=B<=I-J/\I-J<I;let A5:=List.getD A.1 A2 a=E.1;let A6:=(1:Nat);let A7:=List.getD A.1 (List.length A.1-A6) aJ;let A8:=List.drop A6 t.parts;let A9:=List.take (Int.toNat b) t.parts;let B0:=List.drop v A9=List.drop v A9;let B1:=List.drop v A9;let B2:=(↑(List.length B1):Int);let B3:=L/\M/\U/\V/\V/\U/\U/\W/\A3.err=A3.err/\A3.pos=A3.pos/\C;let B4:=List.getD A.1 A2 a;List.length t.shapes<=(1000000:Nat)/\if(!decide (A.2.err=B))=true then C/\B=E.1.kind/\F/\G/\H/\E.1.parts=[]/\A.2.err=E.2.err/\A.2.pos=E.2.pos/\C else inR IntKind.i64 (I-J)/\if decide (t.kind=(6:Int))=true then(∃(x:Nat×Envt),(x.1<=List.length t.names/\List.length x.2.values=List.length e.values+x.1/\cb x.2 (gU (List.drop x.1 t.names) (List.drop x.1 A.1))=cb e K)/\B=(↑x.1:Int)/\L/\M/\N/\O/\P/\Q/\R/\S/\T=T/\e=x.2/\L/\X)/\∀(x:Nat×Envt),let B5:=(↑x.1:Int);let B6:=List.getD A.1 (Int.toNat B5) a;let B7:=[{pkg:=[],name:=List.getD t.names (Int.toNat B5) Z,shape:=AL.Shape.mk (B6.kind) (B6.pkg) (B6.name) (B6.names) (B6.parts):Bndg}];let B8:=ag n g x.2;x.1<=List.length t.names/\List.length x.2.values=List.length e.values+x.1/\cb x.2 (gU (List.drop x.1 t.names) (List.drop x.1 A.1))=cb e K->if decide (B5<T)=true then(B<=B5/\B5<T)/\(B<=B5/\B5<I)/\(List.length x.2.values<=Y/\List.length B7<=(1000:Nat))/\inR IntKind.i64 (B5+J)/\∃(y:Nat×Envt),(y.1<=List.length t.names/\List.length y.2.values=List.length e.values+y.1/\cb y.2 (gU (List.drop y.1 t.names) (List.drop y.1 A.1))=cb e K)/\List.length t.names-y.1<List.length t.names-x.1/\B5+J=(↑y.1:Int)/\L/\M/\N/\O/\P/\Q/\R/\S/\T=T/\cb x.2 B7=y.2/\L/\X else c/\(szT g<=n/\h/\List.length x.2.values+i*szT g<=j)/\(W/\(List.length A.1+List.length [B8.1])*(88:Nat)<=(140737488355328:Nat))/\C/\(8:Int)=E.1.kind/\F/\G/\H/\A.1++[B8.1]=E.1.parts/\B8.2.err=E.2.err/\B8.2.pos=E.2.pos/\C else if decide (t.kind=(11:Int))=true then(∃(x:Nat),(x<=List.length t.parts/\dm D e k (List.drop x t.parts)=dm D e k t.parts)/\B=(↑x:Int)/\l)/\∀(x:Nat),let B5:=(↑x:Int);let B6:=List.getD t.parts (Int.toNat B5) f;let B7:=aW D B6 o e;x<=List.length t.parts/\dm D e k (List.drop x t.parts)=dm D e k t.parts->if decide (B5<b)=true then(B<=B5/\B5<b)/\m/\(szT B6<=n/\allT ao B6=true/\List.length e.values+i*szT B6<=j)/\if(!decide (B7.err=B))=true then m/\C/\p/\B7.err=E.2.err/\B7.pos=E.2.pos/\C else inR IntKind.i64 (B5+J)/\∃(y:Nat),(y<=List.length t.parts/\dm D e k (List.drop y t.parts)=dm D e k t.parts)/\List.length t.parts-y<List.length t.parts-x/\B5+J=(↑y:Int)/\l else C/\(5:Int)=E.1.kind/\F/\G/\H/\A.1=E.1.parts/\B=E.2.err/\B=E.2.pos/\C else if decide (t.kind=(15:Int))=true then m/\c/\m/\q/\C/\p/\r.err=E.2.err/\r.pos=E.2.pos/\C else if decide (t.kind=(12:Int))=true then c/\q/\if(!decide (u.err=B))=true then m/\C/\p/\u.err=E.2.err/\u.pos=E.2.pos/\C else(B<=J/\J<b)/\m/\(szT w<=n/\allT ao w=true/\List.length e.values+i*szT w<=j)/\if(!decide (z.err=B))=true then m/\C/\p/\z.err=E.2.err/\z.pos=E.2.pos/\C else m/\(B<=s/\s<b)/\m/\(szT A0<=n/\allT ao A0=true/\List.length e.values+i*szT A0<=j)/\C/\p/\A1.err=E.2.err/\A1.pos=E.2.pos/\C else c/\(B<=B/\B<=I-J/\I-J<=I)/\q/\if(!decide (A3.err=B))=true then A4/\C/\A5/\A3.err=E.2.err/\A3.pos=E.2.pos/\C else(B<=J/\J<=b/\b<=b)/\(∃(x:Nat×Flt),(x.1+A6<=List.length t.parts/\x.2.err=B/\x.2.pos=B/\gz D e A7 (List.drop (x.1+A6) t.parts) (List.drop x.1 t.vars) (List.drop x.1 A.1)=gz D e A7 A8 t.vars A.1)/\B=(↑x.1:Int)/\L/\M/\N/\O/\P/\Q/\O/\O/\O/\O/\O/\B0/\B2=B2/\A.2.err=x.2.err/\A.2.pos=x.2.pos/\B3)/\∀(x:Nat×Flt),let B5:=(↑x.1:Int);let B6:=Int.toNat B5;let B7:=List.getD A.1 B6 a;let B8:=[{pkg:=[],name:=List.getD t.vars B6 Z,shape:=AL.Shape.mk (B7.kind) (B7.pkg) (B7.name) (B7.names) (B7.parts):Bndg}];let B9:=List.getD B1 B6 f;let C0:=aW D B9 B4 (cb e B8);x.1+A6<=List.length t.parts/\x.2.err=B/\x.2.pos=B/\gz D e A7 (List.drop (x.1+A6) t.parts) (List.drop x.1 t.vars) (List.drop x.1 A.1)=gz D e A7 A8 t.vars A.1->if decide (B5<B2)=true then(B<=B5/\B5<B2)/\A4/\(B<=B5/\B5<(↑(List.length t.vars):Int))/\(B<=B5/\B5<I)/\(List.length e.values<=Y/\List.length B8<=(1000:Nat))/\(szT B9<=n/\allT ao B9=true/\List.length (e.values++B8)+i*szT B9<=j)/\if(!decide (C0.err=B))=true then A4/\C/\A5/\C0.err=E.2.err/\C0.pos=E.2.pos/\C else inR IntKind.i64 (B5+J)/\∃(y:Nat×Flt),(y.1+A6<=List.length t.parts/\y.2.err=B/\y.2.pos=B/\gz D e A7 (List.drop (y.1+A6) t.parts) (List.drop y.1 t.vars) (List.drop y.1 A.1)=gz D e A7 A8 t.vars A.1)/\List.length t.parts-y.1<List.length t.parts-x.1/\B5+J=(↑y.1:Int)/\L/\M/\N/\O/\P/\Q/\O/\O/\O/\O/\O/\B0/\B2=B2/\C0.err=y.2.err/\C0.pos=y.2.pos/\B3 else A4/\C/\
  A5/\x.2.err=E.2.err/\x.2.pos=E.2.pos/\C:=by
 conv=>zeta
 have rm:=F6 hf;have ln:=ht.term_parts.len;have ps:=Ao t;have hds:List.drop (Int.toNat 1) (List.take t.parts.length t.parts)=t.parts.drop 1:=by rw[OY];rfl
 have hdg:∀k:Nat,(t.parts.drop 1).getD k (dfl (.st .term))=t.parts.getD (k+1) (dfl (.st .term)):=fun k=>by rw[O4,O4,P9,Nat.add_comm]
 have e0:Int.toNat 0=0:=rfl;have e1:Int.toNat 1=1:=rfl;have e2:Int.toNat 2=2:=rfl;have et:∀s:Shape,AL.Shape.mk s.kind s.pkg s.name s.names s.parts=s:=fun s=>by cases s;rfl
 simp only[hds,et,Oi,Pw,OV,OK];simp only[hdg,e0,e1,e2,Qe,Pe]
 have hsh:t.shapes.length<=1000000:=by
  rcases hk with k|k|k|k|k
  ·have:=rm.k6 k;omega
  ·have:=rm.k11 k;omega
  ·have:=rm.k12 k;omega
  ·have:=rm.k13 k;omega
  ·have:=rm.k15 k;omega
 have hl:=@tY e.types t.pos t.shapes;have hok:=@wv e.types t.pos t.shapes;have hA0:¬(ar e.types t.pos t.shapes).2.err=0->cO (ag n) t e=(aJ,(ar e.types t.pos t.shapes).2):=fun h=>by simp only[cO,O0 h]
 have hA6:(ar e.types t.pos t.shapes).2.err=0->t.kind=6->cO (ag n) t e=(⟨8,[],[],[],(ar e.types t.pos t.shapes).1++[(ag n (t.parts.getD 0 aS) (cb e (gU t.names (ar e.types t.pos t.shapes).1))).1]⟩,(ag n (t.parts.getD 0 aS) (cb e (gU t.names (ar e.types t.pos t.shapes).1))).2):=fun h k=>by simp only[cO,O3 h,O3 k]
 have hA11:(ar e.types t.pos t.shapes).2.err=0->t.kind=11->cO (ag n) t e=if(dm (ag n) e ((ar e.types t.pos t.shapes).1.getD 0 aJ) t.parts).err=0 then(⟨5,[],[],[],(ar e.types t.pos t.shapes).1⟩,cQ)else((ar e.types t.pos t.shapes).1.getD 0 aJ,dm (ag n) e ((ar e.types t.pos t.shapes).1.getD 0 aJ) t.parts):=fun h k=>by simp only[cO,O3 h,O0 (show ¬t.kind=6 by omega),O3 k]
 have hA15:(ar e.types t.pos t.shapes).2.err=0->t.kind=15->cO (ag n) t e=((ar e.types t.pos t.shapes).1.getD 0 aJ,aW (ag n) (t.parts.getD 0 aS) ((ar e.types t.pos t.shapes).1.getD 0 aJ) e):=fun h k=>by simp only[cO,O3 h,O0 (show ¬t.kind=6 by omega),O0 (show ¬t.kind=11 by omega),O3 k]
 have hA12:(ar e.types t.pos t.shapes).2.err=0->t.kind=12->cO (ag n) t e=((ar e.types t.pos t.shapes).1.getD 0 aJ,if(aW (ag n) (t.parts.getD 0 aS) (ofK 2) e).err=0 then(if(aW (ag n) (t.parts.getD 1 aS) ((ar e.types t.pos t.shapes).1.getD 0 aJ) e).err=0 then aW (ag n) (t.parts.getD 2 aS) ((ar e.types t.pos t.shapes).1.getD 0 aJ) e else aW (ag n) (t.parts.getD 1 aS) ((ar e.types t.pos t.shapes).1.getD 0 aJ) e)else aW (ag n) (t.parts.getD 0 aS) (ofK 2) e):=fun h k=>by simp only[cO,O3 h,O0 (show ¬t.kind=6 by omega),O0 (show ¬t.kind=11 by omega),O0 (show ¬t.kind=15 by omega),O3 k]
 have hA13:(ar e.types t.pos t.shapes).2.err=0->t.kind=13->cO (ag n) t e=((ar e.types t.pos t.shapes).1.getD ((ar e.types t.pos t.shapes).1.length-1) aJ,if(aW (ag n) (t.parts.getD 0 aS) ⟨7,[],[],t.names,(ar e.types t.pos t.shapes).1.take ((ar e.types t.pos t.shapes).1.length-1)⟩ e).err=0 then gz (ag n) e ((ar e.types t.pos t.shapes).1.getD ((ar e.types t.pos t.shapes).1.length-1) aJ) (t.parts.drop 1) t.vars (ar e.types t.pos t.shapes).1 else aW (ag n) (t.parts.getD 0 aS) ⟨7,[],[],t.names,(ar e.types t.pos t.shapes).1.take ((ar e.types t.pos t.shapes).1.length-1)⟩ e):=fun h k=>by simp only[cO,O3 h,O0 (show ¬t.kind=6 by omega),O0 (show ¬t.kind=11 by omega),O0 (show ¬t.kind=15 by omega),O0 (show ¬t.kind=12 by omega)]
 revert hl hok hA0 hA6 hA11 hA15 hA12 hA13;generalize cO (ag n) t e=R;generalize ar e.types t.pos t.shapes=L;intro hl hok hA0 hA6 hA11 hA15 hA12 hA13;refine⟨hsh,aa (fun h=>?_) (fun h=>?_)⟩
 ·rw[hA0 (ndF h)];exact⟨rfl,rfl,rfl,rfl,rfl,rfl,rfl⟩
 have h:L.2.err=0:=ndT h;have hl:=hl h;have hok:L.2=cQ:=by rw[hok h]
 have nx:∀{j w:Nat},j<t.parts.length->w<=e.values.length+4096->szT (t.parts.getD j (dfl (.st .term)))<=n/\allT ao (t.parts.getD j (dfl (.st .term)))=true/\w+4096 *szT (t.parts.getD j (dfl (.st .term)))<=100000000:=fun hj hw=>yf hz hf hv _ hj hw;refine⟨aU (by omega) (by omega),aa (fun k=>?_) (fun k6=>?_)⟩
 ·have k:=Xo k;obtain⟨n1,n2,n3⟩:=rm.k6 k;refine⟨⟨(0,e),⟨Of _,rfl,by rw[Pe,Pe]⟩,rfl,rfl⟩,?_⟩;rintro⟨j,f⟩ ⟨h1,h2,h3⟩;dsimp only at h1 h2 h3⊢;apply aa<;>intro c
  ·have c:=Xo c;have hj:j<t.names.length:=by omega
   rw[an t.names j (dfl .str) hj,an L.1 j (dfl (.st .shape)) (by omega)]at h3;simp only[gU]at h3;refine⟨by omega,by omega,⟨by omega,by simp⟩,aU (by omega) (by omega),(j+1,_),⟨by dsimp only;omega,?_,?_⟩,by dsimp only;omega,by dsimp only;omega,rfl⟩
   ·dsimp only;rw[Oj,h2];simp only[O8,ON];omega
   ·show cb (cb f [fU (t.names.getD j (dfl .str)) (L.1.getD j (dfl (.st .shape)))]) _=_;rw[Am];exact h3
  ·have c:¬((j:Int)<(t.names.length:Int)):=fun q=>c (Xd q);have hj:j=t.names.length:=by omega
   have hf':f=cb e (gU t.names L.1):=by rw[hj,Ol]at h3;simp only[gU]at h3;rw[Gu]at h3;exact h3
   have ob:=nx (j:=0) (w:=f.values.length) (by omega) (by omega);rw[hA6 h k];refine⟨by omega,ob,?_,rfl,rfl,rfl,rfl,?_,?_,?_⟩
   ·simp only[O8,ON];omega
   ·rw[hf'];rfl
   ·rw[hf'];rfl
   ·rw[hf'];rfl
 have k6:¬t.kind=6:=fun q=>k6 (Xd q);refine aa (fun k=>?_) (fun k11=>?_)
 ·have k:=Xo k;have n1:=rm.k11 k;refine⟨⟨0,⟨Of _,by rw[Pe]⟩,rfl⟩,?_⟩;rintro j ⟨h1,h2⟩;apply aa<;>intro c
  ·have c:=Xo c;have hj:j<t.parts.length:=by omega
   rw[an t.parts j (dfl (.st .term)) hj]at h2;simp only[dm]at h2;refine⟨by omega,by omega,nx hj (PD _ _),aa (fun f=>?_) (fun f=>?_)⟩
   ·have f:¬(aW (ag n) (t.parts.getD j (dfl (.st .term))) (L.1.getD 0 aJ) e).err=0:=ndF f;rw[O0 f]at h2;rw[hA11 h k,<-h2,O0 f];exact⟨by omega,rfl,rfl,rfl⟩
   ·have f:(aW (ag n) (t.parts.getD j (dfl (.st .term))) (L.1.getD 0 aJ) e).err=0:=ndT f;rw[O3 f]at h2;exact⟨aA hj ln,j+1,⟨by omega,h2⟩,by omega,by omega⟩
  ·have c:¬((j:Int)<(t.parts.length:Int)):=fun q=>c (Xd q);have hj:j=t.parts.length:=by omega
   rw[hj,Ol]at h2;rw[hA11 h k,<-h2];exact⟨rfl,rfl,rfl,rfl,rfl,rfl,rfl⟩
 have k11:¬t.kind=11:=fun q=>k11 (Xd q);refine aa (fun k=>?_) (fun k15=>?_)
 ·have k:=Xo k;obtain⟨n1,n2⟩:=rm.k15 k;rw[hA15 h k];exact⟨by omega,by omega,by omega,nx (by omega) (PD _ _),rfl,rfl,rfl⟩
 have k15:¬t.kind=15:=fun q=>k15 (Xd q);refine aa (fun k=>?_) (fun k12=>?_)
 ·have k:=Xo k;obtain⟨n1,n2⟩:=rm.k12 k;rw[hA12 h k];refine⟨by omega,nx (by omega) (PD _ _),aa (fun f=>?_) (fun f=>?_)⟩
  ·rw[O0 (show ¬(aW (ag n) (t.parts.getD 0 aS) (ofK 2) e).err=0 from ndF f)];exact⟨by omega,rfl,rfl,rfl⟩
  rw[O3 (show(aW (ag n) (t.parts.getD 0 aS) (ofK 2) e).err=0 from ndT f)];refine⟨by omega,by omega,nx (by omega) (PD _ _),aa (fun f=>?_) (fun f=>?_)⟩
  ·rw[O0 (show ¬(aW (ag n) (t.parts.getD 1 aS) (L.1.getD 0 aJ) e).err=0 from ndF f)];exact⟨by omega,rfl,rfl,rfl⟩
  rw[O3 (show(aW (ag n) (t.parts.getD 1 aS) (L.1.getD 0 aJ) e).err=0 from ndT f)];exact⟨by omega,by omega,by omega,nx (by omega) (PD _ _),rfl,rfl,rfl⟩
 have k12:¬t.kind=12:=fun q=>k12 (Xd q);have k:t.kind=13:=by omega
 obtain⟨n1,n2,n3⟩:=rm.k13 k;have el:((L.1.length:Int)-1).toNat=L.1.length-1:=by omega
 rw[el,hA13 h k];refine⟨by omega,by omega,nx (by omega) (PD _ _),aa (fun f=>?_) (fun f=>?_)⟩
 ·rw[O0 (show ¬(aW (ag n) (t.parts.getD 0 aS) ⟨7,[],[],t.names,L.1.take (L.1.length-1)⟩ e).err=0 from ndF f)];exact⟨by omega,rfl,rfl,rfl⟩
 rw[O3 (show(aW (ag n) (t.parts.getD 0 aS) ⟨7,[],[],t.names,L.1.take (L.1.length-1)⟩ e).err=0 from ndT f)];refine⟨by omega,⟨(0,cQ),⟨by dsimp only;omega,rfl,rfl,by rw[Pe,Pe]⟩,rfl,by rw[hok],by rw[hok]⟩,?_⟩;rintro⟨j,f⟩ ⟨h1,h2,h3,h4⟩;dsimp only at h1 h2 h3 h4⊢;apply aa<;>intro c
 ·have c:=Xo c;have hj:j+1<t.parts.length:=by omega
  rw[an t.parts (j+1) (dfl (.st .term)) hj,an t.vars j (dfl .str) (by omega),an L.1 j (dfl (.st .shape)) (by omega)]at h4;simp only[gz]at h4;have ob:=nx (j:=j+1) (w:=e.values.length+1) hj (by omega);refine⟨by omega,by omega,by omega,by omega,⟨by omega,by simp⟩,?_,aa (fun f=>?_) (fun f=>?_)⟩
  ·rw[Oj];exact ob
  ·have f:=ndF f;rw[<-h4,O0 (show ¬(aW (ag n) (t.parts.getD (j+1) (dfl (.st .term))) (L.1.getD (L.1.length-1) aJ) (cb e [fU (t.vars.getD j (dfl .str)) (L.1.getD j (dfl (.st .shape)))])).err=0 from f)];exact⟨by omega,rfl,rfl,rfl⟩
  ·have f:=ndT f;rw[O3 (show(aW (ag n) (t.parts.getD (j+1) (dfl (.st .term))) (L.1.getD (L.1.length-1) aJ) (cb e [fU (t.vars.getD j (dfl .str)) (L.1.getD j (dfl (.st .shape)))])).err=0 from f)]at h4;exact⟨aA (by omega) ln,(j+1,cQ),⟨by dsimp only;omega,rfl,rfl,h4⟩,by dsimp only;omega,by dsimp only;omega,f,by rw[Gw f]⟩
 ·have c:¬((j:Int)<((t.parts.length-1:Nat):Int)):=fun q=>c (Xd q);have hj:j+1=t.parts.length:=by omega
  rw[hj,Ol]at h4;simp only[gz]at h4;rw[<-h4];exact⟨by omega,rfl,h2,h3⟩
theorem Hg(n:Nat)(t:Trm)(e:Envt)(ht:Wf (.st .term) t)(he:Wf (.st .env) e)(hz:szT t<=n+1)(hf:allT ao t=true)(hv:e.values.length+4096 *szT t<=100000000) :
  let A:=(1:Int);let B:=True;let C:=ag n;let D:=bh C t e;let E:=(0:Int);let F:=E=D.2.err/\E=D.2.pos/\B;let G:=B/\ofK (2:Int)=D.1/\F;let H:=(decide (t.kind=(3:Int))||decide (t.kind=(4:Int)));let I:=t.kind=t.kind;let J:=false=false;let K:=gD UInt8=gD UInt8;let L:=t=t/\e=e/\E=E/\K/\K/\E=E/\E=E/\B;let M:=aO e.values t.pkg t.name;let N:=Option.elim M aJ bO=D.1;let O:=(4096:Nat);let P:=(100000000:Nat);let Q:=szT t<=n+(1:Nat)/\allT ao t=true/\List.length e.values+O*szT t<=P;let R:=((0:Nat)<List.length t.parts/\Q);let S:=fW C t e;let T:=t.parts=t.parts;let U:=(↑(List.length t.parts):Int);let V:=(6:Int);let W:=t.names=t.names;let X:=dfl (Ty.st SN.term);let Y:=[]=D.1.pkg;let Z:=[]=D.1.name;let a:=iJ C t e;let b:=E<=E/\E<U;let c:=List.getD t.parts (Int.toNat E) X;let d:=szT c<=n/\allT ao c=true/\List.length e.values+O*szT c<=P;let f:=ag n c e;let g:=f.2.err=D.2.err/\f.2.pos=D.2.pos/\B;let h:=[{pkg:=[],name:=t.name,shape:=AL.Shape.mk (f.1.kind) (f.1.pkg) (f.1.name) (f.1.names) (f.1.parts):Bndg}];let i:=List.getD t.parts (Int.toNat A) X;let j:=ag n i (cb e h);let k:=nP C t e;let l:=R/\B/\k.1=D.1/\k.2.err=D.2.err/\k.2.pos=D.2.pos/\B;let m:=cO C t e;if decide (t.kind=A)=true then B/\ofK A=D.1/\F else if decide (t.kind=(2:Int))=true then B/\ofK (3:Int)=D.1/\F else if decide (t.kind=(3:Int))=true then G else(decide (t.kind=(4:Int))=H/\t=t/\e=e/\I/\J/\J/\L)/\if H=true then G else if decide (t.kind=(5:Int))=true then if(!Option.isSome M)=true then B/\N/\(110:Int)=D.2.err/\t.pos=D.2.pos/\B else B/\N/\F else if decide (t.kind=(7:Int))=true then R/\B/\S.1=D.1/\S.2.err=D.2.err/\S.2.pos=D.2.pos/\B else if decide (t.kind=(8:Int))=true then(∃(x:Nat×List Shape),let o:=dw C e (List.drop x.1 t.parts);(x.1<=List.length t.parts/\List.length x.2=x.1/\dw C e t.parts=(x.2++o.1,o.2))/\E=(↑x.1:Int)/\J/\t=t/\e=e/\I/\J/\J/\J/\J/\true=true/\T/\U=U/\V=V/\K/\K/\W/\x.2=[]/\List.length x.2=(0:Nat)/\L)/\∀(x:Nat×List Shape),let o:=dw C e (List.drop x.1 t.parts);let p:=(↑x.1:Int);let q:=List.getD t.parts (Int.toNat p) X;let r:=ag n q e;x.1<=List.length t.parts/\List.length x.2=x.1/\dw C e t.parts=(x.2++o.1,o.2)->if decide (p<U)=true then(E<=p/\p<U)/\(szT q<=n/\allT ao q=true/\List.length e.values+O*szT q<=P)/\if(!decide (r.2.err=E))=true then B/\r.1=D.1/\r.2.err=D.2.err/\r.2.pos=D.2.pos/\B else(List.length x.2=List.length x.2/\(List.length x.2+List.length [r.1])*(88:Nat)<=(140737488355328:Nat))/\inR IntKind.i64 (p+A)/\∃(y:Nat×List Shape),let s:=dw C e (List.drop y.1 t.parts);(y.1<=List.length t.parts/\List.length y.2=y.1/\dw C e t.parts=(y.2++s.1,s.2))/\List.length t.parts-y.1<List.length t.parts-x.1/\p+A=(↑y.1:Int)/\J/\t=t/\e=e/\I/\J/\J/\J/\J/\true=true/\T/\U=U/\V=V/\K/\K/\W/\x.2++[r.1]=y.2/\List.length (x.2++[r.1])=List.length y.2/\L else B/\V=D.1.kind/\Y/\Z/\t.names=D.1.names/\x.2=D.1.parts/\F else if decide (t.kind=(9:Int))=true then R/\B/\a.1=D.1/\a.2.err=D.2.err/\a.2.pos=D.2.pos/\B else if decide (t.kind=(10:Int))=true then b/\d/\B/\(7:Int)=D.1.kind/\Y/\Z/\[t.name]=D.1.names/\[f.1]=D.1.parts/\g else if decide (t.kind=(14:Int))=true then b/\d/\if(!decide (f.2.err=E))=true then B/\f.1=D.1/\g else(E<=A/\A<U)/\(List.length e.values<=(1000000000:Nat)/\List.length h<=(1000:Nat))/\(szT i<=n/\allT ao i=true/\List.length (e.values++h)+O*szT i<=P)/\B/\j.1=D.1/\j.2.err=D.2.err/\j.2.pos=D.2.pos/\B else if decide (t.kind=(16:Int))=true then l else if decide (t.kind=(17:Int))=true then l else((t.kind=V∨t.kind=(11:Int)∨t.kind=(12:Int)∨t.kind=(13:Int)∨t.kind=(15:Int))/\Q)/\B/\m.1=D.1/\m.2.err=D.2.err/\m.2.pos=D.2.pos/\B:=by
 conv=>zeta
 have rm:=F6 hf;have ln:=ht.term_parts.len;have ps:=Ao t;have e0:Int.toNat 0=0:=rfl;have e1:Int.toNat 1=1:=rfl;have et:∀s:Shape,AL.Shape.mk s.kind s.pkg s.name s.names s.parts=s:=fun s=>by cases s;rfl
 simp only[e0,e1,et,Oi,Pw,OV,OK];have nx:∀{j w:Nat},j<t.parts.length->w<=e.values.length+4096->szT (t.parts.getD j (dfl (.st .term)))<=n/\allT ao (t.parts.getD j (dfl (.st .term)))=true/\w+4096 *szT (t.parts.getD j (dfl (.st .term)))<=100000000:=fun hj hw=>yf hz hf hv _ hj hw;refine aa (fun k=>?_) (fun k1=>?_)
 ·have k:=Xo k;rw[show bh (ag n) t e=(ofK 1,cQ) by unfold bh;simp[k]];exact⟨rfl,rfl,rfl⟩
 have k1:¬t.kind=1:=fun q=>k1 (Xd q);refine aa (fun k=>?_) (fun k2=>?_)
 ·have k:=Xo k;rw[show bh (ag n) t e=(ofK 3,cQ) by unfold bh;simp[k]];exact⟨rfl,rfl,rfl⟩
 have k2:¬t.kind=2:=fun q=>k2 (Xd q);refine aa (fun k=>?_) (fun k3=>?_)
 ·have k:=Xo k;rw[show bh (ag n) t e=(ofK 2,cQ) by unfold bh;simp[k]];exact⟨rfl,rfl,rfl⟩
 have k3:¬t.kind=3:=fun q=>k3 (Xd q);refine⟨by rw[Xf k3,RL],aa (fun k=>?_) (fun k4=>?_)⟩
 ·have k:t.kind=4:=by rw[Xf k3,RL]at k;exact Xo k
  rw[show bh (ag n) t e=(ofK 2,cQ) by unfold bh;simp[k]];exact⟨rfl,rfl,rfl⟩
 have k4:¬t.kind=4:=fun q=>k4 (by rw[Xd q,Bool.or_true]);refine aa (fun k=>?_) (fun k5=>?_)
 ·have k:=Xo k;have hN:aO e.values t.pkg t.name=none->bh (ag n) t e=(aJ,⟨110,t.pos⟩):=fun g=>by unfold bh;simp[k,g]
  have hS:∀s,aO e.values t.pkg t.name=some s->bh (ag n) t e=(bO s,cQ):=fun s g=>by unfold bh;simp[k,g]
  cases g:aO e.values t.pkg t.name with|none=>rw[hN g];exact aa (fun _=>⟨rfl,rfl,rfl⟩) (fun q=>absurd rfl q)|some s=>rw[hS s g];exact aa (fun q=>absurd q P5) (fun _=>⟨rfl,rfl,rfl⟩)
 have k5:¬t.kind=5:=fun q=>k5 (Xd q);refine aa (fun k=>?_) (fun k7=>?_)
 ·have k:=Xo k;rw[show bh (ag n) t e=fW (ag n) t e by unfold bh;simp[k]];exact⟨⟨rm.k7 k,hz,hf,hv⟩,rfl,rfl,rfl⟩
 have k7:¬t.kind=7:=fun q=>k7 (Xd q);refine aa (fun k=>?_) (fun k8=>?_)
 ·have k:=Xo k;have hP:bh (ag n) t e=if(dw (ag n) e t.parts).2.2.err=0 then(⟨6,[],[],t.names,(dw (ag n) e t.parts).1⟩,cQ)else(dw (ag n) e t.parts).2:=by unfold bh;simp[k]
  refine⟨⟨(0,[]),⟨Of _,rfl,by rw[Pe];rfl⟩,rfl,rfl,rfl⟩,?_⟩;rintro⟨j,q⟩ ⟨h1,h2,h3⟩;dsimp only at h1 h2 h3⊢;apply aa<;>intro c
  ·have c:=Xo c;have hj:j<t.parts.length:=by omega
   rw[an t.parts j (dfl (.st .term)) hj]at h3;simp only[dw]at h3;refine⟨by omega,nx hj (PD _ _),aa (fun f=>?_) (fun f=>?_)⟩
   ·have f:=ndF f;rw[O0 f]at h3;rw[hP,h3,O0 (show ¬(q++[],ag n (t.parts.getD j (dfl (.st .term))) e).2.2.err=0 from f)];exact⟨rfl,rfl,rfl⟩
   ·have f:=ndT f;rw[O3 f]at h3;refine⟨by simp only[O8,ON];omega,aA hj ln,(j+1,q++[_]),⟨by dsimp only;omega,by simp[h2],?_⟩,by dsimp only;omega,by dsimp only;omega,rfl,rfl⟩;dsimp only;rw[h3,OE];rfl
  ·have c:¬((j:Int)<(t.parts.length:Int)):=fun q=>c (Xd q);have hj:j=t.parts.length:=by omega
   rw[hj,Ol]at h3;simp only[dw,P2]at h3;rw[hP,h3];exact⟨rfl,rfl,rfl,rfl,rfl,rfl,rfl⟩
 have k8:¬t.kind=8:=fun q=>k8 (Xd q);refine aa (fun k=>?_) (fun k9=>?_)
 ·have k:=Xo k;rw[show bh (ag n) t e=iJ (ag n) t e by unfold bh;simp[k]];have:=rm.k1 (by omega);exact⟨⟨by omega,hz,hf,hv⟩,rfl,rfl,rfl⟩
 have k9:¬t.kind=9:=fun q=>k9 (Xd q);refine aa (fun k=>?_) (fun k10=>?_)
 ·have k:=Xo k;rw[show bh (ag n) t e=(⟨7,[],[],[t.name],[(ag n (t.parts.getD 0 aS) e).1]⟩,(ag n (t.parts.getD 0 aS) e).2) by unfold bh;simp[k]];have:=rm.k1 (by omega);exact⟨by omega,nx (by omega) (PD _ _),rfl,rfl,rfl,rfl,rfl,rfl,rfl⟩
 have k10:¬t.kind=10:=fun q=>k10 (Xd q);refine aa (fun k=>?_) (fun k14=>?_)
 ·have k:=Xo k;rw[show bh (ag n) t e=(if(ag n (t.parts.getD 0 aS) e).2.err=0 then ag n (t.parts.getD 1 aS) (cb e [fU t.name (ag n (t.parts.getD 0 aS) e).1])else ag n (t.parts.getD 0 aS) e) by unfold bh;simp[k]];have:=rm.k14 k;refine⟨by omega,nx (by omega) (PD _ _),aa (fun f=>?_) (fun f=>?_)⟩
  ·rw[O0 (show ¬(ag n (t.parts.getD 0 aS) e).2.err=0 from ndF f)];exact⟨rfl,rfl,rfl⟩
  ·rw[O3 (show(ag n (t.parts.getD 0 aS) e).2.err=0 from ndT f)];refine⟨by omega,⟨by omega,by simp⟩,?_,rfl,rfl,rfl⟩;rw[Oj];exact nx (by omega) (by simp)
 have k14:¬t.kind=14:=fun q=>k14 (Xd q);refine aa (fun k=>?_) (fun k16=>?_)
 ·have k:=Xo k;rw[show bh (ag n) t e=nP (ag n) t e by unfold bh;simp[k]];have:=rm.k1 (by omega);exact⟨⟨by omega,hz,hf,hv⟩,rfl,rfl,rfl⟩
 have k16:¬t.kind=16:=fun q=>k16 (Xd q);refine aa (fun k=>?_) (fun k17=>?_)
 ·have k:=Xo k;rw[show bh (ag n) t e=nP (ag n) t e by unfold bh;simp[k]];have:=rm.k1 (by omega);exact⟨⟨by omega,hz,hf,hv⟩,rfl,rfl,rfl⟩
 have k17:¬t.kind=17:=fun q=>k17 (Xd q);have ka:=rm.all;rw[show bh (ag n) t e=cO (ag n) t e by unfold bh;simp[k1,k2,k3,k4,k5,k7,k8,k9,k10,k14,k16,k17]];exact⟨⟨by omega,hz,hf,hv⟩,rfl,rfl,rfl⟩
theorem K8(t:Trm)(e:Envt)(ht:Wf (.st .term) t)(he:Wf (.st .env) e)(ho:cd t=true/\e.values.length<=1000000) :
  let A:=(0:Int);let B:=fI t e;let C:=ag (szT t) t e;cd t=true/\if(!decide (du t=A))=true then True/\A=B.1.kind/\[]=B.1.pkg/\[]=B.1.name/\B.1.names=[]/\B.1.parts=[]/\du t=B.2.err/\A=B.2.pos/\True else(szT t<=szT t/\allT ao t=true/\List.length e.values+(4096:Nat)*szT t<=(100000000:Nat))/\True/\C.1=B.1/\C.2.err=B.2.err/\C.2.pos=B.2.pos/\True:=by
 conv=>zeta
 obtain⟨h1,h2⟩:=ho;refine⟨h1,aa (fun h=>?_) (fun h=>?_)⟩
 ·have h:=ndF h;rw[show fI t e=(aJ,⟨du t,0⟩) by unfold fI;rw[O0 h]];exact Xr
 ·have h:=ndT h;rw[show fI t e=ag (szT t) t e by unfold fI;rw[O3 h]];have:=(Dk h).1;exact⟨⟨Od _,Dj h,by omega⟩,trivial,rfl,rfl,rfl,trivial⟩
theorem Hh(s:Str)(c:Int)(hs:Wf .str s)(ho:c=48) :
  let A:=c=c/\gD UInt8=gD UInt8/\True;let B:=(0:Int);let C:=(1:Int);(∃(x:Nat),(x<=List.length s/\di s=di (List.drop x s))/\s=List.drop x s/\A)/\∀(x:Nat),let D:=List.drop x s;let E:=(↑(List.length D):Int);let F:=True/\List.drop x s=di s/\True;x<=List.length s/\di s=di D->if decide (B<E)=true then(B<=B/\B<E)/\if decide ((↑(UInt8.toNat (List.getD D (Int.toNat B) (0:UInt8))):Int)=c)=true then(B<=C/\C<=E/\E<=E)/\∃(y:Nat),(y<=List.length s/\di s=di (List.drop y s))/\List.length s-y<List.length s-x/\List.drop (Int.toNat C) (List.take (Int.toNat E) D)=List.drop y s/\A else F else F:=by
 conv=>zeta
 subst ho;simp only[Oi];refine⟨⟨0,⟨Of _,rfl⟩,(by repeat' (first|exact trivial|rfl|apply And.intro))⟩,?_⟩;rintro k ⟨h1,h2⟩;apply aa<;>intro h
 ·have h:=Xo h;rw[Qe]at h;have hk:k<s.length:=by omega
  have hd:=an s k 0 hk;simp only[hd]at h2⊢;refine⟨⟨by omega,by simp only[O8];omega⟩,aa (fun c=>?_) (fun c=>?_)⟩
  ·have c:((s.getD k 0).toNat:Int)=48:=Xo c;have c:s.getD k 0=48:=UInt8.toNat_inj.1 (by show _=48;omega);rw[Dc c]at h2;refine⟨⟨by omega,by simp only[O8];omega,Int.le_refl _⟩,k+1,⟨by omega,h2⟩,by omega,?_,(by repeat' (first|exact trivial|rfl|apply And.intro))⟩;rw[OY];rfl
  ·have c:¬((s.getD k 0).toNat:Int)=48:=fun e=>c (Xd e);have c:¬s.getD k 0=48:=fun e=>c (by rw[e];rfl);rw[Dd c]at h2;exact⟨trivial,h2.symm,trivial⟩
 ·have e:s.drop k=[]:=by have:¬(0:Int)<((s.drop k).length:Int):=fun e=>h (Xd e);exact Oc (by omega)
  rw[e]at h2⊢;exact⟨trivial,h2.symm,trivial⟩
theorem Bh(s t:Str)(ho:t=[48]) :
  let A:=True/\s=di s/\True;let B:=(↑(List.length t):Int);let C:=(0:Int);let D:=C<=C/\C<B;let E:=(↑(UInt8.toNat (List.getD t (Int.toNat C) (0:UInt8))):Int);if decide (s=[])=true then A else if decide (t=[])=true then A else if decide (B=(1:Int))=true then D/\if decide (E<(128:Int))=true then D/\E=(48:Int)/\True/\di s=di s/\True else False else False:=by
 conv=>zeta
 subst ho;refine aa (fun h=>?_) (fun _=>aa (fun h=>absurd h (by decide)) (fun _=>aa (fun _=>⟨by decide,aa (fun _=>⟨by decide,by decide,trivial,(by repeat' (first|exact trivial|rfl|apply And.intro))⟩) (fun h=>absurd (by decide) h)⟩) (fun h=>absurd (by decide) h)));rw[Xo h];exact⟨trivial,(by repeat' (first|exact trivial|rfl|apply And.intro))⟩
theorem M5(a:Int)  :
  True/\(!decide (a=a))=false/\True:=by
 exact⟨trivial,by simp,trivial⟩
theorem Hi(a b:Int)  :
  let A:=True;if decide (a<b)=true then A/\(-1:Int)=cmpI a b/\A else if decide (b<a)=true then A/\(1:Int)=cmpI a b/\A else A/\(0:Int)=cmpI a b/\A:=by
 conv=>zeta
 unfold cmpI;refine aa (fun h=>?_) (fun h=>aa (fun k=>?_) (fun k=>?_))
 ·exact⟨trivial,(O3 (Xo h)).symm,trivial⟩
 ·have h:¬a<b:=fun e=>h (Xd e);exact⟨trivial,by rw[O0 h,O3 (Xo k)],trivial⟩
 ·have h:¬a<b:=fun e=>h (Xd e);have k:¬b<a:=fun e=>k (Xd e);exact⟨trivial,by rw[O0 h,O0 k],trivial⟩
theorem Nh(l:List Int)(hl:Wf (.lst (.int .i64)) l) :
  let A:=(0:Int);let B:=(↑(List.length l):Int);let C:=l=l/\A=A/\l=l/\B=B/\True;let D:=dfl (Ty.int IntKind.i64);(∃(x:Nat),(x<=List.length l/\orI l=orI (List.drop x l))/\A=(↑x:Int)/\C)/\∀(x:Nat),let E:=(↑x:Int);x<=List.length l/\orI l=orI (List.drop x l)->if decide (E<B)=true then(A<=E/\E<B)/\if(!decide (List.getD l (Int.toNat E) D=A))=true then True/\List.getD l (Int.toNat E) D=orI l/\True else inR IntKind.i64 (E+(1:Int))/\∃(y:Nat),(y<=List.length l/\orI l=orI (List.drop y l))/\List.length l-y<List.length l-x/\E+(1:Int)=(↑y:Int)/\C else True/\A=orI l/\True:=by
 conv=>zeta
 have ln:=hl.len;simp only[Oi];refine⟨⟨0,⟨Of _,rfl⟩,(by repeat' (first|exact trivial|rfl|apply And.intro))⟩,?_⟩;rintro k ⟨h1,h2⟩;apply aa<;>intro h
 ·have h:=Xo h;have hk:k<l.length:=by omega
  rw[an l k (dfl (.int .i64)) hk,orI]at h2;refine⟨by omega,aa (fun c=>?_) (fun c=>?_)⟩
  ·have c:¬l.getD k (dfl (.int .i64))=0:=by simpa using c
   rw[O0 c]at h2;exact⟨trivial,h2.symm,trivial⟩
  ·have c:l.getD k (dfl (.int .i64))=0:=by simpa using c
   rw[O3 c]at h2;exact⟨aA hk ln,k+1,⟨by omega,h2⟩,by omega,by omega,(by repeat' (first|exact trivial|rfl|apply And.intro))⟩
 ·have e:k=l.length:=by have:¬((k:Int)<(l.length:Int)):=fun e=>h (Xd e);omega
  subst e;rw[Ol]at h2;exact⟨trivial,h2.symm,trivial⟩
theorem DQ(a b:Str)  :
  let A:=([48]:Str)=([48]:Str);A/\A/\True/\orI [cmpI (↑(List.length (di a)):Int) (↑(List.length (di b)):Int),kQ (di a) (di b)]=Gk a b/\True:=by
 conv=>zeta
 refine⟨rfl,rfl,trivial,?_,trivial⟩;unfold Gk;simp only[orI];by_cases h:kQ (di a) (di b)=0<;>simp[h]
theorem Hj(a b:Str)  :
  let A:=True;let B:=if cI a=true then A/\(-1:Int)=mQ a b/\A else if cI b=true then A/\(1:Int)=mQ a b/\A else A/\kQ a b=mQ a b/\A;if cI a=true then if cI b=true then A/\Gk a b=mQ a b/\A else B else B:=by
 conv=>zeta
 unfold mQ;by_cases h:cI a=true<;>by_cases k:cI b=true<;>simp[h,k]
theorem M6(a b:Vers)(ho:(a.pre.length<=4096/\b.pre.length<=4096)) :
  let A:=True;let B:=(0:Int);let C:=A/\A;let D:=[cmpI a.major b.major,cmpI a.minor b.minor,cmpI a.patch b.patch];let E:=(1:Int);let F:=([46]:Str)=([46]:Str);let G:=(4294967281:Nat);let H:=(46:UInt8);let I:=splitB H a.pre;let J:=splitB H b.pre;let K:=false=false;let L:=(↑(List.length I):Int);let M:=(↑(List.length J):Int);let N:=a=a/\b=b/\K/\orI D=orI D/\K/\K/\K/\splitB H a.pre=splitB H a.pre/\splitB H b.pre=splitB H b.pre/\min L M=min L M/\a=a/\b=b/\List.length D=List.length D/\A;let O:=dfl Ty.str;if(decide (a.major=b.major)&&(decide (a.minor=b.minor)&&(decide (a.patch=b.patch)&&(decide (a.pre=b.pre)&&true))))=true then A/\B=lT a b/\A else C/\C/\C/\C/\if(!decide (orI D=B))=true then A/\orI D=lT a b/\A else if decide (a.pre=[])=true then A/\E=lT a b/\A else if decide (b.pre=[])=true then A/\(-1:Int)=lT a b/\A else((F/\List.length a.pre<G)/\A)/\((F/\List.length b.pre<G)/\A)/\(∃(x:Nat),(x<=List.length I/\x<=List.length J/\kR I J=kR (List.drop x I) (List.drop x J))/\B=(↑x:Int)/\N)/\∀(x:Nat),let P:=(↑x:Int);let Q:=List.getD I (Int.toNat P) O;let R:=List.getD J (Int.toNat P) O;x<=List.length I/\x<=List.length J/\kR I J=kR (List.drop x I) (List.drop x J)->if decide (P<min L M)=true then(B<=P/\P<L)/\(B<=P/\P<M)/\C/\if(!decide (mQ Q R=B))=true then A/\mQ Q R=lT a b/\A else inR IntKind.i64 (P+E)/\∃(y:Nat),(y<=List.length I/\y<=List.length J/\kR I J=kR (List.drop y I) (List.drop y J))/\List.length I-y<List.length I-x/\P+E=(↑y:Int)/\N else A/\cmpI L M=lT a b/\A:=by
 conv=>zeta
 have hv:=Li a b;apply aa<;>intro h
 ·have e:a=b:=by simp only[NZ,O1]at h;obtain⟨h1,h2,h3,h4,_⟩:=h;cases a;cases b;simp only at h1 h2 h3 h4;rw[h1,h2,h3,h4]
  rw[e];exact⟨trivial,(Gm b).symm,trivial⟩
 ·refine⟨⟨trivial,trivial⟩,⟨trivial,trivial⟩,⟨trivial,trivial⟩,⟨trivial,trivial⟩,aa (fun c=>?_) (fun c=>?_)⟩
  ·have c:¬qF a b=0:=by simpa[qF]using c
   rw[O3 c]at hv;exact⟨trivial,hv.symm,trivial⟩
  ·have c:qF a b=0:=by simpa[qF]using c
   rw[O0 (fun e=>e c)]at hv;refine aa (fun p=>?_) (fun p=>aa (fun q=>?_) (fun q=>?_))
   ·have p:=Xo p
    have q:¬b.pre=[]:=fun q=>h (by
     rw[Ja c (p.trans q.symm)];simp)
    rw[O3 p,O0 q]at hv;exact⟨trivial,hv.symm,trivial⟩
   ·have p:¬a.pre=[]:=fun e=>p (Xd e);have q:=Xo q;rw[O0 p,O3 q]at hv;exact⟨trivial,hv.symm,trivial⟩
   ·have p:¬a.pre=[]:=fun e=>p (Xd e);have q:¬b.pre=[]:=fun e=>q (Xd e);rw[O0 p,O0 q]at hv;have la:=fC 46 a.pre;have lb:=fC 46 b.pre;generalize splitB 46 a.pre=x at hv la⊢;generalize splitB 46 b.pre=y at hv lb⊢;refine⟨⟨⟨rfl,by omega⟩,trivial⟩,⟨⟨rfl,by omega⟩,trivial⟩,⟨0,⟨Of _,Of _,rfl⟩,(by repeat' (first|exact trivial|rfl|apply And.intro))⟩,?_⟩;rintro k ⟨h1,h2,h3⟩;simp only[Oi];apply aa<;>intro d
    ·have d:=Xo d;have k1:k<x.length:=by omega
     have k2:k<y.length:=by omega
     have hs:=Gn k1 k2;refine⟨by omega,by omega,⟨trivial,trivial⟩,aa (fun e=>?_) (fun e=>?_)⟩
     ·have e:¬mQ (x.getD k (dfl .str)) (y.getD k (dfl .str))=0:=by simpa using e
      rw[O0 e]at hs;exact⟨trivial,by rw[hv,h3,hs],trivial⟩
     ·have e:mQ (x.getD k (dfl .str)) (y.getD k (dfl .str))=0:=by simpa using e
      rw[O3 e]at hs;exact⟨aU (by omega) (by omega),k+1,⟨by omega,by omega,by rw[h3,hs]⟩,by omega,by omega,(by repeat' (first|exact trivial|rfl|apply And.intro))⟩
    ·have d:¬((k:Int)<min (x.length:Int) (y.length:Int)):=fun e=>d (Xd e);exact⟨trivial,by rw[hv,h3,J7 h1 h2 (by omega)],trivial⟩
theorem K9(n:Int)  :
  let A:=True;if decide (n=(1:Int))=true then A/\([60]:Str)=tQ n/\A else if decide (n=(2:Int))=true then A/\([60,61]:Str)=tQ n/\A else if decide (n=(3:Int))=true then A/\([61]:Str)=tQ n/\A else if decide (n=(4:Int))=true then A/\([62,61]:Str)=tQ n/\A else if decide (n=(5:Int))=true then A/\([62]:Str)=tQ n/\A else A/\[]=tQ n/\A:=by
 conv=>zeta
 unfold tQ
 repeat' (apply aa<;>intro h)
 all_goals (refine⟨trivial,?_,trivial⟩;simp only[O1]at *;simp[*])
theorem Hk(l:List Bnd)(hl:Wf (.lst (.st .bound)) l) :
  let A:=(↑(List.length l):Int);let B:=True/\(50:Int)=mR l/\True;let C:=(0:Int);let D:=l=l/\false=false/\l=l/\A=A/\True;let E:=dfl (Ty.st SN.bound);if decide ((20:Int)<A)=true then B else(∃(x:Nat),(x<=List.length l/\List.all l lU=List.all (List.drop x l) lU)/\C=(↑x:Int)/\D)/\∀(x:Nat),let F:=(↑x:Int);let G:=List.getD l (Int.toNat F) E;x<=List.length l/\List.all l lU=List.all (List.drop x l) lU->if decide (F<A)=true then(C<=F/\F<A)/\if decide (tQ G.op=[])=true then B else if(!decide (ed G.v=C))=true then B else inR IntKind.i64 (F+(1:Int))/\∃(y:Nat),(y<=List.length l/\List.all l lU=List.all (List.drop y l) lU)/\List.length l-y<List.length l-x/\F+(1:Int)=(↑y:Int)/\D else True/\C=mR l/\True:=by
 conv=>zeta
 have ln:=hl.len;refine aa (fun h=>?_) (fun h0=>?_)
 ·have h:=Xo h;refine⟨trivial,?_,trivial⟩;unfold mR;rw[O3 (by omega)]
 have h0:¬20<l.length:=fun e=>h0 (Xd (by omega));simp only[Oi];refine⟨⟨0,⟨Of _,rfl⟩,(by repeat' (first|exact trivial|rfl|apply And.intro))⟩,?_⟩;rintro k ⟨h1,h2⟩;apply aa<;>intro h
 ·have h:=Xo h;have hk:k<l.length:=by omega
  rw[an l k (dfl (.st .bound)) hk,P6]at h2;have no:lU (l.getD k (dfl (.st .bound)))=false->True/\(50:Int)=mR l/\True:=fun e=>⟨trivial,Lj (by rw[h2,e];rfl),trivial⟩;have yes:lU (l.getD k (dfl (.st .bound)))=true->l.all lU=(l.drop (k+1)).all lU:=fun e=>by rw[h2,e,OW]
  unfold lU at no yes;have hs:=J8 (l.getD k (dfl (.st .bound))).op;refine⟨by omega,aa (fun c=>no ?_) (fun c=>aa (fun d=>no ?_) (fun d=>?_))⟩
  ·rw[Xf (hs.1 (Xo c)),Oq]
  ·have d:¬ed (l.getD k (dfl (.st .bound))).v=0:=by simpa using d
   rw[Xf d,P7]
  ·have c:1<=(l.getD k (dfl (.st .bound))).op/\(l.getD k (dfl (.st .bound))).op<=5:=Decidable.not_not.1 (fun e=>c (Xd (hs.2 e)));have d:ed (l.getD k (dfl (.st .bound))).v=0:=by simpa using d
   exact⟨aA hk ln,k+1,⟨by omega,yes (by rw[Xd c,Xd d];rfl)⟩,by omega,by omega,(by repeat' (first|exact trivial|rfl|apply And.intro))⟩
 ·have e:k=l.length:=by have:¬((k:Int)<(l.length:Int)):=fun e=>h (Xd e);omega
  subst e;rw[Ol]at h2;exact⟨trivial,Jb h0 h2,trivial⟩
theorem Hl(v:Vers)(l:List Bnd)(hl:Wf (.lst (.st .bound)) l)(ho:(v.pre.length<=4096/\∀b∈l,b.v.pre.length<=4096)) :
  let A:=(0:Int);let B:=(↑(List.length l):Int);let C:=v=v/\l=l/\l=l/\B=B/\v=v/\True;let D:=dfl (Ty.st SN.bound);let E:=(1:Int);let F:=True/\false=dU v l/\True;(∃(x:Nat),(x<=List.length l/\dU v l=dU v (List.drop x l))/\A=(↑x:Int)/\C)/\∀(x:Nat),let G:=(↑x:Int);let H:=List.getD l (Int.toNat G) D;let I:=inR IntKind.i64 (G+E)/\∃(y:Nat),(y<=List.length l/\dU v l=dU v (List.drop y l))/\List.length l-y<List.length l-x/\G+E=(↑y:Int)/\C;x<=List.length l/\dU v l=dU v (List.drop x l)->if decide (G<B)=true then(A<=G/\G<B)/\(List.length v.pre<=(4096:Nat)/\List.length H.v.pre<=(4096:Nat))/\if decide (H.op=E)=true then if decide (A<=lT v H.v)=true then F else I else if decide (H.op=(2:Int))=true then if decide (A<lT v H.v)=true then F else I else if decide (H.op=(3:Int))=true then if(!decide (lT v H.v=A))=true then F else I else if decide (H.op=(4:Int))=true then if decide (lT v H.v<A)=true then F else I else if decide (H.op=(5:Int))=true then if decide (lT v H.v<=A)=true then F else I else F else True/\true=dU v l/\True:=by
 conv=>zeta
 have ln:=hl.len;simp only[Oi];refine⟨⟨0,⟨Of _,rfl⟩,(by repeat' (first|exact trivial|rfl|apply And.intro))⟩,?_⟩;rintro k ⟨h1,h2⟩;apply aa<;>intro h
 ·have h:=Xo h;have hk:k<l.length:=by omega
  rw[an l k (dfl (.st .bound)) hk,show ∀(x:Bnd)(r:List Bnd),dU v (x::r)=(Lh v x&&dU v r)from fun _ _=>rfl]at h2;have hi:=aA hk ln;have no:Lh v (l.getD k (dfl (.st .bound)))=false->false=dU v l:=fun e=>by rw[h2,e];rfl
  have yes:Lh v (l.getD k (dfl (.st .bound)))=true->dU v l=dU v (l.drop (k+1)):=fun e=>by rw[h2,e,OW]
  refine⟨by omega,⟨ho.1,ho.2 _ (getD_mem l k _ hk)⟩,?_⟩;exact Db _ _ (fun e=>⟨trivial,no e,trivial⟩) (fun e=>⟨hi,k+1,⟨by omega,yes e⟩,by omega,by omega,(by repeat' (first|exact trivial|rfl|apply And.intro))⟩)
 ·have e:k=l.length:=by have:¬((k:Int)<(l.length:Int)):=fun e=>h (Xd e);omega
  subst e;rw[Ol]at h2;exact⟨trivial,h2.symm,trivial⟩
theorem DR(n:Nat)(x:Shape)(ho:sz x<=n) :
  sz x<=n/\True/\(!allS aP x)=!allS aP x/\True:=by
 exact⟨ho,trivial,rfl,trivial⟩
theorem DS(n:Nat)(l:List Shape)(hl:Wf (.lst (.st .shape)) l)(ho:∀x∈l,sz x<=n) :
  let A:=allS aP;let B:=(0:Nat);let C:=(↑(List.length l):Int);let D:=l=l/\C=C/\True;let E:=dfl (Ty.st SN.shape);(∃(x:Nat),(x<=List.length l/\ba A (List.drop x l) x=ba A l B)/\(0:Int)=(↑x:Int)/\D)/\∀(x:Nat),let F:=(↑x:Int);let G:=List.getD l (Int.toNat F) E;x<=List.length l/\ba A (List.drop x l) x=ba A l B->if decide (F<C)=true then((0:Int)<=F/\F<C)/\sz G<=n/\if(!allS aP G)=true then True/\F=ba A l B/\True else inR IntKind.i64 (F+(1:Int))/\∃(y:Nat),(y<=List.length l/\ba A (List.drop y l) y=ba A l B)/\List.length l-y<List.length l-x/\F+(1:Int)=(↑y:Int)/\D else True/\(-1:Int)=ba A l B/\True:=by
 conv=>zeta
 have ln:=hl.len;simp only[Oi];refine⟨⟨0,⟨Of _,by simp⟩,(by repeat' (first|exact trivial|rfl|apply And.intro))⟩,?_⟩;rintro k ⟨h1,h2⟩;apply aa<;>intro h
 ·replace h:=Xo h;have hk:k<l.length:=by omega
  rw[an l k (dfl (.st .shape)) hk,ba]at h2;refine⟨by omega,ho _ (getD_mem l k _ hk),aa (fun c=>?_) (fun c=>?_)⟩
  ·have c:allS aP (l.getD k (dfl (.st .shape)))=false:=by simpa using c
   rw[c,O0 P5]at h2;rw[<-h2];exact Xr
  ·have c:allS aP (l.getD k (dfl (.st .shape)))=true:=by simpa using c
   rw[O3 c]at h2;exact⟨aA hk ln,k+1,⟨by omega,h2⟩,by omega,by omega,(by repeat' (first|exact trivial|rfl|apply And.intro))⟩
 ·replace h:¬((k:Int)<(l.length:Int)):=fun e=>h (Xd e);have e:k=l.length:=by omega
  subst e;rw[Ol,ba]at h2;rw[<-h2];exact Xr
theorem DT(n:Nat)(l:List Shape)(hl:Wf (.lst (.st .shape)) l)(ho:∀x∈l,sz x<=n) :
  (∀(x:Shape),x∈l->sz x<=n)/\True/\decide ((0:Int)<=ba (allS aP) l (0:Nat))=!List.all l (allS aP)/\True:=by
 exact⟨ho,trivial,iC (allS aP) l 0,trivial⟩
theorem Ka(n:Nat)(s:Shape)(ho:sz s<=n+1) :
  if(!decide (s.kind=(10:Int)))=true then(∀(x:Shape),x∈s.parts->sz x<=n)/\True/\(!!List.all s.parts (allS aP))=allS aP s/\True else True/\false=allS aP s/\True:=by
 have e0:allS aP s=(aP s&&s.parts.all (allS aP)):=by rw[allS_eq,allL_all]
 have h0:=jh s;have hm:∀x∈s.parts,sz x<=n:=fun x hx=>by have:=eZ hx;omega
 rw[e0];apply aa<;>intro h
 ·have h:aP s=true:=h;rw[h,OW];exact⟨hm,trivial,by simp,trivial⟩
 ·have h:aP s=false:=by simpa[aP]using h
  rw[h];exact Xr
theorem Hm(l:List Str)(ho:l.length *16<=140737488355328) :
  let A:=(List.mergeSort l fun(x y:Str)=>decide (x<=y));List.length l*(16:Nat)<=(140737488355328:Nat)/\List.length A=List.length A/\True/\decide ((↑(List.length (Lib.compact A)):Int)=(↑(List.length l):Int))=decide (List.Nodup l)/\True:=by
 conv=>zeta
 have hc:=jg l;unfold fT at hc;refine⟨ho,rfl,trivial,?_,trivial⟩;rw[Pg,<-hc];omega
theorem Kb(d:Dcl)(ho:cP d=true) :
  let A:=(0:Int);let B:=(↑(List.length d.shape.names):Int);let C:=(↑(List.length d.shape.parts):Int);let D:=True;let E:=d=d/\false=false/\d=d/\D;let F:=false=noS d.shape/\E;let G:=(↑(List.length d.term.names):Int);let H:=(↑(List.length d.term.vars):Int);let I:=(↑(List.length d.term.shapes):Int);let J:=(↑(List.length d.term.parts):Int);let K:=noS d.shape=noS d.shape/\d=d/\false=false/\d=d/\d.term=d.term/\D;let L:=false=noT d.term/\K;let M:=D/\false=gH d/\D;let N:=if eG d.name=true then if decide (aG d.shape=A)=true then sz d.shape<=(400:Nat)/\if allS aP d.shape=true then D/\noT d.term=gH d/\D else M else M else M;(if decide (d.shape.kind=A)=true then if decide (d.shape.pkg=[])=true then if decide (d.shape.name=[])=true then inR IntKind.i64 (B+C)/\decide (B+C=A)=noS d.shape/\E else F else F else F)/\(if decide (d.term.kind=A)=true then if decide (d.term.pkg=[])=true then if decide (d.term.name=[])=true then if decide (d.term.n=A)=true then if decide (d.term.pos=A)=true then inR IntKind.i64 (G+H)/\inR IntKind.i64 (G+H+I)/\inR IntKind.i64 (G+H+I+J)/\decide (G+H+I+J=A)=noT d.term/\K else L else L else L else L else L)/\if decide (d.kind=(1:Int))=true then N else if decide (d.kind=(2:Int))=true then N else if decide (d.kind=(3:Int))=true then if aX d.name=true then cd d.term=true/\if decide (du d.term=A)=true then D/\noS d.shape=gH d/\D else M else M else M:=by
 conv=>zeta
 obtain⟨o4,o5⟩:=Aq ho;obtain⟨s1,s2,s3,s4,s5,s6⟩:=Jf ho;have dS:decide ((d.shape.names.length:Int)+(d.shape.parts.length:Int)=0)=decide (d.shape.names.length+d.shape.parts.length=0):=Pg.2 (by omega);have dT:decide ((d.term.names.length:Int)+(d.term.vars.length:Int)+(d.term.shapes.length:Int)+(d.term.parts.length:Int)=0)=decide (d.term.names.length+d.term.vars.length+d.term.shapes.length+d.term.parts.length=0):=Pg.2 (by omega);have i1:inR .i64 ((d.shape.names.length:Int)+(d.shape.parts.length:Int)):=aU (by omega) (by omega);have i2:inR .i64 ((d.term.names.length:Int)+(d.term.vars.length:Int)):=aU (by omega) (by omega);have i3:inR .i64 ((d.term.names.length:Int)+(d.term.vars.length:Int)+(d.term.shapes.length:Int)):=aU (by omega) (by omega);have i4:inR .i64 ((d.term.names.length:Int)+(d.term.vars.length:Int)+(d.term.shapes.length:Int)+(d.term.parts.length:Int)):=aU (by omega) (by omega);have nS:noS d.shape=(decide (d.shape.kind=0)&&decide (d.shape.pkg=[])&&decide (d.shape.name=[])&&decide (d.shape.names.length+d.shape.parts.length=0)):=rfl;have nT:noT d.term=(decide (d.term.kind=0)&&decide (d.term.pkg=[])&&decide (d.term.name=[])&&decide (d.term.n=0)&&decide (d.term.pos=0)&&decide (d.term.names.length+d.term.vars.length+d.term.shapes.length+d.term.parts.length=0)):=rfl;refine⟨?_,?_,?_⟩
 ·rw[nS,dS];refine aa (fun a=>aa (fun b=>aa (fun c=>⟨i1,?_,(by repeat' (first|exact trivial|rfl|apply And.intro))⟩) (fun c=>⟨?_,(by repeat' (first|exact trivial|rfl|apply And.intro))⟩)) (fun b=>⟨?_,(by repeat' (first|exact trivial|rfl|apply And.intro))⟩)) (fun a=>⟨?_,(by repeat' (first|exact trivial|rfl|apply And.intro))⟩)
  ·rw[a,b,c];rfl
  ·rw[bF c,P7,Oq]
  ·rw[bF b,P7,Oq,Oq]
  ·rw[bF a,Oq,Oq,Oq]
 ·rw[nT,dT];refine aa (fun a=>aa (fun b=>aa (fun c=>aa (fun e=>aa (fun f=>⟨i2,i3,i4,?_,(by repeat' (first|exact trivial|rfl|apply And.intro))⟩) (fun f=>⟨?_,(by repeat' (first|exact trivial|rfl|apply And.intro))⟩)) (fun e=>⟨?_,(by repeat' (first|exact trivial|rfl|apply And.intro))⟩)) (fun c=>⟨?_,(by repeat' (first|exact trivial|rfl|apply And.intro))⟩)) (fun b=>⟨?_,(by repeat' (first|exact trivial|rfl|apply And.intro))⟩)) (fun a=>⟨?_,(by repeat' (first|exact trivial|rfl|apply And.intro))⟩)
  ·rw[a,b,c,e,f];rfl
  ·rw[bF f,P7,Oq]
  ·rw[bF e,P7,Oq,Oq]
  ·rw[bF c,P7,Oq,Oq,Oq]
  ·rw[bF b,P7,Oq,Oq,Oq,Oq]
  ·rw[bF a,Oq,Oq,Oq,Oq,Oq]
 clear nS nT dS dT
 have ty:d.kind=1∨d.kind=2->(if eG d.name=true then if decide (aG d.shape=0)=true then sz d.shape<=400/\if allS aP d.shape=true then True/\noT d.term=gH d/\True else True/\false=gH d/\True else True/\false=gH d/\True else True/\false=gH d/\True):=by
  intro k;unfold gH;rw[O3 k];refine aa (fun a=>aa (fun b=>⟨(dD (Xo b)).1,aa (fun c=>⟨trivial,?_,trivial⟩) (fun c=>⟨trivial,?_,trivial⟩)⟩) (fun b=>⟨trivial,?_,trivial⟩)) (fun a=>⟨trivial,?_,trivial⟩)
  ·rw[a,b,c];rfl
  ·rw[bF c,P7,Oq]
  ·rw[bF b,P7,Oq,Oq]
  ·rw[bF a,Oq,Oq,Oq]
 refine aa (fun k=>ty (.inl (Xo k))) (fun k1=>aa (fun k=>ty (.inr (Xo k))) (fun k2=>?_));have k1:¬d.kind=1:=fun e=>k1 (Xd e);have k2:¬d.kind=2:=fun e=>k2 (Xd e);have dk:gH d=if d.kind=3 then aX d.name&&decide (du d.term=0)&&noS d.shape else false:=by unfold gH;exact O0 (fun e=>e.elim k1 k2)
 rw[dk];refine aa (fun k=>?_) (fun k=>⟨trivial,(O0 (fun e=>k (Xd e))).symm,trivial⟩);rw[O3 (Xo k)];refine aa (fun a=>⟨o5,aa (fun b=>⟨trivial,?_,trivial⟩) (fun b=>⟨trivial,?_,trivial⟩)⟩) (fun a=>⟨trivial,?_,trivial⟩)
 ·rw[a,b];rfl
 ·rw[bF b,P7,Oq]
 ·rw[bF a,Oq,Oq]
theorem Hn(m:Modu)(hm:Wf (.st .modu) m)(ho:(m.decls.all cP=true/\m.decls.length<=1000000)) :
  let A:=True/\(100:Int)=bq m/\True;let B:=(↑(List.length m.imports):Int);let C:=(↑(List.length m.exports):Int);let D:=(0:Int);let E:=(fun(x:Impt)=>x.name);let F:=m=m;let G:=false=false;let H:=m.imports=m.imports;let I:=B=B;let J:=F/\True;let K:=dfl (Ty.st SN.imp);let L:=(16:Nat);let M:=(140737488355328:Nat);let N:=(1:Int);let O:=[([73,110,116]:Str),([66,111,111,108]:Str),([84,101,120,116]:Str),([65,110,121]:Str)];let P:=(fun(x:Dcl)=>x.name);let Q:=m.decls=m.decls;let R:=(↑(List.length m.decls):Int);let S:=R=R;let T:=dfl (Ty.st SN.decl);let U:=m.exports=m.exports;if(!aX m.name)=true then A else if decide ((8:Int)<B)=true then A else if decide ((60:Int)<C)=true then A else if decide (m.pos<D)=true then A else(∃(x:Nat),let V:=List.take x m.imports;(x<=List.length m.imports/\List.all m.imports mS=List.all (List.drop x m.imports) mS)/\[m.name]=m.name::List.map E V/\D=(↑x:Int)/\F/\G/\H/\I/\List.length [m.name]=List.length (m.name::List.map E V)/\J)/\∀(x:Nat),let V:=(↑x:Int);let W:=List.getD m.imports (Int.toNat V) K;let X:=List.take x m.imports;let Y:=(m.name::List.map E X);let Z:=List.length Y=List.length Y;let a:=[W.name];let c:=m.name::List.map E X=m.name::List.map E X;let d:=V=V;let e:=Z/\J;x<=List.length m.imports/\List.all m.imports mS=List.all (List.drop x m.imports) mS->if decide (V<B)=true then(D<=V/\V<B)/\if(!aX W.name)=true then A else if(!decide (ed W.pin=D))=true then A else if(!decide (mR W.range=D))=true then A else(List.length W.pin.pre<=(4096:Nat)/\∀(b:Bnd),b∈W.range->List.length b.v.pre<=(4096:Nat))/\if(!dU W.pin W.range)=true then A else if decide (W.pos<D)=true then A else(Z/\(List.length Y+List.length a)*L<=M)/\inR IntKind.i64 (V+N)/\∃(y:Nat),let f:=List.take y m.imports;(y<=List.length m.imports/\List.all m.imports mS=List.all (List.drop y m.imports) mS)/\List.length m.imports-y<List.length m.imports-x/\m.name::List.map E X++a=m.name::List.map E f/\V+N=(↑y:Int)/\F/\G/\H/\I/\List.length (m.name::List.map E X++a)=List.length (m.name::List.map E f)/\J else(∃(x_1:Nat),let f:=List.take x_1 m.decls;(x_1<=List.length m.decls/\List.all m.decls lX=List.all (List.drop x_1 m.decls) lX)/\O=l7++List.map P f/\D=(↑x_1:Int)/\c/\d/\F/\G/\H/\I/\G/\Q/\S/\List.length O=List.length (l7++List.map P f)/\e)/\∀(x_1:Nat),let f:=(↑x_1:Int);let g:=List.getD m.decls (Int.toNat f) T;let h:=List.take x_1 m.decls;let i:=l7++List.map P h;let j:=List.length i=List.length i;let k:=[g.name];let l:=l7++List.map P h=l7++List.map P h/\f=f/\c/\d/\F/\G/\H/\I/\G/\Q/\S/\G/\U/\C=C/\j/\e;x_1<=List.length m.decls/\List.all m.decls lX=List.all (List.drop x_1 m.decls) lX->if decide (f<R)=true then(D<=f/\f<R)/\cP g=true/\if(!gH g)=true then A else if decide (g.pos<D)=true then A else(j/\(List.length i+List.length k)*L<=M)/\inR IntKind.i64 (f+N)/\∃(y:Nat),let n:=List.take y m.decls;(y<=List.length m.decls/\List.all m.decls lX=List.all (List.drop y m.decls) lX)/\List.length m.decls-y<List.length m.decls-x_1/\l7++List.map P h++k=l7++List.map P n/\f+N=(↑y:Int)/\c/\d/\F/\G/\H/\I/\G/\Q/\S/\List.length (l7++List.map P h++k)=List.length (l7++List.map P n)/\e else(∃(x_2:Nat),(x_2<=List.length m.exports/\List.all m.exports lY=List.all (List.drop x_2 m.exports) lY)/\D=(↑x_2:Int)/\l)/\∀(x_2:Nat),let n:=(↑x_2:Int);let o:=List.getD m.exports (Int.toNat n) (dfl Ty.str);let p:=inR IntKind.i64 (n+N)/\∃(y:Nat),(y<=List.length m.exports/\List.all m.exports lY=List.all (List.drop y m.exports) lY)/\List.length m.exports-y<List.length m.exports-x_2/\n+N=(↑y:Int)/\l;x_2<=List.length m.exports/\List.all m.exports lY=List.all (List.drop x_2 m.exports) lY->if decide (n<C)=true then(D<=n/\n<C)/\if(!aX o)=true then if(!eG o)=true then A else p else p else List.length Y*L<=M/\if(!decide (List.Nodup Y))=true then A else List.length i*L<=M/\if(!decide (List.Nodup i))=true then A else List.length m.exports*L<=M/\if(!decide (List.Nodup m.exports))=true then A else True/\D=bq m/\True:=by
 conv=>zeta
 have bad:okM m=false->True/\(100:Int)=bq m/\True:=fun e=>⟨trivial,Dl e,trivial⟩;have hb:(aX m.name=true/\m.imports.length<=8/\m.exports.length<=60/\0<=m.pos->False)->True/\(100:Int)=bq m/\True:=fun e=>bad (As (bF (fun k=>e (Au.1 k))));obtain⟨o1,o2⟩:=ho;rw[O9]at o1;refine aa (fun a=>hb (fun e=>nbN a e.1)) (fun a1=>aa (fun a=>hb (fun e=>by have:=Xo a;omega)) (fun a2=>aa (fun a=>hb (fun e=>by have:=Xo a;omega)) (fun a3=>aa (fun a=>hb (fun e=>by have:=Xo a;omega)) (fun a4=>?_))));have a2:¬(8:Int)<m.imports.length:=fun e=>a2 (Xd e);have a3:¬(60:Int)<m.exports.length:=fun e=>a3 (Xd e);have a4:¬m.pos<0:=fun e=>a4 (Xd e);have hH:qL m=true:=Au.2 ⟨nbP a1,by omega,by omega,by omega⟩;clear hb a1;simp only[Oi];refine⟨⟨0,⟨Of _,rfl⟩,(by repeat' (first|exact trivial|rfl|apply And.intro))⟩,?_⟩;rintro k ⟨k1,k2⟩;have lk:(m.name::(m.imports.take k).map (·.name)).length=k+1:=by rw[O8,P3,Pt];omega
 apply aa<;>intro h
 ·have h:=Xo h;have hk:k<m.imports.length:=by omega
  rw[an m.imports k (dfl (.st .imp)) hk,P6]at k2;have he:(m.name::(m.imports.take k).map (·.name))++[(m.imports.getD k (dfl (.st .imp))).name]=m.name::(m.imports.take (k+1)).map (·.name):=by rw[cD m.imports k (dfl (.st .imp)) hk,Q1];rfl
  have no:(aX (m.imports.getD k (dfl (.st .imp))).name=true/\ed (m.imports.getD k (dfl (.st .imp))).pin=0/\mR (m.imports.getD k (dfl (.st .imp))).range=0/\dU (m.imports.getD k (dfl (.st .imp))).pin (m.imports.getD k (dfl (.st .imp))).range=true/\0<=(m.imports.getD k (dfl (.st .imp))).pos->False)->True/\(100:Int)=bq m/\True:=fun e=>bad (Dm (by rw[k2,bF (fun q=>e (F7.1 q))];rfl));refine⟨by omega,aa (fun c=>no (fun e=>nbN c e.1)) (fun c1=>aa (fun c=>no (fun e=>ndN c e.2.1)) (fun c2=>aa (fun c=>no (fun e=>ndN c e.2.2.1)) (fun c3=>?_)))⟩;have c2:ed (m.imports.getD k (dfl (.st .imp))).pin=0:=ndP c2;have c3:mR (m.imports.getD k (dfl (.st .imp))).range=0:=ndP c3;refine⟨⟨OT (tR c2) (by decide),fun b hb=>OT (Jg c3 b hb) (by decide)⟩,aa (fun c=>no (fun e=>nbN c e.2.2.2.1)) (fun c4=>aa (fun c=>no (fun e=>by have:=Xo c;omega)) (fun c5=>?_))⟩;have c5:¬(m.imports.getD k (dfl (.st .imp))).pos<0:=fun e=>c5 (Xd e);have yes:mS (m.imports.getD k (dfl (.st .imp)))=true:=F7.2 ⟨nbP c1,c2,c3,nbP c4,by omega⟩;rw[yes,OW]at k2;refine⟨⟨by first|rfl|trivial,by rw[lk,OI];omega⟩,aU (by omega) (by omega),k+1,⟨by omega,k2⟩,by omega,he,by omega,(by repeat' (first|exact trivial|rfl|exact PT List.length he|apply And.intro))⟩
 have ek:k=m.imports.length:=by have:¬((k:Int)<(m.imports.length:Int)):=fun e=>h (Xd e);omega
 subst ek;rw[Ol]at k2;have kI:m.imports.all mS=true:=k2;clear k2;simp only[OY];refine⟨⟨0,⟨Of _,rfl⟩,(by repeat' (first|exact trivial|rfl|apply And.intro))⟩,?_⟩;rintro j ⟨j1,j2⟩;have lj:(l7++(m.decls.take j).map (·.name)).length=j+4:=by rw[Oj,P3,Pt];show 4+_=_;omega
 apply aa<;>intro h
 ·have h:=Xo h;have hj:j<m.decls.length:=by omega
  rw[an m.decls j (dfl (.st .decl)) hj,P6]at j2;have he:(l7++(m.decls.take j).map (·.name))++[(m.decls.getD j (dfl (.st .decl))).name]=l7++(m.decls.take (j+1)).map (·.name):=by rw[cD m.decls j (dfl (.st .decl)) hj,Q1,OE];rfl
  have no:(gH (m.decls.getD j (dfl (.st .decl)))=true/\0<=(m.decls.getD j (dfl (.st .decl))).pos->False)->True/\(100:Int)=bq m/\True:=fun e=>bad (Dn (by rw[j2,bF (fun q=>e (F8.1 q))];rfl));refine⟨by omega,o1 _ (getD_mem m.decls j _ hj),aa (fun c=>no (fun e=>nbN c e.1)) (fun c1=>aa (fun c=>no (fun e=>by have:=Xo c;omega)) (fun c2=>?_))⟩;have c2:¬(m.decls.getD j (dfl (.st .decl))).pos<0:=fun e=>c2 (Xd e);have yes:lX (m.decls.getD j (dfl (.st .decl)))=true:=F8.2 ⟨nbP c1,by omega⟩;rw[yes,OW]at j2;refine⟨⟨by first|rfl|trivial,by rw[lj,OI];omega⟩,aU (by omega) (by omega),j+1,⟨by omega,j2⟩,by omega,he,by omega,(by repeat' (first|exact trivial|rfl|exact PT List.length he|apply And.intro))⟩
 have ej:j=m.decls.length:=by have:¬((j:Int)<(m.decls.length:Int)):=fun e=>h (Xd e);omega
 subst ej;rw[Ol]at j2;have kD:m.decls.all lX=true:=j2;clear j2;simp only[OY]at lj lk⊢;refine⟨⟨0,⟨Of _,rfl⟩,(by repeat' (first|exact trivial|rfl|apply And.intro))⟩,?_⟩;rintro i ⟨i1,i2⟩;apply aa<;>intro h
 ·have h:=Xo h;have hi:i<m.exports.length:=by omega
  rw[an m.exports i (dfl .str) hi,P6]at i2;have yes:lY (m.exports.getD i (dfl .str))=true->inR .i64 ((i:Int)+1)/\m.exports.all lY=(m.exports.drop (i+1)).all lY:=fun e=>⟨aU (by omega) (by omega),by rw[i2,e,OW]⟩;refine⟨by omega,aa (fun c=>aa (fun c2=>?_) (fun c2=>?_)) (fun c=>?_)⟩
  ·have no:lY (m.exports.getD i (dfl .str))=false:=bF (fun q=>by
    rcases yi.1 q with e|e
    ·exact nbN c e
    ·exact nbN c2 e)
   exact bad (Dp (by rw[i2,no];rfl))
  ·obtain⟨y1,y2⟩:=yes (yi.2 (.inr (nbP c2)));exact⟨y1,i+1,⟨by omega,y2⟩,by omega,by omega,(by repeat' (first|exact trivial|rfl|apply And.intro))⟩
  ·obtain⟨y1,y2⟩:=yes (yi.2 (.inl (nbP c)));exact⟨y1,i+1,⟨by omega,y2⟩,by omega,by omega,(by repeat' (first|exact trivial|rfl|apply And.intro))⟩
 have ei:i=m.exports.length:=by have:¬((i:Int)<(m.exports.length:Int)):=fun e=>h (Xd e);omega
 subst ei;rw[Ol]at i2;have hE:=MS hH kI kD i2;have e1:Lk m=m.name::m.imports.map (·.name):=rfl;have e2:MR m=l7++m.decls.map (·.name):=rfl;rw[e1,e2]at hE;refine⟨by rw[lk];omega,aa (fun c=>bad ?_) (fun c=>⟨by rw[lj];omega,aa (fun d=>bad ?_) (fun d=>⟨by omega,aa (fun e=>bad ?_) (fun e=>⟨trivial,Ar ?_,trivial⟩)⟩)⟩)⟩
 ·have c:decide (m.name::m.imports.map (·.name)).Nodup=false:=by simpa only[Oa]using c
  rw[hE,c,Oq,Oq]
 ·have d:decide (l7++m.decls.map (·.name)).Nodup=false:=by simpa only[Oa]using d
  rw[hE,d,P7,Oq]
 ·have e:decide m.exports.Nodup=false:=by simpa only[Oa]using e
  rw[hE,e,P7]
 ·have c:decide (m.name::m.imports.map (·.name)).Nodup=true:=by simpa only[Oa,PY]using c
  have d:decide (l7++m.decls.map (·.name)).Nodup=true:=by simpa only[Oa,PY]using d
  have e:decide m.exports.Nodup=true:=by simpa only[Oa,PY]using e
  rw[hE,c,d,e];rfl
theorem DU(l:List Depd)(N:Nat)(hl:Wf (.lst (.st .dep)) l)(hN:∀d∈l,∀x∈d.items,sz x.shape<=N) :
  let A:=(0:Int);let B:=(4000:Int);let C:=True;let D:=(↑(List.length l):Int);let E:=(20:Int);let F:=C/\false=iE l A A/\C;let G:=dfl (Ty.st SN.dep);let H:=l=l/\true=true/\false=false/\C;let I:=dfl (Ty.st SN.item);let J:=(800:Int);let K:=(1:Int);(∃(x:Nat×Int),let L:=(↑x.1:Int);(x.1<=List.length l/\A<=x.2/\x.2<=B/\iE (List.drop x.1 l) x.2 L=iE l A A)/\A=x.2/\A=L/\l=l/\C)/\∀(x:Nat×Int),let L:=(↑x.1:Int);let M:=Int.toNat L;let O:=List.getD l M G;let P:=A<=L/\L<D;let Q:=(↑(List.length O.items):Int);x.1<=List.length l/\A<=x.2/\x.2<=B/\iE (List.drop x.1 l) x.2 L=iE l A A->if decide (L<D)=true then if decide (E<=L)=true then F else(∃(x_1:Nat×Int),(x_1.1<=List.length O.items/\A<=x_1.2/\x_1.2<=B/\Dr l M x_1.1 x_1.2=iE l A A)/\x.2=x_1.2/\A=(↑x_1.1:Int)/\L=L/\H)/\∀(x_1:Nat×Int),let R:=(↑x_1.1:Int);let S:=List.getD O.items (Int.toNat R) I;let T:=E+sizeF S.shape J;x_1.1<=List.length O.items/\A<=x_1.2/\x_1.2<=B/\Dr l M x_1.1 x_1.2=iE l A A->P/\if decide (R<Q)=true then P/\(A<=R/\R<Q)/\(sz S.shape<=N/\A<=J/\J<=(1000000:Int))/\inR IntKind.i64 T/\inR IntKind.i64 (x_1.2+T)/\if decide (B<x_1.2+T)=true then F else inR IntKind.i64 (R+K)/\∃(y:Nat×Int),(y.1<=List.length O.items/\A<=y.2/\y.2<=B/\Dr l M y.1 y.2=iE l A A)/\List.length O.items-y.1<List.length O.items-x_1.1/\x_1.2+T=y.2/\R+K=(↑y.1:Int)/\L=L/\H else inR IntKind.i64 (L+K)/\∃(y:Nat×Int),let U:=(↑y.1:Int);(y.1<=List.length l/\A<=y.2/\y.2<=B/\iE (List.drop y.1 l) y.2 U=iE l A A)/\List.length l-y.1<List.length l-x.1/\x_1.2=y.2/\L+K=U/\l=l/\C else C/\true=iE l A A/\C:=by
 conv=>zeta
 have ln:=hl.len;simp only[Oi,Pw,OV,OK];refine⟨⟨(0,0),⟨Of _,by omega,by omega,rfl⟩,rfl,rfl⟩,?_⟩;rintro⟨i,n⟩ ⟨h1,h2,h3,h4⟩;simp only at h1 h2 h3 h4⊢;apply aa<;>intro hk
 ·replace hk:=Xo hk;have hk:i<l.length:=by omega
  rw[an l i (dfl (.st .dep)) hk,iE]at h4;apply aa<;>intro h20
  ·rw[O3 (Xo h20)]at h4;exact h4
  ·have h20:¬(20:Int)<=i:=fun z=>h20 (Xd z);rw[O0 h20]at h4;refine⟨⟨(0,n),⟨Of _,h2,h3,by simp only[Dr,Pe];exact h4⟩,rfl,rfl⟩,?_⟩;rintro⟨k,m⟩ ⟨g3,g4,g5,g6⟩;simp only at g3 g4 g5 g6⊢;have lk:=(hl.mem (getD_mem l i (dfl (.st .dep)) hk)).dep_items.len;refine⟨by omega,aa (fun c=>?_) (fun c=>?_)⟩
   ·replace c:=Xo c;have ck:k<(l.getD i (dfl (.st .dep))).items.length:=by omega
    have hm:=hN _ (getD_mem l i (dfl (.st .dep)) hk) _ (getD_mem _ k (dfl (.st .item)) ck);rw[Dr,an _ k (dfl (.st .item)) ck,rn]at g6;have hb:=sizeF_bd ((l.getD i (dfl (.st .dep))).items.getD k (dfl (.st .item))).shape 800 (by omega);refine⟨by omega,by omega,⟨hm,by omega,by omega⟩,aU (by omega) (by omega),aU (by omega) (by omega),aa (fun d=>?_) (fun d=>?_)⟩
    ·rw[O3 (Xo d)]at g6;exact g6
    ·have d':¬(4000:Int)<m+(20+sizeF ((l.getD i (dfl (.st .dep))).items.getD k (dfl (.st .item))).shape 800):=fun z=>d (Xd z);rw[O0 d']at g6;exact⟨aA ck lk,(k+1,_),⟨by simp only;omega,by simp only;omega,by simp only;omega,g6⟩,by simp only;omega,rfl,rfl⟩
   ·have e:k=(l.getD i (dfl (.st .dep))).items.length:=by have:¬((k:Int)<((l.getD i (dfl (.st .dep))).items.length:Int)):=fun e=>c (Xd e);omega
    rw[Dr,e,Ol,rn]at g6;exact⟨aA hk ln,(i+1,m),⟨by simp only;omega,g4,g5,g6⟩,by simp only;omega,rfl,rfl⟩
 ·replace hk:¬((i:Int)<(l.length:Int)):=fun e=>hk (Xd e);have e:i=l.length:=by omega
  subst e;rw[Ol,iE]at h4;exact h4
theorem Kc(a b:List AL.Item)(N:Nat)(ha:Wf (.lst (.st .item)) a)(hb:Wf (.lst (.st .item)) b)(hN:∀x∈a,sz x.shape<=N) :
  let A:=(↑(List.length a):Int);let B:=(↑(List.length b):Int);let C:=True/\false=kf a b/\True;let D:=List.length a=List.length b;let E:=(0:Int);let F:=a=a/\b=b/\false=false/\True;let G:=dfl (Ty.st SN.item);if(!decide (A=B))=true then C else(∃(x:Nat),(x<=List.length a/\D/\kf a b=kf (List.drop x a) (List.drop x b))/\E=(↑x:Int)/\F)/\∀(x:Nat),let H:=(↑x:Int);let I:=E<=H/\H<A;let J:=E<=H/\H<B;let K:=List.getD a (Int.toNat H) G;let L:=List.getD b (Int.toNat H) G;x<=List.length a/\D/\kf a b=kf (List.drop x a) (List.drop x b)->if decide (H<A)=true then I/\J/\if(!decide (K.kind=L.kind))=true then C else I/\J/\if(!decide (K.name=L.name))=true then C else I/\J/\sz K.shape<=N/\if(!eqS K.shape L.shape)=true then C else inR IntKind.i64 (H+(1:Int))/\∃(y:Nat),(y<=List.length a/\D/\kf a b=kf (List.drop y a) (List.drop y b))/\List.length a-y<List.length a-x/\H+(1:Int)=(↑y:Int)/\F else True/\true=kf a b/\True:=by
 conv=>zeta
 have ln:=ha.len;simp only[Oi,Pw,OV,OK];apply aa<;>intro h
 ·have:a.length≠b.length:=by intro e;rw[e]at h;simp at h
  rw[Ax this]
 have hl:a.length=b.length:=by simp at h;omega
 refine⟨⟨0,⟨Of _,hl,by simp⟩,rfl⟩,?_⟩;rintro k ⟨h1,_,h3⟩;apply aa<;>intro h
 ·replace h:=Xo h;have hk:k<a.length:=by omega
  have hk':k<b.length:=by omega
  rw[an a k (dfl (.st .item)) hk,an b k (dfl (.st .item)) hk',kf]at h3;refine⟨by omega,by omega,aa (fun c=>?_) (fun c=>⟨by omega,by omega,aa (fun d=>?_) (fun d=>⟨by omega,by omega,hN _ (getD_mem a k (dfl (.st .item)) hk),aa (fun f=>?_) (fun f=>?_)⟩)⟩)⟩
  ·rw[Oa]at c;rw[h3,c];rfl
  ·rw[Oa]at d;rw[h3,d];simp
  ·rw[Oa]at f;rw[h3,f];simp
  ·rw[Oa,PY]at c d f;rw[c,d,f]at h3;exact⟨aA hk ln,k+1,⟨by omega,hl,h3⟩,by omega,by omega⟩
 ·replace h:¬((k:Int)<(a.length:Int)):=fun e=>h (Xd e);have e:k=a.length:=by omega
  rw[h3,e,Ol,hl,Ol,kf]
theorem DV(se:Str)(ty va:List Bndg)(o n:Str)(x:Shape)(hl:va.length<=1000000) :
  let A:=[AL.Bndg.mk (o) (n) (AL.Shape.mk (x.kind) (x.pkg) (x.name) (x.names) (x.parts))];(List.length va=List.length va/\(List.length va+List.length A)*(120:Nat)<=(140737488355328:Nat))/\True/\se=se/\ty=ty/\va++A=va++[AL.Bndg.mk (o) (n) (x)]/\List.length ty=List.length ty/\List.length (va++A)=List.length va+(1:Nat)/\True:=by
 conv=>zeta
 have es:∀x:AL.Shape,AL.Shape.mk x.kind x.pkg x.name x.names x.parts=x:=fun x=>by cases x;rfl
 simp only[es,Oj,O8,ON,Pw,OV,OK];omega
theorem DW(e:Envt)(o n:Str)(x:Shape)(hl:e.values.length<=1000000) :
  let A:=[AL.Bndg.mk (o) (n) (AL.Shape.mk (x.kind) (x.pkg) (x.name) (x.names) (x.parts))];(List.length e.values=List.length e.values/\(List.length e.values+List.length A)*(120:Nat)<=(140737488355328:Nat))/\True/\e.self=e.self/\e.types=e.types/\e.values++A=e.values++[AL.Bndg.mk (o) (n) (x)]/\e.own=e.own/\List.length (e.values++A)=List.length e.values+(1:Nat)/\List.length e.own=List.length e.own/\True:=by
 conv=>zeta
 have es:∀x:AL.Shape,AL.Shape.mk x.kind x.pkg x.name x.names x.parts=x:=fun x=>by cases x;rfl
 simp only[es,Oj,O8,ON,Pw,OV,OK];omega
theorem M7(e:Envt)(n:Str)(x:Shape)(hl:e.own.length<=1000000) :
  let A:=[AL.Bndg.mk ([]) (n) (AL.Shape.mk (x.kind) (x.pkg) (x.name) (x.names) (x.parts))];(List.length e.own=List.length e.own/\(List.length e.own+List.length A)*(120:Nat)<=(140737488355328:Nat))/\True/\e.self=e.self/\e.types=e.types/\e.values=e.values/\e.own++A=e.own++[AL.Bndg.mk ([]) (n) (x)]/\List.length e.values=List.length e.values/\List.length (e.own++A)=List.length e.own+(1:Nat)/\True:=by
 conv=>zeta
 have es:∀x:AL.Shape,AL.Shape.mk x.kind x.pkg x.name x.names x.parts=x:=fun x=>by cases x;rfl
 simp only[es,Oj,O8,ON,Pw,OV,OK];omega
theorem DX(n:Nat)(s:Shape)(hs:Wf (.st .shape) s)(ho:sz s<=n+1/\allS nmU s=true) :
  let A:=(140737488355328:Nat);let B:=(0:Int);let C:=s.parts=s.parts;let D:=(↑(List.length s.parts):Int);let E:=s.kind=s.kind;let F:=s.name=s.name;let G:=s.names=s.names;let H:=gD UInt8=gD UInt8;let I:=E/\s.pkg=s.pkg/\F/\G/\C/\B=B/\H/\H/\True;let J:=dfl (Ty.st SN.shape);List.length s.names*(16:Nat)<=A/\(∃(x:Nat),x<=List.length s.parts/\List.take x s.parts=[]/\B=(↑x:Int)/\s=s/\C/\D=D/\List.length (List.take x s.parts)=(0:Nat)/\I)/\∀(x:Nat),let K:=(↑x:Int);let L:=List.getD s.parts (Int.toNat K) J;let M:=List.take x s.parts;x<=List.length s.parts->if decide (K<D)=true then(B<=K/\K<D)/\(sz (L)<=n/\allS nmU (L)=true)/\(List.length M=List.length M/\(List.length M+List.length [L])*(88:Nat)<=A)/\inR IntKind.i64 (K+(1:Int))/\∃(y:Nat),y<=List.length s.parts/\List.length s.parts-y<List.length s.parts-x/\List.take x s.parts++[L]=List.take y s.parts/\K+(1:Int)=(↑y:Int)/\s=s/\C/\D=D/\List.length (List.take x s.parts++[L])=List.length (List.take y s.parts)/\I else True/\E/\s.pkg=s.pkg/\F/\G/\List.take x s.parts=s.parts/\True:=by
 conv=>zeta
 have ln:=hs.parts.len;obtain⟨o1,o3⟩:=ho;have hz:=jh s;have hll:=mE s.parts;rw[allS_eq,NZ,allL_all,O9]at o3;have hn2:=o3.1;rw[nmU,NZ]at hn2;have hn:s.names.length<=1048576:=Xo hn2.1;have hp:s.parts.length<=1048576:=Xo hn2.2;simp only[Oi,Pw,OV,OK];refine⟨by omega,⟨0,Of _,rfl,rfl,rfl⟩,?_⟩;intro k h1;apply aa<;>intro h
 ·have h:=Xo h;have hk:k<s.parts.length:=by omega
  have hmm:=getD_mem s.parts k (dfl (.st .shape)) hk;have hm:=eZ hmm;have ht:=cD s.parts k (dfl (.st .shape)) hk;refine⟨by omega,⟨by omega,o3.2 _ hmm⟩,?_,aA hk ln,k+1,by omega,by omega,ht.symm,by omega,by rw[ht]⟩;rw[Pt,OI];omega
 ·have e:k=s.parts.length:=by have:¬((k:Int)<(s.parts.length:Int)):=fun e=>h (Xd e);omega
  rw[e,OY]
theorem Ho(o:Str)(l:List AL.Item)(N:Nat)(hl:Wf (.lst (.st .item)) l)(hN:∀x∈l,sz x.shape<=N)(ho:(l.length<=1048576/\∀x∈l,allS nmU x.shape=true)) :
  let A:=l=l;let B:=(↑(List.length l):Int);let C:=True;let D:=dfl (Ty.st SN.item);let E:=(1:Int);let F:=o;let G:=(140737488355328:Nat);let H:=((10:Int));(∃(x:Nat),let I:=List.take x l;x<=List.length l/\bc o I=[]/\(0:Int)=(↑x:Int)/\o=o/\A/\A/\B=B/\List.length (bc o I)=(0:Nat)/\C)/\∀(x:Nat),let I:=(↑x:Int);let J:=List.getD l (Int.toNat I) D;let K:=List.take x l;let L:=bc o K;let M:=List.length L=List.length L;let O:=J.name;let P:=[AL.Bndg.mk F O (AL.Shape.mk (J.shape.kind) (J.shape.pkg) (J.shape.name) (J.shape.names) (J.shape.parts))];let Q:=inR IntKind.i64 (I+E);let R:=[AL.Bndg.mk F O (AL.Shape.mk H F O ([]) ([]))];x<=List.length l->if decide (I<B)=true then((0:Int)<=I/\I<B)/\if decide (J.kind=E)=true then(sz J.shape<=N/\allS nmU J.shape=true)/\(M/\(List.length L+List.length P)*(120:Nat)<=G)/\Q/\∃(y:Nat),let S:=List.take y l;y<=List.length l/\List.length l-y<List.length l-x/\bc o K++P=bc o S/\I+E=(↑y:Int)/\o=o/\A/\A/\B=B/\List.length (bc o K++P)=List.length (bc o S)/\C else if decide (J.kind=(2:Int))=true then(M/\(List.length L+List.length R)*(120:Nat)<=G)/\Q/\∃(y:Nat),let S:=List.take y l;y<=List.length l/\List.length l-y<List.length l-x/\bc o K++R=bc o S/\I+E=(↑y:Int)/\o=o/\A/\A/\B=B/\List.length (bc o K++R)=List.length (bc o S)/\C else Q/\∃(y:Nat),let S:=List.take y l;y<=List.length l/\List.length l-y<List.length l-x/\bc o K=bc o S/\I+E=(↑y:Int)/\o=o/\A/\A/\B=B/\List.length L=List.length (bc o S)/\C else C/\bc o K=bc o l/\C:=by
 conv=>zeta
 have lc:=hl.len;obtain⟨o1,o2⟩:=ho;have es:∀x:AL.Shape,AL.Shape.mk x.kind x.pkg x.name x.names x.parts=x:=fun x=>by cases x;rfl
 simp only[Oi,Pw,OV,OK,es];refine⟨⟨0,Of _,rfl,rfl,rfl⟩,?_⟩;intro k h1;apply aa<;>intro h
 ·replace h:=Xo h;have hk:k<l.length:=by omega
  have hl':=kX o (l.take k);rw[Pt]at hl';have ht:=GP o l k (dfl (.st .item)) hk;have ho:=o2 _ (getD_mem l k (dfl (.st .item)) hk);have hN:=hN _ (getD_mem l k (dfl (.st .item)) hk);obtain⟨x,hx⟩:∃x,l.getD k (dfl (.st .item))=x:=⟨_,rfl⟩;simp only[hx]at ht ho hN⊢;refine⟨by omega,aa (fun e1=>?_) (fun e1=>?_)⟩
  ·have e1:=Xo e1;rw[O3 e1]at ht;exact⟨⟨hN,ho⟩,by rw[OI];omega,aA hk lc,k+1,by omega,by omega,ht.symm,by omega,by rw[ht]⟩
  ·have e1:¬x.kind=1:=fun e=>e1 (Xd e);rw[O0 e1]at ht;apply aa<;>intro e2
   ·have e2:=Xo e2;rw[O3 e2]at ht;exact⟨by rw[OI];omega,aA hk lc,k+1,by omega,by omega,ht.symm,by omega,by rw[ht];rfl⟩
   ·have e2:¬x.kind=2:=fun e=>e2 (Xd e);rw[O0 e2,P2]at ht;exact⟨aA hk lc,k+1,by omega,by omega,ht.symm,by omega,by rw[ht]⟩
 ·have e:k=l.length:=by have:¬((k:Int)<(l.length:Int)):=fun e=>h (Xd e);omega
  rw[e,OY]
theorem Bi(l:List Bndg)(se:Str)(d:Dcl)(hl:Wf (.lst (.st .bind)) l)(hd:Wf (.st .decl) d)(ho:l.length<=1000000/\(d.kind=1∨d.kind=2)/\(aN d.shape l).2=0) :
  let A:=(120:Nat);let B:=(140737488355328:Nat);let C:=True;let D:=aN d.shape l;let E:=[fU d.name (if d.kind=(2:Int)then eh se d.name else D.1)];let F:=(0:Int);let G:=F=F/\C;let H:=List.length l=List.length l;let I:=d.name;let J:=[AL.Bndg.mk ([]) I (AL.Shape.mk ((10:Int)) (se) I ([]) ([]))];let K:=[AL.Bndg.mk ([]) I (AL.Shape.mk (D.1.kind) (D.1.pkg) (D.1.name) (D.1.names) (D.1.parts))];let L:=if(!decide (D.2=F))=true then C/\l++E=[]/\D.2=F/\C else if decide (d.kind=(2:Int))=true then(H/\(List.length l+List.length J)*A<=B)/\C/\l++J=l++E/\G else(H/\(List.length l+List.length K)*A<=B)/\C/\l++K=l++E/\G;List.length l*A<=B/\if(!decide (d.kind=(1:Int)))=true then if(!decide (d.kind=(2:Int)))=true then C/\l=l++E/\G else L else L:=by
 conv=>zeta
 obtain⟨o1,o2,o3⟩:=ho;have es:∀x:AL.Shape,AL.Shape.mk x.kind x.pkg x.name x.names x.parts=x:=fun x=>by cases x;rfl
 have o4:¬(!decide ((aN d.shape l).2=0))=true:=by rw[o3];decide
 have fin:∀y,(if d.kind=2 then eh se d.name else(aN d.shape l).1)=y->(l.length=l.length/\(l.length+[AL.Bndg.mk [] d.name y].length) *120<=140737488355328)/\True/\l++[AL.Bndg.mk [] d.name y]=l++[fU d.name (if d.kind=2 then eh se d.name else(aN d.shape l).1)]/\(0:Int)=0/\True:=fun y e=>by rw[e,OI];exact⟨⟨rfl,by omega⟩,(by repeat' (first|exact trivial|rfl|apply And.intro))⟩
 have go:if(!decide ((aN d.shape l).2=0))=true then True/\l++[fU d.name (if d.kind=2 then eh se d.name else(aN d.shape l).1)]=[]/\(aN d.shape l).2=0/\True else if decide (d.kind=2)=true then(l.length=l.length/\(l.length+[AL.Bndg.mk [] d.name (AL.Shape.mk 10 se d.name [] [])].length) *120<=140737488355328)/\True/\l++[AL.Bndg.mk [] d.name (AL.Shape.mk 10 se d.name [] [])]=l++[fU d.name (if d.kind=2 then eh se d.name else(aN d.shape l).1)]/\(0:Int)=0/\True else(l.length=l.length/\(l.length+[AL.Bndg.mk [] d.name (aN d.shape l).1].length) *120<=140737488355328)/\True/\l++[AL.Bndg.mk [] d.name (aN d.shape l).1]=l++[fU d.name (if d.kind=2 then eh se d.name else(aN d.shape l).1)]/\(0:Int)=0/\True:=by
  rw[O0 o4];refine aa (fun h=>fin _ ?_) (fun h=>fin _ ?_)
  ·rw[O3 (Xo h)];rfl
  ·rw[O0 (fun e=>h (Xd e))]
 simp only[es,Pw,OV,OK]at fin go⊢;refine⟨by omega,aa (fun h=>aa (fun h2=>?_) (fun _=>go)) (fun _=>go)⟩;have h:¬d.kind=1:=by simpa using h
 have h2:¬d.kind=2:=by simpa using h2
 exact absurd o2 (by omega)
theorem yt(c:Cst)(d:Dcl)(r:DcC)(hd:Wf (.st .decl) d)(ho:((d.kind=1∨d.kind=2∨d.kind=3)/\(d.kind=3->cd d.term=true)/\c.e.types.length<=1000000/\c.e.values.length<=1000000/\c.e.own.length<=1000000))(hr:kW d c=r) :
  let A:=(1000000:Nat);let B:=List.length c.e.values<=A;let C:=fI d.term c.e;let D:=(0:Int);let E:=True;let F:=C.2.err=r.f.err;let G:=C.2.pos=r.f.pos;let H:=c.e.self=r.c.e.self;let I:=c.e.types=r.c.e.types;let J:=c.e.values=r.c.e.values;let K:=c.e.own=r.c.e.own;let L:=List.length c.e.values=List.length r.c.e.values;let M:=List.length c.e.own=List.length r.c.e.own;let N:=H/\I/\J/\K/\L/\M/\c.m=r.c.m/\E;let O:=List.length c.e.values=List.length c.e.values/\List.length c.e.own=List.length c.e.own;let P:=aN d.shape c.e.types;let Q:=c.e.types++[fU d.name (if d.kind=(2:Int)then eh c.e.self d.name else P.1)]=r.c.e.types;if decide (d.kind=(3:Int))=true then(cd d.term=true/\B)/\if(!decide (C.2.err=D))=true then E/\F/\G/\N else(O/\B)/\E/\F/\G/\H/\I/\c.e.values++[AL.Bndg.mk ([]) (d.name) (C.1)]=r.c.e.values/\K/\List.length c.e.values+(1:Nat)=List.length r.c.e.values/\M/\bP c.m d.name {kind:=d.kind,name:=d.name,shape:=AL.Shape.mk (C.1.kind) (C.1.pkg) (C.1.name) (C.1.names) (C.1.parts):AL.Item}=r.c.m/\E else if(!decide (P.2=D))=true then E/\P.2=r.f.err/\d.pos=r.f.pos/\N else(List.length c.e.types<=A/\(d.kind=(1:Int)∨d.kind=(2:Int))/\P.2=D)/\if decide (d.kind=(2:Int))=true then(O/\List.length c.e.own<=A)/\E/\D=r.f.err/\D=r.f.pos/\H/\Q/\J/\c.e.own++[AL.Bndg.mk ([]) (d.name) (P.1)]=r.c.e.own/\L/\List.length c.e.own+(1:Nat)=List.length r.c.e.own/\bP c.m d.name {kind:=d.kind,name:=d.name,shape:=AL.Shape.mk (D) ([]) ([]) ([]) ([]):AL.Item}=r.c.m/\E else E/\D=r.f.err/\D=r.f.pos/\H/\Q/\J/\K/\L/\M/\bP c.m d.name {kind:=d.kind,name:=d.name,shape:=AL.Shape.mk (P.1.kind) (P.1.pkg) (P.1.name) (P.1.names) (P.1.parts):AL.Item}=r.c.m/\E:=by
 conv=>zeta
 obtain⟨o1,o2,o3,o4,o5⟩:=ho;subst hr;have es:∀x:AL.Shape,AL.Shape.mk x.kind x.pkg x.name x.names x.parts=x:=fun x=>by cases x;rfl
 simp only[es,Pw,OV,OK];unfold kW;apply aa<;>intro h
 ·have h:=Xo h;rw[O3 h];unfold JC;refine⟨⟨o2 h,o4⟩,aa (fun g=>?_) (fun g=>?_)⟩
  ·have g:¬(fI d.term c.e).2.err=0:=by simpa using g
   rw[O0 g];exact(by repeat' (first|exact trivial|rfl|apply And.intro))
  ·have g:(fI d.term c.e).2.err=0:=by simpa using g
   rw[O3 g];refine⟨o4,?_⟩;rw[h];simp only[cb,Oj,OI];exact(by repeat' (first|exact trivial|rfl|apply And.intro))
 ·have h:¬d.kind=3:=fun e=>h (Xd e);rw[O0 h];unfold JD;have o1:d.kind=1∨d.kind=2:=by omega
  apply aa<;>intro g
  ·have g:¬(aN d.shape c.e.types).2=0:=by simpa using g
   rw[O0 g];exact(by repeat' (first|exact trivial|rfl|apply And.intro))
  ·have g:(aN d.shape c.e.types).2=0:=by simpa using g
   rw[O3 g];refine⟨⟨o3,o1,g⟩,aa (fun k=>?_) (fun k=>?_)⟩
   ·have k:=Xo k;rw[O3 k];simp only[O3 k];refine⟨o5,?_⟩;rw[k];simp only[Oj,OI];exact(by repeat' (first|exact trivial|rfl|apply And.intro))
   ·have k:¬d.kind=2:=fun e=>k (Xd e);rw[O0 k];simp only[O0 k];exact(by repeat' (first|exact trivial|rfl|apply And.intro))
theorem Kd(l:List AL.Item)  :
  True/\l=l/\True:=by
 repeat' (first|exact trivial|rfl|apply And.intro)
end Go.AL.Seat
end
