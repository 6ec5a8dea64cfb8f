/- Plain facts. What the functions' conditions say, proved. No condition. -/
import Derived.Test.YtlhofbjllomgiaaGreatDoorT05
import Derived.Deep.RegionHeld3
import Derived.Handy
import Derived.Lib.ItoaNum
import Derived.Shelf.SlSortCmp.QuietGrown
import Derived.Sort.Walk0
set_option linter.all false
set_option maxRecDepth 100000
noncomputable section
namespace Go.Pd
open Go Go.AL
def fx:List Depd->List Depd
 |[]=>[]
 |d::r=>if d.name∈r.map (·.name)then fx r else d::fx r
theorem mS:∀(l:List Depd),∀d∈fx l,d∈l
 |x::r,d,h=>by
  rw[fx]at h;split at h
  ·exact NP _ (mS r d h)
  ·rcases NG.1 h with rfl|h
   ·exact O7 ..
   ·exact NP _ (mS r d h)
theorem mr:∀l:List Depd,((fx l).map (·.name)).Nodup
 |[]=>List.nodup_nil
 |d::r=>by
  rw[fx];split
  ·exact mr r
  ·rename_i h;rw[O2,Pz];refine⟨fun q=>h ?_,mr r⟩;obtain⟨x,hx,e⟩:=O0.1 q;exact O0.2 ⟨x,mS r x hx,e⟩
theorem ko:∀{l:List Depd} {n:Str},n∉l.map (·.name)->eI l n=none
 |[],_,_=>rfl
 |d::r,n,h=>by rw[O2,NG,QP]at h;rw[eI,ko h.2,Ny (fun e=>h.1 e.symm)]
theorem qg:∀{l:List Depd} {n:Str},n∈l.map (·.name)->∃d,eI l n=some d
 |d::r,n,h=>by
  rw[eI];by_cases q:n∈r.map (·.name)
  ·obtain⟨x,hx⟩:=qg q;exact⟨x,by rw[hx]⟩
  ·rw[ko q];rw[O2,NG]at h;exact⟨d,NC (h.resolve_right q).symm⟩
theorem mu:∀{l:List Depd} {n:Str} {d:Depd},eI l n=some d->d∈l/\d.name=n
 |x::r,n,d,h=>by
  rw[eI]at h;split at h
  ·rename_i y hy;cases h;have:=mu hy;exact⟨NP _ this.1,this.2⟩
  ·split at h
   ·cases h;exact⟨O7 ..,by assumption⟩
   ·cases h
theorem oh:∀(l:List Depd)(n:Str),eI (fx l) n=eI l n
 |[],_=>rfl
 |d::r,n=>by
  rw[fx];split
  ·rename_i h;rw[oh r n,eI]
   cases q:eI r n with
   |some x=>rfl
   |none=>
    by_cases e:d.name=n
    ·obtain⟨x,hx⟩:=qg h;rw[e]at hx;rw[hx]at q;cases q
    ·simp only;rw[Ny e]
  ·rw[eI,eI,oh r n]
theorem Gw{l:List Depd}(h:(l.map (·.name)).Nodup){d:Depd}(hd:d∈l):eI l d.name=some d:=by
 induction l with
 |nil=>cases hd
 |cons x r ih=>
  rw[O2,Pz]at h;rw[eI];rcases NG.1 hd with rfl|hd
  ·rw[ko h.1];exact NC rfl
  ·rw[ih h.2 hd]
theorem Gx{l m:List Depd}(h:(l.map (·.name)).Nodup)(p:l.Perm m)(n:Str):eI m n=eI l n:=by
 have hm:(m.map (·.name)).Nodup:=(p.map _).nodup_iff.1 h;by_cases q:n∈l.map (·.name)
 ·obtain⟨d,hd⟩:=qg q;obtain⟨h1,rfl⟩:=mu hd;rw[hd,Gw hm (p.mem_iff.1 h1)]
 ·rw[ko q,ko (fun z=>q ((p.map _).mem_iff.2 z))]
def nob:Depd:=⟨[110,111,98,111,100,121],[]⟩
def kq(l:List Depd):List Depd:=nob::(fx l).reverse
theorem Gy{l:List Depd}{n:Str}{d:Depd}(h:eI l n=some d):eI (kq l) n=some d:=by unfold kq;rw[eI,Gx (mr l) (Q8 _).symm,oh,h]
def tyI(ds:List Depd)(i:Impt):List Bndg:=match eI ds i.name with|some d=>bc d.name d.items|none=>[]
def vaI(ds:List Depd)(i:Impt):List Bndg:=match eI ds i.name with|some d=>dh d.name d.items|none=>[]
theorem uo(ds:List Depd):∀(l:List Impt)(e:Envt),(dG ds l e).f.err=0->(∀i∈l,(eI ds i.name).isSome=true)/\dG ds l e=⟨cu,⟨e.self,e.types++l.flatMap (tyI ds),e.values++l.flatMap (vaI ds),e.own⟩⟩
 |[],e,_=>⟨fun i h=>(by cases h),by simp only[dG,List.flatMap_nil,OL]⟩
 |i::r,e,h=>by
  simp only[dG]at h⊢
  cases q:eI ds i.name with
  |none=>rw[q]at h;exact absurd h (by show ¬(282:Int)=0;decide)
  |some d=>
   rw[q]at h;simp only at h⊢;obtain⟨h1,h2⟩:=uo ds r _ h;refine⟨fun x hx=>?_,?_⟩
   ·rcases NG.1 hx with rfl|hx
    ·rw[q];rfl
    ·exact h1 x hx
   ·rw[h2];have t1:tyI ds i=bc d.name d.items:=by unfold tyI;rw[q]
    have t2:vaI ds i=dh d.name d.items:=by unfold vaI;rw[q]
    rw[Pc,Pc,t1,t2,<-O9,<-O9];rfl
theorem F3(ds:List Depd):∀(l:List Impt)(e:Envt),(∀i∈l,(eI ds i.name).isSome=true)->(dG ds l e).f=cu
 |[],e,_=>rfl
 |i::r,e,h=>by
  simp only[dG]
  cases q:eI ds i.name with
  |none=>have:=h i (O7 ..);rw[q]at this;cases this
  |some d=>exact F3 ds r _ fun x hx=>h x (NP _ hx)
theorem mT(o:Str):∀(l:List AL.Item),∀b∈bc o l,b.pkg=o
 |x::r,b,h=>by
  rw[bc]at h;split at h
  ·rcases NG.1 h with rfl|h
   ·rfl
   ·exact mT o r b h
  ·split at h
   ·rcases NG.1 h with rfl|h
    ·rfl
    ·exact mT o r b h
   ·exact mT o r b h
theorem uq(o:Str):∀(l:List AL.Item),∀b∈dh o l,b.pkg=o
 |x::r,b,h=>by
  rw[dh]at h;split at h
  ·rcases NG.1 h with rfl|h
   ·rfl
   ·exact uq o r b h
  ·exact uq o r b h
theorem Jj(ds:List Depd)(i:Impt):∀b∈tyI ds i,b.pkg=i.name:=fun b h=>by
 unfold tyI at h;split at h
 ·rename_i d q;rw[mT _ _ b h];exact(mu q).2
 ·cases h
theorem Jk(ds:List Depd)(i:Impt):∀b∈vaI ds i,b.pkg=i.name:=fun b h=>by
 unfold vaI at h;split at h
 ·rename_i d q;rw[uq _ _ b h];exact(mu q).2
 ·cases h
theorem mU{o n:Str}:∀{l:List Bndg},(∀b∈l,b.pkg≠o)->aC l o n=none
 |[],_=>rfl
 |b::r,h=>by rw[aC,mU fun x hx=>h x (NP _ hx)];exact Ny fun q=>h b (O7 ..) q.1
theorem oq{g:Impt->List Bndg}(hg:∀i,∀b∈g i,b.pkg=i.name){o n:Str}:∀{l:List Impt},(l.map (·.name)).Nodup->∀i∈l,i.name=o->aC (l.flatMap g) o n=aC (g i) o n
 |x::r,hn,i,hi,e=>by
  rw[O2,Pz]at hn;rw[Pc,fk];have out:∀y∈r,y.name≠x.name:=fun y hy q=>hn.1 (O0.2 ⟨y,hy,q⟩);rcases NG.1 hi with rfl|hi
  ·rw[mU (l:=r.flatMap g) fun b hb=>by
    obtain⟨y,hy,hb⟩:=OS.1 hb;rw[hg y b hb,<-e];exact out y hy]
  ·rw[oq hg hn.2 i hi e];have:aC (g x) o n=none:=mU fun b hb=>by rw[hg x b hb,<-e];exact fun q=>out i hi q.symm
   rw[this];cases aC (g i) o n<;>rfl
theorem AB{g:Impt->List Bndg}(hg:∀i,∀b∈g i,b.pkg=i.name){o n:Str}{l:List Impt}(h:∀i∈l,i.name≠o):aC (l.flatMap g) o n=none:=
 mU fun b hb=>by obtain⟨y,hy,hb⟩:=OS.1 hb;rw[hg y b hb];exact h y hy
theorem AD{g h:Impt->List Bndg}(hg:∀i,∀b∈g i,b.pkg=i.name)(hh:∀i,∀b∈h i,b.pkg=i.name){l m:List Impt}(p:l.Perm m)(hn:(l.map (·.name)).Nodup)(hgh:∀i∈l,g i=h i)(a:List Bndg)(o n:Str) :
  aC (a++l.flatMap g) o n=aC (a++m.flatMap h) o n:=by
 rw[fk,fk];have hm:(m.map (·.name)).Nodup:=(p.map _).nodup_iff.1 hn
 have:aC (l.flatMap g) o n=aC (m.flatMap h) o n:=by
  by_cases q:∃i∈l,i.name=o
  ·obtain⟨i,hi,e⟩:=q;rw[oq hg hn i hi e,oq hh hm i (p.mem_iff.1 hi) e,hgh i hi]
  ·rw[AB hg fun i hi e=>q ⟨i,hi,e⟩,AB hh fun i hi e=>q ⟨i,p.mem_iff.2 hi,e⟩]
 rw[this]
def vo(m:Modu):Modu:=⟨m.name,m.imports.reverse,m.decls,m.exports.reverse,m.pos⟩
theorem Gz(m:Modu):cH (vo m)=cH m:=by
 have e:okM (vo m)=okM m:=by
  unfold okM qR vo;have n1:decide (D1 ⟨m.name,m.imports.reverse,m.decls,m.exports.reverse,m.pos⟩).Nodup=decide (D1 m).Nodup:=by refine Ow.2 ?_;unfold D1;simp only[List.map_reverse,Pz,QG];exact and_congr Iff.rfl (Q8 _).nodup_iff
  have n2:decide (m.exports.reverse).Nodup=decide m.exports.Nodup:=Ow.2 (Q8 _).nodup_iff;have n3:IX ⟨m.name,m.imports.reverse,m.decls,m.exports.reverse,m.pos⟩=IX m:=rfl;simp only[n1,n2,n3,PF,List.all_reverse]
 unfold cH;rw[e]
theorem ur{m:Modu}(h:cH m=0):(m.imports.map (·.name)).Nodup/\m.exports.Nodup:=by
 have ok:okM m=true:=by
  unfold cH at h;split at h
  ·assumption
  ·cases h
 unfold okM at ok;simp only[Nx,NA]at ok;obtain⟨_,_,_,_,⟨h1,_⟩,h2⟩:=ok;unfold D1 at h1;exact⟨(Pz.1 h1).2,h2⟩
theorem Ld{m:Modu}{ds:List Depd}{e:Envt}(hn:(m.imports.map (·.name)).Nodup)(h:(dG ds m.imports e).f.err=0) :
  (dG (kq ds) m.imports.reverse e).f=cu/\Eqv (dG ds m.imports e).e (dG (kq ds) m.imports.reverse e).e:=by
 obtain⟨h1,h2⟩:=uo ds _ _ h;have tr:∀i∈m.imports,eI (kq ds) i.name=eI ds i.name:=fun i hi=>by obtain⟨d,hd⟩:=Qm.1 (h1 i hi);rw[hd,Gy hd]
 have k1:=F3 (kq ds) m.imports.reverse e fun i hi=>by have hi:=QG.1 hi;rw[tr i hi];exact h1 i hi
 obtain⟨_,k2⟩:=uo (kq ds) m.imports.reverse e (by rw[k1];rfl);refine⟨k1,?_⟩;rw[h2,k2];have pr:m.imports.Perm m.imports.reverse:=(Q8 _).symm;exact⟨rfl,rfl,AD (Jj ds) (Jj (kq ds)) pr hn (fun i hi=>by unfold tyI;rw[tr i hi]) _,AD (Jk ds) (Jk (kq ds)) pr hn (fun i hi=>by unfold vaI;rw[tr i hi]) _⟩
end Go.Pd
end
noncomputable section
namespace Go.Pd
open Go Go.AL
def Its(m:List (Str×AL.Item)):Prop:=∀x∈m,x.2.name=x.1
theorem yg{m:List (Str×AL.Item)}(h:Its m)(n:Str)(x:AL.Item)(hx:x.name=n):Its (cR (K:=Str) m n x):=by
 induction m with
 |nil=>intro y hy;rw[cR,O8]at hy;subst hy;exact hx
 |cons a r ih=>
  intro y hy;rw[cR]at hy;split at hy
  ·rcases NG.1 hy with rfl|hy
   ·exact hx
   ·exact h y (NP _ hy)
  ·rcases NG.1 hy with rfl|hy
   ·exact h _ (O7 ..)
   ·exact ih (fun z hz=>h z (NP _ hz)) y hy
theorem F4{V:Type}{m:List (Str×V)}{n:Str}{x:V}(q:cm (K:=Str) m n=some x):(n,x)∈m:=by
 induction m with
 |nil=>cases q
 |cons a r ih=>
  rw[cm]at q;split at q
  ·rename_i e;cases q;rw[e];exact O7 ..
  ·exact NP _ (ih q)
theorem F5{m:List (Str×AL.Item)}(h:Its m){n:Str}{x:AL.Item}(q:cm (K:=Str) m n=some x):x.name=n:=h _ (F4 q)
theorem F6(d:Dcl){c:Cst}(h:Its c.m):Its (jN d c).c.m:=by
 unfold jN Gs Gt;split
 ·split
  ·exact yg h _ _ rfl
  ·exact h
 ·split
  ·split
   ·exact yg h _ _ rfl
   ·exact yg h _ _ rfl
  ·exact h
theorem uu:∀(l:List Dcl) {c:Cst},Its c.m->Its (di l c).c.m
 |[],c,h=>h
 |d::r,c,h=>by
  simp only[di];split
  ·exact uu r (F6 d h)
  ·exact F6 d h
def qh(m:List (Str×AL.Item))(n:Str):AL.Item:=(cm (K:=Str) m n).getD default
theorem F7(a:Int)(m:List (Str×AL.Item)):∀(l:List Str)(out:List AL.Item),(jq a m l out).f.err=0->(∀n∈l,(cm (K:=Str) m n).isSome=true)/\jq a m l out=⟨cu,out++l.map (qh m)⟩
 |[],out,_=>⟨fun n h=>(by cases h),by simp only[jq,Qt,OL]⟩
 |n::r,out,h=>by
  simp only[jq]at h⊢
  cases q:cm (K:=Str) m n with
  |none=>rw[q]at h;exact absurd h (by show ¬(150:Int)=0;decide)
  |some x=>
   rw[q]at h;simp only at h⊢;obtain⟨h1,h2⟩:=F7 a m r _ h;refine⟨fun y hy=>?_,?_⟩
   ·rcases NG.1 hy with rfl|hy
    ·rw[q];rfl
    ·exact h1 y hy
   ·have g:qh m n=x:=by unfold qh;rw[q];rfl
    rw[h2,O2,g,O9];rfl
theorem Jl(a:Int)(m:List (Str×AL.Item)):∀(l:List Str)(out:List AL.Item),(∀n∈l,(cm (K:=Str) m n).isSome=true)->jq a m l out=⟨cu,out++l.map (qh m)⟩
 |[],out,_=>by simp only[jq,Qt,OL]
 |n::r,out,h=>by
  simp only[jq]
  cases q:cm (K:=Str) m n with
  |none=>have:=h n (O7 ..);rw[q]at this;cases this
  |some x=>
   have g:qh m n=x:=by unfold qh;rw[q];rfl
   simp only;rw[Jl a m r _ fun y hy=>h y (NP _ hy),O2,g,O9];rfl
theorem GA{m:List (Str×AL.Item)}(hm:Its m){l:List Str}(h:∀n∈l,(cm (K:=Str) m n).isSome=true):(l.map (qh m)).map (·.name)=l:=by
 rw[QT];conv=>rhs;rw[<-List.map_id l]
 refine PB fun n hn=>?_;obtain⟨x,hx⟩:=Qm.1 (h n hn);show(qh m n).name=n;unfold qh;rw[hx];exact F5 hm hx
theorem Dm{l k:List AL.Item}(hn:(l.map (·.name)).Nodup)(p:k.Perm l):jG k=jG l:=by have h1:jG k=l9 (fun x:AL.Item=>x.name) k:=rfl;rw[h1];refine(wy (key:=fun x:AL.Item=>x.name) ((p.map _).nodup_iff.2 hn) ((PE l _).trans p.symm) ?_).symm;have:=Pn (le:=fun a b:AL.Item=>decide (a.name<=b.name)) (fun a b c h1 h2=>by simp only[NA]at *;exact Qk h1 h2) (fun a b=>by simp only[Oa,NA];exact Ql _ _) l;exact this.imp fun h=>by simpa using h
theorem Jm{l:List AL.Item}(hn:(l.map (·.name)).Nodup):(jG l).Pairwise fun a b=>a.name<b.name:=by
 have h1:=Pn (le:=fun a b:AL.Item=>decide (a.name<=b.name)) (fun a b c h1 h2=>by simp only[NA]at *;exact Qk h1 h2) (fun a b=>by simp only[Oa,NA];exact Ql _ _) l;have h2:((jG l).map (·.name)).Nodup:=((PE l _).map _).nodup_iff.2 hn;rw[P8,Pe]at h2;refine(List.pairwise_and_iff.2 ⟨h1,h2⟩).imp fun{a b} h=>?_;have h3:a.name<=b.name:=by simpa using h.1
 exact PO fun q=>h.2 (QE h3 (List.not_lt.1 q))
def clD(ds:List Depd):Prop:=∀d∈ds,∀x∈d.items,x.kind≠2->bS x.shape=true
def clB(l:List Bndg):Prop:=∀b∈l,allS eH b.shape=true
structure ClC(c:Cst):Prop where
 types:clB c.e.types
 vals:clB c.e.values
 own:clB c.e.own
 items:∀x∈c.m,x.2.kind≠2->bS x.2.shape=true
theorem mV{l r:List Bndg}(h:clB l)(k:clB r):clB (l++r):=fun b hb=>(Oi.1 hb).elim (h b) (k b)
theorem rV{b:Bndg}(h:allS eH b.shape=true):clB [b]:=fun x hx=>by rw[O8.1 hx];exact h
theorem iH{s:Shape}(h:bS s=true):allS eH s=true:=(jF.1 h).2
theorem r6(o m:Str):allS eH (dN o m)=true:=lg (by decide) (fun x hx=>by cases hx)
theorem AE{d:Depd}(h:∀x∈d.items,x.kind≠2->bS x.shape=true)(o:Str):∀(l:List AL.Item),(∀x∈l,x∈d.items)->clB (bc o l)
 |[],_=>fun b hb=>by cases hb
 |x::r,hs=>by
  have hr:=AE h o r fun y hy=>hs y (NP _ hy);rw[bc];split
  ·rename_i k;intro b hb;rcases NG.1 hb with rfl|hb
   ·exact iH (h x (hs x (O7 ..)) (by omega))
   ·exact hr b hb
  ·split
   ·intro b hb;rcases NG.1 hb with rfl|hb
    ·exact r6 _ _
    ·exact hr b hb
   ·exact hr
theorem F8{d:Depd}(h:∀x∈d.items,x.kind≠2->bS x.shape=true)(o:Str):∀(l:List AL.Item),(∀x∈l,x∈d.items)->clB (dh o l)
 |[],_=>fun b hb=>by cases hb
 |x::r,hs=>by
  have hr:=F8 h o r fun y hy=>hs y (NP _ hy);rw[dh];split
  ·rename_i k;intro b hb;rcases NG.1 hb with rfl|hb
   ·exact iH (h x (hs x (O7 ..)) (by omega))
   ·exact hr b hb
  ·exact hr
theorem Jn{ds:List Depd}(h:clD ds):∀(l:List Impt)(e:Envt),clB e.types->clB e.values->clB (dG ds l e).e.types/\clB (dG ds l e).e.values/\(dG ds l e).e.own=e.own
 |[],e,h1,h2=>⟨h1,h2,rfl⟩
 |i::r,e,h1,h2=>by
  simp only[dG]
  cases q:eI ds i.name with|none=>exact⟨h1,h2,rfl⟩|some d=>have hd:=h d (mu q).1;exact Jn h r (MF d e) (mV h1 (AE hd _ _ fun _ hx=>hx)) (mV h2 (F8 hd _ _ fun _ hx=>hx))
theorem Dn{m:List (Str×AL.Item)}(h:∀x∈m,x.2.kind≠2->bS x.2.shape=true)(n:Str)(x:AL.Item)(hx:x.kind≠2->bS x.shape=true):∀y∈cR (K:=Str) m n x,y.2.kind≠2->bS y.2.shape=true:=by
 induction m with
 |nil=>intro y hy;rw[cR,O8]at hy;subst hy;exact hx
 |cons a r ih=>
  intro y hy;rw[cR]at hy;split at hy
  ·rcases NG.1 hy with rfl|hy
   ·exact hx
   ·exact h y (NP _ hy)
  ·rcases NG.1 hy with rfl|hy
   ·exact h _ (O7 ..)
   ·exact ih (fun z hz=>h z (NP _ hz)) y hy
theorem Jo{t:Trm}{e:Envt}(h1:clB e.types)(h2:clB e.values)(h3:clB e.own)(h:(eG t e).2.err=0):bS (eG t e).1=true:=by
 unfold eG at h⊢;by_cases c:dx t=0
 ·rw[NC c]at h⊢;have hp:0<szT t:=jE t;exact jF.2 ⟨(Dl hp h).1,pk _ t e ⟨h1,h2,h3⟩ h⟩
 ·rw[Ny c]at h;exact absurd h c
theorem Jp(d:Dcl){c:Cst}(h:ClC c):ClC (jN d c).c:=by
 unfold jN Gs Gt;split
 ·split
  ·rename_i k e;have cl:=Jo h.types h.vals h.own e;exact⟨h.types,mV h.vals (rV (iH cl)),h.own,Dn h.items _ _ fun _=>cl⟩
  ·exact h
 ·split
  ·rename_i k e;have cl:=mq h.types e;split
   ·exact⟨mV h.types (rV (r6 _ _)),h.vals,mV h.own (rV (iH cl)),Dn h.items _ _ fun q=>absurd rfl q⟩
   ·exact⟨mV h.types (rV (iH cl)),h.vals,h.own,Dn h.items _ _ fun _=>cl⟩
  ·exact h
theorem F9:∀(l:List Dcl) {c:Cst},ClC c->ClC (di l c).c
 |[],c,h=>h
 |d::r,c,h=>by
  simp only[di];split
  ·exact F9 r (Jp d h)
  ·exact Jp d h
theorem Jq{base:List Bndg}{m:Modu}{ds:List Depd}(h:¬(fN base m ds).f.err=0):(fN base m ds).l=[]:=by
 unfold fN Ji Gu at h⊢;split
 ·rename_i c;rw[NC c]at h;split
  ·rename_i c2;rw[NC c2]at h;split
   ·rename_i c3;rw[NC c3]at h;split
    ·rename_i c4;rw[NC c4]at h;exact absurd rfl h
    ·rfl
   ·rfl
  ·rfl
 ·rfl
theorem Jr{base:List Bndg}{m:Modu}{ds:List Depd}(h:(fN base m ds).f.err=0) :
  fN base (vo m) (kq ds)=⟨cu,(fN base m ds).l⟩/\((fN base m ds).l.Pairwise fun a b=>a.name<b.name)/\(clD ds->clB base->∀x∈(fN base m ds).l,x.kind≠2->bS x.shape=true):=by
 have hc:cH m=0:=PO fun c=>by unfold fN at h;rw[Ny c]at h;exact c h
 unfold fN at h⊢;rw[NC hc]at h⊢;rw[Gz,NC hc];unfold Ji at h⊢;by_cases ci:(dG ds m.imports (lv base m.name)).f.err=0
 case neg=>rw[Ny ci]at h;exact absurd h ci
 rw[NC ci]at h⊢;obtain⟨n1,n2⟩:=ur hc;obtain⟨k1,k2⟩:=Ld n1 ci;have e0:(vo m).name=m.name:=rfl;have e1:(vo m).imports=m.imports.reverse:=rfl;have e2:(vo m).decls=m.decls:=rfl;have e3:(vo m).exports=m.exports.reverse:=rfl;have e4:(vo m).pos=m.pos:=rfl;rw[e0,e1,e2,e3,e4,k1,NC (show cu.err=0 from rfl)];obtain⟨d1,d2⟩:=AA m.decls (c:=⟨(dG ds m.imports (lv base m.name)).e,[]⟩) (b:=⟨(dG (kq ds) m.imports.reverse (lv base m.name)).e,[]⟩) k2 rfl;rw[<-d1,<-d2];by_cases cd:(di m.decls ⟨(dG ds m.imports (lv base m.name)).e,[]⟩).f.err=0
 case neg=>rw[Ny cd]at h;exact absurd h cd
 rw[NC cd]at h⊢;rw[NC cd];have its:Its (di m.decls ⟨(dG ds m.imports (lv base m.name)).e,[]⟩).c.m:=uu _ (fun x hx=>by cases hx);have hcl:clD ds->clB base->∀x∈(di m.decls ⟨(dG ds m.imports (lv base m.name)).e,[]⟩).c.m,x.2.kind≠2->bS x.2.shape=true:=fun hd hb=>by obtain⟨t1,t2,t3⟩:=Jn hd m.imports (lv base m.name) (fun b hb=>by cases hb) hb;exact(F9 m.decls (c:=⟨(dG ds m.imports (lv base m.name)).e,[]⟩) ⟨t1,t2,(show clB (dG ds m.imports (lv base m.name)).e.own by rw[t3];exact fun b hb=>(by cases hb)),fun x hx=>(by cases hx)⟩).items
 generalize (di m.decls ⟨(dG ds m.imports (lv base m.name)).e,[]⟩).c.m=its' at *
 by_cases ce:(jq m.pos its' m.exports []).f.err=0
 case neg=>
  unfold Gu at h;rw[Ny ce]at h;exact absurd h ce
 obtain⟨x1,x2⟩:=F7 _ _ _ _ ce;rw[OW]at x2;have y2:=Jl m.pos its' m.exports.reverse [] fun n hn=>x1 n (QG.1 hn);rw[OW]at y2;rw[x2,y2];have nm:=GA its x1;have nd:((m.exports.map (qh its')).map (·.name)).Nodup:=by rw[nm];exact n2
 have en:∀l,Gu ⟨cu,l⟩=⟨cu,jG l⟩:=fun l=>NC rfl;rw[en,en,List.map_reverse,Dm nd (Q8 _)];refine⟨rfl,Jm nd,fun hd hb x hx=>?_⟩;have hx:x∈jG (m.exports.map (qh its')):=hx;rw[jG,Qp]at hx;obtain⟨n,hn,rfl⟩:=O0.1 hx;obtain⟨z,hz⟩:=Qm.1 (x1 n hn);have g:qh its' n=z:=by unfold qh;rw[hz];rfl
 rw[g];exact hcl hd hb _ (F4 hz)
end Go.Pd
end
noncomputable section
namespace Go.Pd
open Go Go.AL
variable {U:Nam->Prop}
def Agr2(U:Nam->Prop)(l k:List Bndg):Prop:=∀o n,(o=[]∨U ⟨o,n⟩)->aC l o n=aC k o n
structure EqU(U:Nam->Prop)(e f:Envt):Prop where
 self:e.self=f.self
 own:e.own=f.own
 types:Agr2 U e.types f.types
 vals:Agr2 U e.values f.values
structure EqCU(U:Nam->Prop)(r q:DcC):Prop where
 f:r.f=q.f
 e:EqU U r.c.e q.c.e
 m:r.c.m=q.c.m
end Go.Pd
end
section
namespace Go.Pd
open Go Go.AL
def two:List Str:=[[97,100,100],[115,117,98],[109,117,108],[108,101,115,115],[115,97,109,101],[98,111,116,104],[99,97,116]]
def ones:List Str:=[[110,111,116],[115,105,122,101],[115,104,111,119]]
structure Ev where
 f:Flt
 v:Thg
 st:Int
structure EvL where
 f:Flt
 vs:List Thg
 st:Int
end Go.Pd
end
noncomputable section
namespace Go.Pd
open Go Go.AL
structure Td where
 ok:Bool
 v:Vlu
 room:Int
structure TdL where
 ok:Bool
 vs:List Vlu
 room:Int
structure Sw where
 f:Flt
 v:Vlu
structure Rn where
 v:Vlu
 st:Int
 f:Flt
end Go.Pd
end
section
namespace Go.Pd
open Go Go.AL
def OkX(S:Nat)(t:Trm):Prop:=szT t<=S/\allT aq t=true/\nZ t=true
structure HeadH(x:Thg):Prop where
 lo:-9223372036854775808<=x.n
 hi:x.n<=9223372036854775807
 txt:x.text.length<=2000000
 nms:x.names.length<=2000000
 pts:x.parts.length<=1000000
 tru:x.kind=3->x.n=0∨x.n=1
 rcd:x.kind=5->x.names.length=x.parts.length
 one:x.kind=6∨x.kind=7->x.parts.length=1
mutual
inductive OkH(S:Nat):Thg->Prop
 |mk (x:Thg) (h:HeadH x) (hp:∀y∈x.parts,OkH S y) (hf:∀f,x.fn=some f->OkF S f):OkH S x
inductive OkF(S:Nat):Fnc->Prop
 |mk (f:Fnc) (hs:OkS S f.scp) (hb:(∃b,f.body=some b/\OkX S b/\f.args=(f.names.length:Int))∨(f.body=none/\((f.args=2/\f.basic∈two)∨(f.args=1/\f.basic∈ones)))):OkF S f
inductive OkS(S:Nat):Option Scp->Prop
 |nil:OkS S none
 |bnd (s:Scp) (hw:OkH S s.what) (hr:OkS S s.rest):OkS S (some s)
end
variable {S:Nat}
variable {mo st:Int}
structure Kinds(t:Trm):Prop where
 i1:t.kind=1->0<=t.n/\t.n<=999999999999999
 i6:t.kind=6->t.parts.length=1
 i7:t.kind=7->0<t.parts.length
 i8:t.kind=8->t.names.length=t.parts.length
 i10:t.kind=10->t.parts.length=1
 i12:t.kind=12->t.parts.length=3
 i13:t.kind=13->t.vars.length=t.names.length/\t.parts.length=t.names.length+1
 i14:t.kind=14->t.parts.length=2
 i15:t.kind=15->t.parts.length=1
 i16:t.kind=16->t.parts.length=1
 els:t.kind≠1->t.kind≠2->¬(t.kind=3∨t.kind=4)->t.kind≠5->t.kind≠6->t.kind≠7->t.kind≠8->t.kind≠10->t.kind≠11->0<t.parts.length
end Go.Pd
end
section
namespace Go.Pd
open Go Go.AL
structure MdE where
 f:Flt
 l:List Exp
 st:Int
structure ImE where
 f:Flt
 s:Option Scp
structure Cls where
 f:Flt
 l:List Cel
structure Prg where
 l:List Cel
 st:Int
 f:Flt
variable {k mo st:Int}
end Go.Pd
end
section
namespace Go.Pd
open Go Go.AL
def sc1(se:Str)(ty va:List Bndg):List (Nat×SObj):=[(900,.box (.agg [.str se,.lst (.st .bind) ty (some 901),.lst (.st .bind) va (some 902),.nils])),(901,.tail (.st .bind) ty.length),(902,.tail (.st .bind) va.length)]
def sc2(e:Envt):List (Nat×SObj):=[(900,.box (.agg [.str e.self,.lst (.st .bind) e.types none,.lst (.st .bind) e.values (some 901),.lst (.st .bind) e.own (some 902)])),(901,.tail (.st .bind) e.values.length),(902,.tail (.st .bind) e.own.length)]
def ck1(se:Str)(ty va:List Bndg):List (Nat×SObj):=[(900,.box (.agg [.str se,.lst (.st .bind) ty (some 901),.lst (.st .bind) va (some 902),.nils,.map 903])),(901,.tail (.st .bind) ty.length),(902,.tail (.st .bind) va.length),(903,.map .str (.st .item) [])]
def ck2(c:Cst):List (Nat×SObj):=[(900,.box (.agg [.str c.e.self,.lst (.st .bind) c.e.types none,.lst (.st .bind) c.e.values (some 901),.lst (.st .bind) c.e.own (some 902),.map 903])),(901,.tail (.st .bind) c.e.values.length),(902,.tail (.st .bind) c.e.own.length),(903,.map .str (.st .item) c.m)]
theorem uv(o:Str):∀(l m:List AL.Item),bc o (l++m)=bc o l++bc o m
 |[],m=>rfl
 |x::r,m=>by
  rw[OJ];simp only[bc,uv o r m];split
  ·rfl
  ·split<;>rfl
theorem lh(o:Str):∀l:List AL.Item,(bc o l).length<=l.length
 |[]=>NK _
 |x::r=>by
  have:=lh o r;simp only[bc];split
  ·simp only[NL];omega
  ·split<;>simp only[NL]<;>omega
theorem GB(o:Str)(l:List AL.Item)(k:Nat)(d:AL.Item)(h:k<l.length) :
  bc o (l.take (k+1))=bc o (l.take k)++(if(l.getD k d).kind=1 then[⟨o,(l.getD k d).name,(l.getD k d).shape⟩]else if(l.getD k d).kind=2 then[⟨o,(l.getD k d).name,dN o (l.getD k d).name⟩]else[]):=by
 rw[dU l k d h,uv];simp only[bc]
def obA(p:Prop):Ans->Ans
 |⟨some q,n,v,u⟩=>⟨some (p/\q),n,v,u⟩
 |⟨none,n,v,u⟩=>⟨some p,n,v,u⟩
theorem uw{p:Prop}{A:Ans}(h:∀q,(obA p A).ob=some q->q):p/\∀q,A.ob=some q->q:=by
 obtain⟨o,n,v,u⟩:=A
 cases o with|some q=>exact⟨(h _ rfl).1,fun q' e=>by cases e;exact(h _ rfl).2⟩|none=>exact⟨h _ rfl,fun q' e=>by cases e⟩
variable [Tabs] {P:Program} {f:Nat}
theorem al.obA{args:List AV}{S:List (Nat×SObj)}{p:Prop}{A:Ans}(h:al P f args S A):al P f args S (Pd.obA p A):=by obtain⟨o,n,v,u⟩:=A;cases o<;>exact h
def Le(F1:Str->List Bndg->List Bndg->Str->Str->Shape->Ans)(F2:Envt->Str->Str->Shape->Ans):Pat:=fun args S=>
 match args with
 |[.ptr 900 0,o,n,x]=>(match arg .str o,arg .str n,arg (.st .shape) x with
  |some o,some n,some x=>(match S with
   |[(900,.box (.agg [.str se,.lst (.st .bind) ty (some 901),.lst (.st .bind) va (some 902),.nils])),(901,.tail (.st .bind) i),(902,.tail (.st .bind) j)]=>some (obA (i=ty.length/\j=va.length) (F1 se ty va o n x))
   |[(900,.box (.agg [.str se,.lst (.st .bind) ty none,.lst (.st .bind) va (some 901),.lst (.st .bind) ow (some 902)])),(901,.tail (.st .bind) i),(902,.tail (.st .bind) j)]=>some (obA (i=va.length/\j=ow.length) (F2 ⟨se,ty,va,ow⟩ o n x))
   |_=>none)
  |_,_,_=>none)
 |_=>none
theorem Lf{F1:Str->List Bndg->List Bndg->Str->Str->Shape->Ans}{F2:Envt->Str->Str->Shape->Ans}(he:Enters P f)
 (h1:∀se ty va o n x,(∀q,(F1 se ty va o n x).ob=some q->q)->al P f [.ptr 900 0,.str o,.str n,.st .shape x] (sc1 se ty va) (F1 se ty va o n x))
 (h2:∀e o n x,(∀q,(F2 e o n x).ob=some q->q)->al P f [.ptr 900 0,.str o,.str n,.st .shape x] (sc2 e) (F2 e o n x)):ah P f (Le F1 F2):=by
 intro args S A hA ho _;unfold Le at hA;split at hA
 ·split at hA
  ·rename_i o n x k1 k2 k3;split at hA
   ·cases hA;obtain⟨⟨q1,q2⟩,hq⟩:=uw ho;clear ho;subst q1 q2;exact⟨he,al.args (.cons (Rd.refl _) (.cons (Rd.arg k1) (.cons (Rd.arg k2) (.cons (Rd.arg k3) .nil)))) (al.obA (h1 _ _ _ _ _ _ hq))⟩
   ·cases hA;obtain⟨⟨q1,q2⟩,hq⟩:=uw ho;clear ho;subst q1 q2;exact⟨he,al.args (.cons (Rd.refl _) (.cons (Rd.arg k1) (.cons (Rd.arg k2) (.cons (Rd.arg k3) .nil)))) (al.obA (h2 ⟨_,_,_,_⟩ _ _ _ hq))⟩
   ·cases hA
  ·cases hA
 ·cases hA
def MG(F:Envt->Str->Shape->Ans):Pat:=fun args S=>
 match args with
 |[.ptr 900 0,n,x]=>(match arg .str n,arg (.st .shape) x with
  |some n,some x=>(match S with
   |[(900,.box (.agg [.str se,.lst (.st .bind) ty none,.lst (.st .bind) va (some 901),.lst (.st .bind) ow (some 902)])),(901,.tail (.st .bind) i),(902,.tail (.st .bind) j)]=>some (obA (i=va.length/\j=ow.length) (F ⟨se,ty,va,ow⟩ n x))
   |_=>none)
  |_,_=>none)
 |_=>none
theorem Lg{F:Envt->Str->Shape->Ans}(he:Enters P f)
 (h2:∀e n x,(∀q,(F e n x).ob=some q->q)->al P f [.ptr 900 0,.str n,.st .shape x] (sc2 e) (F e n x)):ah P f (MG F):=by
 intro args S A hA ho _;unfold MG at hA;split at hA
 ·split at hA
  ·rename_i n x k2 k3;split at hA
   ·cases hA;obtain⟨⟨q1,q2⟩,hq⟩:=uw ho;clear ho;subst q1 q2;exact⟨he,al.args (.cons (Rd.refl _) (.cons (Rd.arg k2) (.cons (Rd.arg k3) .nil))) (al.obA (h2 ⟨_,_,_,_⟩ _ _ hq))⟩
   ·cases hA
  ·cases hA
 ·cases hA
def Js(F:Cst->Dcl->Ans):Pat:=fun args S=>
 match args with
 |[.ptr 900 0,d]=>(match arg (.st .decl) d with
  |some d=>(match S with
   |[(900,.box (.agg [.str se,.lst (.st .bind) ty none,.lst (.st .bind) va (some 901),.lst (.st .bind) ow (some 902),.map 903])),(901,.tail (.st .bind) i),(902,.tail (.st .bind) j),(903,.map .str (.st .item) m)]=>some (obA (i=va.length/\j=ow.length) (F ⟨⟨se,ty,va,ow⟩,m⟩ d))
   |_=>none)
  |_=>none)
 |_=>none
theorem Jt{F:Cst->Dcl->Ans}(he:Enters P f)
 (h2:∀c d,Wf (.st .decl) d->(∀q,(F c d).ob=some q->q)->al P f [.ptr 900 0,.st .decl d] (ck2 c) (F c d)):ah P f (Js F):=by
 intro args S A hA ho _;unfold Js at hA;split at hA
 ·split at hA
  ·rename_i d k2;split at hA
   ·cases hA;obtain⟨⟨q1,q2⟩,hq⟩:=uw ho;clear ho;subst q1 q2;exact⟨he,al.args (.cons (Rd.refl _) (.cons (Rd.arg k2) .nil)) (al.wf fun hw=>al.obA (h2 ⟨⟨_,_,_,_⟩,_⟩ _ (WfL.two (τ:=.st .decl) hw) hq))⟩
   ·cases hA
  ·cases hA
 ·cases hA
def MH(F:Str->List Bndg->List Bndg->Depd->Ans):Pat:=fun args S=>
 match args with
 |[.ptr 900 0,d]=>(match arg (.st .dep) d with
  |some d=>(match S with
   |[(900,.box (.agg [.str se,.lst (.st .bind) ty (some 901),.lst (.st .bind) va (some 902),.nils,.map 903])),(901,.tail (.st .bind) i),(902,.tail (.st .bind) j),(903,.map .str (.st .item) [])]=>some (obA (i=ty.length/\j=va.length) (F se ty va d))
   |_=>none)
  |_=>none)
 |_=>none
theorem Lh{F:Str->List Bndg->List Bndg->Depd->Ans}(he:Enters P f)
 (h2:∀se ty va d,Wf (.st .dep) d->(∀q,(F se ty va d).ob=some q->q)->al P f [.ptr 900 0,.st .dep d] (ck1 se ty va) (F se ty va d)):ah P f (MH F):=by
 intro args S A hA ho _;unfold MH at hA;split at hA
 ·split at hA
  ·rename_i d k2;split at hA
   ·cases hA;obtain⟨⟨q1,q2⟩,hq⟩:=uw ho;clear ho;subst q1 q2;exact⟨he,al.args (.cons (Rd.refl _) (.cons (Rd.arg k2) .nil)) (al.wf fun hw=>al.obA (h2 _ _ _ _ (WfL.two (τ:=.st .dep) hw) hq))⟩
   ·cases hA
  ·cases hA
 ·cases hA
end Go.Pd
end
noncomputable section
namespace Go.Pd
open Go Go.AL
def jO(n:Str):List Depd->Nat->Int->Int
 |[],_,a=>a
 |d::r,k,a=>if d.name=n then jO n r (k+1) k else jO n r (k+1) a
theorem wD(n:Str):∀(l:List Depd)(k:Nat)(a:Int),(eI l n=none/\jO n l k a=a)∨∃i:Nat,i<l.length/\jO n l k a=((k+i:Nat):Int)/\eI l n=some (l.getD i (dfl (.st .dep)))
 |[],_,_=>.inl ⟨rfl,rfl⟩
 |d::r,k,a=>by
  simp only[jO,eI];have key:∀b,(eI r n=none/\jO n r (k+1) b=b)∨∃i:Nat,i<r.length/\jO n r (k+1) b=((k+1+i:Nat):Int)/\eI r n=some (r.getD i (dfl (.st .dep))):=fun b=>wD n r (k+1) b
  have more:∀b,(∃i:Nat,i<r.length/\jO n r (k+1) b=((k+1+i:Nat):Int)/\eI r n=some (r.getD i (dfl (.st .dep))))->∃i:Nat,i<(d::r).length/\jO n r (k+1) b=((k+i:Nat):Int)/\eI r n=some ((d::r).getD i (dfl (.st .dep))):=fun b ⟨i,h1,h2,h3⟩=>
   ⟨i+1,by simp only[NL];omega,by rw[h2];congr 1;omega,by rw[h3];rfl⟩
  by_cases e:d.name=n
  ·rw[NC e,NC e];rcases key k with⟨h1,h2⟩|h
   ·exact .inr ⟨0,by simp,by rw[h2];rfl,by rw[h1];rfl⟩
   ·obtain⟨i,h1,h2,h3⟩:=more _ h;exact .inr ⟨i,h1,h2,by rw[h3]⟩
  ·rw[Ny e,Ny e];rcases key a with⟨h1,h2⟩|h
   ·exact .inl ⟨by rw[h1],h2⟩
   ·obtain⟨i,h1,h2,h3⟩:=more _ h;exact .inr ⟨i,h1,h2,by rw[h3]⟩
theorem qi(o:Str):∀l:List AL.Item,(dh o l).length<=l.length
 |[]=>NK _
 |x::r=>by have:=qi o r;simp only[dh];split<;>simp only[NL]<;>omega
theorem AF{m:Modu}(h:cH m=0):m.imports.length<=8/\m.exports.length<=60/\m.exports.Nodup/\∀d∈m.decls,d.kind=1∨d.kind=2∨d.kind=3:=by
 have ne:=(ur h).2;unfold cH at h;split at h
 ·rename_i g;unfold okM qR at g;simp only[Nx,NA,NJ]at g;refine⟨g.1.1.1.2,g.1.1.2,ne,fun d hd=>?_⟩;have:=g.2.2.1 d hd;unfold mZ iP at this;rw[Nx]at this;have:=this.1;by_cases k1:d.kind=1
  ·exact .inl k1
  by_cases k2:d.kind=2
  ·exact .inr (.inl k2)
  by_cases k3:d.kind=3
  ·exact .inr (.inr k3)
  exfalso;simp[k1,k2,k3]at this
 ·cases h
structure GrC(c b:Cst):Prop where
 self:b.e.self=c.e.self
 ty:b.e.types.length<=c.e.types.length+1
 va:b.e.values.length<=c.e.values.length+1
 ow:b.e.own.length<=c.e.own.length+1
theorem MI(d:Dcl)(c:Cst):GrC c (jN d c).c:=by
 unfold jN;split
 ·unfold Gs;split
  ·exact⟨rfl,by simp[bY],by simp[bY],by simp[bY]⟩
  ·exact⟨rfl,QM _,QM _,QM _⟩
 ·unfold Gt;split
  ·split
   ·exact⟨rfl,by simp,by simp,by simp⟩
   ·exact⟨rfl,by simp,by simp,by simp⟩
  ·exact⟨rfl,QM _,QM _,QM _⟩
theorem Li:Its []:=fun x h=>by cases h
open Go.Pd Go.Proofs Go.Shelf Go.Lib Go.Sort Go.Maps
variable [Tabs] {P:Program} {ρ:Ren}
def uz(gc:Nat):Pat:=fun args S=>
 match args,S with
 |[.glst s n 900,.fn g []],[(900,.grow (.st .item) s' xs)]=>
  if g=gc then some ⟨some ((s=s'/\n=xs.length)/\(xs.map (·.name)).Nodup/\xs.length<=1000000),none,.tup [],[(900,.grow (.st .item) s (jG xs))]⟩else none
 |_,_=>none
theorem AG{f gc:Nat}(L:SlLaysF0.n6 P ρ)(hf:ρ.f 6=f)(aE:∀w,(isAgg (ρ.t 24)).run P w=.ok true w)(zE:∀w,(Go.sizeOf (ρ.t 24)).run P w=.ok 7 w)(eg:∀args w,(callFunc gc args).run P w=.ok (.enter gc args) w)
 {cf:Str->Str->Int}(hcf:∀a b:Str,decide (cf a b<0)=ltStr a b)(C:MD P gc 7 1 cf)(he:AL.Enters P f):ah P f (uz gc):=by
 subst hf;intro args S A h hob hkeys;unfold uz at h;split at h
 ·rename_i s n g s' xs;split at h
  ·rename_i e;subst e;cases h;obtain⟨⟨rfl,rfl⟩,h3,h4⟩:=hob _ rfl;exact⟨he,vn (τ:=.st .item) (q:=1) L aE zE eg (fun x:AL.Item=>x.name) (fun _=>rfl) cf hcf C s _ xs rfl h3 (by omega) _⟩
  ·cases h
 ·cases h
end Go.Pd
end
noncomputable section
namespace Go.Proofs
open Go.RowKit Go.Shelf Go.AL Go.Sort Go.Pd Go.Lib
set_option maxHeartbeats 4000000
theorem Nl(w:World)(A B:Obj):(w.alloc A).alloc B=grow (w.drewN 0) #[A,B]:=by rw[alloc_eq_grow,alloc_eq_grow,grow_grow];rfl
theorem Tryz.cmp26(a b:ByteArray)(x0 x2 x3 x4 x5 x6 y0 y2 y3 y4 y5 y6:Value)(w:World) :
  Calls Tryz.prog 26 #[.agg #[x0,.string a,x2,x3,x4,x5,x6],.agg #[y0,.string b,y2,y3,y4,y5,y6]] w fun e w'=>e=.returned (.int .i64 (compareBytes a.data.toList b.data.toList))/\∃q os',w'=grow (w.drewN q) os':=by
 go_enter Tryz.func26,Tryz.ntmps26
 go_wp2_with (go_at_call 27;refine(Any.strings_Compare Tryz.lays106 _ _ _).mono ?_;rintro e w' ⟨rfl,rfl⟩)
 go_ret
 exact⟨rfl,0,_,Nl _ _ _⟩
theorem Tryz.cmpI:MD Tryz.prog 26 7 1 (fun a b=>compareBytes a b):=by
 intro W xs ys a b hx hy h1 h2 ha hb
 match xs,hx with
 |[x0,x1,x2,x3,x4,x5,x6],_=>
  match ys,hy with
  |[y0,y1,y2,y3,y4,y5,y6],_=>
   obtain rfl:x1=.string ⟨a.toArray⟩:=by simpa using ha
   obtain rfl:y1=.string ⟨b.toArray⟩:=by simpa using hb
   exact Tryz.cmp26 ⟨a.toArray⟩ ⟨b.toArray⟩ x0 x2 x3 x4 x5 x6 y0 y2 y3 y4 y5 y6 W
end Go.Proofs
namespace Go.AL.Seat
open Go Go.AL Go.Proofs Go.Shelf Go.Pd Go.RowKit
variable [Tabs]
theorem GC:ah Tryz.prog 25 (uz 26):=
 AG Tryz.sortf rfl (fun w=>by kernel_rfl) (fun w=>by kernel_rfl) (enters_of Tryz.func26 (by kernel_rfl) rfl) (fun a b=>fK a b) Tryz.cmpI (Enters.mk' Tryz.func25 (by kernel_rfl))
end Go.AL.Seat
end
section
open Go Go.AL Go.Pd
namespace Go.AL.Seat
theorem Ju(c:Int)  :
  if decide ((97:Int)<=c)=true then True/\decide (c<=(122:Int))=dK c/\True else True/\false=dK c/\True:=by
 unfold dK;simp only[lW];split<;>simp[*]
theorem Jv(c:Int)  :
  if decide ((65:Int)<=c)=true then True/\decide (c<=(90:Int))=dV c/\True else True/\false=dV c/\True:=by
 unfold dV;simp only[lW];split<;>simp[*]
theorem Jw(c:Int)  :
  if decide ((48:Int)<=c)=true then True/\decide (c<=(57:Int))=iJ c/\True else True/\false=iJ c/\True:=by
 unfold iJ;simp only[lW];split<;>simp[*]
theorem Lj(c:Int)  :
  let A:=True/\true=iE c/\True;if dK c=true then A else if dV c=true then A else if iJ c=true then A else True/\decide (c=(95:Int))=iE c/\True:=by
 conv=>zeta
 unfold iE;cases dK c<;>cases dV c<;>cases iJ c<;>simp
theorem GD(s:Str)(hs:Wf .str s) :
  let A:=True/\false=dL dK s/\True;let B:=(↑(List.length s):Int);let C:=(0:Int);let D:=s=s/\false=false/\B=B/\True;if decide (s=[])=true then A else if decide ((24:Int)<B)=true then A else(C<=C/\C<B)/\if(!dK (↑(UInt8.toNat (List.getD s (Int.toNat C) (0:UInt8))):Int))=true then A else(∃(x:Nat),(x<=List.length s/\dL dK s=List.all (List.drop x s) fun(c:UInt8)=>iE (bI c))/\C=(↑x:Int)/\D)/\∀(x:Nat),let E:=(↑x:Int);(x<=List.length s/\dL dK s=List.all (List.drop x s) fun(c:UInt8)=>iE (bI c))->if decide (E<B)=true then(C<=E/\E<B)/\if(!iE (↑(UInt8.toNat (List.getD s (Int.toNat E) (0:UInt8))):Int))=true then A else inR IntKind.i64 (E+(1:Int))/\∃(y:Nat),(y<=List.length s/\dL dK s=List.all (List.drop y s) fun(c:UInt8)=>iE (bI c))/\List.length s-y<List.length s-x/\E+(1:Int)=(↑y:Int)/\D else True/\true=dL dK s/\True:=by
 conv=>zeta
 have hlen:=hs.str;have eb:∀b:UInt8,(b.toNat:Int)=bI b:=fun _=>rfl;simp only[lW,NQ,Int.toNat_zero,Oo,Oc,eb,dL];generalize dK (bI (s.getD 0 0))=f0;by_cases h0:s=[]
 ·simp[h0]
 have hpos:0<s.length:=P4.2 h0;by_cases h1:s.length<=24
 ·rw[Ny h0,Ny (by omega)];refine⟨by omega,?_⟩
  cases f0 with
  |false=>simp
  |true=>
   simp only[R6,Oy,Ob,h0,h1,Qv,decide_true,Qy,Og];refine⟨⟨0,⟨by omega,rfl⟩,rfl⟩,?_⟩;rintro k ⟨h3,h4⟩;split
   ·have hk:k<s.length:=by omega
    rw[ak s k 0 hk,Oe]at h4;generalize iE (bI (s.getD k 0))=r at h4⊢;refine⟨by omega,?_⟩
    cases r with|false=>simpa using h4.symm|true=>simp only[R6,Oy,Ob];exact⟨aJ hk hlen,k+1,⟨by omega,by simpa using h4⟩,by omega,by omega⟩
   ·have hk:k=s.length:=by omega
    subst hk;simpa using h4.symm
 ·rw[Ny h0,NC (by omega)];simp[h1]
theorem GF(s:Str)(hs:Wf .str s) :
  let A:=True/\false=dL dV s/\True;let B:=(↑(List.length s):Int);let C:=(0:Int);let D:=s=s/\false=false/\B=B/\True;if decide (s=[])=true then A else if decide ((24:Int)<B)=true then A else(C<=C/\C<B)/\if(!dV (↑(UInt8.toNat (List.getD s (Int.toNat C) (0:UInt8))):Int))=true then A else(∃(x:Nat),(x<=List.length s/\dL dV s=List.all (List.drop x s) fun(c:UInt8)=>iE (bI c))/\C=(↑x:Int)/\D)/\∀(x:Nat),let E:=(↑x:Int);(x<=List.length s/\dL dV s=List.all (List.drop x s) fun(c:UInt8)=>iE (bI c))->if decide (E<B)=true then(C<=E/\E<B)/\if(!iE (↑(UInt8.toNat (List.getD s (Int.toNat E) (0:UInt8))):Int))=true then A else inR IntKind.i64 (E+(1:Int))/\∃(y:Nat),(y<=List.length s/\dL dV s=List.all (List.drop y s) fun(c:UInt8)=>iE (bI c))/\List.length s-y<List.length s-x/\E+(1:Int)=(↑y:Int)/\D else True/\true=dL dV s/\True:=by
 conv=>zeta
 have hlen:=hs.str;have eb:∀b:UInt8,(b.toNat:Int)=bI b:=fun _=>rfl;simp only[lW,NQ,Int.toNat_zero,Oo,Oc,eb,dL];generalize dV (bI (s.getD 0 0))=f0;by_cases h0:s=[]
 ·simp[h0]
 have hpos:0<s.length:=P4.2 h0;by_cases h1:s.length<=24
 ·rw[Ny h0,Ny (by omega)];refine⟨by omega,?_⟩
  cases f0 with
  |false=>simp
  |true=>
   simp only[R6,Oy,Ob,h0,h1,Qv,decide_true,Qy,Og];refine⟨⟨0,⟨by omega,rfl⟩,rfl⟩,?_⟩;rintro k ⟨h3,h4⟩;split
   ·have hk:k<s.length:=by omega
    rw[ak s k 0 hk,Oe]at h4;generalize iE (bI (s.getD k 0))=r at h4⊢;refine⟨by omega,?_⟩
    cases r with|false=>simpa using h4.symm|true=>simp only[R6,Oy,Ob];exact⟨aJ hk hlen,k+1,⟨by omega,by simpa using h4⟩,by omega,by omega⟩
   ·have hk:k=s.length:=by omega
    subst hk;simpa using h4.symm
 ·rw[Ny h0,NC (by omega)];simp[h1]
theorem Lk(s:Str)  :
  let A:=101;let B:=True/\true=zG s/\True;if decide (s=([109,111,100,117,108,A]:Str))=true then B else if decide (s=([105,109,112,111,114,116]:Str))=true then B else if decide (s=([112,105,110]:Str))=true then B else if decide (s=([114,97,110,103,A]:Str))=true then B else if decide (s=([116,121,112,A]:Str))=true then B else if decide (s=([111,112,97,113,117,A]:Str))=true then B else if decide (s=([108,A,116]:Str))=true then B else if decide (s=([105,110]:Str))=true then B else if decide (s=([A,120,112,111,114,116]:Str))=true then B else if decide (s=([102,117,110]:Str))=true then B else if decide (s=([105,102]:Str))=true then B else if decide (s=([116,104,A,110]:Str))=true then B else if decide (s=([A,108,115,A]:Str))=true then B else if decide (s=([99,97,115,A]:Str))=true then B else if decide (s=([111,102]:Str))=true then B else if decide (s=([97,115]:Str))=true then B else if decide (s=([110,A,119]:Str))=true then B else if decide (s=([114,97,119]:Str))=true then B else if decide (s=([116,114,117,A]:Str))=true then B else if decide (s=([102,97,108,115,A]:Str))=true then B else True/\false=zG s/\True:=by
 conv=>zeta
 refine aa (fun h=>?_) (fun h0=>?_)
 ·rw[Xo h];exact Xr
 refine aa (fun h=>?_) (fun h1=>?_)
 ·rw[Xo h];exact Xr
 refine aa (fun h=>?_) (fun h2=>?_)
 ·rw[Xo h];exact Xr
 refine aa (fun h=>?_) (fun h3=>?_)
 ·rw[Xo h];exact Xr
 refine aa (fun h=>?_) (fun h4=>?_)
 ·rw[Xo h];exact Xr
 refine aa (fun h=>?_) (fun h5=>?_)
 ·rw[Xo h];exact Xr
 refine aa (fun h=>?_) (fun h6=>?_)
 ·rw[Xo h];exact Xr
 refine aa (fun h=>?_) (fun h7=>?_)
 ·rw[Xo h];exact Xr
 refine aa (fun h=>?_) (fun h8=>?_)
 ·rw[Xo h];exact Xr
 refine aa (fun h=>?_) (fun h9=>?_)
 ·rw[Xo h];exact Xr
 refine aa (fun h=>?_) (fun h10=>?_)
 ·rw[Xo h];exact Xr
 refine aa (fun h=>?_) (fun h11=>?_)
 ·rw[Xo h];exact Xr
 refine aa (fun h=>?_) (fun h12=>?_)
 ·rw[Xo h];exact Xr
 refine aa (fun h=>?_) (fun h13=>?_)
 ·rw[Xo h];exact Xr
 refine aa (fun h=>?_) (fun h14=>?_)
 ·rw[Xo h];exact Xr
 refine aa (fun h=>?_) (fun h15=>?_)
 ·rw[Xo h];exact Xr
 refine aa (fun h=>?_) (fun h16=>?_)
 ·rw[Xo h];exact Xr
 refine aa (fun h=>?_) (fun h17=>?_)
 ·rw[Xo h];exact Xr
 refine aa (fun h=>?_) (fun h18=>?_)
 ·rw[Xo h];exact Xr
 refine aa (fun h=>?_) (fun h19=>?_)
 ·rw[Xo h];exact Xr
 refine⟨trivial,?_,trivial⟩;symm;refine Xf fun hm=>?_;unfold LW at hm;rcases NG.1 hm with e|hm
 ·exact h0 (Xd e)
 rcases NG.1 hm with e|hm
 ·exact h1 (Xd e)
 rcases NG.1 hm with e|hm
 ·exact h2 (Xd e)
 rcases NG.1 hm with e|hm
 ·exact h3 (Xd e)
 rcases NG.1 hm with e|hm
 ·exact h4 (Xd e)
 rcases NG.1 hm with e|hm
 ·exact h5 (Xd e)
 rcases NG.1 hm with e|hm
 ·exact h6 (Xd e)
 rcases NG.1 hm with e|hm
 ·exact h7 (Xd e)
 rcases NG.1 hm with e|hm
 ·exact h8 (Xd e)
 rcases NG.1 hm with e|hm
 ·exact h9 (Xd e)
 rcases NG.1 hm with e|hm
 ·exact h10 (Xd e)
 rcases NG.1 hm with e|hm
 ·exact h11 (Xd e)
 rcases NG.1 hm with e|hm
 ·exact h12 (Xd e)
 rcases NG.1 hm with e|hm
 ·exact h13 (Xd e)
 rcases NG.1 hm with e|hm
 ·exact h14 (Xd e)
 rcases NG.1 hm with e|hm
 ·exact h15 (Xd e)
 rcases NG.1 hm with e|hm
 ·exact h16 (Xd e)
 rcases NG.1 hm with e|hm
 ·exact h17 (Xd e)
 rcases NG.1 hm with e|hm
 ·exact h18 (Xd e)
 rcases NG.1 hm with e|hm
 ·exact h19 (Xd e)
 exact absurd hm P0
theorem Ll(s:Str)  :
  if dL dK s=true then True/\(!zG s)=aX s/\True else True/\false=aX s/\True:=by
 unfold aX;cases dL dK s<;>simp
theorem Jx(s:Str)  :
  True/\dL dV s=eF s/\True:=by
 simp[eF]
theorem GG(a:List Str)(v:Str)(ha:Wf (.lst .str) a) :
  let A:=(0:Int);let B:=(↑(List.length a):Int);let C:=a=a/\v=v/\B=B/\True;(∃(x:Nat),(x<=List.length a/\cw a v A=cw (List.drop x a) v (↑x:Int))/\A=(↑x:Int)/\C)/\∀(x:Nat),let D:=(↑x:Int);x<=List.length a/\cw a v A=cw (List.drop x a) v D->if decide (D<B)=true then(A<=D/\D<B)/\if decide (v=List.getD a (Int.toNat D) (dfl Ty.str))=true then True/\D=cw a v A/\True else inR IntKind.i64 (D+(1:Int))/\∃(y:Nat),(y<=List.length a/\cw a v A=cw (List.drop y a) v (↑y:Int))/\List.length a-y<List.length a-x/\D+(1:Int)=(↑y:Int)/\C else True/\(-1:Int)=cw a v A/\True:=by
 conv=>zeta
 have la:=ha.len;simp only[NQ,P1,Oo,Oc];refine⟨⟨0,⟨by omega,by simp⟩,by simp⟩,?_⟩;rintro k ⟨h1,h3⟩;apply aa<;>intro h
 ·replace h:=Xo h;have hk:k<a.length:=by omega
  rw[ak a k (dfl .str) hk]at h3;refine⟨by omega,?_⟩;by_cases e:a.getD k (dfl .str)=v
  ·rw[NC (by simpa using e.symm),h3,cw,NC e]
  ·rw[Ny (by simpa using fun h=>e h.symm)];exact⟨aJ hk la,k+1,⟨by omega,by rw[h3,cw,Ny e];rfl⟩,by omega,by omega⟩
 ·replace h:¬((k:Int)<(a.length:Int)):=fun e=>h (Xd e);have e:k=a.length:=by omega
  subst e;rw[h3];simp[cw]
theorem Jy(s:Str)  :
  let A:=True/\true=nR s/\True;if decide (s=([73,110,116]:Str))=true then A else if decide (s=([66,111,111,108]:Str))=true then A else if decide (s=([84,101,120,116]:Str))=true then A else True/\decide (s=([65,110,121]:Str))=nR s/\True:=by
 conv=>zeta
 simp only[P1,Oo,Oc,nR];by_cases a:s=[73,110,116]<;>by_cases b:s=[66,111,111,108]<;>by_cases c:s=[84,101,120,116]<;>by_cases d:s=[65,110,121]<;>simp[a,b,c,d]
theorem GH(a:List Str)  :
  True/\a=a/\True:=by
 trivial
theorem Jz(s:Shape)(hs:Wf (.st .shape) s)(ho:s.parts.length *16<=140737488355328) :
  let A:=(↑(List.length s.names):Int);let B:=True/\false=dE s/\True;let C:=List.length s.names=List.length s.parts;let D:=s=s/\false=false/\s.names=s.names/\A=A/\s=s/\True;let E:=(List.mergeSort s.names fun(x y:Str)=>decide (x<=y));if(!decide (A=(↑(List.length s.parts):Int)))=true then B else(∃(x:Nat),(x<=List.length s.names/\C/\dE s=(List.all (List.drop x s.names) aX&&decide (List.Nodup s.names)))/\(0:Int)=(↑x:Int)/\D)/\∀(x:Nat),let F:=(↑x:Int);x<=List.length s.names/\C/\dE s=(List.all (List.drop x s.names) aX&&decide (List.Nodup s.names))->if decide (F<A)=true then((0:Int)<=F/\F<A)/\if(!aX (List.getD s.names (Int.toNat F) (dfl Ty.str)))=true then B else inR IntKind.i64 (F+(1:Int))/\∃(y:Nat),(y<=List.length s.names/\C/\dE s=(List.all (List.drop y s.names) aX&&decide (List.Nodup s.names)))/\List.length s.names-y<List.length s.names-x/\F+(1:Int)=(↑y:Int)/\D else List.length s.names*(16:Nat)<=(140737488355328:Nat)/\List.length E=List.length E/\True/\decide ((↑(List.length (Lib.compact E)):Int)=A)=dE s/\True:=by
 conv=>zeta
 have ln:=hs.names.len;simp only[NQ,P1,Oo,Oc];apply aa<;>intro h
 ·have:s.names.length≠s.parts.length:=by simp at h;omega
  simp[dE,this]
 have hl:s.names.length=s.parts.length:=by simp at h;omega
 refine⟨⟨0,⟨by omega,hl,by simp[dE,hl]⟩,rfl⟩,?_⟩;rintro k ⟨h1,_,h3⟩;apply aa<;>intro h
 ·replace h:=Xo h;have hk:k<s.names.length:=by omega
  rw[ak s.names k (dfl .str) hk]at h3;refine⟨by omega,?_⟩;simp only[Oe]at h3;cases e:aX (s.names.getD k (dfl .str))
  ·rw[e]at h3;rw[h3];simp
  ·simp only[e,Og]at h3;exact⟨aJ hk ln,k+1,⟨by omega,hl,h3⟩,by omega,by omega⟩
 ·replace h:¬((k:Int)<(s.names.length:Int)):=fun e=>h (Xd e);have e:k=s.names.length:=by omega
  subst e;have hc:=jh s.names;unfold fZ at hc;refine⟨by omega,?_⟩;rw[h3,NN];simp only[Rb,Og];rw[Ow,<-hc];omega
theorem Lm(s:Shape)(hs:Wf (.st .shape) s)(ho:s.parts.length *16<=140737488355328) :
  let A:=(0:Int);let B:=True;let C:=(↑(List.length s.parts):Int);let D:=B/\false=aS s/\B;let E:=if decide ((↑(List.length s.names):Int)=A)=true then B/\decide (C=A)=aS s/\B else D;let F:=if decide (s.name=[])=true then E else D;let G:=if decide (s.name=[])=true then List.length s.parts*(16:Nat)<=(140737488355328:Nat)/\B/\dE s=aS s/\B else D;let H:=if aX s.pkg=true then E else D;let I:=if decide (s.kind=(9:Int))=true then if eF s.name=true then if decide (s.pkg=[])=true then if(!nR s.name)=true then E else H else H else D else if decide (s.kind=(10:Int))=true then if eF s.name=true then H else D else D;if decide (s.pkg=[])=true then if decide (s.kind=(1:Int))=true then F else if decide (s.kind=(2:Int))=true then F else if decide (s.kind=(3:Int))=true then F else if decide (s.kind=(4:Int))=true then F else if decide (s.kind=(5:Int))=true then if decide (s.name=[])=true then if decide ((↑(List.length s.names):Int)=A)=true then B/\decide (C=(1:Int))=aS s/\B else D else D else if decide (s.kind=(6:Int))=true then G else if decide (s.kind=(7:Int))=true then G else if decide (s.kind=(8:Int))=true then if decide (s.name=[])=true then if decide ((↑(List.length s.names):Int)=A)=true then B/\decide (A<C)=aS s/\B else D else D else I else if decide (s.kind=(1:Int))=true then D else if decide (s.kind=(2:Int))=true then D else if decide (s.kind=(3:Int))=true then D else if decide (s.kind=(4:Int))=true then D else if decide (s.kind=(5:Int))=true then D else if decide (s.kind=(6:Int))=true then D else if decide (s.kind=(7:Int))=true then D else if decide (s.kind=(8:Int))=true then D else I:=by
 conv=>zeta
 have n0:((s.names.length:Int)=0)↔s.names=[]:=by rw[<-OQ];omega
 have p0:((s.parts.length:Int)=0)↔s.parts=[]:=by rw[<-OQ];omega
 have p1:((s.parts.length:Int)=1)↔s.parts.length=1:=by omega
 have p2:(0<(s.parts.length:Int))↔¬s.parts=[]:=by rw[<-OQ];omega
 simp only[n0,p0,p1,p2,NA,Oo,Oc,ho];have hf:aS s=aS s:=rfl;conv at hf=>rhs;unfold aS
 revert hf;generalize aS s=F;generalize dE s=A;generalize eF s.name=B;generalize aX s.pkg=C;generalize nR s.name=D;generalize s.kind=K;intro hf
 repeat' (apply aa<;>intro _)
 all_goals (subst hf;simp_all)
theorem Dp(s:Shape)  :
  True/\(!decide (s.kind=(9:Int)))=!decide (s.kind=(9:Int))/\True:=by
 simp
theorem Dq(n:Nat)(s:Shape)(hs:Wf (.st .shape) s)(hn:sz s<=n+1)(hb:n<=1000000) :
  let A:=True/\false=allS aS s/\True;let B:=(↑(List.length s.parts):Int);let C:=s=s/\false=false/\s.parts=s.parts/\B=B/\s=s/\True;let D:=dfl (Ty.st SN.shape);List.length s.parts*(16:Nat)<=(140737488355328:Nat)/\if(!aS s)=true then A else(∃(x:Nat),(x<=List.length s.parts/\allS aS s=allL aS (List.drop x s.parts))/\(0:Int)=(↑x:Int)/\C)/\∀(x:Nat),let E:=(↑x:Int);let F:=List.getD s.parts (Int.toNat E) D;x<=List.length s.parts/\allS aS s=allL aS (List.drop x s.parts)->if decide (E<B)=true then((0:Int)<=E/\E<B)/\sz F<=n/\if(!allS aS F)=true then A else inR IntKind.i64 (E+(1:Int))/\∃(y:Nat),(y<=List.length s.parts/\allS aS s=allL aS (List.drop y s.parts))/\List.length s.parts-y<List.length s.parts-x/\E+(1:Int)=(↑y:Int)/\C else True/\true=allS aS s/\True:=by
 conv=>zeta
 have ln:=hs.parts.len;have hz:=iF s;have hl:=kU s.parts;simp only[NQ,P1,Oo,Oc];refine⟨by omega,aa (fun h=>?_) (fun h=>?_)⟩
 ·rw[allS_eq];simp at h;simp[h]
 refine⟨⟨0,⟨by omega,by rw[allS_eq];simp at h;simp[h]⟩,rfl⟩,?_⟩;rintro k ⟨h1,h3⟩;apply aa<;>intro h
 ·replace h:=Xo h;have hk:k<s.parts.length:=by omega
  have hm:=eo (getD_mem s.parts k (dfl (.st .shape)) hk);rw[ak s.parts k (dfl (.st .shape)) hk]at h3;simp only[allL]at h3;refine⟨by omega,by omega,?_⟩;cases e:allS aS (s.parts.getD k (dfl (.st .shape)))
  ·rw[e]at h3;rw[h3];simp
  ·simp only[e,Og]at h3;exact⟨aJ hk ln,k+1,⟨by omega,h3⟩,by omega,by omega⟩
 ·replace h:¬((k:Int)<(s.parts.length:Int)):=fun e=>h (Xd e);have e:k=s.parts.length:=by omega
  subst e;rw[h3,NN];rfl
theorem yh(n:Nat)(s:Shape)(hs:Wf (.st .shape) s)(hn:sz s<=n+1)(hb:n<=1000000) :
  let A:=(fun(s:Shape)=>!decide (s.kind=(9:Int)));let B:=True/\false=allS A s/\True;let C:=(↑(List.length s.parts):Int);let D:=s=s/\false=false/\s.parts=s.parts/\C=C/\s=s/\True;let E:=dfl (Ty.st SN.shape);if(!!decide (s.kind=(9:Int)))=true then B else(∃(x:Nat),(x<=List.length s.parts/\allS A s=allL A (List.drop x s.parts))/\(0:Int)=(↑x:Int)/\D)/\∀(x:Nat),let F:=(↑x:Int);let G:=List.getD s.parts (Int.toNat F) E;x<=List.length s.parts/\allS A s=allL A (List.drop x s.parts)->if decide (F<C)=true then((0:Int)<=F/\F<C)/\sz G<=n/\if(!allS A G)=true then B else inR IntKind.i64 (F+(1:Int))/\∃(y:Nat),(y<=List.length s.parts/\allS A s=allL A (List.drop y s.parts))/\List.length s.parts-y<List.length s.parts-x/\F+(1:Int)=(↑y:Int)/\D else True/\true=allS A s/\True:=by
 conv=>zeta
 have ln:=hs.parts.len;have hz:=iF s;have hl:=kU s.parts;simp only[NQ,P1,Oo,Oc];apply aa<;>intro h
 ·rw[allS_eq];simp at h;simp[h]
 refine⟨⟨0,⟨by omega,by rw[allS_eq];simp at h;simp[h]⟩,rfl⟩,?_⟩;rintro k ⟨h1,h3⟩;apply aa<;>intro h
 ·replace h:=Xo h;have hk:k<s.parts.length:=by omega
  have hm:=eo (getD_mem s.parts k (dfl (.st .shape)) hk);rw[ak s.parts k (dfl (.st .shape)) hk]at h3;simp only[allL]at h3;refine⟨by omega,by omega,?_⟩;cases e:allS (fun s=>!decide (s.kind=9)) (s.parts.getD k (dfl (.st .shape)))
  ·rw[e]at h3;rw[h3];simp
  ·simp only[e,Og]at h3;exact⟨aJ hk ln,k+1,⟨by omega,h3⟩,by omega,by omega⟩
 ·replace h:¬((k:Int)<(s.parts.length:Int)):=fun e=>h (Xd e);have e:k=s.parts.length:=by omega
  subst e;rw[h3,NN];rfl
theorem GI(n:Nat)(s:Shape)(hs:Wf (.st .shape) s)(hn:sz s<=n+1)(ho:allS eJ s=true)(hb:n<=1000000) :
  let A:=(0:Int);let B:=(↑(List.length s.parts):Int);let C:=s=s;let D:=Int.toNat B=Int.toNat B;let E:=(↑(Int.toNat B):Int);let F:=E=E;let G:=gJ UInt8=gJ UInt8;let H:=s.kind=s.kind;let I:=s.pkg=s.pkg;let J:=s.name=s.name;let K:=True;let L:=C/\A=A/\G/\G/\H/\I/\J/\K;let M:=(1:Int);let N:=(↑(List.length s.names):Int);let O:=false=false;let P:=true=true;let Q:=(fun(i:Int)=>List.getD s.names (Int.toNat i) []);let R:=bA s;let S:=(fun(i:Int)=>List.getD (sortedL s.parts) (Int.toNat i) pZ);let T:=(0:Nat);let U:=C/\A=A/\G/\G/\K;let V:=dfl (Ty.int IntKind.i64);let W:=dfl Ty.str;let X:=(140737488355328:Nat);let Y:=dfl (Ty.st SN.shape);let Z:=(88:Nat);let a:=bA s=bA s;let b:=sortedS s;let c:=s.kind=b.kind;let d:=s.name=b.name;(A<=B/\B<=B/\B*(↑(8:Nat):Int)<=(140737488355328:Int))/\(∃(x:Nat),x<=List.length s.parts/\A=(↑x:Int)/\C/\D/\F/\List.replicate (Int.toNat B) A=cC x++List.replicate (List.length s.parts-x) A/\L)/\∀(x:Nat),let e:=(↑x:Int);let f:=List.length s.parts-x;let g:=cC x++List.replicate f A;let h:=e=e;x<=List.length s.parts->if decide (e<E)=true then(A<=e/\e<E)/\Int.toNat e<List.length g/\inR IntKind.i64 (e+M)/\∃(y:Nat),y<=List.length s.parts/\List.length s.parts-y<List.length s.parts-x/\e+M=(↑y:Int)/\C/\D/\F/\List.set g (Int.toNat e) e=cC y++List.replicate (List.length s.parts-y) A/\L else if decide (A<N)=true then(Int.toNat B=List.length g/\cC x++List.replicate f A≠[]/\(∀(x_1:Int),x_1∈cC x++List.replicate f A->A<=x_1/\x_1<N)/\List.Nodup s.names/\List.length g<(4611686018427387904:Nat))/\(∃(x_1:Nat),let k:=List.take x_1 R;let l:=if s.names=[]then[]else List.map Q k;x_1<=List.length s.parts/\A=(↑x_1:Int)/\h/\C/\D/\F/\O/\P/\D/\F/\H/\I/\J/\l=[]/\List.map S k=[]/\(List.mergeSort g fun(i j:Int)=>decide (List.getD s.names (Int.toNat i) []<=List.getD s.names (Int.toNat j) []))=bA s/\List.length l=T/\x_1=T/\U)/\∀(x_1:Nat),let k:=(↑x_1:Int);let l:=Int.toNat k;let m:=A<=List.getD R l V;let o:=List.take x_1 R;let p:=if s.names=[]then[]else List.map Q o;let q:=Int.toNat (List.getD R l V);let r:=[List.getD s.names q W];let t:=m/\List.getD R l V<B;let u:=List.getD s.parts q Y;let v:=sz u<=n/\allS eJ u=true;let w:=List.map S o;let z:=[sortedS u];let A0:=List.length w=x_1/\(List.length w+List.length z)*Z<=X;let A1:=inR IntKind.i64 (k+M);let A2:=List.map S o++z;x_1<=List.length s.parts->if decide (k<E)=true then(A<=k/\k<E)/\Int.toNat k<List.length R/\if decide (A<N)=true then(m/\List.getD R l V<N)/\(List.length p=List.length p/\(List.length p+List.length r)*(16:Nat)<=X)/\t/\v/\A0/\A1/\∃(y:Nat),let A3:=List.take y R;let A4:=if s.names=[]then[]else List.map Q A3;y<=List.length s.parts/\List.length s.parts-y<List.length s.parts-x_1/\k+M=(↑y:Int)/\h/\C/\D/\F/\O/\P/\D/\F/\H/\I/\J/\(p++r=A4)/\List.map S o++z=List.map S A3/\a/\List.length (p++r)=List.length (A4)/\List.length A2=y/\U else t/\v/\A0/\A1/\∃(y:Nat),let A3:=List.take y R;let A4:=if s.names=[]then[]else List.map Q A3;y<=List.length s.parts/\List.length s.parts-y<List.length s.parts-x_1/\k+M=(↑y:Int)/\h/\C/\D/\F/\O/\P/\D/\F/\H/\I/\J/\(p=A4)/\List.map S o++z=List.map S A3/\a/\List.length p=List.length (A4)/\List.length A2=y/\U else K/\c/\s.pkg=b.pkg/\d/\p=b.names/\List.map S o=b.parts/\K else(∃(x_1:Nat),let k:=List.take x_1 R;let l:=if s.names=[]then[]else List.map Q k;x_1<=List.length s.parts/\A=(↑x_1:Int)/\h/\C/\D/\F/\O/\O/\D/\F/\H/\I/\J/\l=[]/\List.map S k=[]/\cC x++List.replicate f A=bA s/\List.length l=T/\x_1=T/\U)/\∀(x_1:Nat),let k:=(↑x_1:Int);let l:=Int.toNat k;let m:=A<=List.getD R l V;let o:=List.take x_1 R;let p:=if s.names=[]then[]else List.map Q o;let q:=Int.toNat (List.getD R l V);let r:=[List.getD s.names q W];let t:=m/\List.getD R l V<B;let u:=List.getD s.parts q Y;let v:=sz u<=n/\allS eJ u=true;let w:=List.map S o;let z:=[sortedS u];let A0:=List.length w=x_1/\(List.length w+List.length z)*Z<=X;let A1:=inR IntKind.i64 (k+M);let A2:=List.map S o++z;x_1<=List.length s.parts->if decide (k<E)=true then(A<=k/\k<E)/\Int.toNat k<List.length R/\if decide (A<N)=true then(m/\List.getD R l V<N)/\(List.length p=List.length p/\(List.length p+List.length r)*(16:Nat)<=X)/\t/\v/\A0/\A1/\∃(y:Nat),let A3:=List.take y R;let A4:=if s.names=[]then[]else List.map Q A3;y<=List.length s.parts/\List.length s.parts-y<List.length s.parts-x_1/\k+M=(↑y:Int)/\h/\C/\D/\F/\O/\O/\D/\F/\H/\I/\J/\(p++r=A4)/\List.map S o++z=List.map S A3/\a/\List.length (p++r)=List.length (A4)/\List.length A2=y/\U else t/\v/\A0/\A1/\∃(y:Nat),let A3:=List.take y R;let A4:=if s.names=[]then[]else List.map Q A3;y<=List.length s.parts/\List.length s.parts-y<List.length s.parts-x_1/\k+M=(↑y:Int)/\h/\C/\D/\F/\O/\O/\D/\F/\H/\I/\J/\(p=A4)/\List.map S o++z=List.map S A3/\a/\List.length p=List.length (A4)/\List.length A2=y/\U else K/\c/\s.pkg=b.pkg/\d/\p=b.names/\List.map S o=b.parts/\K:=by
 conv=>zeta
 have ln:=hs.parts.len;have hz:=iF s;have hl:=kU s.parts;have hor:eJ s=true/\allL eJ s.parts=true:=by rw[allS_eq]at ho;simpa using ho
 simp only[NQ,P1,Oo,Oc];refine⟨by omega,⟨0,by omega,rfl,by simp[cC]⟩,?_⟩;rintro k hk;apply aa<;>intro h
 ·replace h:=Xo h;exact⟨by omega,by simp[dM];omega,aJ (by omega) ln,k+1,by omega,by omega,by omega,FV (by omega)⟩
 replace h:¬((k:Int)<(s.parts.length:Int)):=fun e=>h (Xd e);have e:k=s.parts.length:=by omega
 subst e;simp only[Qd,List.replicate_zero,OL];have hr:cC s.parts.length=[]↔s.parts=[]:=by rw[<-OQ,dM,OQ]
 have hp2:=vd s
 have at_:∀k,k<s.parts.length->0<=(bA s).getD k (dfl (.int .i64))/\(bA s).getD k (dfl (.int .i64))<s.parts.length:=fun k hk=>
  CH.1 (getD_mem (bA s) k (dfl (.int .i64)) (by rw[hp2];exact hk))
 apply aa<;>intro h2
 ·have hne:s.names≠[]:=by intro e;rw[e]at h2;simp at h2
  have ho1:s.names.length=s.parts.length/\s.names.Nodup:=by have:=hor.1;unfold eJ at this;simpa[hne]using this
  refine⟨⟨by rw[dM],?_,fun x hx=>?_,ho1.2,by rw[dM];omega⟩,⟨0,by omega,rfl,by simp,by simp,?_,by simp,rfl⟩,?_⟩
  ·rw[Ne,hr];intro e;rw[e]at ho1;exact hne (OQ.1 (by simpa using ho1.1))
  ·rw[ho1.1];exact nU.1 hx
  ·unfold bA ic ca;rw[Ny hne]
  ·rintro k hk2;apply aa<;>intro h
   ·replace h:=Xo h;have hk3:k<s.parts.length:=by omega
    obtain⟨a1,a2⟩:=at_ k hk3;refine⟨by omega,by omega,?_⟩;rw[NC h2];have hi:((bA s).getD k (dfl (.int .i64))).toNat<s.parts.length:=by omega
    have f1:=eo (getD_mem s.parts _ (dfl (.st .shape)) hi);have f2:=fG hor.2 (getD_mem s.parts _ (dfl (.st .shape)) hi);have t1:=dU (bA s) k (dfl (.int .i64)) (by rw[hp2];exact hk3);have t2:List.map (fun i:Int=>(sortedL s.parts).getD i.toNat pZ) (List.take (k+1) (bA s))=List.map (fun i:Int=>(sortedL s.parts).getD i.toNat pZ) (List.take k (bA s))++[sortedS (s.parts.getD ((bA s).getD k (dfl (.int .i64))).toNat (dfl (.st .shape)))]:=by rw[t1,PA,Qq,kV _ _ pZ (dfl (.st .shape)) hi]
    have t3:List.map (fun i:Int=>s.names.getD i.toNat []) (List.take (k+1) (bA s))=List.map (fun i:Int=>s.names.getD i.toNat []) (List.take k (bA s))++[s.names.getD ((bA s).getD k (dfl (.int .i64))).toNat []]:=by rw[t1,PA,Qq]
    have tl:(List.take k (bA s)).length=k:=by rw[OX,hp2];omega
    refine⟨⟨a1,by omega⟩,?_,⟨a1,a2⟩,⟨by omega,f2⟩,⟨by rw[Ox,tl],by rw[Ox,tl];simp only[O4];omega⟩,aJ hk3 ln,k+1,by omega,by omega,by omega,?_,t2.symm,?_,?_⟩
    ·rw[Ny hne,Ox,tl];simp only[O4];omega
    ·rw[Ny hne,Ny hne,t3];rfl
    ·rw[Ny hne,Ny hne,t3];rfl
    ·rw[NZ,Ox,tl];rfl
   ·replace h:¬((k:Int)<(s.parts.length:Int)):=fun e=>h (Xd e);have e:k=s.parts.length:=by omega
    subst e;rw[<-hp2,OR,Ny hne];obtain⟨kk,pp,nn,ns,ps⟩:=s;simp only[sortedS];rw[Ny hne];exact Xr
 ·have hne:s.names=[]:=by refine PO fun hc=>h2 (Xd ?_);have:=P4.2 hc;omega
  have hpl:bA s=cC s.parts.length:=by unfold bA;rw[NC hne]
  simp only[hne,Ov,Ou,O4];refine⟨⟨0,by omega,rfl,trivial,by simp,hpl.symm,trivial,rfl⟩,?_⟩;rintro k hk2;apply aa<;>intro h
  ·replace h:=Xo h;have hk3:k<s.parts.length:=by omega
   obtain⟨a1,a2⟩:=at_ k hk3;refine⟨by omega,by omega,?_⟩;rw[Ny (by simp)];have hi:((bA s).getD k (dfl (.int .i64))).toNat<s.parts.length:=by omega
   have f1:=eo (getD_mem s.parts _ (dfl (.st .shape)) hi);have f2:=fG hor.2 (getD_mem s.parts _ (dfl (.st .shape)) hi);have t1:=dU (bA s) k (dfl (.int .i64)) (by rw[hp2];exact hk3);have t2:List.map (fun i:Int=>(sortedL s.parts).getD i.toNat pZ) (List.take (k+1) (bA s))=List.map (fun i:Int=>(sortedL s.parts).getD i.toNat pZ) (List.take k (bA s))++[sortedS (s.parts.getD ((bA s).getD k (dfl (.int .i64))).toNat (dfl (.st .shape)))]:=by rw[t1,PA,Qq,kV _ _ pZ (dfl (.st .shape)) hi]
   have tl:(List.take k (bA s)).length=k:=by rw[OX,hp2];omega
   exact⟨⟨a1,a2⟩,⟨by omega,f2⟩,⟨by rw[Ox,tl],by rw[Ox,tl];omega⟩,aJ hk3 ln,k+1,by omega,by omega,by omega,trivial,t2.symm,trivial,by rw[NZ,Ox,tl];rfl⟩
  ·replace h:¬((k:Int)<(s.parts.length:Int)):=fun e=>h (Xd e);have e:k=s.parts.length:=by omega
   subst e;rw[<-hp2,OR];obtain⟨kk,pp,nn,ns,ps⟩:=s;simp only at hne;subst hne;simp only[sortedS,Ov];exact Xr
theorem Ln(c:Int)(hc:0<=c/\c<=400) :
  let A:=(1:Int);let B:=c+A=c+A/\True;inR IntKind.i64 (c+A)/\if decide ((400:Int)<c+A)=true then decide ((400:Int)<c+A)=true/\B else decide ((400:Int)<c+A)=false/\B:=by
 conv=>zeta
 refine⟨aN (by omega) (by omega),aa (fun h=>?_) (fun h=>?_)⟩
 ·exact⟨h,rfl,trivial⟩
 ·exact⟨by simpa using h,rfl,trivial⟩
theorem Lo(n:Nat)(s:Shape)(l c:Int)(hs:Wf (.st .shape) s)(hn:sz s<=n+1)(hc:0<=c/\c<=400/\1<=l/\l<=c+1) :
  let A:=(0:Int);let B:=(400:Int);let C:=(1:Int);let D:=(↑(sz s):Int);let E:=decide (B<c+D)=true;let F:=(401:Int);let G:=l+C;let H:=s.parts=s.parts;let I:=(↑(List.length s.parts):Int);let J:=s=s/\True;let K:=dfl (Ty.st SN.shape);(A<=c/\c<=B)/\if decide (B<c+C)=true then E/\c+C=F/\True else(∃(x:Nat×Int),let L:=(↑(szL (List.take x.1 s.parts)):Int);(x.1<=List.length s.parts/\c+C+L<=B/\deepL (List.drop x.1 s.parts) G x.2=deepS s l)/\l=x.2/\A=(↑x.1:Int)/\s=s/\l=l/\A=A/\H/\I=I/\c+C=c+C+L/\J)/\∀(x:Nat×Int),let L:=(↑(szL (List.take x.1 s.parts)):Int);let M:=c+C+L<=B;let N:=(↑x.1:Int);let O:=List.getD s.parts (Int.toNat N) K;let P:=(↑(sz O):Int);x.1<=List.length s.parts/\M/\deepL (List.drop x.1 s.parts) G x.2=deepS s l->if decide (N<I)=true then(A<=N/\N<I)/\inR IntKind.i64 G/\(sz O<=n/\A<=c+C+L/\M/\C<=l+C/\l+C<=c+C+L+C)/\if decide (B<c+C+L+P)=true then E/\F=F/\True else inR IntKind.i64 (N+C)/\∃(y:Nat×Int),let Q:=(↑(szL (List.take y.1 s.parts)):Int);(y.1<=List.length s.parts/\c+C+Q<=B/\deepL (List.drop y.1 s.parts) G y.2=deepS s l)/\List.length s.parts-y.1<List.length s.parts-x.1/\max x.2 (deepS O G)=y.2/\N+C=(↑y.1:Int)/\s=s/\l=l/\A=A/\H/\I=I/\c+C+L+P=c+C+Q/\J else decide (B<c+D)=false/\x.2=deepS s l/\c+C+L=c+D/\True:=by
 conv=>zeta
 have ln:=hs.parts.len;have hz:=iF s;refine⟨⟨hc.1,hc.2.1⟩,aa (fun h=>?_) (fun h=>?_)⟩
 ·replace h:=Xo h;have:=fe s;exact⟨Xd (by omega),by omega,trivial⟩
 replace h:¬(400:Int)<c+1:=fun e=>h (Xd e);have hd0:deepL s.parts (l+1) l=deepS s l:=by cases s;rfl
 refine⟨⟨(0,l),⟨NU _,by simp[szL];omega,by simpa using hd0⟩,rfl,rfl,rfl,rfl,rfl,rfl,rfl,by simp[szL],rfl,trivial⟩,?_⟩;rintro⟨k,d⟩ ⟨h1,h2,h3⟩;simp only[NQ]at h1 h2 h3⊢;have hc0:(0:Int)<=(szL (s.parts.take k):Int):=by omega
 apply aa<;>intro hk
 ·replace hk:=Xo hk;have hk:k<s.parts.length:=by omega
  have hs1:=nk s.parts k (dfl (.st .shape)) hk;have hm:=eo (getD_mem s.parts k (dfl (.st .shape)) hk);rw[ak s.parts k (dfl (.st .shape)) hk]at h3;simp only[deepL]at h3;have ht:=zI s.parts (k+1);refine⟨by omega,aN (by omega) (by omega),⟨by omega,by omega,h2,by omega,by omega⟩,aa (fun h=>?_) (fun h=>?_)⟩
  ·replace h:=Xo h;exact⟨Xd (by omega),by trivial,by trivial⟩
  ·replace h:=fun e=>h (Xd e);replace h:¬(400:Int)<c+1+(szL (s.parts.take k):Int)+(sz (s.parts.getD k (dfl (.st .shape))):Int):=h;exact⟨aJ hk ln,(k+1,_),⟨by omega,by simp only;omega,h3⟩,by simp only;omega,rfl,by simp only;omega,by trivial,by trivial,by trivial,by trivial,by trivial,by simp only;omega,by trivial,by trivial⟩
 ·replace hk:¬((k:Int)<(s.parts.length:Int)):=fun e=>hk (Xd e);have e:k=s.parts.length:=by omega
  subst e;rw[OR]at h2⊢;rw[NN]at h3;exact⟨Xf (by omega),h3,by omega,trivial⟩
theorem JA(s:Shape)(hs:Wf (.st .shape) s) :
  let A:=(0:Int);let B:=(1:Int);let C:=(↑(sz s):Int);let D:=if sz s<=(400:Nat)then C else(401:Int);let E:=if sz s<=(400:Nat)then deepS s B else A;(sz s<=sz s/\A<=A/\A<=(400:Int)/\B<=B/\B<=A+B)/\if decide ((400:Int)<A+C)=true then((401:Int)=D)/\(A=E)/\false=decide (sz s<=(400:Nat))/\True else(A+C=D)/\(deepS s B=E)/\true=decide (sz s<=(400:Nat))/\True:=by
 conv=>zeta
 refine⟨by simp,aa (fun h=>?_) (fun h=>?_)⟩
 ·replace h:=Xo h;have h':¬sz s<=400:=by omega
  rw[Ny h',Ny h'];exact⟨rfl,rfl,by simp[h'],trivial⟩
 ·replace h:¬(400:Int)<0+(sz s:Int):=fun e=>h (Xd e);have h':sz s<=400:=by omega
  rw[NC h',NC h'];exact⟨by omega,by trivial,by simp[h'],trivial⟩
theorem JB(s:Shape)  :
  let A:=True;if(!decide (sz s<=(400:Nat)))=true then A/\(3:Int)=ay s/\A else if decide ((40:Int)<if sz s<=(400:Nat)then deepS s (1:Int)else(0:Int))=true then A/\(91:Int)=ay s/\A else sz s<=(400:Nat)/\if(!allS aS s)=true then A/\(70:Int)=ay s/\A else A/\(0:Int)=ay s/\A:=by
 conv=>zeta
 unfold ay;by_cases h1:sz s<=400
 ·rw[Ny (by simp[h1]),NC h1,Ny (show ¬400<sz s by omega)];by_cases h2:(40:Int)<deepS s 1
  ·rw[NC (by simp[h2]),NC h2];exact Xr
  ·rw[Ny (by simp[h2]),Ny h2];refine⟨h1,?_⟩;cases allS aS s<;>simp
 ·rw[NC (by simp[h1]),NC (show 400<sz s by omega)];exact Xr
theorem GJ(s:Shape)  :
  if decide (ay s=(0:Int))=true then sz s<=(400:Nat)/\True/\allS (fun(s:Shape)=>!decide (s.kind=(9:Int))) s=bS s/\True else True/\false=bS s/\True:=by
 unfold bS;apply aa<;>intro h
 ·exact⟨(de (Xo h)).1,trivial,by rw[h,Og],trivial⟩
 ·simp only[Q3]at h;rw[h];exact Xr
theorem Lp(s:Shape)  :
  if(!decide (ay s=(0:Int)))=true then True/\s=bw s/\True else(sz s<=(400:Nat)/\allS eJ s=true)/\True/\sortedS s=bw s/\True:=by
 unfold bw;by_cases h:ay s=0
 ·rw[Ny (by simp[h]),NC h];exact⟨⟨(de h).1,tK h⟩,trivial,rfl,trivial⟩
 ·rw[NC (by simp[h]),Ny h];exact Xr
theorem Lq(n:Nat)(s:Shape)(m:Int)(hs:Wf (.st .shape) s)(ho:sz s<=n+1/\0<=m/\m<=1000000) :
  let A:=(1:Int);let B:=(0:Int);let C:=s=s/\m=m/\B=B/\s=s/\True;let D:=(↑(List.length s.parts):Int);let E:=dfl (Ty.st SN.shape);(∃(x:Nat×Int),(x.1<=List.length s.parts/\A<=x.2/\x.2<=m+A/\sizeL (List.drop x.1 s.parts) x.2 m=sizeF s m)/\A=x.2/\B=(↑x.1:Int)/\C)/\∀(x:Nat×Int),let F:=(↑x.1:Int);let G:=m-x.2;let H:=List.getD s.parts (Int.toNat F) E;let I:=True/\x.2=sizeF s m/\True;x.1<=List.length s.parts/\A<=x.2/\x.2<=m+A/\sizeL (List.drop x.1 s.parts) x.2 m=sizeF s m->if decide (F<D)=true then if decide (x.2<=m)=true then(B<=F/\F<D)/\inR IntKind.i64 G/\(sz H<=n/\B<=m-x.2/\m-x.2<=(1000000:Int))/\inR IntKind.i64 (x.2+sizeF H G)/\inR IntKind.i64 (F+A)/\∃(y:Nat×Int),(y.1<=List.length s.parts/\A<=y.2/\y.2<=m+A/\sizeL (List.drop y.1 s.parts) y.2 m=sizeF s m)/\List.length s.parts-y.1<List.length s.parts-x.1/\x.2+sizeF H G=y.2/\F+A=(↑y.1:Int)/\C else I else I:=by
 conv=>zeta
 have ln:=hs.parts.len;have hz:=iF s;obtain⟨ho1,ho2,ho3⟩:=ho;have h0:sizeL s.parts 1 m=sizeF s m:=by cases s;rfl
 simp only[NQ,P1,Oo,Oc];refine⟨⟨(0,1),⟨NU _,by omega,by omega,h0⟩,rfl,rfl⟩,?_⟩;rintro⟨k,c⟩ ⟨h1,h2,h3,h4⟩;simp only at h1 h2 h3 h4⊢;apply aa<;>intro hk
 ·replace hk:=Xo hk;have hk:k<s.parts.length:=by omega
  have hm:=eo (getD_mem s.parts k (dfl (.st .shape)) hk);rw[ak s.parts k (dfl (.st .shape)) hk]at h4;simp only[sizeL]at h4;apply aa<;>intro hc
  ·replace hc:=Xo hc;rw[NC hc]at h4;have hb:=sizeF_bd (s.parts.getD k (dfl (.st .shape))) (m-c) (by omega);exact⟨by omega,aN (by omega) (by omega),by omega,aN (by omega) (by omega),aJ hk ln,(k+1,_),⟨by omega,by simp only;omega,by simp only;omega,h4⟩,by simp only;omega,rfl,rfl⟩
  ·rw[Ny (fun e=>hc (Xd e))]at h4;exact h4
 ·replace hk:¬((k:Int)<(s.parts.length:Int)):=fun e=>hk (Xd e);have e:k=s.parts.length:=by omega
  subst e;rw[NN]at h4;exact h4
theorem GK(n:Nat)(a b:Shape)(ha:Wf (.st .shape) a)(hb:Wf (.st .shape) b)(hn:sz a<=n+1) :
  let A:=True/\false=eqS a b/\True;let B:=(↑(List.length a.names):Int);let C:=(↑(List.length b.names):Int);let D:=(↑(List.length a.parts):Int);let E:=(↑(List.length b.parts):Int);let F:=List.length a.names=List.length b.names;let G:=List.length a.parts=List.length b.parts;let H:=(0:Int);let I:=false=false/\a=a/\b=b/\True;let J:=a=a/\b=b/\I;let K:=(1:Int);let L:=a=a/\b=b/\false=false/\I;let M:=dfl (Ty.st SN.shape);if(!decide (a.kind=b.kind))=true then A else if(!decide (a.pkg=b.pkg))=true then A else if(!decide (a.name=b.name))=true then A else if(!decide (B=C))=true then A else if(!decide (D=E))=true then A else(∃(x:Nat),(x<=List.length a.names/\F/\G/\eqS a b=(decide (List.drop x a.names=List.drop x b.names)&&eqL a.parts b.parts))/\H=(↑x:Int)/\J)/\∀(x:Nat),let N:=(↑x:Int);x<=List.length a.names/\F/\G/\eqS a b=(decide (List.drop x a.names=List.drop x b.names)&&eqL a.parts b.parts)->if decide (N<B)=true then(H<=N/\N<B)/\(H<=N/\N<C)/\if(!decide (List.getD a.names (Int.toNat N) (dfl Ty.str)=List.getD b.names (Int.toNat N) (dfl Ty.str)))=true then A else inR IntKind.i64 (N+K)/\∃(y:Nat),(y<=List.length a.names/\F/\G/\eqS a b=(decide (List.drop y a.names=List.drop y b.names)&&eqL a.parts b.parts))/\List.length a.names-y<List.length a.names-x/\N+K=(↑y:Int)/\J else(∃(x_1:Nat),(x_1<=List.length a.parts/\G/\eqS a b=eqL (List.drop x_1 a.parts) (List.drop x_1 b.parts))/\H=(↑x_1:Int)/\N=N/\L)/\∀(x_1:Nat),let O:=(↑x_1:Int);let P:=List.getD a.parts (Int.toNat O) M;x_1<=List.length a.parts/\G/\eqS a b=eqL (List.drop x_1 a.parts) (List.drop x_1 b.parts)->if decide (O<D)=true then(H<=O/\O<D)/\(H<=O/\O<E)/\sz P<=n/\if(!eqS P (List.getD b.parts (Int.toNat O) M))=true then A else inR IntKind.i64 (O+K)/\∃(y:Nat),(y<=List.length a.parts/\G/\eqS a b=eqL (List.drop y a.parts) (List.drop y b.parts))/\List.length a.parts-y<List.length a.parts-x_1/\O+K=(↑y:Int)/\N=N/\L else True/\true=eqS a b/\True:=by
 conv=>zeta
 have lna:=ha.names.len;have lpa:=ha.parts.len;have hz:=iF a;have he:eqS a b=(decide (a.kind=b.kind)&&decide (a.pkg=b.pkg)&&decide (a.name=b.name)&&decide (a.names=b.names)&&eqL a.parts b.parts):=by cases a;cases b;rfl
 simp only[NQ,P1,Oo,Oc];refine aa (fun h=>?_) (fun h1=>aa (fun h=>?_) (fun h2=>aa (fun h=>?_) (fun h3=>aa (fun h=>?_) (fun h4=>aa (fun h=>?_) (fun h5=>?_)))))
 ·rw[he];simp only[NI]at h;rw[h];simp
 ·rw[he];simp only[NI]at h;rw[h];simp
 ·rw[he];simp only[NI]at h;rw[h];simp
 ·have:¬a.names=b.names:=by intro e;rw[e]at h;simp at h
  rw[he];simp[this]
 ·have:a.parts.length≠b.parts.length:=by intro e;rw[e]at h;simp at h
  rw[he,EJ this];simp
 have l4:a.names.length=b.names.length:=by simp at h4;omega
 have l5:a.parts.length=b.parts.length:=by simp at h5;omega
 have he':eqS a b=(decide (a.names=b.names)&&eqL a.parts b.parts):=by rw[he];simp only[Q3,Bool.not_eq_false']at h1 h2 h3;rw[h1,h2,h3];simp
 refine⟨⟨0,⟨NU _,l4,l5,by simpa using he'⟩,rfl⟩,?_⟩;rintro k ⟨k1,_,_,k4⟩;apply aa<;>intro h
 ·replace h:=Xo h;have hk:k<a.names.length:=by omega
  have hk':k<b.names.length:=by omega
  rw[ak a.names k (dfl .str) hk,ak b.names k (dfl .str) hk']at k4;refine⟨by omega,by omega,aa (fun c=>?_) (fun c=>?_)⟩
  ·have c':¬a.names.getD k (dfl .str)=b.names.getD k (dfl .str):=by simpa using c
   rw[k4];have:¬(a.names.getD k (dfl .str)::a.names.drop (k+1)=b.names.getD k (dfl .str)::b.names.drop (k+1)):=fun e=>c' (List.cons.inj e).1;simp only[this,Qv,NT]
  ·have c':a.names.getD k (dfl .str)=b.names.getD k (dfl .str):=by simpa using c
   refine⟨aJ hk lna,k+1,⟨by omega,l4,l5,?_⟩,by omega,by omega⟩;rw[k4,c'];congr 1;rw[Ow];simp
 ·replace h:¬((k:Int)<(a.names.length:Int)):=fun e=>h (Xd e);have e:k=a.names.length:=by omega
  subst e;have k4':eqS a b=eqL a.parts b.parts:=by rw[k4,NN,l4,NN];simp
  refine⟨⟨0,⟨NU _,l5,by simpa using k4'⟩,rfl⟩,?_⟩;rintro j ⟨j1,_,j3⟩;apply aa<;>intro h
  ·replace h:=Xo h;have hj:j<a.parts.length:=by omega
   have hj':j<b.parts.length:=by omega
   have hm:=eo (getD_mem a.parts j (dfl (.st .shape)) hj);rw[ak a.parts j (dfl (.st .shape)) hj,ak b.parts j (dfl (.st .shape)) hj']at j3;simp only[eqL]at j3;refine⟨by omega,by omega,by omega,aa (fun c=>?_) (fun c=>?_)⟩
   ·have c':eqS (a.parts.getD j (dfl (.st .shape))) (b.parts.getD j (dfl (.st .shape)))=false:=by simpa using c
    rw[j3,c'];rfl
   ·have c':eqS (a.parts.getD j (dfl (.st .shape))) (b.parts.getD j (dfl (.st .shape)))=true:=by simpa using c
    rw[c',Og]at j3;exact⟨aJ hj lpa,j+1,⟨by omega,l5,j3⟩,by omega,by omega⟩
  ·replace h:¬((j:Int)<(a.parts.length:Int)):=fun e=>h (Xd e);have e:j=a.parts.length:=by omega
   subst e;rw[j3,NN,l5,NN];rfl
theorem GL(n:Nat)(t:Trm)(m:Int)(hs:Wf (.st .term) t)(hz:szT t<=n+1)(h0:0<=m)(h1:m<=1000000) :
  let A:=(1:Int);let B:=(0:Int);let C:=(↑(List.length t.parts):Int);let D:=t=t/\m=m/\B=B/\B=B/\t.parts=t.parts/\C=C/\t=t/\True;let E:=countT t m;let F:=dfl (Ty.st SN.term);(∃(x:Nat×Int×Int),(x.1<=List.length t.parts/\A<=x.2.1/\x.2.1<=m+A/\B<=x.2.2/\x.2.2+A<=x.2.1/\countL (List.drop x.1 t.parts) m x.2.1 x.2.2=countL t.parts m A B)/\A=x.2.1/\B=x.2.2/\B=(↑x.1:Int)/\D)/\∀(x:Nat×Int×Int),let G:=(↑x.1:Int);let H:=inR IntKind.i64 (x.2.2+A)/\True/\x.2.1=E.1/\x.2.2+A=E.2/\True;let I:=m-x.2.1;let J:=List.getD t.parts (Int.toNat G) F;let K:=countT J I;x.1<=List.length t.parts/\A<=x.2.1/\x.2.1<=m+A/\B<=x.2.2/\x.2.2+A<=x.2.1/\countL (List.drop x.1 t.parts) m x.2.1 x.2.2=countL t.parts m A B->if decide (G<C)=true then(B<=G/\G<C)/\if decide (m<x.2.1)=true then H else inR IntKind.i64 I/\(szT J<=n/\B<=m-x.2.1/\m-x.2.1<=(1000000:Int))/\inR IntKind.i64 (x.2.1+K.1)/\inR IntKind.i64 (G+A)/\∃(y:Nat×Int×Int),(y.1<=List.length t.parts/\A<=y.2.1/\y.2.1<=m+A/\B<=y.2.2/\y.2.2+A<=y.2.1/\countL (List.drop y.1 t.parts) m y.2.1 y.2.2=countL t.parts m A B)/\List.length t.parts-y.1<List.length t.parts-x.1/\x.2.1+K.1=y.2.1/\max x.2.2 K.2=y.2.2/\G+A=(↑y.1:Int)/\D else H:=by
 conv=>zeta
 have ln:=hs.term_parts.len;rw[FW];refine⟨⟨(0,1,0),⟨NU _,by decide,by show(1:Int)<=m+1;omega,by decide,by decide,rfl⟩,rfl,rfl,rfl,?_⟩,?_⟩
 ·exact Xr
 rintro⟨k,a,d⟩ ⟨h1,h2,h3,h4,h5,h6⟩;simp only[NQ]at h1 h2 h3 h4 h5 h6⊢;apply aa<;>intro h
 ·replace h:=Xo h;have hk:k<t.parts.length:=by omega
  rw[ak t.parts k (dfl (.st .term)) hk,countL]at h6;refine⟨by omega,aa (fun c=>?_) (fun c=>?_)⟩
  ·replace c:=Xo c;rw[NC c]at h6;rw[<-h6];refine⟨aN (by omega) (by omega),?_⟩;exact Xr
  ·replace c:¬m<a:=fun e=>c (Xd e);rw[Ny c]at h6;have hm:=mN (getD_mem t.parts k (dfl (.st .term)) hk);have he:=nV t;have hb:=countT_bound (t.parts.getD k (dfl (.st .term))) (m-a) (by omega);refine⟨aN (by omega) (by omega),⟨by omega,by omega,by omega⟩,aN (by omega) (by omega),aJ hk ln,(k+1,_,_),⟨by show k+1<=_;omega,?_,?_,?_,?_,h6⟩,by show _-(k+1)<_;omega,rfl,rfl,by show _=((k+1:Nat):Int);omega,?_⟩
   ·show(1:Int)<=a+_;omega
   ·show a+_<=m+1;omega
   ·show(0:Int)<=max d _;omega
   ·show max d _+1<=a+_;omega
   exact Xr
 ·replace h:¬((k:Int)<(t.parts.length:Int)):=fun e=>h (Xd e);have e:k=t.parts.length:=by omega
  subst e;rw[NN,countL]at h6;rw[<-h6];refine⟨aN (by omega) (by omega),?_⟩;exact Xr
theorem Dr (x:Str)  :
  True/\(!aX x)=!aX x/\True:=by
 exact⟨trivial,by trivial,trivial⟩
theorem Ds (l:List Str) (hl:Wf (.lst .str) l) :
  let A:=(0:Nat);let B:=(↑(List.length l):Int);let C:=l=l/\B=B/\True;(∃(x:Nat),(x<=List.length l/\bj aX (List.drop x l) x=bj aX l A)/\(0:Int)=(↑x:Int)/\C)/\∀(x:Nat),let D:=(↑x:Int);x<=List.length l/\bj aX (List.drop x l) x=bj aX l A->if decide (D<B)=true then((0:Int)<=D/\D<B)/\if(!aX (List.getD l (Int.toNat D) (dfl Ty.str)))=true then True/\D=bj aX l A/\True else inR IntKind.i64 (D+(1:Int))/\∃(y:Nat),(y<=List.length l/\bj aX (List.drop y l) y=bj aX l A)/\List.length l-y<List.length l-x/\D+(1:Int)=(↑y:Int)/\C else True/\(-1:Int)=bj aX l A/\True:=by
 conv=>zeta
 have ln:=hl.len;simp only[NQ];refine⟨⟨0,⟨NU _,by simp⟩,rfl,by trivial,by trivial,trivial⟩,?_⟩;rintro k ⟨h1,h2⟩;apply aa<;>intro h
 ·replace h:=Xo h;have hk:k<l.length:=by omega
  rw[ak l k (dfl .str) hk,bj]at h2;refine⟨by omega,aa (fun c=>?_) (fun c=>?_)⟩
  ·have c:aX (l.getD k (dfl .str))=false:=by simpa using c
   rw[c,Ny Oz]at h2;rw[<-h2];exact Xr
  ·have c:aX (l.getD k (dfl .str))=true:=by simpa using c
   rw[NC c]at h2;refine⟨aJ hk ln,k+1,⟨by omega,h2⟩,by omega,by omega,by trivial,by trivial,trivial⟩
 ·replace h:¬((k:Int)<(l.length:Int)):=fun e=>h (Xd e);have e:k=l.length:=by omega
  subst e;rw[NN,bj]at h2;rw[<-h2];exact Xr
theorem Dt (l:List Str)  :
  True/\decide ((0:Int)<=bj aX l (0:Nat))=!List.all l aX/\True:=by
 exact⟨trivial,ji aX l 0,trivial⟩
theorem JC (l:List Str)  :
  True/\(!!List.all l aX)=List.all l aX/\True:=by
 exact⟨trivial,Rc _,trivial⟩
theorem JD(l:List Str)(ho:l.length *16<=140737488355328) :
  let A:=(List.mergeSort l fun(x y:Str)=>decide (x<=y));let B:=List.all l aX&&decide (List.Nodup l);List.length l*(16:Nat)<=(140737488355328:Nat)/\if List.all l aX=true then List.length A=List.length A/\True/\decide ((↑(List.length (Lib.compact A)):Int)=(↑(List.length l):Int))=B/\True else True/\false=B/\True:=by
 conv=>zeta
 have hc:=jh l;unfold fZ at hc;refine⟨ho,aa (fun h=>?_) (fun h=>?_)⟩
 ·refine⟨by trivial,trivial,?_,trivial⟩;rw[h,Og,Ow,<-hc];omega
 ·have h:l.all aX=false:=by simpa using h
  exact⟨trivial,by rw[h];rfl,trivial⟩
theorem Du(n:Nat)(x:Shape) (ho:sz x<=n) :
  sz x<=n/\True/\(!allS aQ x)=!allS aQ x/\True:=by
 exact⟨ho,trivial,by trivial,trivial⟩
theorem Dv(n:Nat)(l:List Shape) (hl:Wf (.lst (.st .shape)) l)(ho:∀x∈l,sz x<=n) :
  let A:=allS aQ;let B:=(0:Nat);let C:=(↑(List.length l):Int);let D:=l=l/\C=C/\True;let E:=dfl (Ty.st SN.shape);(∃(x:Nat),(x<=List.length l/\bj A (List.drop x l) x=bj A l B)/\(0:Int)=(↑x:Int)/\D)/\∀(x:Nat),let F:=(↑x:Int);let G:=List.getD l (Int.toNat F) E;x<=List.length l/\bj A (List.drop x l) x=bj A l B->if decide (F<C)=true then((0:Int)<=F/\F<C)/\sz G<=n/\if(!allS aQ G)=true then True/\F=bj A l B/\True else inR IntKind.i64 (F+(1:Int))/\∃(y:Nat),(y<=List.length l/\bj A (List.drop y l) y=bj A l B)/\List.length l-y<List.length l-x/\F+(1:Int)=(↑y:Int)/\D else True/\(-1:Int)=bj A l B/\True:=by
 conv=>zeta
 have ln:=hl.len;simp only[NQ];refine⟨⟨0,⟨NU _,by simp⟩,rfl,by trivial,by trivial,trivial⟩,?_⟩;rintro k ⟨h1,h2⟩;apply aa<;>intro h
 ·replace h:=Xo h;have hk:k<l.length:=by omega
  rw[ak l k (dfl (.st .shape)) hk,bj]at h2;refine⟨by omega,ho _ (getD_mem l k _ hk),aa (fun c=>?_) (fun c=>?_)⟩
  ·have c:(allS aQ) (l.getD k (dfl (.st .shape)))=false:=by simpa using c
   rw[c,Ny Oz]at h2;rw[<-h2];exact Xr
  ·have c:(allS aQ) (l.getD k (dfl (.st .shape)))=true:=by simpa using c
   rw[NC c]at h2;refine⟨aJ hk ln,k+1,⟨by omega,h2⟩,by omega,by omega,by trivial,by trivial,trivial⟩
 ·replace h:¬((k:Int)<(l.length:Int)):=fun e=>h (Xd e);have e:k=l.length:=by omega
  subst e;rw[NN,bj]at h2;rw[<-h2];exact Xr
theorem Dw(n:Nat)(l:List Shape) (ho:∀x∈l,sz x<=n) :
  (∀(x:Shape),x∈l->sz x<=n)/\True/\decide ((0:Int)<=bj (allS aQ) l (0:Nat))=!List.all l (allS aQ)/\True:=by
 exact⟨ho,trivial,ji (allS aQ) l 0,trivial⟩
theorem JE(n:Nat)(l:List Shape) (ho:∀x∈l,sz x<=n) :
  (∀(x:Shape),x∈l->sz x<=n)/\True/\(!!List.all l (allS aQ))=List.all l (allS aQ)/\True:=by
 exact⟨ho,trivial,Rc _,trivial⟩
theorem Lr(n:Nat)(s:Shape)(ho:sz s<=n+1) :
  if(!decide (s.kind=(10:Int)))=true then(∀(x:Shape),x∈s.parts->sz x<=n)/\True/\List.all s.parts (allS aQ)=allS aQ s/\True else True/\false=allS aQ s/\True:=by
 have e0:allS aQ s=(aQ s&&s.parts.all (allS aQ)):=by rw[allS_eq,allL_all]
 have h0:=iF s;have hm:∀x∈s.parts,sz x<=n:=fun x hx=>by have:=eo hx;omega
 rw[e0];apply aa<;>intro h
 ·have h:aQ s=true:=h;rw[h,Og];exact⟨hm,trivial,rfl,trivial⟩
 ·have h:aQ s=false:=by simpa[aQ]using h
  rw[h];exact Xr
theorem GM(s:Shape)  :
  let A:=(decide (ay s=(0:Int))&&allS aQ s);if decide (ay s=(0:Int))=true then sz s<=(400:Nat)/\True/\allS aQ s=A/\True else True/\false=A/\True:=by
 conv=>zeta
 apply aa<;>intro h
 ·have h:ay s=0:=by simpa using h
  refine⟨?_,trivial,by simp[h],trivial⟩;unfold ay at h;by_cases c:400<sz s
  ·rw[NC c]at h;exact absurd h (by decide)
  ·omega
 ·have h:¬ay s=0:=by simpa using h
  exact⟨trivial,by simp[h],trivial⟩
theorem MJ(t:Trm)  :
  let A:=(↑(List.length t.names):Int);let B:=(↑(List.length t.vars):Int);let C:=(↑(List.length t.shapes):Int);let D:=(↑(List.length t.parts):Int);True/\A=A/\B=B/\C=C/\D=D/\True:=by
 conv=>zeta
 exact Xr
theorem JF(s:Str)(hs:Wf .str s) :
  let A:=dc s;let B:=(↑(List.length A):Int);let C:=s=s/\dc s=dc s/\B=B/\True;let D:=dfl (Ty.int IntKind.u8);let E:=(1:Int);(∃(x:Nat),(x<=List.length s/\List.all s jj=List.all (List.drop x s) jj)/\(0:Int)=(↑x:Int)/\C)/\∀(x:Nat),let F:=(↑x:Int);let G:=Int.toNat F;let H:=inR IntKind.i64 (F+E)/\∃(y:Nat),(y<=List.length s/\List.all s jj=List.all (List.drop y s) jj)/\List.length s-y<List.length s-x/\F+E=(↑y:Int)/\C;x<=List.length s/\List.all s jj=List.all (List.drop x s) jj->if decide (F<B)=true then((0:Int)<=F/\F<B)/\if decide (List.getD A G D<(32:Int))=true then if(!decide (List.getD A G D=(10:Int)))=true then if(!decide (List.getD A G D=(9:Int)))=true then True/\false=tU s/\True else H else H else H else True/\Option.isNone (tL s)=tU s/\True:=by
 conv=>zeta
 have ln:=hs.str;have hbl:(dc s).length=s.length:=Ox _;simp only[hbl,NQ];refine⟨⟨0,⟨NU _,rfl⟩,?_⟩,?_⟩
 ·exact Xr
 rintro k ⟨h1,h2⟩;apply aa<;>intro h
 ·have hk:k<s.length:=by have:=Xo h;omega
  rw[ak s k 0 hk,Oe]at h2;have hq:=G4 (s.getD k 0);simp only[zU s k hk]
  have yes:¬(bI (s.getD k 0)<32/\bI (s.getD k 0)≠10/\bI (s.getD k 0)≠9)->s.all jj=(s.drop (k+1)).all jj:=fun e=>by
   have:jj (s.getD k 0)=true:=by
    cases hh:jj (s.getD k 0)with|true=>rfl|false=>exact absurd (hq.1 hh) e
   rw[h2,this,Og]
  refine⟨⟨by omega,by omega⟩,?_⟩
  repeat' (apply aa<;>intro _)
  all_goals (simp only[NA,NI,O6]at *)
  all_goals first
   |(refine⟨trivial,?_,trivial⟩;unfold tU;rw[h2,hq.2 (by omega),NT,NT])
   |(refine⟨aJ hk ln,k+1,⟨by omega,yes (by omega)⟩,by omega,by omega,?_⟩;exact Xr)
 ·have hk:k=s.length:=by have:¬((k:Int)<(s.length:Int)):=fun e=>h (Xd e);omega
  refine⟨trivial,?_,trivial⟩;unfold tU;rw[h2,hk,NN];rfl
theorem AH (x:Shape)  :
  True/\(!(decide (ay x=(0:Int))&&allS aQ x))=!cY x/\True:=by
 exact⟨trivial,by trivial,trivial⟩
theorem AI (l:List Shape) (hl:Wf (.lst (.st .shape)) l) :
  let A:=(0:Nat);let B:=(↑(List.length l):Int);let C:=l=l/\B=B/\True;(∃(x:Nat),(x<=List.length l/\bj cY (List.drop x l) x=bj cY l A)/\(0:Int)=(↑x:Int)/\C)/\∀(x:Nat),let D:=(↑x:Int);x<=List.length l/\bj cY (List.drop x l) x=bj cY l A->if decide (D<B)=true then((0:Int)<=D/\D<B)/\if(!cY (List.getD l (Int.toNat D) (dfl (Ty.st SN.shape))))=true then True/\D=bj cY l A/\True else inR IntKind.i64 (D+(1:Int))/\∃(y:Nat),(y<=List.length l/\bj cY (List.drop y l) y=bj cY l A)/\List.length l-y<List.length l-x/\D+(1:Int)=(↑y:Int)/\C else True/\(-1:Int)=bj cY l A/\True:=by
 conv=>zeta
 have ln:=hl.len;simp only[NQ];refine⟨⟨0,⟨NU _,by simp⟩,rfl,by trivial,by trivial,trivial⟩,?_⟩;rintro k ⟨h1,h2⟩;apply aa<;>intro h
 ·replace h:=Xo h;have hk:k<l.length:=by omega
  rw[ak l k (dfl (.st .shape)) hk,bj]at h2;refine⟨by omega,aa (fun c=>?_) (fun c=>?_)⟩
  ·have c:cY (l.getD k (dfl (.st .shape)))=false:=by simpa using c
   rw[c,Ny Oz]at h2;rw[<-h2];exact Xr
  ·have c:cY (l.getD k (dfl (.st .shape)))=true:=by simpa using c
   rw[NC c]at h2;refine⟨aJ hk ln,k+1,⟨by omega,h2⟩,by omega,by omega,by trivial,by trivial,trivial⟩
 ·replace h:¬((k:Int)<(l.length:Int)):=fun e=>h (Xd e);have e:k=l.length:=by omega
  subst e;rw[NN,bj]at h2;rw[<-h2];exact Xr
theorem AJ (l:List Shape)  :
  True/\decide ((0:Int)<=bj cY l (0:Nat))=!List.all l cY/\True:=by
 exact⟨trivial,ji cY l 0,trivial⟩
theorem GN (l:List Shape)  :
  True/\(!!List.all l cY)=List.all l cY/\True:=by
 exact⟨trivial,Rc _,trivial⟩
theorem JG(t:Trm)(ht:Wf (.st .term) t)(ho:t.names.length<=8796093022208) :
  let A:=(0:Int);let B:=(↑(List.length t.names):Int);let C:=(↑(List.length t.vars):Int);let D:=(↑(List.length t.shapes):Int);let E:=(↑(List.length t.parts):Int);let F:=True;let G:=t=t/\false=false/\t=t/\B=B/\C=C/\D=D/\E=E/\F;let H:=true=!qK t/\G;let I:=(1:Int);let J:=(!List.all t.shapes cY)=!qK t/\G;let K:=if(!decide (t.pkg=[]))=true then if(!decide (t.kind=(5:Int)))=true then H else J else J;let L:=F/\false=aq t/\F;let M:=F/\(decide (B=A)&&(decide (C=A)&&(decide (D=A)&&(decide (E=A)&&true))))=aq t/\F;let N:=if decide (t.name=[])=true then M else L;let O:=List.length t.names*(16:Nat)<=(140737488355328:Nat);let P:=decide (E=I)&&true;let Q:=decide (E=E)&&true;let R:=F/\(decide (B=A)&&(decide (C=A)&&(decide (D=A)&&P)))=aq t/\F;let S:=if aX t.name=true then R else L;let T:=inR IntKind.i64 (B+I);let U:=if eF t.name=true then R else L;(if decide (t.pos<A)=true then H else if(!decide (t.n=A))=true then if(!decide (t.kind=I))=true then H else K else K)/\if(!qK t)=true then L else if decide (t.kind=I)=true then if decide (t.name=[])=true then if decide (A<=t.n)=true then if decide (t.n<=(999999999999999:Int))=true then M else L else L else L else if decide (t.kind=(2:Int))=true then if tU t.name=true then M else L else if decide (t.kind=(3:Int))=true then N else if decide (t.kind=(4:Int))=true then N else if decide (t.kind=(5:Int))=true then if aX t.name=true then if decide (t.pkg=[])=true then M else if aX t.pkg=true then M else L else L else if decide (t.kind=(6:Int))=true then if decide (t.name=[])=true then if decide (B<=(4096:Int))=true then O/\if(List.all t.names aX&&decide (List.Nodup t.names))=true then F/\(decide (B=B)&&(decide (C=A)&&(decide (D=B)&&P)))=aq t/\F else L else L else L else if decide (t.kind=(7:Int))=true then if decide (t.name=[])=true then if decide (A<E)=true then F/\(decide (B=A)&&(decide (C=A)&&(decide (D=A)&&Q)))=aq t/\F else L else L else if decide (t.kind=(8:Int))=true then if decide (t.name=[])=true then O/\if(List.all t.names aX&&decide (List.Nodup t.names))=true then F/\(decide (B=B)&&(decide (C=A)&&(decide (D=A)&&(decide (E=B)&&true))))=aq t/\F else L else L else if decide (t.kind=(9:Int))=true then S else if decide (t.kind=(10:Int))=true then S else if decide (t.kind=(11:Int))=true then if decide (t.name=[])=true then F/\(decide (B=A)&&(decide (C=A)&&(decide (D=I)&&Q)))=aq t/\F else L else if decide (t.kind=(12:Int))=true then if decide (t.name=[])=true then F/\(decide (B=A)&&(decide (C=A)&&(decide (D=I)&&(decide (E=(3:Int))&&true))))=aq t/\F else L else if decide (t.kind=(13:Int))=true then if decide (t.name=[])=true then O/\if(List.all t.names aX&&decide (List.Nodup t.names))=true then if List.all t.vars aX=true then T/\T/\F/\(decide (B=B)&&(decide (C=B)&&(decide (D=B+I)&&(decide (E=B+I)&&true))))=aq t/\F else L else L else L else if decide (t.kind=(14:Int))=true then if aX t.name=true then F/\(decide (B=A)&&(decide (C=A)&&(decide (D=A)&&(decide (E=(2:Int))&&true))))=aq t/\F else L else if decide (t.kind=(15:Int))=true then if decide (t.name=[])=true then F/\(decide (B=A)&&(decide (C=A)&&(decide (D=I)&&P)))=aq t/\F else L else if decide (t.kind=(16:Int))=true then U else if decide (t.kind=(17:Int))=true then U else L:=by
 conv=>zeta
 refine⟨?_,aa (fun h=>?_) (fun h=>?_)⟩
 ·unfold qK
  repeat' (apply aa<;>intro _)
  all_goals simp_all
 ·have h:qK t=false:=by simpa using h
  unfold aq;rw[h];exact Xr
 have h:qK t=true:=by simpa using h
 have e0:aq t=EL t:=by unfold aq;rw[h,Og]
 rw[e0];clear h e0;unfold EL iN xO;simp only[dnZ,dn1,dn2,dn3,dnN,dnS,dnL,dnP];generalize t.names.all aX=na;generalize t.vars.all aX=va
 repeat' (first|apply aa<;>intro _|refine⟨by omega,?_⟩|refine⟨aN (by omega) (by omega),?_⟩|fail)
 all_goals (refine⟨trivial,?_,trivial⟩;try simp_all)
 all_goals first|(simp only[R0];done)|(intros;omega)
theorem AK(n:Nat)(x:Trm) (ho:szT x<=n/\cn x=true) :
  (szT x<=n/\cn x=true)/\True/\(!allT aq x)=!allT aq x/\True:=by
 exact⟨ho,trivial,by trivial,trivial⟩
theorem AM(n:Nat)(l:List Trm) (hl:Wf (.lst (.st .term)) l)(ho:∀x∈l,szT x<=n/\cn x=true) :
  let A:=allT aq;let B:=(0:Nat);let C:=(↑(List.length l):Int);let D:=l=l/\C=C/\True;let E:=dfl (Ty.st SN.term);(∃(x:Nat),(x<=List.length l/\bj A (List.drop x l) x=bj A l B)/\(0:Int)=(↑x:Int)/\D)/\∀(x:Nat),let F:=(↑x:Int);let G:=List.getD l (Int.toNat F) E;x<=List.length l/\bj A (List.drop x l) x=bj A l B->if decide (F<C)=true then((0:Int)<=F/\F<C)/\(szT G<=n/\cn G=true)/\if(!allT aq G)=true then True/\F=bj A l B/\True else inR IntKind.i64 (F+(1:Int))/\∃(y:Nat),(y<=List.length l/\bj A (List.drop y l) y=bj A l B)/\List.length l-y<List.length l-x/\F+(1:Int)=(↑y:Int)/\D else True/\(-1:Int)=bj A l B/\True:=by
 conv=>zeta
 have ln:=hl.len;simp only[NQ];refine⟨⟨0,⟨NU _,by simp⟩,rfl,by trivial,by trivial,trivial⟩,?_⟩;rintro k ⟨h1,h2⟩;apply aa<;>intro h
 ·replace h:=Xo h;have hk:k<l.length:=by omega
  rw[ak l k (dfl (.st .term)) hk,bj]at h2;refine⟨by omega,ho _ (getD_mem l k _ hk),aa (fun c=>?_) (fun c=>?_)⟩
  ·have c:(allT aq) (l.getD k (dfl (.st .term)))=false:=by simpa using c
   rw[c,Ny Oz]at h2;rw[<-h2];exact Xr
  ·have c:(allT aq) (l.getD k (dfl (.st .term)))=true:=by simpa using c
   rw[NC c]at h2;refine⟨aJ hk ln,k+1,⟨by omega,h2⟩,by omega,by omega,by trivial,by trivial,trivial⟩
 ·replace h:¬((k:Int)<(l.length:Int)):=fun e=>h (Xd e);have e:k=l.length:=by omega
  subst e;rw[NN,bj]at h2;rw[<-h2];exact Xr
theorem AN(n:Nat)(l:List Trm) (ho:∀x∈l,szT x<=n/\cn x=true) :
  (∀(x:Trm),x∈l->szT x<=n/\cn x=true)/\True/\decide ((0:Int)<=bj (allT aq) l (0:Nat))=!List.all l (allT aq)/\True:=by
 exact⟨ho,trivial,ji (allT aq) l 0,trivial⟩
theorem GO(n:Nat)(l:List Trm) (ho:∀x∈l,szT x<=n/\cn x=true) :
  (∀(x:Trm),x∈l->szT x<=n/\cn x=true)/\True/\(!!List.all l (allT aq))=List.all l (allT aq)/\True:=by
 exact⟨ho,trivial,Rc _,trivial⟩
theorem GP(n:Nat)(t:Trm)(ho:szT t<=n+1/\cn t=true) :
  List.length t.names<=(8796093022208:Nat)/\if aq t=true then(∀(x:Trm),x∈t.parts->szT x<=n/\cn x=true)/\True/\List.all t.parts (allT aq)=allT aq t/\True else True/\false=allT aq t/\True:=by
 obtain⟨h1,h2⟩:=ho;have e0:allT aq t=(aq t&&t.parts.all (allT aq)):=by rw[allT_eq,allTL_all]
 have h0:=nV t;rw[e0];refine⟨CO h2,aa (fun h=>?_) (fun h=>?_)⟩
 ·rw[h,Og];exact⟨fun x hx=>⟨by have:=mN hx;omega,G3 h2 hx⟩,trivial,rfl,trivial⟩
 ·have h:aq t=false:=by simpa using h
  rw[h];exact Xr
theorem GQ(x:Trm)(ho:cn x=true) :
  let A:=szT x<=szT x;let B:=(4096:Int);let C:=True;(A/\(0:Int)<=B/\B<=(1000000:Int))/\if decide (B<(countT x B).1)=true then C/\(3:Int)=dx x/\C else if decide ((40:Int)<(countT x B).2)=true then C/\(91:Int)=dx x/\C else(A/\cn x=true)/\if(!allT aq x)=true then C/\(80:Int)=dx x/\C else C/\(0:Int)=dx x/\C:=by
 conv=>zeta
 refine⟨⟨NK _,by omega,by omega⟩,aa (fun h=>?_) (fun h=>?_)⟩
 ·replace h:=Xo h;unfold dx;rw[NC h];exact Xr
 have h:¬_:=fun e=>h (Xd e);have e1:dx x=if 40<(countT x 4096).2 then 91 else if allT aq x=true then 0 else 80:=by unfold dx;rw[Ny h]
 apply aa<;>intro k
 ·rw[NC (Xo k)]at e1;rw[e1];exact Xr
 rw[Ny (fun e=>k (Xd e))]at e1;refine⟨⟨NK _,ho⟩,aa (fun j=>?_) (fun j=>?_)⟩
 ·have j:allT aq x=false:=by simpa using j
  rw[j,Ny Oz]at e1;rw[e1];exact Xr
 ·have j:allT aq x=true:=by simpa using j
  rw[NC j]at e1;rw[e1];exact Xr
theorem JH(n:Nat)(s:Trm)(m:Int)(hs:Wf (.st .term) s)(ho:szT s<=n+1/\0<=m/\m<=1000000) :
  let A:=(1:Int);let B:=(0:Int);let C:=s=s/\m=m/\B=B/\s=s/\True;let D:=(↑(List.length s.parts):Int);let E:=dfl (Ty.st SN.term);(∃(x:Nat×Int),(x.1<=List.length s.parts/\A<=x.2/\x.2<=m+A/\sizeTL (List.drop x.1 s.parts) x.2 m=fg s m)/\A=x.2/\B=(↑x.1:Int)/\C)/\∀(x:Nat×Int),let F:=(↑x.1:Int);let G:=m-x.2;let H:=List.getD s.parts (Int.toNat F) E;let I:=True/\x.2=fg s m/\True;x.1<=List.length s.parts/\A<=x.2/\x.2<=m+A/\sizeTL (List.drop x.1 s.parts) x.2 m=fg s m->if decide (F<D)=true then if decide (x.2<=m)=true then(B<=F/\F<D)/\inR IntKind.i64 G/\(szT H<=n/\B<=m-x.2/\m-x.2<=(1000000:Int))/\inR IntKind.i64 (x.2+fg H G)/\inR IntKind.i64 (F+A)/\∃(y:Nat×Int),(y.1<=List.length s.parts/\A<=y.2/\y.2<=m+A/\sizeTL (List.drop y.1 s.parts) y.2 m=fg s m)/\List.length s.parts-y.1<List.length s.parts-x.1/\x.2+fg H G=y.2/\F+A=(↑y.1:Int)/\C else I else I:=by
 conv=>zeta
 have ln:=hs.term_parts.len;have hz:=nV s;obtain⟨ho1,ho2,ho3⟩:=ho;have h0:sizeTL s.parts 1 m=fg s m:=by cases s;rw[fg]
 simp only[NQ,P1,Oo,Oc];refine⟨⟨(0,1),⟨NU _,by omega,by omega,h0⟩,rfl,rfl⟩,?_⟩;rintro⟨k,c⟩ ⟨h1,h2,h3,h4⟩;simp only at h1 h2 h3 h4⊢;apply aa<;>intro hk
 ·replace hk:=Xo hk;have hk:k<s.parts.length:=by omega
  have hm:=mN (getD_mem s.parts k (dfl (.st .term)) hk);rw[ak s.parts k (dfl (.st .term)) hk]at h4;simp only[sizeTL]at h4;apply aa<;>intro hc
  ·replace hc:=Xo hc;rw[NC hc]at h4;have hb:=sizeT_bd (s.parts.getD k (dfl (.st .term))) (m-c) (by omega);exact⟨by omega,aN (by omega) (by omega),by omega,aN (by omega) (by omega),aJ hk ln,(k+1,_),⟨by omega,by simp only;omega,by simp only;omega,h4⟩,by simp only;omega,rfl,rfl⟩
  ·rw[Ny (fun e=>hc (Xd e))]at h4;exact h4
 ·replace hk:¬((k:Int)<(s.parts.length:Int)):=fun e=>hk (Xd e);have e:k=s.parts.length:=by omega
  subst e;rw[NN]at h4;simp only[sizeTL]at h4;exact h4
theorem Dx(s:Str)  :
  if(!decide (s=[]))=true then([48,49,50,51,52,53,54,55,56,57]:Str)=rv/\True/\decide (nt s=[])=cO s/\True else True/\false=cO s/\True:=by
 have e:∀l:Str,(l.all nr)=l.all fun c=>iJ (bI c):=fun _=>rfl;apply aa<;>intro h
 ·refine⟨rfl,trivial,?_,trivial⟩;unfold cO;rw[h,Og,<-e];exact Bool.eq_iff_iff.2 (decide_eq_true_iff.trans (FX s))
 ·refine⟨trivial,?_,trivial⟩;unfold cO;rw[Q3]at h;rw[h,NT]
theorem JI(s:Str)(hs:Wf .str s) :
  let A:=True/\false=gK s/\True;let B:=(0:Int);let C:=(↑(List.length s):Int);let D:=(0:UInt8);let E:=(List.all s fun(c:UInt8)=>jo (bI c));let F:=s=s/\false=false/\C=C/\True;let G:=(1:Int);let H:=(65:Int);let I:=(90:Int);let J:=(45:Int);let K:=(∃(x:Nat),(x<=List.length s/\E=List.all (List.drop x s) fun(c:UInt8)=>jo (bI c))/\B=(↑x:Int)/\F)/\∀(x:Nat),let L:=(↑x:Int);let M:=(↑(UInt8.toNat (List.getD s (Int.toNat L) D)):Int);let N:=inR IntKind.i64 (L+G)/\∃(y:Nat),(y<=List.length s/\E=List.all (List.drop y s) fun(c:UInt8)=>jo (bI c))/\List.length s-y<List.length s-x/\L+G=(↑y:Int)/\F;let O:=if(!decide (M=J))=true then A else N;let P:=if decide (H<=M)=true then if decide (M<=I)=true then N else O else O;let Q:=if decide ((97:Int)<=M)=true then if decide (M<=(122:Int))=true then N else P else P;(x<=List.length s/\E=List.all (List.drop x s) fun(c:UInt8)=>jo (bI c))->if decide (L<C)=true then(B<=L/\L<C)/\if decide ((48:Int)<=M)=true then if decide (M<=(57:Int))=true then N else Q else Q else True/\true=gK s/\True;if decide (s=[])=true then A else if cO s=true then(B<=B/\B<C)/\if decide ((↑(UInt8.toNat (List.getD s (Int.toNat B) D)):Int)=(48:Int))=true then if(!decide (s=([48]:Str)))=true then A else K else K else K:=by
 conv=>zeta
 apply aa<;>intro h
 ·replace h:=Xo h;subst h;exact Xr
 have hne:s≠[]:=fun e=>h (Xd e);have hpos:=P4.2 hne;apply aa<;>intro h1
 ·refine⟨⟨by omega,by omega⟩,aa (fun h2=>?_) (fun h2=>?_)⟩
  ·apply aa<;>intro h3
   ·refine⟨trivial,?_,trivial⟩;have e:decide (bI (s.getD 0 0)=48)=true:=h2;unfold gK;rw[h1,e,h3];simp
   ·have hz:(cO s&&decide (bI (s.getD 0 0)=48)&&!decide (s=[48]))=false:=by rw[Q3]at h3;rw[h3,OA]
    refine⟨⟨0,⟨NU _,rfl⟩,rfl,rfl,rfl,rfl,trivial⟩,?_⟩;rintro k ⟨h1,h2⟩;simp only[NQ];apply aa<;>intro h
    ·have hk:k<s.length:=by have:=Xo h;omega
     rw[ak s k 0 hk,Oe]at h2;have eb:((s.getD k 0).toNat:Int)=bI (s.getD k 0):=rfl;refine⟨⟨by omega,by omega⟩,?_⟩;simp only[eb];have hp:=tN (bI (s.getD k 0));have yes:jo (bI (s.getD k 0))=true->(s.all fun c=>jo (bI c))=(s.drop (k+1)).all fun c=>jo (bI c):=fun e=>by rw[h2,e,Og]
     have no:¬jo (bI (s.getD k 0))=true->false=gK s:=fun e=>by rw[kf hne hz,h2,P5.2 e,NT]
     generalize bI (s.getD k 0)=c at hp yes no⊢
     repeat' (apply aa<;>intro _)
     all_goals (simp only[NA,NI,O6]at *)
     all_goals first
      |exact⟨trivial,no (fun e=>by have:=hp.1 e;omega),trivial⟩
      |exact⟨aJ hk hs.str,k+1,⟨by omega,yes (hp.2 (by omega))⟩,by omega,by omega,(by first|rfl|trivial),(by first|rfl|trivial),(by first|rfl|trivial),trivial⟩
    ·have hk:k=s.length:=by have:¬((k:Int)<(s.length:Int)):=fun e=>h (Xd e);omega
     refine⟨trivial,?_,trivial⟩;rw[kf hne hz,h2,hk,NN];rfl
  ·have hz:(cO s&&decide (bI (s.getD 0 0)=48)&&!decide (s=[48]))=false:=by
    have e:decide (bI (s.getD 0 0)=48)=false:=by rw[Q3]at h2;exact h2
    rw[e,OA,NT]
   refine⟨⟨0,⟨NU _,rfl⟩,rfl,rfl,rfl,rfl,trivial⟩,?_⟩;rintro k ⟨h1,h2⟩;simp only[NQ];apply aa<;>intro h
   ·have hk:k<s.length:=by have:=Xo h;omega
    rw[ak s k 0 hk,Oe]at h2;have eb:((s.getD k 0).toNat:Int)=bI (s.getD k 0):=rfl;refine⟨⟨by omega,by omega⟩,?_⟩;simp only[eb];have hp:=tN (bI (s.getD k 0));have yes:jo (bI (s.getD k 0))=true->(s.all fun c=>jo (bI c))=(s.drop (k+1)).all fun c=>jo (bI c):=fun e=>by rw[h2,e,Og]
    have no:¬jo (bI (s.getD k 0))=true->false=gK s:=fun e=>by rw[kf hne hz,h2,P5.2 e,NT]
    generalize bI (s.getD k 0)=c at hp yes no⊢
    repeat' (apply aa<;>intro _)
    all_goals (simp only[NA,NI,O6]at *)
    all_goals first
     |exact⟨trivial,no (fun e=>by have:=hp.1 e;omega),trivial⟩
     |exact⟨aJ hk hs.str,k+1,⟨by omega,yes (hp.2 (by omega))⟩,by omega,by omega,(by first|rfl|trivial),(by first|rfl|trivial),(by first|rfl|trivial),trivial⟩
   ·have hk:k=s.length:=by have:¬((k:Int)<(s.length:Int)):=fun e=>h (Xd e);omega
    refine⟨trivial,?_,trivial⟩;rw[kf hne hz,h2,hk,NN];rfl
 ·have hz:(cO s&&decide (bI (s.getD 0 0)=48)&&!decide (s=[48]))=false:=by rw[Q3]at h1;rw[h1,NT,NT]
  refine⟨⟨0,⟨NU _,rfl⟩,rfl,rfl,rfl,rfl,trivial⟩,?_⟩;rintro k ⟨h1,h2⟩;simp only[NQ];apply aa<;>intro h
  ·have hk:k<s.length:=by have:=Xo h;omega
   rw[ak s k 0 hk,Oe]at h2;have eb:((s.getD k 0).toNat:Int)=bI (s.getD k 0):=rfl;refine⟨⟨by omega,by omega⟩,?_⟩;simp only[eb];have hp:=tN (bI (s.getD k 0));have yes:jo (bI (s.getD k 0))=true->(s.all fun c=>jo (bI c))=(s.drop (k+1)).all fun c=>jo (bI c):=fun e=>by rw[h2,e,Og]
   have no:¬jo (bI (s.getD k 0))=true->false=gK s:=fun e=>by rw[kf hne hz,h2,P5.2 e,NT]
   generalize bI (s.getD k 0)=c at hp yes no⊢
   repeat' (apply aa<;>intro _)
   all_goals (simp only[NA,NI,O6]at *)
   all_goals first
    |exact⟨trivial,no (fun e=>by have:=hp.1 e;omega),trivial⟩
    |exact⟨aJ hk hs.str,k+1,⟨by omega,yes (hp.2 (by omega))⟩,by omega,by omega,(by first|rfl|trivial),(by first|rfl|trivial),(by first|rfl|trivial),trivial⟩
  ·have hk:k=s.length:=by have:¬((k:Int)<(s.length:Int)):=fun e=>h (Xd e);omega
   refine⟨trivial,?_,trivial⟩;rw[kf hne hz,h2,hk,NN];rfl
theorem GR(v:Vers)(hv:Wf (.st .version) v) :
  let A:=(3:Nat);let B:=[v.major,v.minor,v.patch];let C:=(0:Int);let D:=(↑(List.length B):Int);let E:=v=v/\List.length B=List.length B/\True;let F:=v=v/\B=B/\D=D/\E;let G:=dfl (Ty.int IntKind.i64);let H:=True/\(40:Int)=ep v/\True;let I:=(1:Int);let J:=(46:UInt8);let K:=splitB J v.pre;let L:=(↑(List.length K):Int);let M:=v=v/\B=B/\D=D/\false=false/\false=false/\true=true/\splitB J v.pre=splitB J v.pre/\L=L/\E;let N:=True/\C=ep v/\True;(∃(x:Nat),(x<=A/\List.all (List.take x B) ry=true)/\C=(↑x:Int)/\F)/\∀(x:Nat),let O:=(↑x:Int);x<=A/\List.all (List.take x B) ry=true->if decide (O<D)=true then(C<=O/\O<D)/\if decide (List.getD B (Int.toNat O) G<C)=true then H else if decide ((999999:Int)<List.getD B (Int.toNat O) G)=true then H else inR IntKind.i64 (O+I)/\∃(y:Nat),(y<=A/\List.all (List.take y B) ry=true)/\A-y<A-x/\O+I=(↑y:Int)/\F else if decide ((24:Int)<(↑(List.length v.pre):Int))=true then H else if(!decide (v.pre=[]))=true then(([46]:Str)=([46]:Str)/\List.length v.pre<(4294967281:Nat))/\(∃(x_1:Nat),(x_1<=List.length K/\List.all (List.take x_1 K) gK=true)/\C=(↑x_1:Int)/\O=O/\M)/\∀(x_1:Nat),let P:=(↑x_1:Int);x_1<=List.length K/\List.all (List.take x_1 K) gK=true->if decide (P<L)=true then(C<=P/\P<L)/\if(!gK (List.getD K (Int.toNat P) (dfl Ty.str)))=true then H else inR IntKind.i64 (P+I)/\∃(y:Nat),(y<=List.length K/\List.all (List.take y K) gK=true)/\List.length K-y<List.length K-x_1/\P+I=(↑y:Int)/\O=O/\M else N else N:=by
 conv=>zeta
 have bad:∀k:Nat,k<3->ry ([v.major,v.minor,v.patch].getD k (dfl (.int .i64)))=false->True/\(40:Int)=ep v/\True:=fun k hk e=>
  ⟨trivial,(CL (zM (l:=[v.major,v.minor,v.patch]) (dfl (.int .i64)) hk e)).symm,trivial⟩
 refine⟨⟨0,⟨by omega,rfl⟩,?_⟩,?_⟩
 ·exact Xr
 rintro k ⟨h1,h2⟩;have l3:[v.major,v.minor,v.patch].length=3:=rfl;simp only[NQ,l3];apply aa<;>intro h
 ·have hk:k<3:=by have:=Xo h;omega
  have bk:=bad k hk;have gk:=nw (l:=[v.major,v.minor,v.patch]) (dfl (.int .i64)) hk h2;refine⟨⟨by omega,by omega⟩,?_⟩;refine aa (fun a=>bk ?_) (fun a=>aa (fun b=>bk ?_) (fun b=>?_))
  ·have:=Xo a;have e:¬0<=[v.major,v.minor,v.patch].getD k (dfl (.int .i64)):=by omega
   unfold ry;rw[Xf e,NT]
  ·have:=Xo b;have e:¬[v.major,v.minor,v.patch].getD k (dfl (.int .i64))<=999999:=by omega
   unfold ry;rw[Xf e,OA]
  ·have a:¬[v.major,v.minor,v.patch].getD k (dfl (.int .i64))<0:=fun e=>a (Xd e);have b:¬999999<[v.major,v.minor,v.patch].getD k (dfl (.int .i64)):=fun e=>b (Xd e);have a':0<=[v.major,v.minor,v.patch].getD k (dfl (.int .i64)):=by omega
   have b':[v.major,v.minor,v.patch].getD k (dfl (.int .i64))<=999999:=by omega
   refine⟨aN (by omega) (by omega),k+1,⟨by omega,gk ?_⟩,by omega,by omega,?_⟩
   ·unfold ry;rw[Xd a',Xd b'];rfl
   ·exact Xr
 ·have hk:k=3:=by have:¬((k:Int)<((3:Nat):Int)):=fun e=>h (Xd e);omega
  subst hk;have hg:=zN h2;apply aa<;>intro a
  ·have:=Xo a;rw[NC (by omega)]at hg;rw[hg];exact Xr
  have a:¬(24:Int)<(v.pre.length:Int):=fun e=>a (Xd e);have hl:=fH 46 v.pre;rw[Ny (by omega)]at hg;apply aa<;>intro b
  ·have b:¬v.pre=[]:=by simpa using b
   rw[Ny b]at hg;refine⟨⟨(by first|rfl|trivial),by omega⟩,⟨0,⟨by omega,rfl⟩,?_⟩,?_⟩
   ·exact Xr
   rintro j ⟨j1,j2⟩;apply aa<;>intro c
   ·have hj:j<(splitB 46 v.pre).length:=by have:=Xo c;omega
    refine⟨⟨by omega,by omega⟩,aa (fun d=>?_) (fun d=>?_)⟩
    ·have d:gK ((splitB 46 v.pre).getD j (dfl .str))=false:=by simpa using d
     rw[zM (dfl .str) hj d,Ny Oz]at hg;rw[hg];exact Xr
    ·have d:gK ((splitB 46 v.pre).getD j (dfl .str))=true:=by simpa using d
     refine⟨aN (by omega) (by omega),j+1,⟨by omega,nw (dfl .str) hj j2 d⟩,by omega,by omega,?_⟩;exact Xr
   ·have hj:(splitB 46 v.pre).length<=j:=by have:¬((j:Int)<((splitB 46 v.pre).length:Int)):=fun e=>c (Xd e);omega
    rw[Iy hj]at j2;rw[NC j2]at hg;rw[hg];exact Xr
  ·have b:v.pre=[]:=by simpa using b
   rw[NC b]at hg;rw[hg];exact Xr
theorem GS(l:List Bndg)(hl:Wf (.lst (.st .bind)) l)(ho:l.length *120<=140737488355328) :
  let A:=([]:List Bndg);∀(b:Bool),(b=true->l=[])->if b=true then True/\l=[]/\List.length l=(0:Nat)/\True else(List.length A=List.length A/\(List.length A+List.length l)*(120:Nat)<=(140737488355328:Nat))/\True/\[]++l=l/\List.length ([]++l)=List.length l/\True:=by
 conv=>zeta
 intro b hb;apply aa<;>intro h
 ·have:=hb h;exact⟨trivial,this,by rw[this];rfl,trivial⟩
 ·exact⟨⟨rfl,by simp only[Ou];omega⟩,trivial,rfl,rfl,trivial⟩
theorem Ls(e:Envt)(l:List Bndg)(he:Wf (.st .env) e)(hl:Wf (.lst (.st .bind)) l)(ho:e.values.length<=1000000000/\l.length<=1000) :
  let A:=(140737488355328:Nat);let B:=bY e l;List.length e.values*(120:Nat)<=A/\(List.length e.values=List.length e.values/\(List.length e.values+List.length l)*(120:Nat)<=A)/\True/\e.self=B.self/\e.types=B.types/\e.values++l=e.values++l/\e.own=B.own/\True:=by
 conv=>zeta
 obtain⟨h1,h2⟩:=ho;exact⟨by omega,⟨rfl,by omega⟩,trivial,rfl,rfl,rfl,rfl,trivial⟩
theorem GU(a b:Shape)(f:Bool)  :
  True/\(f==decide (a.kind=(6:Int)))=decide (f=decide (a.kind=(6:Int)))/\True:=by
 exact Xr
theorem JJ   :
  True/\True:=by
 exact Xr
theorem JK(s:Shape)(m:Str)(hs:Wf (.st .shape) s)(ho:aS s=true) :
  let A:=(0:Int);let B:=A<=cw s.names m A;if decide (B)=true then(B/\cw s.names m A<(↑(List.length s.parts):Int))/\True/\some (List.getD s.parts (Int.toNat (cw s.names m A)) (dfl (Ty.st SN.shape)))=bR s m/\True else True/\bR s m=none/\True:=by
 conv=>zeta
 rcases IU m (dfl (.st .shape)) ho with⟨h1,h2⟩|⟨h1,h2,h3⟩
 ·refine aa (fun h=>absurd (Xo h) h1) (fun _=>⟨trivial,h2,trivial⟩)
 ·exact aa (fun _=>⟨⟨h1,h2⟩,trivial,h3.symm,trivial⟩) (fun h=>absurd (Xd h1) h)
theorem GV(m:Str)(s:Shape)(ho:aS s=true) :
  aS s=true/\True/\Option.isNone (bR s m)=Option.isNone (bR s m)/\s=s/\True:=by
 exact⟨ho,trivial,rfl,rfl,trivial⟩
theorem JL(a b:Shape)  :
  let A:=(decide (ay a=(0:Int))&&decide (ay b=(0:Int)));if decide (ay a=(0:Int))=true then True/\decide (ay b=(0:Int))=A/\True else True/\false=A/\True:=by
 conv=>zeta
 cases decide (ay a=0)<;>simp
theorem Lt(l:List Str)(s:Shape)(hl:Wf (.lst .str) l)(ho:aS s=true) :
  let A:=(fun(m:Str)=>Option.isSome (bR s m));let B:=(0:Nat);let C:=(↑(List.length l):Int);let D:=s=s/\True;let E:=l=l/\C=C/\D;(∃(x:Nat),(x<=List.length l/\bj A (List.drop x l) x=bj A l B)/\(0:Int)=(↑x:Int)/\E)/\∀(x:Nat),let F:=(↑x:Int);x<=List.length l/\bj A (List.drop x l) x=bj A l B->if decide (F<C)=true then((0:Int)<=F/\F<C)/\aS s=true/\if Option.isNone (bR s (List.getD l (Int.toNat F) (dfl Ty.str)))=true then True/\F=bj A l B/\D else inR IntKind.i64 (F+(1:Int))/\∃(y:Nat),(y<=List.length l/\bj A (List.drop y l) y=bj A l B)/\List.length l-y<List.length l-x/\F+(1:Int)=(↑y:Int)/\E else True/\(-1:Int)=bj A l B/\D:=by
 conv=>zeta
 have ln:=hl.len;simp only[NQ,P1,Oo,Oc];refine⟨⟨0,⟨NU _,by simp⟩,rfl⟩,?_⟩;rintro k ⟨h1,h2⟩;apply aa<;>intro h
 ·replace h:=Xo h;have hk:k<l.length:=by omega
  rw[ak l k (dfl .str) hk,bj]at h2;refine⟨by omega,ho,aa (fun c=>?_) (fun c=>?_)⟩
  ·have c:(bR s (l.getD k (dfl .str))).isSome=false:=by rw[Option.isNone_iff_eq_none]at c;rw[c];rfl
   rw[c,Ny Oz]at h2;exact h2
  ·have c:(bR s (l.getD k (dfl .str))).isSome=true:=by cases hp:bR s (l.getD k (dfl .str))with|none=>rw[hp]at c;exact absurd rfl c|some x=>rfl
   rw[NC c]at h2;exact⟨aJ hk ln,k+1,⟨by omega,h2⟩,by omega,by omega⟩
 ·replace h:¬((k:Int)<(l.length:Int)):=fun e=>h (Xd e);have e:k=l.length:=by omega
  subst e;rw[NN,bj]at h2;exact h2
theorem Lu(l:List Str)(s:Shape)(ho:aS s=true) :
  aS s=true/\True/\(decide ((0:Int)<=bj (fun(m:Str)=>Option.isSome (bR s m)) l (0:Nat))=!List.all l fun(m:Str)=>Option.isSome (bR s m))/\s=s/\True:=by
 exact⟨ho,trivial,ji _ l 0,rfl,trivial⟩
theorem JM(n:Nat)(a b:Shape)(ha:Wf (.st .shape) a)(hb:Wf (.st .shape) b)(hn:sz a+sz b<=n+1)(oa:allS aS a=true)(ob:allS aS b=true) :
  let A:=True;let B:=(n+(1:Nat));let C:=A/\true=cJ B a b/\A;let D:=A/\false=cJ B a b/\A;let E:=(decide (a.kind=(6:Int))||decide (a.kind=(7:Int)));let F:=false=false;let G:=a=a/\b=b/\A;let H:=a=a/\b=b/\F/\F/\F/\G;let I:=cJ n;let J:=(decide (a.kind=(7:Int)));let K:=(0:Int);let L:=(↑(List.length a.names):Int);let M:=true=true/\a=a/\b=b/\F/\F/\a.names=a.names/\L=L/\G;let N:=dfl Ty.str;let O:=(↑(List.length a.parts):Int);let P:=dfl (Ty.st SN.shape);let Q:=(1:Int);let R:=(↑(List.length b.parts):Int);let S:=(decide (a.kind=(8:Int)));let T:=F/\a=a/\b=b/\F/\F/\F/\O=O/\G;if decide (a.kind=(4:Int))=true then C else if decide (b.kind=(4:Int))=true then C else if(!decide (a.kind=b.kind))=true then D else if(!decide (a.pkg=b.pkg))=true then D else if(!decide (a.name=b.name))=true then D else(if decide (a.kind=(6:Int))=true then true=E/\H else decide (a.kind=(7:Int))=E/\H)/\if E=true then(∃(x:Nat),(x<=List.length a.names/\iO I J b (List.drop x a.names) (List.drop x a.parts)=iO I J b a.names a.parts)/\K=(↑x:Int)/\M)/\∀(x:Nat),let U:=(↑x:Int);let V:=bR b (List.getD a.names (Int.toNat U) N);let W:=List.getD a.parts (Int.toNat U) P;let X:=Option.getD V P;let Y:=inR IntKind.i64 (U+Q)/\∃(y:Nat),(y<=List.length a.names/\iO I J b (List.drop y a.names) (List.drop y a.parts)=iO I J b a.names a.parts)/\List.length a.names-y<List.length a.names-x/\U+Q=(↑y:Int)/\M;let Z:=if Option.isSome V=true then(K<=U/\U<O)/\Option.isSome V=true/\(sz W+sz X<=n/\allS aS W=true/\allS aS X=true)/\if(!cJ n W X)=true then D else Y else Y;x<=List.length a.names/\iO I J b (List.drop x a.names) (List.drop x a.parts)=iO I J b a.names a.parts->if decide (U<L)=true then(K<=U/\U<L)/\aS b=true/\if Option.isNone V=true then if(!decide (true=decide (a.kind=(6:Int))))=true then D else Z else Z else if decide (false=decide (b.kind=(6:Int)))=true then C else aS a=true/\A/\(!!List.all b.names fun(m:Str)=>Option.isSome (bR a m))=cJ B a b/\A else if(!decide (O=R))=true then D else(∃(x:Nat),(x<=List.length a.parts/\cJ B a b=ny I S (List.drop x a.parts) (List.drop x b.parts))/\K=(↑x:Int)/\T)/\∀(x:Nat),let U:=(↑x:Int);let V:=List.getD b.parts (Int.toNat U) P;let W:=List.getD a.parts (Int.toNat U) P;let X:=allS aS V=true;let Y:=allS aS W=true;let Z:=inR IntKind.i64 (U+Q)/\∃(y:Nat),(y<=List.length a.parts/\cJ B a b=ny I S (List.drop y a.parts) (List.drop y b.parts))/\List.length a.parts-y<List.length a.parts-x/\U+Q=(↑y:Int)/\T;let c:=(sz W+sz V<=n/\Y/\X)/\if(!cJ n W V)=true then D else Z;x<=List.length a.parts/\cJ B a b=ny I S (List.drop x a.parts) (List.drop x b.parts)->if decide (U<O)=true then(K<=U/\U<O)/\(K<=U/\U<R)/\if decide (a.kind=(8:Int))=true then inR IntKind.i64 (O-Q)/\if decide (U<O-Q)=true then(sz V+sz W<=n/\X/\Y)/\if(!cJ n V W)=true then D else Z else c else c else C:=by
 conv=>zeta
 have la:=ha.parts.len;have lb:=hb.parts.len;have za:=iF a;have zb:=iF b;have fa:=rS oa;have fb:=rS ob;simp only[NQ,P1,Oo,Oc];refine aa (fun h4=>by rw[cJ,h4];rfl) (fun h4=>?_);refine aa (fun h5=>by rw[cJ,h5];simp) (fun h5=>?_);apply aa<;>intro hk
 ·rw[cJ];simp at h4 h5 hk;simp[h4,h5,hk]
 apply aa<;>intro hp
 ·rw[cJ];simp at h4 h5 hp;simp[h4,h5,hp]
 apply aa<;>intro hm
 ·rw[cJ];simp at h4 h5 hm;simp[h4,h5,hm]
 simp at h4 h5 hk hp hm
 have hU:cJ (n+1) a b=(if a.kind=6 then iO (cJ n) false b a.names a.parts&&b.names.all (fun m=>(bR a m).isSome)
    else if a.kind=7 then iO (cJ n) true b a.names a.parts
    else decide (a.parts.length=b.parts.length)&&ny (cJ n) (decide (a.kind=8)) a.parts b.parts):=by
  rw[cJ];simp[h4,h5,hk,hp,hm]
 have lna:=ha.names.len;refine⟨aa (fun h=>by simp at h;simp[h]) (fun h=>by simp at h;simp[h]),aa (fun h67=>?_) (fun h67=>?_)⟩
 ·have hV:cJ (n+1) a b=(iO (cJ n) (decide (a.kind=7)) b a.names a.parts&&(if b.kind=6 then b.names.all (fun m=>(bR a m).isSome)else true)):=by
   rw[hU,<-hk];by_cases h6:a.kind=6
   ·simp[h6]
   ·simp at h67;simp[h67.resolve_left h6]
  refine⟨⟨0,⟨NU _,by simp⟩,rfl⟩,?_⟩;rintro k ⟨k1,k2⟩;apply aa<;>intro h
  ·replace h:=Xo h;have hk':k<a.names.length:=by omega
   have nl:a.names.length=a.parts.length:=(p8 fa.1).resolve_left (fun e=>by rw[e]at hk';simp at hk');have hkp:k<a.parts.length:=by omega
   rw[ak a.names k (dfl .str) hk',ak a.parts k (dfl (.st .shape)) hkp]at k2;simp only[iO]at k2;refine⟨by omega,fb.1,?_⟩
   cases hq:bR b (a.names.getD k (dfl .str))with
   |none=>
    rw[hq]at k2;simp only[Option.isNone,Option.isSome,Ov,Oy,Ob];apply aa<;>intro c
    ·rw[hV,<-k2];simp at c h67;simp[h67.resolve_left c]
    ·simp at c;refine⟨aJ hk' lna,k+1,⟨by omega,?_⟩,by omega,by omega⟩;rw[<-k2];simp[c]
   |some x=>
    rw[hq]at k2;simp only[Option.isNone,Option.isSome,Ov,Oy,Ob,Option.getD,Oo];have m1:=getD_mem a.parts k (dfl (.st .shape)) hkp;have m2:=(wi hq).2;have s1:=eo m1;have s2:=eo m2;refine⟨by omega,⟨by omega,fG fa.2 m1,fG fb.2 m2⟩,aa (fun c=>?_) (fun c=>?_)⟩
    ·simp only[NI]at c;rw[hV,<-k2];simp only[c,NT]
    ·simp only[NI,Pp]at c;refine⟨aJ hk' lna,k+1,⟨by omega,?_⟩,by omega,by omega⟩;rw[<-k2];simp only[c,Og]
  ·replace h:¬((k:Int)<(a.names.length:Int)):=fun e=>h (Xd e);have e:k=a.names.length:=by omega
   subst e;rw[NN]at k2;simp only[iO]at k2;rw[hV,<-k2];apply aa<;>intro c
   ·simp at c;simp[c]
   ·simp at c;exact⟨fa.1,by simp[c]⟩
 ·simp at h67;have hW:cJ (n+1) a b=(decide (a.parts.length=b.parts.length)&&ny (cJ n) (decide (a.kind=8)) a.parts b.parts):=by rw[hU,Ny h67.1,Ny h67.2]
  apply aa<;>intro c
  ·rw[hW];simp at c;have c':¬a.parts.length=b.parts.length:=by omega
   simp[c']
  simp at c;have c':a.parts.length=b.parts.length:=by omega
  rw[Xd c',Og]at hW;refine⟨⟨0,⟨NU _,by simpa using hW⟩,rfl⟩,?_⟩;rintro k ⟨k1,k2⟩;apply aa<;>intro h
  ·replace h:=Xo h;have ka:k<a.parts.length:=by omega
   have kb:k<b.parts.length:=by omega
   rw[ak a.parts k (dfl (.st .shape)) ka,ak b.parts k (dfl (.st .shape)) kb]at k2;simp only[ny]at k2;have m1:=getD_mem a.parts k (dfl (.st .shape)) ka;have m2:=getD_mem b.parts k (dfl (.st .shape)) kb;have s1:=eo m1;have s2:=eo m2;have f1:=fG fa.2 m1;have f2:=fG fb.2 m2;refine⟨by omega,by omega,aa (fun h8=>?_) (fun h8=>?_)⟩
   ·simp at h8;refine⟨aN (by omega) (by omega),aa (fun l=>?_) (fun l=>?_)⟩
    ·replace l:=Xo l;have le:(decide (a.kind=8)&&!(a.parts.drop (k+1)).isEmpty)=true:=by simp[h8];omega
     rw[NC le]at k2;refine⟨⟨by omega,f2,f1⟩,aa (fun c=>?_) (fun c=>?_)⟩
     ·simp only[NI]at c;rw[k2,c];rfl
     ·simp only[NI,Pp]at c;exact⟨aJ ka la,k+1,⟨by omega,by rw[k2,c];rfl⟩,by omega,by omega⟩
    ·replace l:¬((k:Int)<(a.parts.length:Int)-1):=fun e=>l (Xd e);have le:¬(decide (a.kind=8)&&!(a.parts.drop (k+1)).isEmpty)=true:=by simp;omega
     rw[Ny le]at k2;refine⟨⟨by omega,f1,f2⟩,aa (fun c=>?_) (fun c=>?_)⟩
     ·simp only[NI]at c;rw[k2,c];rfl
     ·simp only[NI,Pp]at c;exact⟨aJ ka la,k+1,⟨by omega,by rw[k2,c];rfl⟩,by omega,by omega⟩
   ·simp at h8;have le:¬(decide (a.kind=8)&&!(a.parts.drop (k+1)).isEmpty)=true:=by simp[h8]
    rw[Ny le]at k2;refine⟨⟨by omega,f1,f2⟩,aa (fun c=>?_) (fun c=>?_)⟩
    ·simp only[NI]at c;rw[k2,c];rfl
    ·simp only[NI,Pp]at c;exact⟨aJ ka la,k+1,⟨by omega,by rw[k2,c];rfl⟩,by omega,by omega⟩
  ·replace h:¬((k:Int)<(a.parts.length:Int)):=fun e=>h (Xd e);have e:k=a.parts.length:=by omega
   subst e;rw[NN]at k2;rw[k2];simp[ny]
theorem Lv(a b:Shape)(ha:Wf (.st .shape) a)(hb:Wf (.st .shape) b) :
  if(decide (ay a=(0:Int))&&decide (ay b=(0:Int)))=true then(sz a+sz b<=(800:Nat)/\allS aS a=true/\allS aS b=true)/\True/\cJ (800:Nat) a b=p7 a b/\True else True/\false=p7 a b/\True:=by
 apply aa<;>intro h
 ·simp only[Nx,NA]at h;have c1:=de h.1;have c2:=de h.2;refine⟨⟨by omega,c1.2.2,c2.2.2⟩,trivial,?_,trivial⟩;rw[p7,h.1,h.2];rfl
 ·refine⟨trivial,?_,trivial⟩;rw[p7,P5.2 h];rfl
theorem Lw(k:Nam)(v:Shape)  :
  True/\cR [] k v=cR [] k v/\True:=by
 exact Xr
theorem Lx(m:List (Nam×Shape))(k:Nam)(v:Shape)  :
  True/\cR m k v=cR m k v/\True:=by
 exact Xr
theorem Ly(k:Nam)  :
  True/\{kind:=(0:Int),pkg:=[],name:=[],names:=[],parts:=[]:Shape}=aK/\false=Option.isSome (dX [] k.pkg k.name)/\True:=by
 exact Xr
theorem Lz(m:List (Nam×Shape))(k:Nam)  :
  let A:=dX m k.pkg k.name;True/\Option.getD (cm m k) {kind:=(0:Int),pkg:=[],name:=[],names:=[],parts:=[]:Shape}=Option.getD A aK/\Option.isSome (cm m k)=Option.isSome A/\m=m/\True:=by
 conv=>zeta
 exact Xr
theorem JN(n:Nat)(s:Shape)(hs:Wf (.st .shape) s)(hn:sz s<=n+1)(h4:n+1<=400)(os:allS aS s=true) :
  let A:=True;let B:=dX [];let C:=fillS B s;let D:=(0:Int);let E:=(↑(List.length s.parts):Int);let F:=s.parts=s.parts;let G:=gJ UInt8=gJ UInt8;let H:=s=s/\D=D/\G/\G/\A;let I:=dfl (Ty.st SN.shape);let J:=Option.getD C aK;let K:=(140737488355328:Nat);if decide (s.kind=(9:Int))=true then A/\aK=Option.getD C aK/\Option.isSome (dX [] s.pkg s.name)=Option.isSome C/\A else(D<=E/\E*(↑(88:Nat):Int)<=(140737488355328:Int))/\(∃(x:Nat×List Shape),(x.1<=List.length s.parts/\List.length x.2=x.1/\fillL B s.parts=Option.map (fun(x_1:List Shape)=>x.2++x_1) (fillL B (List.drop x.1 s.parts)))/\D=(↑x.1:Int)/\[]=x.2/\s=s/\false=false/\F/\E=E/\(0:Nat)=List.length x.2/\H)/\∀(x:Nat×List Shape),let L:=(↑x.1:Int);let M:=List.getD s.parts (Int.toNat L) I;let N:=[Option.getD (fillS B M) aK];x.1<=List.length s.parts/\List.length x.2=x.1/\fillL B s.parts=Option.map (fun(x_1:List Shape)=>x.2++x_1) (fillL B (List.drop x.1 s.parts))->if decide (L<E)=true then(D<=L/\L<E)/\(sz M<=n/\n<=(400:Nat)/\allS aS M=true)/\if(!Option.isSome (fillS B M))=true then A/\D=J.kind/\[]=J.pkg/\[]=J.name/\J.names=[]/\J.parts=[]/\false=Option.isSome C/\A else(List.length x.2=List.length x.2/\(List.length x.2+List.length N)*(88:Nat)<=K)/\inR IntKind.i64 (L+(1:Int))/\∃(y:Nat×List Shape),(y.1<=List.length s.parts/\List.length y.2=y.1/\fillL B s.parts=Option.map (fun(x:List Shape)=>y.2++x) (fillL B (List.drop y.1 s.parts)))/\List.length s.parts-y.1<List.length s.parts-x.1/\L+(1:Int)=(↑y.1:Int)/\x.2++N=y.2/\s=s/\false=false/\F/\E=E/\List.length (x.2++N)=List.length y.2/\H else List.length s.names*(16:Nat)<=K/\A/\s.kind=J.kind/\s.pkg=J.pkg/\s.name=J.name/\s.names=J.names/\x.2=J.parts/\true=Option.isSome C/\A:=by
 conv=>zeta
 have fs:=rS os;have zs:=iF s;have ln:=hs.parts.len;have lz:=kU s.parts;simp only[NQ,P1,Oo,Oc];apply aa<;>intro h9
 ·simp only[NA]at h9;rw[mg,NC h9];exact⟨rfl,rfl⟩
 simp only[NA]at h9;have hf:fillS (dX []) s=(fillL (dX []) s.parts).map fun q=>⟨s.kind,s.pkg,s.name,s.names,q⟩:=by rw[mg,Ny h9]
 refine⟨⟨by omega,by omega⟩,⟨(0,[]),⟨NU _,rfl,by simp⟩,rfl,rfl,rfl⟩,?_⟩;rintro⟨k,q⟩ ⟨h1,h2,h3⟩;dsimp only at h1 h2 h3⊢;apply aa<;>intro h
 ·replace h:=Xo h;have hk:k<s.parts.length:=by omega
  rw[ak s.parts k (dfl (.st .shape)) hk]at h3;simp only[fillL]at h3;have m1:=getD_mem s.parts k (dfl (.st .shape)) hk;have s1:=eo m1;refine⟨by omega,⟨by omega,by omega,fG fs.2 m1⟩,?_⟩
  cases hx:fillS (dX []) (s.parts.getD k (dfl (.st .shape)))with
  |none=>rw[hx]at h3;refine aa (fun c=>?_) (fun c=>absurd rfl c);rw[hf,h3];exact⟨rfl,rfl,rfl,rfl,rfl,rfl⟩
  |some x=>
   rw[hx]at h3;refine aa (fun c=>absurd c Oz) (fun c=>?_);refine⟨by simp only[Option.getD,NL,Ou];omega,aJ hk ln,(k+1,q++[x]),⟨by omega,by simp[h2],?_⟩,by dsimp only;omega,by dsimp only;omega,rfl,rfl⟩;rw[h3]
   cases fillL (dX []) (s.parts.drop (k+1))with|none=>rfl|some l=>simp
 ·replace h:¬((k:Int)<(s.parts.length:Int)):=fun e=>h (Xd e);have e:k=s.parts.length:=by omega
  subst e;rw[NN]at h3;simp only[fillL,Option.map,OL]at h3;rw[hf,h3];refine⟨?_,rfl,rfl,rfl,rfl,rfl,rfl⟩;rcases p8 fs.1 with g|g
  ·rw[g];simp
  ·omega
theorem JO(n:Nat)(m:List (Nam×Shape))(s:Shape)(hs:Wf (.st .shape) s)(hn:sz s<=n+1)(h4:n+1<=400)(os:allS aS s=true) :
  let A:=dX m s.pkg s.name;let B:=dX m;let C:=fillS B s;let D:=m=m/\True;let E:=(0:Int);let F:=(↑(List.length s.parts):Int);let G:=s.parts=s.parts;let H:=gJ UInt8=gJ UInt8;let I:=m=m/\s=s/\E=E/\H/\H/\True;let J:=dfl (Ty.st SN.shape);let K:=Option.getD C aK;let L:=(140737488355328:Nat);if decide (s.kind=(9:Int))=true then True/\Option.getD A aK=Option.getD C aK/\Option.isSome A=Option.isSome C/\D else(E<=F/\F*(↑(88:Nat):Int)<=(140737488355328:Int))/\(∃(x:Nat×List Shape),(x.1<=List.length s.parts/\List.length x.2=x.1/\fillL B s.parts=Option.map (fun(x_1:List Shape)=>x.2++x_1) (fillL B (List.drop x.1 s.parts)))/\E=(↑x.1:Int)/\[]=x.2/\s=s/\false=false/\G/\F=F/\(0:Nat)=List.length x.2/\I)/\∀(x:Nat×List Shape),let M:=(↑x.1:Int);let N:=List.getD s.parts (Int.toNat M) J;let O:=[Option.getD (fillS B N) aK];x.1<=List.length s.parts/\List.length x.2=x.1/\fillL B s.parts=Option.map (fun(x_1:List Shape)=>x.2++x_1) (fillL B (List.drop x.1 s.parts))->if decide (M<F)=true then(E<=M/\M<F)/\(sz N<=n/\n<=(400:Nat)/\allS aS N=true)/\if(!Option.isSome (fillS B N))=true then True/\E=K.kind/\[]=K.pkg/\[]=K.name/\K.names=[]/\K.parts=[]/\false=Option.isSome C/\D else(List.length x.2=List.length x.2/\(List.length x.2+List.length O)*(88:Nat)<=L)/\inR IntKind.i64 (M+(1:Int))/\∃(y:Nat×List Shape),(y.1<=List.length s.parts/\List.length y.2=y.1/\fillL B s.parts=Option.map (fun(x:List Shape)=>y.2++x) (fillL B (List.drop y.1 s.parts)))/\List.length s.parts-y.1<List.length s.parts-x.1/\M+(1:Int)=(↑y.1:Int)/\x.2++O=y.2/\s=s/\false=false/\G/\F=F/\List.length (x.2++O)=List.length y.2/\I else List.length s.names*(16:Nat)<=L/\True/\s.kind=K.kind/\s.pkg=K.pkg/\s.name=K.name/\s.names=K.names/\x.2=K.parts/\true=Option.isSome C/\D:=by
 conv=>zeta
 have fs:=rS os;have zs:=iF s;have ln:=hs.parts.len;have lz:=kU s.parts;simp only[NQ,P1,Oo,Oc];apply aa<;>intro h9
 ·simp only[NA]at h9;rw[mg,NC h9];exact⟨rfl,rfl⟩
 simp only[NA]at h9;have hf:fillS (dX m) s=(fillL (dX m) s.parts).map fun q=>⟨s.kind,s.pkg,s.name,s.names,q⟩:=by rw[mg,Ny h9]
 refine⟨⟨by omega,by omega⟩,⟨(0,[]),⟨NU _,rfl,by simp⟩,rfl,rfl,rfl⟩,?_⟩;rintro⟨k,q⟩ ⟨h1,h2,h3⟩;dsimp only at h1 h2 h3⊢;apply aa<;>intro h
 ·replace h:=Xo h;have hk:k<s.parts.length:=by omega
  rw[ak s.parts k (dfl (.st .shape)) hk]at h3;simp only[fillL]at h3;have m1:=getD_mem s.parts k (dfl (.st .shape)) hk;have s1:=eo m1;refine⟨by omega,⟨by omega,by omega,fG fs.2 m1⟩,?_⟩
  cases hx:fillS (dX m) (s.parts.getD k (dfl (.st .shape)))with
  |none=>rw[hx]at h3;refine aa (fun c=>?_) (fun c=>absurd rfl c);rw[hf,h3];exact⟨rfl,rfl,rfl,rfl,rfl,rfl⟩
  |some x=>
   rw[hx]at h3;refine aa (fun c=>absurd c Oz) (fun c=>?_);refine⟨by simp only[Option.getD,NL,Ou];omega,aJ hk ln,(k+1,q++[x]),⟨by omega,by simp[h2],?_⟩,by dsimp only;omega,by dsimp only;omega,rfl,rfl⟩;rw[h3]
   cases fillL (dX m) (s.parts.drop (k+1))with|none=>rfl|some l=>simp
 ·replace h:¬((k:Int)<(s.parts.length:Int)):=fun e=>h (Xd e);have e:k=s.parts.length:=by omega
  subst e;rw[NN]at h3;simp only[fillL,Option.map,OL]at h3;rw[hf,h3];refine⟨?_,rfl,rfl,rfl,rfl,rfl,rfl⟩;rcases p8 fs.1 with g|g
  ·rw[g];simp
  ·omega
theorem GW   :
  let A:=den (Ty.st SN.bind);let B:=gJ A=gJ A;let C:=(↑(List.length ([]:List Bndg)):Int);(∃(x:Nat),True/\(0:Int)=(0:Int)/\B/\B/\C=C/\True)/\∀(x:Nat),True->True/\True:=by
 conv=>zeta
 exact⟨⟨0,trivial,rfl,rfl,rfl,rfl,trivial⟩,fun _ _=>⟨trivial,trivial⟩⟩
theorem GX(b:Bndg)(r:List Bndg)(hl:Wf (.lst (.st .bind)) (b::r)) :
  let A:=(0:Int);let B:=(b::r);let C:=(↑(List.length B):Int);let D:=(1:Int);let E:=b::r=b::r;let F:=dfl (Ty.st SN.bind);let G:=List.getD B (Int.toNat A) F;if decide (A<C)=true then(A<=A/\A<C)/\inR IntKind.i64 (A+D)/\(∃(x:Nat×List (Nam×Shape)),(x.1<=List.length B/\qN (List.drop x.1 B) x.2=mf B)/\A+D=(↑x.1:Int)/\E/\E/\C=C/\cR [] {pkg:=G.pkg,name:=G.name:Nam} G.shape=x.2/\True)/\∀(x:Nat×List (Nam×Shape)),let H:=(↑x.1:Int);let I:=List.getD B (Int.toNat H) F;x.1<=List.length B/\qN (List.drop x.1 B) x.2=mf B->if decide (H<C)=true then(A<=H/\H<C)/\inR IntKind.i64 (H+D)/\∃(y:Nat×List (Nam×Shape)),(y.1<=List.length B/\qN (List.drop y.1 B) y.2=mf B)/\List.length B-y.1<List.length B-x.1/\H+D=(↑y.1:Int)/\E/\E/\C=C/\cR x.2 {pkg:=I.pkg,name:=I.name:Nam} I.shape=y.2/\True else True/\x.2=mf B/\True else True/\False:=by
 conv=>zeta
 have ln:=hl.len;refine aa (fun _=>?_) (fun h=>absurd (Xd (by simp only[NL];omega)) h);simp only[NQ,P1,Oo,Oc];refine⟨by simp only[NL];omega,aN (by omega) (by omega),⟨(1,cR [] ⟨b.pkg,b.name⟩ b.shape),⟨by simp,rfl⟩,rfl,rfl⟩,?_⟩;rintro⟨k,m⟩ ⟨h1,h2⟩;dsimp only at h1 h2⊢;apply aa<;>intro h
 ·replace h:=Xo h;have hk:k<(b::r).length:=by omega
  rw[ak (b::r) k (dfl (.st .bind)) hk]at h2;exact⟨by omega,aJ hk ln,(k+1,_),⟨by omega,h2⟩,by dsimp only;omega,by dsimp only;omega,rfl⟩
 ·replace h:¬((k:Int)<((b::r).length:Int)):=fun e=>h (Xd e);have e:k=(b::r).length:=by omega
  subst e;rw[NN]at h2;exact h2
theorem AO(s:Shape)(hs:Wf (.st .shape) s) :
  let A:=(0:Int);let B:=True;let C:=aH s [];let D:=A=C.1.kind;let E:=[]=C.1.pkg;let F:=[]=C.1.name;let G:=C.1.names=[];let H:=C.1.parts=[];let I:=(400:Nat);let J:=fillS (dX []) s;let K:=Option.getD J aK;if(!decide (ay s=A))=true then B/\D/\E/\F/\G/\H/\ay s=C.2/\B else(sz s<=I/\I<=I/\allS aS s=true)/\if(!Option.isSome J)=true then B/\D/\E/\F/\G/\H/\(110:Int)=C.2/\B else if(!decide (ay K=A))=true then B/\D/\E/\F/\G/\H/\ay K=C.2/\B else B/\bw K=C.1/\A=C.2/\B:=by
 conv=>zeta
 have hr:aH s []=if ay s=0 then(match fillS (dX []) s with|none=>(aK,110)|some q=>if ay q=0 then(bw q,0)else(aK,ay q))else(aK,ay s):=by unfold aH;rw[<-zZ];try rfl
 apply aa<;>intro h
 ·have h:¬ay s=0:=by simpa using h
  rw[hr,Ny h];exact Xr
 ·have h:ay s=0:=by simpa using h
  rw[hr,NC h];have c:=de h;refine⟨⟨c.1,NK _,c.2.2⟩,?_⟩
  cases hq:fillS (dX []) s with
  |none=>exact aa (fun _=>Xr) (fun g=>absurd rfl g)
  |some q=>
   refine aa (fun g=>absurd g Oz) (fun _=>aa (fun g=>?_) (fun g=>?_))
   ·have g:¬ay q=0:=by simpa using g
    dsimp only;rw[Ny g];exact Xr
   ·have g:ay q=0:=by simpa using g
    dsimp only;rw[NC g];exact Xr
theorem Dy(s:Shape)(b:Bndg)(r:List Bndg)(hs:Wf (.st .shape) s)(hl:Wf (.lst (.st .bind)) (b::r)) :
  let A:=(0:Int);let B:=True;let C:=(aH s (b::r));let D:=A=C.1.kind;let E:=[]=C.1.pkg;let F:=[]=C.1.name;let G:=C.1.names=[];let H:=C.1.parts=[];let I:=(400:Nat);let J:=(fillS (dX (mf (b::r))) s);let K:=Option.getD J aK;if(!decide (ay s=A))=true then B/\D/\E/\F/\G/\H/\ay s=C.2/\B else(sz s<=I/\I<=I/\allS aS s=true)/\if(!Option.isSome J)=true then B/\D/\E/\F/\G/\H/\(110:Int)=C.2/\B else if(!decide (ay K=A))=true then B/\D/\E/\F/\G/\H/\ay K=C.2/\B else B/\bw K=C.1/\A=C.2/\B:=by
 conv=>zeta
 have hr:aH s (b::r)=if ay s=0 then(match fillS (dX (mf (b::r))) s with|none=>(aK,110)|some q=>if ay q=0 then(bw q,0)else(aK,ay q))else(aK,ay s):=by unfold aH;rw[<-zZ];try rfl
 apply aa<;>intro h
 ·have h:¬ay s=0:=by simpa using h
  rw[hr,Ny h];exact Xr
 ·have h:ay s=0:=by simpa using h
  rw[hr,NC h];have c:=de h;refine⟨⟨c.1,NK _,c.2.2⟩,?_⟩
  cases hq:fillS (dX (mf (b::r))) s with
  |none=>exact aa (fun _=>Xr) (fun g=>absurd rfl g)
  |some q=>
   refine aa (fun g=>absurd g Oz) (fun _=>aa (fun g=>?_) (fun g=>?_))
   ·have g:¬ay q=0:=by simpa using g
    dsimp only;rw[Ny g];exact Xr
   ·have g:ay q=0:=by simpa using g
    dsimp only;rw[NC g];exact Xr
theorem MK(k:Int)  :
  let A:=ofK k;True/\k=A.kind/\[]=A.pkg/\[]=A.name/\A.names=[]/\A.parts=[]/\True:=by
 conv=>zeta
 exact Xr
theorem GY(e a:Int)  :
  True/\e=e/\a=a/\True:=by
 exact Xr
theorem JP(l:List Bndg)(o m:Str)(hl:Wf (.lst (.st .bind)) l) :
  let A:=(↑(List.length l):Int);let B:=(1:Int);let C:=(0:Int);let D:=gJ UInt8=gJ UInt8;let E:=l=l/\o=o/\m=m/\C=C/\D/\D/\True;let F:=dfl (Ty.st SN.bind);let G:=aC l o m;let H:=Option.elim G aK bw;inR IntKind.i64 (A-B)/\(∃(x:Nat),(x<=List.length l/\aC l o m=aC (List.take x l) o m)/\A-B=(↑x:Int)-B/\E)/\∀(x:Nat),let I:=(↑x:Int);let J:=C<=I-B/\I-B<A;let K:=List.getD l (Int.toNat (I-B)) F;let L:=inR IntKind.i64 (I-B-B)/\∃(y:Nat),(y<=List.length l/\aC l o m=aC (List.take y l) o m)/\y<x/\I-B-B=(↑y:Int)-B/\E;x<=List.length l/\aC l o m=aC (List.take x l) o m->if decide (C<=I-B)=true then J/\if decide (K.pkg=o)=true then J/\if decide (K.name=m)=true then J/\True/\bw K.shape=Option.elim G aK bw/\true=Option.isSome G/\True else L else L else True/\C=H.kind/\[]=H.pkg/\[]=H.name/\H.names=[]/\H.parts=[]/\false=Option.isSome G/\True:=by
 conv=>zeta
 have ln:=hl.len;refine⟨aN (by omega) (by omega),⟨l.length,⟨NK _,by rw[OR]⟩,rfl,rfl,rfl,rfl,rfl,rfl,rfl,trivial⟩,?_⟩;rintro x ⟨h1,h2⟩;apply aa<;>intro h
 ·have h:=Xo h;obtain⟨k,rfl⟩:∃k,x=k+1:=⟨x-1,by omega⟩;have e1:(((k+1:Nat):Int)-1)=(k:Int):=by omega
  rw[Ab l o m (dfl (.st .bind)) (by omega)]at h2;simp only[e1,NQ,P1,Oo,Oc]
  have next:aC l o m=aC (l.take k) o m->inR IntKind.i64 ((k:Int)-1)/\∃(y:Nat),(y<=List.length l/\aC l o m=aC (List.take y l) o m)/\y<k+1/\(k:Int)-1=(y:Int)-1:=
   fun g=>⟨aN (by omega) (by omega),k,⟨by omega,g⟩,by omega,rfl⟩
  refine⟨by omega,aa (fun c1=>?_) (fun c1=>?_)⟩
  ·have c1:=Xo c1;refine⟨by omega,aa (fun c2=>?_) (fun c2=>?_)⟩
   ·have c2:=Xo c2;rw[NC ⟨c1,c2⟩]at h2;rw[h2];exact⟨by omega,rfl,rfl⟩
   ·rw[Ny (fun g=>c2 (Xd g.2))]at h2;exact next h2
  ·rw[Ny (fun g=>c1 (Xd g.1))]at h2;exact next h2
 ·have h:¬(0:Int)<=(x:Int)-1:=fun e=>h (Xd e);obtain rfl:x=0:=by omega
  rw[h2];exact Xr
theorem GZ(n:Nat)(t:Trm)(e:Envt)(ht:Wf (.st .term) t)(he:Wf (.st .env) e)(hz:szT t<=n+1)(hf:allT aq t=true)(hv:e.values.length+4096 *szT t<=100000000) :
  let A:=b6 (ag n) t e;let B:=(0:Int);let C:=True;let D:=(ag (n+(1:Nat)) t e);let E:=B=D.1.kind;let F:=[]=D.1.pkg;let G:=[]=D.1.name;let H:=D.1.names=[];let I:=D.1.parts=[];let J:=C/\bw A.1=D.1/\B=D.2.err/\B=D.2.pos/\C;let K:=if(!decide (A.2.err=B))=true then C/\E/\F/\G/\H/\I/\A.2.err=D.2.err/\A.2.pos=D.2.pos/\C else J;(szT t<=n+(1:Nat)/\allT aq t=true/\List.length e.values+(4096:Nat)*szT t<=(100000000:Nat))/\if decide (A.2.err=B)=true then if(!decide (ay A.1=B))=true then if(!decide (ay A.1=B))=true then C/\E/\F/\G/\H/\I/\ay A.1=D.2.err/\t.pos=D.2.pos/\C else J else K else K:=by
 conv=>zeta
 refine⟨⟨hz,hf,hv⟩,?_⟩;rw[show ag (n+1) t e=gZ t (b6 (ag n) t e)from rfl];generalize b6 (ag n) t e=r;unfold gZ;by_cases h1:r.2.err=0
 ·by_cases h2:ay r.1=0
  ·simp[h1,h2,cu]
  ·simp[h1,h2,aK]
 ·simp[h1,aK]
theorem JQ(n:Nat)(t:Trm)(w:Shape)(e:Envt)(ht:Wf (.st .term) t)(hw:Wf (.st .shape) w)(he:Wf (.st .env) e)(hz:szT t<=n)(hf:allT aq t=true)(hv:e.values.length+4096 *szT t<=100000000) :
  let A:=ag n t e;let B:=aU (ag n) t w e;let C:=True/\A.2.err=B.err/\A.2.pos=B.pos/\True;(szT t<=n/\allT aq t=true/\List.length e.values+(4096:Nat)*szT t<=(100000000:Nat))/\if decide (A.2.err=(0:Int))=true then if(!p7 A.1 w)=true then True/\(140:Int)=B.err/\t.pos=B.pos/\True else C else C:=by
 conv=>zeta
 refine⟨⟨hz,hf,hv⟩,?_⟩;unfold aU;by_cases h1:(ag n t e).2.err=0
 ·cases h2:p7 (ag n t e).1 w<;>simp[h1,h2]
 ·simp[h1]
theorem H0(n:Nat)(t:Trm)(e:Envt)(ht:Wf (.st .term) t)(he:Wf (.st .env) e)(hp:0<t.parts.length)(hz:szT t<=n+1)(hf:allT aq t=true)(hv:e.values.length+4096 *szT t<=100000000) :
  let A:=(0:Int);let B:=List.getD t.parts (Int.toNat A) (dfl (Ty.st SN.term));let C:=ag n B e;let D:=True;let E:=gY (ag n) t e;let F:=D/\C.1=E.1/\C.2.err=E.2.err/\C.2.pos=E.2.pos/\D;let G:=D/\C.1=E.1/\(140:Int)=E.2.err/\t.pos=E.2.pos/\D;(A<=A/\A<(↑(List.length t.parts):Int))/\(szT B<=n/\allT aq B=true/\List.length e.values+(4096:Nat)*szT B<=(100000000:Nat))/\if(!decide (C.2.err=A))=true then F else if decide (C.1.kind=(4:Int))=true then F else if(!decide (C.1.kind=(6:Int)))=true then G else if decide (cw C.1.names t.name A<A)=true then G else(A<=cw C.1.names t.name A/\cw C.1.names t.name A<(↑(List.length C.1.parts):Int))/\D/\List.getD C.1.parts (Int.toNat (cw C.1.names t.name A)) (dfl (Ty.st SN.shape))=E.1/\A=E.2.err/\A=E.2.pos/\D:=by
 conv=>zeta
 have p0:=uc (dfl (.st .term)) hz hf hp;refine⟨by omega,⟨p0.1,p0.2.1,by have:=p0.2.2;rw[show Int.toNat 0=0 from rfl];omega⟩,?_⟩;rw[show t.parts.getD (Int.toNat 0) (dfl (.st .term))=t.parts.getD 0 aT from rfl];unfold gY;have hn:=@Ge n (t.parts.getD 0 aT) e;revert hn;generalize ag n (t.parts.getD 0 aT) e=r;intro hn;dsimp only;by_cases h1:r.2.err=0
 ·by_cases h4:r.1.kind=4
  ·simp[h1,h4]
  ·by_cases h6:r.1.kind=6
   ·rcases wj t.name (dfl (.st .shape)) (hn h1)with⟨g1,g2⟩|⟨g1,g2,g3⟩
    ·have g1':cw r.1.names t.name 0<0:=by omega
     simp[h1,h6,g1',g2]
    ·have g1':¬cw r.1.names t.name 0<0:=by omega
     simp[h1,h6,g1',g3,g1,g2,cu]
   ·simp[h1,h4,h6]
 ·simp[h1]
theorem H2(t:Trm)(e:Envt)(ht:Wf (.st .term) t)(he:Wf (.st .env) e)(hs:t.shapes.length<=1000000) :
  let A:=(0:Int);let B:=t.shapes=t.shapes;let C:=(↑(List.length t.shapes):Int);let D:=t=t/\e=e/\A=A/\A=A/\True;let E:=dfl (Ty.st SN.shape);let F:=ar e.types t.pos t.shapes;(∃(x:Nat×List Shape),let G:=List.drop x.1 t.shapes;let H:=ar e.types t.pos G;(x.1<=List.length t.shapes/\List.length x.2=x.1/\(H.2.err=A->ar e.types t.pos t.shapes=(x.2++H.1,cu))/\(¬H.2.err=A->ar e.types t.pos t.shapes=ar e.types t.pos G))/\A=(↑x.1:Int)/\x.2=[]/\t=t/\e=e/\B/\C=C/\List.length x.2=(0:Nat)/\D)/\∀(x:Nat×List Shape),let G:=List.drop x.1 t.shapes;let H:=ar e.types t.pos G;let I:=(↑x.1:Int);let J:=aH (List.getD t.shapes (Int.toNat I) E) e.types;x.1<=List.length t.shapes/\List.length x.2=x.1/\(H.2.err=A->ar e.types t.pos t.shapes=(x.2++H.1,cu))/\(¬H.2.err=A->ar e.types t.pos t.shapes=ar e.types t.pos G)->if decide (I<C)=true then(A<=I/\I<C)/\if(!decide (J.2=A))=true then True/\F.1=[]/\J.2=F.2.err/\t.pos=F.2.pos/\List.length F.1=(0:Nat)/\True else(List.length x.2=List.length x.2/\(List.length x.2+List.length [J.1])*(88:Nat)<=(140737488355328:Nat))/\inR IntKind.i64 (I+(1:Int))/\∃(y:Nat×List Shape),let K:=List.drop y.1 t.shapes;let L:=ar e.types t.pos K;(y.1<=List.length t.shapes/\List.length y.2=y.1/\(L.2.err=A->ar e.types t.pos t.shapes=(y.2++L.1,cu))/\(¬L.2.err=A->ar e.types t.pos t.shapes=ar e.types t.pos K))/\List.length t.shapes-y.1<List.length t.shapes-x.1/\I+(1:Int)=(↑y.1:Int)/\x.2++[J.1]=y.2/\t=t/\e=e/\B/\C=C/\List.length (x.2++[J.1])=List.length y.2/\D else True/\x.2=F.1/\A=F.2.err/\A=F.2.pos/\List.length x.2=List.length F.1/\True:=by
 conv=>zeta
 simp only[NQ,P1,Oo,Oc];refine⟨⟨(0,[]),⟨NU _,rfl,fun h=>wm h,fun _=>rfl⟩,rfl,rfl,rfl⟩,?_⟩;rintro⟨k,q⟩ ⟨h1,h2,h3,h4⟩;dsimp only at h1 h2 h3 h4⊢;apply aa<;>intro h
 ·replace h:=Xo h;have hk:k<t.shapes.length:=by omega
  rw[ak t.shapes k (dfl (.st .shape)) hk,fj]at h3 h4;refine⟨by omega,aa (fun c=>?_) (fun c=>?_)⟩
  ·have c:¬(aH (t.shapes.getD k (dfl (.st .shape))) e.types).2=0:=by simpa using c
   rw[Ny c]at h4;rw[h4 c];exact⟨rfl,rfl,rfl,rfl⟩
  ·have c:(aH (t.shapes.getD k (dfl (.st .shape))) e.types).2=0:=by simpa using c
   rw[NC c]at h3 h4;refine⟨by simp only[NL,Ou];omega,aJ hk (by omega),(k+1,q++[_]),⟨by omega,by simp[h2],fun g=>?_,fun g=>?_⟩,by dsimp only;omega,by dsimp only;omega,rfl,rfl⟩
   ·dsimp only at g;rw[NC g]at h3;rw[h3 rfl];simp
   ·dsimp only at g;rw[Ny g]at h4;rw[h4 g,<-CX g]
 ·replace h:¬((k:Int)<(t.shapes.length:Int)):=fun e=>h (Xd e);have e:k=t.shapes.length:=by omega
  subst e;rw[NN]at h3;rw[h3 rfl];simp[ar,cu]
theorem JR(n:Nat)(t:Trm)(e:Envt)(ht:Wf (.st .term) t)(he:Wf (.st .env) e)(hp:0<t.parts.length)(hz:szT t<=n+1)(hf:allT aq t=true)(hv:e.values.length+4096 *szT t<=100000000) :
  let A:=(0:Int);let B:=(↑(List.length t.parts):Int);let C:=dfl (Ty.st SN.term);let D:=List.getD t.parts (Int.toNat A) C;let E:=(4096:Nat);let F:=(100000000:Nat);let G:=ag n D e;let H:=True;let I:=ag n;let J:=fI I t e;let K:=G.1=J.1;let L:=(4:Int);let M:=(ag n (List.getD t.parts (0:Nat) aT) e);let N:=M.1.kind=L;let O:=(!decide (N)&&(!decide (M.1.kind=(8:Int))||!decide (List.length M.1.parts=List.length t.parts)));let P:=false=false;let Q:=decide (G.1.kind=L)=decide (G.1.kind=L);let R:=gJ UInt8=gJ UInt8;let S:=t=t/\e=e/\A=A/\R/\R/\A=A/\A=A/\G.1=G.1/\G.2.err=G.2.err/\G.2.pos=G.2.pos/\H;let T:=t=t/\e=e/\P/\Q/\S;let U:=(↑(List.length G.1.parts):Int);let V:=(1:Int);let W:=(1:Nat);let X:=ofK L;let Y:=List.drop W t.parts;let Z:=¬M.1.kind=L;let a:=Int.toNat V;let b:=List.take (Int.toNat B) t.parts;let c:=List.drop a b;let d:=(↑(List.length c):Int);let f:=P/\t=t/\e=e/\P/\Q/\List.drop a b=List.drop a b/\d=d/\S;let g:=dfl (Ty.st SN.shape);let h:=A=J.2.err/\A=J.2.pos/\H;(A<=A/\A<B)/\(szT D<=n/\allT aq D=true/\List.length e.values+E*szT D<=F)/\if(!decide (G.2.err=A))=true then H/\K/\G.2.err=J.2.err/\G.2.pos=J.2.pos/\H else(if(!decide (G.1.kind=L))=true then if(!decide (G.1.kind=(8:Int)))=true then true=O/\T else(!decide (U=B))=O/\T else false=O/\T)/\if O=true then H/\K/\(140:Int)=J.2.err/\t.pos=J.2.pos/\H else(A<=V/\V<=B/\B<=B)/\(∃(x:Nat),let i:=List.drop (x+W) t.parts;(x+W<=List.length t.parts/\(N->dw I e X Y=dw I e X i)/\(Z->gg I e Y M.1.parts=gg I e i (List.drop x M.1.parts)))/\A=(↑x:Int)/\f)/\∀(x:Nat),let i:=List.drop (x+W) t.parts;let j:=(↑x:Int);let k:=List.getD c (Int.toNat j) C;let l:=szT k<=n/\allT aq k=true/\List.length e.values+E*szT k<=F;let m:=aU I k (List.getD G.1.parts (Int.toNat j) g) e;let o:=inR IntKind.i64 (j+V)/\∃(y:Nat),let q:=List.drop (y+W) t.parts;(y+W<=List.length t.parts/\(N->dw I e X Y=dw I e X q)/\(Z->gg I e Y M.1.parts=gg I e q (List.drop y M.1.parts)))/\List.length t.parts-y<List.length t.parts-x/\j+V=(↑y:Int)/\f;let p:=aU I k X e;x+W<=List.length t.parts/\(N->dw I e X Y=dw I e X i)/\(Z->gg I e Y M.1.parts=gg I e i (List.drop x M.1.parts))->if decide (j<d)=true then(A<=j/\j<d)/\if(!decide (G.1.kind=L))=true then(A<=j/\j<U)/\l/\if(!decide (m.err=A))=true then H/\K/\m.err=J.2.err/\m.pos=J.2.pos/\H else o else l/\if(!decide (p.err=A))=true then H/\K/\p.err=J.2.err/\p.pos=J.2.pos/\H else o else if decide (G.1.kind=L)=true then H/\K/\h else inR IntKind.i64 (U-V)/\(A<=U-V/\U-V<U)/\H/\List.getD G.1.parts (Int.toNat (U-V)) g=J.1/\h:=by
 conv=>zeta
 have p0:=xQ hz hf hv (dfl (.st .term)) hp (P2 _ _);have ln:=ht.term_parts.len;have hds:List.drop (Int.toNat 1) (List.take t.parts.length t.parts)=t.parts.drop 1:=by rw[OR];rfl
 have hdg:∀k:Nat,(t.parts.drop 1).getD k (dfl (.st .term))=t.parts.getD (k+1) (dfl (.st .term)):=fun k=>by rw[NB,NB,OD,Nat.add_comm]
 rw[show t.parts.getD (Int.toNat 0) (dfl (.st .term))=t.parts.getD 0 aT from rfl];simp only[NQ,P1,Oo,Oc];simp only[hds,hdg,Pq];have hC0:¬(ag n (t.parts.getD 0 aT) e).2.err=0->fI (ag n) t e=ag n (t.parts.getD 0 aT) e:=fun h=>by simp only[fI,Ny h]
 have hC4:(ag n (t.parts.getD 0 aT) e).2.err=0->(ag n (t.parts.getD 0 aT) e).1.kind=4->fI (ag n) t e=if(dw (ag n) e (ofK 4) (t.parts.drop 1)).err=0 then((ag n (t.parts.getD 0 aT) e).1,cu)else((ag n (t.parts.getD 0 aT) e).1,dw (ag n) e (ofK 4) (t.parts.drop 1)):=fun h k=>by simp only[fI,NC h,NC k]
 have hC8:(ag n (t.parts.getD 0 aT) e).2.err=0->¬(ag n (t.parts.getD 0 aT) e).1.kind=4->(ag n (t.parts.getD 0 aT) e).1.kind=8/\(ag n (t.parts.getD 0 aT) e).1.parts.length=t.parts.length->fI (ag n) t e=if(gg (ag n) e (t.parts.drop 1) (ag n (t.parts.getD 0 aT) e).1.parts).err=0 then((ag n (t.parts.getD 0 aT) e).1.parts.getD ((ag n (t.parts.getD 0 aT) e).1.parts.length-1) aK,cu)else((ag n (t.parts.getD 0 aT) e).1,gg (ag n) e (t.parts.drop 1) (ag n (t.parts.getD 0 aT) e).1.parts):=fun h k g=>by simp only[fI,NC h,Ny k,NC g]
 have hC9:(ag n (t.parts.getD 0 aT) e).2.err=0->¬(ag n (t.parts.getD 0 aT) e).1.kind=4->¬((ag n (t.parts.getD 0 aT) e).1.kind=8/\(ag n (t.parts.getD 0 aT) e).1.parts.length=t.parts.length)->fI (ag n) t e=((ag n (t.parts.getD 0 aT) e).1,⟨140,t.pos⟩):=fun h k g=>by simp only[fI,NC h,Ny k,Ny g]
 revert hC0 hC4 hC8 hC9;generalize fI (ag n) t e=R;generalize ag n (t.parts.getD 0 aT) e=r;intro hC0 hC4 hC8 hC9;have dn:decide ((r.1.parts.length:Int)=(t.parts.length:Int))=decide (r.1.parts.length=t.parts.length):=Ow.2 (by omega);refine⟨by omega,p0,aa (fun h=>?_) (fun h=>?_)⟩
 ·rw[hC0 (by simpa using h)];exact⟨rfl,rfl,rfl⟩
 have h:r.2.err=0:=by simpa using h
 rw[dn];refine⟨?_,aa (fun g=>?_) (fun g=>?_)⟩
 ·cases decide (r.1.kind=4)<;>cases decide (r.1.kind=8)<;>cases decide (r.1.parts.length=t.parts.length)<;>rfl
 ·have g':¬r.1.kind=4/\¬(r.1.kind=8/\r.1.parts.length=t.parts.length):=by simp only[Nx,Oa,NI,O6]at g;exact⟨g.1,fun q=>g.2.elim (fun x=>x q.1) (fun x=>x q.2)⟩
  rw[hC9 h g'.1 g'.2];exact⟨rfl,rfl,rfl⟩
 have g':¬r.1.kind=4->r.1.kind=8/\r.1.parts.length=t.parts.length:=fun q=>by simp only[Nx,Oa,NI,O6]at g;exact⟨Decidable.byContradiction fun x=>g ⟨q,.inl x⟩,Decidable.byContradiction fun x=>g ⟨q,.inr x⟩⟩
 refine⟨by omega,⟨0,⟨by omega,fun _=>rfl,fun _=>by rw[OG]⟩,rfl⟩,?_⟩;rintro k ⟨h1,h2,h3⟩;apply aa<;>intro c
 ·have c:=Xo c;have hk:k+1<t.parts.length:=by omega
  have ob:=xQ hz hf hv (dfl (.st .term)) hk (P2 _ _);rw[ak t.parts (k+1) (dfl (.st .term)) hk]at h2 h3;refine⟨by omega,aa (fun k4=>?_) (fun k4=>?_)⟩
  ·have k4:¬r.1.kind=4:=by simpa using k4
   have k8:=g' k4;have h3:=h3 k4;rw[ak r.1.parts k (dfl (.st .shape)) (by omega)]at h3;simp only[gg]at h3;refine⟨by omega,ob,aa (fun f=>?_) (fun f=>?_)⟩
   ·have f:¬(aU (ag n) (t.parts.getD (k+1) (dfl (.st .term))) (r.1.parts.getD k (dfl (.st .shape))) e).err=0:=by simpa using f
    rw[Ny f]at h3;rw[hC8 h k4 k8,h3,Ny f];exact⟨rfl,rfl,rfl⟩
   ·have f:(aU (ag n) (t.parts.getD (k+1) (dfl (.st .term))) (r.1.parts.getD k (dfl (.st .shape))) e).err=0:=by simpa using f
    rw[NC f]at h3;exact⟨aJ (by omega) ln,k+1,⟨by omega,fun q=>absurd q k4,fun _=>h3⟩,by omega,by omega⟩
  ·have k4:r.1.kind=4:=by simpa using k4
   have h2:=h2 k4;simp only[dw]at h2;refine⟨ob,aa (fun f=>?_) (fun f=>?_)⟩
   ·have f:¬(aU (ag n) (t.parts.getD (k+1) (dfl (.st .term))) (ofK 4) e).err=0:=by simpa using f
    rw[Ny f]at h2;rw[hC4 h k4,h2,Ny f];exact⟨rfl,rfl,rfl⟩
   ·have f:(aU (ag n) (t.parts.getD (k+1) (dfl (.st .term))) (ofK 4) e).err=0:=by simpa using f
    rw[NC f]at h2;exact⟨aJ (by omega) ln,k+1,⟨by omega,fun _=>h2,fun q=>absurd k4 q⟩,by omega,by omega⟩
 ·have c:¬((k:Int)<((t.parts.length-1:Nat):Int)):=fun q=>c (Xd q);have hk:k+1=t.parts.length:=by omega
  rw[hk,NN]at h2 h3;apply aa<;>intro k4
  ·have k4:r.1.kind=4:=Xo k4;rw[hC4 h k4,h2 k4];exact⟨rfl,rfl,rfl⟩
  ·have k4:¬r.1.kind=4:=fun q=>k4 (Xd q);have k8:=g' k4;have h3:=h3 k4;simp only[gg]at h3;have ei:((r.1.parts.length:Int)-1).toNat=r.1.parts.length-1:=by omega
   rw[hC8 h k4 k8,h3,ei];exact⟨aN (by omega) (by omega),by omega,rfl,rfl,rfl⟩
theorem LB(n:Nat)(t:Trm)(e:Envt)(ht:Wf (.st .term) t)(he:Wf (.st .env) e)(hp:0<t.parts.length)(hz:szT t<=n+1)(hf:allT aq t=true)(hv:e.values.length+4096 *szT t<=100000000) :
  let A:=(↑(List.length e.own):Int);let B:=(1:Int);let C:=(0:Int);let D:=gJ UInt8=gJ UInt8;let E:=True;let F:=t=t/\e=e/\C=C/\D/\D/\C=C/\C=C/\E;let G:=dfl (Ty.st SN.bind);let H:=ag n;let I:=nY H t e;let J:=(110:Int)=I.2.err/\t.pos=I.2.pos/\E;let K:=(C<=C/\C<(↑(List.length t.parts):Int));let L:=List.getD t.parts (Int.toNat C) (dfl (Ty.st SN.term));let M:=(szT L<=n/\allT aq L=true/\List.length e.values+(4096:Nat)*szT L<=(100000000:Nat));let N:=(aU H L {kind:=(10:Int),pkg:=e.self,name:=t.name,names:=[],parts:=[]:Shape} e);let O:=N.err=I.2.err/\N.pos=I.2.pos/\E;let P:=(10:Int)=I.1.kind;let Q:=e.self=I.1.pkg;let R:=t.name=I.1.name;let S:=I.1.names=[];let T:=I.1.parts=[];inR IntKind.i64 (A-B)/\(∃(x:Nat×Option Shape),let U:=Option.elim x.2 aK bw;(x.1<=List.length e.own/\(x.2=none->df e.own t.name=df (List.take x.1 e.own) t.name)/\∀(s:Shape),x.2=some s->df e.own t.name=some s)/\A-B=(↑x.1:Int)-B/\false=Option.isSome x.2/\t=t/\e=e/\C=U.kind/\[]=U.pkg/\[]=U.name/\U.names=[]/\U.parts=[]/\F)/\∀(x:Nat×Option Shape),let U:=(↑x.1:Int);let V:=C<=U-B/\U-B<A;let W:=List.getD e.own (Int.toNat (U-B)) G;let X:=inR IntKind.i64 (U-B-B);let Y:=Option.elim x.2 aK bw=I.1;let Z:=aU H L (Option.elim x.2 aK bw) e;let a:=if(!Option.isSome x.2)=true then E/\Y/\J else if decide (t.kind=(17:Int))=true then K/\M/\E/\Y/\O else K/\M/\E/\P/\Q/\R/\S/\T/\Z.err=I.2.err/\Z.pos=I.2.pos/\E;(x.1<=List.length e.own/\(x.2=none->df e.own t.name=df (List.take x.1 e.own) t.name)/\∀(s:Shape),x.2=some s->df e.own t.name=some s)->if decide (C<=U-B)=true then if(!Option.isSome x.2)=true then V/\if decide (W.name=t.name)=true then V/\X/\∃(y:Nat×Option Shape),(y.1<=List.length e.own/\(y.2=none->df e.own t.name=df (List.take y.1 e.own) t.name)/\∀(s:Shape),y.2=some s->df e.own t.name=some s)/\y.1<x.1/\U-B-B=(↑y.1:Int)-B/\true=Option.isSome y.2/\t=t/\e=e/\bw W.shape=Option.elim y.2 aK bw/\F else X/\∃(y:Nat×Option Shape),(y.1<=List.length e.own/\(y.2=none->df e.own t.name=df (List.take y.1 e.own) t.name)/\∀(s:Shape),y.2=some s->df e.own t.name=some s)/\y.1<x.1/\U-B-B=(↑y.1:Int)-B/\Option.isSome x.2=Option.isSome y.2/\t=t/\e=e/\Option.elim x.2 aK bw=Option.elim y.2 aK bw/\F else a else a:=by
 conv=>zeta
 have ln:e.own.length<=9223372036854775807:=he.env_own.len;have p0:=uc (dfl (.st .term)) hz hf hp;have q0:e.values.length+4096 *szT (t.parts.getD (Int.toNat 0) (dfl (.st .term)))<=100000000:=by rw[show Int.toNat 0=0 from rfl];have:=p0.2.2;omega
 simp only[P1,Oo,Oc];refine⟨aN (by omega) (by omega),⟨(e.own.length,none),⟨NK _,fun _=>by rw[OR],fun s h=>nomatch h⟩,rfl,rfl,rfl,rfl,rfl,rfl,rfl⟩,?_⟩;rintro⟨x,o⟩ ⟨h1,h2,h3⟩;dsimp only at h1 h2 h3⊢;refine aa (fun h=>aa (fun ho=>?_) (fun ho=>?_)) (fun h=>?_)
 ·have h:=Xo h;obtain rfl:o=none:=by cases o with|none=>rfl|some s=>exact absurd ho Oz
  obtain⟨k,rfl⟩:∃k,x=k+1:=⟨x-1,by omega⟩;have e1:(((k+1:Nat):Int)-1)=(k:Int):=by omega
  have h2:=h2 rfl;rw[CY e.own t.name (dfl (.st .bind)) (by omega)]at h2;simp only[e1,NQ];refine⟨by omega,aa (fun c=>?_) (fun c=>?_)⟩
  ·rw[NC (Xo c)]at h2;exact⟨by omega,aN (by omega) (by omega),(k,some (e.own.getD k (dfl (.st .bind))).shape),⟨by dsimp only;omega,fun g=>(by cases g),fun s g=>(by cases g;exact h2)⟩,by dsimp only;omega,rfl,rfl,rfl⟩
  ·rw[Ny (fun g=>c (Xd g))]at h2;exact⟨aN (by omega) (by omega),(k,none),⟨by dsimp only;omega,fun _=>h2,fun s g=>(by cases g)⟩,by dsimp only;omega,rfl,rfl,rfl⟩
 ·have ho:o=df e.own t.name:=by
   cases o with|none=>exact absurd rfl ho|some s=>exact(h3 s rfl).symm
  cases o with
  |none=>rw[kg ho.symm];exact aa (fun _=>⟨rfl,rfl,rfl⟩) (fun c=>absurd rfl c)
  |some s=>
   rw[ki ho.symm];refine aa (fun c=>absurd c Oz) (fun _=>aa (fun c=>?_) (fun c=>?_))
   ·rw[NC (Xo c)];exact⟨by omega,⟨p0.1,p0.2.1,q0⟩,rfl,rfl,rfl⟩
   ·rw[Ny (fun g=>c (Xd g))];exact⟨by omega,⟨p0.1,p0.2.1,q0⟩,rfl,rfl,rfl,rfl,rfl,rfl,rfl⟩
 ·have h:¬(0:Int)<=(x:Int)-1:=fun g=>h (Xd g);obtain rfl:x=0:=by omega
  have ho:o=df e.own t.name:=by
   cases o with|none=>exact(h2 rfl).symm|some s=>exact(h3 s rfl).symm
  cases o with
  |none=>rw[kg ho.symm];exact aa (fun _=>⟨rfl,rfl,rfl⟩) (fun c=>absurd rfl c)
  |some s=>
   rw[ki ho.symm];refine aa (fun c=>absurd c Oz) (fun _=>aa (fun c=>?_) (fun c=>?_))
   ·rw[NC (Xo c)];exact⟨by omega,⟨p0.1,p0.2.1,q0⟩,rfl,rfl,rfl⟩
   ·rw[Ny (fun g=>c (Xd g))];exact⟨by omega,⟨p0.1,p0.2.1,q0⟩,rfl,rfl,rfl,rfl,rfl,rfl,rfl⟩
theorem H3(n:Nat)(t:Trm)(e:Envt)(ht:Wf (.st .term) t)(he:Wf (.st .env) e)(hk:t.kind=6∨t.kind=11∨t.kind=12∨t.kind=13∨t.kind=15)(hz:szT t<=n+1)(hf:allT aq t=true)(hv:e.values.length+4096 *szT t<=100000000) :
  let A:=ar e.types t.pos t.shapes;let B:=(0:Int);let C:=True;let D:=ag n;let E:=cG D t e;let F:=[]=E.1.pkg;let G:=[]=E.1.name;let H:=E.1.names=[];let I:=(↑(List.length A.1):Int);let J:=(1:Int);let K:=fh t.names A.1;let L:=t=t;let M:=e=e;let N:=A.1=A.1;let O:=false=false;let P:=I-J=I-J;let Q:=t.kind=t.kind;let R:=true=true;let S:=t.names=t.names;let T:=(↑(List.length t.names):Int);let U:=B=B;let V:=gJ UInt8=gJ UInt8;let W:=List.length A.1=List.length A.1;let X:=U/\V/\V/\U/\U/\W/\A.2.err=A.2.err/\A.2.pos=A.2.pos/\C;let Y:=(1000000000:Nat);let Z:=dfl Ty.str;let a:=dfl (Ty.st SN.shape);let b:=(↑(List.length t.parts):Int);let c:=B<=B/\B<b;let d:=Int.toNat B;let f:=dfl (Ty.st SN.term);let g:=List.getD t.parts d f;let h:=allT aq g=true;let i:=(4096:Nat);let j:=(100000000:Nat);let k:=(List.getD A.1 (0:Nat) aK);let l:=L/\M/\N/\O/\P/\Q/\O/\R/\t.parts=t.parts/\b=b/\L/\M/\X;let m:=B<=B/\B<I;let o:=List.getD A.1 d a;let p:=List.getD A.1 d a=E.1;let q:=szT g<=n/\h/\List.length e.values+i*szT g<=j;let r:=aU D g o e;let s:=(2:Int);let u:=aU D g (ofK s) e;let v:=Int.toNat J;let w:=List.getD t.parts v f;let z:=aU D w o e;let A0:=List.getD t.parts (Int.toNat s) f;let A1:=aU D A0 o e;let A2:=Int.toNat (I-J);let A3:=(aU D g {kind:=(7:Int),pkg:=[],name:=[],names:=t.names,parts:=List.drop d (List.take A2 A.1):Shape} e);let A4:=B<=I-J/\I-J<I;let A5:=List.getD A.1 A2 a=E.1;let A6:=(1:Nat);let A7:=List.getD A.1 (List.length A.1-A6) aK;let A8:=List.drop A6 t.parts;let A9:=List.take (Int.toNat b) t.parts;let B0:=List.drop v A9=List.drop v A9;let B1:=List.drop v A9;let B2:=(↑(List.length B1):Int);let B3:=L/\M/\U/\V/\V/\U/\U/\W/\A3.err=A3.err/\A3.pos=A3.pos/\C;let B4:=List.getD A.1 A2 a;List.length t.shapes<=(1000000:Nat)/\if(!decide (A.2.err=B))=true then C/\B=E.1.kind/\F/\G/\H/\E.1.parts=[]/\A.2.err=E.2.err/\A.2.pos=E.2.pos/\C else inR IntKind.i64 (I-J)/\if decide (t.kind=(6:Int))=true then(∃(x:Nat×Envt),(x.1<=List.length t.names/\List.length x.2.values=List.length e.values+x.1/\bY x.2 (fh (List.drop x.1 t.names) (List.drop x.1 A.1))=bY e K)/\B=(↑x.1:Int)/\L/\M/\N/\O/\P/\Q/\R/\S/\T=T/\e=x.2/\L/\X)/\∀(x:Nat×Envt),let B5:=(↑x.1:Int);let B6:=List.getD A.1 (Int.toNat B5) a;let B7:=[{pkg:=[],name:=List.getD t.names (Int.toNat B5) Z,shape:=AL.Shape.mk (B6.kind) (B6.pkg) (B6.name) (B6.names) (B6.parts):Bndg}];let B8:=ag n g x.2;x.1<=List.length t.names/\List.length x.2.values=List.length e.values+x.1/\bY x.2 (fh (List.drop x.1 t.names) (List.drop x.1 A.1))=bY e K->if decide (B5<T)=true then(B<=B5/\B5<T)/\(B<=B5/\B5<I)/\(List.length x.2.values<=Y/\List.length B7<=(1000:Nat))/\inR IntKind.i64 (B5+J)/\∃(y:Nat×Envt),(y.1<=List.length t.names/\List.length y.2.values=List.length e.values+y.1/\bY y.2 (fh (List.drop y.1 t.names) (List.drop y.1 A.1))=bY e K)/\List.length t.names-y.1<List.length t.names-x.1/\B5+J=(↑y.1:Int)/\L/\M/\N/\O/\P/\Q/\R/\S/\T=T/\bY x.2 B7=y.2/\L/\X else c/\(szT g<=n/\h/\List.length x.2.values+i*szT g<=j)/\(W/\(List.length A.1+List.length [B8.1])*(88:Nat)<=(140737488355328:Nat))/\C/\(8:Int)=E.1.kind/\F/\G/\H/\A.1++[B8.1]=E.1.parts/\B8.2.err=E.2.err/\B8.2.pos=E.2.pos/\C else if decide (t.kind=(11:Int))=true then(∃(x:Nat),(x<=List.length t.parts/\dw D e k (List.drop x t.parts)=dw D e k t.parts)/\B=(↑x:Int)/\l)/\∀(x:Nat),let B5:=(↑x:Int);let B6:=List.getD t.parts (Int.toNat B5) f;let B7:=aU D B6 o e;x<=List.length t.parts/\dw D e k (List.drop x t.parts)=dw D e k t.parts->if decide (B5<b)=true then(B<=B5/\B5<b)/\m/\(szT B6<=n/\allT aq B6=true/\List.length e.values+i*szT B6<=j)/\if(!decide (B7.err=B))=true then m/\C/\p/\B7.err=E.2.err/\B7.pos=E.2.pos/\C else inR IntKind.i64 (B5+J)/\∃(y:Nat),(y<=List.length t.parts/\dw D e k (List.drop y t.parts)=dw D e k t.parts)/\List.length t.parts-y<List.length t.parts-x/\B5+J=(↑y:Int)/\l else C/\(5:Int)=E.1.kind/\F/\G/\H/\A.1=E.1.parts/\B=E.2.err/\B=E.2.pos/\C else if decide (t.kind=(15:Int))=true then m/\c/\m/\q/\C/\p/\r.err=E.2.err/\r.pos=E.2.pos/\C else if decide (t.kind=(12:Int))=true then c/\q/\if(!decide (u.err=B))=true then m/\C/\p/\u.err=E.2.err/\u.pos=E.2.pos/\C else(B<=J/\J<b)/\m/\(szT w<=n/\allT aq w=true/\List.length e.values+i*szT w<=j)/\if(!decide (z.err=B))=true then m/\C/\p/\z.err=E.2.err/\z.pos=E.2.pos/\C else m/\(B<=s/\s<b)/\m/\(szT A0<=n/\allT aq A0=true/\List.length e.values+i*szT A0<=j)/\C/\p/\A1.err=E.2.err/\A1.pos=E.2.pos/\C else c/\(B<=B/\B<=I-J/\I-J<=I)/\q/\if(!decide (A3.err=B))=true then A4/\C/\A5/\A3.err=E.2.err/\A3.pos=E.2.pos/\C else(B<=J/\J<=b/\b<=b)/\(∃(x:Nat×Flt),(x.1+A6<=List.length t.parts/\x.2.err=B/\x.2.pos=B/\gH D e A7 (List.drop (x.1+A6) t.parts) (List.drop x.1 t.vars) (List.drop x.1 A.1)=gH D e A7 A8 t.vars A.1)/\B=(↑x.1:Int)/\L/\M/\N/\O/\P/\Q/\O/\O/\O/\O/\O/\B0/\B2=B2/\A.2.err=x.2.err/\A.2.pos=x.2.pos/\B3)/\∀(x:Nat×Flt),let B5:=(↑x.1:Int);let B6:=Int.toNat B5;let B7:=List.getD A.1 B6 a;let B8:=[{pkg:=[],name:=List.getD t.vars B6 Z,shape:=AL.Shape.mk (B7.kind) (B7.pkg) (B7.name) (B7.names) (B7.parts):Bndg}];let B9:=List.getD B1 B6 f;let C0:=aU D B9 B4 (bY e B8);x.1+A6<=List.length t.parts/\x.2.err=B/\x.2.pos=B/\gH D e A7 (List.drop (x.1+A6) t.parts) (List.drop x.1 t.vars) (List.drop x.1 A.1)=gH D e A7 A8 t.vars A.1->if decide (B5<B2)=true then(B<=B5/\B5<B2)/\A4/\(B<=B5/\B5<(↑(List.length t.vars):Int))/\(B<=B5/\B5<I)/\(List.length e.values<=Y/\List.length B8<=(1000:Nat))/\(szT B9<=n/\allT aq B9=true/\List.length (e.values++B8)+i*szT B9<=j)/\if(!decide (C0.err=B))=true then A4/\C/\A5/\C0.err=E.2.err/\C0.pos=E.2.pos/\C else inR IntKind.i64 (B5+J)/\∃(y:Nat×Flt),(y.1+A6<=List.length t.parts/\y.2.err=B/\y.2.pos=B/\gH D e A7 (List.drop (y.1+A6) t.parts) (List.drop y.1 t.vars) (List.drop y.1 A.1)=gH D e A7 A8 t.vars A.1)/\List.length t.parts-y.1<List.length t.parts-x.1/\B5+J=(↑y.1:Int)/\L/\M/\N/\O/\P/\Q/\O/\O/\O/\O/\O/\B0/\B2=B2/\C0.err=y.2.err/\C0.pos=y.2.pos/\B3 else A4/\C/\
  A5/\x.2.err=E.2.err/\x.2.pos=E.2.pos/\C:=by
 conv=>zeta
 have rm:=EN hf;have ln:=ht.term_parts.len;have ps:=Ad t;have hds:List.drop (Int.toNat 1) (List.take t.parts.length t.parts)=t.parts.drop 1:=by rw[OR];rfl
 have hdg:∀k:Nat,(t.parts.drop 1).getD k (dfl (.st .term))=t.parts.getD (k+1) (dfl (.st .term)):=fun k=>by rw[NB,NB,OD,Nat.add_comm]
 have e0:Int.toNat 0=0:=rfl;have e1:Int.toNat 1=1:=rfl;have e2:Int.toNat 2=2:=rfl;have et:∀s:Shape,AL.Shape.mk s.kind s.pkg s.name s.names s.parts=s:=fun s=>by cases s;rfl
 simp only[hds,et,NQ,P1,Oo,Oc];simp only[hdg,e0,e1,e2,Pq,OG]
 have hsh:t.shapes.length<=1000000:=by
  rcases hk with k|k|k|k|k
  ·have:=rm.k6 k;omega
  ·have:=rm.k11 k;omega
  ·have:=rm.k12 k;omega
  ·have:=rm.k13 k;omega
  ·have:=rm.k15 k;omega
 have hl:=@ue e.types t.pos t.shapes;have hok:=@wm e.types t.pos t.shapes;have hA0:¬(ar e.types t.pos t.shapes).2.err=0->cG (ag n) t e=(aK,(ar e.types t.pos t.shapes).2):=fun h=>by simp only[cG,Ny h]
 have hA6:(ar e.types t.pos t.shapes).2.err=0->t.kind=6->cG (ag n) t e=(⟨8,[],[],[],(ar e.types t.pos t.shapes).1++[(ag n (t.parts.getD 0 aT) (bY e (fh t.names (ar e.types t.pos t.shapes).1))).1]⟩,(ag n (t.parts.getD 0 aT) (bY e (fh t.names (ar e.types t.pos t.shapes).1))).2):=fun h k=>by simp only[cG,NC h,NC k]
 have hA11:(ar e.types t.pos t.shapes).2.err=0->t.kind=11->cG (ag n) t e=if(dw (ag n) e ((ar e.types t.pos t.shapes).1.getD 0 aK) t.parts).err=0 then(⟨5,[],[],[],(ar e.types t.pos t.shapes).1⟩,cu)else((ar e.types t.pos t.shapes).1.getD 0 aK,dw (ag n) e ((ar e.types t.pos t.shapes).1.getD 0 aK) t.parts):=fun h k=>by simp only[cG,NC h,Ny (show ¬t.kind=6 by omega),NC k]
 have hA15:(ar e.types t.pos t.shapes).2.err=0->t.kind=15->cG (ag n) t e=((ar e.types t.pos t.shapes).1.getD 0 aK,aU (ag n) (t.parts.getD 0 aT) ((ar e.types t.pos t.shapes).1.getD 0 aK) e):=fun h k=>by simp only[cG,NC h,Ny (show ¬t.kind=6 by omega),Ny (show ¬t.kind=11 by omega),NC k]
 have hA12:(ar e.types t.pos t.shapes).2.err=0->t.kind=12->cG (ag n) t e=((ar e.types t.pos t.shapes).1.getD 0 aK,if(aU (ag n) (t.parts.getD 0 aT) (ofK 2) e).err=0 then(if(aU (ag n) (t.parts.getD 1 aT) ((ar e.types t.pos t.shapes).1.getD 0 aK) e).err=0 then aU (ag n) (t.parts.getD 2 aT) ((ar e.types t.pos t.shapes).1.getD 0 aK) e else aU (ag n) (t.parts.getD 1 aT) ((ar e.types t.pos t.shapes).1.getD 0 aK) e)else aU (ag n) (t.parts.getD 0 aT) (ofK 2) e):=fun h k=>by simp only[cG,NC h,Ny (show ¬t.kind=6 by omega),Ny (show ¬t.kind=11 by omega),Ny (show ¬t.kind=15 by omega),NC k]
 have hA13:(ar e.types t.pos t.shapes).2.err=0->t.kind=13->cG (ag n) t e=((ar e.types t.pos t.shapes).1.getD ((ar e.types t.pos t.shapes).1.length-1) aK,if(aU (ag n) (t.parts.getD 0 aT) ⟨7,[],[],t.names,(ar e.types t.pos t.shapes).1.take ((ar e.types t.pos t.shapes).1.length-1)⟩ e).err=0 then gH (ag n) e ((ar e.types t.pos t.shapes).1.getD ((ar e.types t.pos t.shapes).1.length-1) aK) (t.parts.drop 1) t.vars (ar e.types t.pos t.shapes).1 else aU (ag n) (t.parts.getD 0 aT) ⟨7,[],[],t.names,(ar e.types t.pos t.shapes).1.take ((ar e.types t.pos t.shapes).1.length-1)⟩ e):=fun h k=>by simp only[cG,NC h,Ny (show ¬t.kind=6 by omega),Ny (show ¬t.kind=11 by omega),Ny (show ¬t.kind=15 by omega),Ny (show ¬t.kind=12 by omega)]
 revert hl hok hA0 hA6 hA11 hA15 hA12 hA13;generalize cG (ag n) t e=R;generalize ar e.types t.pos t.shapes=L;intro hl hok hA0 hA6 hA11 hA15 hA12 hA13;refine⟨hsh,aa (fun h=>?_) (fun h=>?_)⟩
 ·rw[hA0 (ndF h)];exact⟨rfl,rfl,rfl,rfl,rfl,rfl,rfl⟩
 have h:L.2.err=0:=ndT h;have hl:=hl h;have hok:L.2=cu:=by rw[hok h]
 have nx:∀{j w:Nat},j<t.parts.length->w<=e.values.length+4096->szT (t.parts.getD j (dfl (.st .term)))<=n/\allT aq (t.parts.getD j (dfl (.st .term)))=true/\w+4096 *szT (t.parts.getD j (dfl (.st .term)))<=100000000:=fun hj hw=>xQ hz hf hv _ hj hw;refine⟨aN (by omega) (by omega),aa (fun k=>?_) (fun k6=>?_)⟩
 ·have k:=Xo k;obtain⟨n1,n2,n3⟩:=rm.k6 k;refine⟨⟨(0,e),⟨NU _,rfl,by rw[OG,OG]⟩,rfl,rfl⟩,?_⟩;rintro⟨j,f⟩ ⟨h1,h2,h3⟩;dsimp only at h1 h2 h3⊢;apply aa<;>intro c
  ·have c:=Xo c;have hj:j<t.names.length:=by omega
   rw[ak t.names j (dfl .str) hj,ak L.1 j (dfl (.st .shape)) (by omega)]at h3;simp only[fh]at h3;refine⟨by omega,by omega,⟨by omega,by simp⟩,aN (by omega) (by omega),(j+1,_),⟨by dsimp only;omega,?_,?_⟩,by dsimp only;omega,by dsimp only;omega,rfl⟩
   ·dsimp only;rw[NZ,h2];simp only[NL,Ou];omega
   ·show bY (bY f [gf (t.names.getD j (dfl .str)) (L.1.getD j (dfl (.st .shape)))]) _=_;rw[Ac];exact h3
  ·have c:¬((j:Int)<(t.names.length:Int)):=fun q=>c (Xd q);have hj:j=t.names.length:=by omega
   have hf':f=bY e (fh t.names L.1):=by rw[hj,NN]at h3;simp only[fh]at h3;rw[Gf]at h3;exact h3
   have ob:=nx (j:=0) (w:=f.values.length) (by omega) (by omega);rw[hA6 h k];refine⟨by omega,ob,?_,rfl,rfl,rfl,rfl,?_,?_,?_⟩
   ·simp only[NL,Ou];omega
   ·rw[hf'];rfl
   ·rw[hf'];rfl
   ·rw[hf'];rfl
 have k6:¬t.kind=6:=fun q=>k6 (Xd q);refine aa (fun k=>?_) (fun k11=>?_)
 ·have k:=Xo k;have n1:=rm.k11 k;refine⟨⟨0,⟨NU _,by rw[OG]⟩,rfl⟩,?_⟩;rintro j ⟨h1,h2⟩;apply aa<;>intro c
  ·have c:=Xo c;have hj:j<t.parts.length:=by omega
   rw[ak t.parts j (dfl (.st .term)) hj]at h2;simp only[dw]at h2;refine⟨by omega,by omega,nx hj (P2 _ _),aa (fun f=>?_) (fun f=>?_)⟩
   ·have f:¬(aU (ag n) (t.parts.getD j (dfl (.st .term))) (L.1.getD 0 aK) e).err=0:=ndF f;rw[Ny f]at h2;rw[hA11 h k,<-h2,Ny f];exact⟨by omega,rfl,rfl,rfl⟩
   ·have f:(aU (ag n) (t.parts.getD j (dfl (.st .term))) (L.1.getD 0 aK) e).err=0:=ndT f;rw[NC f]at h2;exact⟨aJ hj ln,j+1,⟨by omega,h2⟩,by omega,by omega⟩
  ·have c:¬((j:Int)<(t.parts.length:Int)):=fun q=>c (Xd q);have hj:j=t.parts.length:=by omega
   rw[hj,NN]at h2;rw[hA11 h k,<-h2];exact⟨rfl,rfl,rfl,rfl,rfl,rfl,rfl⟩
 have k11:¬t.kind=11:=fun q=>k11 (Xd q);refine aa (fun k=>?_) (fun k15=>?_)
 ·have k:=Xo k;obtain⟨n1,n2⟩:=rm.k15 k;rw[hA15 h k];exact⟨by omega,by omega,by omega,nx (by omega) (P2 _ _),rfl,rfl,rfl⟩
 have k15:¬t.kind=15:=fun q=>k15 (Xd q);refine aa (fun k=>?_) (fun k12=>?_)
 ·have k:=Xo k;obtain⟨n1,n2⟩:=rm.k12 k;rw[hA12 h k];refine⟨by omega,nx (by omega) (P2 _ _),aa (fun f=>?_) (fun f=>?_)⟩
  ·rw[Ny (show ¬(aU (ag n) (t.parts.getD 0 aT) (ofK 2) e).err=0 from ndF f)];exact⟨by omega,rfl,rfl,rfl⟩
  rw[NC (show(aU (ag n) (t.parts.getD 0 aT) (ofK 2) e).err=0 from ndT f)];refine⟨by omega,by omega,nx (by omega) (P2 _ _),aa (fun f=>?_) (fun f=>?_)⟩
  ·rw[Ny (show ¬(aU (ag n) (t.parts.getD 1 aT) (L.1.getD 0 aK) e).err=0 from ndF f)];exact⟨by omega,rfl,rfl,rfl⟩
  rw[NC (show(aU (ag n) (t.parts.getD 1 aT) (L.1.getD 0 aK) e).err=0 from ndT f)];exact⟨by omega,by omega,by omega,nx (by omega) (P2 _ _),rfl,rfl,rfl⟩
 have k12:¬t.kind=12:=fun q=>k12 (Xd q);have k:t.kind=13:=by omega
 obtain⟨n1,n2,n3⟩:=rm.k13 k;have el:((L.1.length:Int)-1).toNat=L.1.length-1:=by omega
 rw[el,hA13 h k];refine⟨by omega,by omega,nx (by omega) (P2 _ _),aa (fun f=>?_) (fun f=>?_)⟩
 ·rw[Ny (show ¬(aU (ag n) (t.parts.getD 0 aT) ⟨7,[],[],t.names,L.1.take (L.1.length-1)⟩ e).err=0 from ndF f)];exact⟨by omega,rfl,rfl,rfl⟩
 rw[NC (show(aU (ag n) (t.parts.getD 0 aT) ⟨7,[],[],t.names,L.1.take (L.1.length-1)⟩ e).err=0 from ndT f)];refine⟨by omega,⟨(0,cu),⟨by dsimp only;omega,rfl,rfl,by rw[OG,OG]⟩,rfl,by rw[hok],by rw[hok]⟩,?_⟩;rintro⟨j,f⟩ ⟨h1,h2,h3,h4⟩;dsimp only at h1 h2 h3 h4⊢;apply aa<;>intro c
 ·have c:=Xo c;have hj:j+1<t.parts.length:=by omega
  rw[ak t.parts (j+1) (dfl (.st .term)) hj,ak t.vars j (dfl .str) (by omega),ak L.1 j (dfl (.st .shape)) (by omega)]at h4;simp only[gH]at h4;have ob:=nx (j:=j+1) (w:=e.values.length+1) hj (by omega);refine⟨by omega,by omega,by omega,by omega,⟨by omega,by simp⟩,?_,aa (fun f=>?_) (fun f=>?_)⟩
  ·rw[NZ];exact ob
  ·have f:=ndF f;rw[<-h4,Ny (show ¬(aU (ag n) (t.parts.getD (j+1) (dfl (.st .term))) (L.1.getD (L.1.length-1) aK) (bY e [gf (t.vars.getD j (dfl .str)) (L.1.getD j (dfl (.st .shape)))])).err=0 from f)];exact⟨by omega,rfl,rfl,rfl⟩
  ·have f:=ndT f;rw[NC (show(aU (ag n) (t.parts.getD (j+1) (dfl (.st .term))) (L.1.getD (L.1.length-1) aK) (bY e [gf (t.vars.getD j (dfl .str)) (L.1.getD j (dfl (.st .shape)))])).err=0 from f)]at h4;exact⟨aJ (by omega) ln,(j+1,cu),⟨by dsimp only;omega,rfl,rfl,h4⟩,by dsimp only;omega,by dsimp only;omega,f,by rw[Gh f]⟩
 ·have c:¬((j:Int)<((t.parts.length-1:Nat):Int)):=fun q=>c (Xd q);have hj:j+1=t.parts.length:=by omega
  rw[hj,NN]at h4;simp only[gH]at h4;rw[<-h4];exact⟨by omega,rfl,h2,h3⟩
theorem H4(n:Nat)(t:Trm)(e:Envt)(ht:Wf (.st .term) t)(he:Wf (.st .env) e)(hz:szT t<=n+1)(hf:allT aq t=true)(hv:e.values.length+4096 *szT t<=100000000) :
  let A:=(1:Int);let B:=True;let C:=ag n;let D:=b6 C t e;let E:=(0:Int);let F:=E=D.2.err/\E=D.2.pos/\B;let G:=B/\ofK (2:Int)=D.1/\F;let H:=(decide (t.kind=(3:Int))||decide (t.kind=(4:Int)));let I:=t.kind=t.kind;let J:=false=false;let K:=gJ UInt8=gJ UInt8;let L:=t=t/\e=e/\E=E/\K/\K/\E=E/\E=E/\B;let M:=aC e.values t.pkg t.name;let N:=Option.elim M aK bw=D.1;let O:=(4096:Nat);let P:=(100000000:Nat);let Q:=szT t<=n+(1:Nat)/\allT aq t=true/\List.length e.values+O*szT t<=P;let R:=((0:Nat)<List.length t.parts/\Q);let S:=fI C t e;let T:=t.parts=t.parts;let U:=(↑(List.length t.parts):Int);let V:=(6:Int);let W:=t.names=t.names;let X:=dfl (Ty.st SN.term);let Y:=[]=D.1.pkg;let Z:=[]=D.1.name;let a:=gY C t e;let b:=E<=E/\E<U;let c:=List.getD t.parts (Int.toNat E) X;let d:=szT c<=n/\allT aq c=true/\List.length e.values+O*szT c<=P;let f:=ag n c e;let g:=f.2.err=D.2.err/\f.2.pos=D.2.pos/\B;let h:=[{pkg:=[],name:=t.name,shape:=AL.Shape.mk (f.1.kind) (f.1.pkg) (f.1.name) (f.1.names) (f.1.parts):Bndg}];let i:=List.getD t.parts (Int.toNat A) X;let j:=ag n i (bY e h);let k:=nY C t e;let l:=R/\B/\k.1=D.1/\k.2.err=D.2.err/\k.2.pos=D.2.pos/\B;let m:=cG C t e;if decide (t.kind=A)=true then B/\ofK A=D.1/\F else if decide (t.kind=(2:Int))=true then B/\ofK (3:Int)=D.1/\F else if decide (t.kind=(3:Int))=true then G else(decide (t.kind=(4:Int))=H/\t=t/\e=e/\I/\J/\J/\L)/\if H=true then G else if decide (t.kind=(5:Int))=true then if(!Option.isSome M)=true then B/\N/\(110:Int)=D.2.err/\t.pos=D.2.pos/\B else B/\N/\F else if decide (t.kind=(7:Int))=true then R/\B/\S.1=D.1/\S.2.err=D.2.err/\S.2.pos=D.2.pos/\B else if decide (t.kind=(8:Int))=true then(∃(x:Nat×List Shape),let o:=cZ C e (List.drop x.1 t.parts);(x.1<=List.length t.parts/\List.length x.2=x.1/\cZ C e t.parts=(x.2++o.1,o.2))/\E=(↑x.1:Int)/\J/\t=t/\e=e/\I/\J/\J/\J/\J/\true=true/\T/\U=U/\V=V/\K/\K/\W/\x.2=[]/\List.length x.2=(0:Nat)/\L)/\∀(x:Nat×List Shape),let o:=cZ C e (List.drop x.1 t.parts);let p:=(↑x.1:Int);let q:=List.getD t.parts (Int.toNat p) X;let r:=ag n q e;x.1<=List.length t.parts/\List.length x.2=x.1/\cZ C e t.parts=(x.2++o.1,o.2)->if decide (p<U)=true then(E<=p/\p<U)/\(szT q<=n/\allT aq q=true/\List.length e.values+O*szT q<=P)/\if(!decide (r.2.err=E))=true then B/\r.1=D.1/\r.2.err=D.2.err/\r.2.pos=D.2.pos/\B else(List.length x.2=List.length x.2/\(List.length x.2+List.length [r.1])*(88:Nat)<=(140737488355328:Nat))/\inR IntKind.i64 (p+A)/\∃(y:Nat×List Shape),let s:=cZ C e (List.drop y.1 t.parts);(y.1<=List.length t.parts/\List.length y.2=y.1/\cZ C e t.parts=(y.2++s.1,s.2))/\List.length t.parts-y.1<List.length t.parts-x.1/\p+A=(↑y.1:Int)/\J/\t=t/\e=e/\I/\J/\J/\J/\J/\true=true/\T/\U=U/\V=V/\K/\K/\W/\x.2++[r.1]=y.2/\List.length (x.2++[r.1])=List.length y.2/\L else B/\V=D.1.kind/\Y/\Z/\t.names=D.1.names/\x.2=D.1.parts/\F else if decide (t.kind=(9:Int))=true then R/\B/\a.1=D.1/\a.2.err=D.2.err/\a.2.pos=D.2.pos/\B else if decide (t.kind=(10:Int))=true then b/\d/\B/\(7:Int)=D.1.kind/\Y/\Z/\[t.name]=D.1.names/\[f.1]=D.1.parts/\g else if decide (t.kind=(14:Int))=true then b/\d/\if(!decide (f.2.err=E))=true then B/\f.1=D.1/\g else(E<=A/\A<U)/\(List.length e.values<=(1000000000:Nat)/\List.length h<=(1000:Nat))/\(szT i<=n/\allT aq i=true/\List.length (e.values++h)+O*szT i<=P)/\B/\j.1=D.1/\j.2.err=D.2.err/\j.2.pos=D.2.pos/\B else if decide (t.kind=(16:Int))=true then l else if decide (t.kind=(17:Int))=true then l else((t.kind=V∨t.kind=(11:Int)∨t.kind=(12:Int)∨t.kind=(13:Int)∨t.kind=(15:Int))/\Q)/\B/\m.1=D.1/\m.2.err=D.2.err/\m.2.pos=D.2.pos/\B:=by
 conv=>zeta
 have rm:=EN hf;have ln:=ht.term_parts.len;have ps:=Ad t;have e0:Int.toNat 0=0:=rfl;have e1:Int.toNat 1=1:=rfl;have et:∀s:Shape,AL.Shape.mk s.kind s.pkg s.name s.names s.parts=s:=fun s=>by cases s;rfl
 simp only[e0,e1,et,NQ,P1,Oo,Oc];have nx:∀{j w:Nat},j<t.parts.length->w<=e.values.length+4096->szT (t.parts.getD j (dfl (.st .term)))<=n/\allT aq (t.parts.getD j (dfl (.st .term)))=true/\w+4096 *szT (t.parts.getD j (dfl (.st .term)))<=100000000:=fun hj hw=>xQ hz hf hv _ hj hw;refine aa (fun k=>?_) (fun k1=>?_)
 ·have k:=Xo k;rw[show b6 (ag n) t e=(ofK 1,cu) by unfold b6;simp[k]];exact⟨rfl,rfl,rfl⟩
 have k1:¬t.kind=1:=fun q=>k1 (Xd q);refine aa (fun k=>?_) (fun k2=>?_)
 ·have k:=Xo k;rw[show b6 (ag n) t e=(ofK 3,cu) by unfold b6;simp[k]];exact⟨rfl,rfl,rfl⟩
 have k2:¬t.kind=2:=fun q=>k2 (Xd q);refine aa (fun k=>?_) (fun k3=>?_)
 ·have k:=Xo k;rw[show b6 (ag n) t e=(ofK 2,cu) by unfold b6;simp[k]];exact⟨rfl,rfl,rfl⟩
 have k3:¬t.kind=3:=fun q=>k3 (Xd q);refine⟨by rw[Xf k3,Bool.false_or],aa (fun k=>?_) (fun k4=>?_)⟩
 ·have k:t.kind=4:=by rw[Xf k3,Bool.false_or]at k;exact Xo k
  rw[show b6 (ag n) t e=(ofK 2,cu) by unfold b6;simp[k]];exact⟨rfl,rfl,rfl⟩
 have k4:¬t.kind=4:=fun q=>k4 (by rw[Xd q,Bool.or_true]);refine aa (fun k=>?_) (fun k5=>?_)
 ·have k:=Xo k;have hN:aC e.values t.pkg t.name=none->b6 (ag n) t e=(aK,⟨110,t.pos⟩):=fun g=>by unfold b6;simp[k,g]
  have hS:∀s,aC e.values t.pkg t.name=some s->b6 (ag n) t e=(bw s,cu):=fun s g=>by unfold b6;simp[k,g]
  cases g:aC e.values t.pkg t.name with|none=>rw[hN g];exact aa (fun _=>⟨rfl,rfl,rfl⟩) (fun q=>absurd rfl q)|some s=>rw[hS s g];exact aa (fun q=>absurd q Oz) (fun _=>⟨rfl,rfl,rfl⟩)
 have k5:¬t.kind=5:=fun q=>k5 (Xd q);refine aa (fun k=>?_) (fun k7=>?_)
 ·have k:=Xo k;rw[show b6 (ag n) t e=fI (ag n) t e by unfold b6;simp[k]];exact⟨⟨rm.k7 k,hz,hf,hv⟩,rfl,rfl,rfl⟩
 have k7:¬t.kind=7:=fun q=>k7 (Xd q);refine aa (fun k=>?_) (fun k8=>?_)
 ·have k:=Xo k;have hP:b6 (ag n) t e=if(cZ (ag n) e t.parts).2.2.err=0 then(⟨6,[],[],t.names,(cZ (ag n) e t.parts).1⟩,cu)else(cZ (ag n) e t.parts).2:=by unfold b6;simp[k]
  refine⟨⟨(0,[]),⟨NU _,rfl,by rw[OG];rfl⟩,rfl,rfl,rfl⟩,?_⟩;rintro⟨j,q⟩ ⟨h1,h2,h3⟩;dsimp only at h1 h2 h3⊢;apply aa<;>intro c
  ·have c:=Xo c;have hj:j<t.parts.length:=by omega
   rw[ak t.parts j (dfl (.st .term)) hj]at h3;simp only[cZ]at h3;refine⟨by omega,nx hj (P2 _ _),aa (fun f=>?_) (fun f=>?_)⟩
   ·have f:=ndF f;rw[Ny f]at h3;rw[hP,h3,Ny (show ¬(q++[],ag n (t.parts.getD j (dfl (.st .term))) e).2.2.err=0 from f)];exact⟨rfl,rfl,rfl⟩
   ·have f:=ndT f;rw[NC f]at h3;refine⟨by simp only[NL,Ou];omega,aJ hj ln,(j+1,q++[_]),⟨by dsimp only;omega,by simp[h2],?_⟩,by dsimp only;omega,by dsimp only;omega,rfl,rfl⟩;dsimp only;rw[h3,O9];rfl
  ·have c:¬((j:Int)<(t.parts.length:Int)):=fun q=>c (Xd q);have hj:j=t.parts.length:=by omega
   rw[hj,NN]at h3;simp only[cZ,OL]at h3;rw[hP,h3];exact⟨rfl,rfl,rfl,rfl,rfl,rfl,rfl⟩
 have k8:¬t.kind=8:=fun q=>k8 (Xd q);refine aa (fun k=>?_) (fun k9=>?_)
 ·have k:=Xo k;rw[show b6 (ag n) t e=gY (ag n) t e by unfold b6;simp[k]];have:=rm.k1 (by omega);exact⟨⟨by omega,hz,hf,hv⟩,rfl,rfl,rfl⟩
 have k9:¬t.kind=9:=fun q=>k9 (Xd q);refine aa (fun k=>?_) (fun k10=>?_)
 ·have k:=Xo k;rw[show b6 (ag n) t e=(⟨7,[],[],[t.name],[(ag n (t.parts.getD 0 aT) e).1]⟩,(ag n (t.parts.getD 0 aT) e).2) by unfold b6;simp[k]];have:=rm.k1 (by omega);exact⟨by omega,nx (by omega) (P2 _ _),rfl,rfl,rfl,rfl,rfl,rfl,rfl⟩
 have k10:¬t.kind=10:=fun q=>k10 (Xd q);refine aa (fun k=>?_) (fun k14=>?_)
 ·have k:=Xo k;rw[show b6 (ag n) t e=(if(ag n (t.parts.getD 0 aT) e).2.err=0 then ag n (t.parts.getD 1 aT) (bY e [gf t.name (ag n (t.parts.getD 0 aT) e).1])else ag n (t.parts.getD 0 aT) e) by unfold b6;simp[k]];have:=rm.k14 k;refine⟨by omega,nx (by omega) (P2 _ _),aa (fun f=>?_) (fun f=>?_)⟩
  ·rw[Ny (show ¬(ag n (t.parts.getD 0 aT) e).2.err=0 from ndF f)];exact⟨rfl,rfl,rfl⟩
  ·rw[NC (show(ag n (t.parts.getD 0 aT) e).2.err=0 from ndT f)];refine⟨by omega,⟨by omega,by simp⟩,?_,rfl,rfl,rfl⟩;rw[NZ];exact nx (by omega) (by simp)
 have k14:¬t.kind=14:=fun q=>k14 (Xd q);refine aa (fun k=>?_) (fun k16=>?_)
 ·have k:=Xo k;rw[show b6 (ag n) t e=nY (ag n) t e by unfold b6;simp[k]];have:=rm.k1 (by omega);exact⟨⟨by omega,hz,hf,hv⟩,rfl,rfl,rfl⟩
 have k16:¬t.kind=16:=fun q=>k16 (Xd q);refine aa (fun k=>?_) (fun k17=>?_)
 ·have k:=Xo k;rw[show b6 (ag n) t e=nY (ag n) t e by unfold b6;simp[k]];have:=rm.k1 (by omega);exact⟨⟨by omega,hz,hf,hv⟩,rfl,rfl,rfl⟩
 have k17:¬t.kind=17:=fun q=>k17 (Xd q);have ka:=rm.all;rw[show b6 (ag n) t e=cG (ag n) t e by unfold b6;simp[k1,k2,k3,k4,k5,k7,k8,k9,k10,k14,k16,k17]];exact⟨⟨by omega,hz,hf,hv⟩,rfl,rfl,rfl⟩
theorem JS(t:Trm)(e:Envt)(ht:Wf (.st .term) t)(he:Wf (.st .env) e)(ho:cn t=true/\e.values.length<=1000000) :
  let A:=(0:Int);let B:=eG t e;let C:=ag (szT t) t e;cn t=true/\if(!decide (dx t=A))=true then True/\A=B.1.kind/\[]=B.1.pkg/\[]=B.1.name/\B.1.names=[]/\B.1.parts=[]/\dx t=B.2.err/\A=B.2.pos/\True else(szT t<=szT t/\allT aq t=true/\List.length e.values+(4096:Nat)*szT t<=(100000000:Nat))/\True/\C.1=B.1/\C.2.err=B.2.err/\C.2.pos=B.2.pos/\True:=by
 conv=>zeta
 obtain⟨h1,h2⟩:=ho;refine⟨h1,aa (fun h=>?_) (fun h=>?_)⟩
 ·have h:=ndF h;rw[show eG t e=(aK,⟨dx t,0⟩) by unfold eG;rw[Ny h]];exact Xr
 ·have h:=ndT h;rw[show eG t e=ag (szT t) t e by unfold eG;rw[NC h]];have:=(D0 h).1;exact⟨⟨NK _,CZ h,by omega⟩,trivial,rfl,rfl,rfl,trivial⟩
theorem H5(s:Str)(c:Int)(hs:Wf .str s)(ho:c=48) :
  let A:=c=c/\gJ UInt8=gJ UInt8/\True;let B:=(0:Int);let C:=(1:Int);(∃(x:Nat),(x<=List.length s/\dt s=dt (List.drop x s))/\s=List.drop x s/\A)/\∀(x:Nat),let D:=List.drop x s;let E:=(↑(List.length D):Int);let F:=True/\List.drop x s=dt s/\True;x<=List.length s/\dt s=dt D->if decide (B<E)=true then(B<=B/\B<E)/\if decide ((↑(UInt8.toNat (List.getD D (Int.toNat B) (0:UInt8))):Int)=c)=true then(B<=C/\C<=E/\E<=E)/\∃(y:Nat),(y<=List.length s/\dt s=dt (List.drop y s))/\List.length s-y<List.length s-x/\List.drop (Int.toNat C) (List.take (Int.toNat E) D)=List.drop y s/\A else F else F:=by
 conv=>zeta
 subst ho;simp only[NQ];refine⟨⟨0,⟨NU _,rfl⟩,(by repeat' (first|exact trivial|rfl|apply And.intro))⟩,?_⟩;rintro k ⟨h1,h2⟩;apply aa<;>intro h
 ·have h:=Xo h;rw[Pq]at h;have hk:k<s.length:=by omega
  have hd:=ak s k 0 hk;simp only[hd]at h2⊢;refine⟨⟨by omega,by simp only[NL];omega⟩,aa (fun c=>?_) (fun c=>?_)⟩
  ·have c:((s.getD k 0).toNat:Int)=48:=Xo c;have c:s.getD k 0=48:=UInt8.toNat_inj.1 (by show _=48;omega);rw[CS c]at h2;refine⟨⟨by omega,by simp only[NL];omega,Int.le_refl _⟩,k+1,⟨by omega,h2⟩,by omega,?_,(by repeat' (first|exact trivial|rfl|apply And.intro))⟩;rw[OR];rfl
  ·have c:¬((s.getD k 0).toNat:Int)=48:=fun e=>c (Xd e);have c:¬s.getD k 0=48:=fun e=>c (by rw[e];rfl);rw[CT c]at h2;exact⟨trivial,h2.symm,trivial⟩
 ·have e:s.drop k=[]:=by have:¬(0:Int)<((s.drop k).length:Int):=fun e=>h (Xd e);exact NR (by omega)
  rw[e]at h2⊢;exact⟨trivial,h2.symm,trivial⟩
theorem AP(s t:Str)(ho:t=[48]) :
  let A:=True/\s=dt s/\True;let B:=(↑(List.length t):Int);let C:=(0:Int);let D:=C<=C/\C<B;let E:=(↑(UInt8.toNat (List.getD t (Int.toNat C) (0:UInt8))):Int);if decide (s=[])=true then A else if decide (t=[])=true then A else if decide (B=(1:Int))=true then D/\if decide (E<(128:Int))=true then D/\E=(48:Int)/\True/\dt s=dt s/\True else False else False:=by
 conv=>zeta
 subst ho;refine aa (fun h=>?_) (fun _=>aa (fun h=>absurd h (by decide)) (fun _=>aa (fun _=>⟨by decide,aa (fun _=>⟨by decide,by decide,trivial,(by repeat' (first|exact trivial|rfl|apply And.intro))⟩) (fun h=>absurd (by decide) h)⟩) (fun h=>absurd (by decide) h)));rw[Xo h];exact⟨trivial,(by repeat' (first|exact trivial|rfl|apply And.intro))⟩
theorem LC(a:Int)  :
  True/\(!decide (a=a))=false/\True:=by
 exact⟨trivial,by simp,trivial⟩
theorem H6(a b:Int)  :
  let A:=True;if decide (a<b)=true then A/\(-1:Int)=cmpI a b/\A else if decide (b<a)=true then A/\(1:Int)=cmpI a b/\A else A/\(0:Int)=cmpI a b/\A:=by
 conv=>zeta
 unfold cmpI;refine aa (fun h=>?_) (fun h=>aa (fun k=>?_) (fun k=>?_))
 ·exact⟨trivial,(NC (Xo h)).symm,trivial⟩
 ·have h:¬a<b:=fun e=>h (Xd e);exact⟨trivial,by rw[Ny h,NC (Xo k)],trivial⟩
 ·have h:¬a<b:=fun e=>h (Xd e);have k:¬b<a:=fun e=>k (Xd e);exact⟨trivial,by rw[Ny h,Ny k],trivial⟩
theorem ML(l:List Int)(hl:Wf (.lst (.int .i64)) l) :
  let A:=(0:Int);let B:=(↑(List.length l):Int);let C:=l=l/\A=A/\l=l/\B=B/\True;let D:=dfl (Ty.int IntKind.i64);(∃(x:Nat),(x<=List.length l/\orI l=orI (List.drop x l))/\A=(↑x:Int)/\C)/\∀(x:Nat),let E:=(↑x:Int);x<=List.length l/\orI l=orI (List.drop x l)->if decide (E<B)=true then(A<=E/\E<B)/\if(!decide (List.getD l (Int.toNat E) D=A))=true then True/\List.getD l (Int.toNat E) D=orI l/\True else inR IntKind.i64 (E+(1:Int))/\∃(y:Nat),(y<=List.length l/\orI l=orI (List.drop y l))/\List.length l-y<List.length l-x/\E+(1:Int)=(↑y:Int)/\C else True/\A=orI l/\True:=by
 conv=>zeta
 have ln:=hl.len;simp only[NQ];refine⟨⟨0,⟨NU _,rfl⟩,(by repeat' (first|exact trivial|rfl|apply And.intro))⟩,?_⟩;rintro k ⟨h1,h2⟩;apply aa<;>intro h
 ·have h:=Xo h;have hk:k<l.length:=by omega
  rw[ak l k (dfl (.int .i64)) hk,orI]at h2;refine⟨by omega,aa (fun c=>?_) (fun c=>?_)⟩
  ·have c:¬l.getD k (dfl (.int .i64))=0:=by simpa using c
   rw[Ny c]at h2;exact⟨trivial,h2.symm,trivial⟩
  ·have c:l.getD k (dfl (.int .i64))=0:=by simpa using c
   rw[NC c]at h2;exact⟨aJ hk ln,k+1,⟨by omega,h2⟩,by omega,by omega,(by repeat' (first|exact trivial|rfl|apply And.intro))⟩
 ·have e:k=l.length:=by have:¬((k:Int)<(l.length:Int)):=fun e=>h (Xd e);omega
  subst e;rw[NN]at h2;exact⟨trivial,h2.symm,trivial⟩
theorem Dz(a b:Str)  :
  let A:=([48]:Str)=([48]:Str);A/\A/\True/\orI [cmpI (↑(List.length (dt a)):Int) (↑(List.length (dt b)):Int),kY (dt a) (dt b)]=G7 a b/\True:=by
 conv=>zeta
 refine⟨rfl,rfl,trivial,?_,trivial⟩;unfold G7;simp only[orI];by_cases h:kY (dt a) (dt b)=0<;>simp[h]
theorem H7(a b:Str)  :
  let A:=True;let B:=if cO a=true then A/\(-1:Int)=mX a b/\A else if cO b=true then A/\(1:Int)=mX a b/\A else A/\kY a b=mX a b/\A;if cO a=true then if cO b=true then A/\G7 a b=mX a b/\A else B else B:=by
 conv=>zeta
 unfold mX;by_cases h:cO a=true<;>by_cases k:cO b=true<;>simp[h,k]
theorem LD(a b:Vers)(ho:(a.pre.length<=4096/\b.pre.length<=4096)) :
  let A:=True;let B:=(0:Int);let C:=A/\A;let D:=[cmpI a.major b.major,cmpI a.minor b.minor,cmpI a.patch b.patch];let E:=(1:Int);let F:=([46]:Str)=([46]:Str);let G:=(4294967281:Nat);let H:=(46:UInt8);let I:=splitB H a.pre;let J:=splitB H b.pre;let K:=false=false;let L:=(↑(List.length I):Int);let M:=(↑(List.length J):Int);let N:=a=a/\b=b/\K/\orI D=orI D/\K/\K/\K/\splitB H a.pre=splitB H a.pre/\splitB H b.pre=splitB H b.pre/\min L M=min L M/\a=a/\b=b/\List.length D=List.length D/\A;let O:=dfl Ty.str;if(decide (a.major=b.major)&&(decide (a.minor=b.minor)&&(decide (a.patch=b.patch)&&(decide (a.pre=b.pre)&&true))))=true then A/\B=mc a b/\A else C/\C/\C/\C/\if(!decide (orI D=B))=true then A/\orI D=mc a b/\A else if decide (a.pre=[])=true then A/\E=mc a b/\A else if decide (b.pre=[])=true then A/\(-1:Int)=mc a b/\A else((F/\List.length a.pre<G)/\A)/\((F/\List.length b.pre<G)/\A)/\(∃(x:Nat),(x<=List.length I/\x<=List.length J/\kZ I J=kZ (List.drop x I) (List.drop x J))/\B=(↑x:Int)/\N)/\∀(x:Nat),let P:=(↑x:Int);let Q:=List.getD I (Int.toNat P) O;let R:=List.getD J (Int.toNat P) O;x<=List.length I/\x<=List.length J/\kZ I J=kZ (List.drop x I) (List.drop x J)->if decide (P<min L M)=true then(B<=P/\P<L)/\(B<=P/\P<M)/\C/\if(!decide (mX Q R=B))=true then A/\mX Q R=mc a b/\A else inR IntKind.i64 (P+E)/\∃(y:Nat),(y<=List.length I/\y<=List.length J/\kZ I J=kZ (List.drop y I) (List.drop y J))/\List.length I-y<List.length I-x/\P+E=(↑y:Int)/\N else A/\cmpI L M=mc a b/\A:=by
 conv=>zeta
 have hv:=KW a b;apply aa<;>intro h
 ·have e:a=b:=by simp only[Nx,NA]at h;obtain⟨h1,h2,h3,h4,_⟩:=h;cases a;cases b;simp only at h1 h2 h3 h4;rw[h1,h2,h3,h4]
  rw[e];exact⟨trivial,(G9 b).symm,trivial⟩
 ·refine⟨⟨trivial,trivial⟩,⟨trivial,trivial⟩,⟨trivial,trivial⟩,⟨trivial,trivial⟩,aa (fun c=>?_) (fun c=>?_)⟩
  ·have c:¬qL a b=0:=by simpa[qL]using c
   rw[NC c]at hv;exact⟨trivial,hv.symm,trivial⟩
  ·have c:qL a b=0:=by simpa[qL]using c
   rw[Ny (fun e=>e c)]at hv;refine aa (fun p=>?_) (fun p=>aa (fun q=>?_) (fun q=>?_))
   ·have p:=Xo p
    have q:¬b.pre=[]:=fun q=>h (by
     rw[IQ c (p.trans q.symm)];simp)
    rw[NC p,Ny q]at hv;exact⟨trivial,hv.symm,trivial⟩
   ·have p:¬a.pre=[]:=fun e=>p (Xd e);have q:=Xo q;rw[Ny p,NC q]at hv;exact⟨trivial,hv.symm,trivial⟩
   ·have p:¬a.pre=[]:=fun e=>p (Xd e);have q:¬b.pre=[]:=fun e=>q (Xd e);rw[Ny p,Ny q]at hv;have la:=fH 46 a.pre;have lb:=fH 46 b.pre;generalize splitB 46 a.pre=x at hv la⊢;generalize splitB 46 b.pre=y at hv lb⊢;refine⟨⟨⟨rfl,by omega⟩,trivial⟩,⟨⟨rfl,by omega⟩,trivial⟩,⟨0,⟨NU _,NU _,rfl⟩,(by repeat' (first|exact trivial|rfl|apply And.intro))⟩,?_⟩;rintro k ⟨h1,h2,h3⟩;simp only[NQ];apply aa<;>intro d
    ·have d:=Xo d;have k1:k<x.length:=by omega
     have k2:k<y.length:=by omega
     have hs:=Ga k1 k2;refine⟨by omega,by omega,⟨trivial,trivial⟩,aa (fun e=>?_) (fun e=>?_)⟩
     ·have e:¬mX (x.getD k (dfl .str)) (y.getD k (dfl .str))=0:=by simpa using e
      rw[Ny e]at hs;exact⟨trivial,by rw[hv,h3,hs],trivial⟩
     ·have e:mX (x.getD k (dfl .str)) (y.getD k (dfl .str))=0:=by simpa using e
      rw[NC e]at hs;exact⟨aN (by omega) (by omega),k+1,⟨by omega,by omega,by rw[h3,hs]⟩,by omega,by omega,(by repeat' (first|exact trivial|rfl|apply And.intro))⟩
    ·have d:¬((k:Int)<min (x.length:Int) (y.length:Int)):=fun e=>d (Xd e);exact⟨trivial,by rw[hv,h3,IM h1 h2 (by omega)],trivial⟩
theorem JT(n:Int)  :
  let A:=True;if decide (n=(1:Int))=true then A/\([60]:Str)=tX n/\A else if decide (n=(2:Int))=true then A/\([60,61]:Str)=tX n/\A else if decide (n=(3:Int))=true then A/\([61]:Str)=tX n/\A else if decide (n=(4:Int))=true then A/\([62,61]:Str)=tX n/\A else if decide (n=(5:Int))=true then A/\([62]:Str)=tX n/\A else A/\[]=tX n/\A:=by
 conv=>zeta
 unfold tX
 repeat' (apply aa<;>intro h)
 all_goals (refine⟨trivial,?_,trivial⟩;simp only[NA]at *;simp[*])
theorem H8(l:List Bnd)(hl:Wf (.lst (.st .bound)) l) :
  let A:=(↑(List.length l):Int);let B:=True/\(50:Int)=mY l/\True;let C:=(0:Int);let D:=l=l/\false=false/\l=l/\A=A/\True;let E:=dfl (Ty.st SN.bound);if decide ((20:Int)<A)=true then B else(∃(x:Nat),(x<=List.length l/\List.all l me=List.all (List.drop x l) me)/\C=(↑x:Int)/\D)/\∀(x:Nat),let F:=(↑x:Int);let G:=List.getD l (Int.toNat F) E;x<=List.length l/\List.all l me=List.all (List.drop x l) me->if decide (F<A)=true then(C<=F/\F<A)/\if decide (tX G.op=[])=true then B else if(!decide (ep G.v=C))=true then B else inR IntKind.i64 (F+(1:Int))/\∃(y:Nat),(y<=List.length l/\List.all l me=List.all (List.drop y l) me)/\List.length l-y<List.length l-x/\F+(1:Int)=(↑y:Int)/\D else True/\C=mY l/\True:=by
 conv=>zeta
 have ln:=hl.len;refine aa (fun h=>?_) (fun h0=>?_)
 ·have h:=Xo h;refine⟨trivial,?_,trivial⟩;unfold mY;rw[NC (by omega)]
 have h0:¬20<l.length:=fun e=>h0 (Xd (by omega));simp only[NQ];refine⟨⟨0,⟨NU _,rfl⟩,(by repeat' (first|exact trivial|rfl|apply And.intro))⟩,?_⟩;rintro k ⟨h1,h2⟩;apply aa<;>intro h
 ·have h:=Xo h;have hk:k<l.length:=by omega
  rw[ak l k (dfl (.st .bound)) hk,Oe]at h2;have no:me (l.getD k (dfl (.st .bound)))=false->True/\(50:Int)=mY l/\True:=fun e=>⟨trivial,KX (by rw[h2,e];rfl),trivial⟩;have yes:me (l.getD k (dfl (.st .bound)))=true->l.all me=(l.drop (k+1)).all me:=fun e=>by rw[h2,e,Og]
  unfold me at no yes;have hs:=IN (l.getD k (dfl (.st .bound))).op;refine⟨by omega,aa (fun c=>no ?_) (fun c=>aa (fun d=>no ?_) (fun d=>?_))⟩
  ·rw[Xf (hs.1 (Xo c)),NT]
  ·have d:¬ep (l.getD k (dfl (.st .bound))).v=0:=by simpa using d
   rw[Xf d,OA]
  ·have c:1<=(l.getD k (dfl (.st .bound))).op/\(l.getD k (dfl (.st .bound))).op<=5:=Decidable.not_not.1 (fun e=>c (Xd (hs.2 e)));have d:ep (l.getD k (dfl (.st .bound))).v=0:=by simpa using d
   exact⟨aJ hk ln,k+1,⟨by omega,yes (by rw[Xd c,Xd d];rfl)⟩,by omega,by omega,(by repeat' (first|exact trivial|rfl|apply And.intro))⟩
 ·have e:k=l.length:=by have:¬((k:Int)<(l.length:Int)):=fun e=>h (Xd e);omega
  subst e;rw[NN]at h2;exact⟨trivial,IS h0 h2,trivial⟩
theorem H9(v:Vers)(l:List Bnd)(hl:Wf (.lst (.st .bound)) l)(ho:(v.pre.length<=4096/\∀b∈l,b.v.pre.length<=4096)) :
  let A:=(0:Int);let B:=(↑(List.length l):Int);let C:=v=v/\l=l/\l=l/\B=B/\v=v/\True;let D:=dfl (Ty.st SN.bound);let E:=(1:Int);let F:=True/\false=dW v l/\True;(∃(x:Nat),(x<=List.length l/\dW v l=dW v (List.drop x l))/\A=(↑x:Int)/\C)/\∀(x:Nat),let G:=(↑x:Int);let H:=List.getD l (Int.toNat G) D;let I:=inR IntKind.i64 (G+E)/\∃(y:Nat),(y<=List.length l/\dW v l=dW v (List.drop y l))/\List.length l-y<List.length l-x/\G+E=(↑y:Int)/\C;x<=List.length l/\dW v l=dW v (List.drop x l)->if decide (G<B)=true then(A<=G/\G<B)/\(List.length v.pre<=(4096:Nat)/\List.length H.v.pre<=(4096:Nat))/\if decide (H.op=E)=true then if decide (A<=mc v H.v)=true then F else I else if decide (H.op=(2:Int))=true then if decide (A<mc v H.v)=true then F else I else if decide (H.op=(3:Int))=true then if(!decide (mc v H.v=A))=true then F else I else if decide (H.op=(4:Int))=true then if decide (mc v H.v<A)=true then F else I else if decide (H.op=(5:Int))=true then if decide (mc v H.v<=A)=true then F else I else F else True/\true=dW v l/\True:=by
 conv=>zeta
 have ln:=hl.len;simp only[NQ];refine⟨⟨0,⟨NU _,rfl⟩,(by repeat' (first|exact trivial|rfl|apply And.intro))⟩,?_⟩;rintro k ⟨h1,h2⟩;apply aa<;>intro h
 ·have h:=Xo h;have hk:k<l.length:=by omega
  rw[ak l k (dfl (.st .bound)) hk,show ∀(x:Bnd)(r:List Bnd),dW v (x::r)=(KV v x&&dW v r)from fun _ _=>rfl]at h2;have hi:=aJ hk ln;have no:KV v (l.getD k (dfl (.st .bound)))=false->false=dW v l:=fun e=>by rw[h2,e];rfl
  have yes:KV v (l.getD k (dfl (.st .bound)))=true->dW v l=dW v (l.drop (k+1)):=fun e=>by rw[h2,e,Og]
  refine⟨by omega,⟨ho.1,ho.2 _ (getD_mem l k _ hk)⟩,?_⟩;exact CR _ _ (fun e=>⟨trivial,no e,trivial⟩) (fun e=>⟨hi,k+1,⟨by omega,yes e⟩,by omega,by omega,(by repeat' (first|exact trivial|rfl|apply And.intro))⟩)
 ·have e:k=l.length:=by have:¬((k:Int)<(l.length:Int)):=fun e=>h (Xd e);omega
  subst e;rw[NN]at h2;exact⟨trivial,h2.symm,trivial⟩
theorem DA(n:Nat)(x:Shape)(ho:sz x<=n) :
  sz x<=n/\True/\(!allS aQ x)=!allS aQ x/\True:=by
 exact⟨ho,trivial,rfl,trivial⟩
theorem DB(n:Nat)(l:List Shape)(hl:Wf (.lst (.st .shape)) l)(ho:∀x∈l,sz x<=n) :
  let A:=allS aQ;let B:=(0:Nat);let C:=(↑(List.length l):Int);let D:=l=l/\C=C/\True;let E:=dfl (Ty.st SN.shape);(∃(x:Nat),(x<=List.length l/\bj A (List.drop x l) x=bj A l B)/\(0:Int)=(↑x:Int)/\D)/\∀(x:Nat),let F:=(↑x:Int);let G:=List.getD l (Int.toNat F) E;x<=List.length l/\bj A (List.drop x l) x=bj A l B->if decide (F<C)=true then((0:Int)<=F/\F<C)/\sz G<=n/\if(!allS aQ G)=true then True/\F=bj A l B/\True else inR IntKind.i64 (F+(1:Int))/\∃(y:Nat),(y<=List.length l/\bj A (List.drop y l) y=bj A l B)/\List.length l-y<List.length l-x/\F+(1:Int)=(↑y:Int)/\D else True/\(-1:Int)=bj A l B/\True:=by
 conv=>zeta
 have ln:=hl.len;simp only[NQ];refine⟨⟨0,⟨NU _,by simp⟩,(by repeat' (first|exact trivial|rfl|apply And.intro))⟩,?_⟩;rintro k ⟨h1,h2⟩;apply aa<;>intro h
 ·replace h:=Xo h;have hk:k<l.length:=by omega
  rw[ak l k (dfl (.st .shape)) hk,bj]at h2;refine⟨by omega,ho _ (getD_mem l k _ hk),aa (fun c=>?_) (fun c=>?_)⟩
  ·have c:allS aQ (l.getD k (dfl (.st .shape)))=false:=by simpa using c
   rw[c,Ny Oz]at h2;rw[<-h2];exact Xr
  ·have c:allS aQ (l.getD k (dfl (.st .shape)))=true:=by simpa using c
   rw[NC c]at h2;exact⟨aJ hk ln,k+1,⟨by omega,h2⟩,by omega,by omega,(by repeat' (first|exact trivial|rfl|apply And.intro))⟩
 ·replace h:¬((k:Int)<(l.length:Int)):=fun e=>h (Xd e);have e:k=l.length:=by omega
  subst e;rw[NN,bj]at h2;rw[<-h2];exact Xr
theorem DC(n:Nat)(l:List Shape)(hl:Wf (.lst (.st .shape)) l)(ho:∀x∈l,sz x<=n) :
  (∀(x:Shape),x∈l->sz x<=n)/\True/\decide ((0:Int)<=bj (allS aQ) l (0:Nat))=!List.all l (allS aQ)/\True:=by
 exact⟨ho,trivial,ji (allS aQ) l 0,trivial⟩
theorem JU(n:Nat)(s:Shape)(ho:sz s<=n+1) :
  if(!decide (s.kind=(10:Int)))=true then(∀(x:Shape),x∈s.parts->sz x<=n)/\True/\(!!List.all s.parts (allS aQ))=allS aQ s/\True else True/\false=allS aQ s/\True:=by
 have e0:allS aQ s=(aQ s&&s.parts.all (allS aQ)):=by rw[allS_eq,allL_all]
 have h0:=iF s;have hm:∀x∈s.parts,sz x<=n:=fun x hx=>by have:=eo hx;omega
 rw[e0];apply aa<;>intro h
 ·have h:aQ s=true:=h;rw[h,Og];exact⟨hm,trivial,by simp,trivial⟩
 ·have h:aQ s=false:=by simpa[aQ]using h
  rw[h];exact Xr
theorem Ha(l:List Str)(ho:l.length *16<=140737488355328) :
  let A:=(List.mergeSort l fun(x y:Str)=>decide (x<=y));List.length l*(16:Nat)<=(140737488355328:Nat)/\List.length A=List.length A/\True/\decide ((↑(List.length (Lib.compact A)):Int)=(↑(List.length l):Int))=decide (List.Nodup l)/\True:=by
 conv=>zeta
 have hc:=jh l;unfold fZ at hc;refine⟨ho,rfl,trivial,?_,trivial⟩;rw[Ow,<-hc];omega
theorem JV(d:Dcl)(ho:dy d=true) :
  let A:=(0:Int);let B:=(↑(List.length d.shape.names):Int);let C:=(↑(List.length d.shape.parts):Int);let D:=True;let E:=d=d/\false=false/\d=d/\D;let F:=false=noS d.shape/\E;let G:=(↑(List.length d.term.names):Int);let H:=(↑(List.length d.term.vars):Int);let I:=(↑(List.length d.term.shapes):Int);let J:=(↑(List.length d.term.parts):Int);let K:=noS d.shape=noS d.shape/\d=d/\false=false/\d=d/\d.term=d.term/\D;let L:=false=noT d.term/\K;let M:=D/\false=iP d/\D;let N:=if eF d.name=true then if decide (ay d.shape=A)=true then sz d.shape<=(400:Nat)/\if allS aQ d.shape=true then D/\noT d.term=iP d/\D else M else M else M;(if decide (d.shape.kind=A)=true then if decide (d.shape.pkg=[])=true then if decide (d.shape.name=[])=true then inR IntKind.i64 (B+C)/\decide (B+C=A)=noS d.shape/\E else F else F else F)/\(if decide (d.term.kind=A)=true then if decide (d.term.pkg=[])=true then if decide (d.term.name=[])=true then if decide (d.term.n=A)=true then if decide (d.term.pos=A)=true then inR IntKind.i64 (G+H)/\inR IntKind.i64 (G+H+I)/\inR IntKind.i64 (G+H+I+J)/\decide (G+H+I+J=A)=noT d.term/\K else L else L else L else L else L)/\if decide (d.kind=(1:Int))=true then N else if decide (d.kind=(2:Int))=true then N else if decide (d.kind=(3:Int))=true then if aX d.name=true then cn d.term=true/\if decide (dx d.term=A)=true then D/\noS d.shape=iP d/\D else M else M else M:=by
 conv=>zeta
 obtain⟨o4,o5⟩:=Af ho;obtain⟨s1,s2,s3,s4,s5,s6⟩:=IY ho;have dS:decide ((d.shape.names.length:Int)+(d.shape.parts.length:Int)=0)=decide (d.shape.names.length+d.shape.parts.length=0):=Ow.2 (by omega);have dT:decide ((d.term.names.length:Int)+(d.term.vars.length:Int)+(d.term.shapes.length:Int)+(d.term.parts.length:Int)=0)=decide (d.term.names.length+d.term.vars.length+d.term.shapes.length+d.term.parts.length=0):=Ow.2 (by omega);have i1:inR .i64 ((d.shape.names.length:Int)+(d.shape.parts.length:Int)):=aN (by omega) (by omega);have i2:inR .i64 ((d.term.names.length:Int)+(d.term.vars.length:Int)):=aN (by omega) (by omega);have i3:inR .i64 ((d.term.names.length:Int)+(d.term.vars.length:Int)+(d.term.shapes.length:Int)):=aN (by omega) (by omega);have i4:inR .i64 ((d.term.names.length:Int)+(d.term.vars.length:Int)+(d.term.shapes.length:Int)+(d.term.parts.length:Int)):=aN (by omega) (by omega);have nS:noS d.shape=(decide (d.shape.kind=0)&&decide (d.shape.pkg=[])&&decide (d.shape.name=[])&&decide (d.shape.names.length+d.shape.parts.length=0)):=rfl;have nT:noT d.term=(decide (d.term.kind=0)&&decide (d.term.pkg=[])&&decide (d.term.name=[])&&decide (d.term.n=0)&&decide (d.term.pos=0)&&decide (d.term.names.length+d.term.vars.length+d.term.shapes.length+d.term.parts.length=0)):=rfl;refine⟨?_,?_,?_⟩
 ·rw[nS,dS];refine aa (fun a=>aa (fun b=>aa (fun c=>⟨i1,?_,(by repeat' (first|exact trivial|rfl|apply And.intro))⟩) (fun c=>⟨?_,(by repeat' (first|exact trivial|rfl|apply And.intro))⟩)) (fun b=>⟨?_,(by repeat' (first|exact trivial|rfl|apply And.intro))⟩)) (fun a=>⟨?_,(by repeat' (first|exact trivial|rfl|apply And.intro))⟩)
  ·rw[a,b,c];rfl
  ·rw[bF c,OA,NT]
  ·rw[bF b,OA,NT,NT]
  ·rw[bF a,NT,NT,NT]
 ·rw[nT,dT];refine aa (fun a=>aa (fun b=>aa (fun c=>aa (fun e=>aa (fun f=>⟨i2,i3,i4,?_,(by repeat' (first|exact trivial|rfl|apply And.intro))⟩) (fun f=>⟨?_,(by repeat' (first|exact trivial|rfl|apply And.intro))⟩)) (fun e=>⟨?_,(by repeat' (first|exact trivial|rfl|apply And.intro))⟩)) (fun c=>⟨?_,(by repeat' (first|exact trivial|rfl|apply And.intro))⟩)) (fun b=>⟨?_,(by repeat' (first|exact trivial|rfl|apply And.intro))⟩)) (fun a=>⟨?_,(by repeat' (first|exact trivial|rfl|apply And.intro))⟩)
  ·rw[a,b,c,e,f];rfl
  ·rw[bF f,OA,NT]
  ·rw[bF e,OA,NT,NT]
  ·rw[bF c,OA,NT,NT,NT]
  ·rw[bF b,OA,NT,NT,NT,NT]
  ·rw[bF a,NT,NT,NT,NT,NT]
 clear nS nT dS dT
 have ty:d.kind=1∨d.kind=2->(if eF d.name=true then if decide (ay d.shape=0)=true then sz d.shape<=400/\if allS aQ d.shape=true then True/\noT d.term=iP d/\True else True/\false=iP d/\True else True/\false=iP d/\True else True/\false=iP d/\True):=by
  intro k;unfold iP;rw[NC k];refine aa (fun a=>aa (fun b=>⟨(de (Xo b)).1,aa (fun c=>⟨trivial,?_,trivial⟩) (fun c=>⟨trivial,?_,trivial⟩)⟩) (fun b=>⟨trivial,?_,trivial⟩)) (fun a=>⟨trivial,?_,trivial⟩)
  ·rw[a,b,c];rfl
  ·rw[bF c,OA,NT]
  ·rw[bF b,OA,NT,NT]
  ·rw[bF a,NT,NT,NT]
 refine aa (fun k=>ty (.inl (Xo k))) (fun k1=>aa (fun k=>ty (.inr (Xo k))) (fun k2=>?_));have k1:¬d.kind=1:=fun e=>k1 (Xd e);have k2:¬d.kind=2:=fun e=>k2 (Xd e);have dk:iP d=if d.kind=3 then aX d.name&&decide (dx d.term=0)&&noS d.shape else false:=by unfold iP;exact Ny (fun e=>e.elim k1 k2)
 rw[dk];refine aa (fun k=>?_) (fun k=>⟨trivial,(Ny (fun e=>k (Xd e))).symm,trivial⟩);rw[NC (Xo k)];refine aa (fun a=>⟨o5,aa (fun b=>⟨trivial,?_,trivial⟩) (fun b=>⟨trivial,?_,trivial⟩)⟩) (fun a=>⟨trivial,?_,trivial⟩)
 ·rw[a,b];rfl
 ·rw[bF b,OA,NT]
 ·rw[bF a,NT,NT]
theorem Hb(m:Modu)(hm:Wf (.st .modu) m)(ho:(m.decls.all dy=true/\m.decls.length<=1000000)) :
  let A:=True/\(100:Int)=cH m/\True;let B:=(↑(List.length m.imports):Int);let C:=(↑(List.length m.exports):Int);let D:=(0:Int);let E:=(fun(x:Impt)=>x.name);let F:=m=m;let G:=false=false;let H:=m.imports=m.imports;let I:=B=B;let J:=F/\True;let K:=dfl (Ty.st SN.imp);let L:=(16:Nat);let M:=(140737488355328:Nat);let N:=(1:Int);let O:=[([73,110,116]:Str),([66,111,111,108]:Str),([84,101,120,116]:Str),([65,110,121]:Str)];let P:=(fun(x:Dcl)=>x.name);let Q:=m.decls=m.decls;let R:=(↑(List.length m.decls):Int);let S:=R=R;let T:=dfl (Ty.st SN.decl);let U:=m.exports=m.exports;if(!aX m.name)=true then A else if decide ((8:Int)<B)=true then A else if decide ((60:Int)<C)=true then A else if decide (m.pos<D)=true then A else(∃(x:Nat),let V:=List.take x m.imports;(x<=List.length m.imports/\List.all m.imports o9=List.all (List.drop x m.imports) o9)/\[m.name]=m.name::List.map E V/\D=(↑x:Int)/\F/\G/\H/\I/\List.length [m.name]=List.length (m.name::List.map E V)/\J)/\∀(x:Nat),let V:=(↑x:Int);let W:=List.getD m.imports (Int.toNat V) K;let X:=List.take x m.imports;let Y:=(m.name::List.map E X);let Z:=List.length Y=List.length Y;let a:=[W.name];let c:=m.name::List.map E X=m.name::List.map E X;let d:=V=V;let e:=Z/\J;x<=List.length m.imports/\List.all m.imports o9=List.all (List.drop x m.imports) o9->if decide (V<B)=true then(D<=V/\V<B)/\if(!aX W.name)=true then A else if(!decide (ep W.pin=D))=true then A else if(!decide (mY W.range=D))=true then A else(List.length W.pin.pre<=(4096:Nat)/\∀(b:Bnd),b∈W.range->List.length b.v.pre<=(4096:Nat))/\if(!dW W.pin W.range)=true then A else if decide (W.pos<D)=true then A else(Z/\(List.length Y+List.length a)*L<=M)/\inR IntKind.i64 (V+N)/\∃(y:Nat),let f:=List.take y m.imports;(y<=List.length m.imports/\List.all m.imports o9=List.all (List.drop y m.imports) o9)/\List.length m.imports-y<List.length m.imports-x/\m.name::List.map E X++a=m.name::List.map E f/\V+N=(↑y:Int)/\F/\G/\H/\I/\List.length (m.name::List.map E X++a)=List.length (m.name::List.map E f)/\J else(∃(x_1:Nat),let f:=List.take x_1 m.decls;(x_1<=List.length m.decls/\List.all m.decls mZ=List.all (List.drop x_1 m.decls) mZ)/\O=lu++List.map P f/\D=(↑x_1:Int)/\c/\d/\F/\G/\H/\I/\G/\Q/\S/\List.length O=List.length (lu++List.map P f)/\e)/\∀(x_1:Nat),let f:=(↑x_1:Int);let g:=List.getD m.decls (Int.toNat f) T;let h:=List.take x_1 m.decls;let i:=lu++List.map P h;let j:=List.length i=List.length i;let k:=[g.name];let l:=lu++List.map P h=lu++List.map P h/\f=f/\c/\d/\F/\G/\H/\I/\G/\Q/\S/\G/\U/\C=C/\j/\e;x_1<=List.length m.decls/\List.all m.decls mZ=List.all (List.drop x_1 m.decls) mZ->if decide (f<R)=true then(D<=f/\f<R)/\dy g=true/\if(!iP g)=true then A else if decide (g.pos<D)=true then A else(j/\(List.length i+List.length k)*L<=M)/\inR IntKind.i64 (f+N)/\∃(y:Nat),let n:=List.take y m.decls;(y<=List.length m.decls/\List.all m.decls mZ=List.all (List.drop y m.decls) mZ)/\List.length m.decls-y<List.length m.decls-x_1/\lu++List.map P h++k=lu++List.map P n/\f+N=(↑y:Int)/\c/\d/\F/\G/\H/\I/\G/\Q/\S/\List.length (lu++List.map P h++k)=List.length (lu++List.map P n)/\e else(∃(x_2:Nat),(x_2<=List.length m.exports/\List.all m.exports mj=List.all (List.drop x_2 m.exports) mj)/\D=(↑x_2:Int)/\l)/\∀(x_2:Nat),let n:=(↑x_2:Int);let o:=List.getD m.exports (Int.toNat n) (dfl Ty.str);let p:=inR IntKind.i64 (n+N)/\∃(y:Nat),(y<=List.length m.exports/\List.all m.exports mj=List.all (List.drop y m.exports) mj)/\List.length m.exports-y<List.length m.exports-x_2/\n+N=(↑y:Int)/\l;x_2<=List.length m.exports/\List.all m.exports mj=List.all (List.drop x_2 m.exports) mj->if decide (n<C)=true then(D<=n/\n<C)/\if(!aX o)=true then if(!eF o)=true then A else p else p else List.length Y*L<=M/\if(!decide (List.Nodup Y))=true then A else List.length i*L<=M/\if(!decide (List.Nodup i))=true then A else List.length m.exports*L<=M/\if(!decide (List.Nodup m.exports))=true then A else True/\D=cH m/\True:=by
 conv=>zeta
 have bad:okM m=false->True/\(100:Int)=cH m/\True:=fun e=>⟨trivial,D2 e,trivial⟩;have hb:(aX m.name=true/\m.imports.length<=8/\m.exports.length<=60/\0<=m.pos->False)->True/\(100:Int)=cH m/\True:=fun e=>bad (Ah (bF (fun k=>e (Ai.1 k))));obtain⟨o1,o2⟩:=ho;rw[NJ]at o1;refine aa (fun a=>hb (fun e=>nbN a e.1)) (fun a1=>aa (fun a=>hb (fun e=>by have:=Xo a;omega)) (fun a2=>aa (fun a=>hb (fun e=>by have:=Xo a;omega)) (fun a3=>aa (fun a=>hb (fun e=>by have:=Xo a;omega)) (fun a4=>?_))));have a2:¬(8:Int)<m.imports.length:=fun e=>a2 (Xd e);have a3:¬(60:Int)<m.exports.length:=fun e=>a3 (Xd e);have a4:¬m.pos<0:=fun e=>a4 (Xd e);have hH:qR m=true:=Ai.2 ⟨nbP a1,by omega,by omega,by omega⟩;clear hb a1;simp only[NQ];refine⟨⟨0,⟨NU _,rfl⟩,(by repeat' (first|exact trivial|rfl|apply And.intro))⟩,?_⟩;rintro k ⟨k1,k2⟩;have lk:(m.name::(m.imports.take k).map (·.name)).length=k+1:=by rw[NL,Ox,OX];omega
 apply aa<;>intro h
 ·have h:=Xo h;have hk:k<m.imports.length:=by omega
  rw[ak m.imports k (dfl (.st .imp)) hk,Oe]at k2;have he:(m.name::(m.imports.take k).map (·.name))++[(m.imports.getD k (dfl (.st .imp))).name]=m.name::(m.imports.take (k+1)).map (·.name):=by rw[dU m.imports k (dfl (.st .imp)) hk,PA];rfl
  have no:(aX (m.imports.getD k (dfl (.st .imp))).name=true/\ep (m.imports.getD k (dfl (.st .imp))).pin=0/\mY (m.imports.getD k (dfl (.st .imp))).range=0/\dW (m.imports.getD k (dfl (.st .imp))).pin (m.imports.getD k (dfl (.st .imp))).range=true/\0<=(m.imports.getD k (dfl (.st .imp))).pos->False)->True/\(100:Int)=cH m/\True:=fun e=>bad (D3 (by rw[k2,bF (fun q=>e (EO.1 q))];rfl));refine⟨by omega,aa (fun c=>no (fun e=>nbN c e.1)) (fun c1=>aa (fun c=>no (fun e=>ndN c e.2.1)) (fun c2=>aa (fun c=>no (fun e=>ndN c e.2.2.1)) (fun c3=>?_)))⟩;have c2:ep (m.imports.getD k (dfl (.st .imp))).pin=0:=ndP c2;have c3:mY (m.imports.getD k (dfl (.st .imp))).range=0:=ndP c3;refine⟨⟨OY (tY c2) (by decide),fun b hb=>OY (IZ c3 b hb) (by decide)⟩,aa (fun c=>no (fun e=>nbN c e.2.2.2.1)) (fun c4=>aa (fun c=>no (fun e=>by have:=Xo c;omega)) (fun c5=>?_))⟩;have c5:¬(m.imports.getD k (dfl (.st .imp))).pos<0:=fun e=>c5 (Xd e);have yes:o9 (m.imports.getD k (dfl (.st .imp)))=true:=EO.2 ⟨nbP c1,c2,c3,nbP c4,by omega⟩;rw[yes,Og]at k2;refine⟨⟨by first|rfl|trivial,by rw[lk,O4];omega⟩,aN (by omega) (by omega),k+1,⟨by omega,k2⟩,by omega,he,by omega,(by repeat' (first|exact trivial|rfl|exact Pj List.length he|apply And.intro))⟩
 have ek:k=m.imports.length:=by have:¬((k:Int)<(m.imports.length:Int)):=fun e=>h (Xd e);omega
 subst ek;rw[NN]at k2;have kI:m.imports.all o9=true:=k2;clear k2;simp only[OR];refine⟨⟨0,⟨NU _,rfl⟩,(by repeat' (first|exact trivial|rfl|apply And.intro))⟩,?_⟩;rintro j ⟨j1,j2⟩;have lj:(lu++(m.decls.take j).map (·.name)).length=j+4:=by rw[NZ,Ox,OX];show 4+_=_;omega
 apply aa<;>intro h
 ·have h:=Xo h;have hj:j<m.decls.length:=by omega
  rw[ak m.decls j (dfl (.st .decl)) hj,Oe]at j2;have he:(lu++(m.decls.take j).map (·.name))++[(m.decls.getD j (dfl (.st .decl))).name]=lu++(m.decls.take (j+1)).map (·.name):=by rw[dU m.decls j (dfl (.st .decl)) hj,PA,O9];rfl
  have no:(iP (m.decls.getD j (dfl (.st .decl)))=true/\0<=(m.decls.getD j (dfl (.st .decl))).pos->False)->True/\(100:Int)=cH m/\True:=fun e=>bad (D4 (by rw[j2,bF (fun q=>e (EP.1 q))];rfl));refine⟨by omega,o1 _ (getD_mem m.decls j _ hj),aa (fun c=>no (fun e=>nbN c e.1)) (fun c1=>aa (fun c=>no (fun e=>by have:=Xo c;omega)) (fun c2=>?_))⟩;have c2:¬(m.decls.getD j (dfl (.st .decl))).pos<0:=fun e=>c2 (Xd e);have yes:mZ (m.decls.getD j (dfl (.st .decl)))=true:=EP.2 ⟨nbP c1,by omega⟩;rw[yes,Og]at j2;refine⟨⟨by first|rfl|trivial,by rw[lj,O4];omega⟩,aN (by omega) (by omega),j+1,⟨by omega,j2⟩,by omega,he,by omega,(by repeat' (first|exact trivial|rfl|exact Pj List.length he|apply And.intro))⟩
 have ej:j=m.decls.length:=by have:¬((j:Int)<(m.decls.length:Int)):=fun e=>h (Xd e);omega
 subst ej;rw[NN]at j2;have kD:m.decls.all mZ=true:=j2;clear j2;simp only[OR]at lj lk⊢;refine⟨⟨0,⟨NU _,rfl⟩,(by repeat' (first|exact trivial|rfl|apply And.intro))⟩,?_⟩;rintro i ⟨i1,i2⟩;apply aa<;>intro h
 ·have h:=Xo h;have hi:i<m.exports.length:=by omega
  rw[ak m.exports i (dfl .str) hi,Oe]at i2;have yes:mj (m.exports.getD i (dfl .str))=true->inR .i64 ((i:Int)+1)/\m.exports.all mj=(m.exports.drop (i+1)).all mj:=fun e=>⟨aN (by omega) (by omega),by rw[i2,e,Og]⟩;refine⟨by omega,aa (fun c=>aa (fun c2=>?_) (fun c2=>?_)) (fun c=>?_)⟩
  ·have no:mj (m.exports.getD i (dfl .str))=false:=bF (fun q=>by
    rcases xT.1 q with e|e
    ·exact nbN c e
    ·exact nbN c2 e)
   exact bad (D5 (by rw[i2,no];rfl))
  ·obtain⟨y1,y2⟩:=yes (xT.2 (.inr (nbP c2)));exact⟨y1,i+1,⟨by omega,y2⟩,by omega,by omega,(by repeat' (first|exact trivial|rfl|apply And.intro))⟩
  ·obtain⟨y1,y2⟩:=yes (xT.2 (.inl (nbP c)));exact⟨y1,i+1,⟨by omega,y2⟩,by omega,by omega,(by repeat' (first|exact trivial|rfl|apply And.intro))⟩
 have ei:i=m.exports.length:=by have:¬((i:Int)<(m.exports.length:Int)):=fun e=>h (Xd e);omega
 subst ei;rw[NN]at i2;have hE:=Mq hH kI kD i2;have e1:D1 m=m.name::m.imports.map (·.name):=rfl;have e2:IX m=lu++m.decls.map (·.name):=rfl;rw[e1,e2]at hE;refine⟨by rw[lk];omega,aa (fun c=>bad ?_) (fun c=>⟨by rw[lj];omega,aa (fun d=>bad ?_) (fun d=>⟨by omega,aa (fun e=>bad ?_) (fun e=>⟨trivial,Ag ?_,trivial⟩)⟩)⟩)⟩
 ·have c:decide (m.name::m.imports.map (·.name)).Nodup=false:=by simpa only[NI]using c
  rw[hE,c,NT,NT]
 ·have d:decide (lu++m.decls.map (·.name)).Nodup=false:=by simpa only[NI]using d
  rw[hE,d,OA,NT]
 ·have e:decide m.exports.Nodup=false:=by simpa only[NI]using e
  rw[hE,e,OA]
 ·have c:decide (m.name::m.imports.map (·.name)).Nodup=true:=by simpa only[NI,Pp]using c
  have d:decide (lu++m.decls.map (·.name)).Nodup=true:=by simpa only[NI,Pp]using d
  have e:decide m.exports.Nodup=true:=by simpa only[NI,Pp]using e
  rw[hE,c,d,e];rfl
theorem DD(l:List Depd)(N:Nat)(hl:Wf (.lst (.st .dep)) l)(hN:∀d∈l,∀x∈d.items,sz x.shape<=N) :
  let A:=(0:Int);let B:=(4000:Int);let C:=True;let D:=(↑(List.length l):Int);let E:=(20:Int);let F:=C/\false=iG l A A/\C;let G:=dfl (Ty.st SN.dep);let H:=l=l/\true=true/\false=false/\C;let I:=dfl (Ty.st SN.item);let J:=(800:Int);let K:=(1:Int);(∃(x:Nat×Int),let L:=(↑x.1:Int);(x.1<=List.length l/\A<=x.2/\x.2<=B/\iG (List.drop x.1 l) x.2 L=iG l A A)/\A=x.2/\A=L/\l=l/\C)/\∀(x:Nat×Int),let L:=(↑x.1:Int);let M:=Int.toNat L;let O:=List.getD l M G;let P:=A<=L/\L<D;let Q:=(↑(List.length O.items):Int);x.1<=List.length l/\A<=x.2/\x.2<=B/\iG (List.drop x.1 l) x.2 L=iG l A A->if decide (L<D)=true then if decide (E<=L)=true then F else(∃(x_1:Nat×Int),(x_1.1<=List.length O.items/\A<=x_1.2/\x_1.2<=B/\D7 l M x_1.1 x_1.2=iG l A A)/\x.2=x_1.2/\A=(↑x_1.1:Int)/\L=L/\H)/\∀(x_1:Nat×Int),let R:=(↑x_1.1:Int);let S:=List.getD O.items (Int.toNat R) I;let T:=E+sizeF S.shape J;x_1.1<=List.length O.items/\A<=x_1.2/\x_1.2<=B/\D7 l M x_1.1 x_1.2=iG l A A->P/\if decide (R<Q)=true then P/\(A<=R/\R<Q)/\(sz S.shape<=N/\A<=J/\J<=(1000000:Int))/\inR IntKind.i64 T/\inR IntKind.i64 (x_1.2+T)/\if decide (B<x_1.2+T)=true then F else inR IntKind.i64 (R+K)/\∃(y:Nat×Int),(y.1<=List.length O.items/\A<=y.2/\y.2<=B/\D7 l M y.1 y.2=iG l A A)/\List.length O.items-y.1<List.length O.items-x_1.1/\x_1.2+T=y.2/\R+K=(↑y.1:Int)/\L=L/\H else inR IntKind.i64 (L+K)/\∃(y:Nat×Int),let U:=(↑y.1:Int);(y.1<=List.length l/\A<=y.2/\y.2<=B/\iG (List.drop y.1 l) y.2 U=iG l A A)/\List.length l-y.1<List.length l-x.1/\x_1.2=y.2/\L+K=U/\l=l/\C else C/\true=iG l A A/\C:=by
 conv=>zeta
 have ln:=hl.len;simp only[NQ,P1,Oo,Oc];refine⟨⟨(0,0),⟨NU _,by omega,by omega,rfl⟩,rfl,rfl⟩,?_⟩;rintro⟨i,n⟩ ⟨h1,h2,h3,h4⟩;simp only at h1 h2 h3 h4⊢;apply aa<;>intro hk
 ·replace hk:=Xo hk;have hk:i<l.length:=by omega
  rw[ak l i (dfl (.st .dep)) hk,iG]at h4;apply aa<;>intro h20
  ·rw[NC (Xo h20)]at h4;exact h4
  ·have h20:¬(20:Int)<=i:=fun z=>h20 (Xd z);rw[Ny h20]at h4;refine⟨⟨(0,n),⟨NU _,h2,h3,by simp only[D7,OG];exact h4⟩,rfl,rfl⟩,?_⟩;rintro⟨k,m⟩ ⟨g3,g4,g5,g6⟩;simp only at g3 g4 g5 g6⊢;have lk:=(hl.mem (getD_mem l i (dfl (.st .dep)) hk)).dep_items.len;refine⟨by omega,aa (fun c=>?_) (fun c=>?_)⟩
   ·replace c:=Xo c;have ck:k<(l.getD i (dfl (.st .dep))).items.length:=by omega
    have hm:=hN _ (getD_mem l i (dfl (.st .dep)) hk) _ (getD_mem _ k (dfl (.st .item)) ck);rw[D7,ak _ k (dfl (.st .item)) ck,rA]at g6;have hb:=sizeF_bd ((l.getD i (dfl (.st .dep))).items.getD k (dfl (.st .item))).shape 800 (by omega);refine⟨by omega,by omega,⟨hm,by omega,by omega⟩,aN (by omega) (by omega),aN (by omega) (by omega),aa (fun d=>?_) (fun d=>?_)⟩
    ·rw[NC (Xo d)]at g6;exact g6
    ·have d':¬(4000:Int)<m+(20+sizeF ((l.getD i (dfl (.st .dep))).items.getD k (dfl (.st .item))).shape 800):=fun z=>d (Xd z);rw[Ny d']at g6;exact⟨aJ ck lk,(k+1,_),⟨by simp only;omega,by simp only;omega,by simp only;omega,g6⟩,by simp only;omega,rfl,rfl⟩
   ·have e:k=(l.getD i (dfl (.st .dep))).items.length:=by have:¬((k:Int)<((l.getD i (dfl (.st .dep))).items.length:Int)):=fun e=>c (Xd e);omega
    rw[D7,e,NN,rA]at g6;exact⟨aJ hk ln,(i+1,m),⟨by simp only;omega,g4,g5,g6⟩,by simp only;omega,rfl,rfl⟩
 ·replace hk:¬((i:Int)<(l.length:Int)):=fun e=>hk (Xd e);have e:i=l.length:=by omega
  subst e;rw[NN,iG]at h4;exact h4
theorem JW(a b:List AL.Item)(N:Nat)(ha:Wf (.lst (.st .item)) a)(hb:Wf (.lst (.st .item)) b)(hN:∀x∈a,sz x.shape<=N) :
  let A:=(↑(List.length a):Int);let B:=(↑(List.length b):Int);let C:=True/\false=kj a b/\True;let D:=List.length a=List.length b;let E:=(0:Int);let F:=a=a/\b=b/\false=false/\True;let G:=dfl (Ty.st SN.item);if(!decide (A=B))=true then C else(∃(x:Nat),(x<=List.length a/\D/\kj a b=kj (List.drop x a) (List.drop x b))/\E=(↑x:Int)/\F)/\∀(x:Nat),let H:=(↑x:Int);let I:=E<=H/\H<A;let J:=E<=H/\H<B;let K:=List.getD a (Int.toNat H) G;let L:=List.getD b (Int.toNat H) G;x<=List.length a/\D/\kj a b=kj (List.drop x a) (List.drop x b)->if decide (H<A)=true then I/\J/\if(!decide (K.kind=L.kind))=true then C else I/\J/\if(!decide (K.name=L.name))=true then C else I/\J/\sz K.shape<=N/\if(!eqS K.shape L.shape)=true then C else inR IntKind.i64 (H+(1:Int))/\∃(y:Nat),(y<=List.length a/\D/\kj a b=kj (List.drop y a) (List.drop y b))/\List.length a-y<List.length a-x/\H+(1:Int)=(↑y:Int)/\F else True/\true=kj a b/\True:=by
 conv=>zeta
 have ln:=ha.len;simp only[NQ,P1,Oo,Oc];apply aa<;>intro h
 ·have:a.length≠b.length:=by intro e;rw[e]at h;simp at h
  rw[Aj this]
 have hl:a.length=b.length:=by simp at h;omega
 refine⟨⟨0,⟨NU _,hl,by simp⟩,rfl⟩,?_⟩;rintro k ⟨h1,_,h3⟩;apply aa<;>intro h
 ·replace h:=Xo h;have hk:k<a.length:=by omega
  have hk':k<b.length:=by omega
  rw[ak a k (dfl (.st .item)) hk,ak b k (dfl (.st .item)) hk',kj]at h3;refine⟨by omega,by omega,aa (fun c=>?_) (fun c=>⟨by omega,by omega,aa (fun d=>?_) (fun d=>⟨by omega,by omega,hN _ (getD_mem a k (dfl (.st .item)) hk),aa (fun f=>?_) (fun f=>?_)⟩)⟩)⟩
  ·rw[NI]at c;rw[h3,c];rfl
  ·rw[NI]at d;rw[h3,d];simp
  ·rw[NI]at f;rw[h3,f];simp
  ·rw[NI,Pp]at c d f;rw[c,d,f]at h3;exact⟨aJ hk ln,k+1,⟨by omega,hl,h3⟩,by omega,by omega⟩
 ·replace h:¬((k:Int)<(a.length:Int)):=fun e=>h (Xd e);have e:k=a.length:=by omega
  rw[h3,e,NN,hl,NN,kj]
theorem DE(se:Str)(ty va:List Bndg)(o n:Str)(x:Shape)(hl:va.length<=1000000) :
  let A:=[AL.Bndg.mk (o) (n) (AL.Shape.mk (x.kind) (x.pkg) (x.name) (x.names) (x.parts))];(List.length va=List.length va/\(List.length va+List.length A)*(120:Nat)<=(140737488355328:Nat))/\True/\se=se/\ty=ty/\va++A=va++[AL.Bndg.mk (o) (n) (x)]/\List.length ty=List.length ty/\List.length (va++A)=List.length va+(1:Nat)/\True:=by
 conv=>zeta
 have es:∀x:AL.Shape,AL.Shape.mk x.kind x.pkg x.name x.names x.parts=x:=fun x=>by cases x;rfl
 simp only[es,NZ,NL,Ou,P1,Oo,Oc];omega
end Go.AL.Seat
end
