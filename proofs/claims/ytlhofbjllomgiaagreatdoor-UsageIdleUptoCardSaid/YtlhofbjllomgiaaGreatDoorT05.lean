/- The layer: Go code as conditions, and that they are sound. Plain facts. No condition. -/
import Derived.Test.YtlhofbjllomgiaaGreatDoorT04
import Derived.BigQuiet
import Derived.Deep.QuietTactic
import Derived.KernelRfl
import Derived.Lib.Bytealg
import Derived.LoopN
import Derived.Recover
import Derived.Shelf.SlIter.Sorted
import Derived.Shelf.SlSortCmp.NoneTotal
import Derived.Shelf.SlSortCmp.Whole1
import Derived.Shelf.SlSortCmp.WholeK
import Derived.Shelf.Slices.Clone
import Derived.Shelf.Slices.CompactS
import Derived.Shelf.Small.Strs
import Derived.Shelf.Sort.Plain
import Derived.Shelf.Strconv.Atoi
import Derived.Sort.Walk0
import Derived.Test.YtlhofbjllomgiaaGreatDoorProg
set_option linter.all false
set_option maxRecDepth 100000
noncomputable section
namespace Go.AL
open Go.ChangeShapes Go.WideShapes Go.RowKit
variable [Tabs]
structure GoodR{H:Type}(P:Program)(N M:Nat)(g:TypeId->DataW H->Prop):Prop where
 str:∀t s,P.underlying t=some .string->g t (.lit (.string s))->s.length<=M
 len:∀t e es sp,P.underlying t=some (.slice e)->g t (.slice es sp)->16<=P.bytesOf e->es.length<=N
 el:∀t e es sp,P.underlying t=some (.slice e)->g t (.slice es sp)->∀x∈es,g e x
 part:∀t fs ps,P.underlying t=some (.struct fs)->g t (.agg ps)->∀(i:Nat)(f:Field) p,fs[i]?=some f->ps[i]?=some p->g f.type p
variable {H:Type} {enc:TypeId×Value->H} {P:Program} {w:World} {base:Nat} {held:Bool}
theorem J1{N M:Nat}{g:TypeId->DataW H->Prop}(hb:GoodR P N M g){t e:TypeId}{τ:Ty}{Q:den τ->Prop}{fuel:Nat}{cs:List Value}{x:DataW H×List MemPlace}(ht:P.underlying t=some (.slice e))(hc:P.cellsOf e=ab τ)(h:DataW.trod enc P w base (fun _=>true) held fuel t cs=some x)(hg:g t x.1)
 (hel:∀(n:Nat)(ds:List Value)(y:DataW H×List MemPlace),fuel=n+1->DataW.trod enc P w base (fun _=>true) held n e ds=some y->g e y.1->∃z:den τ,VL (Om0 w) (cells τ z) ds/\Q z)
 (hsp:∀a len cap,cs=[.slice (some a) len cap]->a.spot=none):∃(l:List (den τ))(v:Value),cs=[v]/\V (Om0 w) (.lst τ l none) v/\(16<=P.bytesOf e->l.length<=N)/\∀z∈l,Q z:=by
 rcases QP ht h with⟨rfl,_⟩|⟨a,len,cap,elems,rest,n,hfu,rfl,hx,_,hlc,hcm,hlen,hels,_,_⟩
 ·exact⟨[],_,rfl,.lstNil τ none (fun id hid=>by cases hid),fun _=>Of _,fun z hz=>by cases hz⟩
 ·have hs:=hsp a len cap rfl;obtain⟨bl,off,spot⟩:=a;simp only at hs;subst hs
  have each:∀i,i<len->∃z:den τ,∃ds:List Value,ds.length=ab τ/\(∀j,j<ab τ->w.cell? ⟨bl,off+(i *ab τ+j),none⟩=ds[j]?)/\VL (Om0 w) (cells τ z) ds/\Q z:=by
   intro i hi;have h1:=hels i hi;obtain⟨y,hy⟩:∃y,elems[i]?=some y:=⟨_,NY (by omega)⟩;rw[hy,hc,QA]at h1;obtain⟨ds,hd,hy'⟩:=h1;obtain⟨_,hdl,hdc⟩:=R5 hd
   obtain⟨z,hz,hq⟩:=hel n ds y hfu hy' (by
    rw[hx]at hg;exact hb.el _ _ _ _ ht hg _ (List.mem_map_of_mem (Ot hy)))
   refine⟨z,ds,hdl,fun j hj=>?_,hz,hq⟩;have:=hdc j hj
   have ha:∀(o n:Nat),(⟨bl,o,none⟩:Addr).add n=⟨bl,o+n,none⟩:=by
    intro o n;unfold Addr.add;by_cases h0:n=0
    ·subst h0;rfl
    ·rw[O0 h0]
   rw[ha,ha,PO]at this;exact this
  have hz:∃l:List (den τ),l.length=len/\∀i z,l[i]?=some z->∃ds:List Value,ds.length=ab τ/\(∀j,j<ab τ->w.cell? ⟨bl,off+(i *ab τ+j),none⟩=ds[j]?)/\VL (Om0 w) (cells τ z) ds/\Q z:=by
   refine⟨(List.range len).attach.map fun i=>(each i.1 (Py.1 i.2)).choose,by simp,fun i z hi=>?_⟩;have hil:i<len:=by have:=(OA.1 hi).1;simpa using this
   simp only[OD,Ov]at hi;obtain⟨⟨k,hk⟩,h1,h2⟩:=hi;have hki:k=i:=by have:=OA.1 h1;obtain⟨_,e⟩:=this;have:=PT Subtype.val e;simpa using this.symm
   subst hki;rw[<-h2];exact(each k (Py.1 hk)).choose_spec
  obtain⟨l,hll,hle⟩:=hz;have hQ:∀z∈l,Q z:=fun z hz=>by obtain⟨i,hi⟩:=PV hz;obtain⟨_,_,_,_,hq⟩:=hle i z hi;exact hq
  have hL:16<=P.bytesOf e->l.length<=N:=fun h16=>by
   rw[hx]at hg;rw[hll,<-hlen];have:=hb.len _ _ _ _ ht hg h16
   rwa [P3]at this
  refine⟨l,_,rfl,?_,hL,hQ⟩;have key:=V.lst (Ω:=Om0 w) τ l none bl off cap (fun i j=>(w.cell? ⟨bl,off+(i *ab τ+j),none⟩).getD undef) (by omega) (by unfold maxLen at hcm;unfold bj;omega) (fun id hid=>by cases hid) (fun i z hz j c hj=>?_) (fun i z hz j c hj=>?_)
  ·rw[hll]at key;exact key
  ·obtain⟨ds,d1,d2,d3,_⟩:=hle i z hz;have hjw:j<ab τ:=by rw[<-aQ τ z];exact(OA.1 hj).1
   have hv:w.cell? ⟨bl,off+(i *ab τ+j),none⟩=some ds[j]:=by rw[d2 j hjw];exact NY (by omega)
   refine⟨⟨_,hv⟩,?_⟩;show w.cell? _=_;rw[hv];rfl
  ·obtain⟨ds,d1,d2,d3,_⟩:=hle i z hz;have hjw:j<ab τ:=by rw[<-aQ τ z];exact(OA.1 hj).1
   have hd:ds[j]?=some ds[j]:=NY (by omega);rw[d2 j hjw,hd];exact d3.2 j c ds[j] hj hd
theorem mG{N M:Nat}{g:TypeId->DataW H->Prop}(hb:GoodR P N M g){t e:TypeId}{τ:Ty}{Q:den τ->Prop}{fuel:Nat}{cs:List Value}{x:DataW H×List MemPlace}(ht:P.underlying t=some (.slice e))(hc:P.cellsOf e=ab τ)(hw:0<ab τ)
 (h:DataW.trod enc P w base (fun _=>true) held fuel t cs=some x)(hg:g t x.1)
 (hel:∀(n:Nat)(ds:List Value)(y:DataW H×List MemPlace),fuel=n+1->DataW.trod enc P w base (fun _=>true) held n e ds=some y->g e y.1->∃z:den τ,VL (Om0 w) (cells τ z) ds/\Q z) :
  ∃(l:List (den τ))(v:Value),cs=[v]/\V (Om0 w) (.lst τ l none) v/\(16<=P.bytesOf e->l.length<=N)/\∀z∈l,Q z:=by
 have h0:=h;rcases QP ht h with⟨rfl,_⟩|⟨a,len,cap,elems,rest,n,hfu,rfl,_,_,hlc,hcm,hlen,hels,hrest,_⟩
 ·exact⟨[],_,rfl,.lstNil τ none (fun id hid=>by cases hid),fun _=>Of _,fun z hz=>by cases hz⟩
 ·by_cases hcap:cap=0
  ·have:len=0:=by omega
   subst hcap this;exact⟨[],_,rfl,.lstVoid τ a,fun _=>Of _,fun z hz=>by cases hz⟩
  ·refine J1 hb ht hc h0 hg hel fun a' len' cap' e'=>?_;simp only[P8,Po,Xs,OK]at e';obtain⟨rfl,rfl,rfl⟩:=e'
   have hr:∃(ad:Addr)(y:DataW H×List MemPlace),ad=a/\(w.cells? base ad (P.cellsOf e)).bind (DataW.trod enc P w base (fun _=>true) held n e)=some y:=by
    by_cases hl:len=0
    ·obtain⟨r1,r2⟩:=hrest rfl;have:=r2 0 (by omega);rw[hl]at this;refine⟨_,_,?_,this.trans (NY (by omega))⟩;simp[Addr.add]
    ·have:=hels 0 (by omega);refine⟨_,_,?_,this.trans (NY (by omega))⟩;simp[Addr.add]
   obtain⟨ad,y,rfl,hy⟩:=hr;rw[QA]at hy;obtain⟨ds,hd,_⟩:=hy;obtain⟨_,hdl,hdc⟩:=R5 hd;have:=hdc 0 (by rw[hc];exact hw);have ha:ad.add 0=ad:=by simp[Addr.add]
   rw[ha,NY (by rw[hdl,hc];exact hw)]at this;unfold World.cell? at this;split at this
   ·split at this
    ·cases this
    ·rename_i hs;cases hsp:ad.spot
     ·rfl
     ·rw[hsp]at hs;exact absurd rfl hs
   ·cases this
theorem jk{N M:Nat}{g:TypeId->DataW H->Prop}(hb:GoodR P N M g){sp:Nat->Bool}{t:TypeId}{fs:Array Field}{fuel:Nat}{cs:List Value}{x:DataW H×List MemPlace}(ht:P.underlying t=some (.struct fs))(h:DataW.trod enc P w base sp held fuel t cs=some x)(hg:g t x.1) :
  ∃n,fuel=n+1/\cs.length=P.cellsOf t/\∀(i:Nat)(f:Field),fs[i]?=some f->∃y,DataW.trod enc P w base sp held n f.type ((cs.drop f.offset).take (P.cellsOf f.type))=some y/\g f.type y.1:=by
 obtain⟨xs,n,hn,hx,hl,hs,hf⟩:=DataW.trod_struct ht h;refine⟨n,hn,hl,fun i f hif=>?_⟩
 have hi:i<xs.length:=by
  rw[hs];rcases O5 i fs.size with k|k
  ·exact k
  ·rw[OM k]at hif;cases hif
 refine⟨xs[i],by rw[hf i f hif];exact NY hi,?_⟩;rw[hx]at hg;exact hb.part _ _ _ ht hg i f _ hif (by rw[OD,NY hi];rfl)
theorem MM{N M:Nat}{g:TypeId->DataW H->Prop}(hb:GoodR P N M g){sp:Nat->Bool}{t:TypeId}{fuel:Nat}{cs:List Value}{x:DataW H×List MemPlace}(ht:P.underlying t=some .string)(h:DataW.trod enc P w base sp held fuel t cs=some x)(hg:g t x.1) :
  ∃(s:Str)(v:Value),cs=[v]/\V (Om0 w) (.str s) v/\s.length<=M:=by
 obtain⟨s,rfl,hx,hw⟩:=DataW.trod_string ht h;refine⟨s.data.toList,_,rfl,?_,by rw[hx]at hg;exact hb.str _ _ ht hg⟩;have e:s=⟨s.data.toList.toArray⟩:=by cases s;simp
 have hl:s.data.toList.length<=bj:=by have:s.data.size=s.size:=rfl;unfold maxLen at hw;unfold bj;simp only[PE,this];omega
 have:=V.str (Ω:=Om0 w) s.data.toList hl;rw[<-e]at this;exact this
structure TermAt(P:Program)(t:TypeId):Prop where
 ex:∃(f0 f1 f2 f3 f4 f5 f6 f7 f8:Field)(e g:TypeId),P.underlying t=some (.struct #[f0,f1,f2,f3,f4,f5,f6,f7,f8])/\P.cellsOf t=9/\
  (f0.offset=0/\f1.offset=1/\f2.offset=2/\f3.offset=3/\f4.offset=4/\f5.offset=5/\f6.offset=6/\f7.offset=7/\f8.offset=8)/\
  (P.cellsOf f0.type=1/\P.cellsOf f1.type=1/\P.cellsOf f2.type=1/\P.cellsOf f3.type=1/\P.cellsOf f4.type=1/\P.cellsOf f5.type=1/\P.cellsOf f6.type=1/\P.cellsOf f7.type=1/\P.cellsOf f8.type=1)/\
  (P.underlying f0.type=some (.int .i64)/\P.underlying f1.type=some .string/\P.underlying f2.type=some .string/\P.underlying f3.type=some (.int .i64)/\P.underlying f4.type=some (.slice e)/\P.underlying f5.type=some (.slice e)/\
   P.underlying f6.type=some (.slice g)/\P.underlying f7.type=some (.slice t)/\P.underlying f8.type=some (.int .i64))/\(P.underlying e=some .string/\P.cellsOf e=1/\P.bytesOf e=16)/\ShapeAt P g
def jL(N M:Nat)(x:Trm):Bool:=decide (x.names.length<=N)&&decide (x.name.length<=M)
theorem MN{N M:Nat}{g:TypeId->DataW H->Prop}(hb:GoodR P N M g){t:TypeId}(hs:TermAt P t):∀(fuel:Nat)(cs:List Value)(x:DataW H×List MemPlace),DataW.trod enc P w base (fun _=>true) held fuel t cs=some x->g t x.1->
  ∃s:Trm,VL (Om0 w) (cells (.st .term) s) cs/\Pd.allT (jL N M) s=true:=by
 obtain⟨f0,f1,f2,f3,f4,f5,f6,f7,f8,e,e6,ht,hc,⟨o0,o1,o2,o3,o4,o5,o6,o7,o8⟩,⟨c0,c1,c2,c3,c4,c5,c6,c7,c8⟩,⟨u0,u1,u2,u3,u4,u5,u6,u7,u8⟩,⟨us,ce,b16⟩,hg⟩:=hs;have cg:P.cellsOf e6=ab (.st .shape):=by obtain⟨_,_,_,_,_,_,_,hc,_⟩:=hg;rw[hc];rfl
 intro fuel
 induction fuel using Nat.strongRecOn with
 |_ fuel ih=>
 intro cs x h hN;obtain⟨n,hn,hl,hf⟩:=jk hb ht h hN;rw[hc]at hl;obtain⟨y0,h0,_⟩:=hf 0 f0 rfl;obtain⟨y1,h1,_⟩:=hf 1 f1 rfl;obtain⟨y2,h2,b2⟩:=hf 2 f2 rfl;obtain⟨y3,h3,_⟩:=hf 3 f3 rfl;obtain⟨y4,h4,b4⟩:=hf 4 f4 rfl;obtain⟨y5,h5,_⟩:=hf 5 f5 rfl;obtain⟨y6,h6,_⟩:=hf 6 f6 rfl;obtain⟨y7,h7,b7⟩:=hf 7 f7 rfl;obtain⟨y8,h8,_⟩:=hf 8 f8 rfl
 match cs,hl with
 |[a0,a1,a2,a3,a4,a5,a6,a7,a8],_=>
  rw[o0,c0]at h0;rw[o1,c1]at h1;rw[o2,c2]at h2;rw[o3,c3]at h3;rw[o4,c4]at h4;rw[o5,c5]at h5;rw[o6,c6]at h6;rw[o7,c7]at h7;rw[o8,c8]at h8;simp only[Pe,Pq,Ph,PJ]at h0 h1 h2 h3 h4 h5 h6 h7 h8;obtain⟨k,e0,v0⟩:=jB u0 h0;obtain⟨p,w1,e1,v1⟩:=je u1 h1;obtain⟨m,w2,e2,v2,l2⟩:=MM hb u2 h2 b2;obtain⟨z,e3,v3⟩:=jB u3 h3;have strs:∀(n:Nat)(ds:List Value)(y:DataW H×List MemPlace),DataW.trod enc P w base (fun _=>true) held n e ds=some y->∃z:den .str,VL (Om0 w) (cells .str z) ds:=fun n ds y hy=>by obtain⟨s,v,rfl,hv⟩:=je us hy;exact⟨s,VL.cons hv .nil⟩
  obtain⟨ns,w4,e4,v4,l4,_⟩:=mG (τ:=.str) (Q:=fun _=>True) hb u4 ce (by decide) h4 b4 (fun n ds y _ hy _=>by obtain⟨z,hz⟩:=strs n ds y hy;exact⟨z,hz,trivial⟩);obtain⟨vs,w5,e5,v5⟩:=nI (τ:=.str) u5 ce (by decide) h5 (fun n ds y _ hy=>strs n ds y hy);obtain⟨ss,w6,e6,v6⟩:=nI (τ:=.st .shape) u6 cg (by decide) h6 (fun n ds y _ hy=>F0 hg n ds y hy);obtain⟨ps,w7,e7,v7,_,q7⟩:=mG (τ:=.st .term) (Q:=fun s=>Pd.allT (jL N M) s=true) hb u7 (by rw[hc];rfl) (by decide) h7 b7 (fun k ds y hk hy hle=>ih k (by omega) ds y hy hle);obtain⟨at_,e8,v8⟩:=jB u8 h8;simp only[P8,OK]at e0 e1 e2 e3 e4 e5 e6 e7 e8;subst e0 e1 e2 e3 e4 e5 e6 e7 e8;refine⟨⟨k,p,m,z,ns,vs,ss,ps,at_⟩,VL.cons v0 (VL.cons v1 (VL.cons v2 (VL.cons v3 (VL.cons v4 (VL.cons v5 (VL.cons v6 (VL.cons v7 (VL.cons v8 .nil)))))))),?_⟩;rw[Pd.allT_eq,NZ,Pd.allTL_all,O9];refine⟨?_,q7⟩;unfold jL;rw[Xd (show ns.length<=N from l4 (Nat.le_of_eq b16.symm)),Xd (show m.length<=M from l2)];rfl
end Go.AL
end
noncomputable section
namespace Go.AL
open Go.ChangeShapes Go.WideShapes Go.RowKit
variable [Tabs]
variable {H:Type} {enc:TypeId×Value->H} {P:Program} {w:World} {base:Nat} {held:Bool}
def nmB(N:Nat)(s:Shape):Bool:=decide (s.names.length<=N)&&decide (s.parts.length<=N)
def D7(P:Program)(t:TypeId):Prop:=∀(fs:Array Field)(i:Nat)(f:Field)(e:TypeId),P.underlying t=some (.struct fs)->fs[i]?=some f->P.underlying f.type=some (.slice e)->16<=P.bytesOf e
theorem J2{N M:Nat}{g:TypeId->DataW H->Prop}(hb:GoodR P N M g){t:TypeId}(hs:ShapeAt P t)(h16:D7 P t):∀(fuel:Nat)(cs:List Value)(x:DataW H×List MemPlace),DataW.trod enc P w base (fun _=>true) held fuel t cs=some x->g t x.1->∃s:Shape,VL (Om0 w) (cells (.st .shape) s) cs/\Pd.allS (nmB N) s=true:=by
 obtain⟨f0,f1,f2,f3,f4,e,ht,hc,⟨o0,o1,o2,o3,o4⟩,⟨c0,c1,c2,c3,c4⟩,u0,u1,u2,u3,us,ce,u4⟩:=hs;intro fuel
 induction fuel using Nat.strongRecOn with
 |_ fuel ih=>
 intro cs x h hg;obtain⟨n,hn,hl,hf⟩:=jk hb ht h hg;rw[hc]at hl;obtain⟨y0,h0,_⟩:=hf 0 f0 rfl;obtain⟨y1,h1,_⟩:=hf 1 f1 rfl;obtain⟨y2,h2,_⟩:=hf 2 f2 rfl;obtain⟨y3,h3,b3⟩:=hf 3 f3 rfl;obtain⟨y4,h4,b4⟩:=hf 4 f4 rfl
 match cs,hl with
 |[a0,a1,a2,a3,a4],_=>
  rw[o0,c0]at h0;rw[o1,c1]at h1;rw[o2,c2]at h2;rw[o3,c3]at h3;rw[o4,c4]at h4;simp only[Pe,Pq,Ph,PJ]at h0 h1 h2 h3 h4;obtain⟨k,e0,v0⟩:=jB u0 h0;obtain⟨p,v,e1,v1⟩:=je u1 h1;obtain⟨m,v',e2,v2⟩:=je u2 h2;obtain⟨ns,v'',e3,v3,q3,_⟩:=mG (τ:=.str) (Q:=fun _=>True) hb u3 (by rw[ce];rfl) (by decide) h3 b3 fun n' ds y _ hy _=>by obtain⟨s,v,rfl,hv⟩:=je us hy;exact⟨s,VL.cons hv .nil,trivial⟩
  obtain⟨ps,v''',e4,v4,p4,q4⟩:=mG (τ:=.st .shape) (Q:=fun s:Shape=>Pd.allS (nmB N) s=true) hb u4 (by rw[hc];rfl) (by decide) h4 b4 fun n' ds y hn' hy hq=>ih n' (by omega) ds y hy hq;simp only[P8,OK]at e0 e1 e2 e3 e4;subst e0 e1 e2 e3 e4;refine⟨⟨k,p,m,ns,ps⟩,VL.cons v0 (VL.cons v1 (VL.cons v2 (VL.cons v3 (VL.cons v4 .nil)))),?_⟩;rw[Pd.allS_eq,NZ,Pd.allL_all,O9];refine⟨?_,q4⟩;rw[nmB,NZ];exact⟨Xd (q3 (h16 _ 3 f3 e ht rfl u3)),Xd (p4 (h16 _ 4 f4 t ht rfl u4))⟩
structure ItemAtQ(P:Program)(t:TypeId):Prop where
 ex:∃(f0 f1 f2:Field),P.underlying t=some (.struct #[f0,f1,f2])/\P.cellsOf t=7/\(f0.offset=0/\f1.offset=1/\f2.offset=2)/\
  (P.cellsOf f0.type=1/\P.cellsOf f1.type=1/\P.cellsOf f2.type=5)/\P.underlying f0.type=some (.int .i64)/\P.underlying f1.type=some .string/\ShapeAt P f2.type/\D7 P f2.type
theorem Lf{N M:Nat}{g:TypeId->DataW H->Prop}(hb:GoodR P N M g){t:TypeId}(hs:ItemAtQ P t)(fuel:Nat)(cs:List Value)(x:DataW H×List MemPlace)(h:DataW.trod enc P w base (fun _=>true) held fuel t cs=some x)(hg:g t x.1) :
  ∃s:AL.Item,VL (Om0 w) (cells (.st .item) s) cs/\Pd.allS (nmB N) s.shape=true:=by
 obtain⟨f0,f1,f2,ht,hc,⟨o0,o1,o2⟩,⟨c0,c1,c2⟩,u0,u1,u2,u3⟩:=hs;obtain⟨n,hn,hl,hf⟩:=jk hb ht h hg;rw[hc]at hl;obtain⟨y0,h0,_⟩:=hf 0 f0 rfl;obtain⟨y1,h1,_⟩:=hf 1 f1 rfl;obtain⟨y2,h2,b2⟩:=hf 2 f2 rfl
 match cs,hl with
 |[a0,a1,a2,a3,a4,a5,a6],_=>rw[o0,c0]at h0;rw[o1,c1]at h1;rw[o2,c2]at h2;simp only[Pe,Pq,Ph,PJ]at h0 h1 h2;obtain⟨k,e0,v0⟩:=jB u0 h0;obtain⟨p,v,e1,v1⟩:=je u1 h1;obtain⟨s,v2,q2⟩:=J2 hb u2 u3 _ _ _ h2 b2;simp only[P8,OK]at e0 e1;subst e0 e1;exact⟨⟨k,p,s⟩,VL.cons v0 (VL.cons v1 v2),q2⟩
structure DepAt(P:Program)(t:TypeId):Prop where
 ex:∃(f0 f1:Field)(e:TypeId),P.underlying t=some (.struct #[f0,f1])/\P.cellsOf t=2/\(f0.offset=0/\f1.offset=1)/\(P.cellsOf f0.type=1/\P.cellsOf f1.type=1)/\P.underlying f0.type=some .string/\P.underlying f1.type=some (.slice e)/\ItemAtQ P e/\16<=P.bytesOf e
end Go.AL
end
section
namespace Go.AL
open Go Go.Proofs
section
variable {H:Type} {enc:TypeId×Value->H} {P:Program} {w:World} {base:Nat} {held:Bool} [Tabs]
theorem NG{N M:Nat}{g:TypeId->DataW H->Prop}(hb:GoodR P N M g){t:TypeId}(hs:DepAt P t)(fuel:Nat)(cs:List Value)(x:DataW H×List MemPlace)(h:DataW.trod enc P w base (fun _=>true) held fuel t cs=some x)(hg:g t x.1) :
  ∃s:Depd,VL (Om0 w) (cells (.st .dep) s) cs/\s.items.length<=N/\∀x∈s.items,Pd.allS (nmB N) x.shape=true:=by
 obtain⟨f0,f1,e,ht,hc,⟨o0,o1⟩,⟨c0,c1⟩,u0,u1,hi,h16⟩:=hs;obtain⟨n,hn,hl,hf⟩:=jk hb ht h hg;rw[hc]at hl;obtain⟨y0,h0,_⟩:=hf 0 f0 rfl;obtain⟨y1,h1,b1⟩:=hf 1 f1 rfl
 match cs,hl with
 |[a0,a1],_=>rw[o0,c0]at h0;rw[o1,c1]at h1;simp only[Pe,Pq,Ph,PJ]at h0 h1;obtain⟨p,v',e0,v0⟩:=je u0 h0;obtain⟨l,w1,e1,v1,p1,q1⟩:=mG (τ:=.st .item) (Q:=fun x:AL.Item=>Pd.allS (nmB N) x.shape=true) hb u1 (by obtain⟨_,_,_,_,hc',_⟩:=hi;rw[hc'];rfl) (by decide) h1 b1 (fun n ds y _ hy hq=>Lf hb hi n ds y hy hq);simp only[P8,OK]at e0 e1;subst e0 e1;exact⟨⟨p,l⟩,VL.cons v0 (VL.cons v1 .nil),p1 h16,q1⟩
theorem MO{N M:Nat}{g:TypeId->DataW H->Prop}(hb:GoodR P N M g){t e:TypeId}(ht:P.underlying t=some (.slice e))(hs:DepAt P e){r:Reach}{b0:Nat}{v:Value}{d:DataW H}{ps:List MemPlace}(hv:Value.okWide P w r b0 t v)
 (h:DataW.Trod enc P w base (fun _=>true) held t v d ps)(hg:g t d):∃l:List Depd,V (Om0 w) (.lst (.st .dep) l none) v/\∀m∈l,m.items.length<=N/\∀x∈m.items,Pd.allS (nmB N) x.shape=true:=by
 obtain⟨fu,h⟩:=h;obtain⟨l,u,e',hl,_,hq⟩:=J1 (τ:=.st .dep) (Q:=fun m:Depd=>m.items.length<=N/\∀x∈m.items,Pd.allS (nmB N) x.shape=true) hb ht (by obtain⟨_,_,_,_,hc,_⟩:=hs;rw[hc];rfl) h hg (fun n ds y _ hy hq=>NG hb hs _ _ _ hy hq) (IJ ht hv);rw[L6 ht hv]at e';simp only[P8,OK]at e';subst e';exact⟨l,hl,hq⟩
end
end Go.AL
end
noncomputable section
namespace Go.AL
open Go.ChangeShapes Go.WideShapes Go.RowKit
variable [Tabs]
theorem VL.app{Ω:Om}{xs bs:List AV}{cs ds:List Value}(h:VL Ω xs cs)(k:VL Ω bs ds):VL Ω (xs++bs) (cs++ds):=by
 induction xs generalizing cs with
 |nil=>have:cs=[]:=Oc h.1.symm;subst this;exact k
 |cons a xs ih=>
  match cs,h with
  |c::cs,h=>exact VL.cons (h.2 0 a c rfl rfl) (ih ⟨by have:=h.1;simpa using this,fun j x y hx hy=>h.2 (j+1) x y hx hy⟩)
variable {H:Type} {enc:TypeId×Value->H} {P:Program} {w:World} {base:Nat} {held:Bool}
theorem Gj{N M:Nat}{g:TypeId->DataW H->Prop}(hb:GoodR P N M g){t e:TypeId}{τ:Ty}{l:List (den τ)}{v:Value}{fuel:Nat}{x:DataW H×List MemPlace}(ht:P.underlying t=some (.slice e))(h16:16<=P.bytesOf e)
 (h:DataW.trod enc P w base (fun _=>true) held fuel t [v]=some x)(hg:g t x.1)(hv:V (Om0 w) (.lst τ l none) v):l.length<=N:=by
 rcases hv.lst_inv with⟨rfl,_⟩|⟨rfl,_⟩|⟨b,off,cap,vals,rfl,_⟩
 ·exact Of _
 ·exact Of _
 ·rcases QP ht h with⟨hc,_⟩|⟨a,len,cap',elems,rest,n,hfu,hcs,hx,_,hlc,hcm,hlen,hels,_,_⟩
  ·simp at hc
  ·simp only[P8,Po,OK]at hcs;rw[hx]at hg;have:=hb.len _ _ _ _ ht hg h16;rw[P3]at this;omega
theorem ff{N M:Nat}{g:TypeId->DataW H->Prop}(hb:GoodR P N M g){t e:TypeId}{fs:Array Field}{i:Nat}{f:Field}{τ:Ty}{l:List (den τ)}{as':List AV}{cs:List Value}{fuel:Nat}{x:DataW H×List MemPlace}(ht:P.underlying t=some (.struct fs))(hi:fs[i]?=some f)
 (h1:P.cellsOf f.type=1)(hf:P.underlying f.type=some (.slice e))(h16:16<=P.bytesOf e)(h:DataW.trod enc P w base (fun _=>true) held fuel t cs=some x)(hg:g t x.1)(hv:VL (Om0 w) as' cs)(hc:as'[f.offset]?=some (.lst τ l none)):l.length<=N:=by
 obtain⟨n,hn,hl,hfs⟩:=jk hb ht h hg;obtain⟨y,hy,gy⟩:=hfs i f hi;have hlt:f.offset<cs.length:=by rw[<-hv.1];exact(OA.1 hc).1
 have e1:(cs.drop f.offset).take 1=[cs[f.offset]]:=by rw[Qm hlt];rfl
 rw[h1,e1]at hy;exact Gj hb hf h16 hy gy (hv.2 f.offset _ _ hc (NY hlt))
structure VersAt(P:Program)(t:TypeId):Prop where
 ex:∃(f0 f1 f2 f3:Field),P.underlying t=some (.struct #[f0,f1,f2,f3])/\P.cellsOf t=4/\(f0.offset=0/\f1.offset=1/\f2.offset=2/\f3.offset=3)/\
  (P.cellsOf f0.type=1/\P.cellsOf f1.type=1/\P.cellsOf f2.type=1/\P.cellsOf f3.type=1)/\P.underlying f0.type=some (.int .i64)/\P.underlying f1.type=some (.int .i64)/\P.underlying f2.type=some (.int .i64)/\P.underlying f3.type=some .string
theorem J3{t:TypeId}(hs:VersAt P t)(fuel:Nat)(cs:List Value)(x:DataW H×List MemPlace)(h:DataW.trod enc P w base (fun _=>true) held fuel t cs=some x):∃s:Vers,VL (Om0 w) (cells (.st .version) s) cs:=by
 obtain⟨f0,f1,f2,f3,ht,hc,⟨o0,o1,o2,o3⟩,⟨c0,c1,c2,c3⟩,u0,u1,u2,u3⟩:=hs;obtain⟨n,hn,hl,hf⟩:=rL ht h;rw[hc]at hl;obtain⟨y0,h0⟩:=hf 0 f0 rfl;obtain⟨y1,h1⟩:=hf 1 f1 rfl;obtain⟨y2,h2⟩:=hf 2 f2 rfl;obtain⟨y3,h3⟩:=hf 3 f3 rfl
 match cs,hl with
 |[a0,a1,a2,a3],_=>rw[o0,c0]at h0;rw[o1,c1]at h1;rw[o2,c2]at h2;rw[o3,c3]at h3;simp only[Pe,Pq,Ph,PJ]at h0 h1 h2 h3;obtain⟨k0,e0,v0⟩:=jB u0 h0;obtain⟨k1,e1,v1⟩:=jB u1 h1;obtain⟨k2,e2,v2⟩:=jB u2 h2;obtain⟨k3,v',e3,v3⟩:=je u3 h3;simp only[P8,OK]at e0 e1 e2 e3;subst e0 e1 e2 e3;exact⟨⟨k0,k1,k2,k3⟩,VL.cons v0 (VL.cons v1 (VL.cons v2 (VL.cons v3 .nil)))⟩
structure BndAt(P:Program)(t:TypeId):Prop where
 ex:∃(f0 f1:Field),P.underlying t=some (.struct #[f0,f1])/\P.cellsOf t=5/\(f0.offset=0/\f1.offset=1)/\(P.cellsOf f0.type=1/\P.cellsOf f1.type=4)/\P.underlying f0.type=some (.int .i64)/\VersAt P f1.type
theorem NH{t:TypeId}(hs:BndAt P t)(fuel:Nat)(cs:List Value)(x:DataW H×List MemPlace)(h:DataW.trod enc P w base (fun _=>true) held fuel t cs=some x):∃s:Bnd,VL (Om0 w) (cells (.st .bound) s) cs:=by
 obtain⟨f0,f1,ht,hc,⟨o0,o1⟩,⟨c0,c1⟩,u0,u1⟩:=hs;obtain⟨n,hn,hl,hf⟩:=rL ht h;rw[hc]at hl;obtain⟨y0,h0⟩:=hf 0 f0 rfl;obtain⟨y1,h1⟩:=hf 1 f1 rfl
 match cs,hl with
 |[a0,a1,a2,a3,a4],_=>rw[o0,c0]at h0;rw[o1,c1]at h1;simp only[Pe,Pq,Ph,PJ]at h0 h1;obtain⟨k0,e0,v0⟩:=jB u0 h0;obtain⟨s,v1⟩:=J3 u1 _ _ _ h1;simp only[P8,OK]at e0;subst e0;exact⟨⟨k0,s⟩,VL.cons v0 (VL.app v1 .nil)⟩
structure ImpAt(P:Program)(t:TypeId):Prop where
 ex:∃(f0 f1 f2 f3:Field)(e:TypeId),P.underlying t=some (.struct #[f0,f1,f2,f3])/\P.cellsOf t=7/\(f0.offset=0/\f1.offset=1/\f2.offset=5/\f3.offset=6)/\
  (P.cellsOf f0.type=1/\P.cellsOf f1.type=4/\P.cellsOf f2.type=1/\P.cellsOf f3.type=1)/\P.underlying f0.type=some .string/\VersAt P f1.type/\P.underlying f2.type=some (.slice e)/\P.underlying f3.type=some (.int .i64)/\BndAt P e
theorem NI{t:TypeId}(hs:ImpAt P t)(fuel:Nat)(cs:List Value)(x:DataW H×List MemPlace)(h:DataW.trod enc P w base (fun _=>true) held fuel t cs=some x):∃s:Impt,VL (Om0 w) (cells (.st .imp) s) cs:=by
 obtain⟨f0,f1,f2,f3,e,ht,hc,⟨o0,o1,o2,o3⟩,⟨c0,c1,c2,c3⟩,u0,u1,u2,u3,hb⟩:=hs;obtain⟨n,hn,hl,hf⟩:=rL ht h;rw[hc]at hl;obtain⟨y0,h0⟩:=hf 0 f0 rfl;obtain⟨y1,h1⟩:=hf 1 f1 rfl;obtain⟨y2,h2⟩:=hf 2 f2 rfl;obtain⟨y3,h3⟩:=hf 3 f3 rfl;have hw:P.cellsOf e=ab (.st .bound):=by obtain⟨_,_,_,hc,_⟩:=hb;rw[hc];rfl
 match cs,hl with
 |[a0,a1,a2,a3,a4,a5,a6],_=>rw[o0,c0]at h0;rw[o1,c1]at h1;rw[o2,c2]at h2;rw[o3,c3]at h3;simp only[Pe,Pq,Ph,PJ]at h0 h1 h2 h3;obtain⟨k0,v',e0,v0⟩:=je u0 h0;obtain⟨s,v1⟩:=J3 u1 _ _ _ h1;obtain⟨l,w2,e2,v2⟩:=nI (τ:=.st .bound) u2 hw (by decide) h2 (fun n ds y _ hy=>NH hb n ds y hy);obtain⟨k3,e3,v3⟩:=jB u3 h3;simp only[P8,OK]at e0 e2 e3;subst e0 e2 e3;exact⟨⟨k0,s,l,k3⟩,VL.cons v0 (VL.app v1 (VL.cons v2 (VL.cons v3 .nil)))⟩
def Ag(N:Nat)(s:Dcl):Prop:=s.shape.names.length<=N/\s.shape.parts.length<=N/\s.term.names.length<=N/\s.term.vars.length<=N/\s.term.shapes.length<=N/\s.term.parts.length<=N
def lS(P:Program)(t:TypeId):Prop:=∀(fs:Array Field)(i:Nat)(f:Field)(e:TypeId),P.underlying t=some (.struct fs)->fs[i]?=some f->P.underlying f.type=some (.slice e)->16<=P.bytesOf e
theorem Ah{N M:Nat}{g:TypeId->DataW H->Prop}(hb:GoodR P N M g){t:TypeId}(hs:ShapeAt P t)(hw:lS P t){fuel:Nat}{cs:List Value}{x:DataW H×List MemPlace}{s:Shape}(h:DataW.trod enc P w base (fun _=>true) held fuel t cs=some x)(hg:g t x.1)
 (hv:VL (Om0 w) (cells (.st .shape) s) cs):s.names.length<=N/\s.parts.length<=N:=by
 obtain⟨f0,f1,f2,f3,f4,e,ht,hc,⟨o0,o1,o2,o3,o4⟩,⟨c0,c1,c2,c3,c4⟩,u0,u1,u2,u3,us,ce,u4⟩:=hs;exact⟨ff (i:=3) (f:=f3) (τ:=.str) hb ht rfl c3 u3 (hw _ 3 f3 _ ht rfl u3) h hg hv (by rw[o3];rfl),ff (i:=4) (f:=f4) (τ:=.st .shape) hb ht rfl c4 u4 (hw _ 4 f4 _ ht rfl u4) h hg hv (by rw[o4];rfl)⟩
theorem D8{N M:Nat}{g:TypeId->DataW H->Prop}(hb:GoodR P N M g){t:TypeId}(hs:TermAt P t)(hw:lS P t){fuel:Nat}{cs:List Value}{x:DataW H×List MemPlace}{s:Trm}(h:DataW.trod enc P w base (fun _=>true) held fuel t cs=some x)(hg:g t x.1)
 (hv:VL (Om0 w) (cells (.st .term) s) cs):s.names.length<=N/\s.vars.length<=N/\s.shapes.length<=N/\s.parts.length<=N:=by
 obtain⟨f0,f1,f2,f3,f4,f5,f6,f7,f8,e,e6,ht,hc,⟨o0,o1,o2,o3,o4,o5,o6,o7,o8⟩,⟨c0,c1,c2,c3,c4,c5,c6,c7,c8⟩,⟨u0,u1,u2,u3,u4,u5,u6,u7,u8⟩,⟨us,ce,b16⟩,hg'⟩:=hs
 exact⟨ff (i:=4) (f:=f4) (τ:=.str) hb ht rfl c4 u4 (hw _ 4 f4 _ ht rfl u4) h hg hv (by rw[o4];rfl),ff (i:=5) (f:=f5) (τ:=.str) hb ht rfl c5 u5 (hw _ 5 f5 _ ht rfl u5) h hg hv (by rw[o5];rfl),
  ff (i:=6) (f:=f6) (τ:=.st .shape) hb ht rfl c6 u6 (hw _ 6 f6 _ ht rfl u6) h hg hv (by rw[o6];rfl),ff (i:=7) (f:=f7) (τ:=.st .term) hb ht rfl c7 u7 (hw _ 7 f7 _ ht rfl u7) h hg hv (by rw[o7];rfl)⟩
structure DclAt(P:Program)(t:TypeId):Prop where
 ex:∃(f0 f1 f2 f3 f4:Field),P.underlying t=some (.struct #[f0,f1,f2,f3,f4])/\P.cellsOf t=17/\(f0.offset=0/\f1.offset=1/\f2.offset=2/\f3.offset=7/\f4.offset=16)/\
  (P.cellsOf f0.type=1/\P.cellsOf f1.type=1/\P.cellsOf f2.type=5/\P.cellsOf f3.type=9/\P.cellsOf f4.type=1)/\P.underlying f0.type=some (.int .i64)/\P.underlying f1.type=some .string/\(ShapeAt P f2.type/\lS P f2.type)/\(TermAt P f3.type/\lS P f3.type)/\P.underlying f4.type=some (.int .i64)
theorem NJ{N M:Nat}{g:TypeId->DataW H->Prop}(hb:GoodR P N M g){t:TypeId}(hs:DclAt P t)(fuel:Nat)(cs:List Value)(x:DataW H×List MemPlace)(h:DataW.trod enc P w base (fun _=>true) held fuel t cs=some x)(hg:g t x.1) :
  ∃s:Dcl,VL (Om0 w) (cells (.st .decl) s) cs/\Pd.allT (jL N M) s.term=true/\Ag N s:=by
 obtain⟨f0,f1,f2,f3,f4,ht,hc,⟨o0,o1,o2,o3,o4⟩,⟨c0,c1,c2,c3,c4⟩,u0,u1,⟨u2,q2⟩,⟨u3,q3⟩,u4⟩:=hs;obtain⟨n,hn,hl,hf⟩:=jk hb ht h hg;rw[hc]at hl;obtain⟨y0,h0,_⟩:=hf 0 f0 rfl;obtain⟨y1,h1,_⟩:=hf 1 f1 rfl;obtain⟨y2,h2,b2⟩:=hf 2 f2 rfl;obtain⟨y3,h3,b3⟩:=hf 3 f3 rfl;obtain⟨y4,h4,_⟩:=hf 4 f4 rfl
 match cs,hl with
 |[a0,a1,a2,a3,a4,a5,a6,a7,a8,a9,a10,a11,a12,a13,a14,a15,a16],_=>rw[o0,c0]at h0;rw[o1,c1]at h1;rw[o2,c2]at h2;rw[o3,c3]at h3;rw[o4,c4]at h4;simp only[Pe,Pq,Ph,PJ]at h0 h1 h2 h3 h4;obtain⟨k0,e0,v0⟩:=jB u0 h0;obtain⟨k1,v',e1,v1⟩:=je u1 h1;obtain⟨s,v2⟩:=F0 u2 _ _ _ h2;obtain⟨m,v3,q⟩:=MN hb u3 _ _ _ h3 b3;obtain⟨l1,l2⟩:=Ah hb u2 q2 h2 b2 v2;obtain⟨l3,l4,l5,l6⟩:=D8 hb u3 q3 h3 b3 v3;obtain⟨k4,e4,v4⟩:=jB u4 h4;simp only[P8,OK]at e0 e1 e4;subst e0 e1 e4;exact⟨⟨k0,k1,s,m,k4⟩,VL.cons v0 (VL.cons v1 (VL.app v2 (VL.app v3 (VL.cons v4 .nil)))),q,l1,l2,l3,l4,l5,l6⟩
structure ModuAt(P:Program)(t:TypeId):Prop where
 ex:∃(f0 f1 f2 f3 f4:Field)(e1 e2 e3:TypeId),P.underlying t=some (.struct #[f0,f1,f2,f3,f4])/\P.cellsOf t=5/\(f0.offset=0/\f1.offset=1/\f2.offset=2/\f3.offset=3/\f4.offset=4)/\
  (P.cellsOf f0.type=1/\P.cellsOf f1.type=1/\P.cellsOf f2.type=1/\P.cellsOf f3.type=1/\P.cellsOf f4.type=1)/\P.underlying f0.type=some .string/\P.underlying f1.type=some (.slice e1)/\P.underlying f2.type=some (.slice e2)/\
  P.underlying f3.type=some (.slice e3)/\P.underlying f4.type=some (.int .i64)/\ImpAt P e1/\DclAt P e2/\P.underlying e3=some .string/\P.cellsOf e3=1
theorem MP{N M:Nat}{g:TypeId->DataW H->Prop}(hb:GoodR P N M g){t:TypeId}(hs:ModuAt P t)(fuel:Nat)(cs:List Value)(x:DataW H×List MemPlace)(h:DataW.trod enc P w base (fun _=>true) held fuel t cs=some x)(hg:g t x.1) :
  ∃s:Modu,VL (Om0 w) (cells (.st .modu) s) cs/\∀d∈s.decls,Pd.allT (jL N M) d.term=true/\Ag N d:=by
 obtain⟨f0,f1,f2,f3,f4,e1,e2,e3,ht,hc,⟨o0,o1,o2,o3,o4⟩,⟨c0,c1,c2,c3,c4⟩,u0,u1,u2,u3,u4,hi,hd,us,cs3⟩:=hs;obtain⟨n,hn,hl,hf⟩:=jk hb ht h hg;rw[hc]at hl;obtain⟨y0,h0,_⟩:=hf 0 f0 rfl;obtain⟨y1,h1,_⟩:=hf 1 f1 rfl;obtain⟨y2,h2,b2⟩:=hf 2 f2 rfl;obtain⟨y3,h3,_⟩:=hf 3 f3 rfl;obtain⟨y4,h4,_⟩:=hf 4 f4 rfl;have w1:P.cellsOf e1=ab (.st .imp):=by obtain⟨_,_,_,_,_,_,hc,_⟩:=hi;rw[hc];rfl
 have w2:P.cellsOf e2=ab (.st .decl):=by obtain⟨_,_,_,_,_,_,hc,_⟩:=hd;rw[hc];rfl
 match cs,hl with
 |[a0,a1,a2,a3,a4],_=>rw[o0,c0]at h0;rw[o1,c1]at h1;rw[o2,c2]at h2;rw[o3,c3]at h3;rw[o4,c4]at h4;simp only[Pe,Pq,Ph,PJ]at h0 h1 h2 h3 h4;obtain⟨k0,v',e0,v0⟩:=je u0 h0;obtain⟨li,x1,g1,v1⟩:=nI (τ:=.st .imp) u1 w1 (by decide) h1 (fun n ds y _ hy=>NI hi n ds y hy);obtain⟨ld,x2,g2,v2,_,q⟩:=mG (τ:=.st .decl) (Q:=fun d:Dcl=>Pd.allT (jL N M) d.term=true/\Ag N d) hb u2 w2 (by decide) h2 b2 (fun n ds y _ hy hq=>NJ hb hd n ds y hy hq);obtain⟨le,x3,g3,v3⟩:=nI (τ:=.str) u3 cs3 (by decide) h3 (fun n ds y _ hy=>by obtain⟨s,hv,e,hs⟩:=je us hy;subst e;exact⟨s,VL.cons hs .nil⟩);obtain⟨k4,g4,v4⟩:=jB u4 h4;simp only[P8,OK]at e0 g1 g2 g3 g4;subst e0 g1 g2 g3 g4;exact⟨⟨k0,li,ld,le,k4⟩,VL.cons v0 (VL.cons v1 (VL.cons v2 (VL.cons v3 (VL.cons v4 .nil)))),q⟩
end Go.AL
end
section
namespace Go.AL
open Go Go.Proofs
section
variable {H:Type} {enc:TypeId×Value->H} {P:Program} {w:World} {base:Nat} {held:Bool} [Tabs]
theorem D9{N M:Nat}{g:TypeId->DataW H->Prop}(hb:GoodR P N M g){t:TypeId}(hs:ModuAt P t)(hw:lS P t){fuel:Nat}{cs:List Value}{x:DataW H×List MemPlace}{s:Modu}(h:DataW.trod enc P w base (fun _=>true) held fuel t cs=some x)(hg:g t x.1)
 (hv:VL (Om0 w) (cells (.st .modu) s) cs):s.imports.length<=N:=by
 obtain⟨f0,f1,f2,f3,f4,e1,e2,e3,ht,hc,⟨o0,o1,o2,o3,o4⟩,⟨c0,c1,c2,c3,c4⟩,u0,u1,u2,u3,u4,hi,hd,us,cs3⟩:=hs;exact ff (i:=1) (f:=f1) (τ:=.st .imp) hb ht rfl c1 u1 (hw _ 1 f1 _ ht rfl u1) h hg hv (by rw[o1];rfl)
theorem Da{N M:Nat}{g:TypeId->DataW H->Prop}(hb:GoodR P N M g){t:TypeId}(hs:ModuAt P t)(hw:lS P t){r:Reach}{b0:Nat}{v:Value}{d:DataW H}{ps:List MemPlace}(hv:Value.okWide P w r b0 t v)(h:DataW.Trod enc P w base (fun _=>true) held t v d ps)(hg:g t d) :
  ∃s:Modu,V (Om0 w) (.st .modu s) v/\(∀d∈s.decls,Pd.allT (jL N M) d.term=true/\Ag N d)/\s.imports.length<=N:=by
 obtain⟨fu,h⟩:=h;obtain⟨s,hs',hq⟩:=MP hb hs _ _ _ h hg;refine⟨s,.st .modu s v ?_,hq,D9 hb hs hw h hg hs'⟩;have hl:=hs'.1;have hc:(cells (.st .modu) s).length=5:=rfl;rw[hc]at hl
 cases v with|agg vs=>have:=V.of_agg hs';simpa[Value.cells]using this|_=>simp[Value.cells]at hl
end
end Go.AL
end
section
namespace Go.Pd
open Go Go.AL Go.Lib
def cmpI(a b:Int):Int:=if a<b then -1 else if b<a then 1 else 0
def kQ(a b:Str):Int:=if a<b then -1 else if b<a then 1 else 0
theorem MQ(a b:UInt8):a<b∨a=b∨b<a:=by
 rcases R1 a.toNat b.toNat with h|h|h
 ·exact .inl (UInt8.lt_iff_toNat_lt.2 h)
 ·exact .inr (.inl (UInt8.toNat_inj.1 h))
 ·exact .inr (.inr (UInt8.lt_iff_toNat_lt.2 h))
theorem Ai:kQ [] []=0:=by have h:¬([]:Str)<[]:=List.not_lt_nil _;unfold kQ;rw[O0 h,O0 h]
theorem vn(b:UInt8)(y:Str):kQ [] (b::y)=-1:=by unfold kQ;rw[O3 (List.nil_lt_cons b y)]
theorem vo(b:UInt8)(y:Str):kQ (b::y) []=1:=by unfold kQ;rw[O0 (List.not_lt_nil _),O3 (List.nil_lt_cons b y)]
theorem wi(a b:UInt8)(x y:Str):kQ (a::x) (b::y)=if a<b then -1 else if b<a then 1 else kQ x y:=by
 unfold kQ;have ht:=MQ a b;rcases ht with h|h|h
 ·rw[O3 h,O3 (PN.2 (.inl h))]
 ·subst h
  have e:∀x y:Str,a::x<a::y↔x<y:=fun x y=>by
   rw[PN];constructor
   ·rintro(h|h)
    ·exact absurd h (Q9 a)
    ·exact h.2
   ·exact fun h=>.inr ⟨rfl,h⟩
  simp only[e,O0 (Q9 a)]
 ·have h2:¬a<b:=fun e=>Q9 a (UInt8.lt_trans e h)
  have h3:¬a::x<b::y:=fun e=>by
   rcases PN.1 e with e|e
   ·exact h2 e
   ·rw[e.1]at h;exact Q9 b h
  rw[O0 h2,O3 h,O0 h3,O3 (PN.2 (.inl h))]
theorem tP:∀a b:Str,compareBytes a b=kQ a b
 |[],[]=>by rw[Ai];rfl
 |[],b::y=>by rw[vn];rfl
 |b::y,[]=>by rw[vo];rfl
 |a::x,b::y=>by rw[wi,compareBytes,tP x y]
theorem wj(a:Int):cmpI a a=0:=by unfold cmpI;rw[O0 (Int.lt_irrefl a),O0 (Int.lt_irrefl a)]
theorem pU:∀s:Str,kQ s s=0
 |[]=>Ai
 |a::x=>by rw[wi,O0 (Q9 a),O0 (Q9 a),pU x]
def di(s:Str):Str:=s.dropWhile fun b=>decide (b=48)
def Gk(a b:Str):Int:=if cmpI (di a).length (di b).length=0 then kQ (di a) (di b)else cmpI (di a).length (di b).length
def mQ(a b:Str):Int:=if cI a=true then(if cI b=true then Gk a b else -1)else if cI b=true then 1 else kQ a b
def kR:List Str->List Str->Int
 |a::l,b::m=>if mQ a b=0 then kR l m else mQ a b
 |l,m=>cmpI l.length m.length
def lT(a b:Vers):Int:=
 if ¬cmpI a.major b.major=0 then cmpI a.major b.major else if ¬cmpI a.minor b.minor=0 then cmpI a.minor b.minor else if ¬cmpI a.patch b.patch=0 then cmpI a.patch b.patch
 else if a.pre=[]then(if b.pre=[]then 0 else 1)else if b.pre=[]then -1 else kR (splitB 46 a.pre) (splitB 46 b.pre)
theorem Gl(s:Str):mQ s s=0:=by unfold mQ Gk;rw[wj,pU,pU];by_cases h:cI s=true<;>simp[h]
theorem wk:∀l:List Str,kR l l=0
 |[]=>rfl
 |a::l=>by rw[kR,Gl,O3 rfl,wk l]
theorem Gm(v:Vers):lT v v=0:=by unfold lT;simp only[wj,wk,not_true,OL];split<;>rfl
theorem J4(l:List Str):kR l []=cmpI l.length 0:=by cases l<;>rfl
theorem J5(l:List Str):kR [] l=cmpI 0 l.length:=by cases l<;>rfl
theorem Gn{l m:List Str}{k:Nat}(h1:k<l.length)(h2:k<m.length) :
  kR (l.drop k) (m.drop k)=if mQ (l.getD k (dfl .str)) (m.getD k (dfl .str))=0 then kR (l.drop (k+1)) (m.drop (k+1))else mQ (l.getD k (dfl .str)) (m.getD k (dfl .str)):=by
 rw[an l k (dfl .str) h1,an m k (dfl .str) h2,kR]
theorem J6(a b k:Nat)(h1:k<=a)(h2:k<=b):cmpI ((a-k:Nat):Int) ((b-k:Nat):Int)=cmpI a b:=by
 unfold cmpI;have e1:((a-k:Nat):Int)<((b-k:Nat):Int)↔(a:Int)<b:=by omega
 have e2:((b-k:Nat):Int)<((a-k:Nat):Int)↔(b:Int)<a:=by omega
 simp only[e1,e2]
theorem J7{l m:List Str}{k:Nat}(h1:k<=l.length)(h2:k<=m.length)(h:k=l.length∨k=m.length):kR (l.drop k) (m.drop k)=cmpI l.length m.length:=by
 rw[<-J6 l.length m.length k h1 h2];rcases h with rfl|rfl
 ·rw[Ol,J5,Qe,QO];rfl
 ·rw[Ol,J4,Qe,QO];rfl
def Lg(p c:Int):Bool:=
 if p=1 then decide (c<0)else if p=2 then decide (c<=0)else if p=3 then decide (c=0)else if p=4 then decide (0<=c)else if p=5 then decide (0<c)else false
def Lh(v:Vers)(b:Bnd):Bool:=Lg b.op (lT v b.v)
theorem Db(p c:Int){N Y:Prop}(nx:Lg p c=false->N)(yx:Lg p c=true->Y) :
  if decide (p=1)=true then(if decide (0<=c)=true then N else Y)else if decide (p=2)=true then(if decide (0<c)=true then N else Y)else if decide (p=3)=true then(if(!decide (c=0))=true then N else Y)
  else if decide (p=4)=true then(if decide (c<0)=true then N else Y)else if decide (p=5)=true then(if decide (c<=0)=true then N else Y)else N:=by
 unfold Lg at nx yx;apply aa<;>intro h
 ·rw[O3 (Xo h)]at nx yx;exact aa (fun e=>nx (Xf (by have:=Xo e;omega))) (fun e=>yx (Xd (by have:¬0<=c:=fun k=>e (Xd k);omega)))
 rw[O0 (fun e=>h (Xd e))]at nx yx;apply aa<;>intro h
 ·rw[O3 (Xo h)]at nx yx;exact aa (fun e=>nx (Xf (by have:=Xo e;omega))) (fun e=>yx (Xd (by have:¬0<c:=fun k=>e (Xd k);omega)))
 rw[O0 (fun e=>h (Xd e))]at nx yx;apply aa<;>intro h
 ·rw[O3 (Xo h)]at nx yx;exact aa (fun e=>nx (Xf (by simpa using e))) (fun e=>yx (Xd (by simpa using e)))
 rw[O0 (fun e=>h (Xd e))]at nx yx;apply aa<;>intro h
 ·rw[O3 (Xo h)]at nx yx;exact aa (fun e=>nx (Xf (by have:=Xo e;omega))) (fun e=>yx (Xd (by have:¬c<0:=fun k=>e (Xd k);omega)))
 rw[O0 (fun e=>h (Xd e))]at nx yx;apply aa<;>intro h
 ·rw[O3 (Xo h)]at nx yx;exact aa (fun e=>nx (Xf (by have:=Xo e;omega))) (fun e=>yx (Xd (by have:¬c<=0:=fun k=>e (Xd k);omega)))
 rw[O0 (fun e=>h (Xd e))]at nx yx;exact nx rfl
def dU(v:Vers)(l:List Bnd):Bool:=l.all (Lh v)
def lU(b:Bnd):Bool:=decide (1<=b.op/\b.op<=5)&&decide (ed b.v=0)
def mR(l:List Bnd):Int:=if 20<l.length then 50 else if l.all lU=true then 0 else 50
def tQ(n:Int):Str:=if n=1 then[60]else if n=2 then[60,61]else if n=3 then[61]else if n=4 then[62,61]else if n=5 then[62]else[]
theorem J8(n:Int):tQ n=[]↔¬(1<=n/\n<=5):=by
 unfold tQ
 repeat' split
 all_goals simp
 all_goals omega
theorem tR{v:Vers}(h:ed v=0):v.pre.length<=24:=by
 unfold ed at h;split at h
 ·exact absurd h (by decide)
 ·split at h
  ·exact absurd h (by decide)
  ·omega
def orI:List Int->Int
 |[]=>0
 |a::l=>if a=0 then orI l else a
theorem Dc{c:UInt8}{r:Str}(h:c=48):di (c::r)=di r:=by unfold di;rw[QU,O3 (Xd h)]
theorem Dd{c:UInt8}{r:Str}(h:¬c=48):di (c::r)=c::r:=by unfold di;rw[QU,O0 (fun e=>h (Xo e))]
theorem pV{a b:Int}(h:cmpI a b=0):a=b:=by
 unfold cmpI at h;split at h
 ·exact absurd h (by decide)
 ·split at h
  ·exact absurd h (by decide)
  ·omega
theorem wo{a b c:Int}:orI [a,b,c]=if ¬a=0 then a else if ¬b=0 then b else if ¬c=0 then c else 0:=by
 simp only[orI]
 repeat' split
 all_goals simp_all
theorem J9{a b c:Int}:orI [a,b,c]=0↔a=0/\b=0/\c=0:=by
 rw[wo]
 repeat' split
 all_goals simp_all
def qF(a b:Vers):Int:=orI [cmpI a.major b.major,cmpI a.minor b.minor,cmpI a.patch b.patch]
theorem Li(a b:Vers):lT a b=if ¬qF a b=0 then qF a b else if a.pre=[]then(if b.pre=[]then 0 else 1)else if b.pre=[]then -1 else kR (splitB 46 a.pre) (splitB 46 b.pre):=by
 unfold lT qF;rw[wo];by_cases h1:cmpI a.major b.major=0
 ·by_cases h2:cmpI a.minor b.minor=0
  ·by_cases h3:cmpI a.patch b.patch=0
   ·simp only[h1,h2,h3,not_true,OL]
   ·simp only[h1,h2,h3,not_true,OL,Qp,P1]
  ·simp only[h1,h2,not_true,OL,Qp,P1]
 ·simp only[h1,Qp,P1]
theorem Ja{a b:Vers}(h:qF a b=0)(hp:a.pre=b.pre):a=b:=by obtain⟨h1,h2,h3⟩:=J9.1 h;cases a;cases b;simp only at h1 h2 h3 hp;rw[pV h1,pV h2,pV h3,hp]
theorem Lj{l:List Bnd}(h:l.all lU=false):(50:Int)=mR l:=by
 unfold mR;rw[h];split
 ·rfl
 ·rfl
theorem Jb{l:List Bnd}(hl:¬20<l.length)(h:l.all lU=true):(0:Int)=mR l:=by unfold mR;rw[h,O0 hl,O3 rfl]
end Go.Pd
end
section
namespace Go.Pd
open Go.AL
variable {l:List Tokn} {R:PS->Trm×PS}
end Go.Pd
namespace Go.Pd
open Go.AL
end Go.Pd
namespace Go.Pd
open Go.AL
end Go.Pd
end
section
namespace Go.Pd
open Go.AL
mutual
def sizeF:Shape->Int->Int
 |⟨_,_,_,_,ps⟩,m=>sizeL ps 1 m
def sizeL:List Shape->Int->Int->Int
 |[],n,_=>n
 |p::r,n,m=>if n<=m then sizeL r (n+sizeF p (m-n)) m else n
end
mutual
theorem sizeF_bd:∀(s:Shape)(m:Int),0<=m->1<=sizeF s m/\sizeF s m<=m+1
 |⟨_,_,_,_,ps⟩,m,h=>by simp only[sizeF];exact sizeL_bd ps 1 m (by omega) (by omega)
theorem sizeL_bd:∀(l:List Shape)(n m:Int),1<=n->n<=m+1->1<=sizeL l n m/\sizeL l n m<=m+1
 |[],n,m,h1,h2=>by simp only[sizeL];omega
 |p::r,n,m,h1,h2=>by
  simp only[sizeL];split
  ·have:=sizeF_bd p (m-n) (by omega);exact sizeL_bd r _ m (by omega) (by omega)
  ·omega
end
end Go.Pd
end
section
namespace Go.Pd
open Go.AL
theorem Mp{K V:Type}[DecidableEq K]:∀(m:List (K×V))(k k':K)(v:V),cu (bP m k v) k'=if k'=k then some v else cu m k'
 |[],k,k',v=>by simp[bP,cu]
 |(a,u)::r,k,k',v=>by
  simp only[bP];by_cases h:k=a
  ·subst h;rw[O3 rfl];by_cases h':k'=k<;>simp[cu,h']
  ·rw[O0 h];simp only[cu,Mp r k k' v];by_cases h1:k'=a
   ·subst h1;simp[RP h]
   ·simp[h1]
def kS:List Str->List Shape->Str->Option Shape
 |n::r,p::q,name=>if n=name then some p else kS r q name
 |_,_,_=>none
def bT(s:Shape)(name:Str):Option Shape:=kS s.names s.parts name
theorem tS:∀{ns:List Str} {ps:List Shape} {n:Str} {p:Shape},kS ns ps n=some p->p∈ps
 |[],ps,n,p,h=>by cases ps<;>simp[kS]at h
 |a::r,[],n,p,h=>by simp[kS]at h
 |a::r,b::q,n,p,h=>by
  simp only[kS]at h;split at h
  ·simp at h;subst h;simp
  ·exact Og _ (tS h)
theorem rO{f:Shape->Bool}{s:Shape}(h:allS f s=true):f s=true/\allL f s.parts=true:=by rw[allS_eq,NZ]at h;exact h
end Go.Pd
end
section
namespace Go.Pd
open Go.AL
def p0(A:Ans):Pat
 |[],[]=>some A
 |_,_=>none
theorem Jc[Tabs]{P:Program}{f:Nat}{A:Ans}(he:Enters P f)(h:ak P f [] [] A):ah P f (p0 A):=by
 intro args S A' hA _ _;unfold p0 at hA;split at hA
 ·simp only[Xs]at hA;subst hA;exact⟨he,h⟩
 ·cases hA
end Go.Pd
end
section
namespace Go.Pd
open Go.AL
mutual
theorem eqS_refl:∀a:Shape,eqS a a=true
 |⟨k,p,n,ns,ps⟩=>by simp[eqS,eqL_refl ps]
theorem eqL_refl:∀a:List Shape,eqL a a=true
 |[]=>rfl
 |a::r=>by simp[eqL,eqS_refl a,eqL_refl r]
end
end Go.Pd
end
section
namespace Go.Pd
open Go.AL
def cb(env:Envt)(b:List Bndg):Envt:=⟨env.self,env.types,env.values++b,env.own⟩
end Go.Pd
end
noncomputable section
namespace Go.Pd
open Go.AL
def iO(F:Shape->Shape->Bool)(must:Bool)(b:Shape):List Str->List Shape->Bool
 |m::r,p::q=>(match bT b m with|none=>!must|some x=>F p x)&&iO F must b r q
 |_,_=>true
def nq(F:Shape->Shape->Bool)(fn:Bool):List Shape->List Shape->Bool
 |p::r,q::s=>(if(fn&&!r.isEmpty)=true then F q p else F p q)&&nq F fn r s
 |_,_=>true
def cE:Nat->Shape->Shape->Bool
 |0,_,_=>false
 | n+1,a,b=>decide (a.kind=4)||decide (b.kind=4)||
   (decide (a.kind=b.kind)&&decide (a.pkg=b.pkg)&&decide (a.name=b.name)&&
    (if a.kind=6 then iO (cE n) false b a.names a.parts&&b.names.all (fun m=>(bT a m).isSome)
    else if a.kind=7 then iO (cE n) true b a.names a.parts
    else decide (a.parts.length=b.parts.length)&&nq (cE n) (decide (a.kind=8)) a.parts b.parts))
def oS(a b:Shape):Bool:=decide (aG a=0)&&decide (aG b=0)&&cE 800 a b
theorem oU{s:Shape}(h:aV s=true):s.names=[]∨s.names.length=s.parts.length:=by
 unfold aV eH at h;simp only at h
 repeat' split at h
 all_goals simp only[NZ,O1,O9,P4]at h
 all_goals first
  |exact .inl h.1.2
  |exact .inr h.2.1.1.2
  |exact .inr h.2.1.1
  |skip
theorem Gp{o:Shape}{m:Str}{x:Shape}(h:bT o m=some x):True/\x∈o.parts:=⟨trivial,tS h⟩
theorem tT(m:Str)(d:Shape):∀(ns:List Str)(ps:List Shape)(k:Nat),ns.length=ps.length->
  (ct ns m (k:Int)=-1/\kS ns ps m=none)∨∃j,j<ns.length/\ct ns m (k:Int)=((k+j:Nat):Int)/\kS ns ps m=some (ps.getD j d)
 |[],ps,k,_=>.inl ⟨rfl,by cases ps<;>rfl⟩
 |a::r,p::q,k,h=>by
  simp only[ct,kS];by_cases e:a=m
  ·rw[O3 e,O3 e];exact .inr ⟨0,by simp,by simp,rfl⟩
  ·rw[O0 e,O0 e];have:=tT m d r q (k+1) (by simpa using h);rw[show((k:Int)+1)=((k+1:Nat):Int) by omega];rcases this with h1|⟨j,h1,h2,h3⟩
   ·exact .inl h1
   ·exact .inr ⟨j+1,by simp;omega,by rw[h2];omega,by rw[h3];rfl⟩
theorem wq{s:Shape}(m:Str)(d:Shape)(h:s.names=[]∨s.names.length=s.parts.length):(¬0<=ct s.names m 0/\bT s m=none)∨(0<=ct s.names m 0/\ct s.names m 0<(s.parts.length:Int)/\bT s m=some (s.parts.getD (ct s.names m 0).toNat d)):=by
 unfold bT;rcases h with e|e
 ·rw[e];exact .inl ⟨by simp[ct],by cases s.parts<;>rfl⟩
 ·rcases tT m d s.names s.parts 0 e with⟨h1,h2⟩|⟨j,h1,h2,h3⟩
  ·have h1:ct s.names m 0=-1:=h1;exact .inl ⟨by omega,h2⟩
  ·have h2:ct s.names m 0=((0+j:Nat):Int):=h2;refine .inr ⟨by omega,by omega,?_⟩;rw[h2,h3,Oi,P0]
theorem Jd{s:Shape}(m:Str)(d:Shape)(h:aV s=true):(¬0<=ct s.names m 0/\bT s m=none)∨(0<=ct s.names m 0/\ct s.names m 0<(s.parts.length:Int)/\bT s m=some (s.parts.getD (ct s.names m 0).toNat d)):=wq m d (oU h)
theorem Je{s:Shape}(h:aG s=0):(bO s).names=[]∨(bO s).names.length=(bO s).parts.length:=by
 unfold bO;rw[O3 h];obtain⟨k,p,n,ns,ps⟩:=s;by_cases e:ns=[]
 ·exact .inl (by rw[sortedS,O3 e])
 ·exact .inr (by rw[sortedS];simp[e])
def ye(g:Nat)(F:Shape->Shape->Ans):Pat:=fun args S=>
 match args,S with
 |[.ptr 900 0,a,b],[(900,.box (.agg [.fn f []]))]=>
  (match Nat.beq f g,arg (.st .shape) a,arg (.st .shape) b with
  |true,some x,some y=>some (F x y)
  |_,_,_=>none)
 |_,_=>none
theorem wu[Tabs]{P:Program}{f g:Nat}{F:Shape->Shape->Ans}(he:Enters P f)(h:∀a b,Wf (.st .shape) a->Wf (.st .shape) b->(∀q,(F a b).ob=some q->q)->ak P f [.ptr 900 0,.st .shape a,.st .shape b] [(900,.box (.agg [.fn g []]))] (F a b)) :
  ah P f (ye g F):=by
 intro args S A hA ho _;unfold ye at hA;split at hA
 ·split at hA
  ·rename_i x y hb hx hy;simp only[Xs]at hA;subst hA;have e:=On hb;subst e;exact⟨he,ak.args (.cons (Rd.refl _) (.cons (Rd.arg hx) (.cons (Rd.arg hy) .nil))) (ak.wf fun hw=>h _ _ hw.cons.2.cons.1 hw.cons.2.cons.2.cons.1 ho)⟩
  ·cases hA
 ·cases hA
def oV(g:Nat)(F:List Str->Shape->Ans):Pat:=fun args S=>
 match args,S with
 |[a,.fn f [.ptr 900 0]],[(900,.box (.st .shape s))]=>(match Nat.beq f g,arg (.lst .str) a with|true,some x=>some (F x s)|_,_=>none)
 |_,_=>none
theorem qG[Tabs]{P:Program}{f g:Nat}{F:List Str->Shape->Ans}(he:Enters P f)(h:∀a s,Wf (.lst .str) a->(∀q,(F a s).ob=some q->q)->ak P f [.lst .str a none,.fn g [.ptr 900 0]] [(900,.box (.st .shape s))] (F a s)) :
  ah P f (oV g F):=by
 intro args S A hA ho _;unfold oV at hA;split at hA
 ·split at hA
  ·rename_i x hb hx;simp only[Xs]at hA;subst hA;have e:=On hb;subst e;exact⟨he,ak.args (.cons (Rd.arg hx) (.cons (Rd.refl _) .nil)) (ak.wf fun hw=>h _ _ hw.one ho)⟩
  ·cases hA
 ·cases hA
def De(F:Str->Shape->Ans):Pat:=fun args S=>
 match args,S with
 |[a,.ptr 900 0],[(900,.box (.st .shape s))]=>(match arg .str a with|some x=>some (F x s)|_=>none)
 |_,_=>none
theorem Gq[Tabs]{P:Program}{f:Nat}{F:Str->Shape->Ans}(he:Enters P f)(h:∀a s,(∀q,(F a s).ob=some q->q)->ak P f [.str a,.ptr 900 0] [(900,.box (.st .shape s))] (F a s)) :
  ah P f (De F):=by
 intro args S A hA ho _;unfold De at hA;split at hA
 ·split at hA
  ·rename_i x hx;simp only[Xs]at hA;subst hA;exact⟨he,ak.args (.cons (Rd.arg hx) (.cons (Rd.refl _) .nil)) (h _ _ ho)⟩
  ·cases hA
 ·cases hA
end Go.Pd
end
noncomputable section
namespace Go.Pd
open Go.AL
def aO:List Bndg->Str->Str->Option Shape
 |[],_,_=>none
 |b::r,o,m=>match aO r o m with
  |some s=>some s
  |none=>if b.pkg=o/\b.name=m then some b.shape else none
def qH(l:List Bndg)(m:List (Nam×Shape)):List (Nam×Shape):=l.foldl (fun m b=>bP m ⟨b.pkg,b.name⟩ b.shape) m
def lV(l:List Bndg):List (Nam×Shape):=qH l []
def dV(m:List (Nam×Shape))(o n:Str):Option Shape:=cu m ⟨o,n⟩
theorem F5(k:Nam):∀(l:List Bndg)(m:List (Nam×Shape)),cu (qH l m) k=match aO l k.pkg k.name with|some s=>some s|none=>cu m k
 |[],m=>rfl
 |b::r,m=>by
  rw[qH,QV,<-qH,F5 k r,aO]
  cases aO r k.pkg k.name with
  |some s=>rfl
  |none=>
   rw[Mp];by_cases h:b.pkg=k.pkg/\b.name=k.name
   ·rw[O3 h,O3 (show k=⟨b.pkg,b.name⟩ by cases k;simp at h;rw[h.1,h.2])]
   ·rw[O0 h,O0 (fun e=>h (by rw[e];exact⟨rfl,rfl⟩))]
theorem Aj(l:List Bndg):dV (lV l)=aO l:=by funext o n;unfold dV lV;rw[F5];show(match aO l o n with|some s=>some s|none=>none)=_;cases aO l o n<;>rfl
mutual
def fillS(g:Str->Str->Option Shape):Shape->Option Shape
 |⟨k,o,m,ns,ps⟩=>if k=9 then g o m else(fillL g ps).map fun q=>⟨k,o,m,ns,q⟩
def fillL(g:Str->Str->Option Shape):List Shape->Option (List Shape)
 |[]=>some []
 |p::r=>match fillS g p with
  |none=>none
  |some q=>(fillL g r).map fun l=>q::l
end
theorem oW(g:Str->Str->Option Shape)(s:Shape):fillS g s=if s.kind=9 then g s.pkg s.name else(fillL g s.parts).map fun q=>⟨s.kind,s.pkg,s.name,s.names,q⟩:=by cases s;rw[fillS]
def aN(s:Shape)(l:List Bndg):Shape×Int:=
 if aG s=0 then
  match fillS (aO l) s with
  |none=>(aJ,110)
  |some q=>if aG q=0 then(bO q,0)else(aJ,aG q)
 else(aJ,aG s)
def Df(A:Option (List (Nam×Shape))->Nam->Shape->Ans):Pat:=fun args S=>
 match args,S with
 |[.ptr 900 0,k,v],(900,.box a)::r=>
  (match arg (.st .nm) k,arg (.st .shape) v with
  |some k,some v=>(match a,r with
   |.agg [.nilm],[]=>some (A none k v)
   |.map 901,[(901,.map (.st .nm) (.st .shape) m)]=>some (A (some m) k v)
   |_,_=>none)
  |_,_=>none)
 |_,_=>none
theorem Gr[Tabs]{P:Program}{f:Nat}{A:Option (List (Nam×Shape))->Nam->Shape->Ans}(he:Enters P f)
 (h0:∀k v,ak P f [.ptr 900 0,.st .nm k,.st .shape v] [(900,.box (.agg [.nilm]))] (A none k v))
 (h1:∀m k v,ak P f [.ptr 900 0,.st .nm k,.st .shape v] [(900,.box (.map 901)),(901,.map (.st .nm) (.st .shape) m)] (A (some m) k v)):ah P f (Df A):=by
 intro args S B hB ho _;unfold Df at hB;split at hB
 ·split at hB
  ·rename_i k v hk hv;split at hB
   ·cases hB;exact⟨he,ak.args (.cons (Rd.refl _) (.cons (Rd.arg hk) (.cons (Rd.arg hv) .nil))) (h0 _ _)⟩
   ·cases hB;exact⟨he,ak.args (.cons (Rd.refl _) (.cons (Rd.arg hk) (.cons (Rd.arg hv) .nil))) (h1 _ _ _)⟩
   ·cases hB
  ·cases hB
 ·cases hB
def Dg(A:Option (List (Nam×Shape))->Nam->Ans):Pat:=fun args S=>
 match args,S with
 |[.ptr 900 0,k],(900,.box a)::r=>
  (match arg (.st .nm) k with
  |some k=>(match a,r with
   |.agg [.nilm],[]=>some (A none k)
   |.map 901,[(901,.map (.st .nm) (.st .shape) m)]=>some (A (some m) k)
   |_,_=>none)
  |_=>none)
 |_,_=>none
theorem Gs[Tabs]{P:Program}{f:Nat}{A:Option (List (Nam×Shape))->Nam->Ans}(he:Enters P f)
 (h0:∀k,ak P f [.ptr 900 0,.st .nm k] [(900,.box (.agg [.nilm]))] (A none k))
 (h1:∀m k,ak P f [.ptr 900 0,.st .nm k] [(900,.box (.map 901)),(901,.map (.st .nm) (.st .shape) m)] (A (some m) k)):ah P f (Dg A):=by
 intro args S B hB ho _;unfold Dg at hB;split at hB
 ·split at hB
  ·rename_i k hk;split at hB
   ·cases hB;exact⟨he,ak.args (.cons (Rd.refl _) (.cons (Rd.arg hk) .nil)) (h0 _)⟩
   ·cases hB;exact⟨he,ak.args (.cons (Rd.refl _) (.cons (Rd.arg hk) .nil)) (h1 _ _)⟩
   ·cases hB
  ·cases hB
 ·cases hB
def oX(A:Option (List (Nam×Shape))->Shape->Ans):Pat:=fun args S=>
 match args,S with
 |[s,.ptr 900 0],(900,.box a)::r=>
  (match arg (.st .shape) s with
  |some s=>(match a,r with
   |.agg [.nilm],[]=>some (A none s)
   |.map 901,[(901,.map (.st .nm) (.st .shape) m)]=>some (A (some m) s)
   |_,_=>none)
  |_=>none)
 |_,_=>none
theorem tU[Tabs]{P:Program}{f:Nat}{A:Option (List (Nam×Shape))->Shape->Ans}(he:Enters P f)
 (h0:∀s,Wf (.st .shape) s->(∀q,(A none s).ob=some q->q)->ak P f [.st .shape s,.ptr 900 0] [(900,.box (.agg [.nilm]))] (A none s))
 (h1:∀m s,Wf (.st .shape) s->(∀q,(A (some m) s).ob=some q->q)->ak P f [.st .shape s,.ptr 900 0] [(900,.box (.map 901)),(901,.map (.st .nm) (.st .shape) m)] (A (some m) s)):ah P f (oX A):=by
 intro args S B hB ho _;unfold oX at hB;split at hB
 ·split at hB
  ·rename_i k hk;split at hB
   ·cases hB;exact⟨he,ak.args (.cons (Rd.arg hk) (.cons (Rd.refl _) .nil)) (ak.wf fun hw=>h0 _ hw.cons.1 ho)⟩
   ·cases hB;exact⟨he,ak.args (.cons (Rd.arg hk) (.cons (Rd.refl _) .nil)) (ak.wf fun hw=>h1 _ _ hw.cons.1 ho)⟩
   ·cases hB
  ·cases hB
 ·cases hB
def tV(A0:Ans)(A1:Bndg->List Bndg->Ans):Pat:=fun args S=>
 match args,S with
 |[a],[]=>(match arg (.lst (.st .bind)) a with|some []=>some A0|some (b::r)=>some (A1 b r)|none=>none)
 |_,_=>none
theorem Ak[Tabs]{P:Program}{f:Nat}{A0:Ans}{A1:Bndg->List Bndg->Ans}(he:Enters P f)
 (h0:ak P f [.lst (.st .bind) [] none] [] A0)(h1:∀b r,Wf (.lst (.st .bind)) (b::r)->ak P f [.lst (.st .bind) (b::r) none] [] (A1 b r)):ah P f (tV A0 A1):=by
 intro args S B hB ho _;unfold tV at hB;split at hB
 ·split at hB
  ·rename_i hk;cases hB;exact⟨he,ak.args (.cons (Rd.arg hk) .nil) h0⟩
  ·rename_i b r hk;cases hB;exact⟨he,ak.args (.cons (Rd.arg hk) .nil) (ak.wf fun hw=>h1 _ _ hw.one)⟩
  ·cases hB
 ·cases hB
end Go.Pd
end
section
namespace Go.Pd
open Go.AL
def ofK(k:Int):Shape:=⟨k,[],[],[],[]⟩
theorem qI(b:Bndg)(o m:Str):∀l:List Bndg,aO (l++[b]) o m=if b.pkg=o/\b.name=m then some b.shape else aO l o m
 |[]=>rfl
 |x::r=>by
  rw[OQ,aO,qI b o m r,aO];by_cases h:b.pkg=o/\b.name=m
  ·rw[O3 h,O3 h]
  ·rw[O0 h,O0 h]
theorem Al(l:List Bndg)(o m:Str)(d:Bndg){k:Nat}(h:k<l.length):aO (l.take (k+1)) o m=if(l.getD k d).pkg=o/\(l.getD k d).name=m then some (l.getD k d).shape else aO (l.take k) o m:=by
 have e:l.take (k+1)=l.take k++[l.getD k d]:=by rw[List.take_succ];simp[O4,h]
 rw[e,qI]
def eh(o m:Str):Shape:=⟨10,o,m,[],[]⟩
def fU(m:Str)(s:Shape):Bndg:=⟨[],m,s⟩
def cQ:Flt:=⟨0,0⟩
def aW(T:Trm->Envt->Shape×Flt)(p:Trm)(want:Shape)(env:Envt):Flt:=
 if(T p env).2.err=0/\oS (T p env).1 want=false then⟨140,p.pos⟩else(T p env).2
def fV(T:Trm->Envt->Shape×Flt)(env:Envt):List Trm->List Shape->Flt
 |p::r,w::q=>if(aW T p w env).err=0 then fV T env r q else aW T p w env
 |_,_=>cQ
def dm(T:Trm->Envt->Shape×Flt)(env:Envt)(w:Shape):List Trm->Flt
 |p::r=>if(aW T p w env).err=0 then dm T env w r else aW T p w env
 |[]=>cQ
def ar(l:List Bndg)(at_:Int):List Shape->List Shape×Flt
 |[]=>([],cQ)
 |s::r=>if(aN s l).2=0 then(if(ar l at_ r).2.err=0 then((aN s l).1::(ar l at_ r).1,cQ)else([],(ar l at_ r).2))else([],⟨(aN s l).2,at_⟩)
def dw(T:Trm->Envt->Shape×Flt)(env:Envt):List Trm->List Shape×(Shape×Flt)
 |[]=>([],(aJ,cQ))
 |p::r=>if(T p env).2.err=0 then((T p env).1::(dw T env r).1,(dw T env r).2)else([],T p env)
def fW(T:Trm->Envt->Shape×Flt)(t:Trm)(env:Envt):Shape×Flt:=
 let r:=T (t.parts.getD 0 aS) env
 if r.2.err=0 then
  if r.1.kind=4 then
   (if(dm T env (ofK 4) (t.parts.drop 1)).err=0 then(r.1,cQ)else(r.1,dm T env (ofK 4) (t.parts.drop 1)))
  else if r.1.kind=8/\r.1.parts.length=t.parts.length then
   (if(fV T env (t.parts.drop 1) r.1.parts).err=0 then(r.1.parts.getD (r.1.parts.length-1) aJ,cQ)else(r.1,fV T env (t.parts.drop 1) r.1.parts))
  else(r.1,⟨140,t.pos⟩)
 else r
def iJ(T:Trm->Envt->Shape×Flt)(t:Trm)(env:Envt):Shape×Flt:=
 let r:=T (t.parts.getD 0 aS) env
 if r.2.err=0 then
  if r.1.kind=4 then r
  else if r.1.kind=6/\(bT r.1 t.name).isSome=true then((bT r.1 t.name).getD aJ,cQ)
  else(r.1,⟨140,t.pos⟩)
 else r
def dL(l:List Bndg)(m:Str):Option Shape:=match l with
 |[]=>none
 |b::r=>match dL r m with
  |some s=>some s
  |none=>if b.name=m then some b.shape else none
def nP(T:Trm->Envt->Shape×Flt)(t:Trm)(env:Envt):Shape×Flt:=
 match dL env.own t.name with
 |none=>(aJ,⟨110,t.pos⟩)
 |some s=>if t.kind=17 then(bO s,aW T (t.parts.getD 0 aS) (eh env.self t.name) env)else(eh env.self t.name,aW T (t.parts.getD 0 aS) (bO s) env)
def gz(T:Trm->Envt->Shape×Flt)(env:Envt)(w:Shape):List Trm->List Str->List Shape->Flt
 |p::r,v::vs,s::ss=>if(aW T p w (cb env [fU v s])).err=0 then gz T env w r vs ss else aW T p w (cb env [fU v s])
 |_,_,_=>cQ
def gU:List Str->List Shape->List Bndg
 |m::r,s::q=>fU m s::gU r q
 |_,_=>[]
def cO(T:Trm->Envt->Shape×Flt)(t:Trm)(env:Envt):Shape×Flt:=
 let l:=ar env.types t.pos t.shapes
 if l.2.err=0 then
  if t.kind=6 then
   let r:=T (t.parts.getD 0 aS) (cb env (gU t.names l.1))
   (⟨8,[],[],[],l.1++[r.1]⟩,r.2)
  else if t.kind=11 then
   (if(dm T env (l.1.getD 0 aJ) t.parts).err=0 then(⟨5,[],[],[],l.1⟩,cQ)else(l.1.getD 0 aJ,dm T env (l.1.getD 0 aJ) t.parts))
  else if t.kind=15 then(l.1.getD 0 aJ,aW T (t.parts.getD 0 aS) (l.1.getD 0 aJ) env)
  else if t.kind=12 then
   (l.1.getD 0 aJ,
    if(aW T (t.parts.getD 0 aS) (ofK 2) env).err=0 then
     (if(aW T (t.parts.getD 1 aS) (l.1.getD 0 aJ) env).err=0 then aW T (t.parts.getD 2 aS) (l.1.getD 0 aJ) env else aW T (t.parts.getD 1 aS) (l.1.getD 0 aJ) env)
    else aW T (t.parts.getD 0 aS) (ofK 2) env)
  else
   (l.1.getD (l.1.length-1) aJ,
    if(aW T (t.parts.getD 0 aS) ⟨7,[],[],t.names,l.1.take (l.1.length-1)⟩ env).err=0 then gz T env (l.1.getD (l.1.length-1) aJ) (t.parts.drop 1) t.vars l.1
    else aW T (t.parts.getD 0 aS) ⟨7,[],[],t.names,l.1.take (l.1.length-1)⟩ env)
 else(aJ,l.2)
def bh(T:Trm->Envt->Shape×Flt)(t:Trm)(env:Envt):Shape×Flt:=
 if t.kind=1 then(ofK 1,cQ)
 else if t.kind=2 then(ofK 3,cQ)
 else if t.kind=3∨t.kind=4 then(ofK 2,cQ)
 else if t.kind=5 then
  match aO env.values t.pkg t.name with
  |some s=>(bO s,cQ)
  |none=>(aJ,⟨110,t.pos⟩)
 else if t.kind=7 then fW T t env
 else if t.kind=8 then
  (if(dw T env t.parts).2.2.err=0 then(⟨6,[],[],t.names,(dw T env t.parts).1⟩,cQ)else(dw T env t.parts).2)
 else if t.kind=9 then iJ T t env
 else if t.kind=10 then(⟨7,[],[],[t.name],[(T (t.parts.getD 0 aS) env).1]⟩,(T (t.parts.getD 0 aS) env).2)
 else if t.kind=14 then
  (if(T (t.parts.getD 0 aS) env).2.err=0 then T (t.parts.getD 1 aS) (cb env [fU t.name (T (t.parts.getD 0 aS) env).1])else T (t.parts.getD 0 aS) env)
 else if t.kind=16∨t.kind=17 then nP T t env
 else cO T t env
def kT(t:Trm)(r:Shape×Flt):Shape×Flt:=
 if r.2.err=0 then(if aG r.1=0 then(bO r.1,cQ)else(aJ,⟨aG r.1,t.pos⟩))else(aJ,r.2)
def ag:Nat->Trm->Envt->Shape×Flt
 |0,_,_=>(aJ,cQ)
 |n+1,t,env=>kT t (bh (ag n) t env)
def fI(t:Trm)(env:Envt):Shape×Flt:=if du t=0 then ag (szT t) t env else(aJ,⟨du t,0⟩)
theorem Gt{n:Nat}{t:Trm}{e:Envt}(h:(ag n t e).2.err=0):(ag n t e).1.names=[]∨(ag n t e).1.names.length=(ag n t e).1.parts.length:=by
 cases n with
 |zero=>exact .inl rfl
 |succ n=>
  rw[show ag (n+1) t e=kT t (bh (ag n) t e)from rfl]at h⊢;revert h;generalize bh (ag n) t e=r;intro h;unfold kT at h⊢;by_cases h1:r.2.err=0
  ·rw[O3 h1]at h⊢;by_cases h2:aG r.1=0
   ·rw[O3 h2];exact Je h2
   ·rw[O0 h2]at h;exact absurd h h2
  ·rw[O0 h1]at h;exact absurd h h1
theorem tW{t:Trm}{n j:Nat}(d:Trm)(hz:szT t<=n+1)(hf:allT ao t=true)(hj:j<t.parts.length) :
  szT (t.parts.getD j d)<=n/\allT ao (t.parts.getD j d)=true/\szT (t.parts.getD j d)+1<=szT t:=by
 have m:=AL.getD_mem t.parts j d hj;have h1:=jC m;have h2:=ji t;rw[allT_eq,NZ,allTL_all,O9]at hf;exact⟨by omega,hf.2 _ m,by omega⟩
theorem fX(l:List Bndg)(a:Int)(s:Shape)(r:List Shape):ar l a (s::r)=if(aN s l).2=0 then(if(ar l a r).2.err=0 then((aN s l).1::(ar l a r).1,cQ)else([],(ar l a r).2))else([],⟨(aN s l).2,a⟩):=rfl
theorem wv{l:List Bndg}{a:Int}:∀{s:List Shape},(ar l a s).2.err=0->ar l a s=((ar l a s).1,cQ)
 |[],_=>rfl
 |s::r,h=>by
  rw[fX]at h⊢;by_cases h1:(aN s l).2=0
  ·rw[O3 h1]at h⊢;by_cases h2:(ar l a r).2.err=0
   ·rw[O3 h2]
   ·rw[O0 h2]at h;exact absurd h h2
  ·rw[O0 h1]at h;exact absurd h h1
theorem Dh{l:List Bndg}{a:Int}:∀{s:List Shape},¬(ar l a s).2.err=0->ar l a s=([],(ar l a s).2)
 |[],h=>absurd rfl h
 |s::r,h=>by
  rw[fX]at h⊢;by_cases h1:(aN s l).2=0
  ·rw[O3 h1]at h⊢;by_cases h2:(ar l a r).2.err=0
   ·rw[O3 h2]at h;exact absurd rfl h
   ·rw[O0 h2]
  ·rw[O0 h1]
theorem tX(b:Bndg)(m:Str):∀l:List Bndg,dL (l++[b]) m=if b.name=m then some b.shape else dL l m
 |[]=>rfl
 |x::r=>by
  rw[OQ,dL,tX b m r,dL];by_cases h:b.name=m
  ·rw[O3 h,O3 h]
  ·rw[O0 h,O0 h]
theorem Di(l:List Bndg)(m:Str)(d:Bndg){k:Nat}(h:k<l.length):dL (l.take (k+1)) m=if(l.getD k d).name=m then some (l.getD k d).shape else dL (l.take k) m:=by
 have e:l.take (k+1)=l.take k++[l.getD k d]:=by rw[List.take_succ];simp[O4,h]
 rw[e,tX]
theorem mH{T:Trm->Envt->Shape×Flt}{t:Trm}{env:Envt}(h:dL env.own t.name=none):nP T t env=(aJ,⟨110,t.pos⟩):=by unfold nP;rw[h]
theorem mI{T:Trm->Envt->Shape×Flt}{t:Trm}{env:Envt}{s:Shape}(h:dL env.own t.name=some s):nP T t env=if t.kind=17 then(bO s,aW T (t.parts.getD 0 aS) (eh env.self t.name) env)else(eh env.self t.name,aW T (t.parts.getD 0 aS) (bO s) env):=by unfold nP;rw[h]
theorem Gu(e:Envt):cb e []=e:=by cases e;unfold cb;rw[P2]
theorem Am(e:Envt)(l r:List Bndg):cb (cb e l) r=cb e (l++r):=by unfold cb;rw[OE]
theorem tY{l:List Bndg}{a:Int}:∀{ss:List Shape},(ar l a ss).2.err=0->(ar l a ss).1.length=ss.length
 |[],_=>rfl
 |s::r,h=>by
  rw[fX]at h⊢;by_cases h1:(aN s l).2=0
  ·rw[O3 h1]at h⊢;by_cases h2:(ar l a r).2.err=0
   ·rw[O3 h2,O8,O8,tY h2]
   ·rw[O0 h2]at h;exact absurd h h2
  ·rw[O0 h1]at h;exact absurd h h1
theorem Gv{n:Nat}{t:Trm}{e:Envt}(h:(ag n t e).2.err=0):(ag n t e).2=cQ:=by
 cases n with
 |zero=>rfl
 |succ n=>
  rw[show ag (n+1) t e=kT t (bh (ag n) t e)from rfl]at h⊢;revert h;generalize bh (ag n) t e=r;intro h;unfold kT at h⊢;by_cases h1:r.2.err=0
  ·rw[O3 h1]at h⊢;by_cases h2:aG r.1=0
   ·rw[O3 h2]
   ·rw[O0 h2]at h;exact absurd h h2
  ·rw[O0 h1]at h;exact absurd h h1
theorem Gw{n:Nat}{t:Trm}{w:Shape}{e:Envt}(h:(aW (ag n) t w e).err=0):aW (ag n) t w e=cQ:=by
 unfold aW at h⊢;by_cases c:(ag n t e).2.err=0/\oS (ag n t e).1 w=false
 ·rw[O3 c]at h;exact absurd (show(140:Int)=0 from h) (by decide)
 ·rw[O0 c]at h⊢;exact Gv h
theorem Gx{c:Prop}[Decidable c]{a b:Bool}{P:Prop}(h:(if c then a else b)=true)(f:c->a=true->P)(g:¬c->b=true->P):P:=by
 by_cases k:c
 ·rw[O3 k]at h;exact f k h
 ·rw[O0 k]at h;exact g k h
structure RoomR(t:Trm):Prop where
 k6:t.kind=6->t.names.length<=4096/\t.shapes.length=t.names.length/\t.parts.length=1
 k7:t.kind=7->0<t.parts.length
 k1:t.kind=9∨t.kind=10∨t.kind=16∨t.kind=17->t.parts.length=1
 k11:t.kind=11->t.shapes.length=1
 k12:t.kind=12->t.shapes.length=1/\t.parts.length=3
 k13:t.kind=13->t.vars.length=t.names.length/\t.shapes.length=t.names.length+1/\t.parts.length=t.names.length+1
 k14:t.kind=14->t.parts.length=2
 k15:t.kind=15->t.shapes.length=1/\t.parts.length=1
 all:1<=t.kind/\t.kind<=17
theorem F6{t:Trm}(h:allT ao t=true):RoomR t:=by
 rw[allT_eq,NZ]at h;have h:=h.1;unfold ao at h;rw[NZ]at h;have hb:=h.2;unfold Ae dj at hb
 repeat' (refine Gx hb (fun hk hb=>?_) (fun hk hb=>?_))
 all_goals simp only[NZ,O1,P4]at hb
 all_goals (refine⟨?_,?_,?_,?_,?_,?_,?_,?_,?_⟩<;>intros<;>(repeat' apply And.intro)<;>omega)
theorem Ao(t:Trm):t.parts.length+1<=szT t:=by
 have h1:∀l:List Trm,l.length<=szTL l:=by
  intro l
  induction l with
  |nil=>exact Of _
  |cons a r ih=>rw[szTL];have:=hX a;simp;omega
 have:=h1 t.parts;have:=ji t;omega
theorem yf{t:Trm}{n v:Nat}(hz:szT t<=n+1)(hf:allT ao t=true)(hv:v+4096 *szT t<=100000000){j w:Nat}(d:Trm)(hj:j<t.parts.length)(hw:w<=v+4096) :
  szT (t.parts.getD j d)<=n/\allT ao (t.parts.getD j d)=true/\w+4096 *szT (t.parts.getD j d)<=100000000:=by
 have h:=tW d hz hf hj;exact⟨h.1,h.2.1,by omega⟩
theorem ndF{p:Prop}[Decidable p](h:(!decide p)=true):¬p:=by simpa using h
theorem ndT{p:Prop}[Decidable p](h:¬(!decide p)=true):p:=by simpa using h
end Go.Pd
end
section
namespace Go.Pd
open Go.AL
def Mq(k:Int)(j:Nat):Prop:=(j=0/\¬(k=1∨k=2∨k=3∨k=4∨k=5∨k=8∨k=11))∨(j=1/\(k=14∨k=12))∨(j=2/\k=12)
section Agree
variable {T U:Trm->Envt->Shape×Flt} {R:Envt->Envt->Prop} {Q:Trm->Prop}
variable (hT:∀p,Q p->∀e f,R e f->T p e=U p f) (hW:∀e f l,R e f->R (cb e l) (cb f l))
include hT
theorem dE{p:Trm}(hp:Q p){e f:Envt}(hr:R e f)(w:Shape):aW T p w e=aW U p w f:=by unfold aW;rw[hT p hp e f hr]
theorem qJ{e f:Envt}(hr:R e f):∀(ps:List Trm)(ws:List Shape),(∀p∈ps,Q p)->fV T e ps ws=fV U f ps ws
 |[],_,_=>by simp only[fV]
 |_::_,[],_=>by simp only[fV]
 |p::r,w::q,h=>by simp only[fV];rw[dE hT (h p (.head _)) hr w,qJ hr r q (fun x hx=>h x (.tail _ hx))]
theorem lW{e f:Envt}(hr:R e f)(w:Shape):∀(ps:List Trm),(∀p∈ps,Q p)->dm T e w ps=dm U f w ps
 |[],_=>rfl
 |p::r,h=>by simp only[dm];rw[dE hT (h p (.head _)) hr w,lW hr w r (fun x hx=>h x (.tail _ hx))]
theorem oY{e f:Envt}(hr:R e f):∀(ps:List Trm),(∀p∈ps,Q p)->dw T e ps=dw U f ps
 |[],_=>rfl
 |p::r,h=>by simp only[dw];rw[hT p (h p (.head _)) e f hr,oY hr r (fun x hx=>h x (.tail _ hx))]
include hW
theorem qK{e f:Envt}(hr:R e f)(w:Shape):∀(ps:List Trm)(vs:List Str)(ss:List Shape),(∀p∈ps,Q p)->gz T e w ps vs ss=gz U f w ps vs ss
 |[],_,_,_=>by simp only[gz]
 |_::_,[],_,_=>by simp only[gz]
 |_::_,_::_,[],_=>by simp only[gz]
 |p::r,v::vs,s::ss,h=>by simp only[gz];rw[dE hT (h p (.head _)) (hW e f [fU v s] hr) w,qK hr w r vs ss (fun x hx=>h x (.tail _ hx))]
theorem yg{t:Trm}{e f:Envt}(hq:∀j,Mq t.kind j->Q (t.parts.getD j aS))(hp:∀p∈t.parts,Q p)(hr:R e f)(e1:ar e.types t.pos t.shapes=ar f.types t.pos t.shapes)(hk:¬(t.kind=1∨t.kind=2∨t.kind=3∨t.kind=4∨t.kind=5∨t.kind=8)):cO T t e=cO U t f:=by
 have hd:∀p∈t.parts.drop 1,Q p:=fun p h=>hp p (List.mem_of_mem_drop h);unfold cO;rw[e1];refine Q6 rfl (fun _=>?_) fun _=>rfl;refine Q6 rfl (fun g=>?_) fun g6=>?_
 ·rw[hT _ (hq 0 (.inl ⟨rfl,by omega⟩)) _ _ (hW e f _ hr)]
 refine Q6 rfl (fun g=>?_) fun g11=>?_
 ·rw[lW hT hr _ _ hp]
 have h0:=hq 0 (.inl ⟨rfl,by omega⟩);refine Q6 rfl (fun g=>?_) fun g15=>?_
 ·rw[dE hT h0 hr]
 refine Q6 rfl (fun g=>?_) fun g12=>?_
 ·rw[dE hT h0 hr,dE hT (hq 1 (.inr (.inl ⟨rfl,.inr g⟩))) hr,dE hT (hq 2 (.inr (.inr ⟨rfl,g⟩))) hr]
 ·rw[dE hT h0 hr,qK hT hW hr _ _ _ _ hd]
theorem yh{t:Trm}{e f:Envt}(hq:∀j,Mq t.kind j->Q (t.parts.getD j aS))(hp:∀p∈t.parts,Q p)(hr:R e f)(e1:ar e.types t.pos t.shapes=ar f.types t.pos t.shapes)(e2:e.own=f.own)(e3:e.self=f.self)
 (h5:t.kind=5->aO e.values t.pkg t.name=aO f.values t.pkg t.name):bh T t e=bh U t f:=by
 have hd:∀p∈t.parts.drop 1,Q p:=fun p h=>hp p (List.mem_of_mem_drop h);unfold bh
 refine Q6 rfl (fun _=>rfl) fun n1=>Q6 rfl (fun _=>rfl) fun n2=>Q6 rfl (fun _=>rfl) fun n3=>Q6 rfl (fun g=>by rw[h5 g]) fun n5=>Q6 rfl (fun g=>?_) fun n7=>
  Q6 rfl (fun g=>?_) fun n8=>?_
 ·have h0:=hq 0 (.inl ⟨rfl,by omega⟩);unfold fW;simp only[hT _ h0 e f hr,lW hT hr _ _ hd,qJ hT hr _ _ hd]
 ·rw[oY hT hr _ hp]
 refine Q6 rfl (fun g=>?_) fun _=>Q6 rfl (fun g=>?_) fun _=>Q6 rfl (fun g=>?_) fun _=>Q6 rfl (fun g=>?_) fun _=>?_
 ·have h0:=hq 0 (.inl ⟨rfl,by omega⟩);unfold iJ;simp only[hT _ h0 e f hr]
 ·rw[hT _ (hq 0 (.inl ⟨rfl,by omega⟩)) e f hr]
 ·rw[hT _ (hq 0 (.inl ⟨rfl,by omega⟩)) e f hr,hT _ (hq 1 (.inr (.inl ⟨rfl,.inl g⟩))) _ _ (hW e f _ hr)]
 ·have k0:=fun w=>dE hT (hq 0 (.inl ⟨rfl,by omega⟩)) hr w
  cases g:dL e.own t.name with|none=>rw[mH g,mH (by rw[<-e2];exact g)]|some s=>rw[mI g,mI (by rw[<-e2];exact g),k0,k0,e3]
 ·exact yg hT hW hq hp hr e1 (by omega)
end Agree
theorem gV(o m:Str)(r:List Bndg):∀l:List Bndg,aO (l++r) o m=match aO r o m with|some s=>some s|none=>aO l o m
 |[]=>by rw[Pn];cases aO r o m<;>rfl
 |x::l=>by rw[OQ,aO,gV o m r l,aO];cases aO r o m<;>rfl
end Go.Pd
end
section
namespace Go.Pd
open Go.AL
abbrev SR3:=Shape×Int×Flt
end Go.Pd
end
section
namespace Go.Pd
open Go.AL
abbrev st(l:List Tokn)(a:Int):PS:=⟨l,a,0,0⟩
variable {l:List Tokn}
section
variable {l:List Tokn} {R:PS->Shape×PS} {R':Int->SR3}
end
end Go.Pd
end
section
namespace Go.Pd
open Go.AL
mutual
def fe:Trm->Int->Int
 |⟨_,_,_,_,_,_,_,ps,_⟩,m=>sizeTL ps 1 m
def sizeTL:List Trm->Int->Int->Int
 |[],n,_=>n
 |p::r,n,m=>if n<=m then sizeTL r (n+fe p (m-n)) m else n
end
mutual
def deepT:Trm->Nat
 |⟨_,_,_,_,_,_,_,ps,_⟩=>maxDT ps+1
def maxDT:List Trm->Nat
 |[]=>0
 |p::r=>max (deepT p) (maxDT r)
end
mutual
theorem sizeT_bd:∀(s:Trm)(m:Int),0<=m->1<=fe s m/\fe s m<=m+1
 |⟨_,_,_,_,_,_,_,ps,_⟩,m,h=>by simp only[fe];exact sizeTL_bd ps 1 m (by omega) (by omega)
theorem sizeTL_bd:∀(l:List Trm)(n m:Int),1<=n->n<=m+1->1<=sizeTL l n m/\sizeTL l n m<=m+1
 |[],n,m,h1,h2=>by simp only[sizeTL];omega
 |p::r,n,m,h1,h2=>by
  simp only[sizeTL];split
  ·have:=sizeT_bd p (m-n) (by omega);exact sizeTL_bd r _ m (by omega) (by omega)
  ·omega
end
mutual
theorem countT_size:∀(s:Trm)(m:Int),0<=m->(countT s m).1=min (szT s:Int) (m+1)
 |⟨_,_,_,_,_,_,_,ps,_⟩,m,h=>by simp only[countT,szT];rw[countL_size ps m 1 0 (by omega)];omega
theorem countL_size:∀(l:List Trm)(m n d:Int),n<=m+1->(countL l m n d).1=min (n+szTL l) (m+1)
 |[],m,n,d,h=>by simp only[countL,szTL];omega
 |p::r,m,n,d,h=>by
  simp only[countL,szTL];have:=hX p;split
  ·show n=_;omega
  ·rw[countL_size r m _ _ (by rw[countT_size p (m-n) (by omega)];omega),countT_size p (m-n) (by omega)];omega
end
mutual
theorem countT_deep:∀(s:Trm)(m:Int),(szT s:Int)<=m->(countT s m).2=deepT s
 |⟨_,_,_,_,_,_,_,ps,_⟩,m,h=>by simp only[szT]at h;simp only[countT,deepT];rw[countL_deep ps m 1 0 (by omega) (by omega)];omega
theorem countL_deep:∀(l:List Trm)(m n d:Int),n+szTL l<=m->0<=d->(countL l m n d).2=max d (maxDT l)
 |[],m,n,d,h,h0=>by simp only[countL,maxDT];omega
 |p::r,m,n,d,h,h0=>by
  simp only[szTL]at h;simp only[countL,maxDT];rw[O0 (by omega)];have e1:(countT p (m-n)).1=szT p:=by rw[countT_size p (m-n) (by omega)];omega
  rw[countL_deep r m _ _ (by rw[e1];omega) (by omega),countT_deep p (m-n) (by omega)];omega
end
end Go.Pd
end
section
namespace Go.Pd
open Go.AL
mutual
def bareT:Trm->Trm
 |⟨k,g,n,z,ns,vs,ss,ps,_⟩=>⟨k,g,n,z,ns,vs,ss,bareTL ps,0⟩
def bareTL:List Trm->List Trm
 |[]=>[]
 |p::r=>bareT p::bareTL r
end
theorem Dj{t:Trm}(ht:du t=0):allT ao t=true:=by
 unfold du at ht;by_cases a:4096<(countT t 4096).1
 ·rw[O3 a]at ht;exact absurd ht (by decide)
 rw[O0 a]at ht;by_cases b:40<(countT t 4096).2
 ·rw[O3 b]at ht;exact absurd ht (by decide)
 rw[O0 b]at ht;by_cases c:allT ao t=true
 ·exact c
 ·rw[O0 c]at ht;exact absurd ht (by decide)
theorem Dk{t:Trm}(h:du t=0):szT t<=4096/\deepT t<=40:=by
 unfold du at h;by_cases a:4096<(countT t 4096).1
 ·rw[O3 a]at h;exact absurd h (by decide)
 rw[O0 a]at h;rw[countT_size t 4096 (by omega)]at a;by_cases b:40<(countT t 4096).2
 ·rw[O3 b]at h;exact absurd h (by decide)
 rw[countT_deep t 4096 (by omega)]at b;omega
end Go.Pd
end
section
namespace Go.Pd
open Go.AL
def zapF(f:Flt):Flt:=⟨f.err,0⟩
def zapR(r:Shape×Flt):Shape×Flt:=(r.1,zapF r.2)
section Bare
variable {T:Trm->Envt->Shape×Flt} (hT:∀p e,T (bareT p) e=zapR (T p e))
include hT
end Bare
section Bare2
variable {T:Trm->Envt->Shape×Flt} (hT:∀p e,T (bareT p) e=zapR (T p e))
include hT
end Bare2
end Go.Pd
end
section
namespace Go.Pd
open Go.AL
def nQ(t:Trm):Bool:=allT (fun x=>decide (x.name.length<=2000000)&&decide (x.names.length<=2000000)) t
end Go.Pd
end
section
namespace Go.Pd
open Go.AL
def noS(s:Shape):Bool:=decide (s.kind=0)&&decide (s.pkg=[])&&decide (s.name=[])&&decide (s.names.length+s.parts.length=0)
def noT(t:Trm):Bool:=decide (t.kind=0)&&decide (t.pkg=[])&&decide (t.name=[])&&decide (t.n=0)&&decide (t.pos=0)&&decide (t.names.length+t.vars.length+t.shapes.length+t.parts.length=0)
def KU:Shape:=⟨0,[],[],[],[]⟩
def l7:List Str:=[[73,110,116],[66,111,111,108],[84,101,120,116],[65,110,121]]
def mS(x:Impt):Bool:=aX x.name&&decide (ed x.pin=0)&&decide (mR x.range=0)&&dU x.pin x.range&&decide (0<=x.pos)
def gH(d:Dcl):Bool:=
 if d.kind=1∨d.kind=2 then eG d.name&&decide (aG d.shape=0)&&allS aP d.shape&&noT d.term
 else if d.kind=3 then aX d.name&&decide (du d.term=0)&&noS d.shape else false
def lX(d:Dcl):Bool:=gH d&&decide (0<=d.pos)
def lY(s:Str):Bool:=aX s||eG s
def qL(m:Modu):Bool:=aX m.name&&decide (m.imports.length<=8)&&decide (m.exports.length<=60)&&decide (0<=m.pos)
def Lk(m:Modu):List Str:=m.name::m.imports.map (·.name)
def MR(m:Modu):List Str:=l7++m.decls.map (·.name)
def okM(m:Modu):Bool:=qL m&&(m.imports.all mS&&(m.decls.all lX&&(m.exports.all lY&&(decide (Lk m).Nodup&&decide (MR m).Nodup&&decide m.exports.Nodup))))
def bq(m:Modu):Int:=if okM m=true then 0 else 100
def Ll(d:Dcl):Bool:=decide (d.shape.names.length<=17592186044416)&&(decide (d.shape.parts.length<=17592186044416)&&(decide (d.term.names.length<=17592186044416)&&(decide (d.term.vars.length<=17592186044416)&&(decide (d.term.shapes.length<=17592186044416)&&decide (d.term.parts.length<=17592186044416)))))
theorem Ap{d:Dcl}:Ll d=true↔d.shape.names.length<=17592186044416/\d.shape.parts.length<=17592186044416/\d.term.names.length<=17592186044416/\d.term.vars.length<=17592186044416/\d.term.shapes.length<=17592186044416/\d.term.parts.length<=17592186044416:=by unfold Ll;simp only[NZ,O1]
def cP(d:Dcl):Bool:=(nQ d.term&&cd d.term)&&Ll d
theorem nR{d:Dcl}:cP d=true↔(nQ d.term=true/\cd d.term=true)/\Ll d=true:=by unfold cP;simp only[NZ]
theorem Aq{d:Dcl}(h:cP d=true):nQ d.term=true/\cd d.term=true:=(nR.1 h).1
theorem Jf{d:Dcl}(h:cP d=true):d.shape.names.length<=17592186044416/\d.shape.parts.length<=17592186044416/\d.term.names.length<=17592186044416/\d.term.vars.length<=17592186044416/\d.term.shapes.length<=17592186044416/\d.term.parts.length<=17592186044416:=Ap.1 (nR.1 h).2
theorem Dl{m:Modu}(h:okM m=false):(100:Int)=bq m:=by unfold bq;rw[h];rfl
theorem Ar{m:Modu}(h:okM m=true):(0:Int)=bq m:=by unfold bq;rw[h];rfl
theorem As{m:Modu}(h:qL m=false):okM m=false:=by unfold okM;rw[h,Oq]
theorem Dm{m:Modu}(h:m.imports.all mS=false):okM m=false:=by unfold okM;rw[h,Oq,P7]
theorem Dn{m:Modu}(h:m.decls.all lX=false):okM m=false:=by unfold okM;rw[h,Oq,P7,P7]
theorem Dp{m:Modu}(h:m.exports.all lY=false):okM m=false:=by unfold okM;rw[h,Oq,P7,P7,P7]
theorem MS{m:Modu}(h1:qL m=true)(h2:m.imports.all mS=true)(h3:m.decls.all lX=true)(h4:m.exports.all lY=true) :
  okM m=(decide (Lk m).Nodup&&decide (MR m).Nodup&&decide m.exports.Nodup):=by unfold okM;rw[h1,h2,h3,h4];rfl
theorem Au{m:Modu}:qL m=true↔aX m.name=true/\m.imports.length<=8/\m.exports.length<=60/\0<=m.pos:=by unfold qL;simp only[NZ,O1,and_assoc]
theorem F7{x:Impt}:mS x=true↔aX x.name=true/\ed x.pin=0/\mR x.range=0/\dU x.pin x.range=true/\0<=x.pos:=by unfold mS;simp only[NZ,O1,and_assoc]
theorem F8{d:Dcl}:lX d=true↔gH d=true/\0<=d.pos:=by unfold lX;simp only[NZ,O1]
theorem yi{s:Str}:lY s=true↔aX s=true∨eG s=true:=by unfold lY;rw[OS]
theorem Jg{l:List Bnd}(h:mR l=0):∀b∈l,b.v.pre.length<=24:=by
 unfold mR at h;split at h
 ·exact absurd h (by decide)
 ·split at h
  ·rename_i h2;intro b hb;have:=O9.1 h2 b hb;unfold lU at this;rw[NZ,O1,O1]at this;exact tR this.2
  ·exact absurd h (by decide)
theorem ndN{p:Prop}[Decidable p](h:(!decide p)=true):¬p:=by intro e;rw[Xd e]at h;exact absurd h (by decide)
theorem ndP{p:Prop}[Decidable p](h:¬(!decide p)=true):p:=by refine Decidable.not_not.1 fun e=>h ?_;rw[Xf e];rfl
theorem nbN{b:Bool}(h:(!b)=true):¬b=true:=by intro e;rw[e]at h;exact absurd h (by decide)
theorem nbP{b:Bool}(h:¬(!b)=true):b=true:=by cases b with|true=>rfl|false=>exact absurd rfl h
theorem bF{b:Bool}(h:¬b=true):b=false:=by cases b with|true=>exact absurd rfl h|false=>rfl
end Go.Pd
end
noncomputable section
namespace Go.Pd
open Go Go.AL
def ltU(a b:Nam):Bool:=decide (a.pkg<b.pkg)||(decide (a.pkg=b.pkg)&&decide (a.name<b.name))
mutual
def useS:Shape->List Nam
 |⟨k,p,n,_,ps⟩=>(if k=9/\p≠[]then[⟨p,n⟩]else[])++useSL ps
def useSL:List Shape->List Nam
 |[]=>[]
 |p::r=>useS p++useSL r
end
mutual
def useT:Trm->List Nam
 |⟨k,g,q,_,_,_,ss,ps,_⟩=>(if k=5/\g≠[]then[⟨g,q⟩]else[])++(useSL ss++useTL ps)
def useTL:List Trm->List Nam
 |[]=>[]
 |p::r=>useT p++useTL r
end
theorem Lm(s:Shape):useS s=(if s.kind=9/\s.pkg≠[]then[⟨s.pkg,s.name⟩]else[])++useSL s.parts:=by cases s;rw[useS]
theorem mJ(t:Trm):useT t=(if t.kind=5/\t.pkg≠[]then[⟨t.pkg,t.name⟩]else[])++(useSL t.shapes++useTL t.parts):=by cases t;rw[useT]
theorem pW:∀a b:List Shape,useSL (a++b)=useSL a++useSL b
 |[],b=>by rw[useSL];rfl
 |x::a,b=>by rw[OQ,useSL,useSL,pW a b,OE]
theorem pX:∀a b:List Trm,useTL (a++b)=useTL a++useTL b
 |[],b=>by rw[useTL];rfl
 |x::a,b=>by rw[OQ,useTL,useTL,pX a b,OE]
def Dq(m:List (Nam×Int))(u:Nam):List (Nam×Int):=bP m u (IntKind.i64.wrap ((cu m u).getD 0+1))
def aL(m:List (Nam×Int))(l:List Nam):List (Nam×Int):=l.foldl Dq m
theorem iD(m:List (Nam×Int))(a b:List Nam):aL m (a++b)=aL (aL m a) b:=List.foldl_append
def mT:List Nam->Nam->List Nam
 |[],u=>[u]
 |x::r,u=>if ltU x u=true then x::mT r u else if x=u then x::r else u::x::r
def tZ(l:List Nam)(us:List Nam):List Nam:=us.foldl mT l
def Av(l:List Nam):Prop:=l.Pairwise fun a b=>ltU a b=true
theorem kU(a:Nam):ltU a a=false:=by unfold ltU;simp[List.lt_irrefl]
theorem nU{a b c:Nam}(h:ltU a b=true)(k:ltU b c=true):ltU a c=true:=by
 unfold ltU at *
 simp only[OS,NZ,O1]at *
 rcases h with h|⟨h1,h2⟩<;>rcases k with k|⟨k1,k2⟩
 ·exact .inl (List.lt_trans h k)
 ·exact .inl (k1 ▸ h)
 ·exact .inl (h1 ▸ k)
 ·exact .inr ⟨h1.trans k1,List.lt_trans h2 k2⟩
theorem mK(a b:Nam):ltU a b=true∨a=b∨ltU b a=true:=by
 unfold ltU;simp only[OS,NZ,O1];rcases Ra a.pkg b.pkg with h|h
 all_goals
  by_cases e:a.pkg=b.pkg
  ·rcases Ra a.name b.name with k|k<;>by_cases f:a.name=b.name
   ·right;left;cases a;cases b;simp_all
   ·left;right;exact⟨e,PK fun q=>f (Qd k (Rh.1 q))⟩
   ·right;left;cases a;cases b;simp_all
   ·right;right;right;exact⟨e.symm,PK fun q=>f (Qd (Rh.1 q) k)⟩
 ·left;left;exact PK fun q=>e (Qd h (Rh.1 q))
 ·right;right;left;exact PK fun q=>e (Qd (Rh.1 q) h)
theorem u9(u v:Nam):∀l:List Nam,v∈mT l u↔v∈l∨v=u
 |[]=>by simp[mT]
 |x::r=>by
  unfold mT;split
  ·rw[O7,u9 u v r,O7];exact or_assoc.symm
  ·split
   ·rename_i _ e;subst e;rw[O7];exact⟨.inl,fun h=>h.elim id .inl⟩
   ·rw[O7];exact Or.comm
theorem Aw(u:Nam):∀{l:List Nam},Av l->Av (mT l u)
 |[],_=>List.pairwise_singleton _ _
 |x::r,h=>by
  have h1:=Pm.1 h;unfold mT;split
  ·rename_i k;refine Pm.2 ⟨fun y hy=>?_,Aw u h1.2⟩;rcases(u9 u y r).1 hy with q|rfl
   ·exact h1.1 y q
   ·exact k
  ·rename_i k;split
   ·exact h
   ·rename_i e
    have k2:ltU u x=true:=by
     rcases mK x u with q|q|q
     ·exact absurd q k
     ·exact absurd q e
     ·exact q
    refine Pm.2 ⟨fun y hy=>?_,h⟩;rcases O7.1 hy with rfl|q
    ·exact k2
    ·exact nU k2 (h1.1 y q)
theorem wx:∀(us:List Nam) {l:List Nam},Av l->Av (tZ l us)
 |[],_,h=>h
 |u::r,_,h=>wx r (Aw u h)
theorem pY(v:Nam):∀(us l:List Nam),v∈tZ l us↔v∈l∨v∈us
 |[],l=>by simp[tZ]
 |u::r,l=>by show v∈tZ (mT l u) r↔_;rw[pY v r,u9,O7];exact or_assoc
theorem wy(m:List (Nam×Int))(u v:Nam)(n:Int):v∈(bP m u n).map (·.1)↔v∈m.map (·.1)∨v=u:=by
 induction m with
 |nil=>simp[bP]
 |cons x r ih=>
  obtain⟨a,c⟩:=x;unfold bP;split
  ·rename_i e;subst e;simp only[OJ,O7];exact⟨fun h=>h.elim .inr (fun q=>.inl (.inr q)),fun h=>h.elim id .inl⟩
  ·simp only[OJ,O7,ih];exact or_assoc.symm
theorem wz(v:Nam):∀(us:List Nam)(m:List (Nam×Int)),v∈(aL m us).map (·.1)↔v∈m.map (·.1)∨v∈us
 |[],m=>by simp[aL]
 |u::r,m=>by show v∈(aL (Dq m u) r).map (·.1)↔_;rw[wz v r,Dq,wy,O7];exact or_assoc
theorem yj:∀{a b:List Nam},Av a->Av b->(∀v,v∈a↔v∈b)->a=b
 |[],[],_,_,_=>rfl
 |[],y::_,_,_,h=>nomatch (h y).2 (Ox ..)
 |x::_,[],_,_,h=>nomatch (h x).1 (Ox ..)
 |x::r,y::s,ha,hb,h=>by
  have a1:=Pm.1 ha;have b1:=Pm.1 hb
  have e:x=y:=by
   rcases O7.1 ((h x).1 (Ox ..))with q|q
   ·exact q
   ·rcases O7.1 ((h y).2 (Ox ..))with p|p
    ·exact p.symm
    ·have:=nU (a1.1 y p) (b1.1 x q);rw[kU]at this;cases this
  subst e;rw[yj a1.2 b1.2 fun v=>?_];have n1:x∉r:=fun q=>by have:=a1.1 x q;rw[kU]at this;cases this
  have n2:x∉s:=fun q=>by have:=b1.1 x q;rw[kU]at this;cases this
  refine⟨fun q=>?_,fun q=>?_⟩
  ·rcases O7.1 ((h v).1 (Og _ q))with e|p
   ·subst e;exact absurd q n1
   ·exact p
  ·rcases O7.1 ((h v).2 (Og _ q))with e|p
   ·subst e;exact absurd q n2
   ·exact p
def leU(a b:Nam):Bool:=!ltU b a
def gA(l:List Nam):List Nam:=l.mergeSort leU
theorem wA{l:List Nam}(h:l.Nodup):Av (gA l):=by
 have h1:(gA l).Pairwise fun a b=>leU a b=true:=QB (fun a b c p q=>by
  unfold leU at *
  rw[Oa]at *
  rcases PQ (ltU c a)with k|k
  ·rcases mK a b with t|t|t
   ·rw[nU k t]at q;cases q
   ·subst t;rw[k]at q;cases q
   ·rw[t]at p;cases p
  ·exact k) (fun a b=>by
  unfold leU;rcases mK a b with t|t|t
  ·have:ltU b a=false:=by
    rcases PQ (ltU b a)with k|k
    ·have:=nU t k;rw[kU]at this;cases this
    ·exact k
   rw[this];rfl
  ·subst t;rw[kU];rfl
  ·have:ltU a b=false:=by
    rcases PQ (ltU a b)with k|k
    ·have:=nU t k;rw[kU]at this;cases this
    ·exact k
   rw[this];cases ltU b a<;>rfl) l
 have h2:(gA l).Nodup:=(Qw l leU).nodup_iff.2 h;refine List.Pairwise.imp (fun{a b} q=>?_) (h1.and h2);obtain⟨q1,q2⟩:=q;rcases mK a b with t|t|t
 ·exact t
 ·exact absurd t q2
 ·unfold leU at q1;rw[t]at q1;cases q1
theorem Jh(us:List Nam)(h:((aL [] us).map (·.1)).Nodup):gA ((aL [] us).map (·.1))=tZ [] us:=
 yj (wA h) (wx us List.Pairwise.nil) fun v=>by rw[gA,Qh,wz,pY];simp
end Go.Pd
end
section
namespace Go.Pd
open Go.AL
def szI:List AL.Item->Nat
 |[]=>0
 |x::r=>max (sz x.shape) (szI r)
theorem yk:∀(l:List AL.Item)(x:AL.Item),x∈l->sz x.shape<=szI l
 |a::r,x,h=>by
  simp only[szI];rcases O7.1 h with rfl|h
  ·exact Qo _ _
  ·exact OT (yk r x h) (Qf _ _)
end Go.Pd
end
noncomputable section
namespace Go.Pd
open Go Go.AL
def isU:List Nam->Str->Str->Bool
 |[],_,_=>false
 | x::r,g,q=>(decide (x.pkg=g)&&decide (x.name=q))||isU r g q
def Ln(g:Str)(us:List Nam):List AL.Item->List AL.Item
 |[]=>[]
 |x::r=>if isU us g x.name then x::Ln g us r else Ln g us r
theorem Ji(g:Str)(us:List Nam):∀a:List AL.Item,(Ln g us a).length<=a.length
 |[]=>Od _
 |c::r=>by have:=Ji g us r;rw[Ln];split<;>simp only[O8]<;>omega
def rn:List AL.Item->Int->Int×Bool
 |[],n=>(n,true)
 |x::r,n=>if 4000<n+(20+sizeF x.shape 800)then(n,false)else rn r (n+(20+sizeF x.shape 800))
def iE:List Depd->Int->Int->Bool
 |[],_,_=>true
 |d::r,n,i=>if 20<=i then false else if(rn d.items n).2 then iE r (rn d.items n).1 (i+1)else false
def kf:List AL.Item->List AL.Item->Bool
 |[],[]=>true
 |x::r,y::q=>(decide (x.kind=y.kind)&&(decide (x.name=y.name)&&eqS x.shape y.shape))&&kf r q
 |_,_=>false
theorem wB:∀l:List AL.Item,kf l l=true
 |[]=>rfl
 |x::r=>by rw[kf,wB r,Xd rfl,Xd rfl,eqS_refl x.shape];rfl
theorem Ax:∀{a b:List AL.Item},a.length≠b.length->kf a b=false
 |[],[],h=>absurd rfl h
 |[],_::_,_=>rfl
 |_::_,[],_=>rfl
 |x::r,y::q,h=>by rw[kf,Ax (a:=r) (b:=q) (fun e=>h (by simp[e])),P7]
def Dr(l:List Depd)(i k:Nat)(n:Int):Bool:=if(rn ((l.getD i (dfl (.st .dep))).items.drop k) n).2 then iE (l.drop (i+1)) (rn ((l.getD i (dfl (.st .dep))).items.drop k) n).1 (i+1)else false
def szD:List Depd->Nat
 |[]=>0
 |d::r=>max (szI d.items) (szD r)
theorem Jj:∀(l:List Depd)(d:Depd),d∈l->∀x∈d.items,sz x.shape<=szD l
 |d::r,e,h,x,hx=>by
  rw[szD];rcases O7.1 h with rfl|h
  ·exact OT (yk _ x hx) (Qo _ _)
  ·exact OT (Jj r e h x hx) (Qf _ _)
def nmU(s:Shape):Bool:=decide (s.names.length<=1048576)&&decide (s.parts.length<=1048576)
end Go.Pd
end
section
namespace Go.Proofs.YtlhofbjllomgiaaGreatDoor.Join
open Go.AL Go.AL.Seat Go.Pd Go.ChangeShapes Go.WideShapes Go.RowKit Go.Lib Go.Shelf
set_option maxRecDepth 1000000
theorem yl:ShapeAt Tryz.prog 47:=⟨_,_,_,_,_,9,Tryz.underlying47,by kernel_rfl,⟨rfl,rfl,rfl,rfl,rfl⟩,⟨by kernel_rfl,by kernel_rfl,by kernel_rfl,by kernel_rfl,by kernel_rfl⟩,by kernel_rfl,by kernel_rfl,by kernel_rfl,by kernel_rfl,by kernel_rfl,by kernel_rfl,by kernel_rfl⟩
def F9(P:Program)(t:TypeId):Bool:=match P.underlying t with
 |some (.struct fs)=>fs.toList.all fun f=>match P.underlying f.type with
  |some (.slice e)=>decide (16<=P.bytesOf e)
  |_=>true
 |_=>true
theorem Lo{P:Program}{t:TypeId}(h:F9 P t=true):D7 P t:=by intro fs i f e h1 h2 h3;unfold F9 at h;rw[h1]at h;have:=O9.1 h f (Ot (by rw[Oh];exact h2));simp only[h3]at this;exact Xo this
theorem Lp:ItemAtQ Tryz.prog 49:=⟨_,_,_,Tryz.underlying49,by kernel_rfl,⟨rfl,rfl,rfl⟩,⟨by kernel_rfl,by kernel_rfl,by kernel_rfl⟩,by kernel_rfl,by kernel_rfl,yl,Lo (by kernel_rfl)⟩
theorem NK:DepAt Tryz.prog 43:=⟨_,_,49,Tryz.underlying43,by kernel_rfl,⟨rfl,rfl⟩,⟨by kernel_rfl,by kernel_rfl⟩,by kernel_rfl,by kernel_rfl,Lp,Xo (by kernel_rfl)⟩
theorem NL:Tryz.prog.underlying 27=some (.slice 43):=by kernel_rfl
theorem MT:Tryz.prog.readableRec 27=true:=by kernel_rfl
theorem MU:TermAt Tryz.prog 63:=⟨_,_,_,_,_,_,_,_,_,9,47,Tryz.underlying63,by kernel_rfl,⟨rfl,rfl,rfl,rfl,rfl,rfl,rfl,rfl,rfl⟩,⟨by kernel_rfl,by kernel_rfl,by kernel_rfl,by kernel_rfl,by kernel_rfl,by kernel_rfl,by kernel_rfl,by kernel_rfl,by kernel_rfl⟩,
 ⟨by kernel_rfl,by kernel_rfl,by kernel_rfl,by kernel_rfl,by kernel_rfl,by kernel_rfl,by kernel_rfl,by kernel_rfl,by kernel_rfl⟩,⟨by kernel_rfl,by kernel_rfl,by kernel_rfl⟩,yl⟩
theorem ua{P:Program}{t:TypeId}(h:F9 P t=true):lS P t:=by intro fs i f e h1 h2 h3;unfold F9 at h;rw[h1]at h;have:=O9.1 h f (Ot (by rw[Oh];exact h2));simp only[h3]at this;exact Xo this
theorem NM:Tryz.prog.readableRec 26=true:=by kernel_rfl
theorem ub:∀(n:Nat)(s:Trm),szT s<=n->allT (jL 1048576 1048576) s=true->cd s=true/\nQ s=true
 |0,s,h,_=>by have:=hX s;omega
 |n+1,s,h,ha=>by
  rw[allT_eq,NZ,allTL_all,O9]at ha;have hb:=ha.1;unfold jL at hb;rw[NZ,O1,O1]at hb;have hp:∀x∈s.parts,cd x=true/\nQ x=true:=fun x hx=>by have h1:=jC hx;have h2:=ji s;exact ub n x (by omega) (ha.2 x hx)
  unfold cd nQ at hp⊢;rw[allT_eq,allT_eq,NZ,NZ,allTL_all,allTL_all,O9,O9];refine⟨⟨Xd (by omega),fun x hx=>(hp x hx).1⟩,?_,fun x hx=>(hp x hx).2⟩;rw[Xd (show s.name.length<=2000000 by omega),Xd (show s.names.length<=2000000 by omega)];rfl
theorem Ay{d:Dcl}(h:allT (jL 1048576 1048576) d.term=true/\Ag 1048576 d):cP d=true:=by obtain⟨h1,h2⟩:=ub _ _ (Od _) h.1;obtain⟨a,b,c,e,f,k⟩:=h.2;exact nR.2 ⟨⟨h2,h1⟩,Ap.2 ⟨by omega,by omega,by omega,by omega,by omega,by omega⟩⟩
theorem Jk:VersAt Tryz.prog 38:=⟨_,_,_,_,Tryz.underlying38,by kernel_rfl,⟨rfl,rfl,rfl,rfl⟩,⟨by kernel_rfl,by kernel_rfl,by kernel_rfl,by kernel_rfl⟩,by kernel_rfl,by kernel_rfl,by kernel_rfl,by kernel_rfl⟩
theorem NN:BndAt Tryz.prog 59:=⟨_,_,Tryz.underlying59,by kernel_rfl,⟨rfl,rfl⟩,⟨by kernel_rfl,by kernel_rfl⟩,by kernel_rfl,Jk⟩
theorem NO:ImpAt Tryz.prog 41:=⟨_,_,_,_,59,Tryz.underlying41,by kernel_rfl,⟨rfl,rfl,rfl,rfl⟩,⟨by kernel_rfl,by kernel_rfl,by kernel_rfl,by kernel_rfl⟩,by kernel_rfl,Jk,by kernel_rfl,by kernel_rfl,NN⟩
theorem NP:DclAt Tryz.prog 65:=⟨_,_,_,_,_,Tryz.underlying65,by kernel_rfl,⟨rfl,rfl,rfl,rfl,rfl⟩,⟨by kernel_rfl,by kernel_rfl,by kernel_rfl,by kernel_rfl,by kernel_rfl⟩,by kernel_rfl,by kernel_rfl,⟨yl,ua (by kernel_rfl)⟩,⟨MU,ua (by kernel_rfl)⟩,by kernel_rfl⟩
theorem MV:ModuAt Tryz.prog 26:=⟨_,_,_,_,_,41,65,9,Tryz.underlying26,by kernel_rfl,⟨rfl,rfl,rfl,rfl,rfl⟩,⟨by kernel_rfl,by kernel_rfl,by kernel_rfl,by kernel_rfl,by kernel_rfl⟩,by kernel_rfl,by kernel_rfl,by kernel_rfl,by kernel_rfl,by kernel_rfl,NO,NP,by kernel_rfl,by kernel_rfl⟩
theorem Jl:lS Tryz.prog 26:=ua (by kernel_rfl)
variable {H:Type}
theorem Jm(d:DataW H):1<=Rows.uptoBulk d:=by
 cases d with
 |lit l=>cases l<;>(unfold Rows.uptoBulk;omega)
 |_=>unfold Rows.uptoBulk;omega
theorem Az:∀l:List (DataW H),l.length<=Rows.uptoBulkAll l
 |[]=>Of _
 |d::r=>by have:=Az r;have:=Jm d;unfold Rows.uptoBulkAll;rw[O8];omega
theorem oZ{d:DataW H}:∀{l:List (DataW H)},d∈l->Rows.uptoBulk d<=Rows.uptoBulkAll l
 |x::r,h=>by
  unfold Rows.uptoBulkAll;rcases O7.1 h with rfl|h
  ·omega
  ·have:=oZ h;omega
theorem wC(P:Program):GoodR (H:=H) P 1048576 1048576 (fun _ d=>Rows.uptoBulk d<=1048576) where
 str t s ht h:=by unfold Rows.uptoBulk at h;omega
 len t e es sp ht h h16:=by have:=Az es;unfold Rows.uptoBulk at h;omega
 el t e es sp ht h x hx:=by have:=oZ hx;unfold Rows.uptoBulk at h;omega
 part t fs ps ht h i f p hf hp:=by have:=oZ (Ot hp);unfold Rows.uptoBulk at h;omega
theorem AA{ds:List (DataW H)}(h:Rows.uptoSmall H ds=true){d:DataW H}(hd:d∈ds):Rows.uptoBulk d<=1048576:=by have:=oZ hd;have:=Xo h;omega
end Go.Proofs.YtlhofbjllomgiaaGreatDoor.Join
end
noncomputable section
namespace Go.AL
def evN{α:Type}(n:Nat)(k:Nat->α):α:=match n with|0=>k 0|m+1=>k (m+1)
def evI{α:Type}(n:Int)(k:Int->α):α:=match n with|.ofNat m=>evN m fun m=>k (.ofNat m)|.negSucc m=>evN m fun m=>k (.negSucc m)
def evL{α β:Type}:List β->(List β->α)->α
 |[],k=>k []
 |a::r,k=>evL r fun r=>k (a::r)
theorem bu{α:Type}(n:Nat)(k:Nat->α):evN n k=k n:=by cases n<;>rfl
theorem Ds{α:Type}(n:Int)(k:Int->α):evI n k=k n:=by cases n<;>(unfold evI;exact bu _ _)
theorem fx{α β:Type}:∀(l:List β)(k:List β->α),evL l k=k l
 |[],_=>rfl
 |a::r,k=>by rw[evL,fx r]
mutual
def evV{α:Type}:AV->(AV->α)->α
 |.int κ n,k=>evI n fun n=>k (.int κ n)
 |.bool true,k=>k (.bool true)
 |.bool false,k=>k (.bool false)
 |.str s,k=>evL s fun s=>k (.str s)
 |.lst τ xs none,k=>evL xs fun xs=>k (.lst τ xs none)
 |.lst τ xs (some i),k=>evL xs fun xs=>k (.lst τ xs (some i))
 |.row τ xs,k=>evL xs fun xs=>k (.row τ xs)
 |.arr i n w,k=>evN n fun n=>k (.arr i n w)
 |.aptr i n w o,k=>evN n fun n=>evN o fun o=>k (.aptr i n w o)
 |.cptr c,k=>evV c fun c=>k (.cptr c)
 |.agg cs,k=>evVs cs fun cs=>k (.agg cs)
 |.tup cs,k=>evVs cs fun cs=>k (.tup cs)
 |.fn f cs,k=>evVs cs fun cs=>k (.fn f cs)
 |.iface t a,k=>evV a fun a=>k (.iface t a)
 |.lstp τ xs i,k=>evL xs fun xs=>k (.lstp τ xs i)
 |.glst s n i,k=>evN s fun s=>evN n fun n=>k (.glst s n i)
 |.gptr i s n w o,k=>evN s fun s=>evN n fun n=>evN w fun w=>evN o fun o=>k (.gptr i s n w o)
 |.gsuf i s n w o,k=>evN s fun s=>evN n fun n=>evN w fun w=>evN o fun o=>k (.gsuf i s n w o)
 |.undef,k=>k .undef
 |.nils,k=>k .nils
 |.ptr i o,k=>k (.ptr i o)
 |.nilp,k=>k .nilp
 |.st n x,k=>k (.st n x)
 |.map i,k=>k (.map i)
 |.bptr i,k=>k (.bptr i)
 |.nilif,k=>k .nilif
 |.nilm,k=>k .nilm
 |.pt n x,k=>k (.pt n x)
 |.tptr τ n i,k=>k (.tptr τ n i)
def evVs{α:Type}:List AV->(List AV->α)->α
 |[],k=>k []
 |a::r,k=>evV a fun a=>evVs r fun r=>k (a::r)
end
mutual
theorem evV_eq{α:Type}:∀(a:AV)(k:AV->α),evV a k=k a
 |.int κ n,k=>by rw[evV,Ds]
 |.bool true,k=>rfl
 |.bool false,k=>rfl
 |.str s,k=>by rw[evV,fx]
 |.lst τ xs none,k=>by rw[evV,fx]
 |.lst τ xs (some i),k=>by rw[evV,fx]
 |.row τ xs,k=>by rw[evV,fx]
 |.arr i n w,k=>by rw[evV,bu]
 |.aptr i n w o,k=>by rw[evV,bu,bu]
 |.cptr c,k=>by rw[evV,evV_eq c]
 |.agg cs,k=>by rw[evV,evVs_eq cs]
 |.tup cs,k=>by rw[evV,evVs_eq cs]
 |.fn f cs,k=>by rw[evV,evVs_eq cs]
 |.iface t a,k=>by rw[evV,evV_eq a]
 |.lstp τ xs i,k=>by rw[evV,fx]
 |.glst _ _ _,k=>by rw[evV,bu,bu]
 |.gptr _ _ _ _ _,k=>by rw[evV,bu,bu,bu,bu]
 |.gsuf _ _ _ _ _,k=>by rw[evV,bu,bu,bu,bu]
 |.undef,k=>rfl
 |.nils,k=>rfl
 |.ptr _ _,k=>rfl
 |.nilp,k=>rfl
 |.st _ _,k=>rfl
 |.map _,k=>rfl
 |.bptr _,k=>rfl
 |.nilif,k=>rfl
 |.nilm,k=>rfl
 |.pt _ _,k=>rfl
 |.tptr _ _ _,k=>rfl
theorem evVs_eq{α:Type}:∀(l:List AV)(k:List AV->α),evVs l k=k l
 |[],k=>rfl
 |a::r,k=>by rw[evVs,evV_eq a,evVs_eq r]
end
def evA{α:Type}(a:AV)(k:AV->α):α:=
 match a with
 |.int κ n=>evI n fun n=>k (.int κ n)
 |.bool b=>(match b with|true=>k (.bool true)|false=>k (.bool false))
 |.str s=>evL s fun s=>k (.str s)
 |.lst τ xs o=>evL xs fun xs=>(match o with|none=>k (.lst τ xs none)|some i=>k (.lst τ xs (some i)))
 |.row τ xs=>evL xs fun xs=>k (.row τ xs)
 |.arr i n w=>evN n fun n=>k (.arr i n w)
 |.aptr i n w o=>evN n fun n=>evN o fun o=>k (.aptr i n w o)
 |.ptr i o=>evN o fun o=>k (.ptr i o)
 |.cptr c=>evV c fun c=>k (.cptr c)
 |.agg cs=>evVs cs fun cs=>k (.agg cs)
 |.tup cs=>evVs cs fun cs=>k (.tup cs)
 |.fn f cs=>evVs cs fun cs=>k (.fn f cs)
 |.iface t a=>evV a fun a=>k (.iface t a)
 |.lstp τ xs i=>evL xs fun xs=>k (.lstp τ xs i)
 |.glst s n i=>evN s fun s=>evN n fun n=>k (.glst s n i)
 |.gptr i s n w o=>evN s fun s=>evN n fun n=>evN w fun w=>evN o fun o=>k (.gptr i s n w o)
 |.gsuf i s n w o=>evN s fun s=>evN n fun n=>evN w fun w=>evN o fun o=>k (.gsuf i s n w o)
 |a=>k a
theorem MW{α:Type}(a:AV)(k:AV->α):evA a k=k a:=by
 unfold evA;split
 ·exact Ds _ _
 ·split<;>rfl
 ·exact fx _ _
 ·rw[fx];split<;>rfl
 ·exact fx _ _
 ·exact bu _ _
 ·rw[bu,bu]
 ·exact bu _ _
 ·exact evV_eq _ _
 ·exact evVs_eq _ _
 ·exact evVs_eq _ _
 ·exact evVs_eq _ _
 ·exact evV_eq _ _
 ·exact fx _ _
 ·rw[bu,bu]
 ·rw[bu,bu,bu,bu]
 ·rw[bu,bu,bu,bu]
 ·rfl
mutual
def evW{α:Type}:AV->(AV->α)->α
 |.int κ n,k=>evI n fun n=>k (.int κ n)
 |.bool true,k=>k (.bool true)
 |.bool false,k=>k (.bool false)
 |.lst τ xs none,k=>k (.lst τ xs none)
 |.lst τ xs (some i),k=>k (.lst τ xs (some i))
 |.row τ xs,k=>evL xs fun xs=>k (.row τ xs)
 |.arr i n w,k=>evN n fun n=>k (.arr i n w)
 |.aptr i n w o,k=>evN n fun n=>evN o fun o=>k (.aptr i n w o)
 |.cptr c,k=>evW c fun c=>k (.cptr c)
 |.agg cs,k=>evWs cs fun cs=>k (.agg cs)
 |.tup cs,k=>evWs cs fun cs=>k (.tup cs)
 |.fn f cs,k=>evWs cs fun cs=>k (.fn f cs)
 |.iface t a,k=>evW a fun a=>k (.iface t a)
 |.lstp τ xs i,k=>evL xs fun xs=>k (.lstp τ xs i)
 |.glst s n i,k=>evN s fun s=>evN n fun n=>k (.glst s n i)
 |.gptr i s n w o,k=>evN s fun s=>evN n fun n=>evN w fun w=>evN o fun o=>k (.gptr i s n w o)
 |.gsuf i s n w o,k=>evN s fun s=>evN n fun n=>evN w fun w=>evN o fun o=>k (.gsuf i s n w o)
 |.str s,k=>k (.str s)
 |.undef,k=>k .undef
 |.nils,k=>k .nils
 |.ptr i o,k=>evN o fun o=>k (.ptr i o)
 |.nilp,k=>k .nilp
 |.st n x,k=>k (.st n x)
 |.map i,k=>k (.map i)
 |.bptr i,k=>k (.bptr i)
 |.nilif,k=>k .nilif
 |.nilm,k=>k .nilm
 |.pt n x,k=>k (.pt n x)
 |.tptr τ n i,k=>k (.tptr τ n i)
def evWs{α:Type}:List AV->(List AV->α)->α
 |[],k=>k []
 |a::r,k=>evW a fun a=>evWs r fun r=>k (a::r)
end
mutual
theorem evW_eq{α:Type}:∀(a:AV)(k:AV->α),evW a k=k a
 |.int κ n,k=>by rw[evW,Ds]
 |.bool true,k=>rfl
 |.bool false,k=>rfl
 |.str s,k=>rfl
 |.lst τ xs none,k=>rfl
 |.lst τ xs (some i),k=>rfl
 |.row τ xs,k=>by rw[evW,fx]
 |.arr i n w,k=>by rw[evW,bu]
 |.aptr i n w o,k=>by rw[evW,bu,bu]
 |.cptr c,k=>by rw[evW,evW_eq c]
 |.agg cs,k=>by rw[evW,evWs_eq cs]
 |.tup cs,k=>by rw[evW,evWs_eq cs]
 |.fn f cs,k=>by rw[evW,evWs_eq cs]
 |.iface t a,k=>by rw[evW,evW_eq a]
 |.lstp τ xs i,k=>by rw[evW,fx]
 |.glst _ _ _,k=>by rw[evW,bu,bu]
 |.gptr _ _ _ _ _,k=>by rw[evW,bu,bu,bu,bu]
 |.gsuf _ _ _ _ _,k=>by rw[evW,bu,bu,bu,bu]
 |.undef,k=>rfl
 |.nils,k=>rfl
 |.ptr _ o,k=>by rw[evW,bu]
 |.nilp,k=>rfl
 |.st _ _,k=>rfl
 |.map _,k=>rfl
 |.bptr _,k=>rfl
 |.nilif,k=>rfl
 |.nilm,k=>rfl
 |.pt _ _,k=>rfl
 |.tptr _ _ _,k=>rfl
theorem evWs_eq{α:Type}:∀(l:List AV)(k:List AV->α),evWs l k=k l
 |[],k=>rfl
 |a::r,k=>by rw[evWs,evW_eq a,evWs_eq r]
end
def Lq:Op->Bool
 |.load _ _=>true
 |.move _=>true
 |_=>false
def evQ{α:Type}(o:Oper)(a:AV)(k:AV->α):α:=match Lq o.op with|true=>evW a k|false=>evA a k
theorem MX{α:Type}(o:Oper)(a:AV)(k:AV->α):evQ o a k=k a:=by
 unfold evQ;split
 ·exact evW_eq _ _
 ·exact MW _ _
def evO{α:Type}:SObj->(SObj->α)->α
 |.box c,k=>evW c fun c=>k (.box c)
 |.tail τ n,k=>evN n fun n=>k (.tail τ n)
 |.map κ τ m,k=>evL m fun m=>k (.map κ τ m)
 |.bld t u l,k=>evL l fun l=>k (.bld t u l)
 |.tailp τ n x,k=>evN n fun n=>k (.tailp τ n x)
 |.grow τ s xs,k=>evN s fun s=>evL xs fun xs=>k (.grow τ s xs)
theorem MY{α:Type}(o:SObj)(k:SObj->α):evO o k=k o:=by
 cases o with|box c=>exact evW_eq _ _|tail τ n=>unfold evO;exact bu _ _|map κ τ m=>exact fx _ _|bld t u l=>exact fx _ _|tailp τ n x=>unfold evO;exact bu _ _|grow τ s xs=>show evN s (fun s=>evL xs fun xs=>k (.grow τ s xs))=_;rw[bu,fx]
def evB{α:Type}:List (Nat×SObj)->(List (Nat×SObj)->α)->α
 |[],k=>k []
 |(i,o)::r,k=>evO o fun o=>evB r fun r=>k ((i,o)::r)
theorem ym{α:Type}:∀(l:List (Nat×SObj))(k:List (Nat×SObj)->α),evB l k=k l
 |[],k=>rfl
 |(i,o)::r,k=>by rw[evB,MY,ym r]
def evS{α:Type}(s:St)(k:St->α):α:=evL s.t fun t=>evB s.b fun b=>k ⟨t,b⟩
theorem Jn{α:Type}(s:St)(k:St->α):evS s k=k s:=by rw[evS,fx,ym]
theorem Gy{ob:Option DP}{q:Prop}(h:okO ob=true)(hq:q):sf ob q:=by
 cases ob with|none=>exact hq|some d=>exact⟨d.h h,hq⟩
def Fa{α:Sort _}(ops:List Oper)(o:Oper)(T:Nat->AV)(bad:α)(on off:Unit->α):α:=
 match o.guard with
 |none=>on ()
 |some (j,want)=>
  match(nth ops j).bind (·.dst)with
  |none=>bad
  |some d=>
   match T d with
   |.bool true=>if want then on ()else off ()
   |.bool false=>if want then off ()else on ()
   |.tup []=>off ()
   |_=>bad
theorem Dt{α:Type}{ops:List Oper}{o:Oper}{T:Nat->AV}{y:α}{on off:Unit->Option α}{on' off':Unit->Prop}(hon:on ()=some y->on' ())(hoff:off ()=some y->off' ())
 (h:Fa ops o T none on off=some y):Fa ops o T False on' off':=by
 unfold Fa at h⊢
 cases hg:o.guard with
 |none=>simp only[hg]at h⊢;exact hon h
 |some p=>
  obtain⟨j,want⟩:=p;simp only[hg]at h⊢
  cases hd:(nth ops j).bind (·.dst)with
  |none=>simp only[hd]at h;cases h
  |some d=>
   simp only[hd]at h⊢;generalize T d=v at h⊢;split at h
   ·split at h
    ·rename_i hw;exact(O3 hw).symm ▸ hon h
    ·rename_i hw;exact(O0 hw).symm ▸ hoff h
   ·split at h
    ·rename_i hw;exact(O3 hw).symm ▸ hoff h
    ·rename_i hw;exact(O0 hw).symm ▸ hon h
   ·exact hoff h
   ·cases h
def gdB(ops:List Oper)(g:Bool)(i:Nat):Bool:=match g with|true=>gh ops i|false=>false
def Jo(ops:List Oper):Bool:=ops.any fun o=>o.guard.isSome
theorem MZ(ops:List Oper)(i:Nat):gdB ops (Jo ops) i=gh ops i:=by
 unfold gdB
 cases h:Jo ops with
 |true=>rfl
 |false=>
  show false=gh ops i;symm;unfold Jo at h;rw[List.any_eq_false]at h;unfold gh;rw[List.any_eq_false];intro o ho;have:=h o ho
  cases hg:o.guard with|none=>simp|some x=>rw[hg]at this;exact absurd rfl this
def AB(C:Cfg)(ops:List Oper)(g:Bool):List Oper->Nat->St->List bN->Option (St×List bN)
 |[],_,s,fs=>some (s,fs.reverse)
 |o::r,i,s,fs=>
  Fa ops o (aZ s.t) none
   (fun _=>
    match au C o (aZ s.t) (aj s.b)with
    |none=>none
    |some e=>
     match okO e.ob,cn C o (aZ s.t) (aj s.b)with
     |true,none=>
      (match gdB ops g i,e.val with
      |true,.bool b=>(match b with
       |true=>AB C ops g r (i+1) ⟨sd s.t o.dst (.bool true),cr s.b e.upd⟩ ((aF C o (aZ s.t) (aj s.b),e.upd.map (·.1))::fs)
       |false=>AB C ops g r (i+1) ⟨sd s.t o.dst (.bool false),cr s.b e.upd⟩ ((aF C o (aZ s.t) (aj s.b),e.upd.map (·.1))::fs))
      |true,_=>none
      |false,v=>evQ o v fun v=>AB C ops g r (i+1) ⟨sd s.t o.dst v,cr s.b e.upd⟩ ((aF C o (aZ s.t) (aj s.b),e.upd.map (·.1))::fs))
     |_,_=>none)
   (fun _=>AB C ops g r (i+1) ⟨sd s.t o.dst (.tup []),s.b⟩ (([],[])::fs))
theorem Fb{C:Cfg}{ops:List Oper}{draw:Bool}{kp:AV->St->Prop}{k:St->List bN->Prop}{s':St}{fs':List bN}(hk:k s' fs') :
  ∀(l:List Oper)(i:Nat)(s:St)(fs:List bN),AB C ops (Jo ops) l i s fs=some (s',fs')->bR C ops draw kp l i s fs k
 |[],_,s,fs,h=>by simp only[AB,Xs,Qu]at h;obtain⟨rfl,rfl⟩:=h;exact hk
 |o::r,i,s,fs,h=>by
  have ih:=Fb (C:=C) (ops:=ops) (draw:=draw) (kp:=kp) hk r;rw[AB,MZ]at h
  refine Dt (on':=fun _=>
   match au C o (aZ s.t) (aj s.b)with
   |none=>False
   |some e=>
    sf e.ob
    (match cn C o (aZ s.t) (aj s.b)with
    |none=>
     (match gh ops i,e.val with
     |true,.bool b=>
      sp b (bR C ops draw kp r (i+1) (s.put o.dst {e with val:=.bool true}) ((aF C o (aZ s.t) (aj s.b),e.upd.map (·.1))::fs) k)
       (bR C ops draw kp r (i+1) (s.put o.dst {e with val:=.bool false}) ((aF C o (aZ s.t) (aj s.b),e.upd.map (·.1))::fs) k)
     |true,_=>False
     |false,_=>bR C ops draw kp r (i+1) (s.put o.dst e) ((aF C o (aZ s.t) (aj s.b),e.upd.map (·.1))::fs) k)
    |some (b,pv,u)=>
     (match gh ops i with
     |true=>False
     |false=>sp b (xp C ops draw kp r i s fs (aF C o (aZ s.t) (aj s.b),e.upd.map (·.1)) pv u) (bR C ops draw kp r (i+1) (s.put o.dst e) ((aF C o (aZ s.t) (aj s.b),e.upd.map (·.1))::fs) k))))
   (off':=fun _=>bR C ops draw kp r (i+1) ⟨sd s.t o.dst (.tup []),s.b⟩ (([],[])::fs) k) ?_ (fun h=>ih _ _ _ h) h
  intro h;split at h
  ·cases h
  ·rename_i e he;split at h
   ·rename_i ho hp;refine Gy ho ?_
    try simp only[hp]
    split at h
    ·rename_i b hg hv
     try simp only[hg,hv]
     split at h
     ·exact ih _ _ _ h
     ·exact ih _ _ _ h
    ·cases h
    ·rename_i v hg;simp only[MX]at h
     try simp only[hg]
     exact ih _ _ _ h
   ·cases h
def Lr(ops:List Oper)(i j:Nat):Bool:=((fw ops).getD j 0).testBit i
def nr:Nat->List bN->List (Nat×bN)
 |_,[]=>[]
 |i,f::r=>match f with|([],[])=>nr (i+1) r|f=>(i,f)::nr (i+1) r
def Ls(ops:List Oper)(i j:Nat):Bool:=match nth ops i,nth ops j with|some x,some y=>pr x y|_,_=>false
def pZ(ops:List Oper):List (Nat×bN)->Bool
 |[]=>true
 | x::r=>r.all (fun p=>Lr ops x.1 p.1||(dQ x.2 p.2||Ls ops x.1 p.1))&&pZ ops r
def Fc(ops:List Oper):Bool:=
 ((List.range ops.length).all fun j=>(List.range j).all fun i=>Lr ops i j||(match nth ops i,nth ops j with | some x,some y=>gi ops x y | _,_=>false))&&
 (ops.zipIdx.all fun(o,j)=>o.after.all fun e=>!Region.binds .any e||Nat.blt e.on j)
def Du(ops:List Oper)(fs:List bN):Bool:=Fc ops&&ga fs ops.length&&pZ ops (nr 0 fs)
theorem uc{α:Type}:∀{l:List α} {i:Nat},i<l.length->∃x,nth l i=some x
 |a::_,0,_=>⟨a,rfl⟩
 |_::r,i+1,h=>uc (l:=r) (Nat.lt_of_succ_lt_succ h)
theorem wD:∀{fs:List bN} {i0 k:Nat} {f:bN},nth fs k=some f->f≠([],[])->(i0+k,f)∈nr i0 fs
 |g::r,i0,0,f,h,hf=>by
  cases h;unfold nr;split
  ·exact absurd rfl hf
  ·exact Ox ..
 |g::r,i0,k+1,f,h,hf=>by
  have ih:=wD (fs:=r) (i0:=i0+1) (k:=k) h hf;rw[show i0+(k+1)=i0+1+k by omega];unfold nr;split
  ·exact ih
  ·exact Og _ ih
theorem qM{ops:List Oper}:∀{fs:List bN} {i0 a b:Nat} {f g:bN},pZ ops (nr i0 fs)=true->a<b->nth fs a=some f->nth fs b=some g->f≠([],[])->g≠([],[])->(Lr ops (i0+a) (i0+b)||(dQ f g||Ls ops (i0+a) (i0+b)))=true
 |x::r,i0,0,b+1,f,g,h,_,hf,hg,h1,h2=>by
  cases hf;have hm:=wD (fs:=r) (i0:=i0+1) (k:=b) hg h2;unfold nr at h;split at h
  ·exact absurd rfl h1
  ·unfold pZ at h;rw[NZ,O9]at h;have:=h.1 _ hm
   rwa [show i0+1+b=i0+(b+1) by omega]at this
 |x::r,i0,a+1,b+1,f,g,h,hab,hf,hg,h1,h2=>by
  have hr:pZ ops (nr (i0+1) r)=true:=by
   unfold nr at h;split at h
   ·exact h
   ·unfold pZ at h;rw[NZ]at h;exact h.2
  have:=qM (fs:=r) (i0:=i0+1) (a:=a) (b:=b) hr (by omega) hf hg h1 h2
  rwa [show i0+1+a=i0+(a+1) by omega,show i0+1+b=i0+(b+1) by omega]at this
theorem Dv(g:bN):dQ ([],[]) g=true:=by unfold dQ sh;simp
theorem AD(f:bN):dQ f ([],[])=true:=by unfold dQ sh;simp
theorem p7{α:Type}:∀{l:List α} {n:Nat},ga l n=true->l.length=n
 |[],0,_=>rfl
 |_::r,n+1,h=>by rw[O8,p7 (l:=r) h]
theorem Gz{ops:List Oper}{fs:List bN}(h:Du ops fs=true):dB ops fs=true:=by
 unfold Du Fc at h;simp only[NZ,O9,Py]at h;obtain⟨⟨⟨h1,h2⟩,h3⟩,h4⟩:=h;have hl:=p7 h3;unfold dB;rw[NZ];refine⟨?_,by rw[O9];intro p hp;have:=h2 p hp;exact(by obtain⟨o,j⟩:=p;simpa using this)⟩;rw[O9];intro j hj;rw[O9];intro i hi;rw[Py]at hj hi;have k:=h1 j hj i hi;rw[OS]at k⊢;rcases k with k|k
 ·exact .inl k
 obtain⟨x,hx⟩:=uc (l:=ops) (i:=i) (by omega);obtain⟨y,hy⟩:=uc (l:=ops) (i:=j) hj;obtain⟨f,hf⟩:=uc (l:=fs) (i:=i) (by omega);obtain⟨g,hg⟩:=uc (l:=fs) (i:=j) (by omega);rw[hx,hy]at k;rw[hx,hy,hf,hg]
 have q:Lr ops i j=true∨(dQ f g||Ls ops i j)=true:=by
  by_cases c1:f=([],[])
  ·rw[c1];exact .inr (by rw[Dv g];rfl)
  ·by_cases c2:g=([],[])
   ·rw[c2];exact .inr (by rw[AD f];rfl)
   ·have:=qM h4 hi hf hg c1 c2;rw[P0,P0,OS]at this;exact this
 rcases q with q|q
 ·exact .inl q
 ·unfold Ls at q;rw[hx,hy]at q;exact .inr (by rw[NZ];exact⟨k,q⟩)
end Go.AL
end
noncomputable section
namespace Go.AL
variable [Tabs]
def Jp:List (Nat×SObj)->Nat->Nat
 |[],m=>m *1000+998
 |(i,_)::r,m=>Jp r (match Nat.ble m (i/1000)with|true=>i/1000+1|false=>m)
def yn:List Nat->St->Option St
 |[],s=>some s
 |i::r,s=>(match Ij i (Jp s.b 100) s with|some s=>yn r s|none=>none)
theorem p8{F:Fr}{a:Act}:∀(l:List Nat) {s s':St} {Ω:Om},Holds F s.abs a Ω->yn l s=some s'->∃Ω',Ω'.w=Ω.w/\Holds F s'.abs a Ω'
 |[],s,s',Ω,h,hr=>by cases hr;exact⟨Ω,rfl,h⟩
 |i::r,s,s',Ω,h,hr=>by
  unfold yn at hr;split at hr
  ·rename_i s1 h1;obtain⟨Ω1,e1,g1⟩:=nE h h1;obtain⟨Ω2,e2,g2⟩:=p8 r g1 hr;exact⟨Ω2,e2.trans e1,g2⟩
  ·cases hr
def Dw(ops:List Oper)(s:St):Option St:=
 match enter ops s with
 |some s'=>some s'
 |none=>(match yn ((s.b.map (·.1)).filter fun i=>EI (sl ops) (xq ops) i&&!bd i) s with|some s'=>enter ops s'|none=>none)
theorem yo{F:Fr}{ops:List Oper}{s s':St}{a:Act}{Ω:Om}(h:Holds F s.abs a Ω)(he:Dw ops s=some s'):∃Ω',Ω'.w=Ω.w/\Holds F s'.abs a Ω':=by
 unfold Dw at he;split at he
 ·rename_i s1 h1;cases he;exact lI h h1
 ·split at he
  ·rename_i s1 h1;obtain⟨Ω1,e1,g1⟩:=p8 _ h h1;obtain⟨Ω2,e2,g2⟩:=lI g1 he;exact⟨Ω2,e2.trans e1,g2⟩
  ·cases he
end Go.AL
end
noncomputable section
namespace Go.AL
def Jq(k:Nat)(s:St):Option St:=
 match aj s.b k with
 |some (.tailp τ n x)=>
  if((s.t.flatMap (fun y=>lensV k y.2)++s.b.flatMap (fun y=>Mk k y.2)).all fun m=>Nat.beq m n)=true then
   some ⟨s.t.map fun y=>(y.1,finV k τ x y.2),(r8 s.b k (.tail τ (n+1))).map fun y=>(y.1,FA k τ x y.2)⟩else none
 |_=>some s
def Fe:List Nat->St->Option St
 |[],s=>some s
 |k::r,s=>(match Jq k s with|some s=>Fe r s|none=>none)
theorem wE{n:Nat}{q:Prop}(hq:q):∀l:List Nat,(l.all fun m=>Nat.beq m n)=true->xt n l q
 |[],_=>hq
 |m::r,h=>by rw[P6,NZ]at h;exact⟨On h.1,wE hq r h.2⟩
theorem Jr{k:Nat}{s s':St}{Q:St->Prop}(h:Jq k s=some s')(hq:Q s'):Co k s Q:=by
 unfold Jq at h;unfold Co;generalize hb:aj s.b k=b at h⊢
 cases b with
 |none=>cases h;exact hq
 |some o=>
  cases o with
  |tailp τ n x=>
   dsimp only at h⊢;split at h
   ·rename_i ha;cases h;exact wE hq _ ha
   ·cases h
  |_=>cases h;exact hq
theorem AE{Q:St->Prop}{s':St}(hq:Q s'):∀(l:List Nat)(s:St),Fe l s=some s'->Cp l s Q
 |[],s,h=>by cases h;exact hq
 |k::r,s,h=>by
  unfold Fe at h;split at h
  ·rename_i s1 h1;exact Jr h1 (AE hq r s1 h)
  ·cases h
def trimM(keep:Nat)(s:St):St:=⟨s.t.filter fun x=>Nat.beq (Nat.land (Nat.shiftRight keep x.1) 1) 1,s.b⟩
def N1(C:Cfg)(keep:Nat)(ops:Array Oper)(draw:Bool)(s:St):Option St:=
 match AB C ops.toList (Jo ops.toList) ops.toList 0 s []with
 |none=>none
 |some (s,fs)=>
  match Fe (rG s.b) s with
  |none=>none
  |some s=>
   match draw with
   |false=>evS (trimM keep s) some
   |true=>(match Du ops.toList fs with|true=>evS (trimM keep s) some|false=>none)
theorem Holds.trimM[Tabs]{F:Fr}{s:St}{a:Act}{Ω:Om}(h:Holds F s.abs a Ω)(keep:Nat):Holds F (trimM keep s).abs a Ω:=by
 refine⟨fun i=>?_,h.size,h.defers,h.slots,h.dom,h.inj,h.pubok,h.keep,h.frame⟩;have e:(AL.trimM keep s).abs.T i=if Nat.beq (Nat.land (Nat.shiftRight keep i) 1) 1=true then aZ s.t i else .undef:=jz s.t (fun i=>Nat.beq (Nat.land (Nat.shiftRight keep i) 1) 1) i
 rw[e];split
 ·exact h.tmps i
 ·exact .undef _
theorem Dx[Tabs]{P:Program}{C:Cfg}{F:Fr}(hm:P.follows .mixedOrders=true)(hT:aR P C.tbl)(hS:bJ P C.spec){keep:Nat}{id:Nat}{ops:Array Oper}{draw:Bool}{s s':St}{a:Act}{Ω:Om}
 (hdst:∀(o:Oper),o∈ops.toList->∀d,o.dst=some d->d<F.n)(h:N1 C keep ops draw s=some s')(hh:Holds F s.abs a Ω):(Code.region id ops draw).wp P (QL F fun y t=>y=.normal/\t=s') a Ω.w:=by
 have key:bR C ops.toList draw (fun _ _=>False) ops.toList 0 s [] fun s2 fs=>Mz s2 fun s3=>s'=trimM keep s3/\(draw=true->dB ops.toList fs=true):=by
  unfold N1 at h;split at h
  ·cases h
  ·rename_i s1 fs h1;refine Fb ?_ _ _ _ _ h1;split at h
   ·cases h
   ·rename_i s2 h2;refine AE ?_ _ _ h2;split at h
    ·rw[Jn]at h;cases h;exact⟨rfl,fun q=>by cases q⟩
    ·split at h
     ·rename_i hi;rw[Jn]at h;cases h;exact⟨rfl,fun _=>Gz hi⟩
     ·cases h
 refine oM hm hT hS hdst key (fun hdr s2 fs hk=>let ⟨s3,h3⟩:=mD _ hk;h3.2 hdr) hh (fun s2 fs a' Ω' hk h'=>
   let ⟨s3,Ω3,g1,g2,g3⟩:=nD h' hk
   ⟨.normal,trimM keep s3,Ω3,rfl,g1,g2.trimM keep,rfl,g3.1.symm⟩)
  (fun pv s2 a' Ω' v hk _ _=>hk.elim)
def Ff(f:St->Option (SX×St)):Nat->St->Option (SX×St)
 |0,_=>none
 |n+1,s=>
  match f s with
  |some (.normal,s')=>Ff f n s'
  |r=>r
def kg(C:Cfg)(keep:Nat)(pubs:List (Nat×List Nat))(N:Nat):Code->St->Option (SX×St)
 |.skip,s=>some (.normal,s)
 |.seq a b,s=>
  (match kg C keep pubs N a s with
  |some (.normal,s')=>kg C keep pubs N b s'
  |r=>r)
 |.cond c a b,s=>
  (match opd (aZ s.t) c with
  |.bool true=>kg C keep pubs N a s
  |.bool false=>kg C keep pubs N b s
  |_=>none)
 |.block id c,s=>
  (match kg C keep pubs N c s with
  |some (.exit j,s')=>if j ==id then some (.normal,s')else some (.exit j,s')
  |r=>r)
 |.exit id,s=>some (.exit id,s)
 |.scope c,s=>kg C keep pubs N c s
 |.label _,s=>some (.normal,s)
 |.ret,s=>some (.ret,s)
 |.region id ops draw,s=>
  (match px (so pubs id) s with
  |none=>none
  |some s=>
   match Dw ops.toList s with
   |none=>none
   |some s=>
    match N1 C keep ops draw s with
    |some s=>some (.normal,s)
    |none=>none)
 |.loop c,s=>Ff (kg C keep pubs N c) N s
 |_,_=>none
variable [Tabs]
variable {P:Program} {C:Cfg} {F:Fr}
theorem Dy(hm:P.follows .mixedOrders=true)(hT:aR P C.tbl)(hS:bJ P C.spec)(keep:Nat)(pubs:List (Nat×List Nat))(N:Nat) :
  ∀(c:Code)(s:St)(x:SX)(s':St)(a:Act)(Ω:Om),kg C keep pubs N c s=some (x,s')->bE F.n c=true->Holds F s.abs a Ω->c.wp P (QL F fun y t=>y=x/\t=s') a Ω.w:=by
 intro c
 induction c with
 |skip=>intro s x s' a Ω h _ hh;cases h;exact wp_skip ⟨.normal,s,Ω,rfl,rfl,hh,rfl,rfl⟩
 |region id ops draw=>
  intro s x s' a Ω h hd hh;unfold kg at h;split at h
  ·cases h
  ·rename_i s0 h0;obtain⟨Ω0,e0,g0⟩:=kL _ hh h0;split at h
   ·cases h
   ·rename_i s1 h1;obtain⟨Ω1,e1,g1⟩:=yo g0 h1;have hdst:∀(o:Oper),o∈ops.toList->∀d,o.dst=some d->d<F.n:=by intro o ho d hod;simp only[bE,O9]at hd;have:=hd o ho;rw[hod]at this;simpa using this
    split at h
    ·rename_i s2 h2;cases h;rw[<-e0,<-e1];exact Dx hm hT hS hdst h2 g1
    ·cases h
 |seq x y ihx ihy=>
  intro s z s' a Ω h hd hh;simp only[bE,NZ]at hd;unfold kg at h
  cases h1:kg C keep pubs N x s with
  |none=>rw[h1]at h;cases h
  |some r=>
   obtain⟨e1,s1⟩:=r;rw[h1]at h;refine RI (Qs (ihx s e1 s1 a Ω h1 hd.1 hh) ?_);intro e a' w' hq;obtain⟨e2,s2,Ω',g1,g2,g3,g4,g5⟩:=hq;subst g2 g4 g5
   cases e2 with
   |normal=>cases g1;exact ihy _ z s' a' Ω' h hd.2 g3
   |exit id=>cases g1;cases h;exact⟨.exit id,_,Ω',rfl,rfl,g3,rfl,rfl⟩
   |ret=>cases g1;cases h;exact⟨.ret,_,Ω',rfl,rfl,g3,rfl,rfl⟩
   |pan pv=>obtain⟨v,rfl,hv⟩:=g1;cases h;exact⟨.pan pv,_,Ω',⟨v,rfl,hv⟩,rfl,g3,rfl,rfl⟩
 |cond c x y ihx ihy=>
  intro s z s' a Ω h hd hh;simp only[bE,NZ]at hd;unfold kg at h;have hv:=b9 hh c;split at h
  ·rename_i hb;have hb':opd s.abs.T c=.bool true:=hb;rw[hb']at hv;exact wp_cond hv.bool_inv (ihx _ z s' a Ω h hd.1 hh)
  ·rename_i hb;have hb':opd s.abs.T c=.bool false:=hb;rw[hb']at hv;exact wp_cond hv.bool_inv (ihy _ z s' a Ω h hd.2 hh)
  ·cases h
 |block id c ih=>
  intro s z s' a Ω h hd hh;simp only[bE]at hd;unfold kg at h
  cases h1:kg C keep pubs N c s with
  |none=>rw[h1]at h;cases h
  |some r=>
   obtain⟨e1,s1⟩:=r;rw[h1]at h;refine wp_block (Qs (ih s e1 s1 a Ω h1 hd hh) ?_);intro e a' w' hq;obtain⟨e2,s2,Ω',g1,g2,g3,g4,g5⟩:=hq;subst g2 g4 g5
   cases e2 with
   |normal=>cases g1;cases h;exact⟨.normal,_,Ω',rfl,rfl,g3,rfl,rfl⟩
   |ret=>cases g1;cases h;exact⟨.ret,_,Ω',rfl,rfl,g3,rfl,rfl⟩
   |pan pv=>obtain⟨v,rfl,hv⟩:=g1;cases h;exact⟨.pan pv,_,Ω',⟨v,rfl,hv⟩,rfl,g3,rfl,rfl⟩
   |exit j=>
    cases g1;simp only[CV,Exit.inBlock];by_cases hj:j=id
    ·subst hj;simp only[QN,P1]at h;cases h;simp only[P1];exact⟨.normal,_,Ω',rfl,rfl,g3,rfl,rfl⟩
    ·simp only[Pa,hj,OL]at h;cases h;rw[O0 hj];exact⟨.exit j,_,Ω',rfl,rfl,g3,rfl,rfl⟩
 |loop c ih=>
  intro s z s' a Ω h hd hh;simp only[bE]at hd;unfold kg at h;refine wp_loop_rounds N ?_
  have key:∀(n:Nat)(s:St)(a:Act)(Ω:Om),Ff (kg C keep pubs N c) n s=some (z,s')->Holds F s.abs a Ω->Code.rounds P c (QL F fun y t=>y=z/\t=s') n a Ω.w:=by
   intro n
   induction n with
   |zero=>intro s a Ω h _;cases h
   |succ n ihn=>
    intro s a Ω h hh;rw[rounds_succ];unfold Ff at h
    cases h1:kg C keep pubs N c s with
    |none=>rw[h1]at h;cases h
    |some r=>
     obtain⟨e1,s1⟩:=r;rw[h1]at h;refine Qs (ih s e1 s1 a Ω h1 hd hh) ?_;intro e a' w' hq;obtain⟨e2,s2,Ω',g1,g2,g3,g4,g5⟩:=hq;subst g2 g4 g5
     cases e2 with
     |normal=>cases g1;exact ihn _ a' Ω' h g3
     |exit id=>cases g1;cases h;exact⟨.exit id,_,Ω',rfl,rfl,g3,rfl,rfl⟩
     |ret=>cases g1;cases h;exact⟨.ret,_,Ω',rfl,rfl,g3,rfl,rfl⟩
     |pan pv=>obtain⟨v,rfl,hv⟩:=g1;cases h;exact⟨.pan pv,_,Ω',⟨v,rfl,hv⟩,rfl,g3,rfl,rfl⟩
  exact key N s a Ω h hh
 |exit id=>intro s x s' a Ω h _ hh;cases h;exact wp_exit ⟨.exit id,s,Ω,rfl,rfl,hh,rfl,rfl⟩
 |ret=>intro s x s' a Ω h _ hh;cases h;exact wp_ret ⟨.ret,s,Ω,rfl,rfl,hh,rfl,rfl⟩
 |rangeFunc g ps x y _ _=>intro s z s' a Ω h;cases h
 |scope c ih=>
  intro s z s' a Ω h hd hh;simp only[bE]at hd;unfold kg at h;refine wp_scope_straight (Qs (ih s z s' a Ω h hd hh) ?_);intro e a' w' hq;obtain⟨e2,s2,Ω',h1,h2,h3,h4⟩:=hq
  cases e2 with
  |normal=>cases h1;exact⟨.normal,_,Ω',rfl,h2,h3,h4⟩
  |exit id=>cases h1;exact⟨.exit id,_,Ω',rfl,h2,h3,h4⟩
  |ret=>cases h1;exact⟨.ret,_,Ω',rfl,h2,h3,h4⟩
  |pan pv=>obtain⟨v,rfl,hv⟩:=h1;exact⟨.pan pv,_,Ω',⟨v,rfl,hv⟩,h2,h3,h4⟩
 |label l=>intro s x s' a Ω h _ hh;cases h;exact wp_label ⟨.normal,s,Ω,rfl,rfl,hh,rfl,rfl⟩
 |goto l=>intro s z s' a Ω h;cases h
 |refuse why=>intro s z s' a Ω h;cases h
end Go.AL
end
noncomputable section
namespace Go.AL
variable [Tabs]
def N2:AV->Bool
 |.ptr k 0=>bd k
 |_=>false
def ptrIn(ks:List Nat):AV->Bool
 |.ptr k _=>ks.contains k
 |_=>false
def Lt(ks:List Nat)(t:List (Nat×AV)):List (Nat×AV):=t.map fun x=>(x.1,if ptrIn ks x.2 then x.2 else .undef)
structure RC where
 r0:Code
 rest:Code
 crest:Code
 t5:Nat
 caps:List Operand
 t6:Nat
 t3:Nat
def N3(g:Nat)(c cc:Code):Option RC:=
 match c,cc with
 |.seq r0 (.seq (.region _ o1 false) rest),.seq (.region _ o2 false) crest=>
  match o1.toList,o2.toList with
  |[⟨some t5,.makeFunc (.func g') fst caps,_,_,_,none⟩,⟨none,.defer ⟨.value (.tmp t5'),asx,_⟩,_,_,_,none⟩],
   [⟨some t6,.call ⟨.builtin .recover,as2,_⟩,_,_,_,none⟩,⟨some t3,.assign (.tmp t6'),_,_,_,none⟩]=>
   if Nat.beq g' g&&Nat.beq t5' t5&&Nat.beq t6' t6&&fst.isEmpty&&asx.isEmpty&&as2.isEmpty then some ⟨r0,rest,crest,t5,caps.toList,t6,t3⟩else none
  |_,_=>none
 |_,_=>none
def Js(C:Cfg)(rs:List ResultVar)(L:List dO)(s1:St)(S1:List (Nat×SObj))(S:List (Nat×SObj))(A:Ans)(t2:List (Nat×AV))(s3:St):Prop:=
 match bp (aM s3.b)&&(aM S1).all (fun k=>(aM s3.b).contains k)with
 |true=>
  match l0 C.tbl ⟨Lt (aM S1) t2,s3.b⟩ rs with
  |some l=>
   (match kZ (aj s1.b) L 998 (iN S1 s3.b),mapVs (qj L 998) (iM L 998) (iM L 998) l with
   |some u',some l'=>fq ⟨[],cr s1.b u'⟩ fun s4=>vQ (some l') s4 A.val (cr S A.upd)
   |_,_=>False)
  |none=>False
 |false=>False
def AF(C:Cfg)(annC:An)(clo:Func)(R:RC)(caps:List AV)(v:AV)(s2:St)(fin:St->Prop):Prop:=
 ju (List.range clo.ntmps) fun keep=>fq ⟨gI (df 0 caps) R.t3 v,s2.b⟩ fun s=>swp C keep annC R.crest s fun
  |.exit _,_=>False
  |.pan _,_=>False
  |_,s3=>fin s3
def fwpR(C:Cfg)(ann annC:An)(fn:Func)(g:Nat)(clo:Func)(args:List AV)(S:List (Nat×SObj))(A:Ans):Prop:=
 match fn.body,clo.body,A.pan with
 |some c,some cc,none=>
  match N3 g c cc with
  |none=>False
  |some R=>
   match bE fn.ntmps c&&bE clo.ntmps cc&&Nat.blt R.t5 fn.ntmps&&mU args fn.ntmps&&(aM S).all bd&&clo.results.isEmpty&&mU R.caps clo.ntmps&&mU R.caps R.t6 with
   |false=>False
   |true=>ju ((List.range fn.ntmps)) fun keep=>fq ⟨df 0 args,S⟩ fun i=>swp C keep ann R.r0 i fun
    |.normal,s1=>
     (match(aM s1.b).map (fun i=>(i,(none:Option (Nat×Nat))))with
     |L=>
      (match bp (L.map (·.1))&&Nat.ble L.length 100,mapVs (toP L) (toI L) (toI L) ((List.range fn.ntmps).map (aZ s1.t)),mapVs (toP L) (toI L) (toI L) (R.caps.map (opd (aZ s1.t))),oq (aj s1.b) L L 900 with
      |true,some as1,some caps,some S1=>
       (match caps.all N2 with
       |true=>fq ⟨gI (df 0 as1) R.t5 .undef,S1⟩ fun i=>swp C keep ann R.rest i fun
        |.exit _,_=>False
        |.pan v,s2=>AF C annC clo R caps v s2 (Js C fn.results.toList L s1 S1 S A s2.t)
        |_,s2=>AF C annC clo R caps .nilif s2 (Js C fn.results.toList L s1 S1 S A s2.t)
       |false=>False)
      |_,_,_,_=>False))
    |_,_=>False
 |_,_,_=>False
theorem q8:∀(u S:List (Nat×SObj))(i:Nat),bp (u.map (·.1))=true->aj (cr S u) i=(aj u i).or (aj S i)
 |[],S,i,_=>by simp[cr,b5,aH]
 |(j,o)::r,S,i,h=>by
  simp only[OJ,bp,NZ,Oa]at h;simp only[cr];rw[q8 r _ i h.2,iY];simp only[b5,aH];by_cases e:j=i
  ·subst e
   have:aj r j=none:=by
    cases hb:aj r j with|none=>rfl|some o'=>have:=bY r j o' hb;have h1:=h.1;simp only[OZ,OF,OC,not_exists,not_and]at h1;exact absurd rfl (h1 _ this)
   simp[this]
  ·simp[e]
section
variable {P:Program} {C:Cfg}
theorem V.pinned{e0 e:Nat->Option CObj}{w0 w:World}{p0 p:Nat->Nat->Prop}(hk:∀id c,e0 id=some c->∃c',e id=some c'/\CLe c c'){a:AV}{v:Value}(ha:N2 a=true)(h:V ⟨e0,w0,p0⟩ a v):V ⟨e,w,p⟩ a v:=by
 cases h with
 |ptr i o b q len he=>obtain⟨c',h1,h2⟩:=hk i _ he;have:=h2.box;subst this;exact .ptr i o b q len h1
 |_=>simp[N2]at ha
theorem Holds.retmp'{F:Fr}{s:AS}{a a':Act}{Ω:Om}(h:Holds F s a Ω){n:Nat}{ds:List Deferred}{T:Nat->AV}(hT:∀i,V Ω (T i) (a'.tmps.getD i undef))(hs:a'.tmps.size=n)(hd:a'.defers=ds) :
  Holds ⟨F.w0,F.pub0,n,F.e0,F.dom0,ds,F.tab0⟩ ⟨T,s.B⟩ a' Ω:=
 ⟨hT,hs,hd,h.slots,h.dom,h.inj,h.pubok,h.keep,⟨h.frame.os,h.frame.tape,h.frame.output,h.frame.size,h.frame.block,h.frame.cell,h.frame.kind,h.frame.pub,h.frame.old,h.frame.pcell⟩⟩
inductive Rcv:FrameMode->AV->Om->Value->FrameMode->Prop
 |ret (Ω:Om):Rcv .returning .nilif Ω .nilIface .returning
 |pan (Ω:Om) (a:AV) (v:Value):V Ω a v->Rcv (.panicking [{v,recovered:=false}]) a Ω v (.panicking [{v,recovered:=true}])
structure RCcode(g:Nat)(R:RC)(c cc:Code):Prop where
 code:∃i1 i2 ty1 ps1 af1 ty2 ps2 af2 ts2 ty3 ps3 af3 ts3 ty4 ps4 af4,
  c=.seq R.r0 (.seq (.region i1 #[⟨some R.t5,.makeFunc (.func g) #[] R.caps.toArray,ty1,ps1,af1,none⟩,⟨none,.defer ⟨.value (.tmp R.t5),#[],ts2⟩,ty2,ps2,af2,none⟩] false) R.rest)/\
  cc=.seq (.region i2 #[⟨some R.t6,.call ⟨.builtin .recover,#[],ts3⟩,ty3,ps3,af3,none⟩,⟨some R.t3,.assign (.tmp R.t6),ty4,ps4,af4,none⟩] false) R.crest
theorem Jt{g:Nat}{c cc:Code}{R:RC}(h:N3 g c cc=some R):RCcode g R c cc:=by
 unfold N3 at h;split at h
 ·rename_i r0 i1 o1 rest i2 o2 crest;split at h
  ·rename_i h1 h2;split at h
   ·rename_i hc;simp only[NZ,Nat.beq_eq,Array.isEmpty_iff]at hc;obtain⟨⟨⟨⟨⟨rfl,rfl⟩,rfl⟩,rfl⟩,rfl⟩,rfl⟩:=hc;simp only[Xs]at h;subst h;have e1:=PT List.toArray h1;have e2:=PT List.toArray h2;simp only[PI]at e1 e2;subst e1 e2;exact⟨_,_,_,_,_,_,_,_,_,_,_,_,_,_,_,_,rfl,rfl⟩
   ·cases h
  ·cases h
 ·cases h
theorem qN{ts:Array Nat}{d:Option Nat}{ty:Nat}{ps:String}{af:Array Edge}{ρ:Operand->Value}{w:World} :
  (execOp ρ ⟨d,.call ⟨.builtin .recover,#[],ts⟩,ty,ps,af,none⟩).run P w=.ok .recover w:=by
 simp[execOp,resolve,invoke,builtin]
theorem Dz(hm:P.follows .mixedOrders=true)(hT:aR P C.tbl)(hS:bJ P C.spec){g:Nat}{clo:Func}{c cc:Code}{R:RC}(hR:RCcode g R c cc)(hg:P.funcs[g]?=some clo)(hb:clo.body=some cc)
 (hd:bE clo.ntmps cc=true)(hres:clo.results=#[]){caps:List AV}(hcl:caps.length<=clo.ntmps)(hc6:caps.length<=R.t6){F:Fr}{s2:St}{a2:Act}{Ω2:Om}(h:Holds F s2.abs a2 Ω2){vs:List Value}(hv:VL Ω2 caps vs)
 {u u':FrameMode}{av:AV}{v:Value}(hrc:Rcv u av Ω2 v u'){annC:An}{fin:St->Prop}(hc:AF C annC clo R caps av s2 fin) :
  CallsD P g vs.toArray u Ω2.w fun en u2 w'=>u2=u'/\en=.returned (.tuple #[])/\∃s3 Ω3 a3 T,Ω3.w=w'/\fin s3/\Holds ⟨F.w0,F.pub0,clo.ntmps,F.e0,F.dom0,[],F.tab0⟩ ⟨T,aj s3.b⟩ a3 Ω3:=by
 obtain⟨i1,i2,ty1,ps1,af1,ty2,ps2,af2,ts2,ty3,ps3,af3,ts3,ty4,ps4,af4,_,rfl⟩:=hR;refine callsD_of_wpS hg hb (fun c₀ cs hu=>?_);apply wpS_seq;apply wpS_region;simp only[bE,NZ,P6,RR,Bool.and_true,Qv]at hd;obtain⟨⟨hd6,hd3⟩,hdc⟩:=hd;have hvs:vs.length<=clo.ntmps:=by rw[<-hv.1];exact hcl
 have hbase:Holds ⟨F.w0,F.pub0,clo.ntmps,F.e0,F.dom0,[],F.tab0⟩ ⟨aZ (df 0 caps),aj s2.b⟩ {tmps:=vs.toArray++Array.replicate (clo.ntmps-vs.toArray.size) undef,defers:=[]} Ω2:=
  h.retmp' (fun i=>kc _ hv i) (by simp;omega) rfl
 have key:∃cs',(∃c1,cs'=c1::cs/\c1={c₀ with mode:=u'})/\∀Q':Exit->Act->List Frame->World->Prop,Q' .normal (({tmps:=vs.toArray++Array.replicate (clo.ntmps-vs.toArray.size) undef,defers:=[]}:Act).put (some R.t6) v|>.put (some R.t3) v) cs' Ω2.w->
   wpOpsS P #[⟨some R.t6,.call ⟨.builtin .recover,#[],ts3⟩,ty3,ps3,af3,none⟩,⟨some R.t3,.assign (.tmp R.t6),ty4,ps4,af4,none⟩] Q' [0,1] {tmps:=vs.toArray++Array.replicate (clo.ntmps-vs.toArray.size) undef,defers:=[]} (c₀::cs) Ω2.w:=by
  have two:∀(cs':List Frame)(Q':Exit->Act->List Frame->World->Prop),Q' .normal (({tmps:=vs.toArray++Array.replicate (clo.ntmps-vs.toArray.size) undef,defers:=[]}:Act).put (some R.t6) v|>.put (some R.t3) v) cs' Ω2.w->
    wpOpsS P #[⟨some R.t6,.call ⟨.builtin .recover,#[],ts3⟩,ty3,ps3,af3,none⟩,⟨some R.t3,.assign (.tmp R.t6),ty4,ps4,af4,none⟩] Q' [1] (({tmps:=vs.toArray++Array.replicate (clo.ntmps-vs.toArray.size) undef,defers:=[]}:Act).put (some R.t6) v) cs' Ω2.w:=by
   intro cs' Q' hq;have he:(({tmps:=vs.toArray++Array.replicate (clo.ntmps-vs.toArray.size) undef,defers:=[]}:Act).put (some R.t6) v).eval (.tmp R.t6)=v:=by show(Act.put _ (some R.t6) v).tmps.getD R.t6 undef=v;rw[cH hbase.size hd6,O3 rfl]
   unfold wpOpsS;simp only[Pk,Qz,Q4,Region.wanted,P1];have hr:(execOp (({tmps:=vs.toArray++Array.replicate (clo.ntmps-vs.toArray.size) undef,defers:=[]}:Act).put (some R.t6) v).eval ⟨some R.t3,.assign (.tmp R.t6),ty4,ps4,af4,none⟩).run P Ω2.w=.ok (.value v) Ω2.w:=by show(pure (Next.value (Act.eval _ (.tmp R.t6))):Sem Next).run P Ω2.w=_;rw[he];rfl
   rw[hr];simp only[Oper.upon];exact hq
  cases hrc with|ret=>refine⟨_,⟨c₀,rfl,by cases c₀;simp only at hu;subst hu;rfl⟩,fun Q' hq=>?_⟩;unfold wpOpsS;simp only[Pk,Q4,Region.wanted,P1];rw[qN];simp only[recoverD,hu];exact two _ Q' hq|pan _ _ hv'=>refine⟨_,⟨_,rfl,rfl⟩,fun Q' hq=>?_⟩;unfold wpOpsS;simp only[Pk,Q4,Region.wanted,P1];rw[qN];simp only[recoverD,hu];exact two _ Q' hq
 obtain⟨cs',⟨c1,rfl,hc1⟩,key⟩:=key;refine key _ ?_;refine wpS_of_wp ?_;unfold AF at hc;rw[jb,cM]at hc
 have hav:V Ω2 av v:=by
  cases hrc<;>first|exact .nilif|assumption
 have h1:=(hbase.pure (dst:=some R.t6) (val:=.undef) (v:=v) (.undef v) (fun d e=>by cases e;exact hd6)).pure (dst:=some R.t3) (val:=av) (v:=v) hav (fun d e=>by cases e;exact hd3)
 have h2:Holds ⟨F.w0,F.pub0,clo.ntmps,F.e0,F.dom0,[],F.tab0⟩ (St.abs ⟨gI (df 0 caps) R.t3 av,s2.b⟩) _ Ω2:=h1.weak (s':=St.abs ⟨gI (df 0 caps) R.t3 av,s2.b⟩) (fun i=>by
  simp only[St.abs,fk,bz];by_cases e3:R.t3=i
  ·right;simp[e3]
  ·by_cases e6:R.t6=i
   ·left;subst e6;rw[O0 e3,gT,O3 (Of _),QM];simp[O4,O2 hc6]
   ·right;simp[e3,e6]) rfl
 refine Qs (gS hm hT hS _ annC R.crest _ _ _ Ω2 hc hdc h2) ?_;intro e a' w' hq;obtain⟨z,s3,Ω3,q1,q2,q3,q4⟩:=hq;have fin3:fin s3->bodyPostS P clo c₀ cs (fun en u2 w'=>u2=u'/\en=.returned (.tuple #[])/\∃s3 Ω3 a3 T,Ω3.w=w'/\fin s3/\Holds ⟨F.w0,F.pub0,clo.ntmps,F.e0,F.dom0,[],F.tab0⟩ ⟨T,aj s3.b⟩ a3 Ω3) .ret a' (c1::cs) w':=by intro hf;refine⟨q3.defers,u',by rw[hc1],.tuple #[],by simp[results,hres],rfl,rfl,s3,Ω3,a',_,q2,hf,q3⟩
 cases z with
 |normal=>cases q1;exact fin3 q4
 |ret=>cases q1;exact fin3 q4
 |exit id=>exact q4.elim
 |pan v=>exact q4.elim
theorem GA{w:World}{pub:Nat->Nat->Prop}{e:Nat->Option CObj}{n:Nat}{hl:∀id c,e id=some c->bd id=true}{ds:List Deferred}{ht:ec w pub e}{T:Nat->AV}{t:List (Nat×AV)}{b b':List (Nat×SObj)}{a:Act}{Ω:Om}{l:List AV}{us:List Value}{val:AV}
 (hh:Holds ⟨w,pub,n,e,hl,ds,ht⟩ ⟨T,aj b⟩ a Ω)(k2:VL Ω l us)(hend:vQ (some l) ⟨t,b⟩ val b') :
  ∃pub' e',V ⟨e',Ω.w,pub'⟩ val (if h:us.toArray.size=1 then us.toArray[0]else .tuple us.toArray)/\After w pub e (aj b') Ω.w pub' e':=by
 unfold vQ at hend;split at hend
 ·rename_i x hres;cases hres;obtain⟨u,rfl⟩:=jd (by rw[<-k2.1];rfl);have h1:=hh.retmp' (T:=aZ (df 0 [x])) (a':={tmps:=[u].toArray++Array.replicate 0 undef,defers:=[]}) (n:=1) (ds:=[]) (fun i=>kc 0 k2 i) (by simp) rfl;obtain⟨Ω2,e2,hh2⟩:=dy (s:=⟨[(0,x)],b⟩) h1 (gq hend);refine⟨Ω2.pub,Ω2.e,?_,?_⟩
  ·have:=hh2.tmps 0;rw[<-e2];exact this
  ·rw[<-e2];exact fB hh2
 ·rename_i l' hne hres;cases hres;split at hend
  ·rename_i rs;split at hend
   ·rename_i hln;have hl2:=bX _ _ hln;have h1:=hh.retmp' (T:=aZ (df 0 l)) (a':={tmps:=us.toArray++Array.replicate 0 undef,defers:=[]}) (n:=us.length) (ds:=[]) (fun i=>kc 0 k2 i) (by simp) rfl;obtain⟨Ω2,e2,hh2⟩:=dy (s:=⟨df 0 l,b⟩) h1 (gq hend);have hsz:¬us.toArray.size=1:=by intro h1;obtain⟨x,hx⟩:=jd (l:=l) (by rw[k2.1];simpa using h1);exact hne x hx
    rw[dif_neg hsz];refine⟨Ω2.pub,Ω2.e,?_,?_⟩
    ·refine .tup rs us (by rw[<-k2.1,<-hl2]) (fun j c v hc hv=>?_);have:=hh2.tmps j;simp only[St.abs,gT,Of,P1,QM,O4,hc,OX]at this;have e3:(us.toArray++Array.replicate 0 undef).getD j undef=v:=by simp[Oo,hv]
     rw[e3]at this;rw[<-e2];exact this
    ·rw[<-e2];exact fB hh2
   ·exact hend.elim
  ·exact hend.elim
 ·rename_i h;cases h
theorem CLe.to_box{c:CObj}{b o l:Nat}(h:CLe c (.box b o l)):c=.box b o l:=by cases c<;>simp[CLe]at h;obtain⟨rfl,rfl,rfl⟩:=h;rfl
theorem V.ptrIn{F:Fr}{Ω2 Ω3:Om}{ks:List Nat}(h2:∀id c,F.e0 id=some c->∃c',Ω2.e id=some c'/\CLe c c')(h3:∀id c,F.e0 id=some c->∃c',Ω3.e id=some c'/\CLe c c')
 (hk:∀k∈ks,∃c,F.e0 k=some c){a:AV}{v:Value}(h:V Ω2 a v):V Ω3 (if AL.ptrIn ks a=true then a else .undef) v:=by
 split
 ·rename_i hp
  cases h with
  |ptr i o b q len he=>simp only[AL.ptrIn,OZ,O1]at hp;obtain⟨c,hc⟩:=hk i hp;obtain⟨c2,e2,l2⟩:=h2 i c hc;rw[he]at e2;cases e2;have:=l2.to_box;subst this;obtain⟨c3,e3,l3⟩:=h3 i _ hc;have:=l3.box;subst this;exact .ptr i o b q len e3
  |_=>simp[AL.ptrIn]at hp
 ·exact .undef v
theorem GB(hT:aR P C.tbl){w:World}{pub:Nat->Nat->Prop}{e:Nat->Option CObj}{n n1:Nat}{hl:∀id c,e id=some c->bd id=true}{ht:ec w pub e}{s1:St}{a1:Act}{Ω1:Om}{L:List dO}{ht1:ec Ω1.w Ω1.pub (dh L Ω1.e)}(h3:Holds ⟨w,pub,n,e,hl,[],ht⟩ s1.abs a1 Ω1)
 (hdist:bp (L.map (·.1))=true){S1:List (Nat×SObj)}(hS1:oq (aj s1.b) L L 900=some S1){hl1:∀id c,dh L Ω1.e id=some c->bd id=true}(hk1:∀k∈aM S1,∃c,dh L Ω1.e k=some c)
 {ds:List Deferred}{s2:St}{a2:Act}{Ω2:Om}(q3:Holds ⟨Ω1.w,Ω1.pub,n,dh L Ω1.e,hl1,ds,ht1⟩ s2.abs a2 Ω2){s3:St}{a3:Act}{Ω3:Om}{T:Nat->AV}(h5:Holds ⟨Ω1.w,Ω1.pub,n1,dh L Ω1.e,hl1,[],ht1⟩ ⟨T,aj s3.b⟩ a3 Ω3)
 {fn:Func}{S:List (Nat×SObj)}{A:Ans}(hpan:A.pan=none)(hf:Js C fn.results.toList L s1 S1 S A s2.t s3) :
  ∃v,(results fn a2.tmps).run P Ω3.w=.ok v Ω3.w/\∃pub' e',(∀b pv u,A.pan=some (b,pv,u)->b=false)/\V ⟨e',Ω3.w,pub'⟩ A.val v/\After w pub e (aj (cr S A.upd)) Ω3.w pub' e':=by
 unfold Js at hf;split at hf
 ·rename_i hck;simp only[NZ,O9]at hck;obtain⟨hd3,hin⟩:=hck;split at hf
  ·rename_i l hres;split at hf
   ·rename_i u' l' hu' hl';rw[cM]at hf
    have hR:Holds ⟨Ω1.w,Ω1.pub,n,dh L Ω1.e,hl1,ds,ht1⟩ (St.abs ⟨Lt (aM S1) s2.t,s3.b⟩) a2 Ω3:=by
     have:=h5.retmp' (T:=aZ (Lt (aM S1) s2.t)) (a':=a2) (n:=n) (ds:=ds) (fun i=>by
      rw[show aZ (Lt (aM S1) s2.t) i=if ptrIn (aM S1) (aZ s2.t i)=true then aZ s2.t i else .undef from oL (fun x=>if ptrIn (aM S1) x=true then x else .undef) (by simp[ptrIn]) s2.t i];exact V.ptrIn (F:=⟨Ω1.w,Ω1.pub,n,dh L Ω1.e,hl1,ds,ht1⟩) q3.keep h5.keep hk1 (q3.tmps i)) q3.size q3.defers
     exact this
    obtain⟨us,k1,k2⟩:=fS hT hR _ _ hres;have hmap:(results fn a2.tmps).run P Ω3.w=.ok (if h:us.toArray.size=1 then us.toArray[0]else .tuple us.toArray) Ω3.w:=by rw[nH,<-PI (xs:=fn.results),QZ];simp only[Ou,Sem.run_map,k1,O6,OR]
    have hB:aj (cr S1 s3.b)=aj s3.b:=by
     funext i;rw[q8 _ _ _ hd3]
     cases h:aj s3.b i with
     |some o=>rfl
     |none=>
      cases h':aj S1 i with|none=>rfl|some o=>have:=hin i (OC.2 ⟨(i,o),bY _ _ _ h',rfl⟩);simp only[OZ,O1]at this;exact absurd this (jY _ _ h)
    have hA:After Ω1.w Ω1.pub (dh L Ω1.e) (aj (cr S1 s3.b)) Ω3.w Ω3.pub Ω3.e:=by rw[hB];exact fB (h5.retmp' (T:=T) (a':=a3) (n:=n1) (ds:=[]) h5.tmps h5.size h5.defers)
    obtain⟨Ω',w1,w2,w3⟩:=pE h3 (d:=998) (by omega) hdist hS1 hd3 hu' (val:=.tup l) (val':=.tup l') (by simp only[mapV,hl']) (v:=.tuple us.toArray) (V.of_tup k2) hA;obtain⟨us',e1,k3⟩:=w2.tup_inv;have e2:us=us':=by have:=PT Array.toList (Value.tuple.inj e1);simpa using this
    subst e2;rw[show s1.abs.B=aj s1.b from rfl,<-j9]at w3;obtain⟨pub',e',p1,p2⟩:=GA (T:=s1.abs.T) (b:=cr s1.b u') (t:=[]) w3 k3 hf;rw[w1]at p1 p2;exact⟨_,hmap,pub',e',(fun b pv u h=>by rw[hpan]at h;cases h),p1,p2⟩
   ·exact hf.elim
  ·exact hf.elim
 ·exact hf.elim
theorem fwpR_sound(hm:P.follows .mixedOrders=true)(hT:aR P C.tbl)(hS:bJ P C.spec){ann annC:An}{f g:Nat}{fn clo:Func}(hf:P.funcs[f]?=some fn)(hg:P.funcs[g]?=some clo)
 (eg:∀args w,(callFunc g args).run P w=.ok (.enter g args) w){args:List AV}{S:List (Nat×SObj)}{A:Ans}(h:fwpR C ann annC fn g clo args S A):ak P f args S A:=by
 intro w pub e vs hp ht hv hs hdom hinj;unfold fwpR at h;split at h
 ·rename_i c cc hb hcb hpan;split at h
  ·exact h.elim
  ·rename_i R hR;split at h
   ·exact h.elim
   ·rename_i hck;simp only[NZ,O9,Array.isEmpty_iff,Qv]at hck;obtain⟨⟨⟨⟨⟨⟨⟨hk1,hk2⟩,hk5⟩,hk3⟩,hk4⟩,hres⟩,hcl⟩,hc6⟩:=hck;have hlen:=eR _ _ hk3;have hcl:=eR _ _ hcl;have hc6:=eR _ _ hc6;rw[jb,cM]at h
    have hlent:∀id c,e id=some c->bd id=true:=by
     intro id c hc
     cases hg:aj S id with
     |none=>rw[hdom id hg]at hc;cases hc
     |some o=>exact hk4 id (OC.2 ⟨(id,o),bY _ _ _ hg,rfl⟩)
    have hRc:=Jt hR;obtain⟨i1,i2,ty1,ps1,af1,ty2,ps2,af2,ts2,ty3,ps3,af3,ts3,ty4,ps4,af4,rfl,_⟩:=id hRc;refine calls_of_wp_defers hf hb ?_;have hh:=jc (n:=fn.ntmps) hp ht hv hlen hs hdom hinj hlent;have hdr:bE fn.ntmps R.r0=true/\bE fn.ntmps R.rest=true:=by simp only[bE,NZ]at hk1;exact⟨hk1.1,hk1.2.2⟩
    refine RI (Qs (gS (F:=⟨w,pub,fn.ntmps,e,hlent,[],ht⟩) hm hT hS _ ann R.r0 _ _ _ _ h hdr.1 hh) ?_);intro en a1 w1 hq;obtain⟨z,s1,Ω1,q1,rfl,h3,h4⟩:=hq
    cases z with
    |exit id=>exact h4.elim
    |ret=>exact h4.elim
    |pan pv=>exact h4.elim
    |normal=>
     cases q1;simp only at h4;generalize hLL:(aM s1.b).map (fun i=>(i,(none:Option (Nat×Nat))))=L at h4;split at h4
     ·rename_i as1 caps S1 hdl has hcaps hS1;simp only[NZ,Ru]at hdl;obtain⟨hdist,hL100⟩:=hdl;split at h4
      ·rename_i hcp;rw[cM]at h4;obtain⟨k1,k2,k3⟩:=iX L 900 S1 hS1;refine RI (QY ?_);show wpOps P _ _ [0,1] a1 Ω1.w;refine cz (o:=⟨some R.t5,.makeFunc (.func g) #[] R.caps.toArray,ty1,ps1,af1,none⟩) rfl rfl (aq (v:=.func (.func g) #[] (R.caps.toArray.map a1.eval)) (w':=Ω1.w) (by simp[execOp,Instr.makeFunc]) ?_);have he5:(a1.put (some R.t5) (.func (.func g) #[] (R.caps.toArray.map a1.eval))).eval (.tmp R.t5)=.func (.func g) #[] (R.caps.toArray.map a1.eval):=by show(Act.put a1 (some R.t5) _).tmps.getD R.t5 undef=_;rw[cH h3.size hk5,O3 rfl]
       refine cz (o:=⟨none,.defer ⟨.value (.tmp R.t5),#[],ts2⟩,ty2,ps2,af2,none⟩) rfl rfl ?_;have hrun:(execOp (a1.put (some R.t5) (.func (.func g) #[] (R.caps.toArray.map a1.eval))).eval ⟨none,.defer ⟨.value (.tmp R.t5),#[],ts2⟩,ty2,ps2,af2,none⟩).run P Ω1.w=.ok (.defer {target:=.fn (.func g) (R.caps.toArray.map a1.eval),args:=#[]}) Ω1.w:=by have he5':=he5;simp only[List.map_toArray]at he5';simp[execOp,resolve,he5',Deferred.ofValue]
       unfold Oper.wp;rw[hrun];have hcv:R.caps.toArray.map a1.eval=(R.caps.map a1.eval).toArray:=by simp
       have hdef0:a1.defers=[]:=h3.defers
       have hvl1:VL Ω1 ((List.range fn.ntmps).map (aZ s1.t)) a1.tmps.toList:=by
        have hz:a1.tmps.size=fn.ntmps:=h3.size;refine⟨by simp;omega,fun j c v hc hv=>?_⟩;simp only[OD,Ov]at hc;obtain⟨q,hq,rfl⟩:=hc;have hqj:q=j:=by have:=OA.1 hq;obtain⟨_,e⟩:=this;simpa using e.symm
        subst hqj;have:=h3.tmps q;rw[Oh]at hv;simp only[Oo,hv,OX]at this;exact this
       have hvc1:VL Ω1 (R.caps.map (opd (aZ s1.t))) (R.caps.map a1.eval):=by refine⟨by simp,fun j c v hc hv=>?_⟩;simp only[OD,Ov]at hc hv;obtain⟨x,hx,rfl⟩:=hc;obtain⟨y,hy,rfl⟩:=hv;rw[hx]at hy;cases hy;exact b9 h3 x
       have hvl:=hvl1.mapVs (lC L Ω1.e) has;have hvc:=hvc1.mapVs (lC L Ω1.e) hcaps;have hlent1:∀k i r,bw L k=some (i,r)->∃o o',s1.abs.B i=some o/\fv L r o=some o'/\aj S1 k=some o':=by intro k i r hk;obtain⟨h1,h2⟩:=fQ hk;obtain⟨o,o',q1,q2,q3⟩:=k2 _ i r h2;rw[show 900+(k-900)=k by omega]at q3;exact⟨o,o',q1,q2,q3⟩
       have hLs:∀q i r,nth L q=some (i,r)->∃o o',s1.abs.B i=some o/\fv L r o=some o':=fun q i r hq=>let ⟨o,o',q1,q2,_⟩:=k2 q i r hq;⟨o,o',q1,q2⟩
       have hslots:∀id o,aj S1 id=some o->bn ⟨dh L Ω1.e,Ω1.w,Ω1.pub⟩ (fun _ _=>True) id o:=fun id o' ho'=>by obtain⟨q,i,r,o2,e1,e2,e3,e4⟩:=k1 id o' ho';subst e1;exact zA (cW (my L i 900 q r hdist e2)) (h3.slots i o2 e3) e4
       have hdom1:∀id,aj S1 id=none->dh L Ω1.e id=none:=fun id hid=>by
        unfold dh
        cases hl:bw L id with
        |none=>rfl
        |some x=>obtain⟨o1,o2,_,_,q3⟩:=hlent1 id x.1 x.2 hl;rw[hid]at q3;cases q3
       have hinj1:Inj (dh L Ω1.e):=fun i j c c' b oo hi hj ho1 ho2=>by obtain⟨i1,r1,c1,p1,p2,p3⟩:=jW h3.slots hLs hi;obtain⟨i2,r2,c2,p4,p5,p6⟩:=jW h3.slots hLs hj;have:=h3.inj i1 i2 c1 c2 b oo p2 p5 (p3 b oo ho1) (p6 b oo ho2);subst this;have a1:=dG hdist p1;have a2:=dG hdist p4;rw[a1]at a2;simp at a2;exact a2.1
       have hpin:∀id c,dh L Ω1.e id=some c->bd id=true:=by
        intro id c hc
        cases hg:aj S1 id with
        |none=>rw[hdom1 id hg]at hc;cases hc
        |some o=>have:=k3 (id,o) (bY _ _ _ hg);simp only[bd,NZ,Ru,Qv];simp only at this;omega
       have hkS:∀k∈aM S1,∃c,dh L Ω1.e k=some c:=by
        intro k hk;obtain⟨x,hx,rfl⟩:=OC.1 hk
        cases hg:aj S1 x.1 with
        |none=>exact absurd (OC.2 ⟨x,hx,rfl⟩) (jY _ _ hg)
        |some o=>
         have hso:=hslots x.1 o hg
         cases o with
         |box c=>obtain⟨_,_,e1,_⟩:=hso;exact⟨_,e1⟩
         |tail τ n=>obtain⟨_,_,e1,_⟩:=hso;exact⟨_,e1⟩
         |map κ τ m=>obtain⟨_,e1,_⟩:=hso;exact⟨_,e1⟩
         |bld t u l=>obtain⟨_,_,e1,_⟩:=hso;exact⟨_,e1⟩
         |tailp τ n x=>obtain⟨_,_,e1,_⟩:=hso;exact⟨_,e1⟩
         |grow τ n x=>obtain⟨_,_,e1,_⟩:=hso;exact⟨_,e1⟩
       have hlen1:as1.length<=fn.ntmps:=by have:=hvl.1;rw[this,PE,h3.size];exact Od _
       have hi1:=jc (n:=fn.ntmps) h3.pubok (h3.tabsC hLs) hvl hlen1 hslots hdom1 hinj1 hpin
       have hi2:=hi1.retmp' (T:=aZ (df 0 as1)) (a':={tmps:=a1.tmps,defers:=[{target:=.fn (.func g) (R.caps.toArray.map a1.eval),args:=#[]}]}) (n:=fn.ntmps) (ds:=[{target:=.fn (.func g) (R.caps.toArray.map a1.eval),args:=#[]}])
        (fun i=>by
         have:=hi1.tmps i;have e0:(a1.tmps.toList.toArray++Array.replicate (fn.ntmps-a1.tmps.toList.toArray.size) undef)=a1.tmps:=by have hz:a1.tmps.size=fn.ntmps:=h3.size;apply Pj;simp[hz]
         rw[e0]at this;exact this) h3.size rfl
       have hi3:=hi2.pure (dst:=some R.t5) (val:=.undef) (v:=.func (.func g) #[] (R.caps.toArray.map a1.eval)) (.undef _) (fun d e=>by cases e;exact hk5)
       have hi4:=hi3.weak (s':=St.abs ⟨gI (df 0 as1) R.t5 .undef,S1⟩) (fun i=>by
        simp only[St.abs,fk,bz];by_cases e5:R.t5=i
        ·left;simp[e5]
        ·right;simp[e5]) rfl
       have hact:(({tmps:=a1.tmps,defers:=[{target:=.fn (.func g) (R.caps.toArray.map a1.eval),args:=#[]}]}:Act).put (some R.t5) (.func (.func g) #[] (R.caps.toArray.map a1.eval)))=
         ({(a1.put (some R.t5) (.func (.func g) #[] (R.caps.toArray.map a1.eval)))with defers:={target:=.fn (.func g) (R.caps.toArray.map a1.eval),args:=#[]}::(a1.put (some R.t5) (.func (.func g) #[] (R.caps.toArray.map a1.eval))).defers}:Act).put none undef:=by
        simp[Act.put,hdef0]
       show Code.wp P R.rest _ (({(a1.put (some R.t5) (.func (.func g) #[] (R.caps.toArray.map a1.eval)))with defers:={target:=.fn (.func g) (R.caps.toArray.map a1.eval),args:=#[]}::(a1.put (some R.t5) (.func (.func g) #[] (R.caps.toArray.map a1.eval))).defers}:Act).put none undef) Ω1.w;rw[<-hact];refine Qs (gS hm hT hS _ ann R.rest _ _ _ ⟨dh L Ω1.e,Ω1.w,Ω1.pub⟩ h4 hdr.2 hi4) ?_;intro en a2 w2 hq;obtain⟨z,s2,Ω2,g1,rfl,g3,g4⟩:=hq;have hcv2:VL Ω2 caps (R.caps.map a1.eval):=by refine⟨hvc.1,fun j c v hc hv=>?_⟩;exact V.pinned g3.keep (O9.1 hcp c (Ot hc)) (hvc.2 j c v hc hv)
       have hcl':caps.length<=clo.ntmps:=by rw[hvc.1,P3];exact hcl
       have hc6':caps.length<=R.t6:=by rw[hvc.1,P3];exact hc6
       have close:∀(u u':FrameMode)(av:AV)(v:Value),u≠.run->settle u'=.returning->Rcv u av Ω2 v u'->AF C annC clo R caps av s2 (Js C fn.results.toList L s1 S1 S A s2.t)->
         Leaves P fn a2.tmps (fun en w'=>∃pub' e',match en with
          |.returned v=>(∀b pv u,A.pan=some (b,pv,u)->b=false)/\V ⟨e',w',pub'⟩ A.val v/\After w pub e (aj (cr S A.upd)) w' pub' e'
          |.panicked ch=>∃pv u v,A.pan=some (true,pv,u)/\ch=[{v,recovered:=false}]/\V ⟨e',w',pub'⟩ pv v/\After w pub e (aj (cr S u)) w' pub' e'
          |.outgrown=>False) [{target:=.fn (.func g) (R.caps.toArray.map a1.eval),args:=#[]}] u Ω2.w:=by
        intro u u' av v hu hse hrc hcr;refine leaves_cons (f:=g) (args:=(R.caps.map a1.eval).toArray) hu (by simp[invoke,eg]) ?_;refine(Dz hm hT hS hRc hg hcb hk2 hres hcl' hc6' g3 hcv2 hrc hcr).mono ?_;rintro en u2 w3 ⟨rfl,rfl,s3,Ω3,a3,T3,rfl,hfin,h5⟩;simp only[hse,Leaves];obtain⟨v,r1,pub',e',r2,r3,r4⟩:=GB hT h3 hdist hS1 hkS g3 h5 hpan hfin;exact⟨v,r1,pub',e',r2,r3,r4⟩
       have hds:a2.defers=[{target:=.fn (.func g) (R.caps.toArray.map a1.eval),args:=#[]}]:=g3.defers
       cases z with
       |normal=>cases g1;show Leaves P fn a2.tmps _ a2.defers .returning Ω2.w;rw[hds];exact close .returning .returning .nilif .nilIface (by simp) rfl (.ret Ω2) g4
       |ret=>cases g1;show Leaves P fn a2.tmps _ a2.defers .returning Ω2.w;rw[hds];exact close .returning .returning .nilif .nilIface (by simp) rfl (.ret Ω2) g4
       |exit id=>exact g4.elim
       |pan pv=>obtain⟨v,rfl,hv⟩:=g1;show Leaves P fn a2.tmps _ a2.defers (.panicking [{v,recovered:=false}]) Ω2.w;rw[hds];exact close _ (.panicking [{v,recovered:=true}]) pv v (by simp) (by simp[settle]) (.pan Ω2 pv v hv) g4
      ·exact h4.elim
     ·exact h4.elim
 ·exact h.elim
end
end Go.AL
end
noncomputable section
namespace Go.AL
variable [Tabs]
mutual
def fineV:AV->Bool
 |.lstp _ _ _=>false
 |.tptr _ _ _=>false
 |.gsuf _ _ _ _ _=>false
 |.cptr c=>fineV c
 |.agg cs=>fineVs cs
 |.tup cs=>fineVs cs
 |.fn _ cs=>fineVs cs
 |.iface _ a=>fineV a
 |_=>true
def fineVs:List AV->Bool
 |[]=>true
 |a::r=>fineV a&&fineVs r
end
def Mr:SObj->Bool
 |.box c=>fineV c
 |.tailp _ _ _=>false
 |_=>true
mutual
def strip:AV->AV
 |.lst τ xs _=>.lst τ xs none
 |.agg cs=>.agg (strips cs)
 |.tup cs=>.tup (strips cs)
 |a=>a
def strips:List AV->List AV
 |[]=>[]
 |a::r=>strip a::strips r
end
theorem kV(τ:Ty)(xs:List (den τ)):fy τ τ xs=some xs:=by simp[fy]
theorem DA(n:SN)(x:SD n):l8 n n x=some x:=by simp[l8]
theorem DB(n:SN)(x:Option (SD n)):qh n n x=some x:=by simp[qh]
theorem ud(a:AV):vP a a:=by cases a<;>trivial
mutual
theorem LeV_self(G:List Nat):∀a:AV,fineV a=true->LeV G a a
 |.undef,_=>bU (by simp[LeF])
 |.int k n,_=>bU (by simp[LeF])
 |.bool b,_=>bU (by simp[LeF])
 |.str s,_=>bU (by simp[LeF])
 |.lst τ xs o,_=>bU (by simp[LeF,kV])
 |.nils,_=>bU (by simp[LeF])
 |.ptr i o,_=>bU (by simp[LeF])
 |.nilp,_=>bU (by simp[LeF])
 |.pt n x,_=>bU (by simp[LeF,DB])
 |.st n x,_=>bU (by simp[LeF,DA])
 |.row τ xs,_=>bU (by simp[LeF,kV])
 |.arr i n w,_=>bU (by simp[LeF])
 |.aptr i n w o,_=>bU (by simp[LeF])
 |.map i,_=>bU (by simp[LeF])
 |.glst _ _ _,_=>bU (by simp[LeF])
 |.gptr _ _ _ _ _,_=>bU (by simp[LeF])
 |.gsuf _ _ _ _ _,h=>by simp[fineV]at h
 |.bptr i,_=>bU (by simp[LeF])
 |.nilif,_=>bU (by simp[LeF])
 |.nilm,_=>bU (by simp[LeF])
 |.cptr c,h=>by simp only[fineV]at h;unfold LeV;exact⟨ud c,LeV_self G c h⟩
 |.agg cs,h=>by simp only[fineV]at h;unfold LeV;exact LeL_self G cs h
 |.tup cs,h=>by simp only[fineV]at h;unfold LeV;exact LeL_self G cs h
 |.fn f cs,h=>by simp only[fineV]at h;unfold LeV;exact⟨by simp,LeL_self G cs h⟩
 |.iface t a,h=>by simp only[fineV]at h;unfold LeV;exact⟨by simp,LeV_self G a h⟩
 |.lstp _ _ _,h=>by cases h
 |.tptr _ _ _,h=>by cases h
theorem LeL_self(G:List Nat):∀l:List AV,fineVs l=true->LeL G l l
 |[],_=>by unfold LeL;trivial
 |a::r,h=>by simp only[fineVs,NZ]at h;unfold LeL;exact⟨LeV_self G a h.1,LeL_self G r h.2⟩
end
mutual
theorem LeV_strip(G:List Nat):∀a:AV,fineV a=true->LeV G a (strip a)
 |.lst τ xs o,_=>by unfold strip;exact bU (by simp[LeF,kV])
 |.agg cs,h=>by simp only[fineV]at h;unfold strip LeV;exact LeL_strip G cs h
 |.tup cs,h=>by simp only[fineV]at h;unfold strip LeV;exact LeL_strip G cs h
 |.undef,h=>LeV_self G _ h
 |.int k n,h=>LeV_self G _ h
 |.bool b,h=>LeV_self G _ h
 |.str s,h=>LeV_self G _ h
 |.nils,h=>LeV_self G _ h
 |.ptr i o,h=>LeV_self G _ h
 |.nilp,h=>LeV_self G _ h
 |.pt n x,h=>LeV_self G _ h
 |.st n x,h=>LeV_self G _ h
 |.row τ xs,h=>LeV_self G _ h
 |.arr i n w,h=>LeV_self G _ h
 |.aptr i n w o,h=>LeV_self G _ h
 |.map i,h=>LeV_self G _ h
 |.glst _ _ _,h=>LeV_self G _ h
 |.gptr _ _ _ _ _,h=>LeV_self G _ h
 |.gsuf _ _ _ _ _,h=>LeV_self G _ h
 |.bptr i,h=>LeV_self G _ h
 |.nilif,h=>LeV_self G _ h
 |.nilm,h=>LeV_self G _ h
 |.cptr c,h=>LeV_self G _ h
 |.fn f cs,h=>LeV_self G _ h
 |.iface t a,h=>LeV_self G _ h
 |.lstp _ _ _,h=>by cases h
 |.tptr _ _ _,h=>by cases h
theorem LeL_strip(G:List Nat):∀l:List AV,fineVs l=true->LeL G l (strips l)
 |[],_=>by unfold strips LeL;trivial
 |a::r,h=>by simp only[fineVs,NZ]at h;unfold strips LeL;exact⟨LeV_strip G a h.1,LeL_strip G r h.2⟩
end
theorem AG{G:List Nat}{s:St}:∀(l l':List AV)(k:Nat),LeL G l l'->(∀j,aZ s.t (k+j)=l.getD j .undef)->LeT G s (df k l')
 |[],[],k,_,_=>trivial
 |a::r,b::r',k,h,hg=>by
  unfold LeL at h;refine⟨?_,AG r r' (k+1) h.2 fun j=>?_⟩
  ·have:=hg 0;rw[PR]at this;rw[this];exact h.1
  ·have:=hg (j+1);rw[show k+1+j=k+(j+1) by omega,this];rfl
 |[],_::_,_,h,_=>by unfold LeL at h;exact h.elim
 |_::_,[],_,h,_=>by unfold LeL at h;exact h.elim
theorem ki{G:List Nat}{s:St}:∀l:List (Nat×SObj),(∀x∈l,aj s.b x.1=some x.2/\Mr x.2=true)->LeB G s l
 |[],_=>trivial
 |(i,.box c)::r,h=>by obtain⟨h1,h2⟩:=h _ (Ox ..);refine⟨?_,ki r fun x hx=>h x (Og _ hx)⟩;simp only at h1;rw[h1];exact⟨ud c,LeV_self G c h2⟩
 |(i,.tail τ n)::r,h=>by obtain⟨h1,h2⟩:=h _ (Ox ..);refine⟨?_,ki r fun x hx=>h x (Og _ hx)⟩;simp only at h1;rw[h1];simp
 |(i,.map κ τ m)::r,h=>by obtain⟨h1,h2⟩:=h _ (Ox ..);refine⟨?_,ki r fun x hx=>h x (Og _ hx)⟩;simp only at h1;rw[h1];simp[EJ]
 |(i,.bld t u l)::r,h=>by obtain⟨h1,h2⟩:=h _ (Ox ..);refine⟨?_,ki r fun x hx=>h x (Og _ hx)⟩;simp only at h1;rw[h1];simp
 |(i,.tailp τ n x)::r,h=>by obtain⟨h1,h2⟩:=h _ (Ox ..);cases h2
 |(i,.grow τ n xs)::r,h=>by obtain⟨h1,h2⟩:=h _ (Ox ..);refine⟨?_,ki r fun x hx=>h x (Og _ hx)⟩;simp only at h1;rw[h1];simp[kV]
end Go.AL
end
noncomputable section
namespace Go.AL
def qO(S:List (Nat×SObj))(x:Nat×SObj):Bool:=match aj S x.1 with|some o=>eqO o x.2|none=>false
def Ju:List AV->AV
 |[a]=>a
 |l=>.tup l
def Jv(s:St)(l:List AV):List (Nat×SObj):=
 s.b.filter fun x=>bd x.1||(jR (aj s.b) 64 (ids.idsL l++(aM s.b).filter bd) []).contains x.1
def N4:Bool->List AV->List AV
 |true,l=>l
 |false,l=>strips l
def Jw(tok:Bool)(S:List (Nat×SObj))(s:St)(l:List AV):Option Ans:=
 evVs (N4 tok l) fun l'=>evB (Jv s l') fun kept=>
  match fineVs l&&(kept.all (fun x=>Mr x.2))&&bp (aM s.b)&&(aM S).all (fun i=>(aM kept).contains i)&&
    (bV ((aM s.b).filter fun i=>!(aM kept).contains i) ⟨df 0 l',kept⟩&&((aM s.b).filter fun i=>!(aM kept).contains i).all (fun i=>!bd i))with
  |true=>some ⟨none,none,Ju l',kept.filter fun x=>!qO S x⟩
  |false=>none
theorem rP:∀{l:List (Nat×SObj)},bp (aM l)=true->∀{i:Nat} {o:SObj},(i,o)∈l->aj l i=some o
 |[],_,_,_,h=>by cases h
 |(j,u)::r,hd,i,o,h=>by
  simp only[aM,OJ,bp,NZ,Oa,OZ,OF]at hd;rcases O7.1 h with e|e
  ·cases e;simp[b5,aH]
  ·have hne:¬j=i:=fun q=>hd.1 (OC.2 ⟨_,e,q.symm⟩);simp only[b5,aH,Pa,hne,OL];exact rP hd.2 e
theorem iK(p:Nat×SObj->Bool):∀{l:List (Nat×SObj)},bp (aM l)=true->bp (aM (l.filter p))=true
 |[],_=>rfl
 |x::r,hd=>by
  simp only[aM,OJ,bp,NZ,Oa,OZ,OF]at hd;have ih:=iK p hd.2;rw[List.filter_cons];split
  ·simp only[aM,OJ,bp,NZ,Oa,OZ,OF];refine⟨fun h=>hd.1 ?_,ih⟩;obtain⟨y,hy,e⟩:=OC.1 h;exact OC.2 ⟨y,(OO.1 hy).1,e⟩
  ·exact ih
variable [Tabs]
theorem Jx{l:List (Nat×SObj)}{i:Nat}(h:aj l i=none):i∉aM l:=jY l i h
theorem ue{l:List (Nat×SObj)}{i:Nat}(h:i∉aM l):aj l i=none:=by
 cases hb:aj l i with|none=>rfl|some o=>exact absurd (OC.2 ⟨(i,o),bY l i o hb,rfl⟩) h
theorem Lu{S kept:List (Nat×SObj)}(hd:bp (aM kept)=true)(hS:∀i∈aM S,i∈aM kept):aj (cr S (kept.filter fun x=>!qO S x))=aj kept:=by
 funext i;have hdf:=iK (fun x=>!qO S x) hd;rw[q8 _ S i hdf]
 cases hk:aj kept i with
 |some o=>
  have hm:=bY kept i o hk
  cases hs:qO S (i,o)with
  |false=>have:(i,o)∈kept.filter fun x=>!qO S x:=OO.2 ⟨hm,by rw[hs];rfl⟩;rw[rP hdf this];rfl
  |true=>
   have hn:aj (kept.filter fun x=>!qO S x) i=none:=by
    cases hb:aj (kept.filter fun x=>!qO S x) i with
    |none=>rfl
    |some o'=>have h1:=OO.1 (bY _ i o' hb);have h2:=rP hd h1.1;rw[hk]at h2;cases h2;have h3:=h1.2;rw[hs]at h3;cases h3
   rw[hn];unfold qO at hs;split at hs
   ·rename_i o' ho';simp only at ho' hs;rw[ho',I7 hs];rfl
   ·cases hs
 |none=>
  have h1:i∉aM kept:=Jx hk;rw[ue (l:=S) fun h=>h1 (hS i h),ue fun h=>h1 ?_]
  ·rfl
  ·obtain⟨y,hy,e⟩:=OC.1 h;exact OC.2 ⟨y,(OO.1 hy).1,e⟩
theorem uf{G:List Nat}:∀{l m:List AV},LeL G l m->l.length=m.length
 |[],[],_=>rfl
 |_::_,_::_,h=>by unfold LeL at h;rw[O8,O8,uf h.2]
 |[],_::_,h=>by unfold LeL at h;exact h.elim
 |_::_,[],h=>by unfold LeL at h;exact h.elim
theorem GC{tok:Bool}{S:List (Nat×SObj)}{s:St}{l:List AV}{A:Ans}(h:Jw tok S s l=some A) :
  A.ob=none/\A.pan=none/\∃l' kept,A.val=Ju l'/\l'.length=l.length/\LeS ⟨df 0 l,s.b⟩ ⟨df 0 l',kept⟩/\aj (cr S A.upd)=aj kept:=by
 unfold Jw at h;rw[evVs_eq,ym]at h;split at h
 ·rename_i hc;cases h;simp only[NZ,O9]at hc;obtain⟨⟨⟨⟨h1,h2⟩,h3⟩,h4⟩,h5,h6⟩:=hc;refine⟨rfl,rfl,N4 tok l,Jv s (N4 tok l),rfl,?_,⟨?_,?_,?_⟩,?_⟩
  ·cases tok with|true=>rfl|false=>exact(uf (LeL_strip [] l h1)).symm
  ·rw[O3]
   ·trivial
   ·rw[NZ,O9];exact⟨h5,h6⟩
  ·refine AG l _ 0 ?_ fun j=>?_
   ·cases tok with|true=>exact LeL_self _ l h1|false=>exact LeL_strip _ l h1
   ·show aZ (df 0 l) (0+j)=_;rw[gT];simp
  ·refine ki _ fun x hx=>⟨?_,h2 x hx⟩;exact rP h3 (OO.1 hx).1
  ·refine Lu (iK _ h3) fun i hi=>?_;have:=h4 i hi
   rwa [OZ,O1]at this
 ·cases h
structure FB where
 body:Code
 n:Nat
 res:List ResultVar
 keep:Nat
 pubs:List (Nat×List Nat)
 pend:Nat->Bool
 rows:Nat->Bool
 same:Nat->Bool
 tok:Bool
 ps:List (Option Ty)
def Jy:Option Ty->AV->AV
 |some (.st n),a=>(match arg (.st n) a with|some x=>.st n x|none=>a)
 |_,a=>a
def Fg:List (Option Ty)->List AV->List AV
 |p::ps,a::r=>Jy p a::Fg ps r
 |_,l=>l
def N5(C:Cfg)(N:Nat)(x:FB)(args:List AV)(S:List (Nat×SObj)):Option Ans:=
 evVs (Fg x.ps args) fun args=>evB S fun S=>
  match mU args x.n&&(aM S).all bd with
  |false=>none
  |true=>
   match kg C x.keep x.pubs N x.body ⟨df 0 args,S⟩with
   |some (.normal,s)=>(match l0 C.tbl s x.res with|some l=>Jw x.tok S s l|none=>none)
   |some (.ret,s)=>(match l0 C.tbl s x.res with|some l=>Jw x.tok S s l|none=>none)
   |_=>none
variable {P:Program} {C:Cfg}
theorem Jz(p:Option Ty)(a:AV):Rd a (Jy p a):=by
 unfold Jy;split
 ·split
  ·rename_i x hx;exact Rd.arg hx
  ·exact Rd.refl a
 ·exact Rd.refl a
theorem AH:∀(ps:List (Option Ty))(l:List AV),RdL l (Fg ps l)
 |[],l=>RdL.refl l
 |p::ps,[]=>.nil
 |p::ps,a::r=>.cons (Jz p a) (AH ps r)
theorem runF_meets(hm:P.follows .mixedOrders=true)(hT:aR P C.tbl)(hS:bJ P C.spec){N:Nat}{x:FB}{f:Nat}{fn:Func}(hf:P.funcs[f]?=some fn)(hb:fn.body=some x.body)(hn:fn.ntmps=x.n)(hr:fn.results.toList=x.res)
 (hd:bE x.n x.body=true){args:List AV}{S:List (Nat×SObj)}{A:Ans}(h:N5 C N x args S=some A):ak P f args S A:=by
 refine ak.args (AH x.ps args) ?_;intro w pub e vs hp ht hv hs hdom hinj;unfold N5 at h;rw[evVs_eq,ym]at h;split at h
 ·cases h
 ·rename_i hck;simp only[NZ,O9]at hck;obtain⟨hck2,hck3⟩:=hck;have hlen:=eR _ _ hck2
  have hlent:∀id c,e id=some c->bd id=true:=by
   intro id c hc
   cases hg:aj S id with
   |none=>rw[hdom id hg]at hc;cases hc
   |some o=>exact hck3 id (OC.2 ⟨(id,o),bY _ _ _ hg,rfl⟩)
  have hrun:∃z s',kg C x.keep x.pubs N x.body ⟨df 0 (Fg x.ps args),S⟩=some (z,s')/\(match l0 C.tbl s' x.res with|some l=>Jw x.tok S s' l|none=>none)=some A/\(z=.normal∨z=.ret):=by
   split at h
   ·rename_i s' hz;exact⟨_,s',hz,h,.inl rfl⟩
   ·rename_i s' hz;exact⟨_,s',hz,h,.inr rfl⟩
   ·cases h
  obtain⟨z,s',hz,he,hzz⟩:=hrun;refine calls_of_wp hf hb ?_;have hh:=jc (n:=fn.ntmps) hp ht hv (by rw[hn];exact hlen) hs hdom hinj hlent;rw[<-hn]at hd;refine Qs (Dy (F:=⟨w,pub,fn.ntmps,e,hlent,[],ht⟩) hm hT hS _ _ N x.body _ z s' _ _ hz hd hh) ?_;intro en a' w' hq;obtain⟨z2,s2,Ω',h1,h2,h3,h4,h5⟩:=hq;subst h2 h4 h5
  have hmap:∀us,(fn.results.toList.mapM (pQ a'.tmps)).run P Ω'.w=.ok us Ω'.w->
    (results fn a'.tmps).run P Ω'.w=.ok (if h:us.toArray.size=1 then us.toArray[0]else .tuple us.toArray) Ω'.w:=by
   intro us hus;rw[nH,<-PI (xs:=fn.results),QZ];simp only[Ou,Sem.run_map,hus,O6,OR]
  have main:a'.defers=[]/\∃v,(results fn a'.tmps).run P Ω'.w=.ok v Ω'.w/\∃pub' e',(∀b pv u,A.pan=some (b,pv,u)->b=false)/\V ⟨e',Ω'.w,pub'⟩ A.val v/\After w pub e (aj (cr S A.upd)) Ω'.w pub' e':=by
   refine⟨h3.defers,?_⟩;split at he
   ·rename_i l hres;rw[<-hr]at hres;obtain⟨a1,a2,l',kept,a3,a4,a5,a6⟩:=GC he;obtain⟨us,k1,k2⟩:=fS hT h3 _ _ hres;obtain⟨Ω2,e2,hh2⟩:=dy (s:=⟨df 0 l,s2.b⟩) (h3.retmp k2) a5;rw[a3,a6];refine⟨_,hmap us k1,Ω2.pub,Ω2.e,fun b pv u q=>(by rw[a2]at q;cases q),?_,by rw[<-e2];exact fB hh2⟩
    have hval:∀(j:Nat) c v,l'[j]?=some c->us[j]?=some v->V ⟨Ω2.e,Ω'.w,Ω2.pub⟩ c v:=fun j c v hc hv=>by
     have:=hh2.tmps j;simp only[St.abs,gT,Of,P1,QM,O4,hc,OX]at this;have e3:(us.toArray++Array.replicate 0 undef).getD j undef=v:=by simp[Oo,hv]
     rw[e3]at this;rw[<-e2];exact this
    have hlu:l'.length=us.length:=a4.trans k2.1;by_cases h1':us.toArray.size=1
    ·rw[dif_pos h1'];obtain⟨u,rfl⟩:=jd (l:=us) (by simpa using h1');obtain⟨c,rfl⟩:=jd (l:=l') (by rw[hlu];rfl);exact hval 0 c u rfl rfl
    ·rw[dif_neg h1']
     have:Ju l'=.tup l':=by
      match l',hlu with
      |[],_=>rfl
      |[c],q=>exact absurd (by simpa using q.symm) h1'
      |_::_::_,_=>rfl
     rw[this];exact .tup l' us hlu hval
   ·cases he
  rcases hzz with rfl|rfl
  ·cases h1;exact main
  ·cases h1;exact main
def Fh:List (Nat×FB)->Nat->Option FB
 |[],_=>none
 |(j,x)::r,f=>if Nat.beq j f=true then some x else Fh r f
def lZ(tbl:List (Nat×TR))(fn:Func)(keep:Nat)(pubs:List (Nat×List Nat))(pend rows same:Nat->Bool)(tok:Bool):FB:=
 ⟨fn.body.getD .skip,fn.ntmps,fn.results.toList,keep,pubs,pend,rows,same,tok,fn.params.toList.map fun t=>(aB tbl t).bind (·.ty)⟩
def fbok(fn:Func):Bool:=match fn.body with | none=>false | some c=>bE fn.ntmps c && !(fn.name == "runtime.NumGoroutine")
def iP(P:Program)(tab:List (Nat×FB)):Prop:=∀f x,Fh tab f=some x->
 ∃fn,P.funcs[f]?=some fn/\fn.body=some x.body/\fn.ntmps=x.n/\fn.results.toList=x.res/\bE x.n x.body=true/\(fn.name == "runtime.NumGoroutine")=false
theorem iP.nil:iP P []:=fun f x h=>by cases h
theorem iP.cons{tbl:List (Nat×TR)}{f:Nat}{fn:Func}{keep:Nat}{pubs:List (Nat×List Nat)}{pend rows same:Nat->Bool}{tok:Bool}{tab:List (Nat×FB)}(hf:P.funcs[f]?=some fn)(hc:fbok fn=true)(ht:iP P tab) :
  iP P ((f,lZ tbl fn keep pubs pend rows same tok)::tab):=by
 intro g x h;unfold Fh at h;split at h
 ·rename_i hb;obtain rfl:=On hb;cases h;unfold fbok at hc;split at hc
  ·cases hc
  ·rename_i c hb';simp only[NZ,Oa]at hc;exact⟨fn,hf,by simp[lZ,hb'],rfl,rfl,by simpa[lZ,hb']using hc.1,hc.2⟩
 ·exact ht g x h
def AI(tbl:List (Nat×TR))(tab:List (Nat×FB))(keeps:Nat->Bool)(lends:Nat->List (Option Nat))(N:Nat)(base:Nat->List AV->List (Nat×SObj)->Option Ans) :
  Nat->Nat->List AV->List (Nat×SObj)->Option Ans
 |0,f,us,S=>base f us S
 |n+1,f,us,S=>
  match base f us S with
  |some A=>some A
  |none=>
  match Fh tab f with
  |none=>none
  |some x=>N5 ⟨tbl,AI tbl tab keeps lends N base n,keeps,lends,x.pend,x.rows,x.same⟩ N x us S
theorem Fi{tbl:List (Nat×TR)}{tab:List (Nat×FB)}{keeps:Nat->Bool}{lends:Nat->List (Option Nat)}{N:Nat}{base:Nat->List AV->List (Nat×SObj)->Option Ans}
 (hm:P.follows .mixedOrders=true)(hT:aR P tbl)(hB:bJ P base)(ht:iP P tab):∀n:Nat,bJ P (AI tbl tab keeps lends N base n)
 |0=>hB
 |n+1=>by
  intro f args S A h ho hl;unfold AI at h;split at h
  ·rename_i A' hb;cases h;exact hB f args S A hb ho hl
  split at h
  ·cases h
  ·rename_i x hx;obtain⟨fn,h1,h2,h3,h4,h5,h6⟩:=ht f x hx;exact⟨⟨fn,h1,by rw[h2];rfl,h6⟩,runF_meets hm hT (Fi hm hT hB ht n) h1 h2 h3 h4 h5 h⟩
theorem mL{tbl:List (Nat×TR)}{tab:List (Nat×FB)}{keeps:Nat->Bool}{lends:Nat->List (Option Nat)}{N n f:Nat}{base:Nat->List AV->List (Nat×SObj)->Option Ans}{args:List AV}{v:AV}{u:List (Nat×SObj)}
 (hm:P.follows .mixedOrders=true)(hT:aR P tbl)(hB:bJ P base)(ht:iP P tab)(h:AI tbl tab keeps lends N base n f args []=some ⟨none,none,v,u⟩):ak P f args [] ⟨none,none,v,u⟩:=
 (Fi hm hT hB ht n f args [] _ h (fun _ q=>by cases q) rfl).2
end Go.AL
end
noncomputable section
namespace Go.AL
variable [Tabs] {P:Program}
def q1(τ:Ty)(b:den τ->Bool)(F:den τ->AV):Pat
 |[a],[]=>(match arg τ a with|some x=>(match b x with|true=>some (.ret (F x))|false=>none)|none=>none)
 |_,_=>none
theorem JA{f:Nat}{τ:Ty}{b:den τ->Bool}{F:den τ->AV}{O:den τ->Prop}(h:ah P f (p1 τ fun x=>⟨some (O x),none,F x,[]⟩))(hb:∀x,b x=true->O x):ah P f (q1 τ b F):=by
 intro args S A hA ho hl;unfold q1 at hA;split at hA
 ·rename_i a;split at hA
  ·rename_i x hx;split at hA
   ·rename_i ht;cases hA;have k:=h [a] [] ⟨some (O x),none,F x,[]⟩ (by simp[p1,hx]) (fun q hq=>by cases hq;exact hb x ht) hl;exact⟨k.1,k.2⟩
   ·cases hA
  ·cases hA
 ·cases hA
def q2(τ σ:Ty)(b:den τ->den σ->Bool)(F:den τ->den σ->AV):Pat
 |[a,c],[]=>(match arg τ a,arg σ c with|some x,some y=>(match b x y with|true=>some (.ret (F x y))|false=>none)|_,_=>none)
 |_,_=>none
theorem Fj{f:Nat}{τ σ:Ty}{b:den τ->den σ->Bool}{F:den τ->den σ->AV}{O:den τ->den σ->Prop}(h:ah P f (p2 τ σ fun x y=>⟨some (O x y),none,F x y,[]⟩))(hb:∀x y,b x y=true->O x y):ah P f (q2 τ σ b F):=by
 intro args S A hA ho hl;unfold q2 at hA;split at hA
 ·rename_i a c;split at hA
  ·rename_i x y hx hy;split at hA
   ·rename_i ht;cases hA;have k:=h [a,c] [] ⟨some (O x y),none,F x y,[]⟩ (by simp[p2,hx,hy]) (fun q hq=>by cases hq;exact hb x y ht) hl;exact⟨k.1,k.2⟩
   ·cases hA
  ·cases hA
 ·cases hA
def Fk(as0:List AV)(v:AV):Pat:=fun args S=>match eqVs as0 args,S with|true,[]=>some (.ret v)|_,_=>none
theorem Fl{f:Nat}{as0:List AV}{v:AV}(he:Enters P f)(h:ak P f as0 [] (.ret v)):ah P f (Fk as0 v):=by
 intro args S A hA ho hl;unfold Fk at hA;split at hA
 ·rename_i heq;cases hA;rw[<-eqVs_ok _ _ heq];exact⟨he,h⟩
 ·cases hA
def t1(τ:Ty)(b:den τ->Bool):List AV->List (Nat×SObj)->Bool
 |[a],_=>(match arg τ a with|some x=>b x|none=>false)
 |_,_=>false
end Go.AL
end
section
open Go Go.AL Go.Proofs
namespace Go.AL.Seat
variable [Tabs]
def r1:TR:=⟨.other,1,8,[.undef],none⟩
def r2:TR:=⟨.int .i64,1,8,[.int .i64 0],some (.int .i64)⟩
def r5:TR:=⟨.int .u8,1,1,[.int .u8 0],some (.int .u8)⟩
def r7:TR:=⟨.strct true [(0,2),(1,3),(2,4),(3,6)],4,24,[.int .i64 0,.int .i64 0,.bool false,.int .u8 0],none⟩
def r9:TR:=⟨.str,1,16,[.str []],some .str⟩
def r12:TR:=⟨.int .u64,1,8,[.int .u64 0],some (.int .u64)⟩
def r13:TR:=⟨.strct false [(0,9),(1,12)],2,24,[.str [],.int .u64 0],none⟩
def r18:TR:=⟨.strct false [(0,17)],1,8,[.nilp],none⟩
def r20:TR:=⟨.iface,1,16,[.nilif],none⟩
def r21:TR:=⟨.int .i32,1,4,[.int .i32 0],some (.int .i32)⟩
def r75:TR:=⟨.strct false [(0,74)],4,88,[.str [],.nils,.nils,.nils],none⟩
def r78:TR:=⟨.strct false [(0,76),(4,77)],5,96,[.str [],.nils,.nils,.nils,.nilm],none⟩
def r96:TR:=⟨.strct true [(0,9),(1,9)],2,32,[.str [],.str []],none⟩
def r97:TR:=⟨.strct true [(0,9),(1,9)],2,32,[.str [],.str []],some (.st .nm)⟩
def r99:TR:=⟨.map 97 3,1,8,[.nilm],none⟩
def GD:TR:=⟨.strct false [(0,139),(1,3),(2,34)],4,48,[.nils,.int .i64 0,.int .i64 0,.int .i64 0],none⟩
def Lv:TR:=⟨.strct false [(0,144),(4,26)],9,144,[.nils,.int .i64 0,.int .i64 0,.int .i64 0,.str [],.nils,.nils,.nils,.int .i64 0],none⟩
def GF:TR:=⟨.strct false [],0,0,[],none⟩
def Lw:TR:=⟨.strct true [(0,9),(1,3)],2,24,[.str [],.int .i64 0],none⟩
def Lx:TR:=⟨.strct false [(0,196),(2,139),(3,34)],5,64,[.str [],.int .i64 0,.nils,.int .i64 0,.int .i64 0],none⟩
def r225:TR:=⟨.strct false [(0,224)],1,8,[.nilm],none⟩
def GG:TR:=⟨.strct true [(0,3),(1,3),(2,3),(3,3)],4,32,[.int .i64 0,.int .i64 0,.int .i64 0,.int .i64 0],none⟩
def r326:TR:=⟨.strct true [(0,5),(1,5)],2,2,[.int .u8 0,.int .u8 0],none⟩
def r350:TR:=⟨.strct false [(0,9),(1,9),(2,285)],3,48,[.str [],.str [],.nilif],none⟩
def r354:TR:=⟨.strct false [(0,353)],1,8,[.undef],none⟩
def r362:TR:=⟨.strct true [(0,9)],1,16,[.str []],none⟩
def r375:TR:=⟨.strct false [(0,17),(1,17),(2,17),(3,9)],4,40,[.nilp,.nilp,.nilp,.str []],none⟩
def r386:TR:=⟨.strct false [(0,12),(1,12),(2,187),(3,381),(4,5),(5,5),(6,382),(7,383),(8,360),(9,384),(10,385)],11,48,[.int .u64 0,.int .u64 0,.int .u32 0,.int .u8 0,.int .u8 0,.int .u8 0,.int .u8 0,.undef,.nilp,.int .i32 0,.int .i32 0],none⟩
def r63:TR:=⟨.strct false [(0,3),(1,9),(2,9),(3,3),(4,24),(5,24),(6,45),(7,61),(8,3)],9,152,[.int .i64 0,.str [],.str [],.int .i64 0,.nils,.nils,.nils,.nils,.int .i64 0],some (.st .term)⟩
def r47:TR:=⟨.strct false [(0,3),(1,9),(2,9),(3,24),(4,45)],5,88,[.int .i64 0,.str [],.str [],.nils,.nils],some (.st .shape)⟩
def r149:TR:=⟨.strct true [(0,3),(1,9),(2,3)],3,32,[.int .i64 0,.str [],.int .i64 0],some (.st .token)⟩
def r24:TR:=⟨.slice 9,1,24,[.nils],some (.lst .str)⟩
def r253:TR:=⟨.strct false [(0,251)],4,48,[.nils,.int .i64 0,.int .i64 0,.int .i64 0],some (.st .par)⟩
def r248:TR:=⟨.ptr 253,1,8,[.nilp],none⟩
def r38:TR:=⟨.strct true [(0,3),(1,3),(2,3),(3,9)],4,40,[.int .i64 0,.int .i64 0,.int .i64 0,.str []],some (.st .version)⟩
def r34:TR:=⟨.strct true [(0,32),(1,3)],2,16,[.int .i64 0,.int .i64 0],some (.st .fault)⟩
def r45:TR:=⟨.slice 47,1,24,[.nils],some (.lst (.st .shape))⟩
def r4:TR:=⟨.bool,1,1,[.bool false],some .bool⟩
def r61:TR:=⟨.slice 63,1,24,[.nils],some (.lst (.st .term))⟩
def r251:TR:=⟨.strct false [(0,139),(1,3),(2,34)],4,48,[.nils,.int .i64 0,.int .i64 0,.int .i64 0],some (.st .par)⟩
def r139:TR:=⟨.slice 149,1,24,[.nils],some (.lst (.st .token))⟩
def r26:TR:=⟨.strct false [(0,9),(1,22),(2,23),(3,24),(4,3)],5,96,[.str [],.nils,.nils,.nils,.int .i64 0],some (.st .modu)⟩
def Ly:TR:=⟨.slice 3,1,24,[.nils],some (.lst (.int .i64))⟩
def r194:TR:=⟨.ptr 198,1,8,[.nilp],none⟩
def r65:TR:=⟨.strct false [(0,3),(1,9),(2,47),(7,63),(16,3)],17,272,[.int .i64 0,.str [],.int .i64 0,.str [],.str [],.nils,.nils,.int .i64 0,.str [],.str [],.int .i64 0,.nils,.nils,.nils,.nils,.int .i64 0,.int .i64 0],some (.st .decl)⟩
def r39:TR:=⟨.slice 59,1,24,[.nils],some (.lst (.st .bound))⟩
def r41:TR:=⟨.strct false [(0,9),(1,38),(5,39),(6,3)],7,88,[.str [],.int .i64 0,.int .i64 0,.int .i64 0,.str [],.nils,.int .i64 0],some (.st .imp)⟩
def r59:TR:=⟨.strct true [(0,3),(1,38)],5,48,[.int .i64 0,.int .i64 0,.int .i64 0,.int .i64 0,.str []],some (.st .bound)⟩
def r22:TR:=⟨.slice 41,1,24,[.nils],some (.lst (.st .imp))⟩
def N6:TR:=⟨.slice 5,1,24,[.nils],some (.lst (.int .u8))⟩
def r247:TR:=⟨.map 9 3,1,8,[.nilm],none⟩
def r23:TR:=⟨.slice 65,1,24,[.nils],some (.lst (.st .decl))⟩
def r283:TR:=⟨.arr 3 3,3,24,[.int .i64 0,.int .i64 0,.int .i64 0],none⟩
def r252:TR:=⟨.strct false [(0,251)],4,48,[.nils,.int .i64 0,.int .i64 0,.int .i64 0],none⟩
def r58:TR:=⟨.strct true [(0,3),(1,38)],5,48,[.int .i64 0,.int .i64 0,.int .i64 0,.int .i64 0,.str []],none⟩
def r46:TR:=⟨.strct false [(0,3),(1,9),(2,9),(3,24),(4,45)],5,88,[.int .i64 0,.str [],.str [],.nils,.nils],none⟩
def r62:TR:=⟨.strct false [(0,3),(1,9),(2,9),(3,3),(4,24),(5,24),(6,45),(7,61),(8,3)],9,152,[.int .i64 0,.str [],.str [],.int .i64 0,.nils,.nils,.nils,.nils,.int .i64 0],none⟩
def r64:TR:=⟨.strct false [(0,3),(1,9),(2,47),(7,63),(16,3)],17,272,[.int .i64 0,.str [],.int .i64 0,.str [],.str [],.nils,.nils,.int .i64 0,.str [],.str [],.int .i64 0,.nils,.nils,.nils,.nils,.int .i64 0,.int .i64 0],none⟩
def r37:TR:=⟨.strct true [(0,3),(1,3),(2,3),(3,9)],4,40,[.int .i64 0,.int .i64 0,.int .i64 0,.str []],none⟩
def r40:TR:=⟨.strct false [(0,9),(1,38),(5,39),(6,3)],7,88,[.str [],.int .i64 0,.int .i64 0,.int .i64 0,.str [],.nils,.int .i64 0],none⟩
def r148:TR:=⟨.strct true [(0,3),(1,9),(2,3)],3,32,[.int .i64 0,.str [],.int .i64 0],none⟩
def r33:TR:=⟨.strct true [(0,32),(1,3)],2,16,[.int .i64 0,.int .i64 0],none⟩
def r25:TR:=⟨.strct false [(0,9),(1,22),(2,23),(3,24),(4,3)],5,96,[.str [],.nils,.nils,.nils,.int .i64 0],none⟩
def r121:TR:=⟨.strct false [(0,9),(1,9),(2,47)],7,120,[.str [],.str [],.int .i64 0,.str [],.str [],.nils,.nils],some (.st .bind)⟩
def r49:TR:=⟨.strct false [(0,3),(1,9),(2,47)],7,112,[.int .i64 0,.str [],.int .i64 0,.str [],.str [],.nils,.nils],some (.st .item)⟩
def r31:TR:=⟨.slice 49,1,24,[.nils],some (.lst (.st .item))⟩
def r43:TR:=⟨.strct false [(0,9),(1,31)],2,40,[.str [],.nils],some (.st .dep)⟩
def r27:TR:=⟨.slice 43,1,24,[.nils],some (.lst (.st .dep))⟩
def r71:TR:=⟨.slice 121,1,24,[.nils],some (.lst (.st .bind))⟩
def r120:TR:=⟨.strct false [(0,9),(1,9),(2,47)],7,120,[.str [],.str [],.int .i64 0,.str [],.str [],.nils,.nils],none⟩
def r42:TR:=⟨.strct false [(0,9),(1,31)],2,40,[.str [],.nils],none⟩
def r48:TR:=⟨.strct false [(0,3),(1,9),(2,47)],7,112,[.int .i64 0,.str [],.int .i64 0,.str [],.str [],.nils,.nils],none⟩
def r94:TR:=⟨.strct true [(0,3),(1,9)],2,24,[.int .i64 0,.str []],some (.st .change)⟩
def r54:TR:=⟨.slice 97,1,24,[.nils],some (.lst (.st .nm))⟩
def r91:TR:=⟨.slice 94,1,24,[.nils],some (.lst (.st .change))⟩
def r93:TR:=⟨.strct true [(0,3),(1,9)],2,24,[.int .i64 0,.str []],none⟩
def tbl:List (Nat×TR):=[(1,r1),
 (2,r2),
 (3,r2),
 (4,r4),
 (5,r5),
 (6,r5),
 (7,r7),
 (8,r7),
 (9,r9),
 (10,r9),
 (11,r9),
 (12,r12),
 (13,r13),
 (14,r13),
 (15,⟨.ptr 376,1,8,[.nilp],none⟩),
 (16,⟨.ptr 379,1,8,[.nilp],none⟩),
 (17,⟨.ptr 387,1,8,[.nilp],none⟩),
 (18,r18),
 (19,r18),
 (20,r20),
 (21,r21),
 (22,r22),
 (23,r23),
 (24,r24),
 (25,r25),
 (26,r26),
 (27,r27),
 (28,r1),
 (29,r1),
 (30,r1),
 (31,r31),
 (32,r2),
 (33,r33),
 (34,r34),
 (36,r1),
 (37,r37),
 (38,r38),
 (39,r39),
 (40,r40),
 (41,r41),
 (42,r42),
 (43,r43),
 (44,r1),
 (45,r45),
 (46,r46),
 (47,r47),
 (48,r48),
 (49,r49),
 (50,r1),
 (51,r1),
 (52,r1),
 (53,⟨.slice 26,1,24,[.nils],some (.lst (.st .modu))⟩),
 (54,r54),
 (55,r1),
 (56,r1),
 (57,r1),
 (58,r58),
 (59,r59),
 (60,r1),
 (61,r61),
 (62,r62),
 (63,r63),
 (64,r64),
 (65,r65),
 (66,r1),
 (68,r1),
 (69,r1),
 (70,⟨.ptr 79,1,8,[.nilp],none⟩),
 (71,r71),
 (72,r1),
 (73,⟨.strct false [(0,9),(1,71),(2,71),(3,71)],4,88,[.str [],.nils,.nils,.nils],none⟩),
 (74,⟨.strct false [(0,9),(1,71),(2,71),(3,71)],4,88,[.str [],.nils,.nils,.nils],some (.st .env)⟩),
 (75,r75),
 (76,r75),
 (77,⟨.map 9 49,1,8,[.nilm],none⟩),
 (78,r78),
 (79,r78),
 (80,r1),
 (81,r1),
 (83,r1),
 (84,r1),
 (85,r1),
 (86,r1),
 (87,r1),
 (88,r1),
 (90,r1),
 (91,r91),
 (92,r1),
 (93,r93),
 (94,r94),
 (95,r1),
 (96,r96),
 (97,r97),
 (98,r1),
 (99,r99),
 (100,r99),
 (101,r1),
 (102,r1),
 (103,r1),
 (104,r1),
 (105,r1),
 (106,r1),
 (107,r1),
 (108,r1),
 (109,r1),
 (110,r1),
 (111,r1),
 (112,r1),
 (113,r1),
 (114,r1),
 (115,r1),
 (116,r1),
 (117,r1),
 (118,r1),
 (119,r1),
 (120,r120),
 (121,r121),
 (122,r1),
 (123,r1),
 (124,r1),
 (125,r1),
 (126,r1),
 (128,r1),
 (130,r1),
 (132,r1),
 (133,r1),
 (134,r1),
 (135,r1),
 (136,r12),
 (138,r1),
 (139,r139),
 (141,r1),
 (142,⟨.ptr 146,1,8,[.nilp],none⟩),
 (143,GD),
 (144,GD),
 (145,Lv),
 (146,Lv),
 (147,r1),
 (148,r148),
 (149,r149),
 (150,r1),
 (151,r1),
 (152,r1),
 (153,r1),
 (154,r1),
 (155,Ly),
 (156,r1),
 (157,r1),
 (158,r1),
 (159,r1),
 (160,r1),
 (161,r1),
 (162,r1),
 (163,r1),
 (164,r1),
 (165,r1),
 (166,r1),
 (167,r1),
 (168,r1),
 (169,r1),
 (170,r1),
 (171,⟨.ptr 76,1,8,[.nilp],none⟩),
 (172,r1),
 (174,r1),
 (175,⟨.ptr 226,1,8,[.nilp],none⟩),
 (176,r1),
 (177,r1),
 (178,r1),
 (179,r2),
 (181,r1),
 (182,r1),
 (183,r1),
 (185,r1),
 (186,r1),
 (187,⟨.int .u32,1,4,[.int .u32 0],some (.int .u32)⟩),
 (188,r1),
 (189,r12),
 (190,GF),
 (191,GF),
 (193,r1),
 (194,r194),
 (195,Lw),
 (196,Lw),
 (197,Lx),
 (198,Lx),
 (199,r1),
 (200,r1),
 (201,r1),
 (202,⟨.ptr 144,1,8,[.nilp],none⟩),
 (203,r1),
 (204,r1),
 (205,r1),
 (206,r1),
 (207,r1),
 (209,r1),
 (211,r1),
 (212,r1),
 (213,r1),
 (214,r1),
 (215,r1),
 (216,r1),
 (218,r1),
 (219,r1),
 (220,r1),
 (221,r1),
 (222,r96),
 (223,r97),
 (224,⟨.map 223 47,1,8,[.nilm],none⟩),
 (225,r225),
 (226,r225),
 (227,r1),
 (228,r12),
 (229,r1),
 (230,r1),
 (231,r1),
 (232,⟨.ptr 3,1,8,[.nilp],none⟩),
 (233,r1),
 (234,⟨.ptr 196,1,8,[.nilp],none⟩),
 (236,r1),
 (237,r1),
 (238,r1),
 (239,r1),
 (241,r1),
 (243,r1),
 (244,r1),
 (245,r1),
 (246,r1),
 (247,r247),
 (248,r248),
 (249,r1),
 (250,GD),
 (251,r251),
 (252,r252),
 (253,r253),
 (254,r1),
 (255,r1),
 (256,r1),
 (257,r1),
 (258,r1),
 (259,r1),
 (260,r1),
 (261,r1),
 (262,r1),
 (263,r1),
 (264,r1),
 (265,r1),
 (266,r1),
 (267,r1),
 (268,r1),
 (269,r1),
 (270,⟨.ptr 228,1,8,[.nilp],none⟩),
 (271,r1),
 (273,r1),
 (274,r1),
 (278,r1),
 (279,r1),
 (280,⟨.ptr 276,1,8,[.nilp],none⟩),
 (282,r1),
 (283,r283),
 (284,r20),
 (285,r20),
 (287,r1),
 (288,N6),
 (289,r1),
 (290,r1),
 (291,r1),
 (292,⟨.ptr 251,1,8,[.nilp],none⟩),
 (293,r1),
 (294,r1),
 (295,r1),
 (296,r1),
 (297,r1),
 (298,r1),
 (299,GG),
 (300,GG),
 (301,r1),
 (302,r1),
 (303,r1),
 (304,r1),
 (305,r1),
 (306,r1),
 (307,r1),
 (308,r1),
 (310,r1),
 (311,r1),
 (312,r1),
 (313,r1),
 (314,r1),
 (315,r1),
 (316,r1),
 (317,r1),
 (318,r1),
 (319,r1),
 (320,r1),
 (321,r1),
 (322,r1),
 (323,r1),
 (324,r1),
 (326,r326),
 (327,r326),
 (329,r1),
 (330,r2),
 (332,r1),
 (333,⟨.ptr 351,1,8,[.nilp],none⟩),
 (334,r1),
 (335,r1),
 (336,r1),
 (338,r1),
 (339,r1),
 (340,r1),
 (341,r1),
 (342,⟨.ptr 355,1,8,[.nilp],none⟩),
 (343,r1),
 (344,r1),
 (345,r1),
 (346,r1),
 (348,r1),
 (349,r1),
 (350,r350),
 (351,r350),
 (352,r1),
 (353,r1),
 (354,r354),
 (355,r354),
 (356,⟨.ptr 47,1,8,[.nilp],none⟩),
 (357,r1),
 (358,r1),
 (359,r1),
 (360,⟨.ptr 5,1,8,[.nilp],none⟩),
 (361,⟨.ptr 363,1,8,[.nilp],none⟩),
 (362,r362),
 (363,r362),
 (364,r1),
 (366,r1),
 (368,r1),
 (369,r1),
 (374,r1),
 (375,r375),
 (376,r375),
 (380,r1),
 (381,r5),
 (382,r5),
 (383,r1),
 (384,r21),
 (385,r21),
 (386,r386),
 (387,r386)]
theorem tk{t:Nat}{r:TR}(h1:(Tryz.prog.info? t).map (fun i=>(i.size,i.bytes,i.zero.map fun z=>z.cells.toList.map cm))=some (r.size,r.bytes,some r.zero):=by kernel_rfl)
 (h2:(Tryz.prog.underlying t).map (aD Tryz.prog r.ti)=some true:=by kernel_rfl)
 (h3:(ga r.zero r.size&&(Nat.beq r.size 0||Nat.blt 0 r.bytes)&&(match r.ty with | some τ=>Nat.beq (ab τ) r.size&&(KM τ ==r.isAgg) | none=>true))=true:=by kernel_rfl)
 (h8:(Tryz.prog.info? t).map (fun i=>i.zero.map fun z=>Cq z ==r.isAgg)=some (some true):=by kernel_rfl)
 (h9:(match r.ti with|.strct true _=>!Tryz.prog.stoodInHeld t&&!Tryz.prog.eqGuardType Tryz.prog.depth t|_=>true)=true:=by kernel_rfl):TRok Tryz.prog t r:=TRok.mk' h1 h2 h3 h8 h9
theorem ug:aR Tryz.prog tbl:=by
 unfold tbl
 repeat (first|exact aR.nil|refine aR.cons tk ?_)
theorem mixed:Tryz.prog.follows .mixedOrders=true:=by kernel_rfl
end Go.AL.Seat
end
section
namespace Go.Proofs
open Go.Shelf
def Tryz.sortf61_ren:Go.Shelf.Ren:=⟨fun|6=>198|15=>63|14=>252|28=>113|29=>114|20=>282|21=>283|22=>284|23=>285|24=>286|25=>287|26=>288|27=>289|46=>307|47=>152|48=>153|49=>308|50=>309|57=>318|n=>n,fun|22=>155|24=>3|25=>215|3=>3|39=>136|0=>0|53=>187|55=>189|4=>4|46=>180|45=>179|50=>184|5=>5|9=>9|66=>228|70=>232|76=>270|77=>217|n=>n,fun|n=>n⟩
theorem Tryz.sortf61:Go.Proofs.SlLaysF.n6 Tryz.prog Tryz.sortf61_ren:={
 mixed:=by kernel_rfl
 f6:=⟨Tryz.f198.name,by decide,Xt Tryz.func198⟩
 f14:=⟨Tryz.f252.name,by decide,Xt Tryz.func252⟩
 f15:=Xt Tryz.func63
 f20:=⟨Tryz.f282.name,by decide,Xt Tryz.func282⟩
 f21:=⟨Tryz.f283.name,by decide,Xt Tryz.func283⟩
 f22:=⟨Tryz.f284.name,by decide,Xt Tryz.func284⟩
 f23:=⟨Tryz.f285.name,by decide,Xt Tryz.func285⟩
 f24:=⟨Tryz.f286.name,by decide,Xt Tryz.func286⟩
 f25:=⟨Tryz.f287.name,by decide,Xt Tryz.func287⟩
 f26:=⟨Tryz.f288.name,by decide,Xt Tryz.func288⟩
 f27:=⟨Tryz.f289.name,by decide,Xt Tryz.func289⟩
 f28:=Xt Tryz.func113
 f29:=Xt Tryz.func114
 f46:=⟨Tryz.f307.name,by decide,Xt Tryz.func307⟩
 f47:=Xt Tryz.func152
 f48:=Xt Tryz.func153
 f49:=⟨Tryz.f308.name,by decide,Xt Tryz.func308⟩
 f50:=⟨Tryz.f309.name,by decide,Xt Tryz.func309⟩
 f57:=⟨Tryz.f318.name,by decide,Xt Tryz.func318⟩
 t0:=Tryz.underlying0
 a0:=Tryz.isAgg0
 z0:=Tryz.sizeOf0
 v0:=Tryz.zeroValue0
 t3:=Tryz.underlying3
 a3:=Tryz.isAgg3
 z3:=Tryz.sizeOf3
 v3:=Tryz.zeroValue3
 t4:=Tryz.underlying4
 a4:=Tryz.isAgg4
 z4:=Tryz.sizeOf4
 v4:=Tryz.zeroValue4
 t5:=Tryz.underlying5
 a5:=Tryz.isAgg5
 z5:=Tryz.sizeOf5
 v5:=Tryz.zeroValue5
 t9:=Tryz.underlying9
 a9:=Tryz.isAgg9
 z9:=Tryz.sizeOf9
 v9:=Tryz.zeroValue9
 t22:=Tryz.underlying155
 a22:=Tryz.isAgg155
 z22:=Tryz.sizeOf155
 v22:=Tryz.zeroValue155
 a24:=Tryz.isAgg3
 z24:=Tryz.sizeOf3
 t25:=Tryz.underlying215
 a25:=Tryz.isAgg215
 z25:=Tryz.sizeOf215
 v25:=Tryz.zeroValue215
 t39:=Tryz.underlying136
 a39:=Tryz.isAgg136
 z39:=Tryz.sizeOf136
 v39:=Tryz.zeroValue136
 t45:=Tryz.underlying179
 a45:=Tryz.isAgg179
 z45:=Tryz.sizeOf179
 v45:=Tryz.zeroValue179
 t46:=Tryz.underlying180
 a46:=Tryz.isAgg180
 z46:=Tryz.sizeOf180
 v46:=Tryz.zeroValue180
 t50:=Tryz.underlying184
 a50:=Tryz.isAgg184
 z50:=Tryz.sizeOf184
 v50:=Tryz.zeroValue184
 t53:=Tryz.underlying187
 a53:=Tryz.isAgg187
 z53:=Tryz.sizeOf187
 v53:=Tryz.zeroValue187
 t55:=Tryz.underlying189
 a55:=Tryz.isAgg189
 z55:=Tryz.sizeOf189
 v55:=Tryz.zeroValue189
 t66:=Tryz.underlying228
 a66:=Tryz.isAgg228
 z66:=Tryz.sizeOf228
 v66:=Tryz.zeroValue228
 t70:=Tryz.underlying232
 a70:=Tryz.isAgg232
 z70:=Tryz.sizeOf232
 v70:=Tryz.zeroValue232
 t76:=Tryz.underlying270
 a76:=Tryz.isAgg270
 z76:=Tryz.sizeOf270
 v76:=Tryz.zeroValue270
 t77:=Tryz.underlying217
 a77:=Tryz.isAgg217
 z77:=Tryz.sizeOf217
 v77:=Tryz.zeroValue217}
end Go.Proofs
end
section
namespace Go.Proofs
open Go.Shelf
def Tryz.lays106_ren:Go.Shelf.Ren:=⟨fun|106=>27|213=>64|265=>115|n=>n,fun|9=>9|3=>3|n=>n,fun|n=>n⟩
theorem Tryz.lays106:Go.Proofs.Lays.n106 Tryz.prog Tryz.lays106_ren:={
 mixed:=by kernel_rfl
 f106:=Xt Tryz.func27
 f213:=Xt Tryz.func64
 f265:=Xt Tryz.func115
 t3:=Tryz.underlying3
 a3:=Tryz.isAgg3
 z3:=Tryz.sizeOf3
 v3:=Tryz.zeroValue3
 t9:=Tryz.underlying9
 a9:=Tryz.isAgg9
 z9:=Tryz.sizeOf9
 v9:=Tryz.zeroValue9}
end Go.Proofs
end
section
namespace Go.Proofs
open Go.RowKit Go.Shelf Go.AL
theorem Tryz.compare(a b:ByteArray)(w:World):Calls Tryz.prog 27 #[.string a,.string b] w fun e w'=>e=.returned (.int .i64 (Lib.compareBytes a.data.toList b.data.toList))/\w'=w:=Any.strings_Compare Tryz.lays106 a b w
set_option maxRecDepth 100000 in
set_option maxHeartbeats 2000000 in
theorem Tryz.cmp62(W:World)(b o g off cap len i j:Nat)(si sj:Str)(h1:W.cell? ⟨b,o+3,none⟩=some (.slice (some ⟨g,off,none⟩) len cap))(hi:i<len)(hj:j<len)(ci:W.cell? ⟨g,off+i,none⟩=some (encStr si))(cj:W.cell? ⟨g,off+j,none⟩=some (encStr sj)) :
  Calls Tryz.prog 199 #[.int .i64 i,.int .i64 j,.pointer (some ⟨b,o,none⟩)] W fun e w'=>e=.returned (.int .i64 (Lib.compareBytes si sj))/\∃q,w'=W.drewN q:=by
 go_enter Tryz.func199,Tryz.ntmps199
 go_wp2
 go_quiet (first|(go_at_call 27;refine Calls.quiet_of_same (Tryz.compare _ _ _)))
 go_wp2
 go_ret
 exact⟨rfl,_,rfl⟩
end Go.Proofs
end
section
namespace Go.AL.Seat
open Go Go.AL Go.Proofs Go.Shelf
variable [Tabs]
theorem yp:ah Tryz.prog 198 (lP 199):=
 tC Tryz.sortf61 rfl (enters_of Tryz.func199 (by kernel_rfl) rfl) (fun W b o g0 off cap len i j si sj h1 h2 h3 h4 h5=>Tryz.cmp62 W b o g0 off cap len i j si sj h1 h2 h3 h4 h5) (Enters.mk' Tryz.func198 (by kernel_rfl))
end Go.AL.Seat
end
section
namespace Go.AL
open Go.Shelf Go.Proofs Go.RowKit
variable [Tabs] {P:Program} {ρ:Ren}
theorem After.newRow{w w':World}{pub:Nat->Nat->Prop}{e:Nat->Option CObj}(hp:jx w pub)(hd:∀id,e id=none)(hb:Below w.heap.size w w'){g:Nat}(hg:w.heap.size<=g){p:Nat->Prop}(hc:∀o,p o->∃v,w'.cell? ⟨g,o,none⟩=some v) :
  After w pub e (aj (cr [] [])) w' (fun b o=>pub b o∨(b=g/\p o)) e where
 os:=hb.os
 tape:=hb.tape
 output:=hb.output
 size:=hb.size
 block b h _:=hb.block b h
 cell b o h _:=ai (hb.block b h) o
 kind b h _:=⟨aT (hb.block b h),fun o=>aK (hb.block b h) o⟩
 ext:=⟨fun _ c h=>⟨c,h,CLe.refl c⟩,fun _ _ h=>.inl h,fun b o h=>by obtain⟨v,hv⟩:=hp b o h;exact ai (hb.block b (aC hv)) o⟩
 fresh b o h:=by
  rcases h with h|⟨rfl,_⟩
  ·exact .inl h
  ·exact .inr (.inl hg)
 ok b o h:=by
  rcases h with h|⟨rfl,h⟩
  ·obtain⟨v,hv⟩:=hp b o h;exact⟨v,(ai (hb.block b (aC hv)) o).trans hv⟩
  ·exact hc o h
 slots id o h:=by simp[cr,b5,aH]at h
 dom id _:=hd id
 inj i j c d b o h:=by rw[hd i]at h;cases h
theorem AJ(L:Lays2.n16 P ρ)(l:List Str)(hb:l.length *16<=140737488355328){ob:Option Prop}:ak P (ρ.f 16) [.lst .str l none] [] ⟨ob,none,.lst .str l none,[]⟩:=by
 intro w pub e vs hp ht hv hs hd hi;have he:e=fun _=>none:=funext fun id=>hd id rfl;subst he;obtain⟨v,rfl,hV⟩:=hv.one_inv
 cases hV with
 |lstNil _ _ tok=>refine(Any.slices_Clone_string_nil L 0 0 w).mono ?_;rintro en w' ⟨rfl,rfl⟩;exact⟨pub,_,fun b pv u h=>(by cases h),.lstNil _ _ tok,After.below hp (fun _=>rfl) (Below.refl _ _)⟩
 |lstVoid _ a=>
  refine(Any.slices_Clone_string_zero L a 0 w).mono ?_;rintro en w' ⟨v',rfl,⟨hl,hrow⟩,hn,hbw⟩;refine⟨pub,_,fun b pv u h=>(by cases h),?_,After.below hp (fun _=>rfl) hbw⟩;rcases hrow with⟨rfl,hz⟩|⟨g,cap,cur,rfl,hbase,hg,h1,h2,h3,h4⟩
  ·exact absurd rfl hn
  ·exact .lst .str [] none g 0 cap (fun _ _=>.bool false) (Of _) (by unfold maxLen at h2;unfold bj;omega) (fun id h=>by cases h) (fun i x hx=>by cases hx) (fun i x hx=>by cases hx)
 |lst _ _ _ b off cap vals h1 h2 tok hcell hval=>
  have at_:∀i (hi:i<l.length),w.cell? ⟨b,off+i,none⟩=some (.string ⟨l[i].toArray⟩)/\l[i].length<=bj:=fun i hi=>by have hx:l[i]?=some l[i]:=NY hi;obtain⟨_,c1⟩:=hcell i l[i] hx 0 (.str l[i]) rfl;have c2:=hval i l[i] hx 0 (.str l[i]) rfl;obtain⟨c3,c4⟩:=c2.str_inv;rw[c3,show off+(i *ab .str+0)=off+i by rw[show ab .str=1 from rfl];omega]at c1;exact⟨c1,c4⟩
  refine(Any.slices_Clone_string L b off l.length cap (l.map fun s=>(⟨s.toArray⟩:ByteArray)) w (by simp) hb (fun j hj=>?_)).mono ?_
  ·have hj':j<l.length:=by simpa using hj
   rw[(at_ j hj').1,O4,OD,NY hj'];rfl
  rintro en w' ⟨v',rfl,⟨hl,hrow⟩,hn,hbw⟩;rcases hrow with⟨rfl,hz⟩|⟨g,cap',cur,rfl,hbase,hg,k1,k2,k3,k4⟩
  ·exact absurd rfl hn
  have hcur:∀i (hi:i<l.length),cur[i]?=some (.string ⟨l[i].toArray⟩):=fun i hi=>by
   have:(cur.toList.take (l.length *1))[i]?=some (.string ⟨l[i].toArray⟩):=by rw[k4,OD,Oy];simp[hi]
   rw[Oy]at this;split at this
   ·simpa using this
   ·cases this
  refine⟨fun b o=>pub b o∨(b=g/\o<l.length),_,fun b pv u h=>(by cases h),?_,After.newRow hp (fun _=>rfl) hbw hbase (p:=fun o=>o<l.length) (fun o ho=>⟨_,by rw[al hg];exact hcur o ho⟩)⟩;refine .lst .str l none g 0 cap' (fun i _=>.string ⟨(l.getD i []).toArray⟩) k1 (by unfold maxLen at k2;unfold bj;omega) (fun id h=>by cases h) (fun i x hx j c hc=>?_) (fun i x hx j c hc=>?_)
  ·obtain⟨hi,rfl⟩:=OA.1 hx
   have hj:j=0:=by
    cases j with|zero=>rfl|succ j=>simp[cells]at hc
   subst hj;rw[show 0+(i *ab .str+0)=i by rw[show ab .str=1 from rfl];omega];refine⟨.inr ⟨rfl,hi⟩,?_⟩;show w'.cell? ⟨g,i,none⟩=_;rw[al hg,hcur i hi,O4,NY hi];rfl
  ·obtain⟨hi,rfl⟩:=OA.1 hx
   have hj:j=0:=by
    cases j with|zero=>rfl|succ j=>simp[cells]at hc
   subst hj;have e1:c=.str l[i]:=by simpa[cells]using hc.symm
   subst e1;rw[O4,NY hi];exact .str _ (at_ i hi).2
def AK:Pat:=p1 (.lst .str) fun l=>⟨some (l.length *16<=140737488355328),none,.lst .str l none,[]⟩
theorem AM{f:Nat}(L:Lays2.n16 P ρ)(hf:ρ.f 16=f)(he:Enters P f):ah P f AK:=by subst hf;exact bA he fun l _ ho=>AJ L l (ho _ rfl)
end Go.AL
end
section
namespace Go.Proofs
open Go.Shelf
def Tryz.lays2_16_ren:Go.Shelf.Ren:=⟨fun|16=>81|n=>n,fun|24=>24|9=>9|4=>4|n=>n,fun|n=>n⟩
theorem Tryz.lays2_16:Go.Proofs.Lays2.n16 Tryz.prog Tryz.lays2_16_ren:={
 mixed:=by kernel_rfl
 f16:=Xt Tryz.func81
 t4:=Tryz.underlying4
 a4:=Tryz.isAgg4
 z4:=Tryz.sizeOf4
 v4:=Tryz.zeroValue4
 t9:=Tryz.underlying9
 a9:=Tryz.isAgg9
 z9:=Tryz.sizeOf9
 v9:=Tryz.zeroValue9
 t24:=Tryz.underlying24
 a24:=Tryz.isAgg24
 z24:=Tryz.sizeOf24
 v24:=Tryz.zeroValue24
 i9:=by kernel_rfl}
end Go.Proofs
end
section
namespace Go.AL.Seat
open Go Go.AL Go.Proofs Go.Shelf Go.Pd
variable [Tabs]
theorem mM:ah Tryz.prog 81 AK:=AM Tryz.lays2_16 rfl (Enters.mk' Tryz.func81 (by kernel_rfl))
end Go.AL.Seat
end
section
namespace Go.AL.Seat
open Go Go.AL Go.Proofs Go.Shelf Go.Pd Go.RowKit
variable [Tabs]
theorem qP:ah Tryz.prog 27 (p2 .str .str fun a b=>.ret (.int .i64 (kQ a b))):=by
 refine ca (Enters.mk' Tryz.func27 (by kernel_rfl)) fun a b _ _ _=>?_;refine fc fun w pub vs ht hv=>?_;obtain⟨rfl,l1,l2⟩:=VL.two_str hv;refine(Any.strings_Compare Tryz.lays106 _ _ w).mono ?_;rintro en w' ⟨rfl,rfl⟩;refine⟨⟨_,rfl,fun Ω=>?_⟩,Below.refl _ _⟩;have e2:Lib.compareBytes (⟨a.toArray⟩:ByteArray).data.toList (⟨b.toArray⟩:ByteArray).data.toList=kQ a b:=tP a b;rw[e2];unfold kQ;split
 ·exact .int _ _ (by decide) (by decide)
 ·split
  ·exact .int _ _ (by decide) (by decide)
  ·exact .int _ _ (by decide) (by decide)
end Go.AL.Seat
end
noncomputable section
namespace Go.AL
def ma{β:Type}(key:β->Str)(xs:List β):List β:=xs.mergeSort fun a b=>decide (key a<=key b)
theorem GH{β:Type}{key:β->Str}{xs ys:List β}(hnd:(xs.map key).Nodup)(hp:ys.Perm xs)(hs:ys.Pairwise fun a b=>key a<=key b):ys=ma key xs:=by
 have tr:∀a b c:β,decide (key a<=key b)=true->decide (key b<=key c)=true->decide (key a<=key c)=true:=fun a b c h1 h2=>by simp only[O1]at *;exact List.le_trans h1 h2
 have tot:∀a b:β,(decide (key a<=key b)||decide (key b<=key a))=true:=fun a b=>by simp only[OS,O1];exact Ra _ _
 have inj:∀a b,a∈xs->b∈xs->key a=key b->a=b:=fun a b ha hb h=>by
  obtain⟨i,hi,rfl⟩:=PZ ha;obtain⟨j,hj,rfl⟩:=PZ hb;rw[PA,Pb]at hnd;rcases R1 i j with q|q|q
  ·exact absurd (by rw[R9,R9];exact h) (hnd i j (by simpa using hi) (by simpa using hj) q)
  ·subst q;rfl
  ·exact absurd (by rw[R9,R9];exact h.symm) (hnd j i (by simpa using hj) (by simpa using hi) q)
 refine List.Perm.eq_of_pairwise (le:=fun a b=>key a<=key b) (fun a b ha hb h1 h2=>?_) hs ?_ (hp.trans (Qw xs _).symm)
 ·exact inj a b (hp.mem_iff.1 ha) (Qh.1 (show b∈xs.mergeSort _ from hb)) (Qd h1 h2)
 ·have:=QB tr tot xs;exact this.imp fun h=>by simpa using h
variable [Tabs]
open Go.Proofs Go.RowKit Go.Maps Go.Sort Go.Shelf Go.Lib
variable {P:Program} {ρ:Ren}
theorem vp(F:Array Value)(w:World)(b:Nat){vs:Array Value}{ty:Nat}{fz:Nat×Nat}(h:w.heap[b]?=some (.cells vs ty fz)) :
  ∃us:Array Value,(putRow id w b 0 F).heap[b]?=some (.cells us ty fz)/\us.size=vs.size:=by
 unfold putRow mapBlock;simp only[Pl,P1,h,Pr,onCells];exact⟨_,rfl,by simp[putCells]⟩
theorem After.growK{α:Type}[Inhabited α](enc:α->List Value){w:World}{pub:Nat->Nat->Prop}{e:Nat->Option CObj}{S:List (Nat×SObj)}{τ:Ty}
 (hp:jx w pub)(hs:∀id o,aj S id=some o->bn ⟨e,w,pub⟩ (fun _ _=>True) id o)(hd:∀id,aj S id=none->e id=none)(hi:Inj e)
 {k b s cap m:Nat}{xs ys:List (den τ)}{d0 d:Array α}{gs:Array Obj}(hk:aj S k=some (.grow τ s xs))(he:e k=some (.tail s (some b) cap))(hl:ys.length=xs.length)
 (hH:HoldsK enc (ab τ) w b 0 d0)(h0:d0.size=xs.length)(h1:d.size=xs.length)(henc:∀x,(enc x).length=ab τ)
 (hv:∀(i:Nat)(y:den τ),ys[i]?=some y->VL ⟨e,w,pub⟩ (cells τ y) (enc d[i]!)) :
  After w pub e (aj (cr S [(k,.grow τ s ys)])) (Go.Sort.grow (putRowK enc (ab τ) (Sort.ahead w m) b 0 d) gs) (fun b o=>pub b o∨False) (fun i=>if k=i then some (.tail s (some b) cap)else e i):=by
 obtain⟨base,cap',e1,e2,e3,e4,e5⟩:=hs k _ hk;have e1:e k=some (.tail s base cap'):=e1;rw[he]at e1;simp only[Xs,CObj.tail.injEq,OV]at e1;obtain⟨rfl,rfl⟩:=e1;obtain⟨hown,⟨vs,ty,fz,hheap,hfz,hfit⟩,hpub,hcell⟩:=e5 b rfl;have hheap:w.heap[b]?=some (.cells vs ty fz):=hheap;have hb:b<w.heap.size:=aI hheap;have hsz:(putRowK enc (ab τ) (Sort.ahead w m) b 0 d).heap.size=w.heap.size:=by simp[putRowK]
 have old:∀j,j<w.heap.size->(Go.Sort.grow (putRowK enc (ab τ) (Sort.ahead w m) b 0 d) gs).heap[j]?=(putRowK enc (ab τ) (Sort.ahead w m) b 0 d).heap[j]?:=by intro j hj;unfold Go.Sort.grow;simp only;rw[Qi (by rw[hsz];exact hj)]
 have other:∀j,j<w.heap.size->j≠b->(Go.Sort.grow (putRowK enc (ab τ) (Sort.ahead w m) b 0 d) gs).heap[j]?=w.heap[j]?:=by intro j hj hne;rw[old j hj];exact lO id (Sort.ahead w m) b (flatK enc (ab τ) d) j (.inl hne)
 obtain⟨us,hus,husz⟩:=vp (flatK enc (ab τ) d) (Sort.ahead w m) b (vs:=vs) (ty:=ty) (fz:=fz) hheap;have hus':(Go.Sort.grow (putRowK enc (ab τ) (Sort.ahead w m) b 0 d) gs).heap[b]?=some (.cells us ty fz):=by rw[old b hb];exact hus
 have inE:∀o,tA e k b o:=fun o=>⟨_,he,rfl⟩;have notE:∀{b' o},¬tA e k b' o->b'≠b:=fun h q=>h (q ▸ inE _);have pubne:∀b' o,pub b' o->b'≠b:=fun b' o h q=>hpub o (q ▸ h)
 refine After.slot hp hs hd hi (Q:=fun _ _=>False) rfl rfl rfl (by simp[Go.Sort.grow,putRowK]) (fun b' h1 h2=>other b' h1 (notE (h2 0))) (fun b' o h1 h2=>ai (other b' h1 (notE h2)) o) (fun b' h1 h2=>?_)
  (fun b' o h=>ai (other b' (by obtain⟨v,hv⟩:=hp b' o h;exact aC hv) (pubne b' o h)) o) (fun _ _ h=>h.elim) (fun c0 h=>?_) (fun b' o h=>?_) (fun hx=>?_)
 ·have hne:b'≠b:=fun q=>h2 fun o=>q ▸ inE o;have:=other b' h1 hne;exact⟨aT this,fun o=>aK this o⟩
 ·rw[he]at h;cases h;simp[CLe]
 ·exact .inr ⟨_,he,h⟩
 ·refine⟨some b,cap,by simp,by rw[hl];exact e2,e3,by simp,fun b' hb'=>?_⟩;simp only[Xs]at hb';subst hb';refine⟨fun o=>.inr ⟨k,_,he,rfl⟩,⟨us,ty,fz,hus',hfz,by rw[husz];exact hfit⟩,fun o h=>?_,fun j c hc=>?_⟩
  ·rcases h with h|h
   ·exact hpub o h
   ·exact h
  ·have hjl:j<ys.length *ab τ:=by
    rw[<-aY];rcases O5 j (flat τ ys).length with q|q
    ·exact q
    ·rw[O2 q]at hc;cases hc
   have hfl:(flatK enc (ab τ) d).size=ys.length *ab τ:=by rw[size_flatK,h1,hl]
   have hcl:=cell?_putRow id (Sort.ahead w m) b 0 (flatK enc (ab τ) d0) (flatK enc (ab τ) d) (show Go.Sort.Holds id (Sort.ahead w m) b 0 (flatK enc (ab τ) d0)from hH) (by rw[size_flatK,size_flatK,h0,h1]) j (by rw[hfl];exact hjl);rw[P0]at hcl;obtain⟨i,x,j2,q1,q2,q3,q4⟩:=lB τ _ j c hc;have hpos:0<ab τ:=by omega
   have hdiv:j/ab τ=i:=by rw[q3,PW,Nat.mul_add_div hpos,Nat.div_eq_of_lt q4,PR]
   have hmod:j%ab τ=j2:=by rw[q3,PW,Rl,R8 q4]
   have hg:(flatK enc (ab τ) d)[j]! =(enc d[i]!)[j2]!:=by rw[get_flatK enc (ab τ) d j (by rw[h1,<-hl];exact hjl),hdiv,hmod]
   refine⟨(enc d[i]!)[j2]!,?_,?_⟩
   ·rw[ai (old b hb) j];show(putRow id (Sort.ahead w m) b 0 (flatK enc (ab τ) d)).cell? ⟨b,j,none⟩=_;rw[hcl,<-hg];rfl
   ·have hjj:j2<(enc d[i]!).length:=by rw[henc];exact q4
    exact((hv i x q1).2 j2 c _ q2 (by rw[NY hjj,PX _ j2 hjj])).ext hx
def N7(P:Program)(g k q:Nat)(cf:Str->Str->Int):Prop:=
 ∀(W:World)(xs ys:List Value)(a b:Str),xs.length=k->ys.length=k->(∀v∈xs,v.oneCell'=true)->(∀v∈ys,v.oneCell'=true)->xs[q]?=some (.string ⟨a.toArray⟩)->ys[q]?=some (.string ⟨b.toArray⟩)->
  Calls P g #[.agg xs.toArray,.agg ys.toArray] W fun e w'=>e=.returned (.int .i64 (cf a b))/\∃m os',w'=Go.Sort.grow (W.drewN m) os'
abbrev Raw(Ω:Om)(τ:Ty):Type:={p:den τ×List Value // VL Ω (cells τ p.1) p.2}
theorem raws{Ω:Om}{τ:Ty}{b:Nat}:∀(xs:List (den τ))(o:Nat),(∀(j:Nat)(c:AV),(flat τ xs)[j]?=some c->∃v,Ω.w.cell? ⟨b,o+j,none⟩=some v/\V Ω c v)->
  ∃ps:List (Raw Ω τ),ps.map (fun p=>p.1.1)=xs/\∀(i j:Nat)(p:Raw Ω τ),ps[i]?=some p->j<ab τ->Ω.w.cell? ⟨b,o+(i *ab τ+j),none⟩=p.1.2[j]?
 |[],o,h=>⟨[],rfl,fun i j p hp=>by simp at hp⟩
 |x::r,o,h=>by
  have hf:flat τ (x::r)=cells τ x++flat τ r:=by simp[flat]
  have hw:(cells τ x).length=ab τ:=aQ τ x
  obtain⟨ps,h1,h2⟩:=raws r (o+ab τ) (fun j c hc=>by
   obtain⟨v,v1,v2⟩:=h (ab τ+j) c (by rw[hf,Oe (by omega),hw,Qx];exact hc);exact⟨v,by rw[show o+ab τ+j=o+(ab τ+j) by omega];exact v1,v2⟩)
  have hc:∀j,j<ab τ->∃v,Ω.w.cell? ⟨b,o+j,none⟩=some v:=fun j hj=>by obtain⟨v,v1,_⟩:=h j _ (by rw[hf,Ob (by omega),NY (by omega)]);exact⟨v,v1⟩
  refine⟨⟨(x,(List.range (ab τ)).map fun j=>(Ω.w.cell? ⟨b,o+j,none⟩).getD undef),⟨by simp[hw],fun j c v hc1 hv=>?_⟩⟩::ps,by simp[h1],fun i j p hp hj=>?_⟩
  ·have hj:j<ab τ:=by
    rw[<-hw];rcases O5 j (cells τ x).length with q|q
    ·exact q
    ·rw[O2 q]at hc1;cases hc1
   obtain⟨u,u1,u2⟩:=h j c (by rw[hf,Ob (by omega)];exact hc1);simp[hj,u1]at hv;subst hv;exact u2
  ·cases i with
   |zero=>simp at hp;subst hp;obtain⟨v,hv⟩:=hc j hj;simp[hj,hv]
   |succ i=>have:=h2 i j p (by simpa using hp) hj;rw[<-this,show o+((i+1) *ab τ+j)=o+ab τ+(i *ab τ+j) by rw[OU];omega]
set_option maxHeartbeats 2000000 in
theorem vq(L:SlLaysF0.n6 P ρ){τ:Ty}{g:Nat}(aE:∀w,(isAgg (ρ.t 24)).run P w=.ok true w)(zE:∀w,(Go.sizeOf (ρ.t 24)).run P w=.ok (ab τ) w)
 (eg:∀args w,(callFunc g args).run P w=.ok (.enter g args) w){q:Nat}(key:den τ->Str)(hkey:∀x,(cells τ x)[q]?=some (.str (key x)))(cf:Str->Str->Int)(hcf:∀a b:Str,decide (cf a b<0)=ltStr a b)(C:N7 P g (ab τ) q cf)
 (s n:Nat)(xs:List (den τ))(hn:n=xs.length)(hnd:(xs.map key).Nodup)(hbig:xs.length<4611686018427387904)(ob:Option Prop) :
  ak P (ρ.f 6) [.glst s n 900,.fn g []] [(900,.grow τ s xs)] ⟨ob,none,.tup [],[(900,.grow τ s (ma key xs))]⟩:=by
 subst hn;intro w pub e vs hp ht hv hs hd hi;obtain⟨v1,v2,rfl,h1,h2⟩:=VL.two_inv hv;obtain⟨us,rfl,hus⟩:=h2.fn_inv;obtain rfl:us=[]:=Oc hus.1.symm;obtain⟨cap,a0,rfl,hc1,hc2,hc3,m0,base,c0,r1,r2,r3⟩:=h1.glst_inv;obtain⟨base',cap',e1,e2,e3,e4,e5⟩:=hs 900 _ rfl;have e1:e 900=some (.tail s base' cap'):=e1;have r1:e 900=some (.tail m0 base c0):=r1;rw[e1]at r1;simp only[Xs,CObj.tail.injEq]at r1;obtain⟨rfl,rfl,rfl⟩:=r1;obtain⟨rfl,rfl⟩:=r3 rfl
 cases base' with
 |none=>
  have hz:xs.length=0:=by
   rcases hc3 with⟨b,hb⟩|⟨_,h,_⟩
   ·simp[dC]at hb
   ·exact h
  have hxs:xs=[]:=Oc hz;subst hxs;refine(AnyF.slices_SortFunc_none L _ _ _ w).mono ?_;rintro en w' ⟨rfl,rfl⟩;refine⟨_,_,fun _ _ _ h=>(by cases h),.tup [] [] rfl (fun j c v hc=>by simp at hc),After.slot (c:=.tail s none cap) (Q:=fun _ _=>False) hp hs hd hi rfl rfl rfl (Od _) (fun _ _ _=>rfl) (fun _ _ _ _=>rfl) (fun _ _ _=>⟨rfl,fun _=>rfl⟩) (fun _ _ _=>rfl) (fun _ _ h=>h.elim) (fun c1 h=>?_) (fun b o h=>?_) (fun hx=>?_)⟩
  ·rw[show e 900=_ from e1]at h;cases h;simp[CLe]
  ·exact .inr ⟨_,e1,h⟩
  ·exact⟨none,cap,by simp,by simp[ma],e3,e4,fun b hb=>by cases hb⟩
 |some b=>
  obtain⟨hown,⟨ws,ty,fz,hheap,hfz,hfit⟩,hpub,hcell⟩:=e5 b rfl;have hheap:w.heap[b]?=some (.cells ws ty fz):=hheap;have hb:b<w.heap.size:=aI hheap;by_cases hxs:xs=[]
  ·subst hxs;refine(AnyF.slices_SortFunc_none L _ _ _ w).mono ?_;rintro en w' ⟨rfl,rfl⟩;refine⟨_,_,fun _ _ _ h=>(by cases h),.tup [] [] rfl (fun j c v hc=>by simp at hc),After.slot (c:=.tail s (some b) cap) (Q:=fun _ _=>False) hp hs hd hi rfl rfl rfl (Od _) (fun _ _ _=>rfl) (fun _ _ _ _=>rfl) (fun _ _ _=>⟨rfl,fun _=>rfl⟩) (fun _ _ _=>rfl) (fun _ _ h=>h.elim) (fun c1 h=>?_) (fun b o h=>?_) (fun hx=>?_)⟩
   ·rw[show e 900=_ from e1]at h;cases h;simp[CLe]
   ·exact .inr ⟨_,e1,h⟩
   ·refine⟨some b,cap,by simp,by simp[ma],e3,by simp,fun b' hb'=>?_⟩;simp only[Xs]at hb';subst hb';refine⟨fun o=>.inr ⟨900,_,e1,rfl⟩,⟨ws,ty,fz,hheap,hfz,hfit⟩,fun o h=>?_,fun j c hc=>by simp[ma,flat]at hc⟩;rcases h with h|h
    ·exact hpub o h
    ·exact h
  ·obtain⟨ps,hps,hpc⟩:=raws (Ω:=⟨e,w,pub⟩) (b:=b) xs 0 (fun j c hc=>by rw[P0];exact hcell j c hc);have hpl:ps.length=xs.length:=by rw[<-hps];simp
   haveI:Inhabited (Raw ⟨e,w,pub⟩ τ):=⟨ps[0]'(by rw[hpl];exact PG.2 hxs)⟩
   have hlen:∀x:Raw ⟨e,w,pub⟩ τ,x.1.2.length=ab τ:=fun x=>by have:=x.2.1;rw[aQ]at this;exact this.symm
   have hone:∀x:Raw ⟨e,w,pub⟩ τ,∀v∈x.1.2,v.oneCell'=true:=fun x=>x.2.leaf_one (kr τ x.1.1)
   have hstr:∀x:Raw ⟨e,w,pub⟩ τ,x.1.2[q]?=some (.string ⟨(key x.1.1).toArray⟩):=fun x=>by
    have hq:q<x.1.2.length:=by
     rw[hlen,<-aQ τ x.1.1];rcases O5 q (cells τ x.1.1).length with h|h
     ·exact h
     ·have:=hkey x.1.1;rw[O2 h]at this;cases this
    have:=x.2.2 q _ _ (hkey x.1.1) (NY hq);rw[NY hq,this.str_inv.1]
   have hH:HoldsK (fun x:Raw ⟨e,w,pub⟩ τ=>x.1.2) (ab τ) w b 0 ps.toArray:=by
    intro j hj;rw[size_flatK]at hj;have hj:j<ps.length *ab τ:=by simpa using hj
    have hpos:0<ab τ:=by
     rcases Qg (ab τ)with z|z
     ·rw[z]at hj;simp at hj
     ·exact z
    have hi2:j/ab τ<ps.length:=(Nat.div_lt_iff_lt_mul hpos).2 hj;have hm:j%ab τ<ab τ:=RO _ hpos;have hjm:j/ab τ *ab τ+j%ab τ=j:=by rw[PW];exact Rk _ _
    have h3:=hpc (j/ab τ) (j%ab τ) ps[j/ab τ] (NY hi2) hm;rw[hjm,NY (by rw[hlen];exact hm)]at h3;refine⟨?_,?_⟩
    ·rw[get_flatK _ _ _ j (by simpa using hj)];rw[show w.cell? ⟨b,0+j,none⟩=_ from h3];have e7:ps.toArray[j/ab τ]! =ps[j/ab τ]:=by rw[PX ps.toArray _ (by simpa using hi2)];simp
     rw[e7,PX _ _ (by rw[hlen];exact hm)];rfl
    ·unfold World.frozen?;simp only[hheap,hfz];simp
   have hO:SWO (ltOf fun x y:Raw ⟨e,w,pub⟩ τ=>cf (key x.1.1) (key y.1.1)):=by have e9:∀x y,ltOf (fun x y:Raw ⟨e,w,pub⟩ τ=>cf (key x.1.1) (key y.1.1)) x y=ltStr (key x.1.1) (key y.1.1):=fun x y=>hcf _ _;exact⟨fun i=>by rw[e9];exact swo_ltStr.irrefl _,fun i j k h1 h2=>by rw[e9]at *;exact swo_ltStr.trans _ _ _ h1 h2,fun i j k h1 h2=>by rw[e9]at *;exact swo_ltStr.ntrans _ _ _ h1 h2⟩
   have hcmp:CmpLays P g #[] (fun x:Raw ⟨e,w,pub⟩ τ=>x.1.2) (ab τ) (fun x y=>cf (key x.1.1) (key y.1.1)) b 0 ps.toArray.size w:=by intro m os dk _ x y;have:=C (sortWorldK (fun x:Raw ⟨e,w,pub⟩ τ=>x.1.2) (ab τ) w b 0 m dk os) x.1.2 y.1.2 _ _ (hlen x) (hlen y) (hone x) (hone y) (hstr x) (hstr y);simpa using this
   have hsz:ps.toArray.size=xs.length:=by simp[hpl]
   have hcall:=AnyQ.slices_SortFunc L (ab τ) aE zE (fun x:Raw ⟨e,w,pub⟩ τ=>x.1.2) hlen hone (fun x y=>cf (key x.1.1) (key y.1.1)) hO g #[] b 0 cap ps.toArray w eg hcmp hH hb (by rw[hsz];exact hbig);rw[hsz]at hcall;refine hcall.mono ?_;rintro en w' ⟨rfl,d',n,os,⟨hds,_,hperm⟩,hsort,rfl⟩;have hd':d'.size=xs.length:=by rw[hds,hsz]
   have hys:d'.toList.map (fun x=>x.1.1)=ma key xs:=by
    refine GH hnd ?_ ?_
    ·rw[<-hps];refine List.Perm.map _ ?_;have q1:d'.extract 0 xs.length=d':=by rw[<-hd'];simp
     have q2:ps.toArray.extract 0 xs.length=ps.toArray:=by rw[<-hsz];simp
     rw[q1,q2]at hperm;simpa using hperm
    ·rw[Q5,Pb];intro i j hi hj hij;have hi':i<d'.size:=by simpa using hi
     have hj':j<d'.size:=by simpa using hj
     have h6:=hsort i j (Of _) hij (by omega);unfold ltOf at h6;rw[hcf]at h6;have h3:¬(key d'[j]!.1.1<key d'[i]!.1.1):=by simpa[ltStr]using h6
     have:=Rh.1 h3;simp only[PX d' j hj',PX d' i hi']at this;simpa using this
   refine⟨_,_,fun _ _ _ h=>(by cases h),.tup [] [] rfl (fun j c v hc=>by simp at hc),After.growK (m:=n) (gs:=os) (ys:=ma key xs) (fun x:Raw ⟨e,w,pub⟩ τ=>x.1.2) (d0:=ps.toArray) (d:=d') hp hs hd hi rfl e1 (by simp[ma]) hH hsz hd' hlen (fun i y hy=>?_)⟩;rw[<-hys,OD]at hy;obtain⟨x,hx,rfl⟩:=Ov.1 hy;have hi':i<d'.size:=by have:=(OA.1 hx).1;simpa using this
   have:d'[i]! =x:=by rw[PX d' i hi'];have:=(OA.1 hx).2;simpa using this
   rw[this];exact x.2
end Go.AL
end
section
namespace Go.Proofs
open Go.Shelf
def Tryz.sortf_ren:Go.Shelf.Ren:=⟨fun|6=>25|15=>63|14=>62|28=>113|29=>114|20=>105|21=>106|22=>107|23=>108|24=>109|25=>110|26=>111|27=>112|46=>151|47=>152|48=>153|49=>154|50=>155|57=>200|n=>n,fun|22=>31|24=>49|25=>85|3=>3|39=>136|0=>0|53=>187|55=>189|4=>4|46=>180|45=>179|50=>184|5=>5|9=>9|66=>228|70=>232|76=>270|77=>217|n=>n,fun|n=>n⟩
theorem Tryz.sortf:Go.Proofs.SlLaysF0.n6 Tryz.prog Tryz.sortf_ren:={
 mixed:=by kernel_rfl
 f6:=⟨Tryz.f25.name,by decide,Xt Tryz.func25⟩
 f14:=⟨Tryz.f62.name,by decide,Xt Tryz.func62⟩
 f15:=Xt Tryz.func63
 f20:=⟨Tryz.f105.name,by decide,Xt Tryz.func105⟩
 f21:=⟨Tryz.f106.name,by decide,Xt Tryz.func106⟩
 f22:=⟨Tryz.f107.name,by decide,Xt Tryz.func107⟩
 f23:=⟨Tryz.f108.name,by decide,Xt Tryz.func108⟩
 f24:=⟨Tryz.f109.name,by decide,Xt Tryz.func109⟩
 f25:=⟨Tryz.f110.name,by decide,Xt Tryz.func110⟩
 f26:=⟨Tryz.f111.name,by decide,Xt Tryz.func111⟩
 f27:=⟨Tryz.f112.name,by decide,Xt Tryz.func112⟩
 f28:=Xt Tryz.func113
 f29:=Xt Tryz.func114
 f46:=⟨Tryz.f151.name,by decide,Xt Tryz.func151⟩
 f47:=Xt Tryz.func152
 f48:=Xt Tryz.func153
 f49:=⟨Tryz.f154.name,by decide,Xt Tryz.func154⟩
 f50:=⟨Tryz.f155.name,by decide,Xt Tryz.func155⟩
 f57:=⟨Tryz.f200.name,by decide,Xt Tryz.func200⟩
 t0:=Tryz.underlying0
 a0:=Tryz.isAgg0
 z0:=Tryz.sizeOf0
 v0:=Tryz.zeroValue0
 t3:=Tryz.underlying3
 a3:=Tryz.isAgg3
 z3:=Tryz.sizeOf3
 v3:=Tryz.zeroValue3
 t4:=Tryz.underlying4
 a4:=Tryz.isAgg4
 z4:=Tryz.sizeOf4
 v4:=Tryz.zeroValue4
 t5:=Tryz.underlying5
 a5:=Tryz.isAgg5
 z5:=Tryz.sizeOf5
 v5:=Tryz.zeroValue5
 t9:=Tryz.underlying9
 a9:=Tryz.isAgg9
 z9:=Tryz.sizeOf9
 v9:=Tryz.zeroValue9
 t22:=Tryz.underlying31
 a22:=Tryz.isAgg31
 z22:=Tryz.sizeOf31
 v22:=Tryz.zeroValue31
 t25:=Tryz.underlying85
 a25:=Tryz.isAgg85
 z25:=Tryz.sizeOf85
 v25:=Tryz.zeroValue85
 t39:=Tryz.underlying136
 a39:=Tryz.isAgg136
 z39:=Tryz.sizeOf136
 v39:=Tryz.zeroValue136
 t45:=Tryz.underlying179
 a45:=Tryz.isAgg179
 z45:=Tryz.sizeOf179
 v45:=Tryz.zeroValue179
 t46:=Tryz.underlying180
 a46:=Tryz.isAgg180
 z46:=Tryz.sizeOf180
 v46:=Tryz.zeroValue180
 t50:=Tryz.underlying184
 a50:=Tryz.isAgg184
 z50:=Tryz.sizeOf184
 v50:=Tryz.zeroValue184
 t53:=Tryz.underlying187
 a53:=Tryz.isAgg187
 z53:=Tryz.sizeOf187
 v53:=Tryz.zeroValue187
 t55:=Tryz.underlying189
 a55:=Tryz.isAgg189
 z55:=Tryz.sizeOf189
 v55:=Tryz.zeroValue189
 t66:=Tryz.underlying228
 a66:=Tryz.isAgg228
 z66:=Tryz.sizeOf228
 v66:=Tryz.zeroValue228
 t70:=Tryz.underlying232
 a70:=Tryz.isAgg232
 z70:=Tryz.sizeOf232
 v70:=Tryz.zeroValue232
 t76:=Tryz.underlying270
 a76:=Tryz.isAgg270
 z76:=Tryz.sizeOf270
 v76:=Tryz.zeroValue270
 t77:=Tryz.underlying217
 a77:=Tryz.isAgg217
 z77:=Tryz.sizeOf217
 v77:=Tryz.zeroValue217}
end Go.Proofs
end
section
namespace Go.Pd
open Go.AL
def JB(s:Shape):Bool:=!decide (s.kind=9)
structure ClE(e:Envt):Prop where
 types:∀b∈e.types,allS JB b.shape=true
 values:∀b∈e.values,allS JB b.shape=true
 own:∀b∈e.own,allS JB b.shape=true
section
variable {T:Trm->Envt->Shape×Flt} (hT:∀p e,ClE e->(T p e).2.err=0->allS JB (T p e).1=true)
include hT
end
end Go.Pd
end
section
namespace Go.Pd
open Go Go.AL
def bc(o:Str):List AL.Item->List Bndg
 |[]=>[]
 |x::r=>if x.kind=1 then⟨o,x.name,x.shape⟩::bc o r else if x.kind=2 then⟨o,x.name,eh o x.name⟩::bc o r else bc o r
def dq(o:Str):List AL.Item->List Bndg
 |[]=>[]
 |x::r=>if x.kind=3 then⟨o,x.name,x.shape⟩::dq o r else dq o r
def impD(d:Depd)(e:Envt):Envt:=⟨e.self,e.types++bc d.name d.items,e.values++dq d.name d.items,e.own⟩
def mb:List Depd->Str->Option Depd
 |[],_=>none
 |d::r,n=>match mb r n with
  |some x=>some x
  |none=>if d.name=n then some d else none
structure ImC where
 f:Flt
 e:Envt
def gE(ds:List Depd):List Impt->Envt->ImC
 |[],e=>⟨cQ,e⟩
 |i::r,e=>match mb ds i.name with
  |none=>⟨⟨282,i.pos⟩,e⟩
  |some d=>gE ds r (impD d e)
structure Cst where
 e:Envt
 m:List (Str×AL.Item)
structure DcC where
 f:Flt
 c:Cst
def JC(d:Dcl)(c:Cst)(r:Shape×Flt):DcC:=
 if r.2.err=0 then⟨r.2,⟨cb c.e [fU d.name r.1],bP (K:=Str) c.m d.name ⟨3,d.name,r.1⟩⟩⟩else⟨r.2,c⟩
def JD(d:Dcl)(c:Cst)(r:Shape×Int):DcC:=
 if r.2=0 then
  (if d.kind=2 then⟨cQ,⟨⟨c.e.self,c.e.types++[fU d.name (eh c.e.self d.name)],c.e.values,c.e.own++[fU d.name r.1]⟩,bP (K:=Str) c.m d.name ⟨2,d.name,aJ⟩⟩⟩
   else⟨cQ,⟨⟨c.e.self,c.e.types++[fU d.name r.1],c.e.values,c.e.own⟩,bP (K:=Str) c.m d.name ⟨d.kind,d.name,r.1⟩⟩⟩)
 else⟨⟨r.2,d.pos⟩,c⟩
def kW(d:Dcl)(c:Cst):DcC:=if d.kind=3 then JC d c (fI d.term c.e)else JD d c (aN d.shape c.e.types)
def eE:List Dcl->Cst->DcC
 |[],c=>⟨cQ,c⟩
 |d::r,c=>if(kW d c).f.err=0 then eE r (kW d c).c else kW d c
structure ExC where
 f:Flt
 l:List AL.Item
def rq(a:Int)(m:List (Str×AL.Item)):List Str->List AL.Item->ExC
 |[],out=>⟨cQ,out⟩
 |n::r,out=>match cu (K:=Str) m n with
  |none=>⟨⟨150,a⟩,[]⟩
  |some x=>rq a m r (out++[x])
def AN(l:List AL.Item):List AL.Item:=l.mergeSort fun a b=>decide (a.name<=b.name)
def endI(r:ExC):ExC:=if r.f.err=0 then⟨cQ,AN r.l⟩else⟨r.f,[]⟩
def GI(base:List Bndg)(m:Modu)(i:ImC):ExC:=
 if i.f.err=0 then
  (if(eE m.decls ⟨i.e,[]⟩).f.err=0 then endI (rq m.pos (eE m.decls ⟨i.e,[]⟩).c.m m.exports [])else⟨(eE m.decls ⟨i.e,[]⟩).f,[]⟩)
 else⟨i.f,[]⟩
def vr(base:List Bndg)(self:Str):Envt:=⟨self,[],base,[]⟩
def jM(base:List Bndg)(m:Modu)(ds:List Depd):ExC:=
 if bq m=0 then GI base m (gE ds m.imports (vr base m.name))else⟨⟨bq m,0⟩,[]⟩
end Go.Pd
end
noncomputable section
namespace Go.Pd
open Go Go.AL
theorem uh:∀{l:List Depd} {n:Str} {d:Depd},mb l n=some d->d∈l/\d.name=n
 |x::r,n,d,h=>by
  rw[mb]at h;split at h
  ·rename_i y hy;cases h;have:=uh hy;exact⟨Og _ this.1,this.2⟩
  ·split at h
   ·cases h;exact⟨Ox ..,by assumption⟩
   ·cases h
def tyI(ds:List Depd)(i:Impt):List Bndg:=match mb ds i.name with|some d=>bc d.name d.items|none=>[]
def vaI(ds:List Depd)(i:Impt):List Bndg:=match mb ds i.name with|some d=>dq d.name d.items|none=>[]
theorem ui(ds:List Depd):∀(l:List Impt)(e:Envt),(gE ds l e).f.err=0->(∀i∈l,(mb ds i.name).isSome=true)/\gE ds l e=⟨cQ,⟨e.self,e.types++l.flatMap (tyI ds),e.values++l.flatMap (vaI ds),e.own⟩⟩
 |[],e,_=>⟨fun i h=>(by cases h),by simp only[gE,List.flatMap_nil,P2]⟩
 |i::r,e,h=>by
  simp only[gE]at h⊢
  cases q:mb ds i.name with
  |none=>rw[q]at h;exact absurd h (by show ¬(282:Int)=0;decide)
  |some d=>
   rw[q]at h;simp only at h⊢;obtain⟨h1,h2⟩:=ui ds r _ h;refine⟨fun x hx=>?_,?_⟩
   ·rcases O7.1 hx with rfl|hx
    ·rw[q];rfl
    ·exact h1 x hx
   ·rw[h2];have t1:tyI ds i=bc d.name d.items:=by unfold tyI;rw[q]
    have t2:vaI ds i=dq d.name d.items:=by unfold vaI;rw[q]
    rw[PM,PM,t1,t2,<-OE,<-OE];rfl
theorem Fm(ds:List Depd):∀(l:List Impt)(e:Envt),(∀i∈l,(mb ds i.name).isSome=true)->(gE ds l e).f=cQ
 |[],e,_=>rfl
 |i::r,e,h=>by
  simp only[gE]
  cases q:mb ds i.name with
  |none=>have:=h i (Ox ..);rw[q]at this;cases this
  |some d=>exact Fm ds r _ fun x hx=>h x (Og _ hx)
theorem mN(o:Str):∀(l:List AL.Item),∀b∈bc o l,b.pkg=o
 |x::r,b,h=>by
  rw[bc]at h;split at h
  ·rcases O7.1 h with rfl|h
   ·rfl
   ·exact mN o r b h
  ·split at h
   ·rcases O7.1 h with rfl|h
    ·rfl
    ·exact mN o r b h
   ·exact mN o r b h
theorem uj(o:Str):∀(l:List AL.Item),∀b∈dq o l,b.pkg=o
 |x::r,b,h=>by
  rw[dq]at h;split at h
  ·rcases O7.1 h with rfl|h
   ·rfl
   ·exact uj o r b h
  ·exact uj o r b h
theorem N8(ds:List Depd)(i:Impt):∀b∈tyI ds i,b.pkg=i.name:=fun b h=>by
 unfold tyI at h;split at h
 ·rename_i d q;rw[mN _ _ b h];exact(uh q).2
 ·cases h
theorem N9(ds:List Depd)(i:Impt):∀b∈vaI ds i,b.pkg=i.name:=fun b h=>by
 unfold vaI at h;split at h
 ·rename_i d q;rw[uj _ _ b h];exact(uh q).2
 ·cases h
theorem mO{o n:Str}:∀{l:List Bndg},(∀b∈l,b.pkg≠o)->aO l o n=none
 |[],_=>rfl
 |b::r,h=>by rw[aO,mO fun x hx=>h x (Og _ hx)];exact O0 fun q=>h b (Ox ..) q.1
theorem nV{g:Impt->List Bndg}(hg:∀i,∀b∈g i,b.pkg=i.name){o n:Str}:∀{l:List Impt},(l.map (·.name)).Nodup->∀i∈l,i.name=o->aO (l.flatMap g) o n=aO (g i) o n
 |x::r,hn,i,hi,e=>by
  rw[OJ,Q8]at hn;rw[PM,gV];have out:∀y∈r,y.name≠x.name:=fun y hy q=>hn.1 (OC.2 ⟨y,hy,q⟩);rcases O7.1 hi with rfl|hi
  ·rw[mO (l:=r.flatMap g) fun b hb=>by
    obtain⟨y,hy,hb⟩:=Pp.1 hb;rw[hg y b hb,<-e];exact out y hy]
  ·rw[nV hg hn.2 i hi e];have:aO (g x) o n=none:=mO fun b hb=>by rw[hg x b hb,<-e];exact fun q=>out i hi q.symm
   rw[this];cases aO (g i) o n<;>rfl
theorem AO{g:Impt->List Bndg}(hg:∀i,∀b∈g i,b.pkg=i.name){o n:Str}{l:List Impt}(h:∀i∈l,i.name≠o):aO (l.flatMap g) o n=none:=
 mO fun b hb=>by obtain⟨y,hy,hb⟩:=Pp.1 hb;rw[hg y b hb];exact h y hy
theorem uk{m:Modu}(h:bq m=0):(m.imports.map (·.name)).Nodup/\m.exports.Nodup:=by
 have ok:okM m=true:=by
  unfold bq at h;split at h
  ·assumption
  ·cases h
 unfold okM at ok;simp only[NZ,O1]at ok;obtain⟨_,_,_,_,⟨h1,_⟩,h2⟩:=ok;unfold Lk at h1;exact⟨(Q8.1 h1).2,h2⟩
end Go.Pd
end
noncomputable section
namespace Go.Pd
open Go Go.AL
def Its(m:List (Str×AL.Item)):Prop:=∀x∈m,x.2.name=x.1
theorem yq{m:List (Str×AL.Item)}(h:Its m)(n:Str)(x:AL.Item)(hx:x.name=n):Its (bP (K:=Str) m n x):=by
 induction m with
 |nil=>intro y hy;rw[bP,OH]at hy;subst hy;exact hx
 |cons a r ih=>
  intro y hy;rw[bP]at hy;split at hy
  ·rcases O7.1 hy with rfl|hy
   ·exact hx
   ·exact h y (Og _ hy)
  ·rcases O7.1 hy with rfl|hy
   ·exact h _ (Ox ..)
   ·exact ih (fun z hz=>h z (Og _ hz)) y hy
theorem Lz{V:Type}{m:List (Str×V)}{n:Str}{x:V}(q:cu (K:=Str) m n=some x):(n,x)∈m:=by
 induction m with
 |nil=>cases q
 |cons a r ih=>
  rw[cu]at q;split at q
  ·rename_i e;cases q;rw[e];exact Ox ..
  ·exact Og _ (ih q)
theorem LB{m:List (Str×AL.Item)}(h:Its m){n:Str}{x:AL.Item}(q:cu (K:=Str) m n=some x):x.name=n:=h _ (Lz q)
theorem Fo(d:Dcl){c:Cst}(h:Its c.m):Its (kW d c).c.m:=by
 unfold kW JC JD;split
 ·split
  ·exact yq h _ _ rfl
  ·exact h
 ·split
  ·split
   ·exact yq h _ _ rfl
   ·exact yq h _ _ rfl
  ·exact h
theorem AP:∀(l:List Dcl) {c:Cst},Its c.m->Its (eE l c).c.m
 |[],c,h=>h
 |d::r,c,h=>by
  simp only[eE];split
  ·exact AP r (Fo d h)
  ·exact Fo d h
end Go.Pd
end
noncomputable section
namespace Go.Pd
open Go Go.AL
def mxU(N:Nat)(x:Trm):Bool:=x.shapes.all fun s=>decide (sz s<=N)
def rr(s:Shape):List Nam:=if s.kind=9/\s.pkg≠[]then[⟨s.pkg,s.name⟩]else[]
def iF(t:Trm):List Nam:=if t.kind=5/\t.pkg≠[]then[⟨t.pkg,t.name⟩]else[]
theorem AQ{K V:Type}[DecidableEq K](k:K)(v:V):∀m:List (K×V),(bP m k v).length<=m.length+1
 |[]=>by simp[bP]
 |(a,u)::r=>by have:=AQ k v r;unfold bP;split<;>simp only[O8]<;>omega
theorem fD:∀(l:List Nam)(m:List (Nam×Int)),(aL m l).length<=m.length+l.length
 |[],m=>Od _
 |u::r,m=>by have h1:=fD r (Dq m u);have h2:(Dq m u).length<=m.length+1:=AQ ..;show(aL (Dq m u) r).length<=_;simp only[O8];omega
theorem nW{K V:Type}[DecidableEq K](k:K)(z v:V):∀m:List (K×V),iG (bP m k z) (mix m k) v=bP m k v
 |[]=>by simp[bP,mix,iG]
 |(a,u)::r=>by
  have ih:=nW k z v r;unfold bP mix;by_cases e:k=a
  ·rw[O3 e,O3 e,O3 e];simp[iG]
  ·rw[O0 e,O0 e,O0 e,<-ih];simp[iG]
theorem DC{K V:Type}[DecidableEq K](k:K)(z:V):∀m:List (K×V),mix m k<(bP m k z).length
 |[]=>by simp[bP,mix]
 |(a,u)::r=>by
  have ih:=DC k z r;unfold bP mix;by_cases e:k=a
  ·rw[O3 e,O3 e];simp
  ·rw[O0 e,O0 e];simp only[O8];omega
theorem um(l:List Shape)(k:Nat)(d:Shape)(h:k<l.length):useSL (l.take (k+1))=useSL (l.take k)++useS (l.getD k d):=by rw[cD l k d h,pW];congr 1;rw[useSL,useSL,P2]
theorem DD(l:List Trm)(k:Nat)(d:Trm)(h:k<l.length):useTL (l.take (k+1))=useTL (l.take k)++useT (l.getD k d):=by rw[cD l k d h,pX];congr 1;rw[useTL,useTL,P2]
theorem AR(l:List Shape)(k:Nat):(useSL (l.take k)).length<=(useSL l).length:=by
 have e:useSL l=useSL (l.take k)++useSL (l.drop k):=by rw[<-pW,Qk]
 rw[e,Oj];omega
theorem JE(l:List Trm)(k:Nat):(useTL (l.take k)).length<=(useTL l).length:=by
 have e:useTL l=useTL (l.take k)++useTL (l.drop k):=by rw[<-pX,Qk]
 rw[e,Oj];omega
end Go.Pd
namespace Go.AL
variable [Tabs] {P:Program}
def GJ(τ:Ty)(O:List (Nam×Int)->den τ->Prop)(F:List (Nam×Int)->den τ->List (Nam×Int)):Pat:=fun args S=>
 match args,S with
 |[.map 900,a],[(900,.map (.st .nm) (.int .i64) m)]=>(match arg τ a with|some x=>some ⟨some (O m x),none,.tup [],[(900,.map (.st .nm) (.int .i64) (F m x))]⟩|none=>none)
 |_,_=>none
theorem rQ{f:Nat}{τ:Ty}{O:List (Nam×Int)->den τ->Prop}{F:List (Nam×Int)->den τ->List (Nam×Int)}(he:Enters P f)
 (h:∀m x,Wf τ x->O m x->ak P f [.map 900,inj τ x] [(900,.map (.st .nm) (.int .i64) m)] ⟨some (O m x),none,.tup [],[(900,.map (.st .nm) (.int .i64) (F m x))]⟩):ah P f (GJ τ O F):=by
 intro args S A hA ho _;unfold GJ at hA;split at hA
 ·split at hA
  ·rename_i x hx;simp only[Xs]at hA;subst hA;exact⟨he,ak.args (.cons (Rd.refl _) (.cons (Rd.arg hx) .nil)) (ak.wf fun hw=>h _ _ hw.cons.2.one (ho _ rfl))⟩
  ·cases hA
 ·cases hA
end Go.AL
end
noncomputable section
namespace Go.Pd
open Go Go.AL
def qQ(d:Dcl):List Nam:=useS d.shape++useT d.term
def cU:List Dcl->List Nam
 |[]=>[]
 |d::r=>qQ d++cU r
theorem q9:∀a b:List Dcl,cU (a++b)=cU a++cU b
 |[],b=>rfl
 |x::a,b=>by rw[OQ,cU,cU,q9 a b,OE]
theorem DE(l:List Dcl)(k:Nat)(d:Dcl)(h:k<l.length):cU (l.take (k+1))=cU (l.take k)++qQ (l.getD k d):=by rw[cD l k d h,q9];congr 1;rw[cU,cU,P2]
theorem JF(l:List Dcl)(k:Nat):(cU (l.take k)).length<=(cU l).length:=by
 have e:cU l=cU (l.take k)++cU (l.drop k):=by rw[<-q9,Qk]
 rw[e,Oj];omega
mutual
theorem useS_sz:∀s:Shape,(useS s).length<=sz s
 |⟨k,p,n,_,ps⟩=>by have:=useSL_sz ps;rw[useS,sz,Oj];split<;>simp only[O8,ON]<;>omega
theorem useSL_sz:∀l:List Shape,(useSL l).length<=szL l
 |[]=>Of _
 |p::r=>by have h1:=useS_sz p;have h2:=useSL_sz r;rw[useSL,szL,Oj];omega
end
theorem wF{N:Nat}:∀l:List Shape,(∀s∈l,sz s<=N)->(useSL l).length<=N *l.length
 |[],_=>Of _
 |p::r,h=>by have h1:=useS_sz p;have h2:=h p (Ox ..);have h3:=wF r fun s hs=>h s (Og _ hs);rw[useSL,Oj,O8,Nat.mul_succ];omega
theorem wG{c:Nat}:∀l:List Trm,(∀t∈l,(useT t).length<=szT t *c)->(useTL l).length<=szTL l *c
 |[],_=>Of _
 |p::r,h=>by have h1:=h p (Ox ..);have h2:=wG r fun s hs=>h s (Og _ hs);rw[useTL,szTL,Oj,OU];omega
theorem gB{c:Prop}[Decidable c]{a b:Bool}(h:(if c then a else b)=true):a=true∨b=true:=by
 split at h
 ·exact .inl h
 ·exact .inr h
theorem AT{t:Trm}(h:ao t=true)(hz:t.parts.length<=4096):t.shapes.length<=4097/\mxU 400 t=true:=by
 unfold ao at h;rw[NZ]at h;obtain⟨h1,h2⟩:=h;refine⟨?_,?_⟩
 ·unfold Ae at h2;rcases gB h2 with h|h2
  ·unfold dj at h;simp only[NZ,O1]at h;omega
  rcases gB h2 with h|h2
  ·unfold dj at h;simp only[NZ,O1]at h;omega
  rcases gB h2 with h|h2
  ·unfold dj at h;simp only[NZ,O1]at h;omega
  rcases gB h2 with h|h2
  ·unfold dj at h;simp only[NZ,O1]at h;omega
  rcases gB h2 with h|h2
  ·unfold dj at h;simp only[NZ,O1]at h;omega
  rcases gB h2 with h|h2
  ·unfold dj at h;simp only[NZ,O1]at h;omega
  rcases gB h2 with h|h2
  ·unfold dj at h;simp only[NZ,O1]at h;omega
  rcases gB h2 with h|h2
  ·unfold dj at h;simp only[NZ,O1]at h;omega
  rcases gB h2 with h|h2
  ·unfold dj at h;simp only[NZ,O1]at h;omega
  rcases gB h2 with h|h2
  ·unfold dj at h;simp only[NZ,O1]at h;omega
  rcases gB h2 with h|h2
  ·unfold dj at h;simp only[NZ,O1]at h;omega
  rcases gB h2 with h|h2
  ·unfold dj at h;simp only[NZ,O1]at h;omega
  rcases gB h2 with h|h2
  ·unfold dj at h;simp only[NZ,O1]at h;omega
  rcases gB h2 with h|h2
  ·unfold dj at h;simp only[NZ,O1]at h;omega
  cases h2
 ·unfold oR at h1;rw[NZ]at h1;rw[mxU,O9];intro s hs;have:=O9.1 h1.2 s hs;unfold cN at this;rw[NZ]at this;exact Xd (dD (Xo this.1)).1
theorem GK(t:Trm):t.parts.length<szT t:=by
 have:∀l:List Trm,l.length<=szTL l:=fun l=>by
  induction l with
  |nil=>exact Of _
  |cons x r ih=>have:=hX x;rw[szTL,O8];omega
 have h1:=this t.parts;have h2:=ji t;omega
theorem Fp:∀(n:Nat)(t:Trm),szT t<=n->n<=4096->allT ao t=true->(useT t).length<=szT t *1638801/\allT (mxU 400) t=true
 |0,t,h,_,_=>by have:=hX t;omega
 |n+1,t,h,hn,ha=>by
  have h2:=ji t;have hp:=GK t;rw[allT_eq,NZ,allTL_all,O9]at ha;obtain⟨k1,k2⟩:=AT ha.1 (by omega);have ih:∀x∈t.parts,(useT x).length<=szT x *1638801/\allT (mxU 400) x=true:=fun x hx=>by have h1:=jC hx;exact Fp n x (by omega) (by omega) (ha.2 x hx)
  refine⟨?_,?_⟩
  ·have c1:=wG t.parts fun x hx=>(ih x hx).1;have c2:=wF (N:=400) t.shapes fun s hs=>Xo (O9.1 k2 s hs);rw[mJ,Oj,Oj];have c3:(if t.kind=5/\t.pkg≠[]then[(⟨t.pkg,t.name⟩:Nam)]else[]).length<=1:=by split<;>simp
   have c4:szT t *1638801=szTL t.parts *1638801+1638801:=by rw[h2];omega
   omega
  ·rw[allT_eq,NZ,allTL_all,O9];exact⟨k2,fun x hx=>(ih x hx).2⟩
def AU(d:Dcl):Prop:=sz d.shape<=400/\szT d.term<=4096/\allT (mxU 400) d.term=true/\(qQ d).length<=6712530000
theorem Na{d:Dcl}(h:gH d=true):AU d:=by
 have hS:(useS d.shape).length<=sz d.shape:=useS_sz _;unfold AU qQ;rw[Oj];unfold gH at h;split at h
 ·simp only[NZ,O1]at h;obtain⟨⟨⟨_,h1⟩,_⟩,h2⟩:=h;have hz:=(dD h1).1;unfold noT at h2;simp only[NZ,O1]at h2;obtain⟨⟨⟨⟨⟨a1,a2⟩,a3⟩,a4⟩,a5⟩,a6⟩:=h2;have p0:d.term.parts=[]:=Oc (by omega);have s0:d.term.shapes=[]:=Oc (by omega);have zt:szT d.term=1:=by rw[ji,p0,szTL]
  have ut:useT d.term=[]:=by rw[mJ,p0,s0,useTL,useSL,O0 (by omega)];rfl
  refine⟨hz,by omega,?_,by rw[ut,ON];omega⟩;rw[allT_eq,p0,allTL,mxU,s0];rfl
 ·split at h
  ·simp only[NZ,O1]at h;obtain⟨⟨_,h1⟩,h2⟩:=h;have hz:sz d.shape<=400:=by unfold noS at h2;simp only[NZ,O1]at h2;have p0:d.shape.parts=[]:=Oc (by omega);rw[jh,p0,szL];omega
   unfold du at h1;rw[countT_size d.term 4096 (by omega)]at h1;split at h1
   ·omega
   split at h1
   ·omega
   split at h1
   ·rename_i a _ b;have hs:szT d.term<=4096:=by omega
    obtain⟨u1,u2⟩:=Fp _ d.term (Od _) hs b;exact⟨hz,hs,u2,by omega⟩
   ·omega
  ·cases h
theorem AW:∀l:List Dcl,(∀d∈l,AU d)->(cU l).length<=l.length *6712530000
 |[],_=>Of _
 |d::r,h=>by have h1:=(h d (Ox ..)).2.2.2;have h2:=AW r fun x hx=>h x (Og _ hx);rw[cU,Oj,O8,Nat.succ_mul];omega
theorem JG{m:Modu}(h:bq m=0)(hd:m.decls.length<=60):(∀d∈m.decls,AU d)/\(cU m.decls).length<=402751800000:=by
 unfold bq at h;split at h
 ·rename_i k;unfold okM at k;simp only[NZ,O9]at k;have q:∀d∈m.decls,AU d:=fun d hd=>by have:=k.2.2.1 d hd;unfold lX at this;rw[NZ]at this;exact Na this.1
  have c:=AW _ q;refine⟨q,OT c ?_⟩;omega
 ·cases h
def da(m:Modu):List Nam:=if bq m=0 then tZ [] (cU m.decls)else[]
def dM(l:List Nam)(x:Impt):Bool:=l.any fun u=>decide (u.pkg=x.name)
def cC(l:List Nam):List Impt->List Str
 |[]=>[]
 |x::r=>if dM l x=true then cC l r else x.name::cC l r
def eF(m:Modu):List Str:=if bq m=0 then cC (da m) m.imports else[]
theorem wH(l:List Nam):∀a b:List Impt,cC l (a++b)=cC l a++cC l b
 |[],b=>rfl
 |x::a,b=>by rw[OQ,cC,cC,wH l a b];split<;>rfl
theorem DF(l:List Nam)(xs:List Impt)(k:Nat)(d:Impt)(h:k<xs.length) :
  cC l (xs.take (k+1))=if dM l (xs.getD k d)=true then cC l (xs.take k)else cC l (xs.take k)++[(xs.getD k d).name]:=by
 rw[cD xs k d h,wH,cC];split
 ·rw[cC,P2]
 ·rw[cC]
theorem qa(l:List Nam):∀a:List Impt,(cC l a).length<=a.length
 |[]=>Od _
 |x::r=>by have:=qa l r;rw[cC];split<;>simp only[O8]<;>omega
end Go.Pd
end
