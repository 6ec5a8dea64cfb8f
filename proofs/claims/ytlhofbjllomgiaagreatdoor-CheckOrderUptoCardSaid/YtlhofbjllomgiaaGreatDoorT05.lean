/- The layer: Go code as conditions, and that they are sound. Plain facts. No condition. -/
import Derived.Test.YtlhofbjllomgiaaGreatDoorT04
import Derived.BigQuiet
import Derived.Deep.QuietTactic
import Derived.KernelRfl
import Derived.Lib.Bytealg
import Derived.LoopN
import Derived.Recover
import Derived.Shelf.SlIter.Sorted
import Derived.Shelf.SlSortCmp.NoneTotal
import Derived.Shelf.SlSortCmp.Whole1
import Derived.Shelf.SlSortCmp.WholeK
import Derived.Shelf.Slices.Clone
import Derived.Shelf.Slices.CompactS
import Derived.Shelf.Small.Strs
import Derived.Shelf.Sort.Plain
import Derived.Shelf.Strconv.Atoi
import Derived.Sort.Walk0
import Derived.Test.YtlhofbjllomgiaaGreatDoorProg
set_option linter.all false
set_option maxRecDepth 100000
noncomputable section
namespace Go.AL
open Go.ChangeShapes Go.WideShapes Go.RowKit
variable [Tabs]
structure GoodR{H:Type}(P:Program)(N M:Nat)(g:TypeId->DataW H->Prop):Prop where
 str:∀t s,P.underlying t=some .string->g t (.lit (.string s))->s.length<=M
 len:∀t e es sp,P.underlying t=some (.slice e)->g t (.slice es sp)->16<=P.bytesOf e->es.length<=N
 el:∀t e es sp,P.underlying t=some (.slice e)->g t (.slice es sp)->∀x∈es,g e x
 part:∀t fs ps,P.underlying t=some (.struct fs)->g t (.agg ps)->∀(i:Nat)(f:Field) p,fs[i]?=some f->ps[i]?=some p->g f.type p
variable {H:Type} {enc:TypeId×Value->H} {P:Program} {w:World} {base:Nat} {held:Bool}
theorem IG{N M:Nat}{g:TypeId->DataW H->Prop}(hb:GoodR P N M g){t e:TypeId}{τ:Ty}{Q:den τ->Prop}{fuel:Nat}{cs:List Value}{x:DataW H×List MemPlace}(ht:P.underlying t=some (.slice e))(hc:P.cellsOf e=ab τ)(h:DataW.trod enc P w base (fun _=>true) held fuel t cs=some x)(hg:g t x.1)
 (hel:∀(n:Nat)(ds:List Value)(y:DataW H×List MemPlace),fuel=n+1->DataW.trod enc P w base (fun _=>true) held n e ds=some y->g e y.1->∃z:den τ,VL (Om0 w) (cells τ z) ds/\Q z)
 (hsp:∀a len cap,cs=[.slice (some a) len cap]->a.spot=none):∃(l:List (den τ))(v:Value),cs=[v]/\V (Om0 w) (.lst τ l none) v/\(16<=P.bytesOf e->l.length<=N)/\∀z∈l,Q z:=by
 rcases Qe ht h with⟨rfl,_⟩|⟨a,len,cap,elems,rest,n,hfu,rfl,hx,_,hlc,hcm,hlen,hels,_,_⟩
 ·exact⟨[],_,rfl,.lstNil τ none (fun id hid=>by cases hid),fun _=>NU _,fun z hz=>by cases hz⟩
 ·have hs:=hsp a len cap rfl;obtain⟨bl,off,spot⟩:=a;simp only at hs;subst hs
  have each:∀i,i<len->∃z:den τ,∃ds:List Value,ds.length=ab τ/\(∀j,j<ab τ->w.cell? ⟨bl,off+(i *ab τ+j),none⟩=ds[j]?)/\VL (Om0 w) (cells τ z) ds/\Q z:=by
   intro i hi;have h1:=hels i hi;obtain⟨y,hy⟩:∃y,elems[i]?=some y:=⟨_,Nw (by omega)⟩;rw[hy,hc,Q2]at h1;obtain⟨ds,hd,hy'⟩:=h1;obtain⟨_,hdl,hdc⟩:=QA hd
   obtain⟨z,hz,hq⟩:=hel n ds y hfu hy' (by
    rw[hx]at hg;exact hb.el _ _ _ _ ht hg _ (List.mem_map_of_mem (NW hy)))
   refine⟨z,ds,hdl,fun j hj=>?_,hz,hq⟩;have:=hdc j hj
   have ha:∀(o n:Nat),(⟨bl,o,none⟩:Addr).add n=⟨bl,o+n,none⟩:=by
    intro o n;unfold Addr.add;by_cases h0:n=0
    ·subst h0;rfl
    ·rw[Ny h0]
   rw[ha,ha,Pg]at this;exact this
  have hz:∃l:List (den τ),l.length=len/\∀i z,l[i]?=some z->∃ds:List Value,ds.length=ab τ/\(∀j,j<ab τ->w.cell? ⟨bl,off+(i *ab τ+j),none⟩=ds[j]?)/\VL (Om0 w) (cells τ z) ds/\Q z:=by
   refine⟨(List.range len).attach.map fun i=>(each i.1 (OZ.1 i.2)).choose,by simp,fun i z hi=>?_⟩;have hil:i<len:=by have:=(Od.1 hi).1;simpa using this
   simp only[O5,NY]at hi;obtain⟨⟨k,hk⟩,h1,h2⟩:=hi;have hki:k=i:=by have:=Od.1 h1;obtain⟨_,e⟩:=this;have:=Pj Subtype.val e;simpa using this.symm
   subst hki;rw[<-h2];exact(each k (OZ.1 hk)).choose_spec
  obtain⟨l,hll,hle⟩:=hz;have hQ:∀z∈l,Q z:=fun z hz=>by obtain⟨i,hi⟩:=Pm hz;obtain⟨_,_,_,_,hq⟩:=hle i z hi;exact hq
  have hL:16<=P.bytesOf e->l.length<=N:=fun h16=>by
   rw[hx]at hg;rw[hll,<-hlen];have:=hb.len _ _ _ _ ht hg h16
   rwa [Ox]at this
  refine⟨l,_,rfl,?_,hL,hQ⟩;have key:=V.lst (Ω:=Om0 w) τ l none bl off cap (fun i j=>(w.cell? ⟨bl,off+(i *ab τ+j),none⟩).getD undef) (by omega) (by unfold maxLen at hcm;unfold bq;omega) (fun id hid=>by cases hid) (fun i z hz j c hj=>?_) (fun i z hz j c hj=>?_)
  ·rw[hll]at key;exact key
  ·obtain⟨ds,d1,d2,d3,_⟩:=hle i z hz;have hjw:j<ab τ:=by rw[<-aR τ z];exact(Od.1 hj).1
   have hv:w.cell? ⟨bl,off+(i *ab τ+j),none⟩=some ds[j]:=by rw[d2 j hjw];exact Nw (by omega)
   refine⟨⟨_,hv⟩,?_⟩;show w.cell? _=_;rw[hv];rfl
  ·obtain⟨ds,d1,d2,d3,_⟩:=hle i z hz;have hjw:j<ab τ:=by rw[<-aR τ z];exact(Od.1 hj).1
   have hd:ds[j]?=some ds[j]:=Nw (by omega);rw[d2 j hjw,hd];exact d3.2 j c ds[j] hj hd
theorem mP{N M:Nat}{g:TypeId->DataW H->Prop}(hb:GoodR P N M g){t e:TypeId}{τ:Ty}{Q:den τ->Prop}{fuel:Nat}{cs:List Value}{x:DataW H×List MemPlace}(ht:P.underlying t=some (.slice e))(hc:P.cellsOf e=ab τ)(hw:0<ab τ)
 (h:DataW.trod enc P w base (fun _=>true) held fuel t cs=some x)(hg:g t x.1)
 (hel:∀(n:Nat)(ds:List Value)(y:DataW H×List MemPlace),fuel=n+1->DataW.trod enc P w base (fun _=>true) held n e ds=some y->g e y.1->∃z:den τ,VL (Om0 w) (cells τ z) ds/\Q z) :
  ∃(l:List (den τ))(v:Value),cs=[v]/\V (Om0 w) (.lst τ l none) v/\(16<=P.bytesOf e->l.length<=N)/\∀z∈l,Q z:=by
 have h0:=h;rcases Qe ht h with⟨rfl,_⟩|⟨a,len,cap,elems,rest,n,hfu,rfl,_,_,hlc,hcm,hlen,hels,hrest,_⟩
 ·exact⟨[],_,rfl,.lstNil τ none (fun id hid=>by cases hid),fun _=>NU _,fun z hz=>by cases hz⟩
 ·by_cases hcap:cap=0
  ·have:len=0:=by omega
   subst hcap this;exact⟨[],_,rfl,.lstVoid τ a,fun _=>NU _,fun z hz=>by cases hz⟩
  ·refine IG hb ht hc h0 hg hel fun a' len' cap' e'=>?_;simp only[OC,OP,Xs,Oc]at e';obtain⟨rfl,rfl,rfl⟩:=e'
   have hr:∃(ad:Addr)(y:DataW H×List MemPlace),ad=a/\(w.cells? base ad (P.cellsOf e)).bind (DataW.trod enc P w base (fun _=>true) held n e)=some y:=by
    by_cases hl:len=0
    ·obtain⟨r1,r2⟩:=hrest rfl;have:=r2 0 (by omega);rw[hl]at this;refine⟨_,_,?_,this.trans (Nw (by omega))⟩;simp[Addr.add]
    ·have:=hels 0 (by omega);refine⟨_,_,?_,this.trans (Nw (by omega))⟩;simp[Addr.add]
   obtain⟨ad,y,rfl,hy⟩:=hr;rw[Q2]at hy;obtain⟨ds,hd,_⟩:=hy;obtain⟨_,hdl,hdc⟩:=QA hd;have:=hdc 0 (by rw[hc];exact hw);have ha:ad.add 0=ad:=by simp[Addr.add]
   rw[ha,Nw (by rw[hdl,hc];exact hw)]at this;unfold World.cell? at this;split at this
   ·split at this
    ·cases this
    ·rename_i hs;cases hsp:ad.spot
     ·rfl
     ·rw[hsp]at hs;exact absurd rfl hs
   ·cases this
theorem jk{N M:Nat}{g:TypeId->DataW H->Prop}(hb:GoodR P N M g){sp:Nat->Bool}{t:TypeId}{fs:Array Field}{fuel:Nat}{cs:List Value}{x:DataW H×List MemPlace}(ht:P.underlying t=some (.struct fs))(h:DataW.trod enc P w base sp held fuel t cs=some x)(hg:g t x.1) :
  ∃n,fuel=n+1/\cs.length=P.cellsOf t/\∀(i:Nat)(f:Field),fs[i]?=some f->∃y,DataW.trod enc P w base sp held n f.type ((cs.drop f.offset).take (P.cellsOf f.type))=some y/\g f.type y.1:=by
 obtain⟨xs,n,hn,hx,hl,hs,hf⟩:=DataW.trod_struct ht h;refine⟨n,hn,hl,fun i f hif=>?_⟩
 have hi:i<xs.length:=by
  rw[hs];rcases NF i fs.size with k|k
  ·exact k
  ·rw[Ol k]at hif;cases hif
 refine⟨xs[i],by rw[hf i f hif];exact Nw hi,?_⟩;rw[hx]at hg;exact hb.part _ _ _ ht hg i f _ hif (by rw[O5,Nw hi];rfl)
theorem Ml{N M:Nat}{g:TypeId->DataW H->Prop}(hb:GoodR P N M g){sp:Nat->Bool}{t:TypeId}{fuel:Nat}{cs:List Value}{x:DataW H×List MemPlace}(ht:P.underlying t=some .string)(h:DataW.trod enc P w base sp held fuel t cs=some x)(hg:g t x.1) :
  ∃(s:Str)(v:Value),cs=[v]/\V (Om0 w) (.str s) v/\s.length<=M:=by
 obtain⟨s,rfl,hx,hw⟩:=DataW.trod_string ht h;refine⟨s.data.toList,_,rfl,?_,by rw[hx]at hg;exact hb.str _ _ ht hg⟩;have e:s=⟨s.data.toList.toArray⟩:=by cases s;simp
 have hl:s.data.toList.length<=bq:=by have:s.data.size=s.size:=rfl;unfold maxLen at hw;unfold bq;simp only[Pb,this];omega
 have:=V.str (Ω:=Om0 w) s.data.toList hl;rw[<-e]at this;exact this
structure TermAt(P:Program)(t:TypeId):Prop where
 ex:∃(f0 f1 f2 f3 f4 f5 f6 f7 f8:Field)(e g:TypeId),P.underlying t=some (.struct #[f0,f1,f2,f3,f4,f5,f6,f7,f8])/\P.cellsOf t=9/\
  (f0.offset=0/\f1.offset=1/\f2.offset=2/\f3.offset=3/\f4.offset=4/\f5.offset=5/\f6.offset=6/\f7.offset=7/\f8.offset=8)/\
  (P.cellsOf f0.type=1/\P.cellsOf f1.type=1/\P.cellsOf f2.type=1/\P.cellsOf f3.type=1/\P.cellsOf f4.type=1/\P.cellsOf f5.type=1/\P.cellsOf f6.type=1/\P.cellsOf f7.type=1/\P.cellsOf f8.type=1)/\
  (P.underlying f0.type=some (.int .i64)/\P.underlying f1.type=some .string/\P.underlying f2.type=some .string/\P.underlying f3.type=some (.int .i64)/\P.underlying f4.type=some (.slice e)/\P.underlying f5.type=some (.slice e)/\
   P.underlying f6.type=some (.slice g)/\P.underlying f7.type=some (.slice t)/\P.underlying f8.type=some (.int .i64))/\(P.underlying e=some .string/\P.cellsOf e=1/\P.bytesOf e=16)/\ShapeAt P g
def jM(N M:Nat)(x:Trm):Bool:=decide (x.names.length<=N)&&decide (x.name.length<=M)
theorem Mm{N M:Nat}{g:TypeId->DataW H->Prop}(hb:GoodR P N M g){t:TypeId}(hs:TermAt P t):∀(fuel:Nat)(cs:List Value)(x:DataW H×List MemPlace),DataW.trod enc P w base (fun _=>true) held fuel t cs=some x->g t x.1->
  ∃s:Trm,VL (Om0 w) (cells (.st .term) s) cs/\Pd.allT (jM N M) s=true:=by
 obtain⟨f0,f1,f2,f3,f4,f5,f6,f7,f8,e,e6,ht,hc,⟨o0,o1,o2,o3,o4,o5,o6,o7,o8⟩,⟨c0,c1,c2,c3,c4,c5,c6,c7,c8⟩,⟨u0,u1,u2,u3,u4,u5,u6,u7,u8⟩,⟨us,ce,b16⟩,hg⟩:=hs;have cg:P.cellsOf e6=ab (.st .shape):=by obtain⟨_,_,_,_,_,_,_,hc,_⟩:=hg;rw[hc];rfl
 intro fuel
 induction fuel using Nat.strongRecOn with
 |_ fuel ih=>
 intro cs x h hN;obtain⟨n,hn,hl,hf⟩:=jk hb ht h hN;rw[hc]at hl;obtain⟨y0,h0,_⟩:=hf 0 f0 rfl;obtain⟨y1,h1,_⟩:=hf 1 f1 rfl;obtain⟨y2,h2,b2⟩:=hf 2 f2 rfl;obtain⟨y3,h3,_⟩:=hf 3 f3 rfl;obtain⟨y4,h4,b4⟩:=hf 4 f4 rfl;obtain⟨y5,h5,_⟩:=hf 5 f5 rfl;obtain⟨y6,h6,_⟩:=hf 6 f6 rfl;obtain⟨y7,h7,b7⟩:=hf 7 f7 rfl;obtain⟨y8,h8,_⟩:=hf 8 f8 rfl
 match cs,hl with
 |[a0,a1,a2,a3,a4,a5,a6,a7,a8],_=>
  rw[o0,c0]at h0;rw[o1,c1]at h1;rw[o2,c2]at h2;rw[o3,c3]at h3;rw[o4,c4]at h4;rw[o5,c5]at h5;rw[o6,c6]at h6;rw[o7,c7]at h7;rw[o8,c8]at h8;simp only[OG,OU,OK,P7]at h0 h1 h2 h3 h4 h5 h6 h7 h8;obtain⟨k,e0,v0⟩:=jC u0 h0;obtain⟨p,w1,e1,v1⟩:=jf u1 h1;obtain⟨m,w2,e2,v2,l2⟩:=Ml hb u2 h2 b2;obtain⟨z,e3,v3⟩:=jC u3 h3;have strs:∀(n:Nat)(ds:List Value)(y:DataW H×List MemPlace),DataW.trod enc P w base (fun _=>true) held n e ds=some y->∃z:den .str,VL (Om0 w) (cells .str z) ds:=fun n ds y hy=>by obtain⟨s,v,rfl,hv⟩:=jf us hy;exact⟨s,VL.cons hv .nil⟩
  obtain⟨ns,w4,e4,v4,l4,_⟩:=mP (τ:=.str) (Q:=fun _=>True) hb u4 ce (by decide) h4 b4 (fun n ds y _ hy _=>by obtain⟨z,hz⟩:=strs n ds y hy;exact⟨z,hz,trivial⟩);obtain⟨vs,w5,e5,v5⟩:=nN (τ:=.str) u5 ce (by decide) h5 (fun n ds y _ hy=>strs n ds y hy);obtain⟨ss,w6,e6,v6⟩:=nN (τ:=.st .shape) u6 cg (by decide) h6 (fun n ds y _ hy=>EI hg n ds y hy);obtain⟨ps,w7,e7,v7,_,q7⟩:=mP (τ:=.st .term) (Q:=fun s=>Pd.allT (jM N M) s=true) hb u7 (by rw[hc];rfl) (by decide) h7 b7 (fun k ds y hk hy hle=>ih k (by omega) ds y hy hle);obtain⟨at_,e8,v8⟩:=jC u8 h8;simp only[OC,Oc]at e0 e1 e2 e3 e4 e5 e6 e7 e8;subst e0 e1 e2 e3 e4 e5 e6 e7 e8;refine⟨⟨k,p,m,z,ns,vs,ss,ps,at_⟩,VL.cons v0 (VL.cons v1 (VL.cons v2 (VL.cons v3 (VL.cons v4 (VL.cons v5 (VL.cons v6 (VL.cons v7 (VL.cons v8 .nil)))))))),?_⟩;rw[Pd.allT_eq,Nx,Pd.allTL_all,NJ];refine⟨?_,q7⟩;unfold jM;rw[Xd (show ns.length<=N from l4 (Nat.le_of_eq b16.symm)),Xd (show m.length<=M from l2)];rfl
end Go.AL
end
noncomputable section
namespace Go.AL
open Go.ChangeShapes Go.WideShapes Go.RowKit
variable [Tabs]
variable {H:Type} {enc:TypeId×Value->H} {P:Program} {w:World} {base:Nat} {held:Bool}
def nmB(N:Nat)(s:Shape):Bool:=decide (s.names.length<=N)&&decide (s.parts.length<=N)
def CP(P:Program)(t:TypeId):Prop:=∀(fs:Array Field)(i:Nat)(f:Field)(e:TypeId),P.underlying t=some (.struct fs)->fs[i]?=some f->P.underlying f.type=some (.slice e)->16<=P.bytesOf e
theorem IH{N M:Nat}{g:TypeId->DataW H->Prop}(hb:GoodR P N M g){t:TypeId}(hs:ShapeAt P t)(h16:CP P t):∀(fuel:Nat)(cs:List Value)(x:DataW H×List MemPlace),DataW.trod enc P w base (fun _=>true) held fuel t cs=some x->g t x.1->∃s:Shape,VL (Om0 w) (cells (.st .shape) s) cs/\Pd.allS (nmB N) s=true:=by
 obtain⟨f0,f1,f2,f3,f4,e,ht,hc,⟨o0,o1,o2,o3,o4⟩,⟨c0,c1,c2,c3,c4⟩,u0,u1,u2,u3,us,ce,u4⟩:=hs;intro fuel
 induction fuel using Nat.strongRecOn with
 |_ fuel ih=>
 intro cs x h hg;obtain⟨n,hn,hl,hf⟩:=jk hb ht h hg;rw[hc]at hl;obtain⟨y0,h0,_⟩:=hf 0 f0 rfl;obtain⟨y1,h1,_⟩:=hf 1 f1 rfl;obtain⟨y2,h2,_⟩:=hf 2 f2 rfl;obtain⟨y3,h3,b3⟩:=hf 3 f3 rfl;obtain⟨y4,h4,b4⟩:=hf 4 f4 rfl
 match cs,hl with
 |[a0,a1,a2,a3,a4],_=>
  rw[o0,c0]at h0;rw[o1,c1]at h1;rw[o2,c2]at h2;rw[o3,c3]at h3;rw[o4,c4]at h4;simp only[OG,OU,OK,P7]at h0 h1 h2 h3 h4;obtain⟨k,e0,v0⟩:=jC u0 h0;obtain⟨p,v,e1,v1⟩:=jf u1 h1;obtain⟨m,v',e2,v2⟩:=jf u2 h2;obtain⟨ns,v'',e3,v3,q3,_⟩:=mP (τ:=.str) (Q:=fun _=>True) hb u3 (by rw[ce];rfl) (by decide) h3 b3 fun n' ds y _ hy _=>by obtain⟨s,v,rfl,hv⟩:=jf us hy;exact⟨s,VL.cons hv .nil,trivial⟩
  obtain⟨ps,v''',e4,v4,p4,q4⟩:=mP (τ:=.st .shape) (Q:=fun s:Shape=>Pd.allS (nmB N) s=true) hb u4 (by rw[hc];rfl) (by decide) h4 b4 fun n' ds y hn' hy hq=>ih n' (by omega) ds y hy hq;simp only[OC,Oc]at e0 e1 e2 e3 e4;subst e0 e1 e2 e3 e4;refine⟨⟨k,p,m,ns,ps⟩,VL.cons v0 (VL.cons v1 (VL.cons v2 (VL.cons v3 (VL.cons v4 .nil)))),?_⟩;rw[Pd.allS_eq,Nx,Pd.allL_all,NJ];refine⟨?_,q4⟩;rw[nmB,Nx];exact⟨Xd (q3 (h16 _ 3 f3 e ht rfl u3)),Xd (p4 (h16 _ 4 f4 t ht rfl u4))⟩
structure ItemAtQ(P:Program)(t:TypeId):Prop where
 ex:∃(f0 f1 f2:Field),P.underlying t=some (.struct #[f0,f1,f2])/\P.cellsOf t=7/\(f0.offset=0/\f1.offset=1/\f2.offset=2)/\
  (P.cellsOf f0.type=1/\P.cellsOf f1.type=1/\P.cellsOf f2.type=5)/\P.underlying f0.type=some (.int .i64)/\P.underlying f1.type=some .string/\ShapeAt P f2.type/\CP P f2.type
theorem KT{N M:Nat}{g:TypeId->DataW H->Prop}(hb:GoodR P N M g){t:TypeId}(hs:ItemAtQ P t)(fuel:Nat)(cs:List Value)(x:DataW H×List MemPlace)(h:DataW.trod enc P w base (fun _=>true) held fuel t cs=some x)(hg:g t x.1) :
  ∃s:AL.Item,VL (Om0 w) (cells (.st .item) s) cs/\Pd.allS (nmB N) s.shape=true:=by
 obtain⟨f0,f1,f2,ht,hc,⟨o0,o1,o2⟩,⟨c0,c1,c2⟩,u0,u1,u2,u3⟩:=hs;obtain⟨n,hn,hl,hf⟩:=jk hb ht h hg;rw[hc]at hl;obtain⟨y0,h0,_⟩:=hf 0 f0 rfl;obtain⟨y1,h1,_⟩:=hf 1 f1 rfl;obtain⟨y2,h2,b2⟩:=hf 2 f2 rfl
 match cs,hl with
 |[a0,a1,a2,a3,a4,a5,a6],_=>rw[o0,c0]at h0;rw[o1,c1]at h1;rw[o2,c2]at h2;simp only[OG,OU,OK,P7]at h0 h1 h2;obtain⟨k,e0,v0⟩:=jC u0 h0;obtain⟨p,v,e1,v1⟩:=jf u1 h1;obtain⟨s,v2,q2⟩:=IH hb u2 u3 _ _ _ h2 b2;simp only[OC,Oc]at e0 e1;subst e0 e1;exact⟨⟨k,p,s⟩,VL.cons v0 (VL.cons v1 v2),q2⟩
structure DepAt(P:Program)(t:TypeId):Prop where
 ex:∃(f0 f1:Field)(e:TypeId),P.underlying t=some (.struct #[f0,f1])/\P.cellsOf t=2/\(f0.offset=0/\f1.offset=1)/\(P.cellsOf f0.type=1/\P.cellsOf f1.type=1)/\P.underlying f0.type=some .string/\P.underlying f1.type=some (.slice e)/\ItemAtQ P e/\16<=P.bytesOf e
end Go.AL
end
section
namespace Go.AL
open Go Go.Proofs
section
variable {H:Type} {enc:TypeId×Value->H} {P:Program} {w:World} {base:Nat} {held:Bool} [Tabs]
theorem N9{N M:Nat}{g:TypeId->DataW H->Prop}(hb:GoodR P N M g){t:TypeId}(hs:DepAt P t)(fuel:Nat)(cs:List Value)(x:DataW H×List MemPlace)(h:DataW.trod enc P w base (fun _=>true) held fuel t cs=some x)(hg:g t x.1) :
  ∃s:Depd,VL (Om0 w) (cells (.st .dep) s) cs/\s.items.length<=N/\∀x∈s.items,Pd.allS (nmB N) x.shape=true:=by
 obtain⟨f0,f1,e,ht,hc,⟨o0,o1⟩,⟨c0,c1⟩,u0,u1,hi,h16⟩:=hs;obtain⟨n,hn,hl,hf⟩:=jk hb ht h hg;rw[hc]at hl;obtain⟨y0,h0,_⟩:=hf 0 f0 rfl;obtain⟨y1,h1,b1⟩:=hf 1 f1 rfl
 match cs,hl with
 |[a0,a1],_=>rw[o0,c0]at h0;rw[o1,c1]at h1;simp only[OG,OU,OK,P7]at h0 h1;obtain⟨p,v',e0,v0⟩:=jf u0 h0;obtain⟨l,w1,e1,v1,p1,q1⟩:=mP (τ:=.st .item) (Q:=fun x:AL.Item=>Pd.allS (nmB N) x.shape=true) hb u1 (by obtain⟨_,_,_,_,hc',_⟩:=hi;rw[hc'];rfl) (by decide) h1 b1 (fun n ds y _ hy hq=>KT hb hi n ds y hy hq);simp only[OC,Oc]at e0 e1;subst e0 e1;exact⟨⟨p,l⟩,VL.cons v0 (VL.cons v1 .nil),p1 h16,q1⟩
theorem Mn{N M:Nat}{g:TypeId->DataW H->Prop}(hb:GoodR P N M g){t e:TypeId}(ht:P.underlying t=some (.slice e))(hs:DepAt P e){r:Reach}{b0:Nat}{v:Value}{d:DataW H}{ps:List MemPlace}(hv:Value.okWide P w r b0 t v)
 (h:DataW.Trod enc P w base (fun _=>true) held t v d ps)(hg:g t d):∃l:List Depd,V (Om0 w) (.lst (.st .dep) l none) v/\∀m∈l,m.items.length<=N/\∀x∈m.items,Pd.allS (nmB N) x.shape=true:=by
 obtain⟨fu,h⟩:=h;obtain⟨l,u,e',hl,_,hq⟩:=IG (τ:=.st .dep) (Q:=fun m:Depd=>m.items.length<=N/\∀x∈m.items,Pd.allS (nmB N) x.shape=true) hb ht (by obtain⟨_,_,_,_,hc,_⟩:=hs;rw[hc];rfl) h hg (fun n ds y _ hy hq=>N9 hb hs _ _ _ hy hq) (Iq ht hv);rw[KK ht hv]at e';simp only[OC,Oc]at e';subst e';exact⟨l,hl,hq⟩
end
end Go.AL
end
noncomputable section
namespace Go.AL
open Go.ChangeShapes Go.WideShapes Go.RowKit
variable [Tabs]
theorem VL.app{Ω:Om}{xs bs:List AV}{cs ds:List Value}(h:VL Ω xs cs)(k:VL Ω bs ds):VL Ω (xs++bs) (cs++ds):=by
 induction xs generalizing cs with
 |nil=>have:cs=[]:=NR h.1.symm;subst this;exact k
 |cons a xs ih=>
  match cs,h with
  |c::cs,h=>exact VL.cons (h.2 0 a c rfl rfl) (ih ⟨by have:=h.1;simpa using this,fun j x y hx hy=>h.2 (j+1) x y hx hy⟩)
variable {H:Type} {enc:TypeId×Value->H} {P:Program} {w:World} {base:Nat} {held:Bool}
theorem G5{N M:Nat}{g:TypeId->DataW H->Prop}(hb:GoodR P N M g){t e:TypeId}{τ:Ty}{l:List (den τ)}{v:Value}{fuel:Nat}{x:DataW H×List MemPlace}(ht:P.underlying t=some (.slice e))(h16:16<=P.bytesOf e)
 (h:DataW.trod enc P w base (fun _=>true) held fuel t [v]=some x)(hg:g t x.1)(hv:V (Om0 w) (.lst τ l none) v):l.length<=N:=by
 rcases hv.lst_inv with⟨rfl,_⟩|⟨rfl,_⟩|⟨b,off,cap,vals,rfl,_⟩
 ·exact NU _
 ·exact NU _
 ·rcases Qe ht h with⟨hc,_⟩|⟨a,len,cap',elems,rest,n,hfu,hcs,hx,_,hlc,hcm,hlen,hels,_,_⟩
  ·simp at hc
  ·simp only[OC,OP,Oc]at hcs;rw[hx]at hg;have:=hb.len _ _ _ _ ht hg h16;rw[Ox]at this;omega
theorem gd{N M:Nat}{g:TypeId->DataW H->Prop}(hb:GoodR P N M g){t e:TypeId}{fs:Array Field}{i:Nat}{f:Field}{τ:Ty}{l:List (den τ)}{as':List AV}{cs:List Value}{fuel:Nat}{x:DataW H×List MemPlace}(ht:P.underlying t=some (.struct fs))(hi:fs[i]?=some f)
 (h1:P.cellsOf f.type=1)(hf:P.underlying f.type=some (.slice e))(h16:16<=P.bytesOf e)(h:DataW.trod enc P w base (fun _=>true) held fuel t cs=some x)(hg:g t x.1)(hv:VL (Om0 w) as' cs)(hc:as'[f.offset]?=some (.lst τ l none)):l.length<=N:=by
 obtain⟨n,hn,hl,hfs⟩:=jk hb ht h hg;obtain⟨y,hy,gy⟩:=hfs i f hi;have hlt:f.offset<cs.length:=by rw[<-hv.1];exact(Od.1 hc).1
 have e1:(cs.drop f.offset).take 1=[cs[f.offset]]:=by rw[PN hlt];rfl
 rw[h1,e1]at hy;exact G5 hb hf h16 hy gy (hv.2 f.offset _ _ hc (Nw hlt))
structure VersAt(P:Program)(t:TypeId):Prop where
 ex:∃(f0 f1 f2 f3:Field),P.underlying t=some (.struct #[f0,f1,f2,f3])/\P.cellsOf t=4/\(f0.offset=0/\f1.offset=1/\f2.offset=2/\f3.offset=3)/\
  (P.cellsOf f0.type=1/\P.cellsOf f1.type=1/\P.cellsOf f2.type=1/\P.cellsOf f3.type=1)/\P.underlying f0.type=some (.int .i64)/\P.underlying f1.type=some (.int .i64)/\P.underlying f2.type=some (.int .i64)/\P.underlying f3.type=some .string
theorem II{t:TypeId}(hs:VersAt P t)(fuel:Nat)(cs:List Value)(x:DataW H×List MemPlace)(h:DataW.trod enc P w base (fun _=>true) held fuel t cs=some x):∃s:Vers,VL (Om0 w) (cells (.st .version) s) cs:=by
 obtain⟨f0,f1,f2,f3,ht,hc,⟨o0,o1,o2,o3⟩,⟨c0,c1,c2,c3⟩,u0,u1,u2,u3⟩:=hs;obtain⟨n,hn,hl,hf⟩:=rP ht h;rw[hc]at hl;obtain⟨y0,h0⟩:=hf 0 f0 rfl;obtain⟨y1,h1⟩:=hf 1 f1 rfl;obtain⟨y2,h2⟩:=hf 2 f2 rfl;obtain⟨y3,h3⟩:=hf 3 f3 rfl
 match cs,hl with
 |[a0,a1,a2,a3],_=>rw[o0,c0]at h0;rw[o1,c1]at h1;rw[o2,c2]at h2;rw[o3,c3]at h3;simp only[OG,OU,OK,P7]at h0 h1 h2 h3;obtain⟨k0,e0,v0⟩:=jC u0 h0;obtain⟨k1,e1,v1⟩:=jC u1 h1;obtain⟨k2,e2,v2⟩:=jC u2 h2;obtain⟨k3,v',e3,v3⟩:=jf u3 h3;simp only[OC,Oc]at e0 e1 e2 e3;subst e0 e1 e2 e3;exact⟨⟨k0,k1,k2,k3⟩,VL.cons v0 (VL.cons v1 (VL.cons v2 (VL.cons v3 .nil)))⟩
structure BndAt(P:Program)(t:TypeId):Prop where
 ex:∃(f0 f1:Field),P.underlying t=some (.struct #[f0,f1])/\P.cellsOf t=5/\(f0.offset=0/\f1.offset=1)/\(P.cellsOf f0.type=1/\P.cellsOf f1.type=4)/\P.underlying f0.type=some (.int .i64)/\VersAt P f1.type
theorem Na{t:TypeId}(hs:BndAt P t)(fuel:Nat)(cs:List Value)(x:DataW H×List MemPlace)(h:DataW.trod enc P w base (fun _=>true) held fuel t cs=some x):∃s:Bnd,VL (Om0 w) (cells (.st .bound) s) cs:=by
 obtain⟨f0,f1,ht,hc,⟨o0,o1⟩,⟨c0,c1⟩,u0,u1⟩:=hs;obtain⟨n,hn,hl,hf⟩:=rP ht h;rw[hc]at hl;obtain⟨y0,h0⟩:=hf 0 f0 rfl;obtain⟨y1,h1⟩:=hf 1 f1 rfl
 match cs,hl with
 |[a0,a1,a2,a3,a4],_=>rw[o0,c0]at h0;rw[o1,c1]at h1;simp only[OG,OU,OK,P7]at h0 h1;obtain⟨k0,e0,v0⟩:=jC u0 h0;obtain⟨s,v1⟩:=II u1 _ _ _ h1;simp only[OC,Oc]at e0;subst e0;exact⟨⟨k0,s⟩,VL.cons v0 (VL.app v1 .nil)⟩
structure ImpAt(P:Program)(t:TypeId):Prop where
 ex:∃(f0 f1 f2 f3:Field)(e:TypeId),P.underlying t=some (.struct #[f0,f1,f2,f3])/\P.cellsOf t=7/\(f0.offset=0/\f1.offset=1/\f2.offset=5/\f3.offset=6)/\
  (P.cellsOf f0.type=1/\P.cellsOf f1.type=4/\P.cellsOf f2.type=1/\P.cellsOf f3.type=1)/\P.underlying f0.type=some .string/\VersAt P f1.type/\P.underlying f2.type=some (.slice e)/\P.underlying f3.type=some (.int .i64)/\BndAt P e
theorem Nb{t:TypeId}(hs:ImpAt P t)(fuel:Nat)(cs:List Value)(x:DataW H×List MemPlace)(h:DataW.trod enc P w base (fun _=>true) held fuel t cs=some x):∃s:Impt,VL (Om0 w) (cells (.st .imp) s) cs:=by
 obtain⟨f0,f1,f2,f3,e,ht,hc,⟨o0,o1,o2,o3⟩,⟨c0,c1,c2,c3⟩,u0,u1,u2,u3,hb⟩:=hs;obtain⟨n,hn,hl,hf⟩:=rP ht h;rw[hc]at hl;obtain⟨y0,h0⟩:=hf 0 f0 rfl;obtain⟨y1,h1⟩:=hf 1 f1 rfl;obtain⟨y2,h2⟩:=hf 2 f2 rfl;obtain⟨y3,h3⟩:=hf 3 f3 rfl;have hw:P.cellsOf e=ab (.st .bound):=by obtain⟨_,_,_,hc,_⟩:=hb;rw[hc];rfl
 match cs,hl with
 |[a0,a1,a2,a3,a4,a5,a6],_=>rw[o0,c0]at h0;rw[o1,c1]at h1;rw[o2,c2]at h2;rw[o3,c3]at h3;simp only[OG,OU,OK,P7]at h0 h1 h2 h3;obtain⟨k0,v',e0,v0⟩:=jf u0 h0;obtain⟨s,v1⟩:=II u1 _ _ _ h1;obtain⟨l,w2,e2,v2⟩:=nN (τ:=.st .bound) u2 hw (by decide) h2 (fun n ds y _ hy=>Na hb n ds y hy);obtain⟨k3,e3,v3⟩:=jC u3 h3;simp only[OC,Oc]at e0 e2 e3;subst e0 e2 e3;exact⟨⟨k0,s,l,k3⟩,VL.cons v0 (VL.app v1 (VL.cons v2 (VL.cons v3 .nil)))⟩
def zW(N:Nat)(s:Dcl):Prop:=s.shape.names.length<=N/\s.shape.parts.length<=N/\s.term.names.length<=N/\s.term.vars.length<=N/\s.term.shapes.length<=N/\s.term.parts.length<=N
def tV(P:Program)(t:TypeId):Prop:=∀(fs:Array Field)(i:Nat)(f:Field)(e:TypeId),P.underlying t=some (.struct fs)->fs[i]?=some f->P.underlying f.type=some (.slice e)->16<=P.bytesOf e
theorem zX{N M:Nat}{g:TypeId->DataW H->Prop}(hb:GoodR P N M g){t:TypeId}(hs:ShapeAt P t)(hw:tV P t){fuel:Nat}{cs:List Value}{x:DataW H×List MemPlace}{s:Shape}(h:DataW.trod enc P w base (fun _=>true) held fuel t cs=some x)(hg:g t x.1)
 (hv:VL (Om0 w) (cells (.st .shape) s) cs):s.names.length<=N/\s.parts.length<=N:=by
 obtain⟨f0,f1,f2,f3,f4,e,ht,hc,⟨o0,o1,o2,o3,o4⟩,⟨c0,c1,c2,c3,c4⟩,u0,u1,u2,u3,us,ce,u4⟩:=hs;exact⟨gd (i:=3) (f:=f3) (τ:=.str) hb ht rfl c3 u3 (hw _ 3 f3 _ ht rfl u3) h hg hv (by rw[o3];rfl),gd (i:=4) (f:=f4) (τ:=.st .shape) hb ht rfl c4 u4 (hw _ 4 f4 _ ht rfl u4) h hg hv (by rw[o4];rfl)⟩
theorem CQ{N M:Nat}{g:TypeId->DataW H->Prop}(hb:GoodR P N M g){t:TypeId}(hs:TermAt P t)(hw:tV P t){fuel:Nat}{cs:List Value}{x:DataW H×List MemPlace}{s:Trm}(h:DataW.trod enc P w base (fun _=>true) held fuel t cs=some x)(hg:g t x.1)
 (hv:VL (Om0 w) (cells (.st .term) s) cs):s.names.length<=N/\s.vars.length<=N/\s.shapes.length<=N/\s.parts.length<=N:=by
 obtain⟨f0,f1,f2,f3,f4,f5,f6,f7,f8,e,e6,ht,hc,⟨o0,o1,o2,o3,o4,o5,o6,o7,o8⟩,⟨c0,c1,c2,c3,c4,c5,c6,c7,c8⟩,⟨u0,u1,u2,u3,u4,u5,u6,u7,u8⟩,⟨us,ce,b16⟩,hg'⟩:=hs
 exact⟨gd (i:=4) (f:=f4) (τ:=.str) hb ht rfl c4 u4 (hw _ 4 f4 _ ht rfl u4) h hg hv (by rw[o4];rfl),gd (i:=5) (f:=f5) (τ:=.str) hb ht rfl c5 u5 (hw _ 5 f5 _ ht rfl u5) h hg hv (by rw[o5];rfl),
  gd (i:=6) (f:=f6) (τ:=.st .shape) hb ht rfl c6 u6 (hw _ 6 f6 _ ht rfl u6) h hg hv (by rw[o6];rfl),gd (i:=7) (f:=f7) (τ:=.st .term) hb ht rfl c7 u7 (hw _ 7 f7 _ ht rfl u7) h hg hv (by rw[o7];rfl)⟩
structure DclAt(P:Program)(t:TypeId):Prop where
 ex:∃(f0 f1 f2 f3 f4:Field),P.underlying t=some (.struct #[f0,f1,f2,f3,f4])/\P.cellsOf t=17/\(f0.offset=0/\f1.offset=1/\f2.offset=2/\f3.offset=7/\f4.offset=16)/\
  (P.cellsOf f0.type=1/\P.cellsOf f1.type=1/\P.cellsOf f2.type=5/\P.cellsOf f3.type=9/\P.cellsOf f4.type=1)/\P.underlying f0.type=some (.int .i64)/\P.underlying f1.type=some .string/\(ShapeAt P f2.type/\tV P f2.type)/\(TermAt P f3.type/\tV P f3.type)/\P.underlying f4.type=some (.int .i64)
theorem Nc{N M:Nat}{g:TypeId->DataW H->Prop}(hb:GoodR P N M g){t:TypeId}(hs:DclAt P t)(fuel:Nat)(cs:List Value)(x:DataW H×List MemPlace)(h:DataW.trod enc P w base (fun _=>true) held fuel t cs=some x)(hg:g t x.1) :
  ∃s:Dcl,VL (Om0 w) (cells (.st .decl) s) cs/\Pd.allT (jM N M) s.term=true/\zW N s:=by
 obtain⟨f0,f1,f2,f3,f4,ht,hc,⟨o0,o1,o2,o3,o4⟩,⟨c0,c1,c2,c3,c4⟩,u0,u1,⟨u2,q2⟩,⟨u3,q3⟩,u4⟩:=hs;obtain⟨n,hn,hl,hf⟩:=jk hb ht h hg;rw[hc]at hl;obtain⟨y0,h0,_⟩:=hf 0 f0 rfl;obtain⟨y1,h1,_⟩:=hf 1 f1 rfl;obtain⟨y2,h2,b2⟩:=hf 2 f2 rfl;obtain⟨y3,h3,b3⟩:=hf 3 f3 rfl;obtain⟨y4,h4,_⟩:=hf 4 f4 rfl
 match cs,hl with
 |[a0,a1,a2,a3,a4,a5,a6,a7,a8,a9,a10,a11,a12,a13,a14,a15,a16],_=>rw[o0,c0]at h0;rw[o1,c1]at h1;rw[o2,c2]at h2;rw[o3,c3]at h3;rw[o4,c4]at h4;simp only[OG,OU,OK,P7]at h0 h1 h2 h3 h4;obtain⟨k0,e0,v0⟩:=jC u0 h0;obtain⟨k1,v',e1,v1⟩:=jf u1 h1;obtain⟨s,v2⟩:=EI u2 _ _ _ h2;obtain⟨m,v3,q⟩:=Mm hb u3 _ _ _ h3 b3;obtain⟨l1,l2⟩:=zX hb u2 q2 h2 b2 v2;obtain⟨l3,l4,l5,l6⟩:=CQ hb u3 q3 h3 b3 v3;obtain⟨k4,e4,v4⟩:=jC u4 h4;simp only[OC,Oc]at e0 e1 e4;subst e0 e1 e4;exact⟨⟨k0,k1,s,m,k4⟩,VL.cons v0 (VL.cons v1 (VL.app v2 (VL.app v3 (VL.cons v4 .nil)))),q,l1,l2,l3,l4,l5,l6⟩
structure ModuAt(P:Program)(t:TypeId):Prop where
 ex:∃(f0 f1 f2 f3 f4:Field)(e1 e2 e3:TypeId),P.underlying t=some (.struct #[f0,f1,f2,f3,f4])/\P.cellsOf t=5/\(f0.offset=0/\f1.offset=1/\f2.offset=2/\f3.offset=3/\f4.offset=4)/\
  (P.cellsOf f0.type=1/\P.cellsOf f1.type=1/\P.cellsOf f2.type=1/\P.cellsOf f3.type=1/\P.cellsOf f4.type=1)/\P.underlying f0.type=some .string/\P.underlying f1.type=some (.slice e1)/\P.underlying f2.type=some (.slice e2)/\
  P.underlying f3.type=some (.slice e3)/\P.underlying f4.type=some (.int .i64)/\ImpAt P e1/\DclAt P e2/\P.underlying e3=some .string/\P.cellsOf e3=1
theorem Mo{N M:Nat}{g:TypeId->DataW H->Prop}(hb:GoodR P N M g){t:TypeId}(hs:ModuAt P t)(fuel:Nat)(cs:List Value)(x:DataW H×List MemPlace)(h:DataW.trod enc P w base (fun _=>true) held fuel t cs=some x)(hg:g t x.1) :
  ∃s:Modu,VL (Om0 w) (cells (.st .modu) s) cs/\∀d∈s.decls,Pd.allT (jM N M) d.term=true/\zW N d:=by
 obtain⟨f0,f1,f2,f3,f4,e1,e2,e3,ht,hc,⟨o0,o1,o2,o3,o4⟩,⟨c0,c1,c2,c3,c4⟩,u0,u1,u2,u3,u4,hi,hd,us,cs3⟩:=hs;obtain⟨n,hn,hl,hf⟩:=jk hb ht h hg;rw[hc]at hl;obtain⟨y0,h0,_⟩:=hf 0 f0 rfl;obtain⟨y1,h1,_⟩:=hf 1 f1 rfl;obtain⟨y2,h2,b2⟩:=hf 2 f2 rfl;obtain⟨y3,h3,_⟩:=hf 3 f3 rfl;obtain⟨y4,h4,_⟩:=hf 4 f4 rfl;have w1:P.cellsOf e1=ab (.st .imp):=by obtain⟨_,_,_,_,_,_,hc,_⟩:=hi;rw[hc];rfl
 have w2:P.cellsOf e2=ab (.st .decl):=by obtain⟨_,_,_,_,_,_,hc,_⟩:=hd;rw[hc];rfl
 match cs,hl with
 |[a0,a1,a2,a3,a4],_=>rw[o0,c0]at h0;rw[o1,c1]at h1;rw[o2,c2]at h2;rw[o3,c3]at h3;rw[o4,c4]at h4;simp only[OG,OU,OK,P7]at h0 h1 h2 h3 h4;obtain⟨k0,v',e0,v0⟩:=jf u0 h0;obtain⟨li,x1,g1,v1⟩:=nN (τ:=.st .imp) u1 w1 (by decide) h1 (fun n ds y _ hy=>Nb hi n ds y hy);obtain⟨ld,x2,g2,v2,_,q⟩:=mP (τ:=.st .decl) (Q:=fun d:Dcl=>Pd.allT (jM N M) d.term=true/\zW N d) hb u2 w2 (by decide) h2 b2 (fun n ds y _ hy hq=>Nc hb hd n ds y hy hq);obtain⟨le,x3,g3,v3⟩:=nN (τ:=.str) u3 cs3 (by decide) h3 (fun n ds y _ hy=>by obtain⟨s,hv,e,hs⟩:=jf us hy;subst e;exact⟨s,VL.cons hs .nil⟩);obtain⟨k4,g4,v4⟩:=jC u4 h4;simp only[OC,Oc]at e0 g1 g2 g3 g4;subst e0 g1 g2 g3 g4;exact⟨⟨k0,li,ld,le,k4⟩,VL.cons v0 (VL.cons v1 (VL.cons v2 (VL.cons v3 (VL.cons v4 .nil)))),q⟩
theorem G6{N M:Nat}{g:TypeId->DataW H->Prop}(hb:GoodR P N M g){t:TypeId}(hs:ModuAt P t){r:Reach}{b0:Nat}{v:Value}{d:DataW H}{ps:List MemPlace}(hv:Value.okWide P w r b0 t v)(h:DataW.Trod enc P w base (fun _=>true) held t v d ps)(hg:g t d) :
  ∃s:Modu,V (Om0 w) (.st .modu s) v/\∀d∈s.decls,Pd.allT (jM N M) d.term=true/\zW N d:=by
 obtain⟨fu,h⟩:=h;obtain⟨s,hs',hq⟩:=Mo hb hs _ _ _ h hg;refine⟨s,.st .modu s v ?_,hq⟩;have hl:=hs'.1;have hc:(cells (.st .modu) s).length=5:=rfl;rw[hc]at hl
 cases v with|agg vs=>have:=V.of_agg hs';simpa[Value.cells]using this|_=>simp[Value.cells]at hl
end Go.AL
end
section
namespace Go.Pd
open Go Go.AL Go.Lib
def cmpI(a b:Int):Int:=if a<b then -1 else if b<a then 1 else 0
def kY(a b:Str):Int:=if a<b then -1 else if b<a then 1 else 0
theorem Mp(a b:UInt8):a<b∨a=b∨b<a:=by
 rcases Qw a.toNat b.toNat with h|h|h
 ·exact .inl (UInt8.lt_iff_toNat_lt.2 h)
 ·exact .inr (.inl (UInt8.toNat_inj.1 h))
 ·exact .inr (.inr (UInt8.lt_iff_toNat_lt.2 h))
theorem zY:kY [] []=0:=by have h:¬([]:Str)<[]:=List.not_lt_nil _;unfold kY;rw[Ny h,Ny h]
theorem vh(b:UInt8)(y:Str):kY [] (b::y)=-1:=by unfold kY;rw[NC (List.nil_lt_cons b y)]
theorem vi(b:UInt8)(y:Str):kY (b::y) []=1:=by unfold kY;rw[Ny (List.not_lt_nil _),NC (List.nil_lt_cons b y)]
theorem wc(a b:UInt8)(x y:Str):kY (a::x) (b::y)=if a<b then -1 else if b<a then 1 else kY x y:=by
 unfold kY;have ht:=Mp a b;rcases ht with h|h|h
 ·rw[NC h,NC (Pf.2 (.inl h))]
 ·subst h
  have e:∀x y:Str,a::x<a::y↔x<y:=fun x y=>by
   rw[Pf];constructor
   ·rintro(h|h)
    ·exact absurd h (PQ a)
    ·exact h.2
   ·exact fun h=>.inr ⟨rfl,h⟩
  simp only[e,Ny (PQ a)]
 ·have h2:¬a<b:=fun e=>PQ a (UInt8.lt_trans e h)
  have h3:¬a::x<b::y:=fun e=>by
   rcases Pf.1 e with e|e
   ·exact h2 e
   ·rw[e.1]at h;exact PQ b h
  rw[Ny h2,NC h,Ny h3,NC (Pf.2 (.inl h))]
theorem tW:∀a b:Str,compareBytes a b=kY a b
 |[],[]=>by rw[zY];rfl
 |[],b::y=>by rw[vh];rfl
 |b::y,[]=>by rw[vi];rfl
 |a::x,b::y=>by rw[wc,compareBytes,tW x y]
theorem we(a:Int):cmpI a a=0:=by unfold cmpI;rw[Ny (Int.lt_irrefl a),Ny (Int.lt_irrefl a)]
theorem qb:∀s:Str,kY s s=0
 |[]=>zY
 |a::x=>by rw[wc,Ny (PQ a),Ny (PQ a),qb x]
def dt(s:Str):Str:=s.dropWhile fun b=>decide (b=48)
def G7(a b:Str):Int:=if cmpI (dt a).length (dt b).length=0 then kY (dt a) (dt b)else cmpI (dt a).length (dt b).length
def mX(a b:Str):Int:=if cO a=true then(if cO b=true then G7 a b else -1)else if cO b=true then 1 else kY a b
def kZ:List Str->List Str->Int
 |a::l,b::m=>if mX a b=0 then kZ l m else mX a b
 |l,m=>cmpI l.length m.length
def mc(a b:Vers):Int:=
 if ¬cmpI a.major b.major=0 then cmpI a.major b.major else if ¬cmpI a.minor b.minor=0 then cmpI a.minor b.minor else if ¬cmpI a.patch b.patch=0 then cmpI a.patch b.patch
 else if a.pre=[]then(if b.pre=[]then 0 else 1)else if b.pre=[]then -1 else kZ (splitB 46 a.pre) (splitB 46 b.pre)
theorem G8(s:Str):mX s s=0:=by unfold mX G7;rw[we,qb,qb];by_cases h:cO s=true<;>simp[h]
theorem wg:∀l:List Str,kZ l l=0
 |[]=>rfl
 |a::l=>by rw[kZ,G8,NC rfl,wg l]
theorem G9(v:Vers):mc v v=0:=by unfold mc;simp only[we,wg,not_true,Ob];split<;>rfl
theorem IJ(l:List Str):kZ l []=cmpI l.length 0:=by cases l<;>rfl
theorem IK(l:List Str):kZ [] l=cmpI 0 l.length:=by cases l<;>rfl
theorem Ga{l m:List Str}{k:Nat}(h1:k<l.length)(h2:k<m.length) :
  kZ (l.drop k) (m.drop k)=if mX (l.getD k (dfl .str)) (m.getD k (dfl .str))=0 then kZ (l.drop (k+1)) (m.drop (k+1))else mX (l.getD k (dfl .str)) (m.getD k (dfl .str)):=by
 rw[ak l k (dfl .str) h1,ak m k (dfl .str) h2,kZ]
theorem IL(a b k:Nat)(h1:k<=a)(h2:k<=b):cmpI ((a-k:Nat):Int) ((b-k:Nat):Int)=cmpI a b:=by
 unfold cmpI;have e1:((a-k:Nat):Int)<((b-k:Nat):Int)↔(a:Int)<b:=by omega
 have e2:((b-k:Nat):Int)<((a-k:Nat):Int)↔(b:Int)<a:=by omega
 simp only[e1,e2]
theorem IM{l m:List Str}{k:Nat}(h1:k<=l.length)(h2:k<=m.length)(h:k=l.length∨k=m.length):kZ (l.drop k) (m.drop k)=cmpI l.length m.length:=by
 rw[<-IL l.length m.length k h1 h2];rcases h with rfl|rfl
 ·rw[NN,IK,Pq,Qd];rfl
 ·rw[NN,IJ,Pq,Qd];rfl
def KU(p c:Int):Bool:=
 if p=1 then decide (c<0)else if p=2 then decide (c<=0)else if p=3 then decide (c=0)else if p=4 then decide (0<=c)else if p=5 then decide (0<c)else false
def KV(v:Vers)(b:Bnd):Bool:=KU b.op (mc v b.v)
theorem CR(p c:Int){N Y:Prop}(nx:KU p c=false->N)(yx:KU p c=true->Y) :
  if decide (p=1)=true then(if decide (0<=c)=true then N else Y)else if decide (p=2)=true then(if decide (0<c)=true then N else Y)else if decide (p=3)=true then(if(!decide (c=0))=true then N else Y)
  else if decide (p=4)=true then(if decide (c<0)=true then N else Y)else if decide (p=5)=true then(if decide (c<=0)=true then N else Y)else N:=by
 unfold KU at nx yx;apply aa<;>intro h
 ·rw[NC (Xo h)]at nx yx;exact aa (fun e=>nx (Xf (by have:=Xo e;omega))) (fun e=>yx (Xd (by have:¬0<=c:=fun k=>e (Xd k);omega)))
 rw[Ny (fun e=>h (Xd e))]at nx yx;apply aa<;>intro h
 ·rw[NC (Xo h)]at nx yx;exact aa (fun e=>nx (Xf (by have:=Xo e;omega))) (fun e=>yx (Xd (by have:¬0<c:=fun k=>e (Xd k);omega)))
 rw[Ny (fun e=>h (Xd e))]at nx yx;apply aa<;>intro h
 ·rw[NC (Xo h)]at nx yx;exact aa (fun e=>nx (Xf (by simpa using e))) (fun e=>yx (Xd (by simpa using e)))
 rw[Ny (fun e=>h (Xd e))]at nx yx;apply aa<;>intro h
 ·rw[NC (Xo h)]at nx yx;exact aa (fun e=>nx (Xf (by have:=Xo e;omega))) (fun e=>yx (Xd (by have:¬c<0:=fun k=>e (Xd k);omega)))
 rw[Ny (fun e=>h (Xd e))]at nx yx;apply aa<;>intro h
 ·rw[NC (Xo h)]at nx yx;exact aa (fun e=>nx (Xf (by have:=Xo e;omega))) (fun e=>yx (Xd (by have:¬c<=0:=fun k=>e (Xd k);omega)))
 rw[Ny (fun e=>h (Xd e))]at nx yx;exact nx rfl
def dW(v:Vers)(l:List Bnd):Bool:=l.all (KV v)
def me(b:Bnd):Bool:=decide (1<=b.op/\b.op<=5)&&decide (ep b.v=0)
def mY(l:List Bnd):Int:=if 20<l.length then 50 else if l.all me=true then 0 else 50
def tX(n:Int):Str:=if n=1 then[60]else if n=2 then[60,61]else if n=3 then[61]else if n=4 then[62,61]else if n=5 then[62]else[]
theorem IN(n:Int):tX n=[]↔¬(1<=n/\n<=5):=by
 unfold tX
 repeat' split
 all_goals simp
 all_goals omega
theorem tY{v:Vers}(h:ep v=0):v.pre.length<=24:=by
 unfold ep at h;split at h
 ·exact absurd h (by decide)
 ·split at h
  ·exact absurd h (by decide)
  ·omega
def orI:List Int->Int
 |[]=>0
 |a::l=>if a=0 then orI l else a
theorem CS{c:UInt8}{r:Str}(h:c=48):dt (c::r)=dt r:=by unfold dt;rw[Qj,NC (Xd h)]
theorem CT{c:UInt8}{r:Str}(h:¬c=48):dt (c::r)=c::r:=by unfold dt;rw[Qj,Ny (fun e=>h (Xo e))]
theorem qc{a b:Int}(h:cmpI a b=0):a=b:=by
 unfold cmpI at h;split at h
 ·exact absurd h (by decide)
 ·split at h
  ·exact absurd h (by decide)
  ·omega
theorem wh{a b c:Int}:orI [a,b,c]=if ¬a=0 then a else if ¬b=0 then b else if ¬c=0 then c else 0:=by
 simp only[orI]
 repeat' split
 all_goals simp_all
theorem IP{a b c:Int}:orI [a,b,c]=0↔a=0/\b=0/\c=0:=by
 rw[wh]
 repeat' split
 all_goals simp_all
def qL(a b:Vers):Int:=orI [cmpI a.major b.major,cmpI a.minor b.minor,cmpI a.patch b.patch]
theorem KW(a b:Vers):mc a b=if ¬qL a b=0 then qL a b else if a.pre=[]then(if b.pre=[]then 0 else 1)else if b.pre=[]then -1 else kZ (splitB 46 a.pre) (splitB 46 b.pre):=by
 unfold mc qL;rw[wh];by_cases h1:cmpI a.major b.major=0
 ·by_cases h2:cmpI a.minor b.minor=0
  ·by_cases h3:cmpI a.patch b.patch=0
   ·simp only[h1,h2,h3,not_true,Ob]
   ·simp only[h1,h2,h3,not_true,Ob,PR,Ov]
  ·simp only[h1,h2,not_true,Ob,PR,Ov]
 ·simp only[h1,PR,Ov]
theorem IQ{a b:Vers}(h:qL a b=0)(hp:a.pre=b.pre):a=b:=by obtain⟨h1,h2,h3⟩:=IP.1 h;cases a;cases b;simp only at h1 h2 h3 hp;rw[qc h1,qc h2,qc h3,hp]
theorem KX{l:List Bnd}(h:l.all me=false):(50:Int)=mY l:=by
 unfold mY;rw[h];split
 ·rfl
 ·rfl
theorem IS{l:List Bnd}(hl:¬20<l.length)(h:l.all me=true):(0:Int)=mY l:=by unfold mY;rw[h,Ny hl,NC rfl]
end Go.Pd
end
section
namespace Go.Pd
open Go.AL
variable {l:List Tokn} {R:PS->Trm×PS}
end Go.Pd
namespace Go.Pd
open Go.AL
structure TokG(t:Tokn):Prop where
 kind:¬t.kind=0
 name:t.kind=1->aX t.text=true
 upper:t.kind=2->eF t.text=true
 num:t.kind=3->qG t.text
 pos:0<=t.pos
end Go.Pd
namespace Go.Pd
open Go.AL
end Go.Pd
end
section
namespace Go.Pd
open Go.AL
mutual
def sizeF:Shape->Int->Int
 |⟨_,_,_,_,ps⟩,m=>sizeL ps 1 m
def sizeL:List Shape->Int->Int->Int
 |[],n,_=>n
 |p::r,n,m=>if n<=m then sizeL r (n+sizeF p (m-n)) m else n
end
mutual
theorem sizeF_bd:∀(s:Shape)(m:Int),0<=m->1<=sizeF s m/\sizeF s m<=m+1
 |⟨_,_,_,_,ps⟩,m,h=>by simp only[sizeF];exact sizeL_bd ps 1 m (by omega) (by omega)
theorem sizeL_bd:∀(l:List Shape)(n m:Int),1<=n->n<=m+1->1<=sizeL l n m/\sizeL l n m<=m+1
 |[],n,m,h1,h2=>by simp only[sizeL];omega
 |p::r,n,m,h1,h2=>by
  simp only[sizeL];split
  ·have:=sizeF_bd p (m-n) (by omega);exact sizeL_bd r _ m (by omega) (by omega)
  ·omega
end
end Go.Pd
end
section
namespace Go.Pd
open Go.AL
theorem LY{K V:Type}[DecidableEq K]:∀(m:List (K×V))(k k':K)(v:V),cm (cR m k v) k'=if k'=k then some v else cm m k'
 |[],k,k',v=>by simp[cR,cm]
 |(a,u)::r,k,k',v=>by
  simp only[cR];by_cases h:k=a
  ·subst h;rw[NC rfl];by_cases h':k'=k<;>simp[cm,h']
  ·rw[Ny h];simp only[cm,LY r k k' v];by_cases h1:k'=a
   ·subst h1;simp[R9 h]
   ·simp[h1]
def l7:List Str->List Shape->Str->Option Shape
 |n::r,p::q,name=>if n=name then some p else l7 r q name
 |_,_,_=>none
def bR(s:Shape)(name:Str):Option Shape:=l7 s.names s.parts name
theorem tZ:∀{ns:List Str} {ps:List Shape} {n:Str} {p:Shape},l7 ns ps n=some p->p∈ps
 |[],ps,n,p,h=>by cases ps<;>simp[l7]at h
 |a::r,[],n,p,h=>by simp[l7]at h
 |a::r,b::q,n,p,h=>by
  simp only[l7]at h;split at h
  ·simp at h;subst h;simp
  ·exact NP _ (tZ h)
theorem rS{f:Shape->Bool}{s:Shape}(h:allS f s=true):f s=true/\allL f s.parts=true:=by rw[allS_eq,Nx]at h;exact h
end Go.Pd
end
section
namespace Go.Pd
open Go.AL
def p0(A:Ans):Pat
 |[],[]=>some A
 |_,_=>none
theorem IT[Tabs]{P:Program}{f:Nat}{A:Ans}(he:Enters P f)(h:al P f [] [] A):ah P f (p0 A):=by
 intro args S A' hA _ _;unfold p0 at hA;split at hA
 ·simp only[Xs]at hA;subst hA;exact⟨he,h⟩
 ·cases hA
end Go.Pd
end
section
namespace Go.Pd
open Go.AL
mutual
theorem eqS_refl:∀a:Shape,eqS a a=true
 |⟨k,p,n,ns,ps⟩=>by simp[eqS,eqL_refl ps]
theorem eqL_refl:∀a:List Shape,eqL a a=true
 |[]=>rfl
 |a::r=>by simp[eqL,eqS_refl a,eqL_refl r]
end
end Go.Pd
end
section
namespace Go.Pd
open Go.AL
def bY(env:Envt)(b:List Bndg):Envt:=⟨env.self,env.types,env.values++b,env.own⟩
end Go.Pd
end
noncomputable section
namespace Go.Pd
open Go.AL
def iO(F:Shape->Shape->Bool)(must:Bool)(b:Shape):List Str->List Shape->Bool
 |m::r,p::q=>(match bR b m with|none=>!must|some x=>F p x)&&iO F must b r q
 |_,_=>true
def ny(F:Shape->Shape->Bool)(fn:Bool):List Shape->List Shape->Bool
 |p::r,q::s=>(if(fn&&!r.isEmpty)=true then F q p else F p q)&&ny F fn r s
 |_,_=>true
def cJ:Nat->Shape->Shape->Bool
 |0,_,_=>false
 | n+1,a,b=>decide (a.kind=4)||decide (b.kind=4)||
   (decide (a.kind=b.kind)&&decide (a.pkg=b.pkg)&&decide (a.name=b.name)&&
    (if a.kind=6 then iO (cJ n) false b a.names a.parts&&b.names.all (fun m=>(bR a m).isSome)
    else if a.kind=7 then iO (cJ n) true b a.names a.parts
    else decide (a.parts.length=b.parts.length)&&ny (cJ n) (decide (a.kind=8)) a.parts b.parts))
def p7(a b:Shape):Bool:=decide (ay a=0)&&decide (ay b=0)&&cJ 800 a b
theorem p8{s:Shape}(h:aS s=true):s.names=[]∨s.names.length=s.parts.length:=by
 unfold aS dE at h;simp only at h
 repeat' split at h
 all_goals simp only[Nx,NA,NJ,Oy]at h
 all_goals first
  |exact .inl h.1.2
  |exact .inr h.2.1.1.2
  |exact .inr h.2.1.1
  |skip
theorem wi{o:Shape}{m:Str}{x:Shape}(h:bR o m=some x):True/\x∈o.parts:=⟨trivial,tZ h⟩
theorem u9(m:Str)(d:Shape):∀(ns:List Str)(ps:List Shape)(k:Nat),ns.length=ps.length->
  (cw ns m (k:Int)=-1/\l7 ns ps m=none)∨∃j,j<ns.length/\cw ns m (k:Int)=((k+j:Nat):Int)/\l7 ns ps m=some (ps.getD j d)
 |[],ps,k,_=>.inl ⟨rfl,by cases ps<;>rfl⟩
 |a::r,p::q,k,h=>by
  simp only[cw,l7];by_cases e:a=m
  ·rw[NC e,NC e];exact .inr ⟨0,by simp,by simp,rfl⟩
  ·rw[Ny e,Ny e];have:=u9 m d r q (k+1) (by simpa using h);rw[show((k:Int)+1)=((k+1:Nat):Int) by omega];rcases this with h1|⟨j,h1,h2,h3⟩
   ·exact .inl h1
   ·exact .inr ⟨j+1,by simp;omega,by rw[h2];omega,by rw[h3];rfl⟩
theorem wj{s:Shape}(m:Str)(d:Shape)(h:s.names=[]∨s.names.length=s.parts.length):(¬0<=cw s.names m 0/\bR s m=none)∨(0<=cw s.names m 0/\cw s.names m 0<(s.parts.length:Int)/\bR s m=some (s.parts.getD (cw s.names m 0).toNat d)):=by
 unfold bR;rcases h with e|e
 ·rw[e];exact .inl ⟨by simp[cw],by cases s.parts<;>rfl⟩
 ·rcases u9 m d s.names s.parts 0 e with⟨h1,h2⟩|⟨j,h1,h2,h3⟩
  ·have h1:cw s.names m 0=-1:=h1;exact .inl ⟨by omega,h2⟩
  ·have h2:cw s.names m 0=((0+j:Nat):Int):=h2;refine .inr ⟨by omega,by omega,?_⟩;rw[h2,h3,NQ,OB]
theorem IU{s:Shape}(m:Str)(d:Shape)(h:aS s=true):(¬0<=cw s.names m 0/\bR s m=none)∨(0<=cw s.names m 0/\cw s.names m 0<(s.parts.length:Int)/\bR s m=some (s.parts.getD (cw s.names m 0).toNat d)):=wj m d (p8 h)
theorem IW{s:Shape}(h:ay s=0):(bw s).names=[]∨(bw s).names.length=(bw s).parts.length:=by
 unfold bw;rw[NC h];obtain⟨k,p,n,ns,ps⟩:=s;by_cases e:ns=[]
 ·exact .inl (by rw[sortedS,NC e])
 ·exact .inr (by rw[sortedS];simp[e])
def xP(g:Nat)(F:Shape->Shape->Ans):Pat:=fun args S=>
 match args,S with
 |[.ptr 900 0,a,b],[(900,.box (.agg [.fn f []]))]=>
  (match Nat.beq f g,arg (.st .shape) a,arg (.st .shape) b with
  |true,some x,some y=>some (F x y)
  |_,_,_=>none)
 |_,_=>none
theorem wk[Tabs]{P:Program}{f g:Nat}{F:Shape->Shape->Ans}(he:Enters P f)(h:∀a b,Wf (.st .shape) a->Wf (.st .shape) b->(∀q,(F a b).ob=some q->q)->al P f [.ptr 900 0,.st .shape a,.st .shape b] [(900,.box (.agg [.fn g []]))] (F a b)) :
  ah P f (xP g F):=by
 intro args S A hA ho _;unfold xP at hA;split at hA
 ·split at hA
  ·rename_i x y hb hx hy;simp only[Xs]at hA;subst hA;have e:=NV hb;subst e;exact⟨he,al.args (.cons (Rd.refl _) (.cons (Rd.arg hx) (.cons (Rd.arg hy) .nil))) (al.wf fun hw=>h _ _ hw.cons.2.cons.1 hw.cons.2.cons.2.cons.1 ho)⟩
  ·cases hA
 ·cases hA
def p9(g:Nat)(F:List Str->Shape->Ans):Pat:=fun args S=>
 match args,S with
 |[a,.fn f [.ptr 900 0]],[(900,.box (.st .shape s))]=>(match Nat.beq f g,arg (.lst .str) a with|true,some x=>some (F x s)|_,_=>none)
 |_,_=>none
theorem qM[Tabs]{P:Program}{f g:Nat}{F:List Str->Shape->Ans}(he:Enters P f)(h:∀a s,Wf (.lst .str) a->(∀q,(F a s).ob=some q->q)->al P f [.lst .str a none,.fn g [.ptr 900 0]] [(900,.box (.st .shape s))] (F a s)) :
  ah P f (p9 g F):=by
 intro args S A hA ho _;unfold p9 at hA;split at hA
 ·split at hA
  ·rename_i x hb hx;simp only[Xs]at hA;subst hA;have e:=NV hb;subst e;exact⟨he,al.args (.cons (Rd.arg hx) (.cons (Rd.refl _) .nil)) (al.wf fun hw=>h _ _ hw.one ho)⟩
  ·cases hA
 ·cases hA
def CU(F:Str->Shape->Ans):Pat:=fun args S=>
 match args,S with
 |[a,.ptr 900 0],[(900,.box (.st .shape s))]=>(match arg .str a with|some x=>some (F x s)|_=>none)
 |_,_=>none
theorem Gb[Tabs]{P:Program}{f:Nat}{F:Str->Shape->Ans}(he:Enters P f)(h:∀a s,(∀q,(F a s).ob=some q->q)->al P f [.str a,.ptr 900 0] [(900,.box (.st .shape s))] (F a s)) :
  ah P f (CU F):=by
 intro args S A hA ho _;unfold CU at hA;split at hA
 ·split at hA
  ·rename_i x hx;simp only[Xs]at hA;subst hA;exact⟨he,al.args (.cons (Rd.arg hx) (.cons (Rd.refl _) .nil)) (h _ _ ho)⟩
  ·cases hA
 ·cases hA
end Go.Pd
end
noncomputable section
namespace Go.Pd
open Go.AL
def aC:List Bndg->Str->Str->Option Shape
 |[],_,_=>none
 |b::r,o,m=>match aC r o m with
  |some s=>some s
  |none=>if b.pkg=o/\b.name=m then some b.shape else none
def qN(l:List Bndg)(m:List (Nam×Shape)):List (Nam×Shape):=l.foldl (fun m b=>cR m ⟨b.pkg,b.name⟩ b.shape) m
def mf(l:List Bndg):List (Nam×Shape):=qN l []
def dX(m:List (Nam×Shape))(o n:Str):Option Shape:=cm m ⟨o,n⟩
theorem EM(k:Nam):∀(l:List Bndg)(m:List (Nam×Shape)),cm (qN l m) k=match aC l k.pkg k.name with|some s=>some s|none=>cm m k
 |[],m=>rfl
 |b::r,m=>by
  rw[qN,Qn,<-qN,EM k r,aC]
  cases aC r k.pkg k.name with
  |some s=>rfl
  |none=>
   rw[LY];by_cases h:b.pkg=k.pkg/\b.name=k.name
   ·rw[NC h,NC (show k=⟨b.pkg,b.name⟩ by cases k;simp at h;rw[h.1,h.2])]
   ·rw[Ny h,Ny (fun e=>h (by rw[e];exact⟨rfl,rfl⟩))]
theorem zZ(l:List Bndg):dX (mf l)=aC l:=by funext o n;unfold dX mf;rw[EM];show(match aC l o n with|some s=>some s|none=>none)=_;cases aC l o n<;>rfl
mutual
def fillS(g:Str->Str->Option Shape):Shape->Option Shape
 |⟨k,o,m,ns,ps⟩=>if k=9 then g o m else(fillL g ps).map fun q=>⟨k,o,m,ns,q⟩
def fillL(g:Str->Str->Option Shape):List Shape->Option (List Shape)
 |[]=>some []
 |p::r=>match fillS g p with
  |none=>none
  |some q=>(fillL g r).map fun l=>q::l
end
theorem mg(g:Str->Str->Option Shape)(s:Shape):fillS g s=if s.kind=9 then g s.pkg s.name else(fillL g s.parts).map fun q=>⟨s.kind,s.pkg,s.name,s.names,q⟩:=by cases s;rw[fillS]
def aH(s:Shape)(l:List Bndg):Shape×Int:=
 if ay s=0 then
  match fillS (aC l) s with
  |none=>(aK,110)
  |some q=>if ay q=0 then(bw q,0)else(aK,ay q)
 else(aK,ay s)
def CV(A:Option (List (Nam×Shape))->Nam->Shape->Ans):Pat:=fun args S=>
 match args,S with
 |[.ptr 900 0,k,v],(900,.box a)::r=>
  (match arg (.st .nm) k,arg (.st .shape) v with
  |some k,some v=>(match a,r with
   |.agg [.nilm],[]=>some (A none k v)
   |.map 901,[(901,.map (.st .nm) (.st .shape) m)]=>some (A (some m) k v)
   |_,_=>none)
  |_,_=>none)
 |_,_=>none
theorem Gc[Tabs]{P:Program}{f:Nat}{A:Option (List (Nam×Shape))->Nam->Shape->Ans}(he:Enters P f)
 (h0:∀k v,al P f [.ptr 900 0,.st .nm k,.st .shape v] [(900,.box (.agg [.nilm]))] (A none k v))
 (h1:∀m k v,al P f [.ptr 900 0,.st .nm k,.st .shape v] [(900,.box (.map 901)),(901,.map (.st .nm) (.st .shape) m)] (A (some m) k v)):ah P f (CV A):=by
 intro args S B hB ho _;unfold CV at hB;split at hB
 ·split at hB
  ·rename_i k v hk hv;split at hB
   ·cases hB;exact⟨he,al.args (.cons (Rd.refl _) (.cons (Rd.arg hk) (.cons (Rd.arg hv) .nil))) (h0 _ _)⟩
   ·cases hB;exact⟨he,al.args (.cons (Rd.refl _) (.cons (Rd.arg hk) (.cons (Rd.arg hv) .nil))) (h1 _ _ _)⟩
   ·cases hB
  ·cases hB
 ·cases hB
def CW(A:Option (List (Nam×Shape))->Nam->Ans):Pat:=fun args S=>
 match args,S with
 |[.ptr 900 0,k],(900,.box a)::r=>
  (match arg (.st .nm) k with
  |some k=>(match a,r with
   |.agg [.nilm],[]=>some (A none k)
   |.map 901,[(901,.map (.st .nm) (.st .shape) m)]=>some (A (some m) k)
   |_,_=>none)
  |_=>none)
 |_,_=>none
theorem Gd[Tabs]{P:Program}{f:Nat}{A:Option (List (Nam×Shape))->Nam->Ans}(he:Enters P f)
 (h0:∀k,al P f [.ptr 900 0,.st .nm k] [(900,.box (.agg [.nilm]))] (A none k))
 (h1:∀m k,al P f [.ptr 900 0,.st .nm k] [(900,.box (.map 901)),(901,.map (.st .nm) (.st .shape) m)] (A (some m) k)):ah P f (CW A):=by
 intro args S B hB ho _;unfold CW at hB;split at hB
 ·split at hB
  ·rename_i k hk;split at hB
   ·cases hB;exact⟨he,al.args (.cons (Rd.refl _) (.cons (Rd.arg hk) .nil)) (h0 _)⟩
   ·cases hB;exact⟨he,al.args (.cons (Rd.refl _) (.cons (Rd.arg hk) .nil)) (h1 _ _)⟩
   ·cases hB
  ·cases hB
 ·cases hB
def pa(A:Option (List (Nam×Shape))->Shape->Ans):Pat:=fun args S=>
 match args,S with
 |[s,.ptr 900 0],(900,.box a)::r=>
  (match arg (.st .shape) s with
  |some s=>(match a,r with
   |.agg [.nilm],[]=>some (A none s)
   |.map 901,[(901,.map (.st .nm) (.st .shape) m)]=>some (A (some m) s)
   |_,_=>none)
  |_=>none)
 |_,_=>none
theorem ua[Tabs]{P:Program}{f:Nat}{A:Option (List (Nam×Shape))->Shape->Ans}(he:Enters P f)
 (h0:∀s,Wf (.st .shape) s->(∀q,(A none s).ob=some q->q)->al P f [.st .shape s,.ptr 900 0] [(900,.box (.agg [.nilm]))] (A none s))
 (h1:∀m s,Wf (.st .shape) s->(∀q,(A (some m) s).ob=some q->q)->al P f [.st .shape s,.ptr 900 0] [(900,.box (.map 901)),(901,.map (.st .nm) (.st .shape) m)] (A (some m) s)):ah P f (pa A):=by
 intro args S B hB ho _;unfold pa at hB;split at hB
 ·split at hB
  ·rename_i k hk;split at hB
   ·cases hB;exact⟨he,al.args (.cons (Rd.arg hk) (.cons (Rd.refl _) .nil)) (al.wf fun hw=>h0 _ hw.cons.1 ho)⟩
   ·cases hB;exact⟨he,al.args (.cons (Rd.arg hk) (.cons (Rd.refl _) .nil)) (al.wf fun hw=>h1 _ _ hw.cons.1 ho)⟩
   ·cases hB
  ·cases hB
 ·cases hB
def ub(A0:Ans)(A1:Bndg->List Bndg->Ans):Pat:=fun args S=>
 match args,S with
 |[a],[]=>(match arg (.lst (.st .bind)) a with|some []=>some A0|some (b::r)=>some (A1 b r)|none=>none)
 |_,_=>none
theorem Aa[Tabs]{P:Program}{f:Nat}{A0:Ans}{A1:Bndg->List Bndg->Ans}(he:Enters P f)
 (h0:al P f [.lst (.st .bind) [] none] [] A0)(h1:∀b r,Wf (.lst (.st .bind)) (b::r)->al P f [.lst (.st .bind) (b::r) none] [] (A1 b r)):ah P f (ub A0 A1):=by
 intro args S B hB ho _;unfold ub at hB;split at hB
 ·split at hB
  ·rename_i hk;cases hB;exact⟨he,al.args (.cons (Rd.arg hk) .nil) h0⟩
  ·rename_i b r hk;cases hB;exact⟨he,al.args (.cons (Rd.arg hk) .nil) (al.wf fun hw=>h1 _ _ hw.one)⟩
  ·cases hB
 ·cases hB
end Go.Pd
end
section
namespace Go.Pd
open Go.AL
def ofK(k:Int):Shape:=⟨k,[],[],[],[]⟩
theorem qO(b:Bndg)(o m:Str):∀l:List Bndg,aC (l++[b]) o m=if b.pkg=o/\b.name=m then some b.shape else aC l o m
 |[]=>rfl
 |x::r=>by
  rw[OJ,aC,qO b o m r,aC];by_cases h:b.pkg=o/\b.name=m
  ·rw[NC h,NC h]
  ·rw[Ny h,Ny h]
theorem Ab(l:List Bndg)(o m:Str)(d:Bndg){k:Nat}(h:k<l.length):aC (l.take (k+1)) o m=if(l.getD k d).pkg=o/\(l.getD k d).name=m then some (l.getD k d).shape else aC (l.take k) o m:=by
 have e:l.take (k+1)=l.take k++[l.getD k d]:=by rw[List.take_succ];simp[NB,h]
 rw[e,qO]
def dN(o m:Str):Shape:=⟨10,o,m,[],[]⟩
def gf(m:Str)(s:Shape):Bndg:=⟨[],m,s⟩
def cu:Flt:=⟨0,0⟩
def aU(T:Trm->Envt->Shape×Flt)(p:Trm)(want:Shape)(env:Envt):Flt:=
 if(T p env).2.err=0/\p7 (T p env).1 want=false then⟨140,p.pos⟩else(T p env).2
def gg(T:Trm->Envt->Shape×Flt)(env:Envt):List Trm->List Shape->Flt
 |p::r,w::q=>if(aU T p w env).err=0 then gg T env r q else aU T p w env
 |_,_=>cu
def dw(T:Trm->Envt->Shape×Flt)(env:Envt)(w:Shape):List Trm->Flt
 |p::r=>if(aU T p w env).err=0 then dw T env w r else aU T p w env
 |[]=>cu
def ar(l:List Bndg)(at_:Int):List Shape->List Shape×Flt
 |[]=>([],cu)
 |s::r=>if(aH s l).2=0 then(if(ar l at_ r).2.err=0 then((aH s l).1::(ar l at_ r).1,cu)else([],(ar l at_ r).2))else([],⟨(aH s l).2,at_⟩)
def cZ(T:Trm->Envt->Shape×Flt)(env:Envt):List Trm->List Shape×(Shape×Flt)
 |[]=>([],(aK,cu))
 |p::r=>if(T p env).2.err=0 then((T p env).1::(cZ T env r).1,(cZ T env r).2)else([],T p env)
def fI(T:Trm->Envt->Shape×Flt)(t:Trm)(env:Envt):Shape×Flt:=
 let r:=T (t.parts.getD 0 aT) env
 if r.2.err=0 then
  if r.1.kind=4 then
   (if(dw T env (ofK 4) (t.parts.drop 1)).err=0 then(r.1,cu)else(r.1,dw T env (ofK 4) (t.parts.drop 1)))
  else if r.1.kind=8/\r.1.parts.length=t.parts.length then
   (if(gg T env (t.parts.drop 1) r.1.parts).err=0 then(r.1.parts.getD (r.1.parts.length-1) aK,cu)else(r.1,gg T env (t.parts.drop 1) r.1.parts))
  else(r.1,⟨140,t.pos⟩)
 else r
def gY(T:Trm->Envt->Shape×Flt)(t:Trm)(env:Envt):Shape×Flt:=
 let r:=T (t.parts.getD 0 aT) env
 if r.2.err=0 then
  if r.1.kind=4 then r
  else if r.1.kind=6/\(bR r.1 t.name).isSome=true then((bR r.1 t.name).getD aK,cu)
  else(r.1,⟨140,t.pos⟩)
 else r
def df(l:List Bndg)(m:Str):Option Shape:=match l with
 |[]=>none
 |b::r=>match df r m with
  |some s=>some s
  |none=>if b.name=m then some b.shape else none
def nY(T:Trm->Envt->Shape×Flt)(t:Trm)(env:Envt):Shape×Flt:=
 match df env.own t.name with
 |none=>(aK,⟨110,t.pos⟩)
 |some s=>if t.kind=17 then(bw s,aU T (t.parts.getD 0 aT) (dN env.self t.name) env)else(dN env.self t.name,aU T (t.parts.getD 0 aT) (bw s) env)
def gH(T:Trm->Envt->Shape×Flt)(env:Envt)(w:Shape):List Trm->List Str->List Shape->Flt
 |p::r,v::vs,s::ss=>if(aU T p w (bY env [gf v s])).err=0 then gH T env w r vs ss else aU T p w (bY env [gf v s])
 |_,_,_=>cu
def fh:List Str->List Shape->List Bndg
 |m::r,s::q=>gf m s::fh r q
 |_,_=>[]
def cG(T:Trm->Envt->Shape×Flt)(t:Trm)(env:Envt):Shape×Flt:=
 let l:=ar env.types t.pos t.shapes
 if l.2.err=0 then
  if t.kind=6 then
   let r:=T (t.parts.getD 0 aT) (bY env (fh t.names l.1))
   (⟨8,[],[],[],l.1++[r.1]⟩,r.2)
  else if t.kind=11 then
   (if(dw T env (l.1.getD 0 aK) t.parts).err=0 then(⟨5,[],[],[],l.1⟩,cu)else(l.1.getD 0 aK,dw T env (l.1.getD 0 aK) t.parts))
  else if t.kind=15 then(l.1.getD 0 aK,aU T (t.parts.getD 0 aT) (l.1.getD 0 aK) env)
  else if t.kind=12 then
   (l.1.getD 0 aK,
    if(aU T (t.parts.getD 0 aT) (ofK 2) env).err=0 then
     (if(aU T (t.parts.getD 1 aT) (l.1.getD 0 aK) env).err=0 then aU T (t.parts.getD 2 aT) (l.1.getD 0 aK) env else aU T (t.parts.getD 1 aT) (l.1.getD 0 aK) env)
    else aU T (t.parts.getD 0 aT) (ofK 2) env)
  else
   (l.1.getD (l.1.length-1) aK,
    if(aU T (t.parts.getD 0 aT) ⟨7,[],[],t.names,l.1.take (l.1.length-1)⟩ env).err=0 then gH T env (l.1.getD (l.1.length-1) aK) (t.parts.drop 1) t.vars l.1
    else aU T (t.parts.getD 0 aT) ⟨7,[],[],t.names,l.1.take (l.1.length-1)⟩ env)
 else(aK,l.2)
def b6(T:Trm->Envt->Shape×Flt)(t:Trm)(env:Envt):Shape×Flt:=
 if t.kind=1 then(ofK 1,cu)
 else if t.kind=2 then(ofK 3,cu)
 else if t.kind=3∨t.kind=4 then(ofK 2,cu)
 else if t.kind=5 then
  match aC env.values t.pkg t.name with
  |some s=>(bw s,cu)
  |none=>(aK,⟨110,t.pos⟩)
 else if t.kind=7 then fI T t env
 else if t.kind=8 then
  (if(cZ T env t.parts).2.2.err=0 then(⟨6,[],[],t.names,(cZ T env t.parts).1⟩,cu)else(cZ T env t.parts).2)
 else if t.kind=9 then gY T t env
 else if t.kind=10 then(⟨7,[],[],[t.name],[(T (t.parts.getD 0 aT) env).1]⟩,(T (t.parts.getD 0 aT) env).2)
 else if t.kind=14 then
  (if(T (t.parts.getD 0 aT) env).2.err=0 then T (t.parts.getD 1 aT) (bY env [gf t.name (T (t.parts.getD 0 aT) env).1])else T (t.parts.getD 0 aT) env)
 else if t.kind=16∨t.kind=17 then nY T t env
 else cG T t env
def gZ(t:Trm)(r:Shape×Flt):Shape×Flt:=
 if r.2.err=0 then(if ay r.1=0 then(bw r.1,cu)else(aK,⟨ay r.1,t.pos⟩))else(aK,r.2)
def ag:Nat->Trm->Envt->Shape×Flt
 |0,_,_=>(aK,cu)
 |n+1,t,env=>gZ t (b6 (ag n) t env)
def eG(t:Trm)(env:Envt):Shape×Flt:=if dx t=0 then ag (szT t) t env else(aK,⟨dx t,0⟩)
theorem Ge{n:Nat}{t:Trm}{e:Envt}(h:(ag n t e).2.err=0):(ag n t e).1.names=[]∨(ag n t e).1.names.length=(ag n t e).1.parts.length:=by
 cases n with
 |zero=>exact .inl rfl
 |succ n=>
  rw[show ag (n+1) t e=gZ t (b6 (ag n) t e)from rfl]at h⊢;revert h;generalize b6 (ag n) t e=r;intro h;unfold gZ at h⊢;by_cases h1:r.2.err=0
  ·rw[NC h1]at h⊢;by_cases h2:ay r.1=0
   ·rw[NC h2];exact IW h2
   ·rw[Ny h2]at h;exact absurd h h2
  ·rw[Ny h1]at h;exact absurd h h1
theorem uc{t:Trm}{n j:Nat}(d:Trm)(hz:szT t<=n+1)(hf:allT aq t=true)(hj:j<t.parts.length) :
  szT (t.parts.getD j d)<=n/\allT aq (t.parts.getD j d)=true/\szT (t.parts.getD j d)+1<=szT t:=by
 have m:=AL.getD_mem t.parts j d hj;have h1:=mN m;have h2:=nV t;rw[allT_eq,Nx,allTL_all,NJ]at hf;exact⟨by omega,hf.2 _ m,by omega⟩
theorem fj(l:List Bndg)(a:Int)(s:Shape)(r:List Shape):ar l a (s::r)=if(aH s l).2=0 then(if(ar l a r).2.err=0 then((aH s l).1::(ar l a r).1,cu)else([],(ar l a r).2))else([],⟨(aH s l).2,a⟩):=rfl
theorem wm{l:List Bndg}{a:Int}:∀{s:List Shape},(ar l a s).2.err=0->ar l a s=((ar l a s).1,cu)
 |[],_=>rfl
 |s::r,h=>by
  rw[fj]at h⊢;by_cases h1:(aH s l).2=0
  ·rw[NC h1]at h⊢;by_cases h2:(ar l a r).2.err=0
   ·rw[NC h2]
   ·rw[Ny h2]at h;exact absurd h h2
  ·rw[Ny h1]at h;exact absurd h h1
theorem CX{l:List Bndg}{a:Int}:∀{s:List Shape},¬(ar l a s).2.err=0->ar l a s=([],(ar l a s).2)
 |[],h=>absurd rfl h
 |s::r,h=>by
  rw[fj]at h⊢;by_cases h1:(aH s l).2=0
  ·rw[NC h1]at h⊢;by_cases h2:(ar l a r).2.err=0
   ·rw[NC h2]at h;exact absurd rfl h
   ·rw[Ny h2]
  ·rw[Ny h1]
theorem ud(b:Bndg)(m:Str):∀l:List Bndg,df (l++[b]) m=if b.name=m then some b.shape else df l m
 |[]=>rfl
 |x::r=>by
  rw[OJ,df,ud b m r,df];by_cases h:b.name=m
  ·rw[NC h,NC h]
  ·rw[Ny h,Ny h]
theorem CY(l:List Bndg)(m:Str)(d:Bndg){k:Nat}(h:k<l.length):df (l.take (k+1)) m=if(l.getD k d).name=m then some (l.getD k d).shape else df (l.take k) m:=by
 have e:l.take (k+1)=l.take k++[l.getD k d]:=by rw[List.take_succ];simp[NB,h]
 rw[e,ud]
theorem kg{T:Trm->Envt->Shape×Flt}{t:Trm}{env:Envt}(h:df env.own t.name=none):nY T t env=(aK,⟨110,t.pos⟩):=by unfold nY;rw[h]
theorem ki{T:Trm->Envt->Shape×Flt}{t:Trm}{env:Envt}{s:Shape}(h:df env.own t.name=some s):nY T t env=if t.kind=17 then(bw s,aU T (t.parts.getD 0 aT) (dN env.self t.name) env)else(dN env.self t.name,aU T (t.parts.getD 0 aT) (bw s) env):=by unfold nY;rw[h]
theorem Gf(e:Envt):bY e []=e:=by cases e;unfold bY;rw[OL]
theorem Ac(e:Envt)(l r:List Bndg):bY (bY e l) r=bY e (l++r):=by unfold bY;rw[O9]
theorem ue{l:List Bndg}{a:Int}:∀{ss:List Shape},(ar l a ss).2.err=0->(ar l a ss).1.length=ss.length
 |[],_=>rfl
 |s::r,h=>by
  rw[fj]at h⊢;by_cases h1:(aH s l).2=0
  ·rw[NC h1]at h⊢;by_cases h2:(ar l a r).2.err=0
   ·rw[NC h2,NL,NL,ue h2]
   ·rw[Ny h2]at h;exact absurd h h2
  ·rw[Ny h1]at h;exact absurd h h1
theorem Gg{n:Nat}{t:Trm}{e:Envt}(h:(ag n t e).2.err=0):(ag n t e).2=cu:=by
 cases n with
 |zero=>rfl
 |succ n=>
  rw[show ag (n+1) t e=gZ t (b6 (ag n) t e)from rfl]at h⊢;revert h;generalize b6 (ag n) t e=r;intro h;unfold gZ at h⊢;by_cases h1:r.2.err=0
  ·rw[NC h1]at h⊢;by_cases h2:ay r.1=0
   ·rw[NC h2]
   ·rw[Ny h2]at h;exact absurd h h2
  ·rw[Ny h1]at h;exact absurd h h1
theorem Gh{n:Nat}{t:Trm}{w:Shape}{e:Envt}(h:(aU (ag n) t w e).err=0):aU (ag n) t w e=cu:=by
 unfold aU at h⊢;by_cases c:(ag n t e).2.err=0/\p7 (ag n t e).1 w=false
 ·rw[NC c]at h;exact absurd (show(140:Int)=0 from h) (by decide)
 ·rw[Ny c]at h⊢;exact Gg h
theorem Gi{c:Prop}[Decidable c]{a b:Bool}{P:Prop}(h:(if c then a else b)=true)(f:c->a=true->P)(g:¬c->b=true->P):P:=by
 by_cases k:c
 ·rw[NC k]at h;exact f k h
 ·rw[Ny k]at h;exact g k h
structure RoomR(t:Trm):Prop where
 k6:t.kind=6->t.names.length<=4096/\t.shapes.length=t.names.length/\t.parts.length=1
 k7:t.kind=7->0<t.parts.length
 k1:t.kind=9∨t.kind=10∨t.kind=16∨t.kind=17->t.parts.length=1
 k11:t.kind=11->t.shapes.length=1
 k12:t.kind=12->t.shapes.length=1/\t.parts.length=3
 k13:t.kind=13->t.vars.length=t.names.length/\t.shapes.length=t.names.length+1/\t.parts.length=t.names.length+1
 k14:t.kind=14->t.parts.length=2
 k15:t.kind=15->t.shapes.length=1/\t.parts.length=1
 all:1<=t.kind/\t.kind<=17
theorem EN{t:Trm}(h:allT aq t=true):RoomR t:=by
 rw[allT_eq,Nx]at h;have h:=h.1;unfold aq at h;rw[Nx]at h;have hb:=h.2;unfold EL iN at hb
 repeat' (refine Gi hb (fun hk hb=>?_) (fun hk hb=>?_))
 all_goals simp only[Nx,NA,Oy]at hb
 all_goals (refine⟨?_,?_,?_,?_,?_,?_,?_,?_,?_⟩<;>intros<;>(repeat' apply And.intro)<;>omega)
theorem Ad(t:Trm):t.parts.length+1<=szT t:=by
 have h1:∀l:List Trm,l.length<=szTL l:=by
  intro l
  induction l with
  |nil=>exact NU _
  |cons a r ih=>rw[szTL];have:=jE a;simp;omega
 have:=h1 t.parts;have:=nV t;omega
theorem xQ{t:Trm}{n v:Nat}(hz:szT t<=n+1)(hf:allT aq t=true)(hv:v+4096 *szT t<=100000000){j w:Nat}(d:Trm)(hj:j<t.parts.length)(hw:w<=v+4096) :
  szT (t.parts.getD j d)<=n/\allT aq (t.parts.getD j d)=true/\w+4096 *szT (t.parts.getD j d)<=100000000:=by
 have h:=uc d hz hf hj;exact⟨h.1,h.2.1,by omega⟩
theorem ndF{p:Prop}[Decidable p](h:(!decide p)=true):¬p:=by simpa using h
theorem ndT{p:Prop}[Decidable p](h:¬(!decide p)=true):p:=by simpa using h
end Go.Pd
end
section
namespace Go.Pd
open Go.AL
def LZ(k:Int)(j:Nat):Prop:=(j=0/\¬(k=1∨k=2∨k=3∨k=4∨k=5∨k=8∨k=11))∨(j=1/\(k=14∨k=12))∨(j=2/\k=12)
section Agree
variable {T U:Trm->Envt->Shape×Flt} {R:Envt->Envt->Prop} {Q:Trm->Prop}
variable (hT:∀p,Q p->∀e f,R e f->T p e=U p f) (hW:∀e f l,R e f->R (bY e l) (bY f l))
include hT
theorem dF{p:Trm}(hp:Q p){e f:Envt}(hr:R e f)(w:Shape):aU T p w e=aU U p w f:=by unfold aU;rw[hT p hp e f hr]
theorem qP{e f:Envt}(hr:R e f):∀(ps:List Trm)(ws:List Shape),(∀p∈ps,Q p)->gg T e ps ws=gg U f ps ws
 |[],_,_=>by simp only[gg]
 |_::_,[],_=>by simp only[gg]
 |p::r,w::q,h=>by simp only[gg];rw[dF hT (h p (.head _)) hr w,qP hr r q (fun x hx=>h x (.tail _ hx))]
theorem mh{e f:Envt}(hr:R e f)(w:Shape):∀(ps:List Trm),(∀p∈ps,Q p)->dw T e w ps=dw U f w ps
 |[],_=>rfl
 |p::r,h=>by simp only[dw];rw[dF hT (h p (.head _)) hr w,mh hr w r (fun x hx=>h x (.tail _ hx))]
theorem pb{e f:Envt}(hr:R e f):∀(ps:List Trm),(∀p∈ps,Q p)->cZ T e ps=cZ U f ps
 |[],_=>rfl
 |p::r,h=>by simp only[cZ];rw[hT p (h p (.head _)) e f hr,pb hr r (fun x hx=>h x (.tail _ hx))]
include hW
theorem qQ{e f:Envt}(hr:R e f)(w:Shape):∀(ps:List Trm)(vs:List Str)(ss:List Shape),(∀p∈ps,Q p)->gH T e w ps vs ss=gH U f w ps vs ss
 |[],_,_,_=>by simp only[gH]
 |_::_,[],_,_=>by simp only[gH]
 |_::_,_::_,[],_=>by simp only[gH]
 |p::r,v::vs,s::ss,h=>by simp only[gH];rw[dF hT (h p (.head _)) (hW e f [gf v s] hr) w,qQ hr w r vs ss (fun x hx=>h x (.tail _ hx))]
theorem xR{t:Trm}{e f:Envt}(hq:∀j,LZ t.kind j->Q (t.parts.getD j aT))(hp:∀p∈t.parts,Q p)(hr:R e f)(e1:ar e.types t.pos t.shapes=ar f.types t.pos t.shapes)(hk:¬(t.kind=1∨t.kind=2∨t.kind=3∨t.kind=4∨t.kind=5∨t.kind=8)):cG T t e=cG U t f:=by
 have hd:∀p∈t.parts.drop 1,Q p:=fun p h=>hp p (List.mem_of_mem_drop h);unfold cG;rw[e1];refine Px rfl (fun _=>?_) fun _=>rfl;refine Px rfl (fun g=>?_) fun g6=>?_
 ·rw[hT _ (hq 0 (.inl ⟨rfl,by omega⟩)) _ _ (hW e f _ hr)]
 refine Px rfl (fun g=>?_) fun g11=>?_
 ·rw[mh hT hr _ _ hp]
 have h0:=hq 0 (.inl ⟨rfl,by omega⟩);refine Px rfl (fun g=>?_) fun g15=>?_
 ·rw[dF hT h0 hr]
 refine Px rfl (fun g=>?_) fun g12=>?_
 ·rw[dF hT h0 hr,dF hT (hq 1 (.inr (.inl ⟨rfl,.inr g⟩))) hr,dF hT (hq 2 (.inr (.inr ⟨rfl,g⟩))) hr]
 ·rw[dF hT h0 hr,qQ hT hW hr _ _ _ _ hd]
theorem xS{t:Trm}{e f:Envt}(hq:∀j,LZ t.kind j->Q (t.parts.getD j aT))(hp:∀p∈t.parts,Q p)(hr:R e f)(e1:ar e.types t.pos t.shapes=ar f.types t.pos t.shapes)(e2:e.own=f.own)(e3:e.self=f.self)
 (h5:t.kind=5->aC e.values t.pkg t.name=aC f.values t.pkg t.name):b6 T t e=b6 U t f:=by
 have hd:∀p∈t.parts.drop 1,Q p:=fun p h=>hp p (List.mem_of_mem_drop h);unfold b6
 refine Px rfl (fun _=>rfl) fun n1=>Px rfl (fun _=>rfl) fun n2=>Px rfl (fun _=>rfl) fun n3=>Px rfl (fun g=>by rw[h5 g]) fun n5=>Px rfl (fun g=>?_) fun n7=>
  Px rfl (fun g=>?_) fun n8=>?_
 ·have h0:=hq 0 (.inl ⟨rfl,by omega⟩);unfold fI;simp only[hT _ h0 e f hr,mh hT hr _ _ hd,qP hT hr _ _ hd]
 ·rw[pb hT hr _ hp]
 refine Px rfl (fun g=>?_) fun _=>Px rfl (fun g=>?_) fun _=>Px rfl (fun g=>?_) fun _=>Px rfl (fun g=>?_) fun _=>?_
 ·have h0:=hq 0 (.inl ⟨rfl,by omega⟩);unfold gY;simp only[hT _ h0 e f hr]
 ·rw[hT _ (hq 0 (.inl ⟨rfl,by omega⟩)) e f hr]
 ·rw[hT _ (hq 0 (.inl ⟨rfl,by omega⟩)) e f hr,hT _ (hq 1 (.inr (.inl ⟨rfl,.inl g⟩))) _ _ (hW e f _ hr)]
 ·have k0:=fun w=>dF hT (hq 0 (.inl ⟨rfl,by omega⟩)) hr w
  cases g:df e.own t.name with|none=>rw[kg g,kg (by rw[<-e2];exact g)]|some s=>rw[ki g,ki (by rw[<-e2];exact g),k0,k0,e3]
 ·exact xR hT hW hq hp hr e1 (by omega)
end Agree
theorem fk(o m:Str)(r:List Bndg):∀l:List Bndg,aC (l++r) o m=match aC r o m with|some s=>some s|none=>aC l o m
 |[]=>by rw[OW];cases aC r o m<;>rfl
 |x::l=>by rw[OJ,aC,fk o m r l,aC];cases aC r o m<;>rfl
structure Alike(b:Bndg)(e f:Envt):Prop where
 types:e.types=f.types
 own:e.own=f.own
 self:e.self=f.self
 vals:∀o m,¬(o=b.pkg/\m=b.name)->aC e.values o m=aC f.values o m
end Go.Pd
end
section
namespace Go.Pd
open Go.AL
abbrev SR3:=Shape×Int×Flt
abbrev TR3:=Trm×Int×Flt
end Go.Pd
end
section
namespace Go.Pd
open Go.AL
abbrev st(l:List Tokn)(a:Int):PS:=⟨l,a,0,0⟩
variable {l:List Tokn}
section
variable {l:List Tokn} {R:PS->Shape×PS} {R':Int->SR3}
end
end Go.Pd
end
section
namespace Go.Pd
open Go.AL
mutual
def fg:Trm->Int->Int
 |⟨_,_,_,_,_,_,_,ps,_⟩,m=>sizeTL ps 1 m
def sizeTL:List Trm->Int->Int->Int
 |[],n,_=>n
 |p::r,n,m=>if n<=m then sizeTL r (n+fg p (m-n)) m else n
end
mutual
def deepT:Trm->Nat
 |⟨_,_,_,_,_,_,_,ps,_⟩=>maxDT ps+1
def maxDT:List Trm->Nat
 |[]=>0
 |p::r=>max (deepT p) (maxDT r)
end
mutual
theorem sizeT_bd:∀(s:Trm)(m:Int),0<=m->1<=fg s m/\fg s m<=m+1
 |⟨_,_,_,_,_,_,_,ps,_⟩,m,h=>by simp only[fg];exact sizeTL_bd ps 1 m (by omega) (by omega)
theorem sizeTL_bd:∀(l:List Trm)(n m:Int),1<=n->n<=m+1->1<=sizeTL l n m/\sizeTL l n m<=m+1
 |[],n,m,h1,h2=>by simp only[sizeTL];omega
 |p::r,n,m,h1,h2=>by
  simp only[sizeTL];split
  ·have:=sizeT_bd p (m-n) (by omega);exact sizeTL_bd r _ m (by omega) (by omega)
  ·omega
end
mutual
theorem countT_size:∀(s:Trm)(m:Int),0<=m->(countT s m).1=min (szT s:Int) (m+1)
 |⟨_,_,_,_,_,_,_,ps,_⟩,m,h=>by simp only[countT,szT];rw[countL_size ps m 1 0 (by omega)];omega
theorem countL_size:∀(l:List Trm)(m n d:Int),n<=m+1->(countL l m n d).1=min (n+szTL l) (m+1)
 |[],m,n,d,h=>by simp only[countL,szTL];omega
 |p::r,m,n,d,h=>by
  simp only[countL,szTL];have:=jE p;split
  ·show n=_;omega
  ·rw[countL_size r m _ _ (by rw[countT_size p (m-n) (by omega)];omega),countT_size p (m-n) (by omega)];omega
end
mutual
theorem countT_deep:∀(s:Trm)(m:Int),(szT s:Int)<=m->(countT s m).2=deepT s
 |⟨_,_,_,_,_,_,_,ps,_⟩,m,h=>by simp only[szT]at h;simp only[countT,deepT];rw[countL_deep ps m 1 0 (by omega) (by omega)];omega
theorem countL_deep:∀(l:List Trm)(m n d:Int),n+szTL l<=m->0<=d->(countL l m n d).2=max d (maxDT l)
 |[],m,n,d,h,h0=>by simp only[countL,maxDT];omega
 |p::r,m,n,d,h,h0=>by
  simp only[szTL]at h;simp only[countL,maxDT];rw[Ny (by omega)];have e1:(countT p (m-n)).1=szT p:=by rw[countT_size p (m-n) (by omega)];omega
  rw[countL_deep r m _ _ (by rw[e1];omega) (by omega),countT_deep p (m-n) (by omega)];omega
end
end Go.Pd
end
section
namespace Go.Pd
open Go.AL
mutual
def bareT:Trm->Trm
 |⟨k,g,n,z,ns,vs,ss,ps,_⟩=>⟨k,g,n,z,ns,vs,ss,bareTL ps,0⟩
def bareTL:List Trm->List Trm
 |[]=>[]
 |p::r=>bareT p::bareTL r
end
theorem CZ{t:Trm}(ht:dx t=0):allT aq t=true:=by
 unfold dx at ht;by_cases a:4096<(countT t 4096).1
 ·rw[NC a]at ht;exact absurd ht (by decide)
 rw[Ny a]at ht;by_cases b:40<(countT t 4096).2
 ·rw[NC b]at ht;exact absurd ht (by decide)
 rw[Ny b]at ht;by_cases c:allT aq t=true
 ·exact c
 ·rw[Ny c]at ht;exact absurd ht (by decide)
theorem D0{t:Trm}(h:dx t=0):szT t<=4096/\deepT t<=40:=by
 unfold dx at h;by_cases a:4096<(countT t 4096).1
 ·rw[NC a]at h;exact absurd h (by decide)
 rw[Ny a]at h;rw[countT_size t 4096 (by omega)]at a;by_cases b:40<(countT t 4096).2
 ·rw[NC b]at h;exact absurd h (by decide)
 rw[countT_deep t 4096 (by omega)]at b;omega
end Go.Pd
end
section
namespace Go.Pd
open Go.AL
def zapF(f:Flt):Flt:=⟨f.err,0⟩
def zapR(r:Shape×Flt):Shape×Flt:=(r.1,zapF r.2)
section Bare
variable {T:Trm->Envt->Shape×Flt} (hT:∀p e,T (bareT p) e=zapR (T p e))
include hT
end Bare
section Bare2
variable {T:Trm->Envt->Shape×Flt} (hT:∀p e,T (bareT p) e=zapR (T p e))
include hT
end Bare2
end Go.Pd
end
section
namespace Go.Pd
open Go.AL
def nZ(t:Trm):Bool:=allT (fun x=>decide (x.name.length<=2000000)&&decide (x.names.length<=2000000)) t
end Go.Pd
end
section
namespace Go.Pd
open Go.AL
def noS(s:Shape):Bool:=decide (s.kind=0)&&decide (s.pkg=[])&&decide (s.name=[])&&decide (s.names.length+s.parts.length=0)
def noT(t:Trm):Bool:=decide (t.kind=0)&&decide (t.pkg=[])&&decide (t.name=[])&&decide (t.n=0)&&decide (t.pos=0)&&decide (t.names.length+t.vars.length+t.shapes.length+t.parts.length=0)
def Ky:Shape:=⟨0,[],[],[],[]⟩
def lu:List Str:=[[73,110,116],[66,111,111,108],[84,101,120,116],[65,110,121]]
def o9(x:Impt):Bool:=aX x.name&&decide (ep x.pin=0)&&decide (mY x.range=0)&&dW x.pin x.range&&decide (0<=x.pos)
def iP(d:Dcl):Bool:=
 if d.kind=1∨d.kind=2 then eF d.name&&decide (ay d.shape=0)&&allS aQ d.shape&&noT d.term
 else if d.kind=3 then aX d.name&&decide (dx d.term=0)&&noS d.shape else false
def mZ(d:Dcl):Bool:=iP d&&decide (0<=d.pos)
def mj(s:Str):Bool:=aX s||eF s
def qR(m:Modu):Bool:=aX m.name&&decide (m.imports.length<=8)&&decide (m.exports.length<=60)&&decide (0<=m.pos)
def D1(m:Modu):List Str:=m.name::m.imports.map (·.name)
def IX(m:Modu):List Str:=lu++m.decls.map (·.name)
def okM(m:Modu):Bool:=qR m&&(m.imports.all o9&&(m.decls.all mZ&&(m.exports.all mj&&(decide (D1 m).Nodup&&decide (IX m).Nodup&&decide m.exports.Nodup))))
def cH(m:Modu):Int:=if okM m=true then 0 else 100
def KY(d:Dcl):Bool:=decide (d.shape.names.length<=17592186044416)&&(decide (d.shape.parts.length<=17592186044416)&&(decide (d.term.names.length<=17592186044416)&&(decide (d.term.vars.length<=17592186044416)&&(decide (d.term.shapes.length<=17592186044416)&&decide (d.term.parts.length<=17592186044416)))))
theorem Ae{d:Dcl}:KY d=true↔d.shape.names.length<=17592186044416/\d.shape.parts.length<=17592186044416/\d.term.names.length<=17592186044416/\d.term.vars.length<=17592186044416/\d.term.shapes.length<=17592186044416/\d.term.parts.length<=17592186044416:=by unfold KY;simp only[Nx,NA]
def dy(d:Dcl):Bool:=(nZ d.term&&cn d.term)&&KY d
theorem oc{d:Dcl}:dy d=true↔(nZ d.term=true/\cn d.term=true)/\KY d=true:=by unfold dy;simp only[Nx]
theorem Af{d:Dcl}(h:dy d=true):nZ d.term=true/\cn d.term=true:=(oc.1 h).1
theorem IY{d:Dcl}(h:dy d=true):d.shape.names.length<=17592186044416/\d.shape.parts.length<=17592186044416/\d.term.names.length<=17592186044416/\d.term.vars.length<=17592186044416/\d.term.shapes.length<=17592186044416/\d.term.parts.length<=17592186044416:=Ae.1 (oc.1 h).2
theorem D2{m:Modu}(h:okM m=false):(100:Int)=cH m:=by unfold cH;rw[h];rfl
theorem Ag{m:Modu}(h:okM m=true):(0:Int)=cH m:=by unfold cH;rw[h];rfl
theorem Ah{m:Modu}(h:qR m=false):okM m=false:=by unfold okM;rw[h,NT]
theorem D3{m:Modu}(h:m.imports.all o9=false):okM m=false:=by unfold okM;rw[h,NT,OA]
theorem D4{m:Modu}(h:m.decls.all mZ=false):okM m=false:=by unfold okM;rw[h,NT,OA,OA]
theorem D5{m:Modu}(h:m.exports.all mj=false):okM m=false:=by unfold okM;rw[h,NT,OA,OA,OA]
theorem Mq{m:Modu}(h1:qR m=true)(h2:m.imports.all o9=true)(h3:m.decls.all mZ=true)(h4:m.exports.all mj=true) :
  okM m=(decide (D1 m).Nodup&&decide (IX m).Nodup&&decide m.exports.Nodup):=by unfold okM;rw[h1,h2,h3,h4];rfl
theorem Ai{m:Modu}:qR m=true↔aX m.name=true/\m.imports.length<=8/\m.exports.length<=60/\0<=m.pos:=by unfold qR;simp only[Nx,NA,and_assoc]
theorem EO{x:Impt}:o9 x=true↔aX x.name=true/\ep x.pin=0/\mY x.range=0/\dW x.pin x.range=true/\0<=x.pos:=by unfold o9;simp only[Nx,NA,and_assoc]
theorem EP{d:Dcl}:mZ d=true↔iP d=true/\0<=d.pos:=by unfold mZ;simp only[Nx,NA]
theorem xT{s:Str}:mj s=true↔aX s=true∨eF s=true:=by unfold mj;rw[Oa]
theorem IZ{l:List Bnd}(h:mY l=0):∀b∈l,b.v.pre.length<=24:=by
 unfold mY at h;split at h
 ·exact absurd h (by decide)
 ·split at h
  ·rename_i h2;intro b hb;have:=NJ.1 h2 b hb;unfold me at this;rw[Nx,NA,NA]at this;exact tY this.2
  ·exact absurd h (by decide)
theorem ndN{p:Prop}[Decidable p](h:(!decide p)=true):¬p:=by intro e;rw[Xd e]at h;exact absurd h (by decide)
theorem ndP{p:Prop}[Decidable p](h:¬(!decide p)=true):p:=by refine Decidable.not_not.1 fun e=>h ?_;rw[Xf e];rfl
theorem nbN{b:Bool}(h:(!b)=true):¬b=true:=by intro e;rw[e]at h;exact absurd h (by decide)
theorem nbP{b:Bool}(h:¬(!b)=true):b=true:=by cases b with|true=>rfl|false=>exact absurd rfl h
theorem bF{b:Bool}(h:¬b=true):b=false:=by cases b with|true=>exact absurd rfl h|false=>rfl
end Go.Pd
end
section
namespace Go.Pd
open Go.AL
theorem vj(names:List Str)(xs:List Int):(ic names xs).Pairwise fun i j=>ca names i<=ca names j:=by
 have:=Pn (le:=fun i j=>decide (ca names i<=ca names j)) (by
  intro a b c h1 h2;simp only[NA]at h1 h2⊢;exact Qk h1 h2) (by
  intro a b;simp only[Oa,NA];exact Ql _ _) xs
 exact this.imp fun h=>by simpa using h
theorem D6{s:Shape}(h:aS s=true):s.names=[]∨s.names.length=s.parts.length/\s.names.Nodup:=by have:=oX h;unfold eJ at this;simpa using this
def szI:List AL.Item->Nat
 |[]=>0
 |x::r=>max (sz x.shape) (szI r)
theorem xU:∀(l:List AL.Item)(x:AL.Item),x∈l->sz x.shape<=szI l
 |a::r,x,h=>by
  simp only[szI];rcases NG.1 h with rfl|h
  ·exact Nat.le_max_left _ _
  ·exact OY (xU r x h) (Nat.le_max_right _ _)
end Go.Pd
end
noncomputable section
namespace Go.Pd
open Go Go.AL
def isU:List Nam->Str->Str->Bool
 |[],_,_=>false
 | x::r,g,q=>(decide (x.pkg=g)&&decide (x.name=q))||isU r g q
def KZ(g:Str)(us:List Nam):List AL.Item->List AL.Item
 |[]=>[]
 |x::r=>if isU us g x.name then x::KZ g us r else KZ g us r
theorem J0(g:Str)(us:List Nam):∀a:List AL.Item,(KZ g us a).length<=a.length
 |[]=>NK _
 |c::r=>by have:=J0 g us r;rw[KZ];split<;>simp only[NL]<;>omega
def rA:List AL.Item->Int->Int×Bool
 |[],n=>(n,true)
 |x::r,n=>if 4000<n+(20+sizeF x.shape 800)then(n,false)else rA r (n+(20+sizeF x.shape 800))
def iG:List Depd->Int->Int->Bool
 |[],_,_=>true
 |d::r,n,i=>if 20<=i then false else if(rA d.items n).2 then iG r (rA d.items n).1 (i+1)else false
def kj:List AL.Item->List AL.Item->Bool
 |[],[]=>true
 |x::r,y::q=>(decide (x.kind=y.kind)&&(decide (x.name=y.name)&&eqS x.shape y.shape))&&kj r q
 |_,_=>false
theorem wo:∀l:List AL.Item,kj l l=true
 |[]=>rfl
 |x::r=>by rw[kj,wo r,Xd rfl,Xd rfl,eqS_refl x.shape];rfl
theorem Aj:∀{a b:List AL.Item},a.length≠b.length->kj a b=false
 |[],[],h=>absurd rfl h
 |[],_::_,_=>rfl
 |_::_,[],_=>rfl
 |x::r,y::q,h=>by rw[kj,Aj (a:=r) (b:=q) (fun e=>h (by simp[e])),OA]
def D7(l:List Depd)(i k:Nat)(n:Int):Bool:=if(rA ((l.getD i (dfl (.st .dep))).items.drop k) n).2 then iG (l.drop (i+1)) (rA ((l.getD i (dfl (.st .dep))).items.drop k) n).1 (i+1)else false
def szD:List Depd->Nat
 |[]=>0
 |d::r=>max (szI d.items) (szD r)
theorem J1:∀(l:List Depd)(d:Depd),d∈l->∀x∈d.items,sz x.shape<=szD l
 |d::r,e,h,x,hx=>by
  rw[szD];rcases NG.1 h with rfl|h
  ·exact OY (xU _ x hx) (Nat.le_max_left _ _)
  ·exact OY (J1 r e h x hx) (Nat.le_max_right _ _)
def nmU(s:Shape):Bool:=decide (s.names.length<=1048576)&&decide (s.parts.length<=1048576)
end Go.Pd
end
section
namespace Go.Proofs.YtlhofbjllomgiaaGreatDoor.Join
open Go.AL Go.AL.Seat Go.Pd Go.ChangeShapes Go.WideShapes Go.RowKit Go.Lib Go.Shelf
set_option maxRecDepth 1000000
theorem xV:ShapeAt Tryz.prog 47:=⟨_,_,_,_,_,9,Tryz.underlying47,by kernel_rfl,⟨rfl,rfl,rfl,rfl,rfl⟩,⟨by kernel_rfl,by kernel_rfl,by kernel_rfl,by kernel_rfl,by kernel_rfl⟩,by kernel_rfl,by kernel_rfl,by kernel_rfl,by kernel_rfl,by kernel_rfl,by kernel_rfl,by kernel_rfl⟩
def ER(P:Program)(t:TypeId):Bool:=match P.underlying t with
 |some (.struct fs)=>fs.toList.all fun f=>match P.underlying f.type with
  |some (.slice e)=>decide (16<=P.bytesOf e)
  |_=>true
 |_=>true
theorem L0{P:Program}{t:TypeId}(h:ER P t=true):CP P t:=by intro fs i f e h1 h2 h3;unfold ER at h;rw[h1]at h;have:=NJ.1 h f (NW (by rw[NO];exact h2));simp only[h3]at this;exact Xo this
theorem L1:ItemAtQ Tryz.prog 49:=⟨_,_,_,Tryz.underlying49,by kernel_rfl,⟨rfl,rfl,rfl⟩,⟨by kernel_rfl,by kernel_rfl,by kernel_rfl⟩,by kernel_rfl,by kernel_rfl,xV,L0 (by kernel_rfl)⟩
theorem Nd:DepAt Tryz.prog 43:=⟨_,_,49,Tryz.underlying43,by kernel_rfl,⟨rfl,rfl⟩,⟨by kernel_rfl,by kernel_rfl⟩,by kernel_rfl,by kernel_rfl,L1,Xo (by kernel_rfl)⟩
theorem Nf:Tryz.prog.underlying 27=some (.slice 43):=by kernel_rfl
theorem Mr:Tryz.prog.readableRec 27=true:=by kernel_rfl
theorem Ms:TermAt Tryz.prog 63:=⟨_,_,_,_,_,_,_,_,_,9,47,Tryz.underlying63,by kernel_rfl,⟨rfl,rfl,rfl,rfl,rfl,rfl,rfl,rfl,rfl⟩,⟨by kernel_rfl,by kernel_rfl,by kernel_rfl,by kernel_rfl,by kernel_rfl,by kernel_rfl,by kernel_rfl,by kernel_rfl,by kernel_rfl⟩,
 ⟨by kernel_rfl,by kernel_rfl,by kernel_rfl,by kernel_rfl,by kernel_rfl,by kernel_rfl,by kernel_rfl,by kernel_rfl,by kernel_rfl⟩,⟨by kernel_rfl,by kernel_rfl,by kernel_rfl⟩,xV⟩
theorem Ak{P:Program}{t:TypeId}(h:ER P t=true):tV P t:=by intro fs i f e h1 h2 h3;unfold ER at h;rw[h1]at h;have:=NJ.1 h f (NW (by rw[NO];exact h2));simp only[h3]at this;exact Xo this
theorem Ng:Tryz.prog.readableRec 26=true:=by kernel_rfl
theorem uf:∀(n:Nat)(s:Trm),szT s<=n->allT (jM 1048576 1048576) s=true->cn s=true/\nZ s=true
 |0,s,h,_=>by have:=jE s;omega
 |n+1,s,h,ha=>by
  rw[allT_eq,Nx,allTL_all,NJ]at ha;have hb:=ha.1;unfold jM at hb;rw[Nx,NA,NA]at hb;have hp:∀x∈s.parts,cn x=true/\nZ x=true:=fun x hx=>by have h1:=mN hx;have h2:=nV s;exact uf n x (by omega) (ha.2 x hx)
  unfold cn nZ at hp⊢;rw[allT_eq,allT_eq,Nx,Nx,allTL_all,allTL_all,NJ,NJ];refine⟨⟨Xd (by omega),fun x hx=>(hp x hx).1⟩,?_,fun x hx=>(hp x hx).2⟩;rw[Xd (show s.name.length<=2000000 by omega),Xd (show s.names.length<=2000000 by omega)];rfl
theorem Al{d:Dcl}(h:allT (jM 1048576 1048576) d.term=true/\zW 1048576 d):dy d=true:=by obtain⟨h1,h2⟩:=uf _ _ (NK _) h.1;obtain⟨a,b,c,e,f,k⟩:=h.2;exact oc.2 ⟨⟨h2,h1⟩,Ae.2 ⟨by omega,by omega,by omega,by omega,by omega,by omega⟩⟩
theorem J2:VersAt Tryz.prog 38:=⟨_,_,_,_,Tryz.underlying38,by kernel_rfl,⟨rfl,rfl,rfl,rfl⟩,⟨by kernel_rfl,by kernel_rfl,by kernel_rfl,by kernel_rfl⟩,by kernel_rfl,by kernel_rfl,by kernel_rfl,by kernel_rfl⟩
theorem Nh:BndAt Tryz.prog 59:=⟨_,_,Tryz.underlying59,by kernel_rfl,⟨rfl,rfl⟩,⟨by kernel_rfl,by kernel_rfl⟩,by kernel_rfl,J2⟩
theorem Ni:ImpAt Tryz.prog 41:=⟨_,_,_,_,59,Tryz.underlying41,by kernel_rfl,⟨rfl,rfl,rfl,rfl⟩,⟨by kernel_rfl,by kernel_rfl,by kernel_rfl,by kernel_rfl⟩,by kernel_rfl,J2,by kernel_rfl,by kernel_rfl,Nh⟩
theorem Nj:DclAt Tryz.prog 65:=⟨_,_,_,_,_,Tryz.underlying65,by kernel_rfl,⟨rfl,rfl,rfl,rfl,rfl⟩,⟨by kernel_rfl,by kernel_rfl,by kernel_rfl,by kernel_rfl,by kernel_rfl⟩,by kernel_rfl,by kernel_rfl,⟨xV,Ak (by kernel_rfl)⟩,⟨Ms,Ak (by kernel_rfl)⟩,by kernel_rfl⟩
theorem Mt:ModuAt Tryz.prog 26:=⟨_,_,_,_,_,41,65,9,Tryz.underlying26,by kernel_rfl,⟨rfl,rfl,rfl,rfl,rfl⟩,⟨by kernel_rfl,by kernel_rfl,by kernel_rfl,by kernel_rfl,by kernel_rfl⟩,by kernel_rfl,by kernel_rfl,by kernel_rfl,by kernel_rfl,by kernel_rfl,Ni,Nj,by kernel_rfl,by kernel_rfl⟩
variable {H:Type}
theorem J3(d:DataW H):1<=Rows.uptoBulk d:=by
 cases d with
 |lit l=>cases l<;>(unfold Rows.uptoBulk;omega)
 |_=>unfold Rows.uptoBulk;omega
theorem Am:∀l:List (DataW H),l.length<=Rows.uptoBulkAll l
 |[]=>NU _
 |d::r=>by have:=Am r;have:=J3 d;unfold Rows.uptoBulkAll;rw[NL];omega
theorem pc{d:DataW H}:∀{l:List (DataW H)},d∈l->Rows.uptoBulk d<=Rows.uptoBulkAll l
 |x::r,h=>by
  unfold Rows.uptoBulkAll;rcases NG.1 h with rfl|h
  ·omega
  ·have:=pc h;omega
theorem wq(P:Program):GoodR (H:=H) P 1048576 1048576 (fun _ d=>Rows.uptoBulk d<=1048576) where
 str t s ht h:=by unfold Rows.uptoBulk at h;omega
 len t e es sp ht h h16:=by have:=Am es;unfold Rows.uptoBulk at h;omega
 el t e es sp ht h x hx:=by have:=pc hx;unfold Rows.uptoBulk at h;omega
 part t fs ps ht h i f p hf hp:=by have:=pc (NW hp);unfold Rows.uptoBulk at h;omega
theorem Ao{ds:List (DataW H)}(h:Rows.uptoSmall H ds=true){d:DataW H}(hd:d∈ds):Rows.uptoBulk d<=1048576:=by have:=pc hd;have:=Xo h;omega
end Go.Proofs.YtlhofbjllomgiaaGreatDoor.Join
end
noncomputable section
namespace Go.AL
def evN{α:Type}(n:Nat)(k:Nat->α):α:=match n with|0=>k 0|m+1=>k (m+1)
def evI{α:Type}(n:Int)(k:Int->α):α:=match n with|.ofNat m=>evN m fun m=>k (.ofNat m)|.negSucc m=>evN m fun m=>k (.negSucc m)
def evL{α β:Type}:List β->(List β->α)->α
 |[],k=>k []
 |a::r,k=>evL r fun r=>k (a::r)
theorem bp{α:Type}(n:Nat)(k:Nat->α):evN n k=k n:=by cases n<;>rfl
theorem D8{α:Type}(n:Int)(k:Int->α):evI n k=k n:=by cases n<;>(unfold evI;exact bp _ _)
theorem fC{α β:Type}:∀(l:List β)(k:List β->α),evL l k=k l
 |[],_=>rfl
 |a::r,k=>by rw[evL,fC r]
mutual
def evV{α:Type}:AV->(AV->α)->α
 |.int κ n,k=>evI n fun n=>k (.int κ n)
 |.bool true,k=>k (.bool true)
 |.bool false,k=>k (.bool false)
 |.str s,k=>evL s fun s=>k (.str s)
 |.lst τ xs none,k=>evL xs fun xs=>k (.lst τ xs none)
 |.lst τ xs (some i),k=>evL xs fun xs=>k (.lst τ xs (some i))
 |.row τ xs,k=>evL xs fun xs=>k (.row τ xs)
 |.arr i n w,k=>evN n fun n=>k (.arr i n w)
 |.aptr i n w o,k=>evN n fun n=>evN o fun o=>k (.aptr i n w o)
 |.cptr c,k=>evV c fun c=>k (.cptr c)
 |.agg cs,k=>evVs cs fun cs=>k (.agg cs)
 |.tup cs,k=>evVs cs fun cs=>k (.tup cs)
 |.fn f cs,k=>evVs cs fun cs=>k (.fn f cs)
 |.iface t a,k=>evV a fun a=>k (.iface t a)
 |.lstp τ xs i,k=>evL xs fun xs=>k (.lstp τ xs i)
 |.glst s n i,k=>evN s fun s=>evN n fun n=>k (.glst s n i)
 |.gptr i s n w o,k=>evN s fun s=>evN n fun n=>evN w fun w=>evN o fun o=>k (.gptr i s n w o)
 |.gsuf i s n w o,k=>evN s fun s=>evN n fun n=>evN w fun w=>evN o fun o=>k (.gsuf i s n w o)
 |.undef,k=>k .undef
 |.nils,k=>k .nils
 |.ptr i o,k=>k (.ptr i o)
 |.nilp,k=>k .nilp
 |.st n x,k=>k (.st n x)
 |.map i,k=>k (.map i)
 |.bptr i,k=>k (.bptr i)
 |.nilif,k=>k .nilif
 |.nilm,k=>k .nilm
 |.pt n x,k=>k (.pt n x)
 |.tptr τ n i,k=>k (.tptr τ n i)
def evVs{α:Type}:List AV->(List AV->α)->α
 |[],k=>k []
 |a::r,k=>evV a fun a=>evVs r fun r=>k (a::r)
end
mutual
theorem evV_eq{α:Type}:∀(a:AV)(k:AV->α),evV a k=k a
 |.int κ n,k=>by rw[evV,D8]
 |.bool true,k=>rfl
 |.bool false,k=>rfl
 |.str s,k=>by rw[evV,fC]
 |.lst τ xs none,k=>by rw[evV,fC]
 |.lst τ xs (some i),k=>by rw[evV,fC]
 |.row τ xs,k=>by rw[evV,fC]
 |.arr i n w,k=>by rw[evV,bp]
 |.aptr i n w o,k=>by rw[evV,bp,bp]
 |.cptr c,k=>by rw[evV,evV_eq c]
 |.agg cs,k=>by rw[evV,evVs_eq cs]
 |.tup cs,k=>by rw[evV,evVs_eq cs]
 |.fn f cs,k=>by rw[evV,evVs_eq cs]
 |.iface t a,k=>by rw[evV,evV_eq a]
 |.lstp τ xs i,k=>by rw[evV,fC]
 |.glst _ _ _,k=>by rw[evV,bp,bp]
 |.gptr _ _ _ _ _,k=>by rw[evV,bp,bp,bp,bp]
 |.gsuf _ _ _ _ _,k=>by rw[evV,bp,bp,bp,bp]
 |.undef,k=>rfl
 |.nils,k=>rfl
 |.ptr _ _,k=>rfl
 |.nilp,k=>rfl
 |.st _ _,k=>rfl
 |.map _,k=>rfl
 |.bptr _,k=>rfl
 |.nilif,k=>rfl
 |.nilm,k=>rfl
 |.pt _ _,k=>rfl
 |.tptr _ _ _,k=>rfl
theorem evVs_eq{α:Type}:∀(l:List AV)(k:List AV->α),evVs l k=k l
 |[],k=>rfl
 |a::r,k=>by rw[evVs,evV_eq a,evVs_eq r]
end
def evA{α:Type}(a:AV)(k:AV->α):α:=
 match a with
 |.int κ n=>evI n fun n=>k (.int κ n)
 |.bool b=>(match b with|true=>k (.bool true)|false=>k (.bool false))
 |.str s=>evL s fun s=>k (.str s)
 |.lst τ xs o=>evL xs fun xs=>(match o with|none=>k (.lst τ xs none)|some i=>k (.lst τ xs (some i)))
 |.row τ xs=>evL xs fun xs=>k (.row τ xs)
 |.arr i n w=>evN n fun n=>k (.arr i n w)
 |.aptr i n w o=>evN n fun n=>evN o fun o=>k (.aptr i n w o)
 |.ptr i o=>evN o fun o=>k (.ptr i o)
 |.cptr c=>evV c fun c=>k (.cptr c)
 |.agg cs=>evVs cs fun cs=>k (.agg cs)
 |.tup cs=>evVs cs fun cs=>k (.tup cs)
 |.fn f cs=>evVs cs fun cs=>k (.fn f cs)
 |.iface t a=>evV a fun a=>k (.iface t a)
 |.lstp τ xs i=>evL xs fun xs=>k (.lstp τ xs i)
 |.glst s n i=>evN s fun s=>evN n fun n=>k (.glst s n i)
 |.gptr i s n w o=>evN s fun s=>evN n fun n=>evN w fun w=>evN o fun o=>k (.gptr i s n w o)
 |.gsuf i s n w o=>evN s fun s=>evN n fun n=>evN w fun w=>evN o fun o=>k (.gsuf i s n w o)
 |a=>k a
theorem Mu{α:Type}(a:AV)(k:AV->α):evA a k=k a:=by
 unfold evA;split
 ·exact D8 _ _
 ·split<;>rfl
 ·exact fC _ _
 ·rw[fC];split<;>rfl
 ·exact fC _ _
 ·exact bp _ _
 ·rw[bp,bp]
 ·exact bp _ _
 ·exact evV_eq _ _
 ·exact evVs_eq _ _
 ·exact evVs_eq _ _
 ·exact evVs_eq _ _
 ·exact evV_eq _ _
 ·exact fC _ _
 ·rw[bp,bp]
 ·rw[bp,bp,bp,bp]
 ·rw[bp,bp,bp,bp]
 ·rfl
mutual
def evW{α:Type}:AV->(AV->α)->α
 |.int κ n,k=>evI n fun n=>k (.int κ n)
 |.bool true,k=>k (.bool true)
 |.bool false,k=>k (.bool false)
 |.lst τ xs none,k=>k (.lst τ xs none)
 |.lst τ xs (some i),k=>k (.lst τ xs (some i))
 |.row τ xs,k=>evL xs fun xs=>k (.row τ xs)
 |.arr i n w,k=>evN n fun n=>k (.arr i n w)
 |.aptr i n w o,k=>evN n fun n=>evN o fun o=>k (.aptr i n w o)
 |.cptr c,k=>evW c fun c=>k (.cptr c)
 |.agg cs,k=>evWs cs fun cs=>k (.agg cs)
 |.tup cs,k=>evWs cs fun cs=>k (.tup cs)
 |.fn f cs,k=>evWs cs fun cs=>k (.fn f cs)
 |.iface t a,k=>evW a fun a=>k (.iface t a)
 |.lstp τ xs i,k=>evL xs fun xs=>k (.lstp τ xs i)
 |.glst s n i,k=>evN s fun s=>evN n fun n=>k (.glst s n i)
 |.gptr i s n w o,k=>evN s fun s=>evN n fun n=>evN w fun w=>evN o fun o=>k (.gptr i s n w o)
 |.gsuf i s n w o,k=>evN s fun s=>evN n fun n=>evN w fun w=>evN o fun o=>k (.gsuf i s n w o)
 |.str s,k=>k (.str s)
 |.undef,k=>k .undef
 |.nils,k=>k .nils
 |.ptr i o,k=>evN o fun o=>k (.ptr i o)
 |.nilp,k=>k .nilp
 |.st n x,k=>k (.st n x)
 |.map i,k=>k (.map i)
 |.bptr i,k=>k (.bptr i)
 |.nilif,k=>k .nilif
 |.nilm,k=>k .nilm
 |.pt n x,k=>k (.pt n x)
 |.tptr τ n i,k=>k (.tptr τ n i)
def evWs{α:Type}:List AV->(List AV->α)->α
 |[],k=>k []
 |a::r,k=>evW a fun a=>evWs r fun r=>k (a::r)
end
mutual
theorem evW_eq{α:Type}:∀(a:AV)(k:AV->α),evW a k=k a
 |.int κ n,k=>by rw[evW,D8]
 |.bool true,k=>rfl
 |.bool false,k=>rfl
 |.str s,k=>rfl
 |.lst τ xs none,k=>rfl
 |.lst τ xs (some i),k=>rfl
 |.row τ xs,k=>by rw[evW,fC]
 |.arr i n w,k=>by rw[evW,bp]
 |.aptr i n w o,k=>by rw[evW,bp,bp]
 |.cptr c,k=>by rw[evW,evW_eq c]
 |.agg cs,k=>by rw[evW,evWs_eq cs]
 |.tup cs,k=>by rw[evW,evWs_eq cs]
 |.fn f cs,k=>by rw[evW,evWs_eq cs]
 |.iface t a,k=>by rw[evW,evW_eq a]
 |.lstp τ xs i,k=>by rw[evW,fC]
 |.glst _ _ _,k=>by rw[evW,bp,bp]
 |.gptr _ _ _ _ _,k=>by rw[evW,bp,bp,bp,bp]
 |.gsuf _ _ _ _ _,k=>by rw[evW,bp,bp,bp,bp]
 |.undef,k=>rfl
 |.nils,k=>rfl
 |.ptr _ o,k=>by rw[evW,bp]
 |.nilp,k=>rfl
 |.st _ _,k=>rfl
 |.map _,k=>rfl
 |.bptr _,k=>rfl
 |.nilif,k=>rfl
 |.nilm,k=>rfl
 |.pt _ _,k=>rfl
 |.tptr _ _ _,k=>rfl
theorem evWs_eq{α:Type}:∀(l:List AV)(k:List AV->α),evWs l k=k l
 |[],k=>rfl
 |a::r,k=>by rw[evWs,evW_eq a,evWs_eq r]
end
def L2:Op->Bool
 |.load _ _=>true
 |.move _=>true
 |_=>false
def evQ{α:Type}(o:Oper)(a:AV)(k:AV->α):α:=match L2 o.op with|true=>evW a k|false=>evA a k
theorem Mv{α:Type}(o:Oper)(a:AV)(k:AV->α):evQ o a k=k a:=by
 unfold evQ;split
 ·exact evW_eq _ _
 ·exact Mu _ _
def evO{α:Type}:SObj->(SObj->α)->α
 |.box c,k=>evW c fun c=>k (.box c)
 |.tail τ n,k=>evN n fun n=>k (.tail τ n)
 |.map κ τ m,k=>evL m fun m=>k (.map κ τ m)
 |.bld t u l,k=>evL l fun l=>k (.bld t u l)
 |.tailp τ n x,k=>evN n fun n=>k (.tailp τ n x)
 |.grow τ s xs,k=>evN s fun s=>evL xs fun xs=>k (.grow τ s xs)
theorem Mw{α:Type}(o:SObj)(k:SObj->α):evO o k=k o:=by
 cases o with|box c=>exact evW_eq _ _|tail τ n=>unfold evO;exact bp _ _|map κ τ m=>exact fC _ _|bld t u l=>exact fC _ _|tailp τ n x=>unfold evO;exact bp _ _|grow τ s xs=>show evN s (fun s=>evL xs fun xs=>k (.grow τ s xs))=_;rw[bp,fC]
def evB{α:Type}:List (Nat×SObj)->(List (Nat×SObj)->α)->α
 |[],k=>k []
 |(i,o)::r,k=>evO o fun o=>evB r fun r=>k ((i,o)::r)
theorem xW{α:Type}:∀(l:List (Nat×SObj))(k:List (Nat×SObj)->α),evB l k=k l
 |[],k=>rfl
 |(i,o)::r,k=>by rw[evB,Mw,xW r]
def evS{α:Type}(s:St)(k:St->α):α:=evL s.t fun t=>evB s.b fun b=>k ⟨t,b⟩
theorem J4{α:Type}(s:St)(k:St->α):evS s k=k s:=by rw[evS,fC,xW]
theorem Gj{ob:Option DP}{q:Prop}(h:okO ob=true)(hq:q):so ob q:=by
 cases ob with|none=>exact hq|some d=>exact⟨d.h h,hq⟩
def ES{α:Sort _}(ops:List Oper)(o:Oper)(T:Nat->AV)(bad:α)(on off:Unit->α):α:=
 match o.guard with
 |none=>on ()
 |some (j,want)=>
  match(nth ops j).bind (·.dst)with
  |none=>bad
  |some d=>
   match T d with
   |.bool true=>if want then on ()else off ()
   |.bool false=>if want then off ()else on ()
   |.tup []=>off ()
   |_=>bad
theorem D9{α:Type}{ops:List Oper}{o:Oper}{T:Nat->AV}{y:α}{on off:Unit->Option α}{on' off':Unit->Prop}(hon:on ()=some y->on' ())(hoff:off ()=some y->off' ())
 (h:ES ops o T none on off=some y):ES ops o T False on' off':=by
 unfold ES at h⊢
 cases hg:o.guard with
 |none=>simp only[hg]at h⊢;exact hon h
 |some p=>
  obtain⟨j,want⟩:=p;simp only[hg]at h⊢
  cases hd:(nth ops j).bind (·.dst)with
  |none=>simp only[hd]at h;cases h
  |some d=>
   simp only[hd]at h⊢;generalize T d=v at h⊢;split at h
   ·split at h
    ·rename_i hw;exact(NC hw).symm ▸ hon h
    ·rename_i hw;exact(Ny hw).symm ▸ hoff h
   ·split at h
    ·rename_i hw;exact(NC hw).symm ▸ hoff h
    ·rename_i hw;exact(Ny hw).symm ▸ hon h
   ·exact hoff h
   ·cases h
def gdB(ops:List Oper)(g:Bool)(i:Nat):Bool:=match g with|true=>gu ops i|false=>false
def J5(ops:List Oper):Bool:=ops.any fun o=>o.guard.isSome
theorem Mx(ops:List Oper)(i:Nat):gdB ops (J5 ops) i=gu ops i:=by
 unfold gdB
 cases h:J5 ops with
 |true=>rfl
 |false=>
  show false=gu ops i;symm;unfold J5 at h;rw[List.any_eq_false]at h;unfold gu;rw[List.any_eq_false];intro o ho;have:=h o ho
  cases hg:o.guard with|none=>simp|some x=>rw[hg]at this;exact absurd rfl this
def Ap(C:Cfg)(ops:List Oper)(g:Bool):List Oper->Nat->St->List bN->Option (St×List bN)
 |[],_,s,fs=>some (s,fs.reverse)
 |o::r,i,s,fs=>
  ES ops o (b5 s.t) none
   (fun _=>
    match aw C o (b5 s.t) (aj s.b)with
    |none=>none
    |some e=>
     match okO e.ob,ct C o (b5 s.t) (aj s.b)with
     |true,none=>
      (match gdB ops g i,e.val with
      |true,.bool b=>(match b with
       |true=>Ap C ops g r (i+1) ⟨sl s.t o.dst (.bool true),cv s.b e.upd⟩ ((aG C o (b5 s.t) (aj s.b),e.upd.map (·.1))::fs)
       |false=>Ap C ops g r (i+1) ⟨sl s.t o.dst (.bool false),cv s.b e.upd⟩ ((aG C o (b5 s.t) (aj s.b),e.upd.map (·.1))::fs))
      |true,_=>none
      |false,v=>evQ o v fun v=>Ap C ops g r (i+1) ⟨sl s.t o.dst v,cv s.b e.upd⟩ ((aG C o (b5 s.t) (aj s.b),e.upd.map (·.1))::fs))
     |_,_=>none)
   (fun _=>Ap C ops g r (i+1) ⟨sl s.t o.dst (.tup []),s.b⟩ (([],[])::fs))
theorem ET{C:Cfg}{ops:List Oper}{draw:Bool}{kp:AV->St->Prop}{k:St->List bN->Prop}{s':St}{fs':List bN}(hk:k s' fs') :
  ∀(l:List Oper)(i:Nat)(s:St)(fs:List bN),Ap C ops (J5 ops) l i s fs=some (s',fs')->bP C ops draw kp l i s fs k
 |[],_,s,fs,h=>by simp only[Ap,Xs,PX]at h;obtain⟨rfl,rfl⟩:=h;exact hk
 |o::r,i,s,fs,h=>by
  have ih:=ET (C:=C) (ops:=ops) (draw:=draw) (kp:=kp) hk r;rw[Ap,Mx]at h
  refine D9 (on':=fun _=>
   match aw C o (b5 s.t) (aj s.b)with
   |none=>False
   |some e=>
    so e.ob
    (match ct C o (b5 s.t) (aj s.b)with
    |none=>
     (match gu ops i,e.val with
     |true,.bool b=>
      sp b (bP C ops draw kp r (i+1) (s.put o.dst {e with val:=.bool true}) ((aG C o (b5 s.t) (aj s.b),e.upd.map (·.1))::fs) k)
       (bP C ops draw kp r (i+1) (s.put o.dst {e with val:=.bool false}) ((aG C o (b5 s.t) (aj s.b),e.upd.map (·.1))::fs) k)
     |true,_=>False
     |false,_=>bP C ops draw kp r (i+1) (s.put o.dst e) ((aG C o (b5 s.t) (aj s.b),e.upd.map (·.1))::fs) k)
    |some (b,pv,u)=>
     (match gu ops i with
     |true=>False
     |false=>sp b (xf C ops draw kp r i s fs (aG C o (b5 s.t) (aj s.b),e.upd.map (·.1)) pv u) (bP C ops draw kp r (i+1) (s.put o.dst e) ((aG C o (b5 s.t) (aj s.b),e.upd.map (·.1))::fs) k))))
   (off':=fun _=>bP C ops draw kp r (i+1) ⟨sl s.t o.dst (.tup []),s.b⟩ (([],[])::fs) k) ?_ (fun h=>ih _ _ _ h) h
  intro h;split at h
  ·cases h
  ·rename_i e he;split at h
   ·rename_i ho hp;refine Gj ho ?_
    try simp only[hp]
    split at h
    ·rename_i b hg hv
     try simp only[hg,hv]
     split at h
     ·exact ih _ _ _ h
     ·exact ih _ _ _ h
    ·cases h
    ·rename_i v hg;simp only[Mv]at h
     try simp only[hg]
     exact ih _ _ _ h
   ·cases h
def L3(ops:List Oper)(i j:Nat):Bool:=((fB ops).getD j 0).testBit i
def nz:Nat->List bN->List (Nat×bN)
 |_,[]=>[]
 |i,f::r=>match f with|([],[])=>nz (i+1) r|f=>(i,f)::nz (i+1) r
def L4(ops:List Oper)(i j:Nat):Bool:=match nth ops i,nth ops j with|some x,some y=>pD x y|_,_=>false
def qd(ops:List Oper):List (Nat×bN)->Bool
 |[]=>true
 | x::r=>r.all (fun p=>L3 ops x.1 p.1||(dR x.2 p.2||L4 ops x.1 p.1))&&qd ops r
def EU(ops:List Oper):Bool:=
 ((List.range ops.length).all fun j=>(List.range j).all fun i=>L3 ops i j||(match nth ops i,nth ops j with | some x,some y=>gw ops x y | _,_=>false))&&
 (ops.zipIdx.all fun(o,j)=>o.after.all fun e=>!Region.binds .any e||Nat.blt e.on j)
def Da(ops:List Oper)(fs:List bN):Bool:=EU ops&&gm fs ops.length&&qd ops (nz 0 fs)
theorem ug{α:Type}:∀{l:List α} {i:Nat},i<l.length->∃x,nth l i=some x
 |a::_,0,_=>⟨a,rfl⟩
 |_::r,i+1,h=>ug (l:=r) (Nat.lt_of_succ_lt_succ h)
theorem wu:∀{fs:List bN} {i0 k:Nat} {f:bN},nth fs k=some f->f≠([],[])->(i0+k,f)∈nz i0 fs
 |g::r,i0,0,f,h,hf=>by
  cases h;unfold nz;split
  ·exact absurd rfl hf
  ·exact O7 ..
 |g::r,i0,k+1,f,h,hf=>by
  have ih:=wu (fs:=r) (i0:=i0+1) (k:=k) h hf;rw[show i0+(k+1)=i0+1+k by omega];unfold nz;split
  ·exact ih
  ·exact NP _ ih
theorem qS{ops:List Oper}:∀{fs:List bN} {i0 a b:Nat} {f g:bN},qd ops (nz i0 fs)=true->a<b->nth fs a=some f->nth fs b=some g->f≠([],[])->g≠([],[])->(L3 ops (i0+a) (i0+b)||(dR f g||L4 ops (i0+a) (i0+b)))=true
 |x::r,i0,0,b+1,f,g,h,_,hf,hg,h1,h2=>by
  cases hf;have hm:=wu (fs:=r) (i0:=i0+1) (k:=b) hg h2;unfold nz at h;split at h
  ·exact absurd rfl h1
  ·unfold qd at h;rw[Nx,NJ]at h;have:=h.1 _ hm
   rwa [show i0+1+b=i0+(b+1) by omega]at this
 |x::r,i0,a+1,b+1,f,g,h,hab,hf,hg,h1,h2=>by
  have hr:qd ops (nz (i0+1) r)=true:=by
   unfold nz at h;split at h
   ·exact h
   ·unfold qd at h;rw[Nx]at h;exact h.2
  have:=qS (fs:=r) (i0:=i0+1) (a:=a) (b:=b) hr (by omega) hf hg h1 h2
  rwa [show i0+1+a=i0+(a+1) by omega,show i0+1+b=i0+(b+1) by omega]at this
theorem Db(g:bN):dR ([],[]) g=true:=by unfold dR su;simp
theorem Aq(f:bN):dR f ([],[])=true:=by unfold dR su;simp
theorem pd{α:Type}:∀{l:List α} {n:Nat},gm l n=true->l.length=n
 |[],0,_=>rfl
 |_::r,n+1,h=>by rw[NL,pd (l:=r) h]
theorem Gk{ops:List Oper}{fs:List bN}(h:Da ops fs=true):dC ops fs=true:=by
 unfold Da EU at h;simp only[Nx,NJ,OZ]at h;obtain⟨⟨⟨h1,h2⟩,h3⟩,h4⟩:=h;have hl:=pd h3;unfold dC;rw[Nx];refine⟨?_,by rw[NJ];intro p hp;have:=h2 p hp;exact(by obtain⟨o,j⟩:=p;simpa using this)⟩;rw[NJ];intro j hj;rw[NJ];intro i hi;rw[OZ]at hj hi;have k:=h1 j hj i hi;rw[Oa]at k⊢;rcases k with k|k
 ·exact .inl k
 obtain⟨x,hx⟩:=ug (l:=ops) (i:=i) (by omega);obtain⟨y,hy⟩:=ug (l:=ops) (i:=j) hj;obtain⟨f,hf⟩:=ug (l:=fs) (i:=i) (by omega);obtain⟨g,hg⟩:=ug (l:=fs) (i:=j) (by omega);rw[hx,hy]at k;rw[hx,hy,hf,hg]
 have q:L3 ops i j=true∨(dR f g||L4 ops i j)=true:=by
  by_cases c1:f=([],[])
  ·rw[c1];exact .inr (by rw[Db g];rfl)
  ·by_cases c2:g=([],[])
   ·rw[c2];exact .inr (by rw[Aq f];rfl)
   ·have:=qS h4 hi hf hg c1 c2;rw[OB,OB,Oa]at this;exact this
 rcases q with q|q
 ·exact .inl q
 ·unfold L4 at q;rw[hx,hy]at q;exact .inr (by rw[Nx];exact⟨k,q⟩)
end Go.AL
end
noncomputable section
namespace Go.AL
variable [Tabs]
def J6:List (Nat×SObj)->Nat->Nat
 |[],m=>m *1000+998
 |(i,_)::r,m=>J6 r (match Nat.ble m (i/1000)with|true=>i/1000+1|false=>m)
def xX:List Nat->St->Option St
 |[],s=>some s
 |i::r,s=>(match HX i (J6 s.b 100) s with|some s=>xX r s|none=>none)
theorem pe{F:Fr}{a:Act}:∀(l:List Nat) {s s':St} {Ω:Om},Holds F s.abs a Ω->xX l s=some s'->∃Ω',Ω'.w=Ω.w/\Holds F s'.abs a Ω'
 |[],s,s',Ω,h,hr=>by cases hr;exact⟨Ω,rfl,h⟩
 |i::r,s,s',Ω,h,hr=>by
  unfold xX at hr;split at hr
  ·rename_i s1 h1;obtain⟨Ω1,e1,g1⟩:=nJ h h1;obtain⟨Ω2,e2,g2⟩:=pe r g1 hr;exact⟨Ω2,e2.trans e1,g2⟩
  ·cases hr
def Dc(ops:List Oper)(s:St):Option St:=
 match enter ops s with
 |some s'=>some s'
 |none=>(match xX ((s.b.map (·.1)).filter fun i=>Ep (sx ops) (xg ops) i&&!bd i) s with|some s'=>enter ops s'|none=>none)
theorem xY{F:Fr}{ops:List Oper}{s s':St}{a:Act}{Ω:Om}(h:Holds F s.abs a Ω)(he:Dc ops s=some s'):∃Ω',Ω'.w=Ω.w/\Holds F s'.abs a Ω':=by
 unfold Dc at he;split at he
 ·rename_i s1 h1;cases he;exact lR h h1
 ·split at he
  ·rename_i s1 h1;obtain⟨Ω1,e1,g1⟩:=pe _ h h1;obtain⟨Ω2,e2,g2⟩:=lR g1 he;exact⟨Ω2,e2.trans e1,g2⟩
  ·cases he
end Go.AL
end
noncomputable section
namespace Go.AL
def J7(k:Nat)(s:St):Option St:=
 match aj s.b k with
 |some (.tailp τ n x)=>
  if((s.t.flatMap (fun y=>lensV k y.2)++s.b.flatMap (fun y=>LS k y.2)).all fun m=>Nat.beq m n)=true then
   some ⟨s.t.map fun y=>(y.1,finV k τ x y.2),(rr s.b k (.tail τ (n+1))).map fun y=>(y.1,Fk k τ x y.2)⟩else none
 |_=>some s
def EV:List Nat->St->Option St
 |[],s=>some s
 |k::r,s=>(match J7 k s with|some s=>EV r s|none=>none)
theorem wv{n:Nat}{q:Prop}(hq:q):∀l:List Nat,(l.all fun m=>Nat.beq m n)=true->xi n l q
 |[],_=>hq
 |m::r,h=>by rw[Oe,Nx]at h;exact⟨NV h.1,wv hq r h.2⟩
theorem J8{k:Nat}{s s':St}{Q:St->Prop}(h:J7 k s=some s')(hq:Q s'):C6 k s Q:=by
 unfold J7 at h;unfold C6;generalize hb:aj s.b k=b at h⊢
 cases b with
 |none=>cases h;exact hq
 |some o=>
  cases o with
  |tailp τ n x=>
   dsimp only at h⊢;split at h
   ·rename_i ha;cases h;exact wv hq _ ha
   ·cases h
  |_=>cases h;exact hq
theorem Ar{Q:St->Prop}{s':St}(hq:Q s'):∀(l:List Nat)(s:St),EV l s=some s'->C7 l s Q
 |[],s,h=>by cases h;exact hq
 |k::r,s,h=>by
  unfold EV at h;split at h
  ·rename_i s1 h1;exact J8 h1 (Ar hq r s1 h)
  ·cases h
def trimM(keep:Nat)(s:St):St:=⟨s.t.filter fun x=>Nat.beq (Nat.land (Nat.shiftRight keep x.1) 1) 1,s.b⟩
def My(C:Cfg)(keep:Nat)(ops:Array Oper)(draw:Bool)(s:St):Option St:=
 match Ap C ops.toList (J5 ops.toList) ops.toList 0 s []with
 |none=>none
 |some (s,fs)=>
  match EV (rK s.b) s with
  |none=>none
  |some s=>
   match draw with
   |false=>evS (trimM keep s) some
   |true=>(match Da ops.toList fs with|true=>evS (trimM keep s) some|false=>none)
theorem Holds.trimM[Tabs]{F:Fr}{s:St}{a:Act}{Ω:Om}(h:Holds F s.abs a Ω)(keep:Nat):Holds F (trimM keep s).abs a Ω:=by
 refine⟨fun i=>?_,h.size,h.defers,h.slots,h.dom,h.inj,h.pubok,h.keep,h.frame⟩;have e:(AL.trimM keep s).abs.T i=if Nat.beq (Nat.land (Nat.shiftRight keep i) 1) 1=true then b5 s.t i else .undef:=jA s.t (fun i=>Nat.beq (Nat.land (Nat.shiftRight keep i) 1) 1) i
 rw[e];split
 ·exact h.tmps i
 ·exact .undef _
theorem Dd[Tabs]{P:Program}{C:Cfg}{F:Fr}(hm:P.follows .mixedOrders=true)(hT:aZ P C.tbl)(hS:bM P C.spec){keep:Nat}{id:Nat}{ops:Array Oper}{draw:Bool}{s s':St}{a:Act}{Ω:Om}
 (hdst:∀(o:Oper),o∈ops.toList->∀d,o.dst=some d->d<F.n)(h:My C keep ops draw s=some s')(hh:Holds F s.abs a Ω):(Code.region id ops draw).wp P (QL F fun y t=>y=.normal/\t=s') a Ω.w:=by
 have key:bP C ops.toList draw (fun _ _=>False) ops.toList 0 s [] fun s2 fs=>M8 s2 fun s3=>s'=trimM keep s3/\(draw=true->dC ops.toList fs=true):=by
  unfold My at h;split at h
  ·cases h
  ·rename_i s1 fs h1;refine ET ?_ _ _ _ _ h1;split at h
   ·cases h
   ·rename_i s2 h2;refine Ar ?_ _ _ h2;split at h
    ·rw[J4]at h;cases h;exact⟨rfl,fun q=>by cases q⟩
    ·split at h
     ·rename_i hi;rw[J4]at h;cases h;exact⟨rfl,fun _=>Gk hi⟩
     ·cases h
 refine oU hm hT hS hdst key (fun hdr s2 fs hk=>let ⟨s3,h3⟩:=mM _ hk;h3.2 hdr) hh (fun s2 fs a' Ω' hk h'=>
   let ⟨s3,Ω3,g1,g2,g3⟩:=nI h' hk
   ⟨.normal,trimM keep s3,Ω3,rfl,g1,g2.trimM keep,rfl,g3.1.symm⟩)
  (fun pv s2 a' Ω' v hk _ _=>hk.elim)
def EW(f:St->Option (SX×St)):Nat->St->Option (SX×St)
 |0,_=>none
 |n+1,s=>
  match f s with
  |some (.normal,s')=>EW f n s'
  |r=>r
def km(C:Cfg)(keep:Nat)(pubs:List (Nat×List Nat))(N:Nat):Code->St->Option (SX×St)
 |.skip,s=>some (.normal,s)
 |.seq a b,s=>
  (match km C keep pubs N a s with
  |some (.normal,s')=>km C keep pubs N b s'
  |r=>r)
 |.cond c a b,s=>
  (match opd (b5 s.t) c with
  |.bool true=>km C keep pubs N a s
  |.bool false=>km C keep pubs N b s
  |_=>none)
 |.block id c,s=>
  (match km C keep pubs N c s with
  |some (.exit j,s')=>if j ==id then some (.normal,s')else some (.exit j,s')
  |r=>r)
 |.exit id,s=>some (.exit id,s)
 |.scope c,s=>km C keep pubs N c s
 |.label _,s=>some (.normal,s)
 |.ret,s=>some (.ret,s)
 |.region id ops draw,s=>
  (match pF (sy pubs id) s with
  |none=>none
  |some s=>
   match Dc ops.toList s with
   |none=>none
   |some s=>
    match My C keep ops draw s with
    |some s=>some (.normal,s)
    |none=>none)
 |.loop c,s=>EW (km C keep pubs N c) N s
 |_,_=>none
variable [Tabs]
variable {P:Program} {C:Cfg} {F:Fr}
theorem De(hm:P.follows .mixedOrders=true)(hT:aZ P C.tbl)(hS:bM P C.spec)(keep:Nat)(pubs:List (Nat×List Nat))(N:Nat) :
  ∀(c:Code)(s:St)(x:SX)(s':St)(a:Act)(Ω:Om),km C keep pubs N c s=some (x,s')->bG F.n c=true->Holds F s.abs a Ω->c.wp P (QL F fun y t=>y=x/\t=s') a Ω.w:=by
 intro c
 induction c with
 |skip=>intro s x s' a Ω h _ hh;cases h;exact wp_skip ⟨.normal,s,Ω,rfl,rfl,hh,rfl,rfl⟩
 |region id ops draw=>
  intro s x s' a Ω h hd hh;unfold km at h;split at h
  ·cases h
  ·rename_i s0 h0;obtain⟨Ω0,e0,g0⟩:=kR _ hh h0;split at h
   ·cases h
   ·rename_i s1 h1;obtain⟨Ω1,e1,g1⟩:=xY g0 h1;have hdst:∀(o:Oper),o∈ops.toList->∀d,o.dst=some d->d<F.n:=by intro o ho d hod;simp only[bG,NJ]at hd;have:=hd o ho;rw[hod]at this;simpa using this
    split at h
    ·rename_i s2 h2;cases h;rw[<-e0,<-e1];exact Dd hm hT hS hdst h2 g1
    ·cases h
 |seq x y ihx ihy=>
  intro s z s' a Ω h hd hh;simp only[bG,Nx]at hd;unfold km at h
  cases h1:km C keep pubs N x s with
  |none=>rw[h1]at h;cases h
  |some r=>
   obtain⟨e1,s1⟩:=r;rw[h1]at h;refine R5 (PU (ihx s e1 s1 a Ω h1 hd.1 hh) ?_);intro e a' w' hq;obtain⟨e2,s2,Ω',g1,g2,g3,g4,g5⟩:=hq;subst g2 g4 g5
   cases e2 with
   |normal=>cases g1;exact ihy _ z s' a' Ω' h hd.2 g3
   |exit id=>cases g1;cases h;exact⟨.exit id,_,Ω',rfl,rfl,g3,rfl,rfl⟩
   |ret=>cases g1;cases h;exact⟨.ret,_,Ω',rfl,rfl,g3,rfl,rfl⟩
   |pan pv=>obtain⟨v,rfl,hv⟩:=g1;cases h;exact⟨.pan pv,_,Ω',⟨v,rfl,hv⟩,rfl,g3,rfl,rfl⟩
 |cond c x y ihx ihy=>
  intro s z s' a Ω h hd hh;simp only[bG,Nx]at hd;unfold km at h;have hv:=ba hh c;split at h
  ·rename_i hb;have hb':opd s.abs.T c=.bool true:=hb;rw[hb']at hv;exact wp_cond hv.bool_inv (ihx _ z s' a Ω h hd.1 hh)
  ·rename_i hb;have hb':opd s.abs.T c=.bool false:=hb;rw[hb']at hv;exact wp_cond hv.bool_inv (ihy _ z s' a Ω h hd.2 hh)
  ·cases h
 |block id c ih=>
  intro s z s' a Ω h hd hh;simp only[bG]at hd;unfold km at h
  cases h1:km C keep pubs N c s with
  |none=>rw[h1]at h;cases h
  |some r=>
   obtain⟨e1,s1⟩:=r;rw[h1]at h;refine wp_block (PU (ih s e1 s1 a Ω h1 hd hh) ?_);intro e a' w' hq;obtain⟨e2,s2,Ω',g1,g2,g3,g4,g5⟩:=hq;subst g2 g4 g5
   cases e2 with
   |normal=>cases g1;cases h;exact⟨.normal,_,Ω',rfl,rfl,g3,rfl,rfl⟩
   |ret=>cases g1;cases h;exact⟨.ret,_,Ω',rfl,rfl,g3,rfl,rfl⟩
   |pan pv=>obtain⟨v,rfl,hv⟩:=g1;cases h;exact⟨.pan pv,_,Ω',⟨v,rfl,hv⟩,rfl,g3,rfl,rfl⟩
   |exit j=>
    cases g1;simp only[CE,Exit.inBlock];by_cases hj:j=id
    ·subst hj;simp only[Qc,Ov]at h;cases h;simp only[Ov];exact⟨.normal,_,Ω',rfl,rfl,g3,rfl,rfl⟩
    ·simp only[OE,hj,Ob]at h;cases h;rw[Ny hj];exact⟨.exit j,_,Ω',rfl,rfl,g3,rfl,rfl⟩
 |loop c ih=>
  intro s z s' a Ω h hd hh;simp only[bG]at hd;unfold km at h;refine wp_loop_rounds N ?_
  have key:∀(n:Nat)(s:St)(a:Act)(Ω:Om),EW (km C keep pubs N c) n s=some (z,s')->Holds F s.abs a Ω->Code.rounds P c (QL F fun y t=>y=z/\t=s') n a Ω.w:=by
   intro n
   induction n with
   |zero=>intro s a Ω h _;cases h
   |succ n ihn=>
    intro s a Ω h hh;rw[rounds_succ];unfold EW at h
    cases h1:km C keep pubs N c s with
    |none=>rw[h1]at h;cases h
    |some r=>
     obtain⟨e1,s1⟩:=r;rw[h1]at h;refine PU (ih s e1 s1 a Ω h1 hd hh) ?_;intro e a' w' hq;obtain⟨e2,s2,Ω',g1,g2,g3,g4,g5⟩:=hq;subst g2 g4 g5
     cases e2 with
     |normal=>cases g1;exact ihn _ a' Ω' h g3
     |exit id=>cases g1;cases h;exact⟨.exit id,_,Ω',rfl,rfl,g3,rfl,rfl⟩
     |ret=>cases g1;cases h;exact⟨.ret,_,Ω',rfl,rfl,g3,rfl,rfl⟩
     |pan pv=>obtain⟨v,rfl,hv⟩:=g1;cases h;exact⟨.pan pv,_,Ω',⟨v,rfl,hv⟩,rfl,g3,rfl,rfl⟩
  exact key N s a Ω h hh
 |exit id=>intro s x s' a Ω h _ hh;cases h;exact wp_exit ⟨.exit id,s,Ω,rfl,rfl,hh,rfl,rfl⟩
 |ret=>intro s x s' a Ω h _ hh;cases h;exact wp_ret ⟨.ret,s,Ω,rfl,rfl,hh,rfl,rfl⟩
 |rangeFunc g ps x y _ _=>intro s z s' a Ω h;cases h
 |scope c ih=>
  intro s z s' a Ω h hd hh;simp only[bG]at hd;unfold km at h;refine wp_scope_straight (PU (ih s z s' a Ω h hd hh) ?_);intro e a' w' hq;obtain⟨e2,s2,Ω',h1,h2,h3,h4⟩:=hq
  cases e2 with
  |normal=>cases h1;exact⟨.normal,_,Ω',rfl,h2,h3,h4⟩
  |exit id=>cases h1;exact⟨.exit id,_,Ω',rfl,h2,h3,h4⟩
  |ret=>cases h1;exact⟨.ret,_,Ω',rfl,h2,h3,h4⟩
  |pan pv=>obtain⟨v,rfl,hv⟩:=h1;exact⟨.pan pv,_,Ω',⟨v,rfl,hv⟩,h2,h3,h4⟩
 |label l=>intro s x s' a Ω h _ hh;cases h;exact wp_label ⟨.normal,s,Ω,rfl,rfl,hh,rfl,rfl⟩
 |goto l=>intro s z s' a Ω h;cases h
 |refuse why=>intro s z s' a Ω h;cases h
end Go.AL
end
noncomputable section
namespace Go.AL
variable [Tabs]
def Mz:AV->Bool
 |.ptr k 0=>bd k
 |_=>false
def ptrIn(ks:List Nat):AV->Bool
 |.ptr k _=>ks.contains k
 |_=>false
def L5(ks:List Nat)(t:List (Nat×AV)):List (Nat×AV):=t.map fun x=>(x.1,if ptrIn ks x.2 then x.2 else .undef)
structure RC where
 r0:Code
 rest:Code
 crest:Code
 t5:Nat
 caps:List Operand
 t6:Nat
 t3:Nat
def MA(g:Nat)(c cc:Code):Option RC:=
 match c,cc with
 |.seq r0 (.seq (.region _ o1 false) rest),.seq (.region _ o2 false) crest=>
  match o1.toList,o2.toList with
  |[⟨some t5,.makeFunc (.func g') fst caps,_,_,_,none⟩,⟨none,.defer ⟨.value (.tmp t5'),asx,_⟩,_,_,_,none⟩],
   [⟨some t6,.call ⟨.builtin .recover,as2,_⟩,_,_,_,none⟩,⟨some t3,.assign (.tmp t6'),_,_,_,none⟩]=>
   if Nat.beq g' g&&Nat.beq t5' t5&&Nat.beq t6' t6&&fst.isEmpty&&asx.isEmpty&&as2.isEmpty then some ⟨r0,rest,crest,t5,caps.toList,t6,t3⟩else none
  |_,_=>none
 |_,_=>none
def J9(C:Cfg)(rs:List ResultVar)(L:List dP)(s1:St)(S1:List (Nat×SObj))(S:List (Nat×SObj))(A:Ans)(t2:List (Nat×AV))(s3:St):Prop:=
 match bn (aO s3.b)&&(aO S1).all (fun k=>(aO s3.b).contains k)with
 |true=>
  match lq C.tbl ⟨L5 (aO S1) t2,s3.b⟩ rs with
  |some l=>
   (match lp (aj s1.b) L 998 (iM S1 s3.b),mapVs (qp L 998) (iL L 998) (iL L 998) l with
   |some u',some l'=>fw ⟨[],cv s1.b u'⟩ fun s4=>vN (some l') s4 A.val (cv S A.upd)
   |_,_=>False)
  |none=>False
 |false=>False
def As(C:Cfg)(annC:An)(clo:Func)(R:RC)(caps:List AV)(v:AV)(s2:St)(fin:St->Prop):Prop:=
 jv (List.range clo.ntmps) fun keep=>fw ⟨gL (dq 0 caps) R.t3 v,s2.b⟩ fun s=>swp C keep annC R.crest s fun
  |.exit _,_=>False
  |.pan _,_=>False
  |_,s3=>fin s3
def fwpR(C:Cfg)(ann annC:An)(fn:Func)(g:Nat)(clo:Func)(args:List AV)(S:List (Nat×SObj))(A:Ans):Prop:=
 match fn.body,clo.body,A.pan with
 |some c,some cc,none=>
  match MA g c cc with
  |none=>False
  |some R=>
   match bG fn.ntmps c&&bG clo.ntmps cc&&Nat.blt R.t5 fn.ntmps&&n9 args fn.ntmps&&(aO S).all bd&&clo.results.isEmpty&&n9 R.caps clo.ntmps&&n9 R.caps R.t6 with
   |false=>False
   |true=>jv ((List.range fn.ntmps)) fun keep=>fw ⟨dq 0 args,S⟩ fun i=>swp C keep ann R.r0 i fun
    |.normal,s1=>
     (match(aO s1.b).map (fun i=>(i,(none:Option (Nat×Nat))))with
     |L=>
      (match bn (L.map (·.1))&&Nat.ble L.length 100,mapVs (toP L) (toI L) (toI L) ((List.range fn.ntmps).map (b5 s1.t)),mapVs (toP L) (toI L) (toI L) (R.caps.map (opd (b5 s1.t))),oH (aj s1.b) L L 900 with
      |true,some as1,some caps,some S1=>
       (match caps.all Mz with
       |true=>fw ⟨gL (dq 0 as1) R.t5 .undef,S1⟩ fun i=>swp C keep ann R.rest i fun
        |.exit _,_=>False
        |.pan v,s2=>As C annC clo R caps v s2 (J9 C fn.results.toList L s1 S1 S A s2.t)
        |_,s2=>As C annC clo R caps .nilif s2 (J9 C fn.results.toList L s1 S1 S A s2.t)
       |false=>False)
      |_,_,_,_=>False))
    |_,_=>False
 |_,_,_=>False
theorem qe:∀(u S:List (Nat×SObj))(i:Nat),bn (u.map (·.1))=true->aj (cv S u) i=(aj u i).or (aj S i)
 |[],S,i,_=>by simp[cv,b8,aI]
 |(j,o)::r,S,i,h=>by
  simp only[O2,bn,Nx,NI]at h;simp only[cv];rw[qe r _ i h.2,iY];simp only[b8,aI];by_cases e:j=i
  ·subst e
   have:aj r j=none:=by
    cases hb:aj r j with|none=>rfl|some o'=>have:=bX r j o' hb;have h1:=h.1;simp only[Ot,O6,O0,not_exists,not_and]at h1;exact absurd rfl (h1 _ this)
   simp[this]
  ·simp[e]
section
variable {P:Program} {C:Cfg}
theorem V.pinned{e0 e:Nat->Option CObj}{w0 w:World}{p0 p:Nat->Nat->Prop}(hk:∀id c,e0 id=some c->∃c',e id=some c'/\CLe c c'){a:AV}{v:Value}(ha:Mz a=true)(h:V ⟨e0,w0,p0⟩ a v):V ⟨e,w,p⟩ a v:=by
 cases h with
 |ptr i o b q len he=>obtain⟨c',h1,h2⟩:=hk i _ he;have:=h2.box;subst this;exact .ptr i o b q len h1
 |_=>simp[Mz]at ha
theorem Holds.retmp'{F:Fr}{s:AS}{a a':Act}{Ω:Om}(h:Holds F s a Ω){n:Nat}{ds:List Deferred}{T:Nat->AV}(hT:∀i,V Ω (T i) (a'.tmps.getD i undef))(hs:a'.tmps.size=n)(hd:a'.defers=ds) :
  Holds ⟨F.w0,F.pub0,n,F.e0,F.dom0,ds,F.tab0⟩ ⟨T,s.B⟩ a' Ω:=
 ⟨hT,hs,hd,h.slots,h.dom,h.inj,h.pubok,h.keep,⟨h.frame.os,h.frame.tape,h.frame.output,h.frame.size,h.frame.block,h.frame.cell,h.frame.kind,h.frame.pub,h.frame.old,h.frame.pcell⟩⟩
inductive Rcv:FrameMode->AV->Om->Value->FrameMode->Prop
 |ret (Ω:Om):Rcv .returning .nilif Ω .nilIface .returning
 |pan (Ω:Om) (a:AV) (v:Value):V Ω a v->Rcv (.panicking [{v,recovered:=false}]) a Ω v (.panicking [{v,recovered:=true}])
structure RCcode(g:Nat)(R:RC)(c cc:Code):Prop where
 code:∃i1 i2 ty1 ps1 af1 ty2 ps2 af2 ts2 ty3 ps3 af3 ts3 ty4 ps4 af4,
  c=.seq R.r0 (.seq (.region i1 #[⟨some R.t5,.makeFunc (.func g) #[] R.caps.toArray,ty1,ps1,af1,none⟩,⟨none,.defer ⟨.value (.tmp R.t5),#[],ts2⟩,ty2,ps2,af2,none⟩] false) R.rest)/\
  cc=.seq (.region i2 #[⟨some R.t6,.call ⟨.builtin .recover,#[],ts3⟩,ty3,ps3,af3,none⟩,⟨some R.t3,.assign (.tmp R.t6),ty4,ps4,af4,none⟩] false) R.crest
theorem Ja{g:Nat}{c cc:Code}{R:RC}(h:MA g c cc=some R):RCcode g R c cc:=by
 unfold MA at h;split at h
 ·rename_i r0 i1 o1 rest i2 o2 crest;split at h
  ·rename_i h1 h2;split at h
   ·rename_i hc;simp only[Nx,Nat.beq_eq,Array.isEmpty_iff]at hc;obtain⟨⟨⟨⟨⟨rfl,rfl⟩,rfl⟩,rfl⟩,rfl⟩,rfl⟩:=hc;simp only[Xs]at h;subst h;have e1:=Pj List.toArray h1;have e2:=Pj List.toArray h2;simp only[Pk]at e1 e2;subst e1 e2;exact⟨_,_,_,_,_,_,_,_,_,_,_,_,_,_,_,_,rfl,rfl⟩
   ·cases h
  ·cases h
 ·cases h
theorem qU{ts:Array Nat}{d:Option Nat}{ty:Nat}{ps:String}{af:Array Edge}{ρ:Operand->Value}{w:World} :
  (execOp ρ ⟨d,.call ⟨.builtin .recover,#[],ts⟩,ty,ps,af,none⟩).run P w=.ok .recover w:=by
 simp[execOp,resolve,invoke,builtin]
theorem Df(hm:P.follows .mixedOrders=true)(hT:aZ P C.tbl)(hS:bM P C.spec){g:Nat}{clo:Func}{c cc:Code}{R:RC}(hR:RCcode g R c cc)(hg:P.funcs[g]?=some clo)(hb:clo.body=some cc)
 (hd:bG clo.ntmps cc=true)(hres:clo.results=#[]){caps:List AV}(hcl:caps.length<=clo.ntmps)(hc6:caps.length<=R.t6){F:Fr}{s2:St}{a2:Act}{Ω2:Om}(h:Holds F s2.abs a2 Ω2){vs:List Value}(hv:VL Ω2 caps vs)
 {u u':FrameMode}{av:AV}{v:Value}(hrc:Rcv u av Ω2 v u'){annC:An}{fin:St->Prop}(hc:As C annC clo R caps av s2 fin) :
  CallsD P g vs.toArray u Ω2.w fun en u2 w'=>u2=u'/\en=.returned (.tuple #[])/\∃s3 Ω3 a3 T,Ω3.w=w'/\fin s3/\Holds ⟨F.w0,F.pub0,clo.ntmps,F.e0,F.dom0,[],F.tab0⟩ ⟨T,aj s3.b⟩ a3 Ω3:=by
 obtain⟨i1,i2,ty1,ps1,af1,ty2,ps2,af2,ts2,ty3,ps3,af3,ts3,ty4,ps4,af4,_,rfl⟩:=hR;refine callsD_of_wpS hg hb (fun c₀ cs hu=>?_);apply wpS_seq;apply wpS_region;simp only[bG,Nx,Oe,Rb,Bool.and_true,PY]at hd;obtain⟨⟨hd6,hd3⟩,hdc⟩:=hd;have hvs:vs.length<=clo.ntmps:=by rw[<-hv.1];exact hcl
 have hbase:Holds ⟨F.w0,F.pub0,clo.ntmps,F.e0,F.dom0,[],F.tab0⟩ ⟨b5 (dq 0 caps),aj s2.b⟩ {tmps:=vs.toArray++Array.replicate (clo.ntmps-vs.toArray.size) undef,defers:=[]} Ω2:=
  h.retmp' (fun i=>ke _ hv i) (by simp;omega) rfl
 have key:∃cs',(∃c1,cs'=c1::cs/\c1={c₀ with mode:=u'})/\∀Q':Exit->Act->List Frame->World->Prop,Q' .normal (({tmps:=vs.toArray++Array.replicate (clo.ntmps-vs.toArray.size) undef,defers:=[]}:Act).put (some R.t6) v|>.put (some R.t3) v) cs' Ω2.w->
   wpOpsS P #[⟨some R.t6,.call ⟨.builtin .recover,#[],ts3⟩,ty3,ps3,af3,none⟩,⟨some R.t3,.assign (.tmp R.t6),ty4,ps4,af4,none⟩] Q' [0,1] {tmps:=vs.toArray++Array.replicate (clo.ntmps-vs.toArray.size) undef,defers:=[]} (c₀::cs) Ω2.w:=by
  have two:∀(cs':List Frame)(Q':Exit->Act->List Frame->World->Prop),Q' .normal (({tmps:=vs.toArray++Array.replicate (clo.ntmps-vs.toArray.size) undef,defers:=[]}:Act).put (some R.t6) v|>.put (some R.t3) v) cs' Ω2.w->
    wpOpsS P #[⟨some R.t6,.call ⟨.builtin .recover,#[],ts3⟩,ty3,ps3,af3,none⟩,⟨some R.t3,.assign (.tmp R.t6),ty4,ps4,af4,none⟩] Q' [1] (({tmps:=vs.toArray++Array.replicate (clo.ntmps-vs.toArray.size) undef,defers:=[]}:Act).put (some R.t6) v) cs' Ω2.w:=by
   intro cs' Q' hq;have he:(({tmps:=vs.toArray++Array.replicate (clo.ntmps-vs.toArray.size) undef,defers:=[]}:Act).put (some R.t6) v).eval (.tmp R.t6)=v:=by show(Act.put _ (some R.t6) v).tmps.getD R.t6 undef=v;rw[cN hbase.size hd6,NC rfl]
   unfold wpOpsS;simp only[OO,Q1,Pw,Region.wanted,Ov];have hr:(execOp (({tmps:=vs.toArray++Array.replicate (clo.ntmps-vs.toArray.size) undef,defers:=[]}:Act).put (some R.t6) v).eval ⟨some R.t3,.assign (.tmp R.t6),ty4,ps4,af4,none⟩).run P Ω2.w=.ok (.value v) Ω2.w:=by show(pure (Next.value (Act.eval _ (.tmp R.t6))):Sem Next).run P Ω2.w=_;rw[he];rfl
   rw[hr];simp only[Oper.upon];exact hq
  cases hrc with|ret=>refine⟨_,⟨c₀,rfl,by cases c₀;simp only at hu;subst hu;rfl⟩,fun Q' hq=>?_⟩;unfold wpOpsS;simp only[OO,Pw,Region.wanted,Ov];rw[qU];simp only[recoverD,hu];exact two _ Q' hq|pan _ _ hv'=>refine⟨_,⟨_,rfl,rfl⟩,fun Q' hq=>?_⟩;unfold wpOpsS;simp only[OO,Pw,Region.wanted,Ov];rw[qU];simp only[recoverD,hu];exact two _ Q' hq
 obtain⟨cs',⟨c1,rfl,hc1⟩,key⟩:=key;refine key _ ?_;refine wpS_of_wp ?_;unfold As at hc;rw[jc,cQ]at hc
 have hav:V Ω2 av v:=by
  cases hrc<;>first|exact .nilif|assumption
 have h1:=(hbase.pure (dst:=some R.t6) (val:=.undef) (v:=v) (.undef v) (fun d e=>by cases e;exact hd6)).pure (dst:=some R.t3) (val:=av) (v:=v) hav (fun d e=>by cases e;exact hd3)
 have h2:Holds ⟨F.w0,F.pub0,clo.ntmps,F.e0,F.dom0,[],F.tab0⟩ (St.abs ⟨gL (dq 0 caps) R.t3 av,s2.b⟩) _ Ω2:=h1.weak (s':=St.abs ⟨gL (dq 0 caps) R.t3 av,s2.b⟩) (fun i=>by
  simp only[St.abs,fr,bz];by_cases e3:R.t3=i
  ·right;simp[e3]
  ·by_cases e6:R.t6=i
   ·left;subst e6;rw[Ny e3,gX,NC (NU _),Qb];simp[NB,Nz hc6]
   ·right;simp[e3,e6]) rfl
 refine PU (gW hm hT hS _ annC R.crest _ _ _ Ω2 hc hdc h2) ?_;intro e a' w' hq;obtain⟨z,s3,Ω3,q1,q2,q3,q4⟩:=hq;have fin3:fin s3->bodyPostS P clo c₀ cs (fun en u2 w'=>u2=u'/\en=.returned (.tuple #[])/\∃s3 Ω3 a3 T,Ω3.w=w'/\fin s3/\Holds ⟨F.w0,F.pub0,clo.ntmps,F.e0,F.dom0,[],F.tab0⟩ ⟨T,aj s3.b⟩ a3 Ω3) .ret a' (c1::cs) w':=by intro hf;refine⟨q3.defers,u',by rw[hc1],.tuple #[],by simp[results,hres],rfl,rfl,s3,Ω3,a',_,q2,hf,q3⟩
 cases z with
 |normal=>cases q1;exact fin3 q4
 |ret=>cases q1;exact fin3 q4
 |exit id=>exact q4.elim
 |pan v=>exact q4.elim
theorem Gl{w:World}{pub:Nat->Nat->Prop}{e:Nat->Option CObj}{n:Nat}{hl:∀id c,e id=some c->bd id=true}{ds:List Deferred}{ht:eh w pub e}{T:Nat->AV}{t:List (Nat×AV)}{b b':List (Nat×SObj)}{a:Act}{Ω:Om}{l:List AV}{us:List Value}{val:AV}
 (hh:Holds ⟨w,pub,n,e,hl,ds,ht⟩ ⟨T,aj b⟩ a Ω)(k2:VL Ω l us)(hend:vN (some l) ⟨t,b⟩ val b') :
  ∃pub' e',V ⟨e',Ω.w,pub'⟩ val (if h:us.toArray.size=1 then us.toArray[0]else .tuple us.toArray)/\After w pub e (aj b') Ω.w pub' e':=by
 unfold vN at hend;split at hend
 ·rename_i x hres;cases hres;obtain⟨u,rfl⟩:=je (by rw[<-k2.1];rfl);have h1:=hh.retmp' (T:=b5 (dq 0 [x])) (a':={tmps:=[u].toArray++Array.replicate 0 undef,defers:=[]}) (n:=1) (ds:=[]) (fun i=>ke 0 k2 i) (by simp) rfl;obtain⟨Ω2,e2,hh2⟩:=dA (s:=⟨[(0,x)],b⟩) h1 (gD hend);refine⟨Ω2.pub,Ω2.e,?_,?_⟩
  ·have:=hh2.tmps 0;rw[<-e2];exact this
  ·rw[<-e2];exact fF hh2
 ·rename_i l' hne hres;cases hres;split at hend
  ·rename_i rs;split at hend
   ·rename_i hln;have hl2:=bW _ _ hln;have h1:=hh.retmp' (T:=b5 (dq 0 l)) (a':={tmps:=us.toArray++Array.replicate 0 undef,defers:=[]}) (n:=us.length) (ds:=[]) (fun i=>ke 0 k2 i) (by simp) rfl;obtain⟨Ω2,e2,hh2⟩:=dA (s:=⟨dq 0 l,b⟩) h1 (gD hend);have hsz:¬us.toArray.size=1:=by intro h1;obtain⟨x,hx⟩:=je (l:=l) (by rw[k2.1];simpa using h1);exact hne x hx
    rw[dif_neg hsz];refine⟨Ω2.pub,Ω2.e,?_,?_⟩
    ·refine .tup rs us (by rw[<-k2.1,<-hl2]) (fun j c v hc hv=>?_);have:=hh2.tmps j;simp only[St.abs,gX,NU,Ov,Qb,NB,hc,Oq]at this;have e3:(us.toArray++Array.replicate 0 undef).getD j undef=v:=by simp[NS,hv]
     rw[e3]at this;rw[<-e2];exact this
    ·rw[<-e2];exact fF hh2
   ·exact hend.elim
  ·exact hend.elim
 ·rename_i h;cases h
theorem CLe.to_box{c:CObj}{b o l:Nat}(h:CLe c (.box b o l)):c=.box b o l:=by cases c<;>simp[CLe]at h;obtain⟨rfl,rfl,rfl⟩:=h;rfl
theorem V.ptrIn{F:Fr}{Ω2 Ω3:Om}{ks:List Nat}(h2:∀id c,F.e0 id=some c->∃c',Ω2.e id=some c'/\CLe c c')(h3:∀id c,F.e0 id=some c->∃c',Ω3.e id=some c'/\CLe c c')
 (hk:∀k∈ks,∃c,F.e0 k=some c){a:AV}{v:Value}(h:V Ω2 a v):V Ω3 (if AL.ptrIn ks a=true then a else .undef) v:=by
 split
 ·rename_i hp
  cases h with
  |ptr i o b q len he=>simp only[AL.ptrIn,Ot,NA]at hp;obtain⟨c,hc⟩:=hk i hp;obtain⟨c2,e2,l2⟩:=h2 i c hc;rw[he]at e2;cases e2;have:=l2.to_box;subst this;obtain⟨c3,e3,l3⟩:=h3 i _ hc;have:=l3.box;subst this;exact .ptr i o b q len e3
  |_=>simp[AL.ptrIn]at hp
 ·exact .undef v
theorem Gm(hT:aZ P C.tbl){w:World}{pub:Nat->Nat->Prop}{e:Nat->Option CObj}{n n1:Nat}{hl:∀id c,e id=some c->bd id=true}{ht:eh w pub e}{s1:St}{a1:Act}{Ω1:Om}{L:List dP}{ht1:eh Ω1.w Ω1.pub (dr L Ω1.e)}(h3:Holds ⟨w,pub,n,e,hl,[],ht⟩ s1.abs a1 Ω1)
 (hdist:bn (L.map (·.1))=true){S1:List (Nat×SObj)}(hS1:oH (aj s1.b) L L 900=some S1){hl1:∀id c,dr L Ω1.e id=some c->bd id=true}(hk1:∀k∈aO S1,∃c,dr L Ω1.e k=some c)
 {ds:List Deferred}{s2:St}{a2:Act}{Ω2:Om}(q3:Holds ⟨Ω1.w,Ω1.pub,n,dr L Ω1.e,hl1,ds,ht1⟩ s2.abs a2 Ω2){s3:St}{a3:Act}{Ω3:Om}{T:Nat->AV}(h5:Holds ⟨Ω1.w,Ω1.pub,n1,dr L Ω1.e,hl1,[],ht1⟩ ⟨T,aj s3.b⟩ a3 Ω3)
 {fn:Func}{S:List (Nat×SObj)}{A:Ans}(hpan:A.pan=none)(hf:J9 C fn.results.toList L s1 S1 S A s2.t s3) :
  ∃v,(results fn a2.tmps).run P Ω3.w=.ok v Ω3.w/\∃pub' e',(∀b pv u,A.pan=some (b,pv,u)->b=false)/\V ⟨e',Ω3.w,pub'⟩ A.val v/\After w pub e (aj (cv S A.upd)) Ω3.w pub' e':=by
 unfold J9 at hf;split at hf
 ·rename_i hck;simp only[Nx,NJ]at hck;obtain⟨hd3,hin⟩:=hck;split at hf
  ·rename_i l hres;split at hf
   ·rename_i u' l' hu' hl';rw[cQ]at hf
    have hR:Holds ⟨Ω1.w,Ω1.pub,n,dr L Ω1.e,hl1,ds,ht1⟩ (St.abs ⟨L5 (aO S1) s2.t,s3.b⟩) a2 Ω3:=by
     have:=h5.retmp' (T:=b5 (L5 (aO S1) s2.t)) (a':=a2) (n:=n) (ds:=ds) (fun i=>by
      rw[show b5 (L5 (aO S1) s2.t) i=if ptrIn (aO S1) (b5 s2.t i)=true then b5 s2.t i else .undef from oS (fun x=>if ptrIn (aO S1) x=true then x else .undef) (by simp[ptrIn]) s2.t i];exact V.ptrIn (F:=⟨Ω1.w,Ω1.pub,n,dr L Ω1.e,hl1,ds,ht1⟩) q3.keep h5.keep hk1 (q3.tmps i)) q3.size q3.defers
     exact this
    obtain⟨us,k1,k2⟩:=fX hT hR _ _ hres;have hmap:(results fn a2.tmps).run P Ω3.w=.ok (if h:us.toArray.size=1 then us.toArray[0]else .tuple us.toArray) Ω3.w:=by rw[nM,<-Pk (xs:=fn.results),Qu];simp only[NX,Sem.run_map,k1,ND,Oh]
    have hB:aj (cv S1 s3.b)=aj s3.b:=by
     funext i;rw[qe _ _ _ hd3]
     cases h:aj s3.b i with
     |some o=>rfl
     |none=>
      cases h':aj S1 i with|none=>rfl|some o=>have:=hin i (O0.2 ⟨(i,o),bX _ _ _ h',rfl⟩);simp only[Ot,NA]at this;exact absurd this (jZ _ _ h)
    have hA:After Ω1.w Ω1.pub (dr L Ω1.e) (aj (cv S1 s3.b)) Ω3.w Ω3.pub Ω3.e:=by rw[hB];exact fF (h5.retmp' (T:=T) (a':=a3) (n:=n1) (ds:=[]) h5.tmps h5.size h5.defers)
    obtain⟨Ω',w1,w2,w3⟩:=pM h3 (d:=998) (by omega) hdist hS1 hd3 hu' (val:=.tup l) (val':=.tup l') (by simp only[mapV,hl']) (v:=.tuple us.toArray) (V.of_tup k2) hA;obtain⟨us',e1,k3⟩:=w2.tup_inv;have e2:us=us':=by have:=Pj Array.toList (Value.tuple.inj e1);simpa using this
    subst e2;rw[show s1.abs.B=aj s1.b from rfl,<-ja]at w3;obtain⟨pub',e',p1,p2⟩:=Gl (T:=s1.abs.T) (b:=cv s1.b u') (t:=[]) w3 k3 hf;rw[w1]at p1 p2;exact⟨_,hmap,pub',e',(fun b pv u h=>by rw[hpan]at h;cases h),p1,p2⟩
   ·exact hf.elim
  ·exact hf.elim
 ·exact hf.elim
theorem fwpR_sound(hm:P.follows .mixedOrders=true)(hT:aZ P C.tbl)(hS:bM P C.spec){ann annC:An}{f g:Nat}{fn clo:Func}(hf:P.funcs[f]?=some fn)(hg:P.funcs[g]?=some clo)
 (eg:∀args w,(callFunc g args).run P w=.ok (.enter g args) w){args:List AV}{S:List (Nat×SObj)}{A:Ans}(h:fwpR C ann annC fn g clo args S A):al P f args S A:=by
 intro w pub e vs hp ht hv hs hdom hinj;unfold fwpR at h;split at h
 ·rename_i c cc hb hcb hpan;split at h
  ·exact h.elim
  ·rename_i R hR;split at h
   ·exact h.elim
   ·rename_i hck;simp only[Nx,NJ,Array.isEmpty_iff,PY]at hck;obtain⟨⟨⟨⟨⟨⟨⟨hk1,hk2⟩,hk5⟩,hk3⟩,hk4⟩,hres⟩,hcl⟩,hc6⟩:=hck;have hlen:=eV _ _ hk3;have hcl:=eV _ _ hcl;have hc6:=eV _ _ hc6;rw[jc,cQ]at h
    have hlent:∀id c,e id=some c->bd id=true:=by
     intro id c hc
     cases hg:aj S id with
     |none=>rw[hdom id hg]at hc;cases hc
     |some o=>exact hk4 id (O0.2 ⟨(id,o),bX _ _ _ hg,rfl⟩)
    have hRc:=Ja hR;obtain⟨i1,i2,ty1,ps1,af1,ty2,ps2,af2,ts2,ty3,ps3,af3,ts3,ty4,ps4,af4,rfl,_⟩:=id hRc;refine calls_of_wp_defers hf hb ?_;have hh:=jd (n:=fn.ntmps) hp ht hv hlen hs hdom hinj hlent;have hdr:bG fn.ntmps R.r0=true/\bG fn.ntmps R.rest=true:=by simp only[bG,Nx]at hk1;exact⟨hk1.1,hk1.2.2⟩
    refine R5 (PU (gW (F:=⟨w,pub,fn.ntmps,e,hlent,[],ht⟩) hm hT hS _ ann R.r0 _ _ _ _ h hdr.1 hh) ?_);intro en a1 w1 hq;obtain⟨z,s1,Ω1,q1,rfl,h3,h4⟩:=hq
    cases z with
    |exit id=>exact h4.elim
    |ret=>exact h4.elim
    |pan pv=>exact h4.elim
    |normal=>
     cases q1;simp only at h4;generalize hLL:(aO s1.b).map (fun i=>(i,(none:Option (Nat×Nat))))=L at h4;split at h4
     ·rename_i as1 caps S1 hdl has hcaps hS1;simp only[Nx,QV]at hdl;obtain⟨hdist,hL100⟩:=hdl;split at h4
      ·rename_i hcp;rw[cQ]at h4;obtain⟨k1,k2,k3⟩:=iX L 900 S1 hS1;refine R5 (Qs ?_);show wpOps P _ _ [0,1] a1 Ω1.w;refine cE (o:=⟨some R.t5,.makeFunc (.func g) #[] R.caps.toArray,ty1,ps1,af1,none⟩) rfl rfl (ao (v:=.func (.func g) #[] (R.caps.toArray.map a1.eval)) (w':=Ω1.w) (by simp[execOp,Instr.makeFunc]) ?_);have he5:(a1.put (some R.t5) (.func (.func g) #[] (R.caps.toArray.map a1.eval))).eval (.tmp R.t5)=.func (.func g) #[] (R.caps.toArray.map a1.eval):=by show(Act.put a1 (some R.t5) _).tmps.getD R.t5 undef=_;rw[cN h3.size hk5,NC rfl]
       refine cE (o:=⟨none,.defer ⟨.value (.tmp R.t5),#[],ts2⟩,ty2,ps2,af2,none⟩) rfl rfl ?_;have hrun:(execOp (a1.put (some R.t5) (.func (.func g) #[] (R.caps.toArray.map a1.eval))).eval ⟨none,.defer ⟨.value (.tmp R.t5),#[],ts2⟩,ty2,ps2,af2,none⟩).run P Ω1.w=.ok (.defer {target:=.fn (.func g) (R.caps.toArray.map a1.eval),args:=#[]}) Ω1.w:=by have he5':=he5;simp only[List.map_toArray]at he5';simp[execOp,resolve,he5',Deferred.ofValue]
       unfold Oper.wp;rw[hrun];have hcv:R.caps.toArray.map a1.eval=(R.caps.map a1.eval).toArray:=by simp
       have hdef0:a1.defers=[]:=h3.defers
       have hvl1:VL Ω1 ((List.range fn.ntmps).map (b5 s1.t)) a1.tmps.toList:=by
        have hz:a1.tmps.size=fn.ntmps:=h3.size;refine⟨by simp;omega,fun j c v hc hv=>?_⟩;simp only[O5,NY]at hc;obtain⟨q,hq,rfl⟩:=hc;have hqj:q=j:=by have:=Od.1 hq;obtain⟨_,e⟩:=this;simpa using e.symm
        subst hqj;have:=h3.tmps q;rw[NO]at hv;simp only[NS,hv,Oq]at this;exact this
       have hvc1:VL Ω1 (R.caps.map (opd (b5 s1.t))) (R.caps.map a1.eval):=by refine⟨by simp,fun j c v hc hv=>?_⟩;simp only[O5,NY]at hc hv;obtain⟨x,hx,rfl⟩:=hc;obtain⟨y,hy,rfl⟩:=hv;rw[hx]at hy;cases hy;exact ba h3 x
       have hvl:=hvl1.mapVs (lL L Ω1.e) has;have hvc:=hvc1.mapVs (lL L Ω1.e) hcaps;have hlent1:∀k i r,bu L k=some (i,r)->∃o o',s1.abs.B i=some o/\fA L r o=some o'/\aj S1 k=some o':=by intro k i r hk;obtain⟨h1,h2⟩:=fV hk;obtain⟨o,o',q1,q2,q3⟩:=k2 _ i r h2;rw[show 900+(k-900)=k by omega]at q3;exact⟨o,o',q1,q2,q3⟩
       have hLs:∀q i r,nth L q=some (i,r)->∃o o',s1.abs.B i=some o/\fA L r o=some o':=fun q i r hq=>let ⟨o,o',q1,q2,_⟩:=k2 q i r hq;⟨o,o',q1,q2⟩
       have hslots:∀id o,aj S1 id=some o->bh ⟨dr L Ω1.e,Ω1.w,Ω1.pub⟩ (fun _ _=>True) id o:=fun id o' ho'=>by obtain⟨q,i,r,o2,e1,e2,e3,e4⟩:=k1 id o' ho';subst e1;exact zo (cW (mH L i 900 q r hdist e2)) (h3.slots i o2 e3) e4
       have hdom1:∀id,aj S1 id=none->dr L Ω1.e id=none:=fun id hid=>by
        unfold dr
        cases hl:bu L id with
        |none=>rfl
        |some x=>obtain⟨o1,o2,_,_,q3⟩:=hlent1 id x.1 x.2 hl;rw[hid]at q3;cases q3
       have hinj1:Inj (dr L Ω1.e):=fun i j c c' b oo hi hj ho1 ho2=>by obtain⟨i1,r1,c1,p1,p2,p3⟩:=jX h3.slots hLs hi;obtain⟨i2,r2,c2,p4,p5,p6⟩:=jX h3.slots hLs hj;have:=h3.inj i1 i2 c1 c2 b oo p2 p5 (p3 b oo ho1) (p6 b oo ho2);subst this;have a1:=dI hdist p1;have a2:=dI hdist p4;rw[a1]at a2;simp at a2;exact a2.1
       have hpin:∀id c,dr L Ω1.e id=some c->bd id=true:=by
        intro id c hc
        cases hg:aj S1 id with
        |none=>rw[hdom1 id hg]at hc;cases hc
        |some o=>have:=k3 (id,o) (bX _ _ _ hg);simp only[bd,Nx,QV,PY];simp only at this;omega
       have hkS:∀k∈aO S1,∃c,dr L Ω1.e k=some c:=by
        intro k hk;obtain⟨x,hx,rfl⟩:=O0.1 hk
        cases hg:aj S1 x.1 with
        |none=>exact absurd (O0.2 ⟨x,hx,rfl⟩) (jZ _ _ hg)
        |some o=>
         have hso:=hslots x.1 o hg
         cases o with
         |box c=>obtain⟨_,_,e1,_⟩:=hso;exact⟨_,e1⟩
         |tail τ n=>obtain⟨_,_,e1,_⟩:=hso;exact⟨_,e1⟩
         |map κ τ m=>obtain⟨_,e1,_⟩:=hso;exact⟨_,e1⟩
         |bld t u l=>obtain⟨_,_,e1,_⟩:=hso;exact⟨_,e1⟩
         |tailp τ n x=>obtain⟨_,_,e1,_⟩:=hso;exact⟨_,e1⟩
         |grow τ n x=>obtain⟨_,_,e1,_⟩:=hso;exact⟨_,e1⟩
       have hlen1:as1.length<=fn.ntmps:=by have:=hvl.1;rw[this,Pb,h3.size];exact NK _
       have hi1:=jd (n:=fn.ntmps) h3.pubok (h3.tabsC hLs) hvl hlen1 hslots hdom1 hinj1 hpin
       have hi2:=hi1.retmp' (T:=b5 (dq 0 as1)) (a':={tmps:=a1.tmps,defers:=[{target:=.fn (.func g) (R.caps.toArray.map a1.eval),args:=#[]}]}) (n:=fn.ntmps) (ds:=[{target:=.fn (.func g) (R.caps.toArray.map a1.eval),args:=#[]}])
        (fun i=>by
         have:=hi1.tmps i;have e0:(a1.tmps.toList.toArray++Array.replicate (fn.ntmps-a1.tmps.toList.toArray.size) undef)=a1.tmps:=by have hz:a1.tmps.size=fn.ntmps:=h3.size;apply OM;simp[hz]
         rw[e0]at this;exact this) h3.size rfl
       have hi3:=hi2.pure (dst:=some R.t5) (val:=.undef) (v:=.func (.func g) #[] (R.caps.toArray.map a1.eval)) (.undef _) (fun d e=>by cases e;exact hk5)
       have hi4:=hi3.weak (s':=St.abs ⟨gL (dq 0 as1) R.t5 .undef,S1⟩) (fun i=>by
        simp only[St.abs,fr,bz];by_cases e5:R.t5=i
        ·left;simp[e5]
        ·right;simp[e5]) rfl
       have hact:(({tmps:=a1.tmps,defers:=[{target:=.fn (.func g) (R.caps.toArray.map a1.eval),args:=#[]}]}:Act).put (some R.t5) (.func (.func g) #[] (R.caps.toArray.map a1.eval)))=
         ({(a1.put (some R.t5) (.func (.func g) #[] (R.caps.toArray.map a1.eval)))with defers:={target:=.fn (.func g) (R.caps.toArray.map a1.eval),args:=#[]}::(a1.put (some R.t5) (.func (.func g) #[] (R.caps.toArray.map a1.eval))).defers}:Act).put none undef:=by
        simp[Act.put,hdef0]
       show Code.wp P R.rest _ (({(a1.put (some R.t5) (.func (.func g) #[] (R.caps.toArray.map a1.eval)))with defers:={target:=.fn (.func g) (R.caps.toArray.map a1.eval),args:=#[]}::(a1.put (some R.t5) (.func (.func g) #[] (R.caps.toArray.map a1.eval))).defers}:Act).put none undef) Ω1.w;rw[<-hact];refine PU (gW hm hT hS _ ann R.rest _ _ _ ⟨dr L Ω1.e,Ω1.w,Ω1.pub⟩ h4 hdr.2 hi4) ?_;intro en a2 w2 hq;obtain⟨z,s2,Ω2,g1,rfl,g3,g4⟩:=hq;have hcv2:VL Ω2 caps (R.caps.map a1.eval):=by refine⟨hvc.1,fun j c v hc hv=>?_⟩;exact V.pinned g3.keep (NJ.1 hcp c (NW hc)) (hvc.2 j c v hc hv)
       have hcl':caps.length<=clo.ntmps:=by rw[hvc.1,Ox];exact hcl
       have hc6':caps.length<=R.t6:=by rw[hvc.1,Ox];exact hc6
       have close:∀(u u':FrameMode)(av:AV)(v:Value),u≠.run->settle u'=.returning->Rcv u av Ω2 v u'->As C annC clo R caps av s2 (J9 C fn.results.toList L s1 S1 S A s2.t)->
         Leaves P fn a2.tmps (fun en w'=>∃pub' e',match en with
          |.returned v=>(∀b pv u,A.pan=some (b,pv,u)->b=false)/\V ⟨e',w',pub'⟩ A.val v/\After w pub e (aj (cv S A.upd)) w' pub' e'
          |.panicked ch=>∃pv u v,A.pan=some (true,pv,u)/\ch=[{v,recovered:=false}]/\V ⟨e',w',pub'⟩ pv v/\After w pub e (aj (cv S u)) w' pub' e'
          |.outgrown=>False) [{target:=.fn (.func g) (R.caps.toArray.map a1.eval),args:=#[]}] u Ω2.w:=by
        intro u u' av v hu hse hrc hcr;refine leaves_cons (f:=g) (args:=(R.caps.map a1.eval).toArray) hu (by simp[invoke,eg]) ?_;refine(Df hm hT hS hRc hg hcb hk2 hres hcl' hc6' g3 hcv2 hrc hcr).mono ?_;rintro en u2 w3 ⟨rfl,rfl,s3,Ω3,a3,T3,rfl,hfin,h5⟩;simp only[hse,Leaves];obtain⟨v,r1,pub',e',r2,r3,r4⟩:=Gm hT h3 hdist hS1 hkS g3 h5 hpan hfin;exact⟨v,r1,pub',e',r2,r3,r4⟩
       have hds:a2.defers=[{target:=.fn (.func g) (R.caps.toArray.map a1.eval),args:=#[]}]:=g3.defers
       cases z with
       |normal=>cases g1;show Leaves P fn a2.tmps _ a2.defers .returning Ω2.w;rw[hds];exact close .returning .returning .nilif .nilIface (by simp) rfl (.ret Ω2) g4
       |ret=>cases g1;show Leaves P fn a2.tmps _ a2.defers .returning Ω2.w;rw[hds];exact close .returning .returning .nilif .nilIface (by simp) rfl (.ret Ω2) g4
       |exit id=>exact g4.elim
       |pan pv=>obtain⟨v,rfl,hv⟩:=g1;show Leaves P fn a2.tmps _ a2.defers (.panicking [{v,recovered:=false}]) Ω2.w;rw[hds];exact close _ (.panicking [{v,recovered:=true}]) pv v (by simp) (by simp[settle]) (.pan Ω2 pv v hv) g4
      ·exact h4.elim
     ·exact h4.elim
 ·exact h.elim
end
end Go.AL
end
noncomputable section
namespace Go.AL
variable [Tabs]
mutual
def fineV:AV->Bool
 |.lstp _ _ _=>false
 |.tptr _ _ _=>false
 |.gsuf _ _ _ _ _=>false
 |.cptr c=>fineV c
 |.agg cs=>fineVs cs
 |.tup cs=>fineVs cs
 |.fn _ cs=>fineVs cs
 |.iface _ a=>fineV a
 |_=>true
def fineVs:List AV->Bool
 |[]=>true
 |a::r=>fineV a&&fineVs r
end
def M0:SObj->Bool
 |.box c=>fineV c
 |.tailp _ _ _=>false
 |_=>true
mutual
def strip:AV->AV
 |.lst τ xs _=>.lst τ xs none
 |.agg cs=>.agg (strips cs)
 |.tup cs=>.tup (strips cs)
 |a=>a
def strips:List AV->List AV
 |[]=>[]
 |a::r=>strip a::strips r
end
theorem l8(τ:Ty)(xs:List (den τ)):fD τ τ xs=some xs:=by simp[fD]
theorem Dg(n:SN)(x:SD n):ly n n x=some x:=by simp[ly]
theorem Dh(n:SN)(x:Option (SD n)):qn n n x=some x:=by simp[qn]
theorem uh(a:AV):vM a a:=by cases a<;>trivial
mutual
theorem LeV_self(G:List Nat):∀a:AV,fineV a=true->LeV G a a
 |.undef,_=>bT (by simp[LeF])
 |.int k n,_=>bT (by simp[LeF])
 |.bool b,_=>bT (by simp[LeF])
 |.str s,_=>bT (by simp[LeF])
 |.lst τ xs o,_=>bT (by simp[LeF,l8])
 |.nils,_=>bT (by simp[LeF])
 |.ptr i o,_=>bT (by simp[LeF])
 |.nilp,_=>bT (by simp[LeF])
 |.pt n x,_=>bT (by simp[LeF,Dh])
 |.st n x,_=>bT (by simp[LeF,Dg])
 |.row τ xs,_=>bT (by simp[LeF,l8])
 |.arr i n w,_=>bT (by simp[LeF])
 |.aptr i n w o,_=>bT (by simp[LeF])
 |.map i,_=>bT (by simp[LeF])
 |.glst _ _ _,_=>bT (by simp[LeF])
 |.gptr _ _ _ _ _,_=>bT (by simp[LeF])
 |.gsuf _ _ _ _ _,h=>by simp[fineV]at h
 |.bptr i,_=>bT (by simp[LeF])
 |.nilif,_=>bT (by simp[LeF])
 |.nilm,_=>bT (by simp[LeF])
 |.cptr c,h=>by simp only[fineV]at h;unfold LeV;exact⟨uh c,LeV_self G c h⟩
 |.agg cs,h=>by simp only[fineV]at h;unfold LeV;exact LeL_self G cs h
 |.tup cs,h=>by simp only[fineV]at h;unfold LeV;exact LeL_self G cs h
 |.fn f cs,h=>by simp only[fineV]at h;unfold LeV;exact⟨by simp,LeL_self G cs h⟩
 |.iface t a,h=>by simp only[fineV]at h;unfold LeV;exact⟨by simp,LeV_self G a h⟩
 |.lstp _ _ _,h=>by cases h
 |.tptr _ _ _,h=>by cases h
theorem LeL_self(G:List Nat):∀l:List AV,fineVs l=true->LeL G l l
 |[],_=>by unfold LeL;trivial
 |a::r,h=>by simp only[fineVs,Nx]at h;unfold LeL;exact⟨LeV_self G a h.1,LeL_self G r h.2⟩
end
mutual
theorem LeV_strip(G:List Nat):∀a:AV,fineV a=true->LeV G a (strip a)
 |.lst τ xs o,_=>by unfold strip;exact bT (by simp[LeF,l8])
 |.agg cs,h=>by simp only[fineV]at h;unfold strip LeV;exact LeL_strip G cs h
 |.tup cs,h=>by simp only[fineV]at h;unfold strip LeV;exact LeL_strip G cs h
 |.undef,h=>LeV_self G _ h
 |.int k n,h=>LeV_self G _ h
 |.bool b,h=>LeV_self G _ h
 |.str s,h=>LeV_self G _ h
 |.nils,h=>LeV_self G _ h
 |.ptr i o,h=>LeV_self G _ h
 |.nilp,h=>LeV_self G _ h
 |.pt n x,h=>LeV_self G _ h
 |.st n x,h=>LeV_self G _ h
 |.row τ xs,h=>LeV_self G _ h
 |.arr i n w,h=>LeV_self G _ h
 |.aptr i n w o,h=>LeV_self G _ h
 |.map i,h=>LeV_self G _ h
 |.glst _ _ _,h=>LeV_self G _ h
 |.gptr _ _ _ _ _,h=>LeV_self G _ h
 |.gsuf _ _ _ _ _,h=>LeV_self G _ h
 |.bptr i,h=>LeV_self G _ h
 |.nilif,h=>LeV_self G _ h
 |.nilm,h=>LeV_self G _ h
 |.cptr c,h=>LeV_self G _ h
 |.fn f cs,h=>LeV_self G _ h
 |.iface t a,h=>LeV_self G _ h
 |.lstp _ _ _,h=>by cases h
 |.tptr _ _ _,h=>by cases h
theorem LeL_strip(G:List Nat):∀l:List AV,fineVs l=true->LeL G l (strips l)
 |[],_=>by unfold strips LeL;trivial
 |a::r,h=>by simp only[fineVs,Nx]at h;unfold strips LeL;exact⟨LeV_strip G a h.1,LeL_strip G r h.2⟩
end
theorem Au{G:List Nat}{s:St}:∀(l l':List AV)(k:Nat),LeL G l l'->(∀j,b5 s.t (k+j)=l.getD j .undef)->LeT G s (dq k l')
 |[],[],k,_,_=>trivial
 |a::r,b::r',k,h,hg=>by
  unfold LeL at h;refine⟨?_,Au r r' (k+1) h.2 fun j=>?_⟩
  ·have:=hg 0;rw[Ph]at this;rw[this];exact h.1
  ·have:=hg (j+1);rw[show k+1+j=k+(j+1) by omega,this];rfl
 |[],_::_,_,h,_=>by unfold LeL at h;exact h.elim
 |_::_,[],_,h,_=>by unfold LeL at h;exact h.elim
theorem kn{G:List Nat}{s:St}:∀l:List (Nat×SObj),(∀x∈l,aj s.b x.1=some x.2/\M0 x.2=true)->LeB G s l
 |[],_=>trivial
 |(i,.box c)::r,h=>by obtain⟨h1,h2⟩:=h _ (O7 ..);refine⟨?_,kn r fun x hx=>h x (NP _ hx)⟩;simp only at h1;rw[h1];exact⟨uh c,LeV_self G c h2⟩
 |(i,.tail τ n)::r,h=>by obtain⟨h1,h2⟩:=h _ (O7 ..);refine⟨?_,kn r fun x hx=>h x (NP _ hx)⟩;simp only at h1;rw[h1];simp
 |(i,.map κ τ m)::r,h=>by obtain⟨h1,h2⟩:=h _ (O7 ..);refine⟨?_,kn r fun x hx=>h x (NP _ hx)⟩;simp only at h1;rw[h1];simp[Er]
 |(i,.bld t u l)::r,h=>by obtain⟨h1,h2⟩:=h _ (O7 ..);refine⟨?_,kn r fun x hx=>h x (NP _ hx)⟩;simp only at h1;rw[h1];simp
 |(i,.tailp τ n x)::r,h=>by obtain⟨h1,h2⟩:=h _ (O7 ..);cases h2
 |(i,.grow τ n xs)::r,h=>by obtain⟨h1,h2⟩:=h _ (O7 ..);refine⟨?_,kn r fun x hx=>h x (NP _ hx)⟩;simp only at h1;rw[h1];simp[l8]
end Go.AL
end
noncomputable section
namespace Go.AL
def qV(S:List (Nat×SObj))(x:Nat×SObj):Bool:=match aj S x.1 with|some o=>eqO o x.2|none=>false
def Jb:List AV->AV
 |[a]=>a
 |l=>.tup l
def Jc(s:St)(l:List AV):List (Nat×SObj):=
 s.b.filter fun x=>bd x.1||(jS (aj s.b) 64 (ids.idsL l++(aO s.b).filter bd) []).contains x.1
def MB:Bool->List AV->List AV
 |true,l=>l
 |false,l=>strips l
def Jd(tok:Bool)(S:List (Nat×SObj))(s:St)(l:List AV):Option Ans:=
 evVs (MB tok l) fun l'=>evB (Jc s l') fun kept=>
  match fineVs l&&(kept.all (fun x=>M0 x.2))&&bn (aO s.b)&&(aO S).all (fun i=>(aO kept).contains i)&&
    (bU ((aO s.b).filter fun i=>!(aO kept).contains i) ⟨dq 0 l',kept⟩&&((aO s.b).filter fun i=>!(aO kept).contains i).all (fun i=>!bd i))with
  |true=>some ⟨none,none,Jb l',kept.filter fun x=>!qV S x⟩
  |false=>none
theorem rT:∀{l:List (Nat×SObj)},bn (aO l)=true->∀{i:Nat} {o:SObj},(i,o)∈l->aj l i=some o
 |[],_,_,_,h=>by cases h
 |(j,u)::r,hd,i,o,h=>by
  simp only[aO,O2,bn,Nx,NI,Ot,O6]at hd;rcases NG.1 h with e|e
  ·cases e;simp[b8,aI]
  ·have hne:¬j=i:=fun q=>hd.1 (O0.2 ⟨_,e,q.symm⟩);simp only[b8,aI,OE,hne,Ob];exact rT hd.2 e
theorem iK(p:Nat×SObj->Bool):∀{l:List (Nat×SObj)},bn (aO l)=true->bn (aO (l.filter p))=true
 |[],_=>rfl
 |x::r,hd=>by
  simp only[aO,O2,bn,Nx,NI,Ot,O6]at hd;have ih:=iK p hd.2;rw[List.filter_cons];split
  ·simp only[aO,O2,bn,Nx,NI,Ot,O6];refine⟨fun h=>hd.1 ?_,ih⟩;obtain⟨y,hy,e⟩:=O0.1 h;exact O0.2 ⟨y,(OH.1 hy).1,e⟩
  ·exact ih
variable [Tabs]
theorem Je{l:List (Nat×SObj)}{i:Nat}(h:aj l i=none):i∉aO l:=jZ l i h
theorem ui{l:List (Nat×SObj)}{i:Nat}(h:i∉aO l):aj l i=none:=by
 cases hb:aj l i with|none=>rfl|some o=>exact absurd (O0.2 ⟨(i,o),bX l i o hb,rfl⟩) h
theorem L6{S kept:List (Nat×SObj)}(hd:bn (aO kept)=true)(hS:∀i∈aO S,i∈aO kept):aj (cv S (kept.filter fun x=>!qV S x))=aj kept:=by
 funext i;have hdf:=iK (fun x=>!qV S x) hd;rw[qe _ S i hdf]
 cases hk:aj kept i with
 |some o=>
  have hm:=bX kept i o hk
  cases hs:qV S (i,o)with
  |false=>have:(i,o)∈kept.filter fun x=>!qV S x:=OH.2 ⟨hm,by rw[hs];rfl⟩;rw[rT hdf this];rfl
  |true=>
   have hn:aj (kept.filter fun x=>!qV S x) i=none:=by
    cases hb:aj (kept.filter fun x=>!qV S x) i with
    |none=>rfl
    |some o'=>have h1:=OH.1 (bX _ i o' hb);have h2:=rT hd h1.1;rw[hk]at h2;cases h2;have h3:=h1.2;rw[hs]at h3;cases h3
   rw[hn];unfold qV at hs;split at hs
   ·rename_i o' ho';simp only at ho' hs;rw[ho',HN hs];rfl
   ·cases hs
 |none=>
  have h1:i∉aO kept:=Je hk;rw[ui (l:=S) fun h=>h1 (hS i h),ui fun h=>h1 ?_]
  ·rfl
  ·obtain⟨y,hy,e⟩:=O0.1 h;exact O0.2 ⟨y,(OH.1 hy).1,e⟩
theorem uj{G:List Nat}:∀{l m:List AV},LeL G l m->l.length=m.length
 |[],[],_=>rfl
 |_::_,_::_,h=>by unfold LeL at h;rw[NL,NL,uj h.2]
 |[],_::_,h=>by unfold LeL at h;exact h.elim
 |_::_,[],h=>by unfold LeL at h;exact h.elim
theorem Gn{tok:Bool}{S:List (Nat×SObj)}{s:St}{l:List AV}{A:Ans}(h:Jd tok S s l=some A) :
  A.ob=none/\A.pan=none/\∃l' kept,A.val=Jb l'/\l'.length=l.length/\LeS ⟨dq 0 l,s.b⟩ ⟨dq 0 l',kept⟩/\aj (cv S A.upd)=aj kept:=by
 unfold Jd at h;rw[evVs_eq,xW]at h;split at h
 ·rename_i hc;cases h;simp only[Nx,NJ]at hc;obtain⟨⟨⟨⟨h1,h2⟩,h3⟩,h4⟩,h5,h6⟩:=hc;refine⟨rfl,rfl,MB tok l,Jc s (MB tok l),rfl,?_,⟨?_,?_,?_⟩,?_⟩
  ·cases tok with|true=>rfl|false=>exact(uj (LeL_strip [] l h1)).symm
  ·rw[NC]
   ·trivial
   ·rw[Nx,NJ];exact⟨h5,h6⟩
  ·refine Au l _ 0 ?_ fun j=>?_
   ·cases tok with|true=>exact LeL_self _ l h1|false=>exact LeL_strip _ l h1
   ·show b5 (dq 0 l) (0+j)=_;rw[gX];simp
  ·refine kn _ fun x hx=>⟨?_,h2 x hx⟩;exact rT h3 (OH.1 hx).1
  ·refine L6 (iK _ h3) fun i hi=>?_;have:=h4 i hi
   rwa [Ot,NA]at this
 ·cases h
structure FB where
 body:Code
 n:Nat
 res:List ResultVar
 keep:Nat
 pubs:List (Nat×List Nat)
 pend:Nat->Bool
 rows:Nat->Bool
 same:Nat->Bool
 tok:Bool
 ps:List (Option Ty)
def Jf:Option Ty->AV->AV
 |some (.st n),a=>(match arg (.st n) a with|some x=>.st n x|none=>a)
 |_,a=>a
def EX:List (Option Ty)->List AV->List AV
 |p::ps,a::r=>Jf p a::EX ps r
 |_,l=>l
def MC(C:Cfg)(N:Nat)(x:FB)(args:List AV)(S:List (Nat×SObj)):Option Ans:=
 evVs (EX x.ps args) fun args=>evB S fun S=>
  match n9 args x.n&&(aO S).all bd with
  |false=>none
  |true=>
   match km C x.keep x.pubs N x.body ⟨dq 0 args,S⟩with
   |some (.normal,s)=>(match lq C.tbl s x.res with|some l=>Jd x.tok S s l|none=>none)
   |some (.ret,s)=>(match lq C.tbl s x.res with|some l=>Jd x.tok S s l|none=>none)
   |_=>none
variable {P:Program} {C:Cfg}
theorem Jg(p:Option Ty)(a:AV):Rd a (Jf p a):=by
 unfold Jf;split
 ·split
  ·rename_i x hx;exact Rd.arg hx
  ·exact Rd.refl a
 ·exact Rd.refl a
theorem Av:∀(ps:List (Option Ty))(l:List AV),RdL l (EX ps l)
 |[],l=>RdL.refl l
 |p::ps,[]=>.nil
 |p::ps,a::r=>.cons (Jg p a) (Av ps r)
theorem runF_meets(hm:P.follows .mixedOrders=true)(hT:aZ P C.tbl)(hS:bM P C.spec){N:Nat}{x:FB}{f:Nat}{fn:Func}(hf:P.funcs[f]?=some fn)(hb:fn.body=some x.body)(hn:fn.ntmps=x.n)(hr:fn.results.toList=x.res)
 (hd:bG x.n x.body=true){args:List AV}{S:List (Nat×SObj)}{A:Ans}(h:MC C N x args S=some A):al P f args S A:=by
 refine al.args (Av x.ps args) ?_;intro w pub e vs hp ht hv hs hdom hinj;unfold MC at h;rw[evVs_eq,xW]at h;split at h
 ·cases h
 ·rename_i hck;simp only[Nx,NJ]at hck;obtain⟨hck2,hck3⟩:=hck;have hlen:=eV _ _ hck2
  have hlent:∀id c,e id=some c->bd id=true:=by
   intro id c hc
   cases hg:aj S id with
   |none=>rw[hdom id hg]at hc;cases hc
   |some o=>exact hck3 id (O0.2 ⟨(id,o),bX _ _ _ hg,rfl⟩)
  have hrun:∃z s',km C x.keep x.pubs N x.body ⟨dq 0 (EX x.ps args),S⟩=some (z,s')/\(match lq C.tbl s' x.res with|some l=>Jd x.tok S s' l|none=>none)=some A/\(z=.normal∨z=.ret):=by
   split at h
   ·rename_i s' hz;exact⟨_,s',hz,h,.inl rfl⟩
   ·rename_i s' hz;exact⟨_,s',hz,h,.inr rfl⟩
   ·cases h
  obtain⟨z,s',hz,he,hzz⟩:=hrun;refine calls_of_wp hf hb ?_;have hh:=jd (n:=fn.ntmps) hp ht hv (by rw[hn];exact hlen) hs hdom hinj hlent;rw[<-hn]at hd;refine PU (De (F:=⟨w,pub,fn.ntmps,e,hlent,[],ht⟩) hm hT hS _ _ N x.body _ z s' _ _ hz hd hh) ?_;intro en a' w' hq;obtain⟨z2,s2,Ω',h1,h2,h3,h4,h5⟩:=hq;subst h2 h4 h5
  have hmap:∀us,(fn.results.toList.mapM (pY a'.tmps)).run P Ω'.w=.ok us Ω'.w->
    (results fn a'.tmps).run P Ω'.w=.ok (if h:us.toArray.size=1 then us.toArray[0]else .tuple us.toArray) Ω'.w:=by
   intro us hus;rw[nM,<-Pk (xs:=fn.results),Qu];simp only[NX,Sem.run_map,hus,ND,Oh]
  have main:a'.defers=[]/\∃v,(results fn a'.tmps).run P Ω'.w=.ok v Ω'.w/\∃pub' e',(∀b pv u,A.pan=some (b,pv,u)->b=false)/\V ⟨e',Ω'.w,pub'⟩ A.val v/\After w pub e (aj (cv S A.upd)) Ω'.w pub' e':=by
   refine⟨h3.defers,?_⟩;split at he
   ·rename_i l hres;rw[<-hr]at hres;obtain⟨a1,a2,l',kept,a3,a4,a5,a6⟩:=Gn he;obtain⟨us,k1,k2⟩:=fX hT h3 _ _ hres;obtain⟨Ω2,e2,hh2⟩:=dA (s:=⟨dq 0 l,s2.b⟩) (h3.retmp k2) a5;rw[a3,a6];refine⟨_,hmap us k1,Ω2.pub,Ω2.e,fun b pv u q=>(by rw[a2]at q;cases q),?_,by rw[<-e2];exact fF hh2⟩
    have hval:∀(j:Nat) c v,l'[j]?=some c->us[j]?=some v->V ⟨Ω2.e,Ω'.w,Ω2.pub⟩ c v:=fun j c v hc hv=>by
     have:=hh2.tmps j;simp only[St.abs,gX,NU,Ov,Qb,NB,hc,Oq]at this;have e3:(us.toArray++Array.replicate 0 undef).getD j undef=v:=by simp[NS,hv]
     rw[e3]at this;rw[<-e2];exact this
    have hlu:l'.length=us.length:=a4.trans k2.1;by_cases h1':us.toArray.size=1
    ·rw[dif_pos h1'];obtain⟨u,rfl⟩:=je (l:=us) (by simpa using h1');obtain⟨c,rfl⟩:=je (l:=l') (by rw[hlu];rfl);exact hval 0 c u rfl rfl
    ·rw[dif_neg h1']
     have:Jb l'=.tup l':=by
      match l',hlu with
      |[],_=>rfl
      |[c],q=>exact absurd (by simpa using q.symm) h1'
      |_::_::_,_=>rfl
     rw[this];exact .tup l' us hlu hval
   ·cases he
  rcases hzz with rfl|rfl
  ·cases h1;exact main
  ·cases h1;exact main
def EY:List (Nat×FB)->Nat->Option FB
 |[],_=>none
 |(j,x)::r,f=>if Nat.beq j f=true then some x else EY r f
def aV(tbl:List (Nat×TR))(fn:Func)(keep:Nat)(pubs:List (Nat×List Nat))(pend rows same:Nat->Bool)(tok:Bool):FB:=
 ⟨fn.body.getD .skip,fn.ntmps,fn.results.toList,keep,pubs,pend,rows,same,tok,fn.params.toList.map fun t=>(aD tbl t).bind (·.ty)⟩
def fbok(fn:Func):Bool:=match fn.body with | none=>false | some c=>bG fn.ntmps c && !(fn.name == "runtime.NumGoroutine")
def au(P:Program)(tab:List (Nat×FB)):Prop:=∀f x,EY tab f=some x->
 ∃fn,P.funcs[f]?=some fn/\fn.body=some x.body/\fn.ntmps=x.n/\fn.results.toList=x.res/\bG x.n x.body=true/\(fn.name == "runtime.NumGoroutine")=false
theorem au.nil:au P []:=fun f x h=>by cases h
theorem au.cons{tbl:List (Nat×TR)}{f:Nat}{fn:Func}{keep:Nat}{pubs:List (Nat×List Nat)}{pend rows same:Nat->Bool}{tok:Bool}{tab:List (Nat×FB)}(hf:P.funcs[f]?=some fn)(hc:fbok fn=true)(ht:au P tab) :
  au P ((f,aV tbl fn keep pubs pend rows same tok)::tab):=by
 intro g x h;unfold EY at h;split at h
 ·rename_i hb;obtain rfl:=NV hb;cases h;unfold fbok at hc;split at hc
  ·cases hc
  ·rename_i c hb';simp only[Nx,NI]at hc;exact⟨fn,hf,by simp[aV,hb'],rfl,rfl,by simpa[aV,hb']using hc.1,hc.2⟩
 ·exact ht g x h
def vk(tbl:List (Nat×TR))(tab:List (Nat×FB))(keeps:Nat->Bool)(lends:Nat->List (Option Nat))(N:Nat)(base:Nat->List AV->List (Nat×SObj)->Option Ans) :
  Nat->Nat->List AV->List (Nat×SObj)->Option Ans
 |0,f,us,S=>base f us S
 |n+1,f,us,S=>
  match base f us S with
  |some A=>some A
  |none=>
  match EY tab f with
  |none=>none
  |some x=>MC ⟨tbl,vk tbl tab keeps lends N base n,keeps,lends,x.pend,x.rows,x.same⟩ N x us S
theorem EZ{tbl:List (Nat×TR)}{tab:List (Nat×FB)}{keeps:Nat->Bool}{lends:Nat->List (Option Nat)}{N:Nat}{base:Nat->List AV->List (Nat×SObj)->Option Ans}
 (hm:P.follows .mixedOrders=true)(hT:aZ P tbl)(hB:bM P base)(ht:au P tab):∀n:Nat,bM P (vk tbl tab keeps lends N base n)
 |0=>hB
 |n+1=>by
  intro f args S A h ho hl;unfold vk at h;split at h
  ·rename_i A' hb;cases h;exact hB f args S A hb ho hl
  split at h
  ·cases h
  ·rename_i x hx;obtain⟨fn,h1,h2,h3,h4,h5,h6⟩:=ht f x hx;exact⟨⟨fn,h1,by rw[h2];rfl,h6⟩,runF_meets hm hT (EZ hm hT hB ht n) h1 h2 h3 h4 h5 h⟩
theorem iZ{tbl:List (Nat×TR)}{tab:List (Nat×FB)}{keeps:Nat->Bool}{lends:Nat->List (Option Nat)}{N n f:Nat}{base:Nat->List AV->List (Nat×SObj)->Option Ans}{args:List AV}{v:AV}{u:List (Nat×SObj)}
 (hm:P.follows .mixedOrders=true)(hT:aZ P tbl)(hB:bM P base)(ht:au P tab)(h:vk tbl tab keeps lends N base n f args []=some ⟨none,none,v,u⟩):al P f args [] ⟨none,none,v,u⟩:=
 (EZ hm hT hB ht n f args [] _ h (fun _ q=>by cases q) rfl).2
def tested(b:List AV->List (Nat×SObj)->Bool)(g:Pat):Pat:=fun args S=>match b args S,g args S with|true,some A=>some {A with ob:=none}|_,_=>none
theorem ah.tested{f:Nat}{g:Pat}{b:List AV->List (Nat×SObj)->Bool}(h:ah P f g)(hb:∀args S A q,b args S=true->g args S=some A->A.ob=some q->q):ah P f (tested b g):=by
 intro args S A hA ho hl;unfold AL.tested at hA;split at hA
 ·rename_i A' hbt hg;cases hA;exact h args S A' hg (fun q hq=>hb args S A' q hbt hg hq) hl
 ·cases hA
end Go.AL
end
noncomputable section
namespace Go.AL
variable [Tabs] {P:Program}
def q1(τ:Ty)(b:den τ->Bool)(F:den τ->AV):Pat
 |[a],[]=>(match arg τ a with|some x=>(match b x with|true=>some (.ret (F x))|false=>none)|none=>none)
 |_,_=>none
theorem Nk{f:Nat}{τ:Ty}{b:den τ->Bool}{F:den τ->AV}{O:den τ->Prop}(h:ah P f (p1 τ fun x=>⟨some (O x),none,F x,[]⟩))(hb:∀x,b x=true->O x):ah P f (q1 τ b F):=by
 intro args S A hA ho hl;unfold q1 at hA;split at hA
 ·rename_i a;split at hA
  ·rename_i x hx;split at hA
   ·rename_i ht;cases hA;have k:=h [a] [] ⟨some (O x),none,F x,[]⟩ (by simp[p1,hx]) (fun q hq=>by cases hq;exact hb x ht) hl;exact⟨k.1,k.2⟩
   ·cases hA
  ·cases hA
 ·cases hA
def q2(τ σ:Ty)(b:den τ->den σ->Bool)(F:den τ->den σ->AV):Pat
 |[a,c],[]=>(match arg τ a,arg σ c with|some x,some y=>(match b x y with|true=>some (.ret (F x y))|false=>none)|_,_=>none)
 |_,_=>none
theorem F0{f:Nat}{τ σ:Ty}{b:den τ->den σ->Bool}{F:den τ->den σ->AV}{O:den τ->den σ->Prop}(h:ah P f (p2 τ σ fun x y=>⟨some (O x y),none,F x y,[]⟩))(hb:∀x y,b x y=true->O x y):ah P f (q2 τ σ b F):=by
 intro args S A hA ho hl;unfold q2 at hA;split at hA
 ·rename_i a c;split at hA
  ·rename_i x y hx hy;split at hA
   ·rename_i ht;cases hA;have k:=h [a,c] [] ⟨some (O x y),none,F x y,[]⟩ (by simp[p2,hx,hy]) (fun q hq=>by cases hq;exact hb x y ht) hl;exact⟨k.1,k.2⟩
   ·cases hA
  ·cases hA
 ·cases hA
def wx(as0:List AV)(v:AV):Pat:=fun args S=>match eqVs as0 args,S with|true,[]=>some (.ret v)|_,_=>none
theorem rU{f:Nat}{as0:List AV}{v:AV}(he:Enters P f)(h:al P f as0 [] (.ret v)):ah P f (wx as0 v):=by
 intro args S A hA ho hl;unfold wx at hA;split at hA
 ·rename_i heq;cases hA;rw[<-eqVs_ok _ _ heq];exact⟨he,h⟩
 ·cases hA
def t1(τ:Ty)(b:den τ->Bool):List AV->List (Nat×SObj)->Bool
 |[a],_=>(match arg τ a with|some x=>b x|none=>false)
 |_,_=>false
end Go.AL
end
section
open Go Go.AL Go.Proofs
namespace Go.AL.Seat
variable [Tabs]
def r1:TR:=⟨.other,1,8,[.undef],none⟩
def r2:TR:=⟨.int .i64,1,8,[.int .i64 0],some (.int .i64)⟩
def r5:TR:=⟨.int .u8,1,1,[.int .u8 0],some (.int .u8)⟩
def r7:TR:=⟨.strct true [(0,2),(1,3),(2,4),(3,6)],4,24,[.int .i64 0,.int .i64 0,.bool false,.int .u8 0],none⟩
def r9:TR:=⟨.str,1,16,[.str []],some .str⟩
def r12:TR:=⟨.int .u64,1,8,[.int .u64 0],some (.int .u64)⟩
def r13:TR:=⟨.strct false [(0,9),(1,12)],2,24,[.str [],.int .u64 0],none⟩
def r18:TR:=⟨.strct false [(0,17)],1,8,[.nilp],none⟩
def r20:TR:=⟨.iface,1,16,[.nilif],none⟩
def r21:TR:=⟨.int .i32,1,4,[.int .i32 0],some (.int .i32)⟩
def r75:TR:=⟨.strct false [(0,74)],4,88,[.str [],.nils,.nils,.nils],none⟩
def r78:TR:=⟨.strct false [(0,76),(4,77)],5,96,[.str [],.nils,.nils,.nils,.nilm],none⟩
def r96:TR:=⟨.strct true [(0,9),(1,9)],2,32,[.str [],.str []],none⟩
def r97:TR:=⟨.strct true [(0,9),(1,9)],2,32,[.str [],.str []],some (.st .nm)⟩
def r99:TR:=⟨.map 97 3,1,8,[.nilm],none⟩
def Gp:TR:=⟨.strct false [(0,139),(1,3),(2,34)],4,48,[.nils,.int .i64 0,.int .i64 0,.int .i64 0],none⟩
def L7:TR:=⟨.strct false [(0,144),(4,26)],9,144,[.nils,.int .i64 0,.int .i64 0,.int .i64 0,.str [],.nils,.nils,.nils,.int .i64 0],none⟩
def L8:TR:=⟨.strct false [],0,0,[],none⟩
def L9:TR:=⟨.strct true [(0,9),(1,3)],2,24,[.str [],.int .i64 0],none⟩
def La:TR:=⟨.strct false [(0,196),(2,139),(3,34)],5,64,[.str [],.int .i64 0,.nils,.int .i64 0,.int .i64 0],none⟩
def r225:TR:=⟨.strct false [(0,224)],1,8,[.nilm],none⟩
def Lb:TR:=⟨.strct true [(0,3),(1,3),(2,3),(3,3)],4,32,[.int .i64 0,.int .i64 0,.int .i64 0,.int .i64 0],none⟩
def r326:TR:=⟨.strct true [(0,5),(1,5)],2,2,[.int .u8 0,.int .u8 0],none⟩
def r350:TR:=⟨.strct false [(0,9),(1,9),(2,285)],3,48,[.str [],.str [],.nilif],none⟩
def r354:TR:=⟨.strct false [(0,353)],1,8,[.undef],none⟩
def r362:TR:=⟨.strct true [(0,9)],1,16,[.str []],none⟩
def r375:TR:=⟨.strct false [(0,17),(1,17),(2,17),(3,9)],4,40,[.nilp,.nilp,.nilp,.str []],none⟩
def r386:TR:=⟨.strct false [(0,12),(1,12),(2,187),(3,381),(4,5),(5,5),(6,382),(7,383),(8,360),(9,384),(10,385)],11,48,[.int .u64 0,.int .u64 0,.int .u32 0,.int .u8 0,.int .u8 0,.int .u8 0,.int .u8 0,.undef,.nilp,.int .i32 0,.int .i32 0],none⟩
def tbl:List (Nat×TR):=[(1,r1),
 (2,r2),
 (3,r2),
 (4,⟨.bool,1,1,[.bool false],some .bool⟩),
 (5,r5),
 (6,r5),
 (7,r7),
 (8,r7),
 (9,r9),
 (10,r9),
 (11,r9),
 (12,r12),
 (13,r13),
 (14,r13),
 (15,⟨.ptr 376,1,8,[.nilp],none⟩),
 (16,⟨.ptr 379,1,8,[.nilp],none⟩),
 (17,⟨.ptr 387,1,8,[.nilp],none⟩),
 (18,r18),
 (19,r18),
 (20,r20),
 (21,r21),
 (22,⟨.slice 41,1,24,[.nils],some (.lst (.st .imp))⟩),
 (23,⟨.slice 65,1,24,[.nils],some (.lst (.st .decl))⟩),
 (24,⟨.slice 9,1,24,[.nils],some (.lst .str)⟩),
 (25,⟨.strct false [(0,9),(1,22),(2,23),(3,24),(4,3)],5,96,[.str [],.nils,.nils,.nils,.int .i64 0],none⟩),
 (26,⟨.strct false [(0,9),(1,22),(2,23),(3,24),(4,3)],5,96,[.str [],.nils,.nils,.nils,.int .i64 0],some (.st .modu)⟩),
 (27,⟨.slice 43,1,24,[.nils],some (.lst (.st .dep))⟩),
 (28,r1),
 (29,r1),
 (30,r1),
 (31,⟨.slice 49,1,24,[.nils],some (.lst (.st .item))⟩),
 (32,r2),
 (33,⟨.strct true [(0,32),(1,3)],2,16,[.int .i64 0,.int .i64 0],none⟩),
 (34,⟨.strct true [(0,32),(1,3)],2,16,[.int .i64 0,.int .i64 0],some (.st .fault)⟩),
 (36,r1),
 (37,⟨.strct true [(0,3),(1,3),(2,3),(3,9)],4,40,[.int .i64 0,.int .i64 0,.int .i64 0,.str []],none⟩),
 (38,⟨.strct true [(0,3),(1,3),(2,3),(3,9)],4,40,[.int .i64 0,.int .i64 0,.int .i64 0,.str []],some (.st .version)⟩),
 (39,⟨.slice 59,1,24,[.nils],some (.lst (.st .bound))⟩),
 (40,⟨.strct false [(0,9),(1,38),(5,39),(6,3)],7,88,[.str [],.int .i64 0,.int .i64 0,.int .i64 0,.str [],.nils,.int .i64 0],none⟩),
 (41,⟨.strct false [(0,9),(1,38),(5,39),(6,3)],7,88,[.str [],.int .i64 0,.int .i64 0,.int .i64 0,.str [],.nils,.int .i64 0],some (.st .imp)⟩),
 (42,⟨.strct false [(0,9),(1,31)],2,40,[.str [],.nils],none⟩),
 (43,⟨.strct false [(0,9),(1,31)],2,40,[.str [],.nils],some (.st .dep)⟩),
 (44,r1),
 (45,⟨.slice 47,1,24,[.nils],some (.lst (.st .shape))⟩),
 (46,⟨.strct false [(0,3),(1,9),(2,9),(3,24),(4,45)],5,88,[.int .i64 0,.str [],.str [],.nils,.nils],none⟩),
 (47,⟨.strct false [(0,3),(1,9),(2,9),(3,24),(4,45)],5,88,[.int .i64 0,.str [],.str [],.nils,.nils],some (.st .shape)⟩),
 (48,⟨.strct false [(0,3),(1,9),(2,47)],7,112,[.int .i64 0,.str [],.int .i64 0,.str [],.str [],.nils,.nils],none⟩),
 (49,⟨.strct false [(0,3),(1,9),(2,47)],7,112,[.int .i64 0,.str [],.int .i64 0,.str [],.str [],.nils,.nils],some (.st .item)⟩),
 (50,r1),
 (51,r1),
 (52,r1),
 (53,⟨.slice 26,1,24,[.nils],some (.lst (.st .modu))⟩),
 (54,⟨.slice 97,1,24,[.nils],some (.lst (.st .nm))⟩),
 (55,r1),
 (56,r1),
 (57,r1),
 (58,⟨.strct true [(0,3),(1,38)],5,48,[.int .i64 0,.int .i64 0,.int .i64 0,.int .i64 0,.str []],none⟩),
 (59,⟨.strct true [(0,3),(1,38)],5,48,[.int .i64 0,.int .i64 0,.int .i64 0,.int .i64 0,.str []],some (.st .bound)⟩),
 (60,r1),
 (61,⟨.slice 63,1,24,[.nils],some (.lst (.st .term))⟩),
 (62,⟨.strct false [(0,3),(1,9),(2,9),(3,3),(4,24),(5,24),(6,45),(7,61),(8,3)],9,152,[.int .i64 0,.str [],.str [],.int .i64 0,.nils,.nils,.nils,.nils,.int .i64 0],none⟩),
 (63,⟨.strct false [(0,3),(1,9),(2,9),(3,3),(4,24),(5,24),(6,45),(7,61),(8,3)],9,152,[.int .i64 0,.str [],.str [],.int .i64 0,.nils,.nils,.nils,.nils,.int .i64 0],some (.st .term)⟩),
 (64,⟨.strct false [(0,3),(1,9),(2,47),(7,63),(16,3)],17,272,[.int .i64 0,.str [],.int .i64 0,.str [],.str [],.nils,.nils,.int .i64 0,.str [],.str [],.int .i64 0,.nils,.nils,.nils,.nils,.int .i64 0,.int .i64 0],none⟩),
 (65,⟨.strct false [(0,3),(1,9),(2,47),(7,63),(16,3)],17,272,[.int .i64 0,.str [],.int .i64 0,.str [],.str [],.nils,.nils,.int .i64 0,.str [],.str [],.int .i64 0,.nils,.nils,.nils,.nils,.int .i64 0,.int .i64 0],some (.st .decl)⟩),
 (66,r1),
 (68,r1),
 (69,r1),
 (70,⟨.ptr 79,1,8,[.nilp],none⟩),
 (71,⟨.slice 121,1,24,[.nils],some (.lst (.st .bind))⟩),
 (72,r1),
 (73,⟨.strct false [(0,9),(1,71),(2,71),(3,71)],4,88,[.str [],.nils,.nils,.nils],none⟩),
 (74,⟨.strct false [(0,9),(1,71),(2,71),(3,71)],4,88,[.str [],.nils,.nils,.nils],some (.st .env)⟩),
 (75,r75),
 (76,r75),
 (77,⟨.map 9 49,1,8,[.nilm],none⟩),
 (78,r78),
 (79,r78),
 (80,r1),
 (81,r1),
 (83,r1),
 (84,r1),
 (85,r1),
 (86,r1),
 (87,r1),
 (88,r1),
 (90,r1),
 (91,⟨.slice 94,1,24,[.nils],some (.lst (.st .change))⟩),
 (92,r1),
 (93,⟨.strct true [(0,3),(1,9)],2,24,[.int .i64 0,.str []],none⟩),
 (94,⟨.strct true [(0,3),(1,9)],2,24,[.int .i64 0,.str []],some (.st .change)⟩),
 (95,r1),
 (96,r96),
 (97,r97),
 (98,r1),
 (99,r99),
 (100,r99),
 (101,r1),
 (102,r1),
 (103,r1),
 (104,r1),
 (105,r1),
 (106,r1),
 (107,r1),
 (108,r1),
 (109,r1),
 (110,r1),
 (111,r1),
 (112,r1),
 (113,r1),
 (114,r1),
 (115,r1),
 (116,r1),
 (117,r1),
 (118,r1),
 (119,r1),
 (120,⟨.strct false [(0,9),(1,9),(2,47)],7,120,[.str [],.str [],.int .i64 0,.str [],.str [],.nils,.nils],none⟩),
 (121,⟨.strct false [(0,9),(1,9),(2,47)],7,120,[.str [],.str [],.int .i64 0,.str [],.str [],.nils,.nils],some (.st .bind)⟩),
 (122,r1),
 (123,r1),
 (124,r1),
 (125,r1),
 (126,r1),
 (128,r1),
 (130,r1),
 (132,r1),
 (133,r1),
 (134,r1),
 (135,r1),
 (136,r12),
 (138,r1),
 (139,⟨.slice 149,1,24,[.nils],some (.lst (.st .token))⟩),
 (141,r1),
 (142,⟨.ptr 146,1,8,[.nilp],none⟩),
 (143,Gp),
 (144,Gp),
 (145,L7),
 (146,L7),
 (147,r1),
 (148,⟨.strct true [(0,3),(1,9),(2,3)],3,32,[.int .i64 0,.str [],.int .i64 0],none⟩),
 (149,⟨.strct true [(0,3),(1,9),(2,3)],3,32,[.int .i64 0,.str [],.int .i64 0],some (.st .token)⟩),
 (150,r1),
 (151,r1),
 (152,r1),
 (153,r1),
 (154,r1),
 (155,⟨.slice 3,1,24,[.nils],some (.lst (.int .i64))⟩),
 (156,r1),
 (157,r1),
 (158,r1),
 (159,r1),
 (160,r1),
 (161,r1),
 (162,r1),
 (163,r1),
 (164,r1),
 (165,r1),
 (166,r1),
 (167,r1),
 (168,r1),
 (169,r1),
 (170,r1),
 (171,⟨.ptr 76,1,8,[.nilp],none⟩),
 (172,r1),
 (174,r1),
 (175,⟨.ptr 226,1,8,[.nilp],none⟩),
 (176,r1),
 (177,r1),
 (178,r1),
 (179,r2),
 (181,r1),
 (182,r1),
 (183,r1),
 (185,r1),
 (186,r1),
 (187,⟨.int .u32,1,4,[.int .u32 0],some (.int .u32)⟩),
 (188,r1),
 (189,r12),
 (190,L8),
 (191,L8),
 (193,r1),
 (194,⟨.ptr 198,1,8,[.nilp],none⟩),
 (195,L9),
 (196,L9),
 (197,La),
 (198,La),
 (199,r1),
 (200,r1),
 (201,r1),
 (202,⟨.ptr 144,1,8,[.nilp],none⟩),
 (203,r1),
 (204,r1),
 (205,r1),
 (206,r1),
 (207,r1),
 (209,r1),
 (211,r1),
 (212,r1),
 (213,r1),
 (214,r1),
 (215,r1),
 (216,r1),
 (218,r1),
 (219,r1),
 (220,r1),
 (221,r1),
 (222,r96),
 (223,r97),
 (224,⟨.map 223 47,1,8,[.nilm],none⟩),
 (225,r225),
 (226,r225),
 (227,r1),
 (228,r12),
 (229,r1),
 (230,r1),
 (231,r1),
 (232,⟨.ptr 3,1,8,[.nilp],none⟩),
 (233,r1),
 (234,⟨.ptr 196,1,8,[.nilp],none⟩),
 (236,r1),
 (237,r1),
 (238,r1),
 (239,r1),
 (241,r1),
 (243,r1),
 (244,r1),
 (245,r1),
 (246,r1),
 (247,⟨.map 9 3,1,8,[.nilm],none⟩),
 (248,⟨.ptr 253,1,8,[.nilp],none⟩),
 (249,r1),
 (250,Gp),
 (251,⟨.strct false [(0,139),(1,3),(2,34)],4,48,[.nils,.int .i64 0,.int .i64 0,.int .i64 0],some (.st .par)⟩),
 (252,⟨.strct false [(0,251)],4,48,[.nils,.int .i64 0,.int .i64 0,.int .i64 0],none⟩),
 (253,⟨.strct false [(0,251)],4,48,[.nils,.int .i64 0,.int .i64 0,.int .i64 0],some (.st .par)⟩),
 (254,r1),
 (255,r1),
 (256,r1),
 (257,r1),
 (258,r1),
 (259,r1),
 (260,r1),
 (261,r1),
 (262,r1),
 (263,r1),
 (264,r1),
 (265,r1),
 (266,r1),
 (267,r1),
 (268,r1),
 (269,r1),
 (270,⟨.ptr 228,1,8,[.nilp],none⟩),
 (271,r1),
 (273,r1),
 (274,r1),
 (278,r1),
 (279,r1),
 (280,⟨.ptr 276,1,8,[.nilp],none⟩),
 (282,r1),
 (283,⟨.arr 3 3,3,24,[.int .i64 0,.int .i64 0,.int .i64 0],none⟩),
 (284,r20),
 (285,r20),
 (287,r1),
 (288,⟨.slice 5,1,24,[.nils],some (.lst (.int .u8))⟩),
 (289,r1),
 (290,r1),
 (291,r1),
 (292,⟨.ptr 251,1,8,[.nilp],none⟩),
 (293,r1),
 (294,r1),
 (295,r1),
 (296,r1),
 (297,r1),
 (298,r1),
 (299,Lb),
 (300,Lb),
 (301,r1),
 (302,r1),
 (303,r1),
 (304,r1),
 (305,r1),
 (306,r1),
 (307,r1),
 (308,r1),
 (310,r1),
 (311,r1),
 (312,r1),
 (313,r1),
 (314,r1),
 (315,r1),
 (316,r1),
 (317,r1),
 (318,r1),
 (319,r1),
 (320,r1),
 (321,r1),
 (322,r1),
 (323,r1),
 (324,r1),
 (326,r326),
 (327,r326),
 (329,r1),
 (330,r2),
 (332,r1),
 (333,⟨.ptr 351,1,8,[.nilp],none⟩),
 (334,r1),
 (335,r1),
 (336,r1),
 (338,r1),
 (339,r1),
 (340,r1),
 (341,r1),
 (342,⟨.ptr 355,1,8,[.nilp],none⟩),
 (343,r1),
 (344,r1),
 (345,r1),
 (346,r1),
 (348,r1),
 (349,r1),
 (350,r350),
 (351,r350),
 (352,r1),
 (353,r1),
 (354,r354),
 (355,r354),
 (356,⟨.ptr 47,1,8,[.nilp],none⟩),
 (357,r1),
 (358,r1),
 (359,r1),
 (360,⟨.ptr 5,1,8,[.nilp],none⟩),
 (361,⟨.ptr 363,1,8,[.nilp],none⟩),
 (362,r362),
 (363,r362),
 (364,r1),
 (366,r1),
 (368,r1),
 (369,r1),
 (374,r1),
 (375,r375),
 (376,r375),
 (380,r1),
 (381,r5),
 (382,r5),
 (383,r1),
 (384,r21),
 (385,r21),
 (386,r386),
 (387,r386)]
theorem tk{t:Nat}{r:TR}(h1:(Tryz.prog.info? t).map (fun i=>(i.size,i.bytes,i.zero.map fun z=>z.cells.toList.map cr))=some (r.size,r.bytes,some r.zero):=by kernel_rfl)
 (h2:(Tryz.prog.underlying t).map (aF Tryz.prog r.ti)=some true:=by kernel_rfl)
 (h3:(gm r.zero r.size&&(Nat.beq r.size 0||Nat.blt 0 r.bytes)&&(match r.ty with | some τ=>Nat.beq (ab τ) r.size&&(Kq τ ==r.isAgg) | none=>true))=true:=by kernel_rfl)
 (h8:(Tryz.prog.info? t).map (fun i=>i.zero.map fun z=>C8 z ==r.isAgg)=some (some true):=by kernel_rfl)
 (h9:(match r.ti with|.strct true _=>!Tryz.prog.stoodInHeld t&&!Tryz.prog.eqGuardType Tryz.prog.depth t|_=>true)=true:=by kernel_rfl):TRok Tryz.prog t r:=TRok.mk' h1 h2 h3 h8 h9
theorem uk:aZ Tryz.prog tbl:=
 .cons tk (.cons tk (.cons tk (.cons tk (.cons tk (.cons tk (.cons tk (.cons tk (.cons tk (.cons tk (.cons tk (.cons tk (.cons tk (.cons tk (.cons tk (.cons tk (.cons tk (.cons tk (.cons tk (.cons tk (.cons tk (.cons tk (.cons tk (.cons tk (.cons tk (.cons tk (.cons tk (.cons tk (.cons tk (.cons tk (.cons tk (.cons tk (.cons tk (.cons tk (.cons tk (.cons tk (.cons tk (.cons tk (.cons tk (.cons tk (.cons tk (.cons tk (.cons tk (.cons tk (.cons tk (.cons tk (.cons tk (.cons tk (.cons tk (.cons tk (.cons tk (.cons tk (.cons tk (.cons tk (.cons tk (.cons tk (.cons tk (.cons tk (.cons tk (.cons tk (.cons tk (.cons tk (.cons tk (.cons tk (.cons tk (.cons tk (.cons tk (.cons tk (.cons tk (.cons tk (.cons tk (.cons tk (.cons tk (.cons tk (.cons tk (.cons tk (.cons tk (.cons tk (.cons tk (.cons tk (.cons tk (.cons tk (.cons tk (.cons tk (.cons tk (.cons tk (.cons tk (.cons tk (.cons tk (.cons tk (.cons tk (.cons tk (.cons tk (.cons tk (.cons tk (.cons tk (.cons tk (.cons tk (.cons tk (.cons tk (.cons tk (.cons tk (.cons tk (.cons tk (.cons tk (.cons tk (.cons tk (.cons tk (.cons tk (.cons tk (.cons tk (.cons tk (.cons tk (.cons tk (.cons tk (.cons tk (.cons tk (.cons tk (.cons tk (.cons tk (.cons tk (.cons tk (.cons tk (.cons tk (.cons tk (.cons tk (.cons tk (.cons tk (.cons tk (.cons tk (.cons tk (.cons tk (.cons tk (.cons tk (.cons tk (.cons tk (.cons tk (.cons tk (.cons tk (.cons tk (.cons tk (.cons tk (.cons tk (.cons tk (.cons tk (.cons tk (.cons tk (.cons tk (.cons tk (.cons tk (.cons tk (.cons tk (.cons tk (.cons tk (.cons tk (.cons tk (.cons tk (.cons tk (.cons tk (.cons tk (.cons tk (.cons tk (.cons tk (.cons tk (.cons tk (.cons tk (.cons tk (.cons tk (.cons tk (.cons tk (.cons tk (.cons tk (.cons tk (.cons tk (.cons tk (.cons tk (.cons tk (.cons tk (.cons tk (.cons tk (.cons tk (.cons tk (.cons tk (.cons tk (.cons tk (.cons tk (.cons tk (.cons tk (.cons tk (.cons tk (.cons tk (.cons tk (.cons tk (.cons tk (.cons tk (.cons tk (.cons tk (.cons tk (.cons tk (.cons tk (.cons tk (.cons tk (.cons tk (.cons tk (.cons tk (.cons tk (.cons tk (.cons tk (.cons tk (.cons tk (.cons tk (.cons tk (.cons tk (.cons tk (.cons tk (.cons tk (.cons tk (.cons tk (.cons tk (.cons tk (.cons tk (.cons tk (.cons tk (.cons tk (.cons tk (.cons tk (.cons tk (.cons tk (.cons tk (.cons tk (.cons tk (.cons tk (.cons tk (.cons tk (.cons tk (.cons tk (.cons tk (.cons tk (.cons tk (.cons tk (.cons tk (.cons tk (.cons tk (.cons tk (.cons tk (.cons tk (.cons tk (.cons tk (.cons tk (.cons tk (.cons tk (.cons tk (.cons tk (.cons tk (.cons tk (.cons tk (.cons tk (.cons tk (.cons tk (.cons tk (.cons tk (.cons tk (.cons tk (.cons tk (.cons tk (.cons tk (.cons tk (.cons tk (.cons tk (.cons tk (.cons tk (.cons tk (.cons tk (.cons tk (.cons tk (.cons tk (.cons tk (.cons tk (.cons tk (.cons tk (.cons tk (.cons tk (.cons tk (.cons tk (.cons tk (.cons tk (.cons tk (.cons tk (.cons tk (.cons tk (.cons tk (.cons tk (.cons tk (.cons tk (.cons tk (.cons tk (.cons tk (.cons tk (.cons tk (.cons tk (.cons tk (.cons tk (.cons tk (.cons tk (.cons tk (.cons tk (.cons tk (.cons tk (.cons tk (.cons tk (.cons tk (.cons tk (.cons tk (.cons tk (.cons tk (.cons tk (.cons tk (.cons tk (.cons tk (.cons tk (.cons tk (.cons tk (.cons tk (.cons tk (.cons tk (.cons tk (.cons tk (.cons tk (.cons tk (.cons tk (.cons tk (.cons tk (.cons tk (.cons tk (.cons tk (.cons tk (.cons tk (.cons tk (.cons tk (.cons tk (.cons tk (.cons tk (.cons tk (.cons tk (.cons tk (.cons tk (.cons tk (.nil)))))))))))))))))))))))))))))))))))))))))))))))))))))))))))))))))))))))))))))))))))))))))))))))))))))))))))))))))))))))))))))))))))))))))))))))))))))))))))))))))))))))))))))))))))))))))))))))))))))))))))))))))))))))))))))))))))))))))))))))))))))))))))))))))))))))))))))))))))))))))))))))))))))))))))))))))))))))))))))))))))))))))))))))))))))))))))
theorem mixed:Tryz.prog.follows .mixedOrders=true:=by kernel_rfl
end Go.AL.Seat
end
section
namespace Go.Proofs
open Go.Shelf
def Tryz.sortf61_ren:Go.Shelf.Ren:=⟨fun|6=>198|15=>63|14=>252|28=>113|29=>114|20=>282|21=>283|22=>284|23=>285|24=>286|25=>287|26=>288|27=>289|46=>307|47=>152|48=>153|49=>308|50=>309|57=>318|n=>n,fun|22=>155|24=>3|25=>215|3=>3|39=>136|0=>0|53=>187|55=>189|4=>4|46=>180|45=>179|50=>184|5=>5|9=>9|66=>228|70=>232|76=>270|77=>217|n=>n,fun|n=>n⟩
theorem Tryz.sortf61:Go.Proofs.SlLaysF.n6 Tryz.prog Tryz.sortf61_ren:={
 mixed:=by kernel_rfl
 f6:=⟨Tryz.f198.name,by decide,Xt Tryz.func198⟩
 f14:=⟨Tryz.f252.name,by decide,Xt Tryz.func252⟩
 f15:=Xt Tryz.func63
 f20:=⟨Tryz.f282.name,by decide,Xt Tryz.func282⟩
 f21:=⟨Tryz.f283.name,by decide,Xt Tryz.func283⟩
 f22:=⟨Tryz.f284.name,by decide,Xt Tryz.func284⟩
 f23:=⟨Tryz.f285.name,by decide,Xt Tryz.func285⟩
 f24:=⟨Tryz.f286.name,by decide,Xt Tryz.func286⟩
 f25:=⟨Tryz.f287.name,by decide,Xt Tryz.func287⟩
 f26:=⟨Tryz.f288.name,by decide,Xt Tryz.func288⟩
 f27:=⟨Tryz.f289.name,by decide,Xt Tryz.func289⟩
 f28:=Xt Tryz.func113
 f29:=Xt Tryz.func114
 f46:=⟨Tryz.f307.name,by decide,Xt Tryz.func307⟩
 f47:=Xt Tryz.func152
 f48:=Xt Tryz.func153
 f49:=⟨Tryz.f308.name,by decide,Xt Tryz.func308⟩
 f50:=⟨Tryz.f309.name,by decide,Xt Tryz.func309⟩
 f57:=⟨Tryz.f318.name,by decide,Xt Tryz.func318⟩
 t0:=Tryz.underlying0
 a0:=Tryz.isAgg0
 z0:=Tryz.sizeOf0
 v0:=Tryz.zeroValue0
 t3:=Tryz.underlying3
 a3:=Tryz.isAgg3
 z3:=Tryz.sizeOf3
 v3:=Tryz.zeroValue3
 t4:=Tryz.underlying4
 a4:=Tryz.isAgg4
 z4:=Tryz.sizeOf4
 v4:=Tryz.zeroValue4
 t5:=Tryz.underlying5
 a5:=Tryz.isAgg5
 z5:=Tryz.sizeOf5
 v5:=Tryz.zeroValue5
 t9:=Tryz.underlying9
 a9:=Tryz.isAgg9
 z9:=Tryz.sizeOf9
 v9:=Tryz.zeroValue9
 t22:=Tryz.underlying155
 a22:=Tryz.isAgg155
 z22:=Tryz.sizeOf155
 v22:=Tryz.zeroValue155
 a24:=Tryz.isAgg3
 z24:=Tryz.sizeOf3
 t25:=Tryz.underlying215
 a25:=Tryz.isAgg215
 z25:=Tryz.sizeOf215
 v25:=Tryz.zeroValue215
 t39:=Tryz.underlying136
 a39:=Tryz.isAgg136
 z39:=Tryz.sizeOf136
 v39:=Tryz.zeroValue136
 t45:=Tryz.underlying179
 a45:=Tryz.isAgg179
 z45:=Tryz.sizeOf179
 v45:=Tryz.zeroValue179
 t46:=Tryz.underlying180
 a46:=Tryz.isAgg180
 z46:=Tryz.sizeOf180
 v46:=Tryz.zeroValue180
 t50:=Tryz.underlying184
 a50:=Tryz.isAgg184
 z50:=Tryz.sizeOf184
 v50:=Tryz.zeroValue184
 t53:=Tryz.underlying187
 a53:=Tryz.isAgg187
 z53:=Tryz.sizeOf187
 v53:=Tryz.zeroValue187
 t55:=Tryz.underlying189
 a55:=Tryz.isAgg189
 z55:=Tryz.sizeOf189
 v55:=Tryz.zeroValue189
 t66:=Tryz.underlying228
 a66:=Tryz.isAgg228
 z66:=Tryz.sizeOf228
 v66:=Tryz.zeroValue228
 t70:=Tryz.underlying232
 a70:=Tryz.isAgg232
 z70:=Tryz.sizeOf232
 v70:=Tryz.zeroValue232
 t76:=Tryz.underlying270
 a76:=Tryz.isAgg270
 z76:=Tryz.sizeOf270
 v76:=Tryz.zeroValue270
 t77:=Tryz.underlying217
 a77:=Tryz.isAgg217
 z77:=Tryz.sizeOf217
 v77:=Tryz.zeroValue217}
end Go.Proofs
end
section
namespace Go.Proofs
open Go.Shelf
def Tryz.lays106_ren:Go.Shelf.Ren:=⟨fun|106=>27|213=>64|265=>115|n=>n,fun|9=>9|3=>3|n=>n,fun|n=>n⟩
theorem Tryz.lays106:Go.Proofs.Lays.n106 Tryz.prog Tryz.lays106_ren:={
 mixed:=by kernel_rfl
 f106:=Xt Tryz.func27
 f213:=Xt Tryz.func64
 f265:=Xt Tryz.func115
 t3:=Tryz.underlying3
 a3:=Tryz.isAgg3
 z3:=Tryz.sizeOf3
 v3:=Tryz.zeroValue3
 t9:=Tryz.underlying9
 a9:=Tryz.isAgg9
 z9:=Tryz.sizeOf9
 v9:=Tryz.zeroValue9}
end Go.Proofs
end
section
namespace Go.Proofs
open Go.RowKit Go.Shelf Go.AL
theorem Tryz.compare(a b:ByteArray)(w:World):Calls Tryz.prog 27 #[.string a,.string b] w fun e w'=>e=.returned (.int .i64 (Lib.compareBytes a.data.toList b.data.toList))/\w'=w:=Any.strings_Compare Tryz.lays106 a b w
set_option maxRecDepth 100000 in
set_option maxHeartbeats 2000000 in
theorem Tryz.cmp62(W:World)(b o g off cap len i j:Nat)(si sj:Str)(h1:W.cell? ⟨b,o+3,none⟩=some (.slice (some ⟨g,off,none⟩) len cap))(hi:i<len)(hj:j<len)(ci:W.cell? ⟨g,off+i,none⟩=some (encStr si))(cj:W.cell? ⟨g,off+j,none⟩=some (encStr sj)) :
  Calls Tryz.prog 199 #[.int .i64 i,.int .i64 j,.pointer (some ⟨b,o,none⟩)] W fun e w'=>e=.returned (.int .i64 (Lib.compareBytes si sj))/\∃q,w'=W.drewN q:=by
 go_enter Tryz.func199,Tryz.ntmps199
 go_wp2
 go_quiet (first|(go_at_call 27;refine Calls.quiet_of_same (Tryz.compare _ _ _)))
 go_wp2
 go_ret
 exact⟨rfl,_,rfl⟩
end Go.Proofs
end
section
namespace Go.AL.Seat
open Go Go.AL Go.Proofs Go.Shelf
variable [Tabs]
theorem xZ:ah Tryz.prog 198 (lY 199):=
 tI Tryz.sortf61 rfl (enters_of Tryz.func199 (by kernel_rfl) rfl) (fun W b o g0 off cap len i j si sj h1 h2 h3 h4 h5=>Tryz.cmp62 W b o g0 off cap len i j si sj h1 h2 h3 h4 h5) (Enters.mk' Tryz.func198 (by kernel_rfl))
end Go.AL.Seat
end
section
namespace Go.AL
open Go.Shelf Go.Proofs Go.RowKit
variable [Tabs] {P:Program} {ρ:Ren}
theorem After.newRow{w w':World}{pub:Nat->Nat->Prop}{e:Nat->Option CObj}(hp:jy w pub)(hd:∀id,e id=none)(hb:Below w.heap.size w w'){g:Nat}(hg:w.heap.size<=g){p:Nat->Prop}(hc:∀o,p o->∃v,w'.cell? ⟨g,o,none⟩=some v) :
  After w pub e (aj (cv [] [])) w' (fun b o=>pub b o∨(b=g/\p o)) e where
 os:=hb.os
 tape:=hb.tape
 output:=hb.output
 size:=hb.size
 block b h _:=hb.block b h
 cell b o h _:=ai (hb.block b h) o
 kind b h _:=⟨aW (hb.block b h),fun o=>aP (hb.block b h) o⟩
 ext:=⟨fun _ c h=>⟨c,h,CLe.refl c⟩,fun _ _ h=>.inl h,fun b o h=>by obtain⟨v,hv⟩:=hp b o h;exact ai (hb.block b (aL hv)) o⟩
 fresh b o h:=by
  rcases h with h|⟨rfl,_⟩
  ·exact .inl h
  ·exact .inr (.inl hg)
 ok b o h:=by
  rcases h with h|⟨rfl,h⟩
  ·obtain⟨v,hv⟩:=hp b o h;exact⟨v,(ai (hb.block b (aL hv)) o).trans hv⟩
  ·exact hc o h
 slots id o h:=by simp[cv,b8,aI]at h
 dom id _:=hd id
 inj i j c d b o h:=by rw[hd i]at h;cases h
theorem Aw(L:Lays2.n16 P ρ)(l:List Str)(hb:l.length *16<=140737488355328){ob:Option Prop}:al P (ρ.f 16) [.lst .str l none] [] ⟨ob,none,.lst .str l none,[]⟩:=by
 intro w pub e vs hp ht hv hs hd hi;have he:e=fun _=>none:=funext fun id=>hd id rfl;subst he;obtain⟨v,rfl,hV⟩:=hv.one_inv
 cases hV with
 |lstNil _ _ tok=>refine(Any.slices_Clone_string_nil L 0 0 w).mono ?_;rintro en w' ⟨rfl,rfl⟩;exact⟨pub,_,fun b pv u h=>(by cases h),.lstNil _ _ tok,After.below hp (fun _=>rfl) (Below.refl _ _)⟩
 |lstVoid _ a=>
  refine(Any.slices_Clone_string_zero L a 0 w).mono ?_;rintro en w' ⟨v',rfl,⟨hl,hrow⟩,hn,hbw⟩;refine⟨pub,_,fun b pv u h=>(by cases h),?_,After.below hp (fun _=>rfl) hbw⟩;rcases hrow with⟨rfl,hz⟩|⟨g,cap,cur,rfl,hbase,hg,h1,h2,h3,h4⟩
  ·exact absurd rfl hn
  ·exact .lst .str [] none g 0 cap (fun _ _=>.bool false) (NU _) (by unfold maxLen at h2;unfold bq;omega) (fun id h=>by cases h) (fun i x hx=>by cases hx) (fun i x hx=>by cases hx)
 |lst _ _ _ b off cap vals h1 h2 tok hcell hval=>
  have at_:∀i (hi:i<l.length),w.cell? ⟨b,off+i,none⟩=some (.string ⟨l[i].toArray⟩)/\l[i].length<=bq:=fun i hi=>by have hx:l[i]?=some l[i]:=Nw hi;obtain⟨_,c1⟩:=hcell i l[i] hx 0 (.str l[i]) rfl;have c2:=hval i l[i] hx 0 (.str l[i]) rfl;obtain⟨c3,c4⟩:=c2.str_inv;rw[c3,show off+(i *ab .str+0)=off+i by rw[show ab .str=1 from rfl];omega]at c1;exact⟨c1,c4⟩
  refine(Any.slices_Clone_string L b off l.length cap (l.map fun s=>(⟨s.toArray⟩:ByteArray)) w (by simp) hb (fun j hj=>?_)).mono ?_
  ·have hj':j<l.length:=by simpa using hj
   rw[(at_ j hj').1,NB,O5,Nw hj'];rfl
  rintro en w' ⟨v',rfl,⟨hl,hrow⟩,hn,hbw⟩;rcases hrow with⟨rfl,hz⟩|⟨g,cap',cur,rfl,hbase,hg,k1,k2,k3,k4⟩
  ·exact absurd rfl hn
  have hcur:∀i (hi:i<l.length),cur[i]?=some (.string ⟨l[i].toArray⟩):=fun i hi=>by
   have:(cur.toList.take (l.length *1))[i]?=some (.string ⟨l[i].toArray⟩):=by rw[k4,O5,O3];simp[hi]
   rw[O3]at this;split at this
   ·simpa using this
   ·cases this
  refine⟨fun b o=>pub b o∨(b=g/\o<l.length),_,fun b pv u h=>(by cases h),?_,After.newRow hp (fun _=>rfl) hbw hbase (p:=fun o=>o<l.length) (fun o ho=>⟨_,by rw[an hg];exact hcur o ho⟩)⟩;refine .lst .str l none g 0 cap' (fun i _=>.string ⟨(l.getD i []).toArray⟩) k1 (by unfold maxLen at k2;unfold bq;omega) (fun id h=>by cases h) (fun i x hx j c hc=>?_) (fun i x hx j c hc=>?_)
  ·obtain⟨hi,rfl⟩:=Od.1 hx
   have hj:j=0:=by
    cases j with|zero=>rfl|succ j=>simp[cells]at hc
   subst hj;rw[show 0+(i *ab .str+0)=i by rw[show ab .str=1 from rfl];omega];refine⟨.inr ⟨rfl,hi⟩,?_⟩;show w'.cell? ⟨g,i,none⟩=_;rw[an hg,hcur i hi,NB,Nw hi];rfl
  ·obtain⟨hi,rfl⟩:=Od.1 hx
   have hj:j=0:=by
    cases j with|zero=>rfl|succ j=>simp[cells]at hc
   subst hj;have e1:c=.str l[i]:=by simpa[cells]using hc.symm
   subst e1;rw[NB,Nw hi];exact .str _ (at_ i hi).2
def Ax:Pat:=p1 (.lst .str) fun l=>⟨some (l.length *16<=140737488355328),none,.lst .str l none,[]⟩
theorem Ay{f:Nat}(L:Lays2.n16 P ρ)(hf:ρ.f 16=f)(he:Enters P f):ah P f Ax:=by subst hf;exact bB he fun l _ ho=>Aw L l (ho _ rfl)
end Go.AL
end
section
namespace Go.Proofs
open Go.Shelf
def Tryz.lays2_16_ren:Go.Shelf.Ren:=⟨fun|16=>81|n=>n,fun|24=>24|9=>9|4=>4|n=>n,fun|n=>n⟩
theorem Tryz.lays2_16:Go.Proofs.Lays2.n16 Tryz.prog Tryz.lays2_16_ren:={
 mixed:=by kernel_rfl
 f16:=Xt Tryz.func81
 t4:=Tryz.underlying4
 a4:=Tryz.isAgg4
 z4:=Tryz.sizeOf4
 v4:=Tryz.zeroValue4
 t9:=Tryz.underlying9
 a9:=Tryz.isAgg9
 z9:=Tryz.sizeOf9
 v9:=Tryz.zeroValue9
 t24:=Tryz.underlying24
 a24:=Tryz.isAgg24
 z24:=Tryz.sizeOf24
 v24:=Tryz.zeroValue24
 i9:=by kernel_rfl}
end Go.Proofs
end
section
namespace Go.AL.Seat
open Go Go.AL Go.Proofs Go.Shelf Go.Pd
variable [Tabs]
theorem qf:ah Tryz.prog 81 Ax:=Ay Tryz.lays2_16 rfl (Enters.mk' Tryz.func81 (by kernel_rfl))
end Go.AL.Seat
end
section
namespace Go.AL.Seat
open Go Go.AL Go.Proofs Go.Shelf Go.Pd Go.RowKit
variable [Tabs]
theorem qW:ah Tryz.prog 27 (p2 .str .str fun a b=>.ret (.int .i64 (kY a b))):=by
 refine cb (Enters.mk' Tryz.func27 (by kernel_rfl)) fun a b _ _ _=>?_;refine ff fun w pub vs ht hv=>?_;obtain⟨rfl,l1,l2⟩:=VL.two_str hv;refine(Any.strings_Compare Tryz.lays106 _ _ w).mono ?_;rintro en w' ⟨rfl,rfl⟩;refine⟨⟨_,rfl,fun Ω=>?_⟩,Below.refl _ _⟩;have e2:Lib.compareBytes (⟨a.toArray⟩:ByteArray).data.toList (⟨b.toArray⟩:ByteArray).data.toList=kY a b:=tW a b;rw[e2];unfold kY;split
 ·exact .int _ _ (by decide) (by decide)
 ·split
  ·exact .int _ _ (by decide) (by decide)
  ·exact .int _ _ (by decide) (by decide)
end Go.AL.Seat
end
noncomputable section
namespace Go.AL
def l9{β:Type}(key:β->Str)(xs:List β):List β:=xs.mergeSort fun a b=>decide (key a<=key b)
theorem wy{β:Type}{key:β->Str}{xs ys:List β}(hnd:(xs.map key).Nodup)(hp:ys.Perm xs)(hs:ys.Pairwise fun a b=>key a<=key b):ys=l9 key xs:=by
 have tr:∀a b c:β,decide (key a<=key b)=true->decide (key b<=key c)=true->decide (key a<=key c)=true:=fun a b c h1 h2=>by simp only[NA]at *;exact Qk h1 h2
 have tot:∀a b:β,(decide (key a<=key b)||decide (key b<=key a))=true:=fun a b=>by simp only[Oa,NA];exact Ql _ _
 have inj:∀a b,a∈xs->b∈xs->key a=key b->a=b:=fun a b ha hb h=>by
  obtain⟨i,hi,rfl⟩:=Qh ha;obtain⟨j,hj,rfl⟩:=Qh hb;rw[P8,ON]at hnd;rcases Qw i j with q|q|q
  ·exact absurd (by rw[QF,QF];exact h) (hnd i j (by simpa using hi) (by simpa using hj) q)
  ·subst q;rfl
  ·exact absurd (by rw[QF,QF];exact h.symm) (hnd j i (by simpa using hj) (by simpa using hi) q)
 refine List.Perm.eq_of_pairwise (le:=fun a b=>key a<=key b) (fun a b ha hb h1 h2=>?_) hs ?_ (hp.trans (PE xs _).symm)
 ·exact inj a b (hp.mem_iff.1 ha) (Qp.1 (show b∈xs.mergeSort _ from hb)) (QE h1 h2)
 ·have:=Pn tr tot xs;exact this.imp fun h=>by simpa using h
variable [Tabs]
open Go.Proofs Go.RowKit Go.Maps Go.Sort Go.Shelf Go.Lib
variable {P:Program} {ρ:Ren}
theorem vm(F:Array Value)(w:World)(b:Nat){vs:Array Value}{ty:Nat}{fz:Nat×Nat}(h:w.heap[b]?=some (.cells vs ty fz)) :
  ∃us:Array Value,(putRow id w b 0 F).heap[b]?=some (.cells us ty fz)/\us.size=vs.size:=by
 unfold putRow mapBlock;simp only[OT,Ov,h,OV,onCells];exact⟨_,rfl,by simp[putCells]⟩
theorem After.growK{α:Type}[Inhabited α](enc:α->List Value){w:World}{pub:Nat->Nat->Prop}{e:Nat->Option CObj}{S:List (Nat×SObj)}{τ:Ty}
 (hp:jy w pub)(hs:∀id o,aj S id=some o->bh ⟨e,w,pub⟩ (fun _ _=>True) id o)(hd:∀id,aj S id=none->e id=none)(hi:Inj e)
 {k b s cap m:Nat}{xs ys:List (den τ)}{d0 d:Array α}{gs:Array Obj}(hk:aj S k=some (.grow τ s xs))(he:e k=some (.tail s (some b) cap))(hl:ys.length=xs.length)
 (hH:HoldsK enc (ab τ) w b 0 d0)(h0:d0.size=xs.length)(h1:d.size=xs.length)(henc:∀x,(enc x).length=ab τ)
 (hv:∀(i:Nat)(y:den τ),ys[i]?=some y->VL ⟨e,w,pub⟩ (cells τ y) (enc d[i]!)) :
  After w pub e (aj (cv S [(k,.grow τ s ys)])) (Go.Sort.grow (putRowK enc (ab τ) (Sort.ahead w m) b 0 d) gs) (fun b o=>pub b o∨False) (fun i=>if k=i then some (.tail s (some b) cap)else e i):=by
 obtain⟨base,cap',e1,e2,e3,e4,e5⟩:=hs k _ hk;have e1:e k=some (.tail s base cap'):=e1;rw[he]at e1;simp only[Xs,CObj.tail.injEq,Oo]at e1;obtain⟨rfl,rfl⟩:=e1;obtain⟨hown,⟨vs,ty,fz,hheap,hfz,hfit⟩,hpub,hcell⟩:=e5 b rfl;have hheap:w.heap[b]?=some (.cells vs ty fz):=hheap;have hb:b<w.heap.size:=aM hheap;have hsz:(putRowK enc (ab τ) (Sort.ahead w m) b 0 d).heap.size=w.heap.size:=by simp[putRowK]
 have old:∀j,j<w.heap.size->(Go.Sort.grow (putRowK enc (ab τ) (Sort.ahead w m) b 0 d) gs).heap[j]?=(putRowK enc (ab τ) (Sort.ahead w m) b 0 d).heap[j]?:=by intro j hj;unfold Go.Sort.grow;simp only;rw[PK (by rw[hsz];exact hj)]
 have other:∀j,j<w.heap.size->j≠b->(Go.Sort.grow (putRowK enc (ab τ) (Sort.ahead w m) b 0 d) gs).heap[j]?=w.heap[j]?:=by intro j hj hne;rw[old j hj];exact lX id (Sort.ahead w m) b (flatK enc (ab τ) d) j (.inl hne)
 obtain⟨us,hus,husz⟩:=vm (flatK enc (ab τ) d) (Sort.ahead w m) b (vs:=vs) (ty:=ty) (fz:=fz) hheap;have hus':(Go.Sort.grow (putRowK enc (ab τ) (Sort.ahead w m) b 0 d) gs).heap[b]?=some (.cells us ty fz):=by rw[old b hb];exact hus
 have inE:∀o,tF e k b o:=fun o=>⟨_,he,rfl⟩;have notE:∀{b' o},¬tF e k b' o->b'≠b:=fun h q=>h (q ▸ inE _);have pubne:∀b' o,pub b' o->b'≠b:=fun b' o h q=>hpub o (q ▸ h)
 refine After.slot hp hs hd hi (Q:=fun _ _=>False) rfl rfl rfl (by simp[Go.Sort.grow,putRowK]) (fun b' h1 h2=>other b' h1 (notE (h2 0))) (fun b' o h1 h2=>ai (other b' h1 (notE h2)) o) (fun b' h1 h2=>?_)
  (fun b' o h=>ai (other b' (by obtain⟨v,hv⟩:=hp b' o h;exact aL hv) (pubne b' o h)) o) (fun _ _ h=>h.elim) (fun c0 h=>?_) (fun b' o h=>?_) (fun hx=>?_)
 ·have hne:b'≠b:=fun q=>h2 fun o=>q ▸ inE o;have:=other b' h1 hne;exact⟨aW this,fun o=>aP this o⟩
 ·rw[he]at h;cases h;simp[CLe]
 ·exact .inr ⟨_,he,h⟩
 ·refine⟨some b,cap,by simp,by rw[hl];exact e2,e3,by simp,fun b' hb'=>?_⟩;simp only[Xs]at hb';subst hb';refine⟨fun o=>.inr ⟨k,_,he,rfl⟩,⟨us,ty,fz,hus',hfz,by rw[husz];exact hfit⟩,fun o h=>?_,fun j c hc=>?_⟩
  ·rcases h with h|h
   ·exact hpub o h
   ·exact h
  ·have hjl:j<ys.length *ab τ:=by
    rw[<-aY];rcases NF j (flat τ ys).length with q|q
    ·exact q
    ·rw[Nz q]at hc;cases hc
   have hfl:(flatK enc (ab τ) d).size=ys.length *ab τ:=by rw[size_flatK,h1,hl]
   have hcl:=cell?_putRow id (Sort.ahead w m) b 0 (flatK enc (ab τ) d0) (flatK enc (ab τ) d) (show Go.Sort.Holds id (Sort.ahead w m) b 0 (flatK enc (ab τ) d0)from hH) (by rw[size_flatK,size_flatK,h0,h1]) j (by rw[hfl];exact hjl);rw[OB]at hcl;obtain⟨i,x,j2,q1,q2,q3,q4⟩:=lK τ _ j c hc;have hpos:0<ab τ:=by omega
   have hdiv:j/ab τ=i:=by rw[q3,Po,Nat.mul_add_div hpos,Nat.div_eq_of_lt q4,Ph]
   have hmod:j%ab τ=j2:=by rw[q3,Po,QO,QD q4]
   have hg:(flatK enc (ab τ) d)[j]! =(enc d[i]!)[j2]!:=by rw[get_flatK enc (ab τ) d j (by rw[h1,<-hl];exact hjl),hdiv,hmod]
   refine⟨(enc d[i]!)[j2]!,?_,?_⟩
   ·rw[ai (old b hb) j];show(putRow id (Sort.ahead w m) b 0 (flatK enc (ab τ) d)).cell? ⟨b,j,none⟩=_;rw[hcl,<-hg];rfl
   ·have hjj:j2<(enc d[i]!).length:=by rw[henc];exact q4
    exact((hv i x q1).2 j2 c _ q2 (by rw[Nw hjj,PH _ j2 hjj])).ext hx
def MD(P:Program)(g k q:Nat)(cf:Str->Str->Int):Prop:=
 ∀(W:World)(xs ys:List Value)(a b:Str),xs.length=k->ys.length=k->(∀v∈xs,v.oneCell'=true)->(∀v∈ys,v.oneCell'=true)->xs[q]?=some (.string ⟨a.toArray⟩)->ys[q]?=some (.string ⟨b.toArray⟩)->
  Calls P g #[.agg xs.toArray,.agg ys.toArray] W fun e w'=>e=.returned (.int .i64 (cf a b))/\∃m os',w'=Go.Sort.grow (W.drewN m) os'
abbrev Raw(Ω:Om)(τ:Ty):Type:={p:den τ×List Value // VL Ω (cells τ p.1) p.2}
theorem raws{Ω:Om}{τ:Ty}{b:Nat}:∀(xs:List (den τ))(o:Nat),(∀(j:Nat)(c:AV),(flat τ xs)[j]?=some c->∃v,Ω.w.cell? ⟨b,o+j,none⟩=some v/\V Ω c v)->
  ∃ps:List (Raw Ω τ),ps.map (fun p=>p.1.1)=xs/\∀(i j:Nat)(p:Raw Ω τ),ps[i]?=some p->j<ab τ->Ω.w.cell? ⟨b,o+(i *ab τ+j),none⟩=p.1.2[j]?
 |[],o,h=>⟨[],rfl,fun i j p hp=>by simp at hp⟩
 |x::r,o,h=>by
  have hf:flat τ (x::r)=cells τ x++flat τ r:=by simp[flat]
  have hw:(cells τ x).length=ab τ:=aR τ x
  obtain⟨ps,h1,h2⟩:=raws r (o+ab τ) (fun j c hc=>by
   obtain⟨v,v1,v2⟩:=h (ab τ+j) c (by rw[hf,NM (by omega),hw,PZ];exact hc);exact⟨v,by rw[show o+ab τ+j=o+(ab τ+j) by omega];exact v1,v2⟩)
  have hc:∀j,j<ab τ->∃v,Ω.w.cell? ⟨b,o+j,none⟩=some v:=fun j hj=>by obtain⟨v,v1,_⟩:=h j _ (by rw[hf,NH (by omega),Nw (by omega)]);exact⟨v,v1⟩
  refine⟨⟨(x,(List.range (ab τ)).map fun j=>(Ω.w.cell? ⟨b,o+j,none⟩).getD undef),⟨by simp[hw],fun j c v hc1 hv=>?_⟩⟩::ps,by simp[h1],fun i j p hp hj=>?_⟩
  ·have hj:j<ab τ:=by
    rw[<-hw];rcases NF j (cells τ x).length with q|q
    ·exact q
    ·rw[Nz q]at hc1;cases hc1
   obtain⟨u,u1,u2⟩:=h j c (by rw[hf,NH (by omega)];exact hc1);simp[hj,u1]at hv;subst hv;exact u2
  ·cases i with
   |zero=>simp at hp;subst hp;obtain⟨v,hv⟩:=hc j hj;simp[hj,hv]
   |succ i=>have:=h2 i j p (by simpa using hp) hj;rw[<-this,show o+((i+1) *ab τ+j)=o+ab τ+(i *ab τ+j) by rw[Oj];omega]
set_option maxHeartbeats 2000000 in
theorem vn(L:SlLaysF0.n6 P ρ){τ:Ty}{g:Nat}(aE:∀w,(isAgg (ρ.t 24)).run P w=.ok true w)(zE:∀w,(Go.sizeOf (ρ.t 24)).run P w=.ok (ab τ) w)
 (eg:∀args w,(callFunc g args).run P w=.ok (.enter g args) w){q:Nat}(key:den τ->Str)(hkey:∀x,(cells τ x)[q]?=some (.str (key x)))(cf:Str->Str->Int)(hcf:∀a b:Str,decide (cf a b<0)=ltStr a b)(C:MD P g (ab τ) q cf)
 (s n:Nat)(xs:List (den τ))(hn:n=xs.length)(hnd:(xs.map key).Nodup)(hbig:xs.length<4611686018427387904)(ob:Option Prop) :
  al P (ρ.f 6) [.glst s n 900,.fn g []] [(900,.grow τ s xs)] ⟨ob,none,.tup [],[(900,.grow τ s (l9 key xs))]⟩:=by
 subst hn;intro w pub e vs hp ht hv hs hd hi;obtain⟨v1,v2,rfl,h1,h2⟩:=VL.two_inv hv;obtain⟨us,rfl,hus⟩:=h2.fn_inv;obtain rfl:us=[]:=NR hus.1.symm;obtain⟨cap,a0,rfl,hc1,hc2,hc3,m0,base,c0,r1,r2,r3⟩:=h1.glst_inv;obtain⟨base',cap',e1,e2,e3,e4,e5⟩:=hs 900 _ rfl;have e1:e 900=some (.tail s base' cap'):=e1;have r1:e 900=some (.tail m0 base c0):=r1;rw[e1]at r1;simp only[Xs,CObj.tail.injEq]at r1;obtain⟨rfl,rfl,rfl⟩:=r1;obtain⟨rfl,rfl⟩:=r3 rfl
 cases base' with
 |none=>
  have hz:xs.length=0:=by
   rcases hc3 with⟨b,hb⟩|⟨_,h,_⟩
   ·simp[dD]at hb
   ·exact h
  have hxs:xs=[]:=NR hz;subst hxs;refine(AnyF.slices_SortFunc_none L _ _ _ w).mono ?_;rintro en w' ⟨rfl,rfl⟩;refine⟨_,_,fun _ _ _ h=>(by cases h),.tup [] [] rfl (fun j c v hc=>by simp at hc),After.slot (c:=.tail s none cap) (Q:=fun _ _=>False) hp hs hd hi rfl rfl rfl (NK _) (fun _ _ _=>rfl) (fun _ _ _ _=>rfl) (fun _ _ _=>⟨rfl,fun _=>rfl⟩) (fun _ _ _=>rfl) (fun _ _ h=>h.elim) (fun c1 h=>?_) (fun b o h=>?_) (fun hx=>?_)⟩
  ·rw[show e 900=_ from e1]at h;cases h;simp[CLe]
  ·exact .inr ⟨_,e1,h⟩
  ·exact⟨none,cap,by simp,by simp[l9],e3,e4,fun b hb=>by cases hb⟩
 |some b=>
  obtain⟨hown,⟨ws,ty,fz,hheap,hfz,hfit⟩,hpub,hcell⟩:=e5 b rfl;have hheap:w.heap[b]?=some (.cells ws ty fz):=hheap;have hb:b<w.heap.size:=aM hheap;by_cases hxs:xs=[]
  ·subst hxs;refine(AnyF.slices_SortFunc_none L _ _ _ w).mono ?_;rintro en w' ⟨rfl,rfl⟩;refine⟨_,_,fun _ _ _ h=>(by cases h),.tup [] [] rfl (fun j c v hc=>by simp at hc),After.slot (c:=.tail s (some b) cap) (Q:=fun _ _=>False) hp hs hd hi rfl rfl rfl (NK _) (fun _ _ _=>rfl) (fun _ _ _ _=>rfl) (fun _ _ _=>⟨rfl,fun _=>rfl⟩) (fun _ _ _=>rfl) (fun _ _ h=>h.elim) (fun c1 h=>?_) (fun b o h=>?_) (fun hx=>?_)⟩
   ·rw[show e 900=_ from e1]at h;cases h;simp[CLe]
   ·exact .inr ⟨_,e1,h⟩
   ·refine⟨some b,cap,by simp,by simp[l9],e3,by simp,fun b' hb'=>?_⟩;simp only[Xs]at hb';subst hb';refine⟨fun o=>.inr ⟨900,_,e1,rfl⟩,⟨ws,ty,fz,hheap,hfz,hfit⟩,fun o h=>?_,fun j c hc=>by simp[l9,flat]at hc⟩;rcases h with h|h
    ·exact hpub o h
    ·exact h
  ·obtain⟨ps,hps,hpc⟩:=raws (Ω:=⟨e,w,pub⟩) (b:=b) xs 0 (fun j c hc=>by rw[OB];exact hcell j c hc);have hpl:ps.length=xs.length:=by rw[<-hps];simp
   haveI:Inhabited (Raw ⟨e,w,pub⟩ τ):=⟨ps[0]'(by rw[hpl];exact P4.2 hxs)⟩
   have hlen:∀x:Raw ⟨e,w,pub⟩ τ,x.1.2.length=ab τ:=fun x=>by have:=x.2.1;rw[aR]at this;exact this.symm
   have hone:∀x:Raw ⟨e,w,pub⟩ τ,∀v∈x.1.2,v.oneCell'=true:=fun x=>x.2.leaf_one (kB τ x.1.1)
   have hstr:∀x:Raw ⟨e,w,pub⟩ τ,x.1.2[q]?=some (.string ⟨(key x.1.1).toArray⟩):=fun x=>by
    have hq:q<x.1.2.length:=by
     rw[hlen,<-aR τ x.1.1];rcases NF q (cells τ x.1.1).length with h|h
     ·exact h
     ·have:=hkey x.1.1;rw[Nz h]at this;cases this
    have:=x.2.2 q _ _ (hkey x.1.1) (Nw hq);rw[Nw hq,this.str_inv.1]
   have hH:HoldsK (fun x:Raw ⟨e,w,pub⟩ τ=>x.1.2) (ab τ) w b 0 ps.toArray:=by
    intro j hj;rw[size_flatK]at hj;have hj:j<ps.length *ab τ:=by simpa using hj
    have hpos:0<ab τ:=by
     rcases PJ (ab τ)with z|z
     ·rw[z]at hj;simp at hj
     ·exact z
    have hi2:j/ab τ<ps.length:=(Nat.div_lt_iff_lt_mul hpos).2 hj;have hm:j%ab τ<ab τ:=R8 _ hpos;have hjm:j/ab τ *ab τ+j%ab τ=j:=by rw[Po];exact QN _ _
    have h3:=hpc (j/ab τ) (j%ab τ) ps[j/ab τ] (Nw hi2) hm;rw[hjm,Nw (by rw[hlen];exact hm)]at h3;refine⟨?_,?_⟩
    ·rw[get_flatK _ _ _ j (by simpa using hj)];rw[show w.cell? ⟨b,0+j,none⟩=_ from h3];have e7:ps.toArray[j/ab τ]! =ps[j/ab τ]:=by rw[PH ps.toArray _ (by simpa using hi2)];simp
     rw[e7,PH _ _ (by rw[hlen];exact hm)];rfl
    ·unfold World.frozen?;simp only[hheap,hfz];simp
   have hO:SWO (ltOf fun x y:Raw ⟨e,w,pub⟩ τ=>cf (key x.1.1) (key y.1.1)):=by have e9:∀x y,ltOf (fun x y:Raw ⟨e,w,pub⟩ τ=>cf (key x.1.1) (key y.1.1)) x y=ltStr (key x.1.1) (key y.1.1):=fun x y=>hcf _ _;exact⟨fun i=>by rw[e9];exact swo_ltStr.irrefl _,fun i j k h1 h2=>by rw[e9]at *;exact swo_ltStr.trans _ _ _ h1 h2,fun i j k h1 h2=>by rw[e9]at *;exact swo_ltStr.ntrans _ _ _ h1 h2⟩
   have hcmp:CmpLays P g #[] (fun x:Raw ⟨e,w,pub⟩ τ=>x.1.2) (ab τ) (fun x y=>cf (key x.1.1) (key y.1.1)) b 0 ps.toArray.size w:=by intro m os dk _ x y;have:=C (sortWorldK (fun x:Raw ⟨e,w,pub⟩ τ=>x.1.2) (ab τ) w b 0 m dk os) x.1.2 y.1.2 _ _ (hlen x) (hlen y) (hone x) (hone y) (hstr x) (hstr y);simpa using this
   have hsz:ps.toArray.size=xs.length:=by simp[hpl]
   have hcall:=AnyQ.slices_SortFunc L (ab τ) aE zE (fun x:Raw ⟨e,w,pub⟩ τ=>x.1.2) hlen hone (fun x y=>cf (key x.1.1) (key y.1.1)) hO g #[] b 0 cap ps.toArray w eg hcmp hH hb (by rw[hsz];exact hbig);rw[hsz]at hcall;refine hcall.mono ?_;rintro en w' ⟨rfl,d',n,os,⟨hds,_,hperm⟩,hsort,rfl⟩;have hd':d'.size=xs.length:=by rw[hds,hsz]
   have hys:d'.toList.map (fun x=>x.1.1)=l9 key xs:=by
    refine wy hnd ?_ ?_
    ·rw[<-hps];refine List.Perm.map _ ?_;have q1:d'.extract 0 xs.length=d':=by rw[<-hd'];simp
     have q2:ps.toArray.extract 0 xs.length=ps.toArray:=by rw[<-hsz];simp
     rw[q1,q2]at hperm;simpa using hperm
    ·rw[Pe,ON];intro i j hi hj hij;have hi':i<d'.size:=by simpa using hi
     have hj':j<d'.size:=by simpa using hj
     have h6:=hsort i j (NU _) hij (by omega);unfold ltOf at h6;rw[hcf]at h6;have h3:¬(key d'[j]!.1.1<key d'[i]!.1.1):=by simpa[ltStr]using h6
     have:=List.not_lt.1 h3;simp only[PH d' j hj',PH d' i hi']at this;simpa using this
   refine⟨_,_,fun _ _ _ h=>(by cases h),.tup [] [] rfl (fun j c v hc=>by simp at hc),After.growK (m:=n) (gs:=os) (ys:=l9 key xs) (fun x:Raw ⟨e,w,pub⟩ τ=>x.1.2) (d0:=ps.toArray) (d:=d') hp hs hd hi rfl e1 (by simp[l9]) hH hsz hd' hlen (fun i y hy=>?_)⟩;rw[<-hys,O5]at hy;obtain⟨x,hx,rfl⟩:=NY.1 hy;have hi':i<d'.size:=by have:=(Od.1 hx).1;simpa using this
   have:d'[i]! =x:=by rw[PH d' i hi'];have:=(Od.1 hx).2;simpa using this
   rw[this];exact x.2
end Go.AL
end
section
namespace Go.Proofs
open Go.Shelf
def Tryz.sortf_ren:Go.Shelf.Ren:=⟨fun|6=>25|15=>63|14=>62|28=>113|29=>114|20=>105|21=>106|22=>107|23=>108|24=>109|25=>110|26=>111|27=>112|46=>151|47=>152|48=>153|49=>154|50=>155|57=>200|n=>n,fun|22=>31|24=>49|25=>85|3=>3|39=>136|0=>0|53=>187|55=>189|4=>4|46=>180|45=>179|50=>184|5=>5|9=>9|66=>228|70=>232|76=>270|77=>217|n=>n,fun|n=>n⟩
theorem Tryz.sortf:Go.Proofs.SlLaysF0.n6 Tryz.prog Tryz.sortf_ren:={
 mixed:=by kernel_rfl
 f6:=⟨Tryz.f25.name,by decide,Xt Tryz.func25⟩
 f14:=⟨Tryz.f62.name,by decide,Xt Tryz.func62⟩
 f15:=Xt Tryz.func63
 f20:=⟨Tryz.f105.name,by decide,Xt Tryz.func105⟩
 f21:=⟨Tryz.f106.name,by decide,Xt Tryz.func106⟩
 f22:=⟨Tryz.f107.name,by decide,Xt Tryz.func107⟩
 f23:=⟨Tryz.f108.name,by decide,Xt Tryz.func108⟩
 f24:=⟨Tryz.f109.name,by decide,Xt Tryz.func109⟩
 f25:=⟨Tryz.f110.name,by decide,Xt Tryz.func110⟩
 f26:=⟨Tryz.f111.name,by decide,Xt Tryz.func111⟩
 f27:=⟨Tryz.f112.name,by decide,Xt Tryz.func112⟩
 f28:=Xt Tryz.func113
 f29:=Xt Tryz.func114
 f46:=⟨Tryz.f151.name,by decide,Xt Tryz.func151⟩
 f47:=Xt Tryz.func152
 f48:=Xt Tryz.func153
 f49:=⟨Tryz.f154.name,by decide,Xt Tryz.func154⟩
 f50:=⟨Tryz.f155.name,by decide,Xt Tryz.func155⟩
 f57:=⟨Tryz.f200.name,by decide,Xt Tryz.func200⟩
 t0:=Tryz.underlying0
 a0:=Tryz.isAgg0
 z0:=Tryz.sizeOf0
 v0:=Tryz.zeroValue0
 t3:=Tryz.underlying3
 a3:=Tryz.isAgg3
 z3:=Tryz.sizeOf3
 v3:=Tryz.zeroValue3
 t4:=Tryz.underlying4
 a4:=Tryz.isAgg4
 z4:=Tryz.sizeOf4
 v4:=Tryz.zeroValue4
 t5:=Tryz.underlying5
 a5:=Tryz.isAgg5
 z5:=Tryz.sizeOf5
 v5:=Tryz.zeroValue5
 t9:=Tryz.underlying9
 a9:=Tryz.isAgg9
 z9:=Tryz.sizeOf9
 v9:=Tryz.zeroValue9
 t22:=Tryz.underlying31
 a22:=Tryz.isAgg31
 z22:=Tryz.sizeOf31
 v22:=Tryz.zeroValue31
 t25:=Tryz.underlying85
 a25:=Tryz.isAgg85
 z25:=Tryz.sizeOf85
 v25:=Tryz.zeroValue85
 t39:=Tryz.underlying136
 a39:=Tryz.isAgg136
 z39:=Tryz.sizeOf136
 v39:=Tryz.zeroValue136
 t45:=Tryz.underlying179
 a45:=Tryz.isAgg179
 z45:=Tryz.sizeOf179
 v45:=Tryz.zeroValue179
 t46:=Tryz.underlying180
 a46:=Tryz.isAgg180
 z46:=Tryz.sizeOf180
 v46:=Tryz.zeroValue180
 t50:=Tryz.underlying184
 a50:=Tryz.isAgg184
 z50:=Tryz.sizeOf184
 v50:=Tryz.zeroValue184
 t53:=Tryz.underlying187
 a53:=Tryz.isAgg187
 z53:=Tryz.sizeOf187
 v53:=Tryz.zeroValue187
 t55:=Tryz.underlying189
 a55:=Tryz.isAgg189
 z55:=Tryz.sizeOf189
 v55:=Tryz.zeroValue189
 t66:=Tryz.underlying228
 a66:=Tryz.isAgg228
 z66:=Tryz.sizeOf228
 v66:=Tryz.zeroValue228
 t70:=Tryz.underlying232
 a70:=Tryz.isAgg232
 z70:=Tryz.sizeOf232
 v70:=Tryz.zeroValue232
 t76:=Tryz.underlying270
 a76:=Tryz.isAgg270
 z76:=Tryz.sizeOf270
 v76:=Tryz.zeroValue270
 t77:=Tryz.underlying217
 a77:=Tryz.isAgg217
 z77:=Tryz.sizeOf217
 v77:=Tryz.zeroValue217}
end Go.Proofs
end
section
namespace Go.Pd
open Go.AL
theorem Di{l m:List Shape}(h:l.Perm m):∀a d:Int,deepL l a d=deepL m a d:=by
 induction h with
 |nil=>exact fun _ _=>rfl
 |cons x _ ih=>exact fun a d=>by simp only[deepL];exact ih _ _
 |swap x y l=>exact fun a d=>by simp only[deepL];congr 1;omega
 |trans _ _ h1 h2=>exact fun a d=>(h1 a d).trans (h2 a d)
mutual
theorem deep_sorted:∀(s:Shape)(a:Int),deepS (sortedS s) a=deepS s a
 |⟨k,p,n,ns,ps⟩,a=>by simp only[sortedS,deepS];rw[Di (kW k p n ns ps pZ),deepL_sorted ps]
theorem deepL_sorted:∀(l:List Shape)(a d:Int),deepL (sortedL l) a d=deepL l a d
 |[],_,_=>rfl
 |x::r,a,d=>by simp only[sortedL,deepL,deep_sorted x,deepL_sorted r]
end
theorem ml:∀l:List Shape,sortedL l=l.map sortedS
 |[]=>rfl
 |a::r=>by rw[sortedL,ml r,O2]
theorem y9{s:Shape}(h:s.names.length=s.parts.length):(sortedS s).names.Perm s.names:=by
 obtain⟨k,p,n,ns,ps⟩:=s;simp only[sortedS];split
 ·rename_i e;rw[e]
 ·have h:ns.length=ps.length:=h;have:=(jD ⟨k,p,n,ns,ps⟩).map (ca ns);have e:=gF ns ([]:Str);rw[h]at e;rw[show(cC (⟨k,p,n,ns,ps⟩:Shape).parts.length).map (ca ns)=ns from e]at this;exact this
theorem lf(s:Shape):(sortedS s).parts.Perm (s.parts.map sortedS):=by obtain⟨k,p,n,ns,ps⟩:=s;simp only[sortedS];rw[<-ml];exact kW k p n ns ps pZ
theorem gU(s:Shape):(sortedS s).parts.length=s.parts.length:=by rw[(lf s).length_eq,Ox]
theorem jl{s:Shape}(h:s.names=[]):(sortedS s).names=[]:=by obtain⟨k,p,n,ns,ps⟩:=s;simp only[sortedS];exact NC h
theorem qX(s:Shape):(sortedS s).kind=s.kind/\(sortedS s).pkg=s.pkg/\(sortedS s).name=s.name:=by cases s;exact⟨rfl,rfl,rfl⟩
theorem Jh{α:Type}{f:α->Bool}{l m:List α}(h:l.Perm m):l.all f=m.all f:=by
 induction h with
 |nil=>rfl
 |cons x _ ih=>rw[Oe,Oe,ih]
 |swap x y l=>rw[Oe,Oe,Oe,Oe,<-R0,<-R0,Bool.and_comm (f y)]
 |trans _ _ h1 h2=>exact h1.trans h2
theorem yb{s:Shape}(h:dE s=true):dE (sortedS s)=true:=by
 unfold dE at h⊢;simp only[Nx,NA]at h⊢;have hp:=y9 h.1.1;refine⟨⟨?_,?_⟩,?_⟩
 ·rw[hp.length_eq,gU,h.1.1]
 ·rw[Jh hp];exact h.1.2
 ·exact hp.nodup_iff.2 h.2
theorem Gq{s:Shape}:decide ((sortedS s).parts=[])=decide (s.parts=[]):=by have:=gU s;refine Ow.2 ?_;rw[<-OQ,<-OQ,this]
theorem qY{s:Shape}(h:aS s=true):aS (sortedS s)=true:=by
 obtain⟨e1,e2,e3⟩:=qX s;have e4:=gU s;have e5:=@Gq s;unfold aS at h⊢;simp only[e1,e2,e3,e4,e5]at h⊢
 have sp:∀{c:Prop} [Decidable c] {a b x y:Bool},(if c then a else b)=true->(a=true->x=true)->(b=true->y=true)->(if c then x else y)=true:=fun{c} _ {a b x y} h h1 h2=>by
  by_cases k:c
  ·rw[NC k]at h⊢;exact h1 h
  ·rw[Ny k]at h⊢;exact h2 h
 refine sp h (fun h=>?_) fun h=>sp h (fun h=>?_) fun h=>sp h (fun h=>?_) fun h=>sp h (fun h=>?_) fun h=>sp h (fun h=>?_) fun h=>sp h (fun h=>?_) fun h=>h
 ·simp only[Nx,NA]at h⊢;exact⟨⟨h.1.1,jl h.1.2⟩,h.2⟩
 ·simp only[Nx,NA]at h⊢;exact⟨⟨h.1.1,jl h.1.2⟩,h.2⟩
 ·rw[Nx]at h⊢;exact⟨h.1,yb h.2⟩
 ·simp only[Nx,NA]at h⊢;exact⟨⟨h.1.1,jl h.1.2⟩,h.2⟩
 ·simp only[Nx,NA]at h⊢;exact⟨⟨h.1.1,jl h.1.2⟩,h.2⟩
 ·simp only[Nx,NA]at h⊢;exact⟨⟨h.1.1,jl h.1.2⟩,h.2⟩
theorem oe{f:Shape->Bool}(hf:∀s,f s=true->f (sortedS s)=true):∀(n:Nat)(s:Shape),sz s<=n->allS f s=true->allS f (sortedS s)=true
 |0,s,h,_=>by have:=fe s;omega
 |n+1,s,h,ha=>by rw[allS_eq,Nx,allL_all,NJ]at ha⊢;refine⟨hf s ha.1,fun x hx=>?_⟩;obtain⟨y,hy,rfl⟩:=O0.1 ((lf s).mem_iff.1 hx);have h1:=eo hy;have h2:=iF s;exact oe hf n y (by omega) (ha.2 y hy)
theorem mn{s:Shape}(h:ay s=0):ay (bw s)=0:=by have h1:=de h;unfold bw;rw[NC h];unfold ay;rw[sz_sorted,deep_sorted,Ny (by omega),Ny (by omega),NC (oe (fun s hs=>qY hs) _ s (NK _) h1.2.2)]
theorem Dj{s:Shape}(hs:s.names.Pairwise (·<= ·))(h:s.names=[]∨s.names.length=s.parts.length/\s.names.Nodup):bA s=cC s.parts.length:=by
 unfold bA;split
 ·rfl
 ·rename_i hne;rcases h with h|⟨h1,h2⟩
  ·exact absurd h hne
  letI:=sC
  refine(tG h2 (fun x hx=>?_) (.refl _) ?_).symm
  ·rw[h1];exact nU.1 hx
  ·rw[<-h1];unfold cC;rw[Pe];refine List.Pairwise.imp_of_mem ?_ (List.pairwise_lt_range (n:=s.names.length));intro i j hi hj hij;have hi:=OZ.1 hi;have hj:=OZ.1 hj;unfold ca;simp only[NQ,NB,Nw hi,Nw hj,Oq];exact ON.1 hs i j hi hj hij
theorem Gr(s:Shape):(sortedS s).names.Pairwise (·<= ·):=by
 obtain⟨k,p,n,ns,ps⟩:=s;simp only[sortedS];split
 ·exact List.Pairwise.nil
 ·rename_i hne;unfold bA;rw[Ny hne,Pe];exact vj _ _
theorem ME{s:Shape}(hs:s.names.Pairwise (·<= ·))(h:s.names=[]∨s.names.length=s.parts.length/\s.names.Nodup)(hp:∀p∈s.parts,sortedS p=p):sortedS s=s:=by
 have hpl:=Dj hs h;obtain⟨k,p,n,ns,ps⟩:=s;rw[sortedS,hpl];have e:sortedL ps=ps:=by rw[ml];have hp:∀p∈ps,sortedS p=p:=hp;exact(PB hp).trans (List.map_id ps)
 have e1:=gF ps pZ;rw[e,show(⟨k,p,n,ns,ps⟩:Shape).parts.length=ps.length from rfl,e1];by_cases hn:ns=[]
 ·rw[NC hn,hn]
 ·rw[Ny hn];rcases h with h|⟨h,_⟩
  ·exact absurd h hn
  have h:ns.length=ps.length:=h;have e2:=gF ns ([]:Str);rw[h]at e2;rw[show(cC ps.length).map (ca ns)=ns from e2]
theorem pg:∀(n:Nat)(s:Shape),sz s<=n->allS aS s=true->sortedS (sortedS s)=sortedS s
 |0,s,h,_=>by have:=fe s;omega
 |n+1,s,h,ha=>by rw[allS_eq,Nx,allL_all,NJ]at ha;refine ME (Gr s) (D6 (qY ha.1)) fun x hx=>?_;obtain⟨y,hy,rfl⟩:=O0.1 ((lf s).mem_iff.1 hx);have h1:=eo hy;have h2:=iF s;exact pg n y (by omega) (ha.2 y hy)
theorem Dk{s:Shape}(h:ay s=0):bw (bw s)=bw s:=by have hc:=mn h;rw[bw,NC hc,bw,NC h];exact pg _ s (NK _) (de h).2.2
theorem Dl{n:Nat}{t:Trm}{e:Envt}(hn:0<n)(h:(ag n t e).2.err=0):ay (ag n t e).1=0/\bw (ag n t e).1=(ag n t e).1/\(ag n t e).2=cu:=by
 cases n with
 |zero=>omega
 |succ n=>
  rw[show ag (n+1) t e=gZ t (b6 (ag n) t e)from rfl]at h⊢;revert h;generalize b6 (ag n) t e=r;intro h;unfold gZ at h⊢;by_cases h1:r.2.err=0
  ·rw[NC h1]at h⊢;by_cases h2:ay r.1=0
   ·rw[NC h2];exact⟨mn h2,Dk h2,rfl⟩
   ·rw[Ny h2]at h;exact absurd h h2
  ·rw[Ny h1]at h;exact absurd h h1
end Go.Pd
end
section
namespace Go.Pd
open Go.AL
def eH(s:Shape):Bool:=!decide (s.kind=9)
theorem jF{s:Shape}:bS s=true↔ay s=0/\allS eH s=true:=by unfold bS;rw[Nx,NA];exact Iff.rfl
structure ClE(e:Envt):Prop where
 types:∀b∈e.types,allS eH b.shape=true
 values:∀b∈e.values,allS eH b.shape=true
 own:∀b∈e.own,allS eH b.shape=true
theorem ClE.with{e:Envt}(h:ClE e){l:List Bndg}(hl:∀b∈l,allS eH b.shape=true):ClE (bY e l):=
 ⟨h.types,fun b hb=>by
  rcases Oi.1 (show b∈e.values++l from hb)with hb|hb
  ·exact h.values b hb
  ·exact hl b hb,h.own⟩
theorem og{o m:Str}{s:Shape}:∀{l:List Bndg},aC l o m=some s->∃b∈l,b.shape=s
 |b::r,h=>by
  rw[aC]at h
  cases g:aC r o m with
  |some x=>rw[g]at h;obtain⟨c,hc,e⟩:=og g;exact⟨c,.tail _ hc,e.trans (O1 h)⟩
  |none=>
   rw[g]at h;dsimp only at h;split at h
   ·exact⟨b,.head _,O1 h⟩
   ·cases h
theorem wz{m:Str}{s:Shape}:∀{l:List Bndg},df l m=some s->∃b∈l,b.shape=s
 |b::r,h=>by
  rw[df]at h
  cases g:df r m with
  |some x=>rw[g]at h;obtain⟨c,hc,e⟩:=wz g;exact⟨c,.tail _ hc,e.trans (O1 h)⟩
  |none=>
   rw[g]at h;dsimp only at h;split at h
   ·exact⟨b,.head _,O1 h⟩
   ·cases h
theorem Az(s:Shape)(h:allS eH s=true):allS eH (sortedS s)=true:=oe (fun s h=>by unfold eH at h⊢;rw[(qX s).1];exact h) _ s (NK _) h
theorem mQ{s:Shape}(h:allS eH s=true):allS eH (bw s)=true:=by
 unfold bw;split
 ·exact Az s h
 ·exact h
theorem qZ{g:Str->Str->Option Shape}(hg:∀o m s,g o m=some s->allS eH s=true):∀(n:Nat)(s q:Shape),sz s<=n->fillS g s=some q->allS eH q=true
 |0,s,_,h,_=>by have:=fe s;omega
 |n+1,s,q,h,hq=>by
  have hl:∀(l r:List Shape),szL l<=n->fillL g l=some r->allL eH r=true:=by
   intro l
   induction l with
   |nil=>intro r _ e;rw[fillL]at e;cases e;rfl
   |cons a l ih=>
    intro r hz e;rw[szL]at hz;rw[fillL]at e
    cases ga:fillS g a with
    |none=>rw[ga]at e;cases e
    |some x=>
     rw[ga]at e;dsimp only at e
     cases gl:fillL g l with
     |none=>rw[gl]at e;cases e
     |some y=>rw[gl]at e;cases e;rw[allL,qZ hg n a x (by omega) ga,ih y (by omega) gl];rfl
  rw[mg]at hq;by_cases k:s.kind=9
  ·rw[NC k]at hq;exact hg _ _ _ hq
  ·rw[Ny k]at hq
   cases gl:fillL g s.parts with
   |none=>rw[gl]at hq;cases hq
   |some y=>rw[gl]at hq;cases hq;have h1:=iF s;rw[allS_eq,Nx];exact⟨by unfold eH;rw[Xf k];rfl,hl _ _ (by omega) gl⟩
theorem mq{s:Shape}{l:List Bndg}(hl:∀b∈l,allS eH b.shape=true)(h:(aH s l).2=0):bS (aH s l).1=true:=by
 unfold aH at h⊢;by_cases c:ay s=0
 ·rw[NC c]at h⊢
  cases g:fillS (aC l) s with
  |none=>rw[g]at h;exact absurd h (by decide)
  |some q=>
   rw[g]at h;dsimp only at h⊢
   have hq:=qZ (fun o m s hs=>by
    obtain⟨b,hb,rfl⟩:=og hs;exact hl b hb) _ s q (NK _) g
   by_cases d:ay q=0
   ·rw[NC d];exact jF.2 ⟨mn d,mQ hq⟩
   ·rw[Ny d]at h;exact absurd h d
 ·rw[Ny c]at h;exact absurd h c
theorem ph{l:List Bndg}{a:Int}(hl:∀b∈l,allS eH b.shape=true):∀{ss:List Shape},(ar l a ss).2.err=0->∀x∈(ar l a ss).1,bS x=true
 |[],_,x,hx=>by cases hx
 |s::r,h,x,hx=>by
  rw[fj]at h hx;by_cases c:(aH s l).2=0
  ·rw[NC c]at h hx;by_cases d:(ar l a r).2.err=0
   ·rw[NC d]at hx;rcases NG.1 hx with rfl|hx
    ·exact mq hl c
    ·exact ph hl d x hx
   ·rw[Ny d]at hx;cases hx
  ·rw[Ny c]at hx;cases hx
theorem nA:∀{ns:List Str} {ss:List Shape},(∀x∈ss,allS eH x=true)->∀b∈fh ns ss,allS eH b.shape=true
 |[],_,_,b,hb=>by simp only[fh]at hb;cases hb
 |_::_,[],_,b,hb=>by simp only[fh]at hb;cases hb
 |n::ns,s::ss,h,b,hb=>by
  simp only[fh]at hb;rcases NG.1 hb with rfl|hb
  ·exact h s (.head _)
  ·exact nA (fun x hx=>h x (.tail _ hx)) b hb
theorem wA:allS eH aK=true:=rfl
theorem mR{l:List Shape}(h:∀x∈l,allS eH x=true)(j:Nat):allS eH (l.getD j aK)=true:=by
 rcases NF j l.length with k|k
 ·exact h _ (AL.getD_mem l j aK k)
 ·rw[NB,Nz k];exact wA
theorem lg{k:Int}{o m:Str}{ns:List Str}{ps:List Shape}(hk:k≠9)(h:∀x∈ps,allS eH x=true):allS eH ⟨k,o,m,ns,ps⟩=true:=by rw[allS_eq,Nx,allL_all,NJ];exact⟨by unfold eH;rw[Xf hk];rfl,h⟩
theorem ye{k:Int}(hk:k≠9):allS eH (ofK k)=true:=lg hk (fun x hx=>by cases hx)
theorem wB{s:Shape}(h:allS eH s=true){x:Shape}(hx:x∈s.parts):allS eH x=true:=by rw[allS_eq,Nx]at h;exact fG h.2 hx
def Cl(r:Shape×Flt):Prop:=r.2.err=0->allS eH r.1=true
theorem cI{c:Prop}[Decidable c]{a b:Shape×Flt}(h1:c->Cl a)(h2:¬c->Cl b):Cl (if c then a else b):=by
 by_cases h:c
 ·rw[NC h];exact h1 h
 ·rw[Ny h];exact h2 h
section
variable {T:Trm->Envt->Shape×Flt} (hT:∀p e,ClE e->(T p e).2.err=0->allS eH (T p e).1=true)
include hT
theorem pj{e:Envt}(he:ClE e):∀{ps:List Trm},(cZ T e ps).2.2.err=0->∀x∈(cZ T e ps).1,allS eH x=true
 |[],_,x,hx=>by cases hx
 |p::r,h,x,hx=>by
  simp only[cZ]at h hx;by_cases c:(T p e).2.err=0
  ·rw[NC c]at h hx;rcases NG.1 hx with rfl|hx
   ·exact hT p e he c
   ·exact pj he h x hx
  ·rw[Ny c]at hx;cases hx
theorem yf{t:Trm}{e:Envt}(he:ClE e):Cl (b6 T t e):=by
 unfold b6
 refine cI (fun _ _=>ye (by decide)) fun _=>cI (fun _ _=>ye (by decide)) fun _=>cI (fun _ _=>ye (by decide)) fun _=>cI (fun _=>?_) fun _=>cI (fun _=>?_) fun _=>cI (fun _=>?_) fun _=>cI (fun _=>?_) fun _=>
  cI (fun _=>?_) fun _=>cI (fun _=>?_) fun _=>cI (fun _=>?_) fun _=>?_
 ·cases g:aC e.values t.pkg t.name with
  |none=>exact fun h=>absurd (show(110:Int)=0 from h) (by decide)
  |some s=>intro _;obtain⟨b,hb,rfl⟩:=og g;exact mQ (he.values b hb)
 ·unfold fI;refine cI (fun c=>?_) fun c h=>absurd h c;have hr:=hT _ e he c;refine cI (fun _=>cI (fun _ _=>hr) fun d h=>absurd h d) fun _=>cI (fun _=>cI (fun _ _=>mR (fun x hx=>wB hr hx) _) fun d h=>absurd h d) fun _ h=>absurd (show(140:Int)=0 from h) (by decide)
 ·refine cI (fun c _=>lg (by decide) (pj hT he c)) fun c h=>absurd h c
 ·unfold gY;refine cI (fun c=>?_) fun c h=>absurd h c;have hr:=hT _ e he c;refine cI (fun _ _=>hr) fun _=>cI (fun d _=>?_) fun _ h=>absurd (show(140:Int)=0 from h) (by decide)
  cases g:bR (T (t.parts.getD 0 aT) e).1 t.name with|none=>rw[g]at d;exact absurd d.2 Oz|some x=>exact wB hr (wi g).2
 ·intro c;exact lg (by decide) (fun x hx=>by rw[O8.1 hx];exact hT _ e he c)
 ·refine cI (fun c h=>?_) fun c h=>absurd h c;exact hT _ _ (he.with fun b hb=>by rw[O8.1 hb];exact hT _ e he c) h
 ·cases g:df e.own t.name with
  |none=>rw[kg g];exact fun h=>absurd (show(110:Int)=0 from h) (by decide)
  |some s=>rw[ki g];obtain⟨b,hb,rfl⟩:=wz g;refine cI (fun _ _=>mQ (he.own b hb)) fun _ _=>lg (by decide) (fun x hx=>by cases hx)
 ·unfold cG;refine cI (fun c=>?_) fun c h=>absurd h c;have hs:=ph he.types c;have hn:∀x∈(ar e.types t.pos t.shapes).1,allS eH x=true:=fun x hx=>(jF.1 (hs x hx)).2;refine cI (fun _ h=>?_) fun _=>cI (fun _=>cI (fun _ _=>lg (by decide) hn) fun d h=>absurd h d) fun _=>cI (fun _ _=>mR hn _) fun _=>cI (fun _ _=>mR hn _) fun _ _=>mR hn _;refine lg (by decide) (fun x hx=>?_);rcases Oi.1 hx with hx|hx
  ·exact hn x hx
  ·rw[O8.1 hx];exact hT _ _ (he.with (nA hn)) h
end
theorem pk:∀(n:Nat)(t:Trm)(e:Envt),ClE e->(ag n t e).2.err=0->allS eH (ag n t e).1=true
 |0,_,_,_,_=>wA
 |n+1,t,e,he,h=>by
  have hp:=yf (T:=ag n) (fun p e he h=>pk n p e he h) (t:=t) he;rw[show ag (n+1) t e=gZ t (b6 (ag n) t e)from rfl]at h⊢;unfold gZ at h⊢;by_cases h1:(b6 (ag n) t e).2.err=0
  ·rw[NC h1]at h⊢;by_cases h2:ay (b6 (ag n) t e).1=0
   ·rw[NC h2];exact mQ (hp h1)
   ·rw[Ny h2]at h;exact absurd h h2
  ·rw[Ny h1]at h;exact absurd h h1
end Go.Pd
end
section
namespace Go.Pd
open Go Go.AL
def bc(o:Str):List AL.Item->List Bndg
 |[]=>[]
 |x::r=>if x.kind=1 then⟨o,x.name,x.shape⟩::bc o r else if x.kind=2 then⟨o,x.name,dN o x.name⟩::bc o r else bc o r
def dh(o:Str):List AL.Item->List Bndg
 |[]=>[]
 |x::r=>if x.kind=3 then⟨o,x.name,x.shape⟩::dh o r else dh o r
def MF(d:Depd)(e:Envt):Envt:=⟨e.self,e.types++bc d.name d.items,e.values++dh d.name d.items,e.own⟩
def eI:List Depd->Str->Option Depd
 |[],_=>none
 |d::r,n=>match eI r n with
  |some x=>some x
  |none=>if d.name=n then some d else none
structure ImC where
 f:Flt
 e:Envt
def dG(ds:List Depd):List Impt->Envt->ImC
 |[],e=>⟨cu,e⟩
 |i::r,e=>match eI ds i.name with
  |none=>⟨⟨282,i.pos⟩,e⟩
  |some d=>dG ds r (MF d e)
structure Cst where
 e:Envt
 m:List (Str×AL.Item)
structure DcC where
 f:Flt
 c:Cst
def Gs(d:Dcl)(c:Cst)(r:Shape×Flt):DcC:=
 if r.2.err=0 then⟨r.2,⟨bY c.e [gf d.name r.1],cR (K:=Str) c.m d.name ⟨3,d.name,r.1⟩⟩⟩else⟨r.2,c⟩
def Gt(d:Dcl)(c:Cst)(r:Shape×Int):DcC:=
 if r.2=0 then
  (if d.kind=2 then⟨cu,⟨⟨c.e.self,c.e.types++[gf d.name (dN c.e.self d.name)],c.e.values,c.e.own++[gf d.name r.1]⟩,cR (K:=Str) c.m d.name ⟨2,d.name,aK⟩⟩⟩
   else⟨cu,⟨⟨c.e.self,c.e.types++[gf d.name r.1],c.e.values,c.e.own⟩,cR (K:=Str) c.m d.name ⟨d.kind,d.name,r.1⟩⟩⟩)
 else⟨⟨r.2,d.pos⟩,c⟩
def jN(d:Dcl)(c:Cst):DcC:=if d.kind=3 then Gs d c (eG d.term c.e)else Gt d c (aH d.shape c.e.types)
def di:List Dcl->Cst->DcC
 |[],c=>⟨cu,c⟩
 |d::r,c=>if(jN d c).f.err=0 then di r (jN d c).c else jN d c
structure ExC where
 f:Flt
 l:List AL.Item
def jq(a:Int)(m:List (Str×AL.Item)):List Str->List AL.Item->ExC
 |[],out=>⟨cu,out⟩
 |n::r,out=>match cm (K:=Str) m n with
  |none=>⟨⟨150,a⟩,[]⟩
  |some x=>jq a m r (out++[x])
def jG(l:List AL.Item):List AL.Item:=l.mergeSort fun a b=>decide (a.name<=b.name)
def Gu(r:ExC):ExC:=if r.f.err=0 then⟨cu,jG r.l⟩else⟨r.f,[]⟩
def Ji(base:List Bndg)(m:Modu)(i:ImC):ExC:=
 if i.f.err=0 then
  (if(di m.decls ⟨i.e,[]⟩).f.err=0 then Gu (jq m.pos (di m.decls ⟨i.e,[]⟩).c.m m.exports [])else⟨(di m.decls ⟨i.e,[]⟩).f,[]⟩)
 else⟨i.f,[]⟩
def lv(base:List Bndg)(self:Str):Envt:=⟨self,[],base,[]⟩
def fN(base:List Bndg)(m:Modu)(ds:List Depd):ExC:=
 if cH m=0 then Ji base m (dG ds m.imports (lv base m.name))else⟨⟨cH m,0⟩,[]⟩
structure Eqv(e f:Envt):Prop where
 self:e.self=f.self
 own:e.own=f.own
 types:∀o m,aC e.types o m=aC f.types o m
 vals:∀o m,aC e.values o m=aC f.values o m
theorem pn{l m:List Bndg}(h:∀o n,aC l o n=aC m o n)(s:Shape):aH s l=aH s m:=by have:aC l=aC m:=funext fun o=>funext fun n=>h o n;unfold aH;rw[this]
theorem um{l m:List Bndg}(h:∀o n,aC l o n=aC m o n)(a:Int):∀ss:List Shape,ar l a ss=ar m a ss
 |[]=>by simp only[ar]
 |s::r=>by rw[fj,fj,pn h,um h a r]
theorem Eqv.with{e f:Envt}(h:Eqv e f)(l:List Bndg):Eqv (bY e l) (bY f l):=
 ⟨h.self,h.own,h.types,fun o m=>by
  show aC (e.values++l) o m=aC (f.values++l) o m;rw[fk,fk,h.vals o m]⟩
theorem wC:∀(n:Nat)(t:Trm)(e f:Envt),Eqv e f->ag n t e=ag n t f
 |0,_,_,_,_=>rfl
 |n+1,t,e,f,h=>by show gZ t (b6 (ag n) t e)=gZ t (b6 (ag n) t f);rw[xS (Q:=fun _=>True) (R:=Eqv) (fun p _ e f h=>wC n p e f h) (fun e f l h=>h.with l) (fun _ _=>trivial) (fun _ _=>trivial) h (um h.types _ _) h.own h.self (fun _=>h.vals _ _)]
theorem Gv{e f:Envt}(h:Eqv e f)(t:Trm):eG t e=eG t f:=by unfold eG;rw[wC _ t e f h]
structure EqC(r q:DcC):Prop where
 f:r.f=q.f
 e:Eqv r.c.e q.c.e
 m:r.c.m=q.c.m
theorem Lc(d:Dcl){c b:Cst}(h:Eqv c.e b.e)(hm:c.m=b.m):EqC (jN d c) (jN d b):=by
 unfold jN;by_cases k:d.kind=3
 ·rw[NC k,NC k,Gv h];unfold Gs;split
  ·exact⟨rfl,h.with _,by show cR _ _ _=cR _ _ _;rw[hm]⟩
  ·exact⟨rfl,h,hm⟩
 ·rw[Ny k,Ny k,pn h.types];unfold Gt;have ty:∀(x:Bndg) o m,aC (c.e.types++[x]) o m=aC (b.e.types++[x]) o m:=fun x o m=>by rw[fk,fk,h.types]
  split
  ·split
   ·exact⟨rfl,⟨h.self,by show _++_=_++_;rw[h.own],by rw[h.self];exact ty _,h.vals⟩,by show cR _ _ _=cR _ _ _;rw[hm]⟩
   ·exact⟨rfl,⟨h.self,h.own,ty _,h.vals⟩,by show cR _ _ _=cR _ _ _;rw[hm]⟩
  ·exact⟨rfl,h,hm⟩
theorem AA:∀(l:List Dcl) {c b:Cst},Eqv c.e b.e->c.m=b.m->(di l c).f=(di l b).f/\(di l c).c.m=(di l b).c.m
 |[],c,b,h,hm=>⟨rfl,hm⟩
 |d::r,c,b,h,hm=>by
  have q:=Lc d h hm;simp only[di];rw[q.f];split
  ·exact AA r q.e q.m
  ·exact⟨q.f,q.m⟩
end Go.Pd
end
