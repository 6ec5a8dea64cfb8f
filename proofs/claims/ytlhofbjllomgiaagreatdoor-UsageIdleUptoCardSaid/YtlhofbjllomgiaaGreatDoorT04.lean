/- The layer: Go code as conditions, and that they are sound. Plain facts. No condition. -/
import Derived.Test.YtlhofbjllomgiaaGreatDoorT03
import Derived.ChangeMaps
import Derived.Deep.DeepWitnessRowRef
import Derived.Deep.LoopGhost
import Derived.JoinedCond
import Derived.KernelRfl
import Derived.Lib.AtoiErrMem
import Derived.Lib.DecodeN
import Derived.Lib.LaidIn
import Derived.Lib.LaidU8T
import Derived.LoopIn
import Derived.LoopNIn
import Derived.OpenShut
import Derived.OwnWalkIn
import Derived.PinnedBridge
import Derived.ProofKit
import Derived.RangeFuncBox
import Derived.RangeFuncLeaves
import Derived.Scope
import Derived.Shelf.SlIter.Sorted
import Derived.Shelf.SlSortCmp.Whole1
import Derived.Shelf.Slices.CompactS
import Derived.Shelf.Slices.In.SortNone
import Derived.Shelf.Small.Strs
import Derived.Shelf.Sort.Plain
import Derived.Shelf.Strconv.Atoi
import Derived.Shelf.Strings.BuilderF
import Derived.Shelf.Strings.Cut
import Derived.Shelf.Strings.Search3
import Derived.Shelf.Strings.SlTrimAscii
import Derived.Shelf.Strings.Split
import Derived.Shelf.Unicode.DecodeAny
import Derived.Shelf.Unicode.ValidAny
import Derived.Shelf.Vars
import Derived.TacticsInMore
import Derived.Test.YtlhofbjllomgiaaGreatDoorCards
import Derived.Test.YtlhofbjllomgiaaGreatDoorProg
import Derived.Test.YtlhofbjllomgiaaGreatDoorTie
import Derived.WalkKit
import Derived.WideKeyArgs
set_option linter.all false
set_option maxRecDepth 100000
noncomputable section
namespace Go.AL
variable [Tabs]
section
variable {k:Nat} {τ:Ty} {x:den τ}
theorem pN:∀(l:List AV)(j:Nat),(finVs k τ x l)[j]?=(l[j]?).map (finV k τ x)
 |[],j=>by simp[finVs]
 |a::r,0=>by simp[finVs]
 |a::r,j+1=>by simp only[finVs,Qz];exact pN r j
theorem kM:∀l:List AV,(finVs k τ x l).length=l.length
 |[]=>rfl
 |a::r=>by simp[finVs,kM r]
theorem th(σ:Ty)(y:den σ):∀d∈cells σ y,finV k τ x d=d:=by
 cases σ with
 |st n=>cases n<;>simp[cells,de,dN,dW,eI,eJ,fh,cG,eL,hZ,fJ,fK,fL,ib,ic,fY,fM,jq,eM,ie,fZ,ig,ij,fN,dF,fO,eP,ik,il,finV]
 |_=>simp[cells,finV]
theorem qw(σ:Ty)(y:den σ):∀d∈cells σ y,lensV k d=[]:=by
 cases σ with
 |st n=>cases n<;>simp[cells,de,dN,dW,eI,eJ,fh,cG,eL,hZ,fJ,fK,fL,ib,ic,fY,fM,jq,eM,ie,fZ,ig,ij,fN,dF,fO,eP,ik,il,lensV]
 |_=>simp[cells,lensV]
theorem G1(σ:Ty)(ys:List (den σ)):∀d∈flat σ ys,finV k τ x d=d:=by intro d hd;simp only[flat,Pp]at hd;obtain⟨y,_,hy⟩:=hd;exact th σ y d hy
theorem CS(σ:Ty)(ys:List (den σ)):∀d∈flat σ ys,lensV k d=[]:=by intro d hd;simp only[flat,Pp]at hd;obtain⟨y,_,hy⟩:=hd;exact qw σ y d hy
theorem tj(d:AV):(ae (finV k τ x d)).length=(ae d).length/\∀(j:Nat)(a:AV),(ae d)[j]?=some a->(ae (finV k τ x d))[j]?=some (finV k τ x a):=by
 have one:∀{d:AV},ae d=[d]->ae (finV k τ x d)=[finV k τ x d]->(ae (finV k τ x d)).length=(ae d).length/\
   ∀(j:Nat)(a:AV),(ae d)[j]?=some a->(ae (finV k τ x d))[j]?=some (finV k τ x a):=by
  intro d h1 h2;rw[h1,h2];refine⟨rfl,fun j a ha=>?_⟩
  cases j with|zero=>simp at ha;subst ha;rfl|succ j=>simp at ha
 cases d with
 |agg cs=>exact⟨kM cs,fun j a ha=>by show(finVs k τ x cs)[j]?=_;rw[pN];have:cs[j]?=some a:=ha;rw[this];rfl⟩
 |st n y=>exact⟨rfl,fun j a ha=>by show(cells (.st n) y)[j]?=_;rw[th (.st n) y a (Ot ha)];exact ha⟩
 |row σ ys=>exact⟨rfl,fun j a ha=>by show(flat σ ys)[j]?=_;rw[G1 σ ys a (Ot ha)];exact ha⟩
 |lstp σ xs j=>
  refine one rfl ?_;simp only[finV];split
  ·split<;>rfl
  ·rfl
 |tptr σ n j=>refine one rfl ?_;simp only[finV];split<;>rfl
 |_=>exact one rfl rfl
theorem nC:∀{l:List AV} {j:Nat} {c:AV},l[j]?=some c->∀m∈lensV k c,m∈lensVs k l
 |a::r,0,c,h,m,hm=>by simp at h;subst h;simp[lensVs,hm]
 |a::r,j+1,c,h,m,hm=>by simp only[lensVs,Ow];exact Or.inr (nC (by simpa using h) m hm)
theorem tn{d c:AV}{j:Nat}(h:(ae d)[j]?=some c):∀m∈lensV k c,m∈lensV k d:=by
 intro m hm
 cases d with
 |agg cs=>exact nC h m hm
 |st n y=>rw[qw (.st n) y c (Ot h)]at hm;cases hm
 |row σ ys=>rw[CS σ ys c (Ot h)]at hm;cases hm
 |_=>
  cases j with|zero=>simp only[ae,Q4,Xs]at h;subst h;exact hm|succ j=>simp[ae]at h
structure Told(Ω:Om)(k:Nat)(τ:Ty)(n:Nat)(x:den τ)(b cap:Nat)(vals:Nat->Value):Prop where
 e:Ω.e k=some (.tail (n+1) (some b) cap)
 c1:n+1<=cap
 c2:cap<=bj
 at_:∀(j:Nat)(c:AV),(cells τ x)[j]?=some c->Ω.pub b (n *ab τ+j)/\Ω.w.cell? ⟨b,n *ab τ+j,none⟩=some (vals j)/\V Ω c (vals j)
theorem V.finV{Ω:Om}{n b cap:Nat}{vals:Nat->Value}(ht:Told Ω k τ n x b cap vals){a:AV}{v:Value}(h:V Ω a v):(∀m∈lensV k a,m=n)->V Ω (AL.finV k τ x a) v:=by
 have many:∀{cs:List AV} {vs:List Value},cs.length=vs.length->(∀m∈lensVs k cs,m=n)->(∀(j:Nat)(d:AV)(v:Value),cs[j]?=some d->vs[j]?=some v->(∀m∈lensV k d,m=n)->V Ω (AL.finV k τ x d) v)->
   (finVs k τ x cs).length=vs.length/\∀(j:Nat)(d:AV)(v:Value),(finVs k τ x cs)[j]?=some d->vs[j]?=some v->V Ω d v:=by
  intro cs vs hl hm ih;refine⟨by rw[kM,hl],fun j d v hd hv=>?_⟩;rw[pN]at hd;simp only[Ov]at hd;obtain⟨d0,hd0,rfl⟩:=hd;exact ih j d0 v hd0 hv (fun m hmm=>hm m (nC hd0 m hmm))
 induction h with
 |lstp σ xs j b' off cap' vals' h1 h2 h3 h4 h5 _=>
  intro hm;simp only[AL.finV];split
  ·rename_i hjk;have hjk:=On hjk;subst hjk;split
   ·rename_i l hl;obtain⟨e,hl⟩:=gm hl;subst e;simp only at hl;subst hl;have hlen:xs.length=n:=hm xs.length (by simp[lensV]);obtain⟨m,base,cap2,r1,r2,r3⟩:=h3 _ rfl;rw[ht.e]at r1;simp only[Xs,CObj.tail.injEq]at r1;obtain⟨rfl,rfl,rfl⟩:=r1;have r3:=r3 (by omega);simp only[dC,Po,Xs,Qt,OV,OK]at r3;obtain⟨⟨rfl,rfl⟩,rfl⟩:=r3;have hlx:(xs++[x]).length=xs.length+1:=by simp
    have hcase:∀(i:Nat)(y:den τ),(xs++[x])[i]?=some y->(i<xs.length/\xs[i]?=some y)∨(i=xs.length/\y=x):=by
     intro i y hy;by_cases hi:i<xs.length
     ·rw[Ob hi]at hy;exact Or.inl ⟨hi,hy⟩
     ·rw[Oe (by omega)]at hy
      have:i-xs.length=0:=by
       rcases Qg (i-xs.length)with q|q
       ·exact q
       ·rw[O2 (by simp;omega)]at hy;cases hy
      rw[this]at hy;simp at hy;exact Or.inr ⟨by omega,hy.symm⟩
    have:=V.lst (Ω:=Ω) τ (xs++[x]) (some j) b' 0 cap' (fun i q=>if i<xs.length then vals' i q else vals q) (by rw[hlx];exact h1) h2 (by
      rw[hlx];intro id hid;cases hid;exact⟨n+1,some b',cap',ht.e,by omega,fun e=>by simp[dC]⟩)
     (fun i y hy q c hc=>by
      rcases hcase i y hy with⟨hi,hy'⟩|⟨rfl,rfl⟩
      ·simp only[O3 hi];exact h4 i y hy' q c hc
      ·simp only[RH,OL,P0];have:=ht.at_ q c hc;rw[<-hlen]at this;exact⟨this.1,this.2.1⟩)
     (fun i y hy q c hc=>by
      rcases hcase i y hy with⟨hi,hy'⟩|⟨rfl,rfl⟩
      ·simp only[O3 hi];exact h5 i y hy' q c hc
      ·simp only[RH,OL];exact(ht.at_ q c hc).2.2)
    rw[hlx]at this;exact this
   ·exact .undef _
  ·exact .lstp σ xs j b' off cap' vals' h1 h2 h3 h4 h5
 |tptr σ m j p hp=>
  intro _;simp only[AL.finV];split
  ·exact .undef _
  ·exact .tptr σ m j p hp
 |glst s n k cap a h1 h2 h3 h4=>exact fun _=>.glst s n k cap a h1 h2 h3 h4
 |gptr k s i w off b h1=>exact fun _=>.gptr k s i w off b h1
 |gsuf k s i w m b c h1=>exact fun _=>.gsuf k s i w m b c h1
 |cptr d b' o vs h1 h2 ih=>
  intro hm;obtain⟨p1,p2⟩:=tj (k:=k) (τ:=τ) (x:=x) d
  have back:∀(j:Nat)(d':AV),(ae (AL.finV k τ x d))[j]?=some d'->∃d0,(ae d)[j]?=some d0/\d'=AL.finV k τ x d0:=by
   intro j d' hd'
   have hj:j<(ae d).length:=by
    rw[<-p1];rcases O5 j (ae (AL.finV k τ x d)).length with q|q
    ·exact q
    ·rw[O2 q]at hd';cases hd'
   have:=p2 j _ (NY hj);rw[hd']at this;exact⟨_,NY hj,OG this⟩
  refine .cptr _ b' o vs (fun j d' hd'=>?_) (fun j d' hd'=>?_)
  ·obtain⟨d0,q1,_⟩:=back j d' hd';exact h1 j d0 q1
  ·obtain⟨d0,q1,rfl⟩:=back j d' hd';exact ih j d0 q1 (fun m hmm=>hm m (by simp only[lensV];exact tn q1 m hmm))
 |agg cs vs hl _ ih=>intro hm;obtain⟨q1,q2⟩:=many hl (by simpa[lensV]using hm) ih;exact .agg _ vs q1 q2
 |tup cs vs hl _ ih=>intro hm;obtain⟨q1,q2⟩:=many hl (by simpa[lensV]using hm) ih;exact .tup _ vs q1 q2
 |fn f cs vs hl _ ih=>intro hm;obtain⟨q1,q2⟩:=many hl (by simpa[lensV]using hm) ih;exact .fn f _ vs q1 q2
 |iface t a v _ ih=>intro hm;exact .iface t _ v (ih (by simpa[lensV]using hm))
 |undef v=>exact fun _=>.undef v
 |int k n h1 h2=>exact fun _=>.int k n h1 h2
 |bool b=>exact fun _=>.bool b
 |str s h=>exact fun _=>.str s h
 |lstNil τ o ht=>exact fun _=>.lstNil τ o ht
 |lstVoid τ a=>exact fun _=>.lstVoid τ a
 |lst τ xs o b' off' cap vals' h1 h2 h3 h4 h5 _=>exact fun _=>.lst τ xs o b' off' cap vals' h1 h2 h3 h4 h5
 |nils=>exact fun _=>.nils
 |nilp=>exact fun _=>.nilp
 |ptr i o b' p len he=>exact fun _=>.ptr i o b' p len he
 |ptNone n=>exact fun _=>.ptNone n
 |ptSome n x v hv _=>exact fun _=>.ptSome n x v hv
 |arr i n w b' len cap a he h1 h2 h3 h4=>exact fun _=>.arr i n w b' len cap a he h1 h2 h3 h4
 |aptr i n w o b' p len he=>exact fun _=>.aptr i n w o b' p len he
 |map i r he=>exact fun _=>.map i r he
 |bptr i b g he=>exact fun _=>.bptr i b g he
 |nilif=>exact fun _=>.nilif
 |nilm=>exact fun _=>.nilm
 |st n x v hv _=>exact fun _=>.st n x v hv
end
theorem lL{n:Nat}:∀{l:List Nat} {q:Prop},xt n l q->(∀m∈l,m=n)/\q
 |[],q,h=>⟨fun _ hm=>absurd hm Pz,h⟩
 |m::r,q,h=>by obtain⟨h1,h2⟩:=h;obtain⟨h3,h4⟩:=lL h2;exact⟨fun i hi=>(O7.1 hi).elim (fun e=>e ▸ h1) (h3 i),h4⟩
theorem CT{F:Fr}{s:St}{a:Act}{Ω:Om}{k:Nat}{Q:St->Prop}(h:Holds F s.abs a Ω)(hf:Co k s Q):∃s' Ω',Ω'.w=Ω.w/\Holds F s'.abs a Ω'/\Q s':=by
 unfold Co at hf;split at hf
 ·rename_i τ n x hb;obtain⟨hlens,hq⟩:=lL hf;refine⟨⟨s.t.map fun y=>(y.1,finV k τ x y.2),(r8 s.b k (.tail τ (n+1))).map fun y=>(y.1,FA k τ x y.2)⟩,?_⟩;obtain⟨b,cap,e1,e2,e3,e4,⟨vs,ty,fz,e5,e6,e7⟩,e8,e9⟩:=h.slots k _ hb
  let Ω1:Om:=⟨Ω.e,Ω.w,fun b' o=>Ω.pub b' o∨(b'=b/\n *ab τ<=o/\o<n *ab τ+ab τ)⟩
  have hx1:Ext Ω Ω1:=⟨fun i c hc=>⟨c,hc,CLe.refl c⟩,fun _ _ p=>Or.inl p,fun _ _ _=>rfl⟩
  have htold:Told Ω1 k τ n x b cap (fun j=>(Ω.w.cell? ⟨b,n *ab τ+j,none⟩).getD undef):=by
   refine⟨e1,e2,e3,fun j c hc=>?_⟩;obtain⟨v,k1,k2⟩:=e9 j c hc
   have hj:j<ab τ:=by
    rw[<-aQ τ x];rcases O5 j (cells τ x).length with q|q
    ·exact q
    ·rw[O2 q]at hc;cases hc
   refine⟨Or.inr ⟨rfl,by omega,by omega⟩,?_,?_⟩
   ·show Ω.w.cell? _=_;rw[k1];rfl
   ·simp only[k1,OX];exact k2.ext hx1
  have hcell:∀o,n *ab τ<=o->o<n *ab τ+ab τ->∃v,Ω.w.cell? ⟨b,o,none⟩=some v:=by
   intro o h1 h2;have hj:o-n *ab τ<(cells τ x).length:=by rw[aQ];omega
   obtain⟨v,k1,_⟩:=e9 (o-n *ab τ) _ (NY hj);exact⟨v,by rw[show n *ab τ+(o-n *ab τ)=o by omega]at k1;exact k1⟩
  refine⟨Ω1,rfl,⟨fun i=>?_,h.size,h.defers,fun id o ho=>?_,fun id hid=>?_,h.inj,fun b' o hp=>?_,h.keep,?_⟩,hq⟩
  ·simp only[St.abs];rw[oL (finV k τ x) rfl s.t i];refine V.finV htold ((h.tmps i).ext hx1) (fun m hm=>?_);rcases jX s.t i with hu|hm'
   ·rw[hu]at hm;cases hm
   ·exact hlens m (List.mem_append_left _ (Pp.2 ⟨_,hm',hm⟩))
  ·simp only[St.abs]at ho;rw[ja (FA k τ x) _ id,iY]at ho;by_cases hid:k=id
   ·subst hid;rw[O3 rfl]at ho;simp only[Pr,Xs,FA]at ho;subst ho;refine⟨some b,cap,e1,e2,e3,by simp,fun b2 hb2=>?_⟩;simp only[Xs]at hb2;subst hb2;refine⟨e4,vs,ty,fz,e5,e6,e7,fun o ho hp=>?_⟩;rw[OU,QX]at ho;rcases hp with hp|⟨_,hp1,hp2⟩
    ·exact e8 o (by omega) hp
    ·omega
   ·rw[O0 hid]at ho;simp only[Ov]at ho;obtain⟨o0,ho0,rfl⟩:=ho;have hs:=h.slots id o0 ho0;have apart:∀c0,Ω.e id=some c0->∀b' o,occ c0 b' o->b'≠b:=by intro c0 hc0 b' o hoc hk;subst hk;exact hid (h.inj k id _ c0 b' o e1 hc0 rfl hoc)
    cases o0 with
    |box d=>
     obtain⟨b2,off2,g1,g2⟩:=hs;obtain⟨p1,p2⟩:=tj (k:=k) (τ:=τ) (x:=x) d;refine⟨b2,off2,by show Ω.e id=_;rw[g1,p1],fun j d' hd'=>?_⟩
     have hj:j<(ae d).length:=by
      rw[<-p1];rcases O5 j (ae (finV k τ x d)).length with q|q
      ·exact q
      ·rw[O2 q]at hd';cases hd'
     have hd2:=p2 j _ (NY hj);rw[hd']at hd2;obtain⟨m1,m2,m3,v,m4,m5⟩:=g2 j _ (NY hj);refine⟨m1,fun hp=>?_,m3,v,m4,?_⟩
     ·rcases hp with hp|hp
      ·exact m2 hp
      ·exact apart _ g1 b2 (off2+j) ⟨rfl,by omega,by omega⟩ hp.1
     ·rw[OG hd2];refine V.finV htold (m5.ext hx1) (fun m hm=>hlens m (List.mem_append_right _ (Pp.2 ⟨(id,.box d),bY _ _ _ ho0,?_⟩)));exact tn (NY hj) m hm
    |tail σ m=>
     obtain⟨base,cap2,g1,g2,g3,g4,g5⟩:=hs;refine⟨base,cap2,g1,g2,g3,g4,fun b2 hb2=>?_⟩;obtain⟨m1,vs',ty',fz',m2,m3,m4,m5⟩:=g5 b2 hb2;refine⟨m1,vs',ty',fz',m2,m3,m4,fun o ho hp=>?_⟩;rcases hp with hp|hp
     ·exact m5 o ho hp
     ·exact apart _ g1 b2 o hb2 hp.1
    |map κ σ m=>obtain⟨r,g1,g2,es,clock,g3,g4⟩:=hs;exact⟨r,g1,g2,es,clock,g3,g4.ext hx1⟩
    |bld t u l=>
     obtain⟨b2,g,g1,g2,g3⟩:=hs;refine⟨b2,g,g1,fun b3 hb3 o=>⟨(g2 b3 hb3 o).1,fun hp=>?_⟩,g3⟩;rcases hp with hp|hp
     ·exact(g2 b3 hb3 o).2 hp
     ·exact apart _ g1 b3 o hb3 hp.1
    |tailp σ m y=>
     obtain⟨b2,cap2,g1,g2,g3,g4,g5,g6,g7⟩:=hs;refine⟨b2,cap2,g1,g2,g3,g4,g5,fun o ho hp=>?_,fun j c hc=>?_⟩
     ·rcases hp with hp|hp
      ·exact g6 o ho hp
      ·exact apart _ g1 b2 o rfl hp.1
     ·obtain⟨v,k1,k2⟩:=g7 j c hc;exact⟨v,k1,k2.ext hx1⟩
    |grow σ m ys=>
     obtain⟨base,cap2,g1,g2,g3,g4,g5⟩:=hs;refine⟨base,cap2,g1,g2,g3,g4,fun b2 hb2=>?_⟩;obtain⟨m1,m2,m3,m4⟩:=g5 b2 hb2;refine⟨m1,m2,fun o hp=>?_,fun j c hc=>?_⟩
     ·rcases hp with hp|hp
      ·exact m3 o hp
      ·exact apart _ g1 b2 o hb2 hp.1
     ·obtain⟨v,k1,k2⟩:=m4 j c hc;exact⟨v,k1,k2.ext hx1⟩
  ·simp only[St.abs]at hid;rw[ja (FA k τ x) _ id,iY]at hid;by_cases hk:k=id
   ·subst hk;simp at hid
   ·rw[O0 hk]at hid;exact h.dom id (by show aj s.b id=none;simpa using hid)
  ·rcases hp with hp|⟨rfl,hp1,hp2⟩
   ·exact h.pubok b' o hp
   ·exact hcell o hp1 hp2
  ·refine⟨h.frame.os,h.frame.tape,h.frame.output,h.frame.size,h.frame.block,h.frame.cell,h.frame.kind,fun b' o hp=>?_,fun b' o hp=>Or.inl (h.frame.old b' o hp),h.frame.pcell⟩;rcases hp with hp|⟨rfl,hp1,hp2⟩
   ·exact h.frame.pub b' o hp
   ·exact Or.inr (e4 o)
 ·exact⟨s,Ω,rfl,h,hf⟩
theorem tp{F:Fr}{a:Act}{Q:St->Prop}:∀(l:List Nat) {s:St} {Ω:Om},Holds F s.abs a Ω->Cp l s Q->∃s' Ω',Ω'.w=Ω.w/\Holds F s'.abs a Ω'/\Q s'
 |[],s,Ω,h,hf=>⟨s,Ω,rfl,h,hf⟩
 |k::r,s,Ω,h,hf=>by obtain⟨s1,Ω1,g1,g2,g3⟩:=CT (Q:=fun s=>Cp r s Q) h hf;obtain⟨s2,Ω2,k1,k2,k3⟩:=tp r g2 g3;exact⟨s2,Ω2,k1.trans g1,k2,k3⟩
theorem nD{F:Fr}{a:Act}{Q:St->Prop}{s:St}{Ω:Om}(h:Holds F s.abs a Ω)(hf:Mz s Q):∃s' Ω',Ω'.w=Ω.w/\Holds F s'.abs a Ω'/\Q s':=tp _ h hf
theorem G2{k:Nat}{s:St}{Q:St->Prop}(hf:Co k s Q):∃s',Q s':=by
 unfold Co at hf;split at hf
 ·exact⟨_,(lL hf).2⟩
 ·exact⟨s,hf⟩
theorem mD{Q:St->Prop}:∀(l:List Nat) {s:St},Cp l s Q->∃s',Q s'
 |[],s,hf=>⟨s,hf⟩
 |k::r,s,hf=>by obtain⟨s1,h1⟩:=G2 (Q:=fun s=>Cp r s Q) hf;exact mD r h1
end Go.AL
end
noncomputable section
namespace Go.AL
theorem lM(i j k:Nat):ev i j k=if k=i then j else if k=j then i else k:=by
 unfold ev;by_cases h:k=i
 ·rw[O3 h,h,RQ]
 ·have h':Nat.beq k i=false:=by
   cases hb:Nat.beq k i with|false=>rfl|true=>exact absurd (On hb) h
  rw[O0 h,h'];by_cases g:k=j
  ·rw[O3 g,g,RQ]
  ·have g':Nat.beq k j=false:=by
    cases hb:Nat.beq k j with|false=>rfl|true=>exact absurd (On hb) g
   rw[O0 g,g']
theorem fG(i j k:Nat):ev i j (ev i j k)=k:=by
 rw[lM i j k];split
 ·rename_i h;rw[lM];split<;>simp_all
 ·rename_i h;split
  ·rename_i g;rw[lM];simp_all
  ·rename_i g;rw[lM,O0 h,O0 g]
variable [Tabs]
theorem zI(i j:Nat):∀(l:List (Nat×AV))(k:Nat),aZ (FC i j l) k=.undef∨Ii i j (aZ l k)=some (aZ (FC i j l) k)
 |[],k=>.inl rfl
 |(m,a)::r,k=>by
  simp only[FC,eo,dc];by_cases h:(m ==k)=true
  ·rw[O3 h,O3 h]
   cases hr:Ii i j a with|none=>exact .inl rfl|some a'=>exact .inr rfl
  ·rw[O0 h,O0 h];exact zI i j r k
inductive RenO(i j:Nat):SObj->SObj->Prop
 |box {c c':AV}:Ii i j c=some c'->RenO i j (.box c) (.box c')
 |same {o:SObj}:(∀c,o≠.box c)->RenO i j o o
theorem tq(i j:Nat):∀{l m:List (Nat×SObj)},su i j l=some m->∀k,(∀o',aj m k=some o'->∃o,aj l (ev i j k)=some o/\RenO i j o o')/\(aj m k=none->aj l (ev i j k)=none)
 |[],m,h,k=>by cases h;exact⟨fun o' q=>(by cases q),fun _=>rfl⟩
 |(n,o)::r,m,h,k=>by
  have step:∀{o1:SObj} {r':List (Nat×SObj)},su i j r=some r'->RenO i j o o1->m=(ev i j n,o1)::r'->
    (∀o',aj m k=some o'->∃o2,aj ((n,o)::r) (ev i j k)=some o2/\RenO i j o2 o')/\(aj m k=none->aj ((n,o)::r) (ev i j k)=none):=by
   rintro o1 r' hr ho rfl;obtain⟨h1,h2⟩:=tq i j hr k;simp only[b5,aH,Pa];by_cases e:ev i j n=k
   ·have e':n=ev i j k:=by rw[<-e,fG]
    rw[O3 e,O3 e'];exact⟨fun o' q=>⟨o,rfl,(by cases q;exact ho)⟩,fun q=>(by cases q)⟩
   ·have e':¬n=ev i j k:=fun q=>e (by rw[q,fG]);rw[O0 e,O0 e'];exact⟨h1,h2⟩
  cases o with
  |box c=>
   simp only[su]at h;split at h
   ·rename_i c' r' hc hr;exact step hr (.box hc) (OG h).symm
   ·cases h
  |tail τ n'=>
   simp only[su]at h;split at h
   ·rename_i r' hr;exact step hr (.same (fun c q=>by cases q)) (OG h).symm
   ·cases h
  |grow τ n' xs'=>
   simp only[su]at h;split at h
   ·rename_i r' hr;exact step hr (.same (fun c q=>by cases q)) (OG h).symm
   ·cases h
  |map κ τ m'=>
   simp only[su]at h;split at h
   ·rename_i r' hr;exact step hr (.same (fun c q=>by cases q)) (OG h).symm
   ·cases h
  |bld t u l'=>
   simp only[su]at h;split at h
   ·rename_i r' hr;exact step hr (.same (fun c q=>by cases q)) (OG h).symm
   ·cases h
  |tailp τ n' x=>
   simp only[su]at h;split at h
   ·rename_i r' hr;exact step hr (.same (fun c q=>by cases q)) (OG h).symm
   ·cases h
theorem nE{F:Fr}{s s':St}{a:Act}{Ω:Om}{i j:Nat}(h:Holds F s.abs a Ω)(hr:Ij i j s=some s'):∃Ω',Ω'.w=Ω.w/\Holds F s'.abs a Ω':=by
 unfold Ij at hr;split at hr
 ·rename_i hl;simp only[NZ,Oa]at hl;obtain⟨hi,hj⟩:=hl;split at hr
  ·rename_i b hb;cases hr
   have hn:Names (fun k o=>some (ev i j k,o)) (fun k=>some (ev i j k)) (fun k=>some (ev i j k)) Ω.e (fun k=>Ω.e (ev i j k)):=by
    refine⟨?_,?_,?_⟩
    ·intro k o k' o' q b p l he;cases q;exact⟨p,l,by simp only[fG];exact he,rfl⟩
    ·intro k k' q c he;cases q;simp only[fG];exact he
    ·intro k k' q c he;cases q;simp only[fG];exact he
   refine⟨⟨fun k=>Ω.e (ev i j k),Ω.w,Ω.pub⟩,rfl,fun k=>?_,h.size,h.defers,fun id o ho=>?_,fun id hid=>?_,fun x y cx cy b o hx hy hbx hby=>?_,h.pubok,fun id c hc=>?_,?_⟩
   ·rcases zI i j s.t k with e|e
    ·have e:(St.abs ⟨FC i j s.t,b⟩).T k=.undef:=e;rw[e];exact .undef _
    ·exact V.mapV hn (h.tmps k) e
   ·obtain⟨o0,h1,h2⟩:=(tq i j hb id).1 o ho;have hs:=h.slots (ev i j id) o0 h1
    cases h2 with
    |@box c c' hc=>
     obtain⟨b',off,g1,g2⟩:=hs;obtain⟨hlen,hat⟩:=j8 hc;refine⟨b',off,by show Ω.e (ev i j id)=_;rw[g1,hlen],fun k d' hd=>?_⟩;have hk:k<(ae c).length:=by rw[hlen];exact(OA.1 hd).1
     obtain⟨d,hd0⟩:∃d,(ae c)[k]?=some d:=⟨_,NY hk⟩;obtain⟨k1,k2,k3,v,k4,k5⟩:=g2 k d hd0;exact⟨k1,k2,k3,v,k4,V.mapV hn k5 (hat k d d' hd0 hd)⟩
    |same hne=>
     cases o with
     |box c=>exact absurd rfl (hne c)
     |tail τ n=>exact hs
     |map κ τ m=>obtain⟨r,g1,g2,es,clock,g3,g4⟩:=hs;exact⟨r,g1,g2,es,clock,g3,g4.data⟩
     |bld t u l=>exact hs
     |grow τ n xs=>obtain⟨base,cap,g1,g2,g3,g4,g5⟩:=hs;refine⟨base,cap,g1,g2,g3,g4,fun b hb=>?_⟩;obtain⟨q1,q2,q3,q4⟩:=g5 b hb;refine⟨q1,q2,q3,fun j c hj=>?_⟩;obtain⟨v,v1,v2⟩:=q4 j c hj;exact⟨v,v1,v2.flat hj⟩
     |tailp τ n x=>obtain⟨b',cap,g1,g2,g3,g4,g5,g6,g7⟩:=hs;refine⟨b',cap,g1,g2,g3,g4,g5,g6,fun k c hc=>?_⟩;obtain⟨v,k1,k2⟩:=g7 k c hc;exact⟨v,k1,V.mapV hn k2 (gQ τ x c (Ot hc))⟩
   ·exact h.dom _ ((tq i j hb id).2 hid)
   ·have:=h.inj _ _ cx cy b o hx hy hbx hby;rw[<-fG i j x,this,fG]
   ·have hd:=F.dom0 id c hc
    have e:ev i j id=id:=by
     rw[lM];split
     ·rename_i e;rw[e,hi]at hd;cases hd
     ·split
      ·rename_i e;rw[e,hj]at hd;cases hd
      ·rfl
    obtain⟨c',g1,g2⟩:=h.keep id c hc;exact⟨c',by simp only[e];exact g1,g2⟩
   ·exact⟨h.frame.os,h.frame.tape,h.frame.output,h.frame.size,h.frame.block,h.frame.cell,h.frame.kind,h.frame.pub,h.frame.old,h.frame.pcell⟩
  ·cases hr
 ·cases hr
theorem nF{F:Fr}{a:Act}:∀(l:List Nat) {s s':St} {Ω:Om},Holds F s.abs a Ω->Ik l s=some s'->∃Ω',Ω'.w=Ω.w/\Holds F s'.abs a Ω'
 |[],s,s',Ω,h,hr=>by cases hr;exact⟨Ω,rfl,h⟩
 |[_],s,s',Ω,h,hr=>by cases hr;exact⟨Ω,rfl,h⟩
 |i::j::r,s,s',Ω,h,hr=>by
  unfold Ik at hr;split at hr
  ·rename_i s1 h1;obtain⟨Ω1,e1,g1⟩:=nE h h1;obtain⟨Ω2,e2,g2⟩:=nF r g1 hr;exact⟨Ω2,e2.trans e1,g2⟩
  ·cases hr
theorem nG{F:Fr}{a:Act}:∀(l:List Nat) {s s':St} {Ω:Om},Holds F s.abs a Ω->Il l s=some s'->∃Ω',Ω'.w=Ω.w/\Holds F s'.abs a Ω'
 |[],s,s',Ω,h,hr=>by cases hr;exact⟨Ω,rfl,h⟩
 |[_],s,s',Ω,h,hr=>by cases hr;exact⟨Ω,rfl,h⟩
 |i::j::r,s,s',Ω,h,hr=>by
  unfold Il at hr;split at hr
  ·split at hr
   ·rename_i s1 h1;obtain⟨Ω1,e1,g1⟩:=nE h h1;obtain⟨Ω2,e2,g2⟩:=nG r g1 hr;exact⟨Ω2,e2.trans e1,g2⟩
   ·cases hr
  ·exact nG r h hr
end Go.AL
end
noncomputable section
namespace Go.AL
variable [Tabs]
theorem dH{s n:Nat}:∀{l m:List (Nat×Nat)},dZ s n (l++m)->dZ s n l/\dZ s n m
 |[],m,h=>⟨trivial,h⟩
 |(a,b)::r,m,h=>by obtain⟨h1,h2⟩:=h;obtain⟨h3,h4⟩:=dH h2;exact⟨⟨h1,h3⟩,h4⟩
section
variable {k:Nat} {τ:Ty} {xs:List (den τ)}
theorem pO:∀(l:List AV)(j:Nat),(frzVs k τ xs l)[j]?=(l[j]?).map (frzV k τ xs)
 |[],j=>by simp[frzVs]
 |a::r,0=>by simp[frzVs]
 |a::r,j+1=>by simp only[frzVs,Qz];exact pO r j
theorem kN:∀l:List AV,(frzVs k τ xs l).length=l.length
 |[]=>rfl
 |a::r=>by simp[frzVs,kN r]
theorem tt(σ:Ty)(x:den σ):∀d∈cells σ x,frzV k τ xs d=d:=by
 cases σ with
 |st n=>cases n<;>simp[cells,de,dN,dW,eI,eJ,fh,cG,eL,hZ,fJ,fK,fL,ib,ic,fY,fM,jq,eM,ie,fZ,ig,ij,fN,dF,fO,eP,ik,il,frzV]
 |_=>simp[cells,frzV]
theorem G3(σ:Ty)(ys:List (den σ)):∀d∈flat σ ys,frzV k τ xs d=d:=by intro d hd;simp only[flat,Pp]at hd;obtain⟨x,_,hx⟩:=hd;exact tt σ x d hx
theorem tu(d:AV):(ae (frzV k τ xs d)).length=(ae d).length/\∀(j:Nat)(a:AV),(ae d)[j]?=some a->(ae (frzV k τ xs d))[j]?=some (frzV k τ xs a):=by
 have one:∀{d:AV},ae d=[d]->ae (frzV k τ xs d)=[frzV k τ xs d]->(ae (frzV k τ xs d)).length=(ae d).length/\
   ∀(j:Nat)(a:AV),(ae d)[j]?=some a->(ae (frzV k τ xs d))[j]?=some (frzV k τ xs a):=by
  intro d h1 h2;rw[h1,h2];refine⟨rfl,fun j a ha=>?_⟩
  cases j with|zero=>simp at ha;subst ha;rfl|succ j=>simp at ha
 cases d with|agg cs=>exact⟨kN cs,fun j a ha=>by show(frzVs k τ xs cs)[j]?=_;rw[pO];have:cs[j]?=some a:=ha;rw[this];rfl⟩|st n x=>exact⟨rfl,fun j a ha=>by show(cells (.st n) x)[j]?=_;rw[tt (.st n) x a (Ot ha)];exact ha⟩|row σ ys=>exact⟨rfl,fun j a ha=>by show(flat σ ys)[j]?=_;rw[G3 σ ys a (Ot ha)];exact ha⟩|glst s n j=>refine one rfl ?_;simp only[frzV];split<;>rfl|_=>exact one rfl rfl
theorem pP{s n:Nat}:∀{cs:List AV} {j:Nat} {d:AV},dZ s n (stpVs k cs)->cs[j]?=some d->dZ s n (stpV k d)
 |a::r,0,d,h,hd=>by simp at hd;subst hd;unfold stpVs at h;exact(dH h).1
 |a::r,j+1,d,h,hd=>by unfold stpVs at h;exact pP (dH h).2 (by simpa using hd)
 |[],j,d,h,hd=>by simp at hd
theorem tv(σ:Ty)(x:den σ):∀d∈cells σ x,stpV k d=[]:=by
 cases σ with
 |st n=>cases n<;>simp[cells,de,dN,dW,eI,eJ,fh,cG,eL,hZ,fJ,fK,fL,ib,ic,fY,fM,jq,eM,ie,fZ,ig,ij,fN,dF,fO,eP,ik,il,stpV]
 |_=>simp[cells,stpV]
theorem tw{s n:Nat}{c d:AV}{j:Nat}(h:dZ s n (stpV k c))(hd:(ae c)[j]?=some d):dZ s n (stpV k d):=by
 have one:ae c=[c]->dZ s n (stpV k d):=fun e=>by
  rw[e]at hd
  cases j with|zero=>simp at hd;subst hd;exact h|succ j=>simp at hd
 cases c with
 |agg cs=>unfold stpV at h;exact pP h hd
 |st m x=>rw[tv (.st m) x d (Ot hd)];trivial
 |row σ ys=>have hm:d∈flat σ ys:=Ot hd;simp only[flat,Pp]at hm;obtain⟨x,_,hx⟩:=hm;rw[tv σ x d hx];trivial
 |_=>exact one rfl
structure Froz(Ω:Om)(k s:Nat)(τ:Ty)(xs:List (den τ))(base:Option Nat)(cap:Nat)(vals:Nat->Value):Prop where
 e:Ω.e k=some (.tail s base cap)
 le:xs.length<=cap
 mx:cap<=bj
 z:base=none->cap=0
 at_:∀b,base=some b->∀(j:Nat)(c:AV),(flat τ xs)[j]?=some c->Ω.pub b j/\Ω.w.cell? ⟨b,j,none⟩=some (vals j)/\V Ω c (vals j)
theorem V.frzV{Ω:Om}{s cap:Nat}{base:Option Nat}{vals:Nat->Value}(hf:Froz Ω k s τ xs base cap vals){a:AV}{v:Value}(h:V Ω a v):dZ s xs.length (stpV k a)->V Ω (AL.frzV k τ xs a) v:=by
 have many:∀{cs:List AV} {vs:List Value},dZ s xs.length (stpVs k cs)->cs.length=vs.length->(∀(j:Nat)(d:AV)(v:Value),cs[j]?=some d->vs[j]?=some v->dZ s xs.length (stpV k d)->V Ω (AL.frzV k τ xs d) v)->
   (frzVs k τ xs cs).length=vs.length/\∀(j:Nat)(d:AV)(v:Value),(frzVs k τ xs cs)[j]?=some d->vs[j]?=some v->V Ω d v:=by
  intro cs vs hst hl ih;refine⟨by rw[kN,hl],fun j d v hd hv=>?_⟩;rw[pO]at hd;simp only[Ov]at hd;obtain⟨d0,hd0,rfl⟩:=hd;exact ih j d0 v hd0 hv (pP hst hd0)
 induction h with
 |glst s1 n j cap0 a0 h1 h2 h3 h4=>
  intro hs;simp only[AL.frzV]
  cases hj:Nat.beq j k with
  |false=>exact .glst s1 n j cap0 a0 h1 h2 h3 h4
  |true=>
   have ej:=On hj;subst ej;unfold stpV at hs;rw[hj]at hs;obtain⟨⟨rfl,rfl⟩,_⟩:=hs;obtain⟨m,b2,c2,q1,q2,q3⟩:=h4;rw[hf.e]at q1;simp only[Xs,CObj.tail.injEq]at q1;obtain⟨rfl,rfl,rfl⟩:=q1;obtain⟨e1,e2⟩:=q3 rfl;subst e1 e2
   cases base with
   |none=>have hc:=hf.z rfl;have hx:xs=[]:=Oc (by have:=hf.le;omega);subst hc hx;exact .lstNil τ none (fun id hid=>by cases hid)
   |some b=>
    have fl:∀{i:Nat} {x:den τ} {j:Nat} {c:AV},xs[i]?=some x->(cells τ x)[j]?=some c->(AL.flat τ xs)[i *ab τ+j]?=some c:=fun hx hc=>gl τ xs _ _ _ _ hx hc
    exact V.lst (Ω:=Ω) τ xs none b 0 _ (fun i j=>vals (i *ab τ+j)) hf.le hf.mx (fun id hid=>by cases hid)
     (fun i x hx j c' hc=>by have:=hf.at_ b rfl _ c' (fl hx hc);rw[P0];exact⟨this.1,this.2.1⟩) (fun i x hx j c' hc=>(hf.at_ b rfl _ c' (fl hx hc)).2.2)
 |cptr d b' o vs h1 h2 ih=>
  intro hs;obtain⟨p1,p2⟩:=tu (k:=k) (xs:=xs) d
  have back:∀(j:Nat)(d':AV),(ae (AL.frzV k τ xs d))[j]?=some d'->∃d0,(ae d)[j]?=some d0/\d'=AL.frzV k τ xs d0:=by
   intro j d' hd'
   have hj:j<(ae d).length:=by
    rw[<-p1];rcases O5 j (ae (AL.frzV k τ xs d)).length with q|q
    ·exact q
    ·rw[O2 q]at hd';cases hd'
   have:=p2 j _ (NY hj);rw[hd']at this;exact⟨_,NY hj,OG this⟩
  have hs':dZ s xs.length (stpV k d):=by unfold stpV at hs;exact hs
  refine .cptr _ b' o vs (fun j d' hd'=>?_) (fun j d' hd'=>?_)
  ·obtain⟨d0,q1,_⟩:=back j d' hd';exact h1 j d0 q1
  ·obtain⟨d0,q1,rfl⟩:=back j d' hd';exact ih j d0 q1 (tw hs' q1)
 |agg cs vs hl _ ih=>intro hs;unfold stpV at hs;obtain⟨q1,q2⟩:=many hs hl ih;exact .agg _ vs q1 q2
 |tup cs vs hl _ ih=>intro hs;unfold stpV at hs;obtain⟨q1,q2⟩:=many hs hl ih;exact .tup _ vs q1 q2
 |fn f cs vs hl _ ih=>intro hs;unfold stpV at hs;obtain⟨q1,q2⟩:=many hs hl ih;exact .fn f _ vs q1 q2
 |iface t a v _ ih=>intro hs;unfold stpV at hs;exact .iface t _ v (ih hs)
 |undef v=>intro _;exact .undef v
 |int k n h1 h2=>intro _;exact .int k n h1 h2
 |bool b=>intro _;exact .bool b
 |str s h=>intro _;exact .str s h
 |lstNil τ o ht=>intro _;exact .lstNil τ o ht
 |lstVoid τ a=>intro _;exact .lstVoid τ a
 |lst τ xs o b' off' cap vals' h1 h2 h3 h4 h5 _=>intro _;exact .lst τ xs o b' off' cap vals' h1 h2 h3 h4 h5
 |nils=>intro _;exact .nils
 |nilp=>intro _;exact .nilp
 |ptNone n=>intro _;exact .ptNone n
 |ptSome n x v hv _=>intro _;exact .ptSome n x v hv
 |ptr i o b' p len he=>intro _;exact .ptr i o b' p len he
 |arr i n w b' len cap a he h1 h2 h3 h4=>intro _;exact .arr i n w b' len cap a he h1 h2 h3 h4
 |aptr i n w o b' p len he=>intro _;exact .aptr i n w o b' p len he
 |map i r he=>intro _;exact .map i r he
 |bptr i b g he=>intro _;exact .bptr i b g he
 |nilif=>intro _;exact .nilif
 |nilm=>intro _;exact .nilm
 |lstp τ xs k b' off' cap vals' h1 h2 h3 h4 h5 _=>intro _;exact .lstp τ xs k b' off' cap vals' h1 h2 h3 h4 h5
 |tptr τ n k p hp=>intro _;exact .tptr τ n k p hp
 |gptr k s i w off b h1=>intro _;exact .gptr k s i w off b h1
 |gsuf k s i w m b c h1=>intro _;exact .gsuf k s i w m b c h1
 |st n x v hv _=>intro _;exact .st n x v hv
end
theorem zJ(k:Nat)(τ:Ty)(xs:List (den τ))(ts:List Nat):∀(l:List (Nat×AV))(i:Nat),
  aZ (xr k τ xs ts l) i=.undef∨(aZ (xr k τ xs ts l) i=aZ l i/\(∀j∈ids (aZ l i),j≠k))∨(aZ (xr k τ xs ts l) i=frzV k τ xs (aZ l i)/\∀s n,dZ s n (Ie k ts l)->dZ s n (stpV k (aZ l i)))
 |[],i=>.inl rfl
 |(m,a)::r,i=>by
  simp only[xr,dc];by_cases h:(m ==i)=true
  ·rw[O3 h,O3 h]
   cases hd:sh (ids a) [k]with
   |true=>right;left;refine⟨rfl,fun j hj=>?_⟩;have:=dx hd j hj;simpa using this
   |false=>
    cases ht:ts.contains m with|false=>exact .inl rfl|true=>right;right;refine⟨rfl,fun s n hs=>?_⟩;simp only[Ie,ht]at hs;exact(dH hs).1
  ·rw[O0 h,O0 h];rcases zJ k τ xs ts r i with q|q|⟨q1,q2⟩
   ·exact .inl q
   ·exact .inr (.inl q)
   ·exact .inr (.inr ⟨q1,fun s n hs=>q2 s n (by simp only[Ie]at hs;exact(dH hs).2)⟩)
theorem CU{F:Fr}{s s':St}{q:Prop}{a:Act}{Ω:Om}{k:Nat}{ts:List Nat}(h:Holds F s.abs a Ω)(hp:My k ts s=some (q,s'))(hq:q):∃Ω',Ω'.w=Ω.w/\Holds F s'.abs a Ω':=by
 unfold My at hp;split at hp
 ·rename_i τ s0 xs hb;simp only at hp;split at hp
  ·rename_i hck;simp only[NZ,Oa]at hck;obtain⟨hnn,hnl⟩:=hck;simp only[Xs,Qu]at hp;obtain⟨rfl,rfl⟩:=hp;obtain⟨qT,qB⟩:=dH hq;simp only[bV,NZ,O9]at hnn;obtain⟨base,cap,e1,e2,e3,e4,e5⟩:=h.slots k _ hb
   let Ω1:Om:=⟨Ω.e,Ω.w,fun b' o=>Ω.pub b' o∨(base=some b'/\o<(flat τ xs).length)⟩
   have hx1:Ext Ω Ω1:=⟨fun i c hc=>⟨c,hc,CLe.refl c⟩,fun _ _ p=>Or.inl p,fun _ _ _=>rfl⟩
   have hfast:Froz Ω1 k s0 τ xs base cap (fun j=>match base with|some b=>(Ω.w.cell? ⟨b,j,none⟩).getD undef|none=>undef):=by
    refine⟨e1,e2,e3,e4,fun b hbb j c' hc=>?_⟩;subst hbb;obtain⟨k1,k2,k3,k4⟩:=e5 b rfl;obtain⟨v,v1,v2⟩:=k4 j c' hc
    have hj:j<(flat τ xs).length:=by
     rcases O5 j (flat τ xs).length with g|g
     ·exact g
     ·rw[O2 g]at hc;cases hc
    refine⟨Or.inr ⟨rfl,hj⟩,?_,?_⟩
    ·show Ω.w.cell? _=_;simp only[v1];rfl
    ·simp only[v1,OX];exact v2.ext hx1
   have hag:∀{x:AV} {v:Value},V Ω1 x v->(∀i∈ids x,i≠k)->V ⟨fun i=>if i=k then none else Ω.e i,Ω1.w,Ω1.pub⟩ x v:=
    fun hv hi=>V.agree hv (fun i him=>by simp[hi i him,Ω1])
   have apart:∀id' c0,id'≠k->Ω.e id'=some c0->∀b' o,occ c0 b' o->¬(base=some b'/\o<(flat τ xs).length):=by intro id' c0 hid hc0 b' o hoc hk;exact hid (h.inj id' k c0 _ b' o hc0 e1 hoc (by simpa[occ]using hk.1))
   refine⟨⟨fun i=>if i=k then none else Ω.e i,Ω.w,Ω1.pub⟩,rfl,⟨fun i=>?_,h.size,h.defers,fun id' o ho=>?_,fun id' hid=>?_,fun i j ci cj b' o hi hj=>?_,fun b' o hp=>?_,fun i x hx=>?_,?_⟩⟩
   ·show V _ (aZ (xr k τ xs ts s.t) i) _
    have hnames:∀j∈ids (aZ (xr k τ xs ts s.t) i),j≠k:=by
     intro j hj;rcases jX (xr k τ xs ts s.t) i with hu|hm
     ·rw[hu]at hj;simp[ids]at hj
     ·have:=dx (hnn.1 _ hm) j hj;simpa using this
    rcases zJ k τ xs ts s.t i with g|⟨g,g2⟩|⟨g,g2⟩
    ·rw[g];exact .undef _
    ·rw[g];exact hag ((h.tmps i).ext hx1) g2
    ·rw[g]at hnames⊢;exact hag (V.frzV hfast ((h.tmps i).ext hx1) (g2 _ _ qT)) hnames
   ·simp only[St.abs]at ho;have e:=ja (Ic k τ xs) (s.b.filter fun x=>!(x.1 ==k)) id';rw[e]at ho;have e':=eY s.b (fun i=>!(i ==k)) id';rw[e']at ho;by_cases hid:id'=k
    ·subst hid;simp at ho
    ·rw[O3 (by simp[hid])]at ho;simp only[Ov]at ho;obtain⟨o0,ho0,rfl⟩:=ho;have hs:=h.slots id' o0 ho0;have hmm:(id',o0)∈s.b.filter fun x=>!(x.1 ==k):=OO.2 ⟨bY _ _ _ ho0,by simp[hid]⟩
     cases o0 with
     |box d=>
      obtain⟨b2,off2,g1,g2⟩:=hs;obtain⟨p1,p2⟩:=tu (k:=k) (xs:=xs) d
      have hst:dZ s0 xs.length (stpV k d):=by
       have:∀{l:List (Nat×SObj)},(id',SObj.box d)∈l->dZ s0 xs.length (l.flatMap fun x=>stpO k x.2)->dZ s0 xs.length (stpV k d):=by
        intro l
        induction l with
        |nil=>intro hm;cases hm
        |cons y r ih=>
         intro hm hq;rw[PM]at hq;obtain⟨q1,q2⟩:=dH hq;rcases O7.1 hm with rfl|hm
         ·exact q1
         ·exact ih hm q2
       exact this hmm qB
      refine⟨b2,off2,by simp only[O0 hid];rw[g1,p1],fun j d' hd'=>?_⟩
      have hj:j<(ae d).length:=by
       rw[<-p1];rcases O5 j (ae (frzV k τ xs d)).length with g|g
       ·exact g
       ·rw[O2 g]at hd';cases hd'
      have hd2:=p2 j _ (NY hj);rw[hd']at hd2;obtain⟨m1,m2,m3,v,m4,m5⟩:=g2 j _ (NY hj);refine⟨m1,fun hp=>?_,m3,v,m4,?_⟩
      ·rcases hp with hp|hp
       ·exact m2 hp
       ·exact apart id' _ hid g1 b2 (off2+j) ⟨rfl,by omega,by omega⟩ hp
      ·rw[OG hd2];refine hag (V.frzV hfast (m5.ext hx1) (tw hst (NY hj))) (fun i hi=>?_)
       have hmem:(id',Ic k τ xs (.box d))∈((s.b.filter fun x=>!(x.1 ==k)).map fun x=>(x.1,Ic k τ xs x.2)):=
        OC.2 ⟨(id',.box d),hmm,rfl⟩
       have:=dx (hnn.2 _ hmem) i (mC (c:=frzV k τ xs d) (by rw[<-OG hd2];exact hd') i hi);simpa using this
     |tail σ n=>
      obtain⟨base2,cap2,g1,g2,g3,g4,g5⟩:=hs;refine⟨base2,cap2,by simp only[O0 hid];exact g1,g2,g3,g4,fun b2 hb2=>?_⟩;obtain⟨m1,vs,ty,fz,m2,m3,m4,m5⟩:=g5 b2 hb2;refine⟨m1,vs,ty,fz,m2,m3,m4,fun o ho hp=>?_⟩;rcases hp with hp|hp
      ·exact m5 o ho hp
      ·exact apart id' _ hid g1 b2 o hb2 hp
     |map κ σ m=>obtain⟨r,g1,g2,es,clock,g3,g4⟩:=hs;exact⟨r,by simp only[O0 hid];exact g1,g2,es,clock,g3,(g4.ext hx1).data⟩
     |bld t u l=>
      obtain⟨b2,g,g1,g2,g3⟩:=hs;refine⟨b2,g,by simp only[O0 hid];exact g1,fun b3 hb3 o=>⟨(g2 b3 hb3 o).1,fun hp=>?_⟩,g3⟩;rcases hp with hp|hp
      ·exact(g2 b3 hb3 o).2 hp
      ·exact apart id' _ hid g1 b3 o hb3 hp
     |tailp σ n x=>
      obtain⟨b2,cap2,g1,g2,g3,g4,g5,g6,g7⟩:=hs;refine⟨b2,cap2,by simp only[O0 hid];exact g1,g2,g3,g4,g5,fun o ho hp=>?_,fun j c' hc=>?_⟩
      ·rcases hp with hp|hp
       ·exact g6 o ho hp
       ·exact apart id' _ hid g1 b2 o rfl hp
      ·obtain⟨v,k1,k2⟩:=g7 j c' hc;refine⟨v,k1,hag (k2.ext hx1) (fun i hi=>?_)⟩;have:=eA hc i hi;rw[fR]at this;cases this
     |grow σ n ys=>
      obtain⟨base2,cap2,g1,g2,g3,g4,g5⟩:=hs;refine⟨base2,cap2,by simp only[O0 hid];exact g1,g2,g3,g4,fun b2 hb2=>?_⟩;obtain⟨m1,m2,m3,m4⟩:=g5 b2 hb2;refine⟨m1,m2,fun o hp=>?_,fun j c' hc=>?_⟩
      ·rcases hp with hp|hp
       ·exact m3 o hp
       ·exact apart id' _ hid g1 b2 o hb2 hp
      ·obtain⟨v,k1,k2⟩:=m4 j c' hc;exact⟨v,k1,(k2.ext hx1).flat hc⟩
   ·simp only[St.abs]at hid;by_cases hii:id'=k
    ·simp[hii]
    ·have e:=ja (Ic k τ xs) (s.b.filter fun x=>!(x.1 ==k)) id';rw[e]at hid;have e':=eY s.b (fun i=>!(i ==k)) id';rw[e',O3 (by simp[hii])]at hid;simp only[O0 hii];exact h.dom id' (by show aj s.b id'=none;simpa using hid)
   ·intro h1 h2;simp only at hi hj;split at hi
    ·cases hi
    ·split at hj
     ·cases hj
     ·exact h.inj i j ci cj b' o hi hj h1 h2
   ·rcases hp with hp|⟨hp1,hp2⟩
    ·exact h.pubok b' o hp
    ·obtain⟨_,_,_,k4⟩:=e5 b' hp1;obtain⟨v,hv,_⟩:=k4 o _ (NY hp2);exact⟨v,hv⟩
   ·have hl:=F.dom0 i x hx;have hne:i≠k:=fun e=>by subst e;rw[hnl]at hl;cases hl
    obtain⟨x',q1,q2⟩:=h.keep i x hx;exact⟨x',by simp only[O0 hne];exact q1,q2⟩
   ·refine⟨h.frame.os,h.frame.tape,h.frame.output,h.frame.size,h.frame.block,h.frame.cell,h.frame.kind,fun b' o hp=>?_,fun b' o hp=>Or.inl (h.frame.old b' o hp),h.frame.pcell⟩;rcases hp with hp|⟨hp1,hp2⟩
    ·exact h.frame.pub b' o hp
    ·exact Or.inr ((e5 b' hp1).1 o)
  ·cases hp
 ·cases hp
end Go.AL
end
noncomputable section
namespace Go.AL
variable [Tabs]
def CV:SX->Exit
 |.normal=>.normal
 |.exit id=>.exit id
 |.ret=>.ret
 |.pan _=>.outgrown
def Ends(Ω:Om):SX->Exit->Prop
 |.pan pv,e=>∃v,e=.panic [{v,recovered:=false}]/\V Ω pv v
 |x,e=>CV x=e
def QL(F:Fr)(Q:SX->St->Prop):Exit->Act->World->Prop:=fun e a w=>∃x s Ω,Ends Ω x e/\Ω.w=w/\Holds F s.abs a Ω/\Q x s
mutual
theorem forceV_eq:∀(a:AV)(k:AV->Prop),forceV a k=k a
 |.undef,k=>rfl
 |.int κ n,k=>rfl
 |.bool b,k=>rfl
 |.str s,k=>rfl
 |.lst τ xs none,k=>rfl
 |.lst τ xs (some i),k=>rfl
 |.nils,k=>rfl
 |.ptr i o,k=>rfl
 |.cptr c,k=>by simp only[forceV];rw[forceV_eq c]
 |.st n x,k=>rfl
 |.nilp,k=>rfl
 |.row τ xs,k=>rfl
 |.arr i n w,k=>rfl
 |.aptr i n w o,k=>rfl
 |.map i,k=>rfl
 |.bptr i,k=>rfl
 |.lstp τ xs i,k=>rfl
 |.glst s n i,k=>rfl
 |.gptr i s n w o,k=>rfl
 |.gsuf i s n w m,k=>rfl
 |.tptr τ n i,k=>rfl
 |.iface t a,k=>by simp only[forceV];rw[forceV_eq a]
 |.nilif,k=>rfl
 |.nilm,k=>rfl
 |.pt n x,k=>rfl
 |.agg cs,k=>by simp only[forceV];rw[forceL_eq cs]
 |.tup cs,k=>by simp only[forceV];rw[forceL_eq cs]
 |.fn f cs,k=>by simp only[forceV];rw[forceL_eq cs]
theorem forceL_eq:∀(l:List AV)(k:List AV->Prop),forceL l k=k l
 |[],k=>rfl
 |a::r,k=>by simp only[forceL];rw[forceV_eq a,forceL_eq r]
end
theorem we:∀(l:List (Nat×AV))(k:List (Nat×AV)->Prop),xw l k=k l
 |[],k=>rfl
 |(i,a)::r,k=>by simp only[xw];rw[forceV_eq a,we r]
theorem gR:∀(l:List (Nat×SObj))(k:List (Nat×SObj)->Prop),gj l k=k l
 |[],k=>rfl
 |(i,.box c)::r,k=>by simp only[gj];rw[forceV_eq c,gR r]
 |(i,.tail τ n)::r,k=>by simp only[gj];rw[gR r]
 |(i,.map κ τ m)::r,k=>by simp only[gj];rw[gR r]
 |(i,.bld t u l)::r,k=>by simp only[gj];rw[gR r]
 |(i,.tailp τ n x)::r,k=>by simp only[gj];rw[gR r]
 |(i,.grow τ s xs)::r,k=>by simp only[gj];rw[gR r]
theorem cM(s:St)(k:St->Prop):fq s k=k s:=by unfold fq;rw[we,gR]
theorem jb:∀(l:List Nat)(k:List Nat->Prop),ju l k=k l
 |[],k=>rfl
 |0::r,k=>by simp only[ju];rw[jb r]
 |(n+1)::r,k=>by simp only[ju];rw[jb r]
theorem Holds.trim{F:Fr}{s:St}{a:Act}{Ω:Om}(h:Holds F s.abs a Ω)(keep:List Nat):Holds F (trim keep s).abs a Ω:=by
 refine⟨fun i=>?_,h.size,h.defers,h.slots,h.dom,h.inj,h.pubok,h.keep,h.frame⟩;have:=jz s.t (fun i=>keep.contains i) i;simp only[AL.trim,St.abs];rw[this];split
 ·exact h.tmps i
 ·exact .undef _
section
variable {P:Program} {C:Cfg} {F:Fr}
theorem mY(hm:P.follows .mixedOrders=true)(hT:aR P C.tbl)(hS:bJ P C.spec)(keep:List Nat){id:Nat}{ops:Array Oper}{draw:Bool}{s1:St}{Q:SX->St->Prop}{a:Act}{Ω1:Om}
 (hdst:∀(o:Oper),o∈ops.toList->∀d,o.dst=some d->d<F.n)(h:kq C keep ops draw s1 Q)(hh1:Holds F s1.abs a Ω1):(Code.region id ops draw).wp P (QL F Q) a Ω1.w:=by
 unfold kq at h
 have key:∀s' fs,(fq (trim keep s') fun s'=>if draw=true then(if dB ops.toList fs=true then Q .normal s' else False)else Q .normal s')->
   (draw=true->dB ops.toList fs=true)/\Q .normal (trim keep s'):=by
  intro s' fs hk;simp only[cM]at hk
  cases draw with
  |false=>exact⟨fun h=>by simp at h,by simpa using hk⟩
  |true=>
   simp only[P1]at hk;rcases Q2 (dB ops.toList fs=true)with k|k
   ·rw[O3 k]at hk;exact⟨fun _=>k,hk⟩
   ·rw[O0 k]at hk;exact hk.elim
 refine oM hm hT hS hdst h (fun hdr s' fs hk=>let ⟨s2,h2⟩:=mD _ hk;(key s2 fs h2).1 hdr) hh1 (fun s' fs a' Ω' hk h'=>
   let ⟨s2,Ω2,g1,g2,g3⟩:=nD h' hk
   ⟨.normal,trim keep s2,Ω2,rfl,g1,g2.trim keep,(key s2 fs g3).2⟩)
  (fun pv s' a' Ω' v hk h' hv=>?_)
 simp only[cM,forceV_eq]at hk;exact⟨.pan pv,s',Ω',⟨v,rfl,hv⟩,rfl,h',hk⟩
theorem CW(hT:aR P C.tbl){keep:List Nat}{id:Nat}{ops:Array Oper}{draw:Bool}{s:St}{p:Prop}{f:Bool->St}{a:Act}{Ω:Om}(hn:KU C keep ops draw s=some (p,f))
 (hdst:∀(o:Oper),o∈ops.toList->∀d,o.dst=some d->d<F.n)(hh:Holds F s.abs a Ω):(Code.region id ops draw).wp P (QL F fun x t=>x=.normal/\∃b,(b=true->p)/\t=f b) a Ω.w:=by
 unfold KU at hn;split at hn
 ·rename_i m src ty1 ps1 af1 c t m' t2 ty2 ps2 af2 hops;split at hn
  ·rename_i e sz by' z ty τ xs o hc ht hsrc
   cases hn;simp only[NZ,Oa]at hc;obtain⟨hm,hcm⟩:=hc;obtain rfl:=On hm;have hne:¬m'=c:=fun e=>by rw[e,RQ]at hcm;cases hcm
   have d1:m'<F.n:=hdst _ (by rw[hops];exact Ox ..) m' rfl;have d2:c<F.n:=hdst _ (by rw[hops];exact Og _ (Ox ..)) c rfl;obtain⟨dd,u1,u2⟩:=az hT ht rfl;cases dd<;>simp[aD]at u2;have hv:=b9 hh src;rw[show opd s.abs.T src=.lst τ xs o from hsrc]at hv;have hv2:V Ω (.lst τ xs none) (a.eval src):=hv.le (G:=[]) (fun k hk=>by cases hk) (bU (by simp[LeF,fy]))
   obtain⟨q,n,cp,hev,hq⟩:∃q n cp,a.eval src=.slice q n cp/\(q.isNone=true->xs=[]):=by
    generalize a.eval src=sv at hv2
    cases hv2 with|lstNil _ _ _=>exact⟨_,_,_,rfl,fun _=>rfl⟩|lstVoid _ _=>exact⟨_,_,_,rfl,fun _=>rfl⟩|lst _ _ _ b off cap vals h1 h2 tok hc hv=>exact⟨_,_,_,rfl,fun q=>by cases q⟩
   have hsz:=hh.size;have eqs:ops=#[⟨some m',.move src,ty1,ps1,af1,none⟩,⟨some c,.binOp .eql t (.tmp m') (.const (.slice none 0 0)) t2,ty2,ps2,af2,none⟩]:=by cases ops;simp at hops;rw[hops]
   subst eqs;rw[hev]at hv2;have hp1:=hh.pure (dst:=some m') (val:=.lst τ xs none) (v:=.slice q n cp) hv2 (fun d e=>by cases e;exact d1);have hp2:=hp1.pure (dst:=some c) (val:=.bool q.isNone) (v:=.bool q.isNone) (.bool _) (fun d e=>by cases e;exact d2);refine QY ?_;show wpOps P _ _ [0,1] a Ω.w;refine cz (o:=⟨some m',.move src,ty1,ps1,af1,none⟩) rfl rfl (aq (v:=.slice q n cp) (w':=Ω.w) (by simp[execOp,hev]) ?_);have hm1:(a.put (some m') (.slice q n cp)).eval (.tmp m')=.slice q n cp:=by show(a.put (some m') (.slice q n cp)).tmps.getD m' undef=_;rw[cH hsz d1,O3 rfl]
   have hq2:(Op.equal t (.slice q n cp) (.slice none 0 0)).run P Ω.w=.ok q.isNone Ω.w:=by unfold Op.equal Op.maxDepth Op.equalIn;simp only[Ou,ay u1,O6];cases q<;>rfl
   have hg:(eqGuard .eql t (.tmp m') (.const (.slice none 0 0)) (.slice q n cp) (.slice none 0 0)).run P Ω.w=.ok () Ω.w:=rfl
   refine cz (o:=⟨some c,.binOp .eql t (.tmp m') (.const (.slice none 0 0)) t2,ty2,ps2,af2,none⟩) rfl rfl (aq (v:=.bool q.isNone) (w':=Ω.w) (by
    have hk:(a.put (some m') (.slice q n cp)).eval (.const (.slice none 0 0))=.slice none 0 0:=rfl;simp[execOp,hm1,hev,hk,hg,binOp,hq2]) ?_)
   refine⟨.normal,_,Ω,rfl,rfl,?_,rfl,q.isNone,hq,rfl⟩;refine Holds.trim (s:=⟨gI (gI s.t m' (.lst τ xs none)) c (.bool q.isNone),s.b⟩) ?_ keep;have eT:(St.abs ⟨gI (gI s.t m' (.lst τ xs none)) c (.bool q.isNone),s.b⟩)=⟨bz (bz s.abs.T (some m') (.lst τ xs none)) (some c) (.bool q.isNone),s.abs.B⟩:=by show AS.mk _ _=AS.mk _ _;congr 1;funext k;show aZ (gI (gI s.t m' (.lst τ xs none)) c (.bool q.isNone)) k=_;rw[fk,fk];rfl
   rw[eT];exact hp2
  ·rename_i e sz by' z ty s1 n0 k0 hc ht hsrc
   cases hn;simp only[NZ,Oa]at hc;obtain⟨hm,hcm⟩:=hc;obtain rfl:=On hm;have hne:¬m'=c:=fun e=>by rw[e,RQ]at hcm;cases hcm
   have d1:m'<F.n:=hdst _ (by rw[hops];exact Ox ..) m' rfl;have d2:c<F.n:=hdst _ (by rw[hops];exact Og _ (Ox ..)) c rfl;obtain⟨dd,u1,u2⟩:=az hT ht rfl;cases dd<;>simp[aD]at u2;have hv:=b9 hh src;rw[show opd s.abs.T src=.glst s1 n0 k0 from hsrc]at hv;have hv2:V Ω (.glst s1 n0 k0) (a.eval src):=hv
   obtain⟨q,n,cp,hev,hq⟩:∃q n cp,a.eval src=.slice q n cp/\(q.isNone=true->n0=0):=by
    obtain⟨cap,a0,g1,g2,g3,g4,g5⟩:=hv2.glst_inv;refine⟨a0,n0,cap,g1,fun q=>?_⟩;rcases g4 with⟨b,rfl⟩|⟨_,g,_⟩
    ·cases q
    ·exact g
   have hsz:=hh.size;have eqs:ops=#[⟨some m',.move src,ty1,ps1,af1,none⟩,⟨some c,.binOp .eql t (.tmp m') (.const (.slice none 0 0)) t2,ty2,ps2,af2,none⟩]:=by cases ops;simp at hops;rw[hops]
   subst eqs;rw[hev]at hv2;have hp1:=hh.pure (dst:=some m') (val:=.glst s1 n0 k0) (v:=.slice q n cp) hv2 (fun d e=>by cases e;exact d1);have hp2:=hp1.pure (dst:=some c) (val:=.bool q.isNone) (v:=.bool q.isNone) (.bool _) (fun d e=>by cases e;exact d2);refine QY ?_;show wpOps P _ _ [0,1] a Ω.w;refine cz (o:=⟨some m',.move src,ty1,ps1,af1,none⟩) rfl rfl (aq (v:=.slice q n cp) (w':=Ω.w) (by simp[execOp,hev]) ?_);have hm1:(a.put (some m') (.slice q n cp)).eval (.tmp m')=.slice q n cp:=by show(a.put (some m') (.slice q n cp)).tmps.getD m' undef=_;rw[cH hsz d1,O3 rfl]
   have hq2:(Op.equal t (.slice q n cp) (.slice none 0 0)).run P Ω.w=.ok q.isNone Ω.w:=by unfold Op.equal Op.maxDepth Op.equalIn;simp only[Ou,ay u1,O6];cases q<;>rfl
   have hg:(eqGuard .eql t (.tmp m') (.const (.slice none 0 0)) (.slice q n cp) (.slice none 0 0)).run P Ω.w=.ok () Ω.w:=rfl
   refine cz (o:=⟨some c,.binOp .eql t (.tmp m') (.const (.slice none 0 0)) t2,ty2,ps2,af2,none⟩) rfl rfl (aq (v:=.bool q.isNone) (w':=Ω.w) (by
    have hk:(a.put (some m') (.slice q n cp)).eval (.const (.slice none 0 0))=.slice none 0 0:=rfl;simp[execOp,hm1,hev,hk,hg,binOp,hq2]) ?_)
   refine⟨.normal,_,Ω,rfl,rfl,?_,rfl,q.isNone,hq,rfl⟩;refine Holds.trim (s:=⟨gI (gI s.t m' (.glst s1 n0 k0)) c (.bool q.isNone),s.b⟩) ?_ keep;have eT:(St.abs ⟨gI (gI s.t m' (.glst s1 n0 k0)) c (.bool q.isNone),s.b⟩)=⟨bz (bz s.abs.T (some m') (.glst s1 n0 k0)) (some c) (.bool q.isNone),s.abs.B⟩:=by show AS.mk _ _=AS.mk _ _;congr 1;funext k;show aZ (gI (gI s.t m' (.glst s1 n0 k0)) c (.bool q.isNone)) k=_;rw[fk,fk];rfl
   rw[eT];exact hp2
  ·cases hn
 ·cases hn
theorem xQ{P:Program}{Q:Exit->Act->World->Prop}{a:Act}{w:World}{c:Code}(I:Nat->Act->World->Prop)(h₀:c.wp P (Exit.then (fun a w=>∃n,I n a w) Q) a w)
 (round:∀n a w,I n a w->c.wp P (Exit.then (fun a' w'=>∃n',n'<n/\I n' a' w') Q) a w):(Code.loop c).wp P Q a w:=by
 intro b k cs
 have key:∀n a w,I n a w->∃e a' w',Q e a' w'/\Arrives P (lone (b.at a (.code c::.inLoop c::k)) cs w) b k cs e a' w':=by
  intro n
  induction n using Nat.strongRecOn with
  |_ n ih=>
   intro a w hI;obtain⟨e,a₁,w₁,hq,harr⟩:=round n a w hI b (.inLoop c::k) cs
   cases e with
   |normal=>obtain⟨m,hlt,hI₁⟩:=hq;obtain⟨e₂,a₂,w₂,hq₂,harr₂⟩:=ih m hlt a₁ w₁ hI₁;exact⟨e₂,a₂,w₂,hq₂,.of_steps (Steps.trans harr (.one step_inLoop)) harr₂⟩
   |exit id=>exact⟨_,a₁,w₁,hq,.pass (x:=.inLoop c) rfl (fun _ _=>.inl (by simp)) harr⟩
   |goto l=>exact⟨_,a₁,w₁,hq,.pass (x:=.inLoop c) rfl (fun _ _=>.inl (by simp)) harr⟩
   |ret=>exact⟨_,a₁,w₁,hq,.pass (x:=.inLoop c) rfl (fun _ _=>.inl (by simp)) harr⟩
   |panic ch=>exact⟨_,a₁,w₁,hq,.pass (x:=.inLoop c) rfl (fun _ _=>.inl (by simp)) harr⟩
   |outgrown=>exact⟨_,a₁,w₁,hq,.pass (x:=.inLoop c) rfl (fun _ _=>.inl (by simp)) harr⟩
 obtain⟨e,a₁,w₁,hq,harr⟩:=h₀ b (.inLoop c::k) cs
 cases e with
 |normal=>obtain⟨m,hI⟩:=hq;obtain⟨e₂,a₂,w₂,hq₂,harr₂⟩:=key m a₁ w₁ hI;exact⟨e₂,a₂,w₂,hq₂,.of_steps (.one RM) (.of_steps (Steps.trans harr (.one step_inLoop)) harr₂)⟩
 |exit id=>exact⟨_,a₁,w₁,hq,.of_steps (.one RM) (.pass (x:=.inLoop c) rfl (fun _ _=>.inl (by simp)) harr)⟩
 |goto l=>exact⟨_,a₁,w₁,hq,.of_steps (.one RM) (.pass (x:=.inLoop c) rfl (fun _ _=>.inl (by simp)) harr)⟩
 |ret=>exact⟨_,a₁,w₁,hq,.of_steps (.one RM) (.pass (x:=.inLoop c) rfl (fun _ _=>.inl (by simp)) harr)⟩
 |panic ch=>exact⟨_,a₁,w₁,hq,.of_steps (.one RM) (.pass (x:=.inLoop c) rfl (fun _ _=>.inl (by simp)) harr)⟩
 |outgrown=>exact⟨_,a₁,w₁,hq,.of_steps (.one RM) (.pass (x:=.inLoop c) rfl (fun _ _=>.inl (by simp)) harr)⟩
def zK(F:Fr)(ann:An)(c:Code)(W:St->(SX->St->Prop)->Prop)(Q:SX->St->Prop)(k:Nat)(a:Act)(w:World):Prop:=
 ∃(s:St)(A:LA)(x:A.ι)(Ω:Om),(∀x,A.pre x->W (iZ (cY c) s (A.t x) (A.b x)) fun
   |.normal,s'=>∃y,A.pre y/\A.m y<A.m x/\cS s' (iZ (cY c) s (A.t y) (A.b y))
   |e,s'=>Q e s')/\A.pre x/\A.m x=k/\Ω.w=w/\Holds F (iZ (cY c) s (A.t x) (A.b x)).abs a Ω
theorem qx{ann:An}{c:Code}{W:St->(SX->St->Prop)->Prop}{Q:SX->St->Prop}{s:St}{a:Act}{Ω:Om}(h:EL ann c W s Q)(hh:Holds F s.abs a Ω):∃k,zK F ann c W Q k a Ω.w:=by
 unfold EL at h;split at h
 ·exact h.elim
 ·rename_i A hA;simp only[cM]at h;obtain⟨⟨x0,hp0,hle0⟩,hround⟩:=h;obtain⟨Ω0,e0,hh0⟩:=dy hh (gq hle0);exact⟨A.m x0,s,A,x0,Ω0,hround,hp0,rfl,e0,hh0⟩
theorem qy{ann:An}{c:Code}{W:St->(SX->St->Prop)->Prop}{Q:SX->St->Prop}(hW:∀(s:St)(Q:SX->St->Prop)(a:Act)(Ω:Om),W s Q->Holds F s.abs a Ω->c.wp P (QL F Q) a Ω.w)
 {k:Nat}{a:Act}{w:World}(hI:zK F ann c W Q k a w):c.wp P (Exit.then (fun a' w'=>∃n',n'<k/\zK F ann c W Q n' a' w') (QL F Q)) a w:=by
 obtain⟨s,A,x,Ω1,hround,hp,hmx,hw1,hh1⟩:=hI;subst hw1;refine Qs (hW (iZ (cY c) s (A.t x) (A.b x)) _ a Ω1 (hround x hp) hh1) ?_;intro e a' w' hq;obtain⟨z,s',Ω',h1,h2,h3,h4⟩:=hq;subst h2
 cases z with
 |normal=>cases h1;obtain⟨y,hy1,hy2,hy3⟩:=h4;obtain⟨Ω2,e2,hh2⟩:=dy h3 (gq hy3);exact⟨A.m y,by omega,s,A,y,Ω2,hround,hy1,rfl,e2,hh2⟩
 |exit id=>cases h1;exact⟨.exit id,s',Ω',rfl,rfl,h3,h4⟩
 |ret=>cases h1;exact⟨.ret,s',Ω',rfl,rfl,h3,h4⟩
 |pan pv=>obtain⟨v,rfl,hv⟩:=h1;exact⟨.pan pv,s',Ω',⟨v,rfl,hv⟩,rfl,h3,h4⟩
theorem mZ(hm:P.follows .mixedOrders=true)(hT:aR P C.tbl)(hS:bJ P C.spec)(keep:List Nat)(ann:An){id:Nat}{ops:Array Oper}{draw:Bool}{s:St}{Q:SX->St->Prop}{a:Act}{Ω:Om}
 (hdst:∀(o:Oper),o∈ops.toList->∀d,o.dst=some d->d<F.n)(h:rH C keep ann id ops draw s Q)(hhr:Holds F s.abs a Ω):(Code.region id ops draw).wp P (QL F Q) a Ω.w:=by
  unfold rH at h;split at h
  ·exact h.elim
  ·rename_i s0 hp0;obtain⟨Ω0,e0,hh0⟩:=kL _ hhr hp0;split at h
   ·exact h.elim
   ·rename_i s1 he;obtain⟨Ω1,e1,hh1⟩:=lI hh0 he;rw[<-e0,<-e1];split at h
    ·exact mY hm hT hS keep hdst h hh1
    ·rename_i J hJ;obtain⟨h1,h2⟩:=h;rw[cM]at h2;refine Qs (mY hm hT hS keep hdst h1 hh1) ?_;intro e a' w' hq;obtain⟨z,s',Ω',g1,g2,g3,g4⟩:=hq;subst g2
     cases z with
     |normal=>cases g1;obtain⟨Ω2,e2,hh2⟩:=dy g3 (gq g4);exact⟨.normal,_,Ω2,rfl,e2,hh2,h2⟩
     |exit id=>exact⟨.exit id,s',Ω',g1,rfl,g3,g4⟩
     |ret=>exact⟨.ret,s',Ω',g1,rfl,g3,g4⟩
     |pan pv=>exact⟨.pan pv,s',Ω',g1,rfl,g3,g4⟩
theorem gS(hm:P.follows .mixedOrders=true)(hT:aR P C.tbl)(hS:bJ P C.spec)(keep:List Nat)(ann:An) :
  ∀(c:Code)(s:St)(Q:SX->St->Prop)(a:Act)(Ω:Om),swp C keep ann c s Q->bE F.n c=true->Holds F s.abs a Ω->c.wp P (QL F Q) a Ω.w:=by
 intro c
 induction c with
 |skip=>exact fun s Q a Ω h _ hh=>wp_skip ⟨.normal,s,Ω,rfl,rfl,hh,h⟩
 |region id ops draw=>
  intro s Q a Ω h hd hh;simp only[swp]at h;have hdst:∀(o:Oper),o∈ops.toList->∀d,o.dst=some d->d<F.n:=by intro o ho d hod;simp only[bE,O9]at hd;have:=hd o ho;rw[hod]at this;simpa using this
  split at h
  ·rename_i p f hn;refine Qs (CW hT hn hdst hh) ?_;rintro e a' w' ⟨z,s',Ω',h1,h2,h3,h4,b,h5,h6⟩;subst h2 h4 h6;have:=h b h5;rw[cM]at this;exact⟨.normal,f b,Ω',h1,rfl,h3,this⟩
  split at h
  ·exact h.elim
  rename_i sr hr0;obtain⟨Ωr,er,hhr⟩:=nF _ hh hr0;rw[<-er];split at h
  ·exact mZ hm hT hS keep ann hdst h hhr
  ·split at h
   ·rename_i q s0 hf;obtain⟨h1,h2⟩:=h;rw[cM]at h2;obtain⟨Ω0,e0,hh0⟩:=CU hhr hf h1;rw[<-e0];exact mZ hm hT hS keep ann hdst h2 hh0
   ·exact h.elim
 |seq x y ihx ihy=>
  intro s Q a Ω h hd hh;have hd0:=hd;simp only[bE,NZ]at hd;simp only[swp]at h;split at h
  ·rename_i L hL;refine Qs (CQ hT hL h hd0 hh) ?_;rintro e a' w' ⟨rfl,s',Ω',h2,h3,h4⟩;rw[cM]at h4;exact⟨.normal,s',Ω',rfl,h2,h3,h4⟩
  split at h;rotate_left
  ·rename_i J hJ;obtain⟨h1,h2⟩:=h;rw[cM]at h2;refine RI (Qs (ihx s _ a Ω h1 hd.1 hh) ?_);intro e a' w' hq;obtain⟨z,s',Ω',g1,g2,g3,g4⟩:=hq;subst g2
   cases z with
   |normal=>cases g1;obtain⟨Ω2,e2,hh2⟩:=dy g3 (gq g4);rw[<-e2];exact ihy _ Q a' Ω2 h2 hd.2 hh2
   |exit id=>cases g1;exact⟨.exit id,s',Ω',rfl,rfl,g3,g4⟩
   |ret=>cases g1;exact⟨.ret,s',Ω',rfl,rfl,g3,g4⟩
   |pan pv=>obtain⟨v,rfl,hv⟩:=g1;exact⟨.pan pv,s',Ω',⟨v,rfl,hv⟩,rfl,g3,g4⟩
  refine RI (Qs (ihx s _ a Ω h hd.1 hh) ?_);intro e a' w' hq;obtain⟨z,s',Ω',h1,h2,h3,h4⟩:=hq;subst h2
  cases z with
  |normal=>cases h1;exact ihy s' Q a' Ω' h4 hd.2 h3
  |exit id=>cases h1;exact⟨.exit id,s',Ω',rfl,rfl,h3,h4⟩
  |ret=>cases h1;exact⟨.ret,s',Ω',rfl,rfl,h3,h4⟩
  |pan pv=>obtain⟨v,rfl,hv⟩:=h1;exact⟨.pan pv,s',Ω',⟨v,rfl,hv⟩,rfl,h3,h4⟩
 |cond c x y ihx ihy=>
  intro s Q a Ω h hd hh;simp only[bE,NZ]at hd;simp only[swp]at h;split at h
  ·rename_i b hb;have hv:=b9 hh c;have hb':opd s.abs.T c=.bool b:=hb;rw[hb']at hv;have hv:=hv.bool_inv;refine wp_cond hv ?_;unfold sp at h
   have hset:Holds F (KT c b s).abs a Ω:=by
    cases c with
    |tmp t=>
     refine⟨fun i=>?_,hh.size,hh.defers,hh.slots,hh.dom,hh.inj,hh.pubok,hh.keep,hh.frame⟩;have e:(KT (.tmp t) b s).abs.T i=if t=i then .bool b else aZ s.t i:=fk s.t t (.bool b) i
     rw[e];by_cases ht:t=i
     ·subst ht;rw[O3 rfl];have:=hh.tmps t;rw[show s.abs.T t=.bool b from hb']at this;exact this
     ·rw[O0 ht];exact hh.tmps i
    |_=>exact hh
   cases b with|true=>exact ihx _ Q a Ω (by simpa using h) hd.1 hset|false=>exact ihy _ Q a Ω (by simpa using h) hd.2 hset
  ·exact h.elim
 |block id c ih=>
  intro s Q a Ω h hd hh;simp only[bE]at hd;simp only[swp]at h;refine wp_block (Qs (ih s _ a Ω h hd hh) ?_);intro e a' w' hq;obtain⟨z,s',Ω',h1,h2,h3,h4⟩:=hq;subst h2
  cases z with
  |normal=>cases h1;exact⟨.normal,s',Ω',rfl,rfl,h3,h4⟩
  |ret=>cases h1;exact⟨.ret,s',Ω',rfl,rfl,h3,h4⟩
  |pan pv=>obtain⟨v,rfl,hv⟩:=h1;exact⟨.pan pv,s',Ω',⟨v,rfl,hv⟩,rfl,h3,h4⟩
  |exit j=>
   cases h1;simp only[CV,Exit.inBlock];by_cases hj:j=id
   ·subst hj;simp only[P1];simp only[QN,P1]at h4;exact⟨.normal,s',Ω',rfl,rfl,h3,h4⟩
   ·rw[O0 hj];simp only[Pa,hj,OL]at h4;exact⟨.exit j,s',Ω',rfl,rfl,h3,h4⟩
 |loop c ih=>
  intro s Q a Ω h hd hh;simp only[bE]at hd;simp only[swp]at h;have hW:∀(s:St)(Q:SX->St->Prop)(a:Act)(Ω:Om),swp C keep ann c s Q->Holds F s.abs a Ω->c.wp P (QL F Q) a Ω.w:=fun s Q a Ω h hh=>ih s Q a Ω h hd hh;split at h
  ·refine xQ (zK F ann c (swp C keep ann c) Q) (Qs (hW s _ a Ω h hh) ?_) fun k a w hI=>qy hW hI;intro e a' w' hq;obtain⟨z,s',Ω',h1,h2,h3,h4⟩:=hq;subst h2
   cases z with
   |normal=>
    cases h1;simp only[cM]at h4;split at h4
    ·rename_i s2 h5;obtain⟨Ω2,e2,hh2⟩:=nF _ h3 h5;obtain⟨k,hI⟩:=qx h4 hh2;exact⟨k,e2 ▸ hI⟩
    ·exact h4.elim
   |exit id=>cases h1;exact⟨.exit id,s',Ω',rfl,rfl,h3,h4⟩
   |ret=>cases h1;exact⟨.ret,s',Ω',rfl,rfl,h3,h4⟩
   |pan pv=>obtain⟨v,rfl,hv⟩:=h1;exact⟨.pan pv,s',Ω',⟨v,rfl,hv⟩,rfl,h3,h4⟩
  ·obtain⟨k,hI⟩:=qx h hh;exact wp_loop_ghost (zK F ann c (swp C keep ann c) Q) k hI fun k a w hI=>qy hW hI
 |exit id=>exact fun s Q a Ω h _ hh=>wp_exit ⟨.exit id,s,Ω,rfl,rfl,hh,h⟩
 |ret=>
  intro s Q a Ω h _ hh;simp only[swp]at h;split at h
  ·exact wp_ret ⟨.ret,s,Ω,rfl,rfl,hh,h⟩
  ·split at h
   ·rename_i s' h1;rw[cM]at h;obtain⟨Ω',e,hh'⟩:=nG _ hh h1;rw[<-e];exact wp_ret ⟨.ret,s',Ω',rfl,rfl,hh',h⟩
   ·exact h.elim
 |rangeFunc g ps x y _ _=>exact fun s Q a Ω h=>by simp[swp]at h
 |scope c ih=>
  intro s Q a Ω h hd hh;simp only[bE]at hd;simp only[swp]at h;refine wp_scope_straight (Qs (ih s _ a Ω h hd hh) ?_);intro e a' w' hq;obtain⟨z,s',Ω',h1,h2,h3,h4⟩:=hq
  cases z with
  |normal=>cases h1;exact⟨.normal,s',Ω',rfl,h2,h3,h4⟩
  |exit id=>cases h1;exact⟨.exit id,s',Ω',rfl,h2,h3,h4⟩
  |ret=>cases h1;exact⟨.ret,s',Ω',rfl,h2,h3,h4⟩
  |pan pv=>obtain⟨v,rfl,hv⟩:=h1;exact⟨.pan pv,s',Ω',⟨v,rfl,hv⟩,h2,h3,h4⟩
 |label l=>exact fun s Q a Ω h _ hh=>wp_label ⟨.normal,s,Ω,rfl,rfl,hh,h⟩
 |goto l=>exact fun s Q a Ω h=>by simp[swp]at h
 |refuse why=>exact fun s Q a Ω h=>by simp[swp]at h
theorem gT:∀(l:List AV)(i j:Nat),aZ (df i l) j=if i<=j then l.getD (j-i) .undef else .undef
 |[],i,j=>by simp[df,eo,dc]
 |v::r,i,j=>by
  simp only[df,eo,dc,gT r (i+1) j];by_cases h:i=j
  ·subst h;simp
  ·simp only[Pa,h,OL];by_cases h2:i<=j
   ·have e:j-i=(j-(i+1))+1:=by omega
    rw[O3 h2,O3 (by omega),e];simp
   ·rw[O0 h2,O0 (by omega)]
theorem kc{w:World}{pub:Nat->Nat->Prop}{e:Nat->Option CObj}{args:List AV}{vs:List Value}(k:Nat)(hv:VL ⟨e,w,pub⟩ args vs)(i:Nat) :
  V ⟨e,w,pub⟩ (aZ (df 0 args) i) ((vs.toArray++Array.replicate k undef).getD i undef):=by
 simp only[gT,Of,P1,QM];by_cases h:i<args.length
 ·have h':i<vs.length:=by rw[<-hv.1];exact h
  have e1:args.getD i .undef=args[i]:=by simp[O4,h]
  have e2:(vs.toArray++Array.replicate k undef).getD i undef=vs[i]:=by simp[Oo,Array.getElem?_append,h']
  rw[e1,e2];exact hv.2 i _ _ (NY h) (NY h')
 ·have e1:args.getD i .undef=.undef:=by simp[O4,h]
  rw[e1];exact .undef _
theorem jc{w:World}{pub:Nat->Nat->Prop}{e:Nat->Option CObj}{args:List AV}{vs:List Value}{n:Nat}{S:List (Nat×SObj)}(hp:jx w pub)(ht:ec w pub e)(hv:VL ⟨e,w,pub⟩ args vs)(hn:args.length<=n)
 (hs:∀id o,aj S id=some o->bn ⟨e,w,pub⟩ (fun _ _=>True) id o)(hd:∀id,aj S id=none->e id=none)(hi:Inj e)(hl:∀id c,e id=some c->bd id=true) :
  Holds ⟨w,pub,n,e,hl,[],ht⟩ (St.abs ⟨df 0 args,S⟩) {tmps:=vs.toArray++Array.replicate (n-vs.toArray.size) undef,defers:=[]} ⟨e,w,pub⟩:=
 ⟨fun i=>kc _ hv i,by simp;have:=hv.1;omega,rfl,fun id o ho=>(hs id o ho).own_of (fun c b oo hc hoc=>Or.inr ⟨id,c,hc,hoc⟩),fun id hid=>hd id hid,hi,hp,fun id c hc=>⟨c,hc,CLe.refl c⟩,
  ⟨rfl,rfl,rfl,Od _,fun _ _ _=>rfl,fun _ _ _ _=>rfl,fun _ _ _=>⟨rfl,fun _=>rfl⟩,fun _ _ h=>Or.inl h,fun _ _ h=>h,fun _ _ _=>rfl⟩⟩
def pQ(tmps:Array Value):ResultVar->Sem Value
 |.tmp t=>pure (tmps.getD t undef)
 |.cell a t=>do loadVar t (<-asAddr (tmps.getD a undef))
theorem nH(fn:Func)(tmps:Array Value):results fn tmps=(do
  let vs <-fn.results.mapM (pQ tmps)
  pure (if h:vs.size=1 then vs[0]else .tuple vs)):=by
 unfold results;congr 1
theorem fS(hT:aR P C.tbl){s:St}{a:Act}{Ω:Om}(hh:Holds F s.abs a Ω):∀(rs:List ResultVar)(l:List AV),l0 C.tbl s rs=some l->
  ∃vs,(rs.mapM (pQ a.tmps)).run P Ω.w=.ok vs Ω.w/\VL Ω l vs
 |[],l,h=>by simp[l0]at h;subst h;exact⟨[],rfl,VL.nil⟩
 |.tmp t::rs,l,h=>by
  simp only[l0]at h;split at h
  ·rename_i l' hl';simp at h;subst h;obtain⟨vs,k1,k2⟩:=fS hT hh rs l' hl';exact⟨_,by rw[List.mapM_cons];simp only[pQ,Ou,OR,O6,k1],VL.cons (hh.tmps t) k2⟩
  ·cases h
 |.cell b t::rs,l,h=>by
  simp only[l0]at h;split at h
  ·rename_i id off rt hb hrt;have hv:=hh.tmps b;have e:s.abs.T b=.ptr id off:=hb;rw[e]at hv;obtain⟨g,o',len,hv1,hv2⟩:=hv.ptr_inv;split at h
   ·rename_i c hcs;split at h
    ·rename_i x l' hx hl';simp at h;subst h;obtain⟨vs,k1,k2⟩:=fS hT hh rs l' hl';obtain⟨b',off',e1,e2⟩:=hh.slots id _ hcs;rw[hv2]at e1;simp only[Xs,CObj.box.injEq]at e1;obtain⟨rfl,rfl,rfl⟩:=e1;obtain⟨v,w1,w2⟩:=iw (P:=P) (C:=C) (w:=Ω.w) hT hrt hx (b:=g) (o':=o') (fun j c' hc=>(e2 j c' hc).2.2.2);exact⟨v::vs,by rw[List.mapM_cons];simp only[pQ,Ou,hv1,asAddr,OR,O6,w1,k1],VL.cons w2 k2⟩
    ·cases h
   ·cases h
  ·cases h
theorem Holds.retmp{s:AS}{a:Act}{Ω:Om}(h:Holds F s a Ω){l:List AV}{vs:List Value}(hv:VL Ω l vs) :
  Holds ⟨F.w0,F.pub0,vs.length,F.e0,F.dom0,[],F.tab0⟩ ⟨aZ (df 0 l),s.B⟩ {tmps:=vs.toArray++Array.replicate 0 undef,defers:=[]} Ω:=
 ⟨fun i=>kc 0 hv i,by simp,rfl,h.slots,h.dom,h.inj,h.pubok,h.keep,
  ⟨h.frame.os,h.frame.tape,h.frame.output,h.frame.size,h.frame.block,h.frame.cell,h.frame.kind,h.frame.pub,h.frame.old,h.frame.pcell⟩⟩
theorem fB{w:World}{pub:Nat->Nat->Prop}{e:Nat->Option CObj}{n:Nat}{hl:∀id c,e id=some c->bd id=true}{ht:ec w pub e}{T:Nat->AV}{B:List (Nat×SObj)}{a:Act}{Ω:Om}
 (h:Holds ⟨w,pub,n,e,hl,[],ht⟩ ⟨T,aj B⟩ a Ω):After w pub e (aj B) Ω.w Ω.pub Ω.e:=by
 refine⟨h.frame.os,h.frame.tape,h.frame.output,h.frame.size,h.frame.block,h.frame.cell,h.frame.kind,⟨h.keep,h.frame.old,h.frame.pcell⟩,fun b o hp=>?_,h.pubok,h.slots,h.dom,h.inj⟩;rcases h.frame.pub b o hp with q|q|q
 ·exact Or.inl q
 ·exact Or.inr (Or.inl q)
 ·exact Or.inr (Or.inr q)
theorem jd{α:Type}{l:List α}(h:l.length=1):∃x,l=[x]:=by
 match l,h with
 |[x],_=>exact⟨x,rfl⟩
theorem G4(hm:P.follows .mixedOrders=true)(hT:aR P C.tbl)(hS:bJ P C.spec){ann:An}{f:Nat}{fn:Func}(hf:P.funcs[f]?=some fn)
 {args:List AV}{S:List (Nat×SObj)}{A:Ans}(h:fwp C ann fn args S A):ak P f args S A:=by
 intro w pub e vs hp ht hv hs hdom hinj;unfold fwp at h;split at h
 ·exact h.elim
 ·rename_i c hb;split at h
  ·exact h.elim
  ·rename_i hck;simp only[NZ,O9]at hck;obtain⟨⟨hck1,hck2⟩,hck3⟩:=hck;have hlen:=eR _ _ hck2;rw[jb,cM]at h
   have hlent:∀id c,e id=some c->bd id=true:=by
    intro id c hc
    cases hg:aj S id with
    |none=>rw[hdom id hg]at hc;cases hc
    |some o=>exact hck3 id (OC.2 ⟨(id,o),bY _ _ _ hg,rfl⟩)
   refine calls_of_wp hf hb ?_;have hh:=jc (n:=fn.ntmps) hp ht hv hlen hs hdom hinj hlent;refine Qs (gS (F:=⟨w,pub,fn.ntmps,e,hlent,[],ht⟩) hm hT hS _ ann c _ _ _ _ h hck1 hh) ?_;intro en a' w' hq;obtain⟨z,s',Ω',h1,h2,h3,h4⟩:=hq;subst h2
   have hmap:∀us,(fn.results.toList.mapM (pQ a'.tmps)).run P Ω'.w=.ok us Ω'.w->
     (results fn a'.tmps).run P Ω'.w=.ok (if h:us.toArray.size=1 then us.toArray[0]else .tuple us.toArray) Ω'.w:=by
    intro us hus;rw[nH,<-PI (xs:=fn.results),QZ];simp only[Ou,Sem.run_map,hus,O6,OR]
   have key:((match A.pan with|some (b,_,_)=>b=false|none=>True)/\vQ (l0 C.tbl s' fn.results.toList) s' A.val (cr S A.upd))->
     a'.defers=[]/\∃v,(results fn a'.tmps).run P Ω'.w=.ok v Ω'.w/\∃pub' e',(∀b pv u,A.pan=some (b,pv,u)->b=false)/\V ⟨e',Ω'.w,pub'⟩ A.val v/\After w pub e (aj (cr S A.upd)) Ω'.w pub' e':=by
    rintro⟨hpan,hend⟩;refine⟨h3.defers,?_⟩;have hpan':∀b pv u,A.pan=some (b,pv,u)->b=false:=by intro b pv u hpa;rw[hpa]at hpan;exact hpan
    unfold vQ at hend;split at hend
    ·rename_i x hres;obtain⟨us,k1,k2⟩:=fS hT h3 _ _ hres;obtain⟨u,rfl⟩:=jd (by rw[<-k2.1];rfl);obtain⟨Ω2,e2,hh2⟩:=dy (s:=⟨[(0,x)],s'.b⟩) (h3.retmp k2) (gq hend);refine⟨u,by simpa using hmap [u] k1,Ω2.pub,Ω2.e,hpan',?_,?_⟩
     ·have:=hh2.tmps 0;rw[<-e2];exact this
     ·rw[<-e2];exact fB hh2
    ·rename_i l hne hres;split at hend
     ·rename_i rs hval;split at hend
      ·rename_i hln;have hl2:=bX _ _ hln;obtain⟨us,k1,k2⟩:=fS hT h3 _ _ hres;obtain⟨Ω2,e2,hh2⟩:=dy (s:=⟨df 0 l,s'.b⟩) (h3.retmp k2) (gq hend);have hsz:¬us.toArray.size=1:=by intro h1;obtain⟨x,hx⟩:=jd (l:=l) (by rw[k2.1];simpa using h1);exact hne x hx
       refine⟨.tuple us.toArray,?_,Ω2.pub,Ω2.e,hpan',?_,?_⟩
       ·rw[hmap us k1,dif_neg hsz]
       ·rw[hval];refine .tup rs us (by rw[<-k2.1,<-hl2]) (fun j c v hc hv=>?_);have:=hh2.tmps j;simp only[St.abs,gT,Of,P1,QM,O4,hc,OX]at this;have e3:(us.toArray++Array.replicate 0 undef).getD j undef=v:=by simp[Oo,hv]
        rw[e3,]at this;rw[<-e2];exact this
       ·rw[<-e2];exact fB hh2
      ·exact hend.elim
     ·exact hend.elim
    ·exact hend.elim
   cases z with
   |normal=>cases h1;exact key h4
   |exit id=>exact h4.elim
   |ret=>cases h1;exact key h4
   |pan pv=>
    obtain⟨v,rfl,hv⟩:=h1;simp only at h4;split at h4
    ·rename_i b pv' pu hpa;obtain⟨hbt,hend⟩:=h4;subst hbt;obtain⟨Ω2,e2,hh2⟩:=dy (s:=⟨[(0,pv)],s'.b⟩) (h3.retmp (VL.cons hv .nil)) (gq hend);refine⟨h3.defers,Ω2.pub,Ω2.e,pv',pu,v,hpa,rfl,?_,?_⟩
     ·have:=hh2.tmps 0;rw[<-e2];exact this
     ·rw[<-e2];exact fB hh2
    ·exact h4.elim
end
end Go.AL
end
noncomputable section
namespace Go.AL
variable [Tabs]
theorem TRok.mk'{P:Program}{t:Nat}{r:TR}
 (h1:(P.info? t).map (fun i=>(i.size,i.bytes,i.zero.map fun z=>z.cells.toList.map cm))=some (r.size,r.bytes,some r.zero))
 (h2:(P.underlying t).map (aD P r.ti)=some true)
 (h3:(ga r.zero r.size&&(Nat.beq r.size 0||Nat.blt 0 r.bytes)&&(match r.ty with | some τ=>Nat.beq (ab τ) r.size&&(KM τ ==r.isAgg) | none=>true))=true)
 (h8:(P.info? t).map (fun i=>i.zero.map fun z=>Cq z ==r.isAgg)=some (some true))
 (h9:(match r.ti with|.strct true _=>!P.stoodInHeld t&&!P.eqGuardType P.depth t|_=>true)=true):TRok P t r:=by
 simp only[NZ,OS,Nat.beq_eq,Qv]at h3;obtain⟨⟨h5,h6⟩,h7⟩:=h3;refine⟨?_,bX _ _ h5,fun hz=>?_,?_,fun τ hτ=>?_,fun i z hi hz=>?_,fun fs hfs=>?_⟩
 ·cases hi:P.info? t with
  |none=>rw[hi]at h1;simp at h1
  |some i=>rw[hi]at h1;simp only[Pr,Xs,Qu,Ov]at h1;obtain⟨e1,e2,z,e3,e4⟩:=h1;exact⟨i,z,rfl,e1,e2,e3,e4⟩
 ·rcases h6 with h6|h6
  ·omega
  ·exact h6
 ·cases hd:P.underlying t with|none=>rw[hd]at h2;simp at h2|some d=>rw[hd]at h2;exact⟨d,rfl,by simpa using h2⟩
 ·rw[hτ]at h7;simpa using h7
 ·rw[hi]at h8;simp[hz]at h8;exact h8
 ·rw[hfs]at h9;simpa using h9
theorem aR.nil{P:Program}:aR P []:=fun t r h=>by simp[vN,rY]at h
theorem aR.cons{P:Program}{t:Nat}{r:TR}{l:List (Nat×TR)}(h:TRok P t r)(hl:aR P l):aR P ((t,r)::l):=by
 intro t' r' h';simp only[vN,rY]at h';by_cases e:t=t'
 ·subst e;simp at h';subst h';exact h
 ·simp only[Pa,e,OL]at h';exact hl t' r' h'
theorem Enters.mk'{P:Program}{f:Nat}{fn:Func}(h:P.funcs[f]?=some fn)(h2:(fn.body.isNone || (fn.name == "runtime.NumGoroutine"))=false):Enters P f:=by simp only [Bool.or_eq_false_iff] at h2;exact ⟨fn,h,h2.1,h2.2⟩
end Go.AL
end
noncomputable section
namespace Go.AL
def Wf(τ:Ty)(x:den τ):Prop:=∃Ω v,V Ω (inj τ x) v
def WfL(args:List AV):Prop:=∃Ω vs,VL Ω args vs
theorem Wf.str{s:Str}(h:Wf .str s):s.length<=9223372036854775807:=letI:=xx;let ⟨_,_,h⟩:=h;h.str_inv.2
theorem Wf.len{τ:Ty}{xs:List (den τ)}(h:Wf (.lst τ) xs):xs.length<=9223372036854775807:=by
 letI:=xx
 obtain⟨Ω,v,h⟩:=h;rcases h.lst_inv with⟨h1,_,_⟩|⟨h1,_,_⟩|⟨b,off,cap,vals,hv,h1,h2,_⟩
 ·rw[h1];simp
 ·rw[h1];simp
 ·unfold bj at h2;omega
theorem VL.inj{Ω:Om}{τ:Ty}{x:den τ}{vs:List Value}(h:VL Ω (cells τ x) vs):∃v,V Ω (inj τ x) v:=by
 cases τ with
 |st n=>exact⟨_,.st n x _ (V.of_agg h)⟩
 |int k=>match vs,h with|[v],h=>exact⟨v,h.head⟩
 |bool=>match vs,h with|[v],h=>exact⟨v,h.head⟩
 |str=>match vs,h with|[v],h=>exact⟨v,h.head⟩
 |lst t=>match vs,h with|[v],h=>exact⟨v,h.head⟩
 |pt n=>match vs,h with|[v],h=>exact⟨v,h.head⟩
theorem Wf.mem{τ:Ty}{xs:List (den τ)}(h:Wf (.lst τ) xs){x:den τ}(hx:x∈xs):Wf τ x:=by
 letI:=xx
 obtain⟨Ω,v,h⟩:=h;rcases h.lst_inv with⟨h1,_,_⟩|⟨h1,_,_⟩|⟨b,off,cap,vals,hv,h1,h2,h3,h4,h5⟩
 ·rw[h1]at hx;simp at hx
 ·rw[h1]at hx;simp at hx
 ·obtain⟨i,hi⟩:=PV hx
  have:VL Ω (cells τ x) ((List.range (cells τ x).length).map (vals i)):=by
   refine⟨by simp,fun j c v hc hv=>?_⟩
   have hj:j<(cells τ x).length:=by
    rcases O5 j (cells τ x).length with k|k
    ·exact k
    ·rw[O2 k]at hc;cases hc
   simp[hj]at hv;subst hv;exact h5 i x hi j c hc
  obtain⟨v',hv'⟩:=this.inj;exact⟨Ω,v',hv'⟩
theorem Wf.cell{n:SN}{x:SD n}(h:Wf (.st n) x)(j:Nat){τ:Ty}{y:den τ}(hc:(cells (.st n) x)[j]?=some (AL.inj τ y)):Wf τ y:=by
 obtain⟨Ω,v,h⟩:=h
 cases h with
 |st _ _ v hv=>
  obtain⟨vs,_,hl⟩:=hv.agg_inv
  have hj:j<vs.length:=by
   rw[<-hl.1];rcases O5 j (cells (.st n) x).length with k|k
   ·exact k
   ·rw[O2 k]at hc;cases hc
  exact⟨Ω,_,hl.2 j _ _ hc (NY hj)⟩
theorem Wf.names{s:Shape}(h:Wf (.st .shape) s):Wf (.lst .str) s.names:=h.cell 3 (τ:=.lst .str) (y:=s.names) rfl
theorem Wf.parts{s:Shape}(h:Wf (.st .shape) s):Wf (.lst (.st .shape)) s.parts:=h.cell 4 (τ:=.lst (.st .shape)) (y:=s.parts) rfl
theorem Wf.term_shapes{x:Trm}(h:Wf (.st .term) x):Wf (.lst (.st .shape)) x.shapes:=(h.cell 6 (τ:=.lst (.st .shape)) (y:=x.shapes) rfl)
theorem Wf.term_parts{x:Trm}(h:Wf (.st .term) x):Wf (.lst (.st .term)) x.parts:=(h.cell 7 (τ:=.lst (.st .term)) (y:=x.parts) rfl)
theorem Wf.modu_imports{x:Modu}(h:Wf (.st .modu) x):Wf (.lst (.st .imp)) x.imports:=(h.cell 1 (τ:=.lst (.st .imp)) (y:=x.imports) rfl)
theorem Wf.modu_decls{x:Modu}(h:Wf (.st .modu) x):Wf (.lst (.st .decl)) x.decls:=(h.cell 2 (τ:=.lst (.st .decl)) (y:=x.decls) rfl)
theorem Wf.modu_exports{x:Modu}(h:Wf (.st .modu) x):Wf (.lst .str) x.exports:=(h.cell 3 (τ:=.lst .str) (y:=x.exports) rfl)
theorem Wf.env_own{x:Envt}(h:Wf (.st .env) x):Wf (.lst (.st .bind)) x.own:=(h.cell 3 (τ:=.lst (.st .bind)) (y:=x.own) rfl)
theorem Wf.dep_items{x:Depd}(h:Wf (.st .dep) x):Wf (.lst (.st .item)) x.items:=(h.cell 1 (τ:=.lst (.st .item)) (y:=x.items) rfl)
theorem WfL.cons{a:AV}{l:List AV}(h:WfL (a::l)):(∃Ω v,V Ω a v)/\WfL l:=by
 obtain⟨Ω,vs,h⟩:=h;rcases h.cases with⟨e,_⟩|⟨c,cs,v,vs',e,_,h1,h2⟩
 ·cases e
 ·cases e;exact⟨⟨Ω,v,h1⟩,Ω,vs',h2⟩
theorem WfL.one{τ:Ty}{x:den τ}{l:List AV}(h:WfL (inj τ x::l)):Wf τ x:=h.cons.1
theorem WfL.two{a:AV}{τ:Ty}{x:den τ}{l:List AV}(h:WfL (a::inj τ x::l)):Wf τ x:=h.cons.2.cons.1
theorem WfL.three{a b:AV}{τ:Ty}{x:den τ}{l:List AV}(h:WfL (a::b::inj τ x::l)):Wf τ x:=h.cons.2.cons.2.cons.1
section
variable [Tabs]
variable {P:Program}
theorem ak.wf{f:Nat}{args:List AV}{S:List (Nat×SObj)}{A:Ans}(h:WfL args->ak P f args S A):ak P f args S A:=
 fun w pub e vs hp ht hv hs hd hi=>h ⟨_,vs,hv⟩ w pub e vs hp ht hv hs hd hi
theorem ak.args{f:Nat}{args args':List AV}{S:List (Nat×SObj)}{A:Ans}(ha:RdL args args')(h:ak P f args' S A):ak P f args S A:=
 fun w pub e vs hp ht hv hs hd hi=>h w pub e vs hp ht (hv.rd ha) hs hd hi
abbrev Pat:=List AV->List (Nat×SObj)->Option Ans
def gF:List (Nat×Pat)->Nat->Pat
 |[],_=>fun _ _=>none
 |(i,g)::l,f=>fun args S=>
  match Nat.beq i f with
  |true=>(match g args S with|some A=>some A|none=>gF l f args S)
  |false=>gF l f args S
def ah(P:Program)(f:Nat)(g:Pat):Prop:=
 ∀args S A,g args S=some A->(∀q,A.ob=some q->q)->(aM S).all bd=true->Enters P f/\ak P f args S A
theorem wg:bJ P (gF []):=fun f args S A h=>by simp[gF]at h
theorem tx{f:Nat}{g:Pat}{l:List (Nat×Pat)}(h:ah P f g)(hl:bJ P (gF l)):bJ P (gF ((f,g)::l)):=by
 intro f' args S A hA ho hk;simp only[gF]at hA;split at hA
 ·rename_i hb;have e:f=f':=On hb;subst e;split at hA
  ·rename_i A' hg;simp at hA;subst hA;exact h args S A' hg ho hk
  ·exact hl f args S A hA ho hk
 ·exact hl f' args S A hA ho hk
def p1(τ:Ty)(F:den τ->Ans):Pat
 |[a],[]=>(match arg τ a with|some a=>some (F a)|none=>none)
 |_,_=>none
def p2(τ σ:Ty)(F:den τ->den σ->Ans):Pat
 |[a,b],[]=>(match arg τ a,arg σ b with|some a,some b=>some (F a b)|_,_=>none)
 |_,_=>none
def pf(τ:Ty)(n:Nat)(F:den τ->Ans):Pat
 |[a,.fn f []],[]=>(match Nat.beq f n with|true=>(match arg τ a with|some a=>some (F a)|none=>none)|false=>none)
 |_,_=>none
def p3(τ σ ρ:Ty)(F:den τ->den σ->den ρ->Ans):Pat
 |[a,b,c],[]=>(match arg τ a,arg σ b,arg ρ c with|some a,some b,some c=>some (F a b c)|_,_,_=>none)
 |_,_=>none
theorem Rd.arg{τ:Ty}{a:AV}{x:den τ}(h:AL.arg τ a=some x):Rd a (inj τ x):=fun _ _ hv=>EO hv h
theorem bA{f:Nat}{τ:Ty}{F:den τ->Ans}(he:Enters P f)(h:∀x,Wf τ x->(∀q,(F x).ob=some q->q)->ak P f [inj τ x] [] (F x)):ah P f (p1 τ F):=by
 intro args S A hA ho _;unfold p1 at hA;split at hA
 ·split at hA
  ·rename_i x hx;simp at hA;subst hA;exact⟨he,ak.args (.cons (Rd.arg hx) .nil) (ak.wf fun hw=>h x hw.one ho)⟩
  ·cases hA
 ·cases hA
theorem ca{f:Nat}{τ σ:Ty}{F:den τ->den σ->Ans}(he:Enters P f)
 (h:∀x y,Wf τ x->Wf σ y->(∀q,(F x y).ob=some q->q)->ak P f [inj τ x,inj σ y] [] (F x y)):ah P f (p2 τ σ F):=by
 intro args S A hA ho _;unfold p2 at hA;split at hA
 ·split at hA
  ·rename_i x y hx hy;simp at hA;subst hA;exact⟨he,ak.args (.cons (Rd.arg hx) (.cons (Rd.arg hy) .nil)) (ak.wf fun hw=>h x y hw.one hw.two ho)⟩
  ·cases hA
 ·cases hA
theorem n9{f:Nat}{τ:Ty}{n:Nat}{F:den τ->Ans}(he:Enters P f)(h:∀x,Wf τ x->(∀q,(F x).ob=some q->q)->ak P f [inj τ x,.fn n []] [] (F x)):ah P f (pf τ n F):=by
 intro args S A hA ho _;unfold pf at hA;split at hA
 ·split at hA
  ·rename_i hb;have e:=On hb;subst e;split at hA
   ·rename_i x hx;simp at hA;subst hA;exact⟨he,ak.args (.cons (Rd.arg hx) (.cons (Rd.refl _) .nil)) (ak.wf fun hw=>h x hw.one ho)⟩
   ·cases hA
  ·cases hA
 ·cases hA
theorem EY{f:Nat}{τ σ ρ:Ty}{F:den τ->den σ->den ρ->Ans}(he:Enters P f)
 (h:∀x y z,Wf τ x->Wf σ y->Wf ρ z->(∀q,(F x y z).ob=some q->q)->ak P f [inj τ x,inj σ y,inj ρ z] [] (F x y z)):ah P f (p3 τ σ ρ F):=by
 intro args S A hA ho _;unfold p3 at hA;split at hA
 ·split at hA
  ·rename_i x y z hx hy hz;simp at hA;subst hA;exact⟨he,ak.args (.cons (Rd.arg hx) (.cons (Rd.arg hy) (.cons (Rd.arg hz) .nil))) (ak.wf fun hw=>h x y z hw.one hw.two hw.three ho)⟩
  ·cases hA
 ·cases hA
end
end Go.AL
end
noncomputable section
namespace Go.AL
theorem an{α:Type}(l:List α)(k:Nat)(d:α)(h:k<l.length):l.drop k=l.getD k d::l.drop (k+1):=by rw[Qm h];simp[O4,h]
theorem getD_mem{α:Type}(l:List α)(k:Nat)(d:α)(h:k<l.length):l.getD k d∈l:=by simp[O4,h]
theorem cD{α:Type}(l:List α)(k:Nat)(d:α)(h:k<l.length):l.take (k+1)=l.take k++[l.getD k d]:=by rw[List.take_succ_eq_append_getElem h];simp[O4,h]
theorem aU{n:Int}(h1:-9223372036854775808<=n)(h2:n<=9223372036854775807):inR .i64 n:=by constructor<;>simp[IntKind.min,IntKind.max,IntKind.signed,IntKind.bits]<;>omega
theorem aA{n m:Nat}(h1:n<m)(h2:m<=9223372036854775807):inR .i64 ((n:Int)+1):=aU (by omega) (by omega)
theorem lN{p:Prop}[Decidable p]:(decide p=true)=p:=by simp
theorem aa{c p q:Prop}[Decidable c](h1:c->p)(h2:¬c->q):if c then p else q:=by
 by_cases h:c
 ·rw[O3 h];exact h1 h
 ·rw[O0 h];exact h2 h
abbrev gD(α:Type):List α:=[]
theorem IH[Tabs]{P:Program}{C:Cfg}(hm:P.follows .mixedOrders=true)(hT:aR P C.tbl)(hS:bJ P C.spec){ann:An}{f:Nat}{fn:Func}(hf:P.funcs[f]?=some fn)
 {args:List AV}{S:List (Nat×SObj)}{A:Ans}{Q:Prop}(q:Q)(h:fwp C ann fn args S A=Q):ak P f args S A:=G4 hm hT hS hf (h.mpr q)
end Go.AL
end
noncomputable section
namespace Go.AL
variable [Tabs]
open Go.ChangeShapes Go.WideShapes Go.RowKit
def EZ(w:World)(b o:Nat):Prop:=∃v,w.cell? ⟨b,o,none⟩=some v
def Om0(w:World):Om:=⟨fun _=>none,w,EZ w⟩
theorem G5{P:Program}{f:Nat}{args:List AV}(h:ak P f args [] (.ret (.bool true))){w:World}{vs:List Value}(htab:∀b o v,Tabs.tab b o v->w.cell? ⟨b,o,none⟩=some v)(hobj:∀b x,Tabs.obj b x->w.heap[b]?=some x)(hv:VL (Om0 w) args vs) :
  Calls P f vs.toArray w fun e w'=>e=.returned (.bool true)/\RowKit.Below w.heap.size w w':=by
 refine Calls.mono (h w (EZ w) (fun _=>none) vs (fun _ _ h=>h) ⟨fun b o v ht=>⟨⟨v,htab b o v ht⟩,htab b o v ht⟩,fun b x hx=>⟨hobj b x hx,fun o ⟨_,_,hc,_⟩=>by cases hc⟩⟩ hv (fun id o ho=>by simp[b5,aH]at ho) (fun _ _=>rfl) (fun i j c d b o hc=>by cases hc)) ?_;intro e w' hq;obtain⟨pub',e',hq⟩:=hq
 cases e with
 |returned v=>obtain⟨_,hv,ha⟩:=hq;have:=hv.bool_inv;subst this;exact⟨rfl,ha.os,ha.tape,ha.output,ha.size,fun b hb=>ha.block b hb fun o ⟨id,c,hc,_⟩=>by cases hc⟩
 |panicked ch=>obtain⟨pv,u,v,hp,_⟩:=hq;cases hp
 |outgrown=>exact hq.elim
section
variable {H:Type} {enc:TypeId×Value->H} {P:Program}
theorem nc(hl:laidOutB P=true){W W':World}(hb:Below W.heap.size W W'){sp:Nat->Bool}:∀{ts:List TypeId} {vs:List Value} {ds:List (DataW H)} {p:List MemPlace},
  (∀t∈ts,P.readableRec t=true/\t<P.types.size)->DataW.TrodAll enc P W 0 (fun _=>true) true ts vs ds p->(∀x∈p,x.block<W.heap.size)->(∀x∈p,sp x.block=true)->DataW.TrodAll enc P W' 0 sp true ts vs ds p
 |[],_,_,_,_,h,_,_=>by obtain⟨rfl,rfl,rfl⟩:=trodAll_nil h;exact h
 |t::ts,_,_,_,hr,h,hlt,hsp=>by
  obtain⟨v,vs,d,ds,p,q,rfl,rfl,rfl,h1,h2⟩:=trodAll_cons h;obtain⟨r1,r2⟩:=hr t (by simp)
  exact⟨p,q,WideElems.Trod_stays hl r1 r2 h1 (fun x hx=>hb.same (hlt x (by simp[hx]))) (fun x hx=>hsp x (by simp[hx])),
   nc hl hb (fun t ht=>hr t (by simp[ht])) h2 (fun x hx=>hlt x (by simp[hx])) (fun x hx=>hsp x (by simp[hx])),rfl⟩
theorem II(hl:laidOutB P=true){f:Func}{s:ChangeSpec}{apart fresh handsOn again:Bool}{W W':World}{args:Array Value}{ds gs:List (DataW H)}{before:List MemPlace}{tb:TypeId}
 (hr:∀t∈f.params.toList,P.readableRec t=true/\t<P.types.size)(hvars:s.vars=[])(hfn:∀ds:List (DataW H),ds.length=f.params.size->s.fn H ds={results:=[.lit (.bool true)],args:=ds})(hrt:f.resultTypes=#[tb])(htb:P.underlying tb=some .bool)
 (hW:DataW.Whole enc P f.params.toList s.vars apart W args.toList ds gs before)(hb:Below W.heap.size W W'):s.post enc P f apart fresh handsOn again W args (.bool true) W':=by
 have hlt:∀p∈before,p.block<W.heap.size:=fun p hp=>hW.lt p hp;have hW0:=hW;obtain⟨p,q,hA,hV,e,hz,hn⟩:=hW;rw[hvars]at hV;obtain⟨rfl,rfl⟩:=trodVars_none hV;rw[P2]at e;subst e
 have hlen:ds.length=f.params.size:=by
  have:∀{ts:List TypeId} {vs:List Value} {ds:List (DataW H)} {p:List MemPlace},DataW.TrodAll enc P W 0 (fun _=>true) true ts vs ds p->ds.length=ts.length:=by
   intro ts
   induction ts with
   |nil=>intro vs ds p h;obtain⟨rfl,rfl,rfl⟩:=trodAll_nil h;rfl
   |cons t ts ih=>intro vs ds p h;obtain⟨v,vs,d,ds,p,q,rfl,rfl,rfl,h1,h2⟩:=trodAll_cons h;simp[ih h2]
  simpa using this hA
 have hf:=hfn ds hlen;have hs:∀sp:Nat->Bool,(∀x∈before,sp x.block=true)->DataW.TrodAll enc P W' 0 sp true f.params.toList args.toList ds before:=fun sp hsp=>nc hl hb hr hA hlt hsp;have hres:∀(b:Nat)(sp:Nat->Bool)(hd:Bool),DataW.TrodAll enc P W' b sp hd f.resultTypes.toList ((Value.bool true).resultList f.resultTypes.size) [.lit (.bool true)] []:=by intro b sp hd;rw[hrt];exact trodAll_cons_mk (shut_bool htb true) trodAll_mk0
 have hvs:DataW.TrodVars enc P W' (fun b=>decide (b<W.heap.size)) s.vars [] []:=by rw[hvars];rfl
 refine⟨ds,[],before,[],before,[],hW0,?_,?_,?_,World.keptBut_mono (fun x hx=>⟨hx,.inr (.inl hx)⟩) (hb.frame (·∈before)),fun _=>⟨?_,?_⟩⟩
 ·rw[P2,hf];exact hres _ _ _
 ·rw[P2,hf];exact hs _ fun x hx=>by simpa using hlt x hx
 ·rw[P2,hf];exact hvs
 ·intro j t r h1 h2;rw[hrt]at h1 h2
  cases j with
  |zero=>
   simp at h1;subst h1;have:r=.bool true:=by simp[Value.resultList]at h2;exact h2.symm
   subst this;simp[Value.okWide,htb,Cell.okWide,Cell.ok]
  |succ j=>simp at h1
 ·refine⟨[.lit (.bool true)]++ds,[],[]++before,⟨[]++before,[],trodAll_append (hs _ fun _ _=>rfl) (hres _ _ _),by rw[hvars];rfl,by simp,fun b off hp=>?_,fun ha=>by simpa using hn ha⟩,fun x hx _=>by simpa using hx⟩;have hin:MemPlace.cell b off∈before:=by simpa using hp
  rw[hb.frozen (p:=⟨b,off,none⟩) (hlt _ hin)];exact hz b off hin
variable {w:World} {base:Nat} {sp:Nat->Bool} {held:Bool}
theorem jB{t:TypeId}{k:IntKind}{fuel:Nat}{cs:List Value}{x:DataW H×List MemPlace}(ht:P.underlying t=some (.int k))(h:DataW.trod enc P w base sp held fuel t cs=some x) :
  ∃n:Int,cs=[.int k n]/\V (Om0 w) (.int k n) (.int k n):=by
 obtain⟨n,rfl,_,hw⟩:=DataW.trod_int ht h;simp only[Lit.wf,NZ,O1]at hw;exact⟨n,rfl,.int k n hw.1 hw.2⟩
theorem je{t:TypeId}{fuel:Nat}{cs:List Value}{x:DataW H×List MemPlace}(ht:P.underlying t=some .string)(h:DataW.trod enc P w base sp held fuel t cs=some x) :
  ∃(s:Str)(v:Value),cs=[v]/\V (Om0 w) (.str s) v:=by
 obtain⟨s,rfl,_,hw⟩:=DataW.trod_string ht h;refine⟨s.data.toList,_,rfl,?_⟩;have e:s=⟨s.data.toList.toArray⟩:=by cases s;simp
 have hl:s.data.toList.length<=bj:=by have:s.data.size=s.size:=rfl;unfold maxLen at hw;unfold bj;simp only[PE,this];omega
 have:=V.str (Ω:=Om0 w) s.data.toList hl;rw[<-e]at this;exact this
theorem Nz{t e:TypeId}{τ:Ty}{fuel:Nat}{cs:List Value}{x:DataW H×List MemPlace}(ht:P.underlying t=some (.slice e))(hc:P.cellsOf e=ab τ)(h:DataW.trod enc P w base sp held fuel t cs=some x)
 (hel:∀(n:Nat)(ds:List Value)(y:DataW H×List MemPlace),fuel=n+1->DataW.trod enc P w base sp held n e ds=some y->∃z:den τ,VL (Om0 w) (cells τ z) ds)
 (hsp:∀a len cap,cs=[.slice (some a) len cap]->a.spot=none):∃(l:List (den τ))(v:Value),cs=[v]/\V (Om0 w) (.lst τ l none) v:=by
 rcases QP ht h with⟨rfl,_⟩|⟨a,len,cap,elems,rest,n,hfu,rfl,_,_,hlc,hcm,hlen,hels,_,_⟩
 ·exact⟨[],_,rfl,.lstNil τ none (fun id hid=>by cases hid)⟩
 ·have hs:=hsp a len cap rfl;obtain⟨b,off,spot⟩:=a;simp only at hs;subst hs
  have each:∀i,i<len->∃z:den τ,∃ds:List Value,ds.length=ab τ/\(∀j,j<ab τ->w.cell? ⟨b,off+(i *ab τ+j),none⟩=ds[j]?)/\VL (Om0 w) (cells τ z) ds:=by
   intro i hi;have h1:=hels i hi;obtain⟨y,hy⟩:∃y,elems[i]?=some y:=⟨_,NY (by omega)⟩;rw[hy,hc,QA]at h1;obtain⟨ds,hd,hy'⟩:=h1;obtain⟨_,hdl,hdc⟩:=R5 hd;obtain⟨z,hz⟩:=hel n ds y hfu hy';refine⟨z,ds,hdl,fun j hj=>?_,hz⟩;have:=hdc j hj
   have ha:∀(o n:Nat),(⟨b,o,none⟩:Addr).add n=⟨b,o+n,none⟩:=by
    intro o n;unfold Addr.add;by_cases h0:n=0
    ·subst h0;rfl
    ·rw[O0 h0]
   rw[ha,ha,PO]at this;exact this
  have hz:∃l:List (den τ),l.length=len/\∀i z,l[i]?=some z->∃ds:List Value,ds.length=ab τ/\(∀j,j<ab τ->w.cell? ⟨b,off+(i *ab τ+j),none⟩=ds[j]?)/\VL (Om0 w) (cells τ z) ds:=by
   refine⟨(List.range len).attach.map fun i=>(each i.1 (Py.1 i.2)).choose,by simp,fun i z hi=>?_⟩;have hil:i<len:=by have:=(OA.1 hi).1;simpa using this
   simp only[OD,Ov]at hi;obtain⟨⟨k,hk⟩,h1,h2⟩:=hi;have hki:k=i:=by have:=OA.1 h1;obtain⟨_,e⟩:=this;have:=PT Subtype.val e;simpa using this.symm
   subst hki;rw[<-h2];exact(each k (Py.1 hk)).choose_spec
  obtain⟨l,hll,hle⟩:=hz;refine⟨l,_,rfl,?_⟩;have key:=V.lst (Ω:=Om0 w) τ l none b off cap (fun i j=>(w.cell? ⟨b,off+(i *ab τ+j),none⟩).getD undef) (by omega) (by unfold maxLen at hcm;unfold bj;omega) (fun id hid=>by cases hid) (fun i z hz j c hj=>?_) (fun i z hz j c hj=>?_)
  ·rw[hll]at key;exact key
  ·obtain⟨ds,d1,d2,d3⟩:=hle i z hz;have hjw:j<ab τ:=by rw[<-aQ τ z];exact(OA.1 hj).1
   have hv:w.cell? ⟨b,off+(i *ab τ+j),none⟩=some ds[j]:=by rw[d2 j hjw];exact NY (by omega)
   refine⟨⟨_,hv⟩,?_⟩;show w.cell? _=_;rw[hv];rfl
  ·obtain⟨ds,d1,d2,d3⟩:=hle i z hz;have hjw:j<ab τ:=by rw[<-aQ τ z];exact(OA.1 hj).1
   have hd:ds[j]?=some ds[j]:=NY (by omega);rw[d2 j hjw,hd];exact d3.2 j c ds[j] hj hd
theorem IJ{r:Reach}{b0:Nat}{t e:TypeId}{v:Value}(ht:P.underlying t=some (.slice e))(hv:Value.okWide P w r b0 t v):∀a len cap,v.cells.toList=[.slice (some a) len cap]->a.spot=none:=by
 intro a len cap hc;have:Cell.okWide P w r b0 t v:=by unfold Value.okWide at hv;rw[ht]at hv;exact hv
 unfold Cell.okWide at this;rw[ht]at this;have hok:Cell.ok P w r b0 t v:=by cases v<;>exact this
 unfold Cell.ok at hok;rw[ht]at hok
 cases v with
 |slice o l c=>simp[Value.cells]at hc;obtain⟨rfl,rfl,rfl⟩:=hc;simp only at hok;exact hok.2.2.2.1
 |_=>first|exact hok.elim|(simp[Value.cells]at hc)
theorem L6{r:Reach}{b0:Nat}{t e:TypeId}{v:Value}(ht:P.underlying t=some (.slice e))(hv:Value.okWide P w r b0 t v):v.cells.toList=[v]:=by
 have:Cell.okWide P w r b0 t v:=by unfold Value.okWide at hv;rw[ht]at hv;exact hv
 unfold Cell.okWide at this;rw[ht]at this;have hok:Cell.ok P w r b0 t v:=by cases v<;>exact this
 unfold Cell.ok at hok;rw[ht]at hok
 cases v with|slice o l c=>rfl|_=>exact hok.elim
end
end Go.AL
end
noncomputable section
namespace Go.AL
variable [Tabs]
open Go.ChangeShapes Go.WideShapes Go.RowKit
variable {H:Type} {enc:TypeId×Value->H} {P:Program} {w:World} {base:Nat} {held:Bool}
theorem rL{sp:Nat->Bool}{t:TypeId}{fs:Array Field}{fuel:Nat}{cs:List Value}{x:DataW H×List MemPlace}(ht:P.underlying t=some (.struct fs))(h:DataW.trod enc P w base sp held fuel t cs=some x) :
  ∃n,fuel=n+1/\cs.length=P.cellsOf t/\∀(i:Nat)(f:Field),fs[i]?=some f->∃y,DataW.trod enc P w base sp held n f.type ((cs.drop f.offset).take (P.cellsOf f.type))=some y:=by
 obtain⟨xs,n,hn,_,hl,hx,hf⟩:=DataW.trod_struct ht h;refine⟨n,hn,hl,fun i f hif=>?_⟩
 have hi:i<xs.length:=by
  rw[hx];rcases O5 i fs.size with k|k
  ·exact k
  ·rw[OM k]at hif;cases hif
 exact⟨xs[i],by rw[hf i f hif];exact NY hi⟩
theorem nI{t e:TypeId}{τ:Ty}{fuel:Nat}{cs:List Value}{x:DataW H×List MemPlace}(ht:P.underlying t=some (.slice e))(hc:P.cellsOf e=ab τ)(hw:0<ab τ)
 (h:DataW.trod enc P w base (fun _=>true) held fuel t cs=some x)
 (hel:∀(n:Nat)(ds:List Value)(y:DataW H×List MemPlace),fuel=n+1->DataW.trod enc P w base (fun _=>true) held n e ds=some y->∃z:den τ,VL (Om0 w) (cells τ z) ds) :
  ∃(l:List (den τ))(v:Value),cs=[v]/\V (Om0 w) (.lst τ l none) v:=by
 have h0:=h;rcases QP ht h with⟨rfl,_⟩|⟨a,len,cap,elems,rest,n,hfu,rfl,_,_,hlc,hcm,hlen,hels,hrest,_⟩
 ·exact⟨[],_,rfl,.lstNil τ none (fun id hid=>by cases hid)⟩
 ·by_cases hcap:cap=0
  ·have:len=0:=by omega
   subst hcap this;exact⟨[],_,rfl,.lstVoid τ a⟩
  ·refine Nz ht hc h0 hel fun a' len' cap' e'=>?_;simp only[P8,Po,Xs,OK]at e';obtain⟨rfl,rfl,rfl⟩:=e'
   have hr:∃(ad:Addr)(y:DataW H×List MemPlace),ad=a/\(w.cells? base ad (P.cellsOf e)).bind (DataW.trod enc P w base (fun _=>true) held n e)=some y:=by
    by_cases hl:len=0
    ·obtain⟨r1,r2⟩:=hrest rfl;have:=r2 0 (by omega);rw[hl]at this;refine⟨_,_,?_,this.trans (NY (by omega))⟩;simp[Addr.add]
    ·have:=hels 0 (by omega);refine⟨_,_,?_,this.trans (NY (by omega))⟩;simp[Addr.add]
   obtain⟨ad,y,rfl,hy⟩:=hr;rw[QA]at hy;obtain⟨ds,hd,_⟩:=hy;obtain⟨_,hdl,hdc⟩:=R5 hd;have:=hdc 0 (by rw[hc];exact hw);have ha:ad.add 0=ad:=by simp[Addr.add]
   rw[ha,NY (by rw[hdl,hc];exact hw)]at this;unfold World.cell? at this;split at this
   ·split at this
    ·cases this
    ·rename_i hs;cases hsp:ad.spot
     ·rfl
     ·rw[hsp]at hs;exact absurd rfl hs
   ·cases this
structure ShapeAt(P:Program)(t:TypeId):Prop where
 ex:∃(f0 f1 f2 f3 f4:Field)(e:TypeId),P.underlying t=some (.struct #[f0,f1,f2,f3,f4])/\P.cellsOf t=5/\
  (f0.offset=0/\f1.offset=1/\f2.offset=2/\f3.offset=3/\f4.offset=4)/\
  (P.cellsOf f0.type=1/\P.cellsOf f1.type=1/\P.cellsOf f2.type=1/\P.cellsOf f3.type=1/\P.cellsOf f4.type=1)/\
  P.underlying f0.type=some (.int .i64)/\P.underlying f1.type=some .string/\P.underlying f2.type=some .string/\P.underlying f3.type=some (.slice e)/\P.underlying e=some .string/\P.cellsOf e=1/\P.underlying f4.type=some (.slice t)
theorem F0{t:TypeId}(hs:ShapeAt P t):∀(fuel:Nat)(cs:List Value)(x:DataW H×List MemPlace),DataW.trod enc P w base (fun _=>true) held fuel t cs=some x->∃s:Shape,VL (Om0 w) (cells (.st .shape) s) cs:=by
 obtain⟨f0,f1,f2,f3,f4,e,ht,hc,⟨o0,o1,o2,o3,o4⟩,⟨c0,c1,c2,c3,c4⟩,u0,u1,u2,u3,us,ce,u4⟩:=hs;intro fuel
 induction fuel using Nat.strongRecOn with
 |_ fuel ih=>
 intro cs x h;obtain⟨n,hn,hl,hf⟩:=rL ht h;rw[hc]at hl;obtain⟨y0,h0⟩:=hf 0 f0 rfl;obtain⟨y1,h1⟩:=hf 1 f1 rfl;obtain⟨y2,h2⟩:=hf 2 f2 rfl;obtain⟨y3,h3⟩:=hf 3 f3 rfl;obtain⟨y4,h4⟩:=hf 4 f4 rfl
 match cs,hl with
 |[a0,a1,a2,a3,a4],_=>
  rw[o0,c0]at h0;rw[o1,c1]at h1;rw[o2,c2]at h2;rw[o3,c3]at h3;rw[o4,c4]at h4;simp only[Pe,Pq,Ph,PJ]at h0 h1 h2 h3 h4;obtain⟨k,e0,v0⟩:=jB u0 h0;obtain⟨p,v,e1,v1⟩:=je u1 h1;obtain⟨m,v',e2,v2⟩:=je u2 h2;obtain⟨ns,v'',e3,v3⟩:=nI (τ:=.str) u3 (by rw[ce];rfl) (by decide) h3 fun n' ds y _ hy=>by obtain⟨s,v,rfl,hv⟩:=je us hy;exact⟨s,VL.cons hv .nil⟩
  obtain⟨ps,v''',e4,v4⟩:=nI (τ:=.st .shape) u4 (by rw[hc];rfl) (by decide) h4 fun n' ds y hn' hy=>ih n' (by omega) ds y hy;simp only[P8,OK]at e0 e1 e2 e3 e4;subst e0 e1 e2 e3 e4;exact⟨⟨k,p,m,ns,ps⟩,VL.cons v0 (VL.cons v1 (VL.cons v2 (VL.cons v3 (VL.cons v4 .nil))))⟩
end Go.AL
end
noncomputable section
namespace Go.AL
open Go.ChangeShapes Go.WideShapes Go.RowKit
abbrev tz(w:World):Tabs:=⟨fun b o v=>b<8/\w.cell? ⟨b,o,none⟩=some v,fun b x=>b<8/\w.heap[b]?=some x⟩
variable [Tabs]
variable {H:Type} {enc:TypeId×Value->H} {P:Program} {w:World} {base:Nat} {held:Bool}
end Go.AL
end
noncomputable section
namespace Go.AL
open Go.ChangeShapes Go.WideShapes Go.RowKit
variable [Tabs]
variable {H:Type} {enc:TypeId×Value->H} {P:Program} {w:World} {base:Nat} {held:Bool}
end Go.AL
end
noncomputable section
namespace Go.AL
variable [Tabs]
theorem bn.blk{Ω:Om}{own:Nat->Nat->Prop}{id:Nat}{ob:SObj}(hs:bn Ω own id ob){c:CObj}(hc:Ω.e id=some c){b o:Nat}(hb:occ c b o):b<Ω.w.heap.size:=by
 cases ob with
 |box x=>
  obtain⟨b',off,he,hh⟩:=hs;rw[he]at hc;simp only[Xs]at hc;subst hc;obtain⟨rfl,h1,h2⟩:=hb;have hj:o-off<(ae x).length:=by omega
  obtain⟨_,_,_,v,hv,_⟩:=hh (o-off) _ (NY hj);exact aC hv
 |tail τ n=>obtain⟨base,cap,he,_,_,_,hb'⟩:=hs;rw[he]at hc;simp only[Xs]at hc;subst hc;obtain⟨_,vs,ty,fz,hh,_⟩:=hb' b hb;exact aI hh
 |grow τ n xs=>obtain⟨base,cap,he,_,_,_,hb'⟩:=hs;rw[he]at hc;simp only[Xs]at hc;subst hc;obtain⟨_,⟨vs,ty,fz,hh,_⟩,_⟩:=hb' b hb;exact aI hh
 |map κ τ m=>obtain⟨r,he,_,es,clock,hh,_⟩:=hs;rw[he]at hc;simp only[Xs]at hc;subst hc;have:b=r:=hb;subst this;exact aI hh
 |bld t u l=>obtain⟨b0,g,he,_,hh⟩:=hs;rw[he]at hc;simp only[Xs]at hc;subst hc;exact hh.lt hb
 |tailp τ n x=>
  obtain⟨b0,cap,he,_,_,_,⟨vs,ty,fz,hh,_⟩,_⟩:=hs;rw[he]at hc;simp only[Xs]at hc;subst hc;have:b0=b:=by simpa[occ]using hb
  subst this;exact aI hh
def tA(e:Nat->Option CObj)(k b o:Nat):Prop:=∃c,e k=some c/\occ c b o
theorem After.slot{w w':World}{pub:Nat->Nat->Prop}{e:Nat->Option CObj}{S:List (Nat×SObj)}
 (hp:jx w pub)(hs:∀id o,aj S id=some o->bn ⟨e,w,pub⟩ (fun _ _=>True) id o)(hd:∀id,aj S id=none->e id=none)(hi:Inj e)
 {k:Nat}{obj:SObj}{c:CObj}{Q:Nat->Nat->Prop}
 (os:w'.os=w.os)(tape:w'.tape=w.tape)(output:w'.output=w.output)(size:w.heap.size<=w'.heap.size)
 (block:∀b,b<w.heap.size->(∀o,¬tA e k b o)->w'.heap[b]?=w.heap[b]?)
 (cell:∀b o,b<w.heap.size->¬tA e k b o->w'.cell? ⟨b,o,none⟩=w.cell? ⟨b,o,none⟩)
 (kind:∀b,b<w.heap.size->¬(∀o,tA e k b o)->w'.shape? b=w.shape? b/\∀o,w'.frozen? ⟨b,o,none⟩=w.frozen? ⟨b,o,none⟩)
 (hpub:∀b o,pub b o->w'.cell? ⟨b,o,none⟩=w.cell? ⟨b,o,none⟩)
 (hQ:∀b o,Q b o->w.heap.size<=b/\∃v,w'.cell? ⟨b,o,none⟩=some v)
 (hle:∀c0,e k=some c0->CLe c0 c)(hnew:∀b o,occ c b o->w.heap.size<=b∨tA e k b o)
 (hobj:Ext ⟨e,w,pub⟩ ⟨fun i=>if k=i then some c else e i,w',fun b o=>pub b o∨Q b o⟩->
   bn ⟨fun i=>if k=i then some c else e i,w',fun b o=>pub b o∨Q b o⟩ (fun b o=>w.heap.size<=b∨gM e b o) k obj) :
  After w pub e (aj (cr S [(k,obj)])) w' (fun b o=>pub b o∨Q b o) (fun i=>if k=i then some c else e i):=by
 have blk:∀{id c b o},e id=some c->occ c b o->b<w.heap.size:=by
  intro id c b o hc ho
  cases hg:aj S id with
  |none=>rw[hd id hg]at hc;cases hc
  |some ob=>exact(hs id ob hg).blk (Ω:=⟨e,w,pub⟩) hc ho
 have hx:Ext ⟨e,w,pub⟩ ⟨fun i=>if k=i then some c else e i,w',fun b o=>pub b o∨Q b o⟩:=by
  refine⟨fun id c' hc'=>?_,fun b o h=>Or.inl h,fun b o h=>hpub b o h⟩;by_cases hid:k=id
  ·subst hid;exact⟨c,by simp,hle c' hc'⟩
  ·exact⟨c',by simp only[O0 hid];exact hc',CLe.refl _⟩
 have toL:∀{b o},tA e k b o->gM e b o:=fun⟨c,h1,h2⟩=>⟨k,c,h1,h2⟩;have stay:∀{id c' b o},k≠id->e id=some c'->occ c' b o->¬tA e k b o:=by rintro id c' b o hid hc ho ⟨c0,h1,h2⟩;exact hid (hi k id c0 c' b o h1 hc h2 ho)
 refine⟨os,tape,output,size,fun b hb h=>block b hb fun o ho=>h o (toL ho),fun b o hb h=>cell b o hb fun ho=>h (toL ho),
  fun b hb h=>kind b hb fun ho=>h fun o=>toL (ho o),hx,fun b o h=>?_,fun b o h=>?_,fun id o h=>?_,fun id h=>?_,?_⟩
 ·rcases h with h|h
  ·exact Or.inl h
  ·exact Or.inr (Or.inl (hQ b o h).1)
 ·rcases h with h|h
  ·obtain⟨v,hv⟩:=hp b o h;exact⟨v,(hpub b o h).trans hv⟩
  ·exact(hQ b o h).2
 ·rw[j9,iy]at h;by_cases hid:k=id
  ·subst hid;simp only[P1]at h;cases h;exact hobj hx
  ·simp only[O0 hid]at h;have h0:=hs id o h;refine bn.own_of (bn.keep h0 hx (by simp only[O0 hid]) fun c' hc'=>?_) (fun c' b o hc ho=>?_)
   ·have hc':e id=some c':=hc'
    cases c' with
    |box b off len=>
     intro oo h1 h2;have ho:occ (.box b off len) b oo:=⟨rfl,h1,h2⟩;refine⟨cell b oo (blk hc' ho) (stay hid hc' ho),(kind b (blk hc' ho) fun hall=>stay hid hc' ho (hall oo)).2 oo,fun hp'=>?_⟩;rcases hp' with hp'|hp'
     ·exact hp'
     ·have:=(hQ _ _ hp').1;have:=blk hc' ho;omega
    |tail n base cap=>
     intro b hb;have ho:∀oo,occ (.tail n base cap) b oo:=fun _=>hb;refine⟨block b (blk hc' (ho 0)) fun oo=>stay hid hc' (ho oo),fun oo hp'=>?_⟩;rcases hp' with hp'|hp'
     ·exact hp'
     ·have:=(hQ _ _ hp').1;have:=blk hc' (ho 0);omega
    |obj r=>have ho:∀oo,occ (.obj r) r oo:=fun _=>rfl;exact block r (blk hc' (ho 0)) fun oo=>stay hid hc' (ho oo)
    |bld b g=>
     intro b' hb';have ho:∀oo,occ (.bld b g) b' oo:=fun _=>hb';refine⟨block b' (blk hc' (ho 0)) fun oo=>stay hid hc' (ho oo),fun oo hp'=>?_⟩;rcases hp' with hp'|hp'
     ·exact hp'
     ·have:=(hQ _ _ hp').1;have:=blk hc' (ho 0);omega
   ·simp only[O0 hid]at hc;exact Or.inr ⟨id,c',hc,ho⟩
 ·rw[j9,iy]at h;by_cases hid:k=id
  ·simp[hid]at h
  ·simp only[O0 hid]at h⊢;exact hd id h
 ·intro i j ci cj b o hci hcj hoi hoj;simp only at hci hcj;by_cases h1:k=i<;>by_cases h2:k=j
  ·omega
  ·simp only[O3 h1,O0 h2,Xs]at hci hcj;subst hci;rcases hnew b o hoi with h|h
   ·have:=blk hcj hoj;omega
   ·exact absurd h (stay h2 hcj hoj)
  ·simp only[O0 h1,O3 h2,Xs]at hci hcj;subst hcj;rcases hnew b o hoj with h|h
   ·have:=blk hci hoi;omega
   ·exact absurd h (stay h1 hci hoi)
  ·simp only[O0 h1,O0 h2]at hci hcj;exact hi i j ci cj b o hci hcj hoi hoj
theorem After.fresh1{w w':World}{pub:Nat->Nat->Prop}{e:Nat->Option CObj}{S:List (Nat×SObj)}
 (hp:jx w pub)(hs:∀id o,aj S id=some o->bn ⟨e,w,pub⟩ (fun _ _=>True) id o)(hd:∀id,aj S id=none->e id=none)(hi:Inj e)
 {k:Nat}{obj:SObj}{c:CObj}(hb:RowKit.Below w.heap.size w w')(hk:aj S k=none)(hnew:∀b o,occ c b o->w.heap.size<=b)
 (hobj:bn ⟨fun i=>if k=i then some c else e i,w',fun b o=>pub b o∨False⟩ (fun b o=>w.heap.size<=b∨gM e b o) k obj) :
  After w pub e (aj (cr S [(k,obj)])) w' (fun b o=>pub b o∨False) (fun i=>if k=i then some c else e i):=
 After.slot hp hs hd hi (Q:=fun _ _=>False) hb.os hb.tape hb.output hb.size (fun b h _=>hb.block b h) (fun b o h _=>ai (hb.block b h) o)
  (fun b h _=>⟨aT (hb.block b h),fun o=>aK (hb.block b h) o⟩)
  (fun b o h=>by obtain⟨v,hv⟩:=hp b o h;exact ai (hb.block b (aC hv)) o)
  (fun _ _ h=>h.elim) (fun c0 h=>by rw[hd k hk]at h;cases h) (fun b o h=>Or.inl (hnew b o h)) (fun _=>hobj)
theorem VL.one_inv{Ω:Om}{a:AV}{vs:List Value}(h:VL Ω [a] vs):∃v,vs=[v]/\V Ω a v:=by
 obtain⟨hl,h⟩:=h
 match vs,hl,h with
 |[v],_,h=>exact⟨v,rfl,h 0 a v rfl rfl⟩
theorem VL.two_inv{Ω:Om}{a b:AV}{vs:List Value}(h:VL Ω [a,b] vs):∃v u,vs=[v,u]/\V Ω a v/\V Ω b u:=by
 obtain⟨hl,h⟩:=h
 match vs,hl,h with
 |[v,u],_,h=>exact⟨v,u,rfl,h 0 a v rfl rfl,h 1 b u rfl rfl⟩
end Go.AL
end
noncomputable section
namespace Go.AL
variable [Tabs]
open Go.Proofs Go.Shelf Go.RowKit
variable {P:Program} {ρ:Ren}
end Go.AL
end
noncomputable section
namespace Go.AL
variable [Tabs]
open Go.Proofs Go.RowKit Go.Maps Go.Sort Go.Shelf
variable {P:Program} {ρ:Ren}
def fm{α:Type}(F:Fence)(n:Nat)(P:Program)(g:Nat)(lb:Array Value)(enc:α->Value)(S:List α->Prop)(N:Nat)(w:World):Prop:=
 ∀(l:Nat)(J:List α->World->Prop)(W:World),Below w.heap.size w W->AbidesFrom W.heap.size J->(∀pre W1,J pre W1->Below w.heap.size w W1)->
  (∀pre x W1,J pre W1->pre.length<N->YieldAt F (n-1) P l #[enc x] W1 fun e W'=>e=.returned (.bool true)/\J (pre++[x]) W'/\KeepsWalks W1 W')->
  J [] W->
  CallsIn F n P g (#[.func (.yield l) #[] #[]]++lb) W fun e W'=>(∃v,e=.returned v)/\∃xs,S xs/\J xs W'
theorem fm.bounded{α:Type}{F:Fence}{n:Nat}{g:Nat}{lb:Array Value}{enc:α->Value}{S:List α->Prop}{N:Nat}{w:World}
 (h:fm F n P g lb enc S N w):fm F n P g lb enc (fun xs=>S xs/\xs.length<=N) N w:=fun l J W hW hJ hB hY h0=>by
 refine(h l (fun xs W'=>J xs W'/\xs.length<=N) W hW (fun s A B row hs hg hr=>⟨hJ s A B row hs.1 hg hr,hs.2⟩) (fun pre W1 h=>hB pre W1 h.1)
  (fun pre x W1 hj hl=>(hY pre x W1 hj.1 hl).mono (fun e w' hr=>⟨hr.1,⟨hr.2.1,by simp;omega⟩,hr.2.2⟩)) ⟨h0,Of _⟩).mono ?_
 rintro e W' ⟨hv,xs,hS,hJ',hlen⟩;exact⟨hv,xs,⟨hS,hlen⟩,hJ'⟩
set_option maxRecDepth 100000 in
set_option maxHeartbeats 2000000 in
theorem CX(L:SlLaysZ.n11 P ρ)(F:Fence)(n:Nat)(h11:F.fn (ρ.f 11))(hro:F.round=none)(hn:2<=n)(g:Nat)(lb:Array Value)(hFg:F.fn g)(eg:∀args w,(callFunc g args).run P w=.ok (.enter g args) w)
 (S:List (List UInt8)->Prop)(N:Nat)(hN:N<=maxLen)(hNb:N *16<=140737488355328)(w:World)(hseq:fm F (n-1) P g lb encStr S N w) :
  CallsIn F n P (ρ.f 11) #[.slice none 0 0,.func (.func g) #[] lb] w fun e w'=>∃(v:Value)(ss:List (List UInt8)),e=.returned v/\S ss/\w'.ownsRow w.heap.size (ρ.t 26) 1 v ss.length (ss.map encStr)/\(v=.slice none 0 0↔ss=[])/\Below w.heap.size w w':=by
 have h1:1<=n:=by omega
 have mixed:=L.mixed;have t0:=L.t0;have a0:=L.a0;have z0:=L.z0;have v0:=L.v0;have t24:=L.t24;have a24:=L.a24;have z24:=L.z24;have v24:=L.v24;have t26:=L.t26;have a26:=L.a26;have z26:=L.z26;have v26:=L.v26;have t28:=L.t28;have a28:=L.a28;have z28:=L.z28;have v28:=L.v28;have hne:ρ.t 24≠ρ.t 26:=fun e=>by have h:=L.t24;rw[e,L.t26]at h;cases h
 have u0:=Pc L.t0;have u24:=Pc L.t24;have u26:=Pc L.t26;have u28:=Pc L.t28;obtain⟨_,_,FG⟩:=L.f11;refine callsIn_of_wp_marks FG rfl h11 ?_ hro;simp only[SlBodyZ.n11_ntmps ρ,PB,O8,ON,Nat.reduceAdd,Nat.reduceSub,Pu,Pv,PH,Px,Pn,OQ]
 gi_wp2
 refine wpIn_rangeFunc ?_;intro fn hfn;rw[hro];obtain⟨W0,hW0⟩:∃W0,w.alloc (.cells #[.slice none 0 0] (ρ.t 24))=W0:=⟨_,rfl⟩;have hs0:W0.heap.size=w.heap.size+1:=by rw[<-hW0];simp
 have hv0:W0.heap[w.heap.size]?=some (.cells #[.slice none 0 0] (ρ.t 24) (0,0)):=by rw[<-hW0];exact World.alloc_heap_new w _
 have hb0:Below w.heap.size w W0:=by rw[<-hW0];exact(Below.refl _ w).alloc (Od _) _
 rw[hW0];obtain⟨W1,hW1⟩:∃W1,(W0.alloc (.deferred (some []))).alloc (.loop (AnyZ.apRec ρ fn (.func (.func g) #[] lb) w.heap.size W0.heap.size .ready none))=W1:=⟨_,rfl⟩;have hold:∀k,k<W0.heap.size->W1.heap[k]?=W0.heap[k]?:=fun k hk=>by rw[<-hW1];exact(Below.heap_alloc _ _ k (by simp;omega)).trans (Below.heap_alloc _ _ k hk)
 have hb1:Below w.heap.size w W1:=by rw[<-hW1];exact(hb0.alloc hb0.size _).alloc (by have:=hb0.size;simp;omega) _
 have hs1:W1.heap.size=W0.heap.size+2:=by rw[<-hW1];simp
 have hM:AnyZ.ApAt ρ w fn (.func (.func g) #[] lb) w.heap.size (W0.heap.size+1) W0.heap.size [] W1:=
  ⟨⟨_,(hold w.heap.size (by omega)).trans hv0,⟨rfl,.inl ⟨rfl,rfl⟩⟩,by simp⟩,
   by rw[<-hW1];have:=World.alloc_heap_new (W0.alloc (.deferred (some []))) (.loop (AnyZ.apRec ρ fn (.func (.func g) #[] lb) w.heap.size W0.heap.size .ready none));rwa [World.size_alloc]at this,
   by rw[<-hW1];exact(Below.heap_alloc _ _ _ (by simp)).trans (World.alloc_heap_new W0 _),hb1⟩
 refine⟨W0.heap.size+1,[{target:=.collected W0.heap.size,args:=#[]}],W1,{target:=.fn (.func g) lb,args:=#[.func (.yield (W0.heap.size+1)) #[] #[]]},W1,g,
  #[.func (.yield (W0.heap.size+1)) #[] #[]]++lb,W1,?_,?_,?_,?_,fun _=>h1,?_⟩
 ·rw[<-hW1];exact run_enterLoop_outer _ _ _ _ _
 ·simp[resolve,go_sem]
 ·intro f' hf';simp[Target.leads]at hf';subst hf';exact hFg
 ·simp[invoke,go_sem,eg]
 ·refine(hseq (W0.heap.size+1) (AnyZ.ApAt ρ w fn (.func (.func g) #[] lb) w.heap.size (W0.heap.size+1) W0.heap.size) W1 hb1 (AnyZ.ap_abides ρ _ _ _ _ _ _ _ hb1.size) (fun _ _ h=>h.below)
   (fun pre x W hJ hl=>AnyZ.apYield {L with} F (n-1-1) w fn hfn _ w.heap.size (W0.heap.size+1) W0.heap.size (by omega) (by omega) (by omega) (Od _) (by omega) N hN hNb pre x W hJ hl) hM).mono ?_
  rintro e W2 ⟨⟨v0,rfl⟩,ss,hS,h2⟩;obtain⟨v,hv,hrow,hnil⟩:=h2.box;have hend:=run_endLoop (P:=P) h2.L (by simp[AnyZ.apRec]);obtain⟨W3,hW3⟩:∃W3,W2.putObj (W0.heap.size+1) (.loop {AnyZ.apRec ρ fn (.func (.func g) #[] lb) w.heap.size W0.heap.size .ready none with state:=.exhausted})=W3:=⟨_,rfl⟩;rw[hW3]at hend;have hg3:W2.grownBy W3 (some (W0.heap.size+1)):=by rw[<-hW3];exact grownBy_putObj_a _ _ _
  have hv3:W3.heap[w.heap.size]?=some (.cells #[v] (ρ.t 24) (0,0)):=by rw[<-hW3];exact(World.putObj_heap_other (by omega)).trans hv
  have hK3:W3.heap[W0.heap.size]?=some (.deferred (some [])):=by rw[<-hW3];exact(World.putObj_heap_other (by omega)).trans h2.K
  have hrow3:=hrow.kept hg3 (ownsRow_ne_a hrow h2.L (fun cur e=>by first|cases e|exact hne (Q3 e).2.1));have hb3:Below w.heap.size w W3:=h2.below.grown hg3 h2.below.size (fun k e=>by cases e;omega);obtain⟨hc3,hf3⟩:=cell_of_box_a hv3;clear hW3;refine⟨none,W3,hend,?_⟩
  gi_wp2
  rw[<-hs0];refine⟨by simp,.inl ⟨_,_,rfl,run_takeDeferred hK3,?_⟩⟩;exact⟨_,results_tmp rfl _ _ _,v,ss,rfl,hS,hrow3.kept (grownBy_putObj_a _ _ _) (ownsRow_ne_a hrow3 hK3 (fun cur e=>by first|cases e|exact hne (Q3 e).2.1)),hnil,hb3.grown (grownBy_putObj_a _ _ _) hb3.size (fun k e=>by cases e;omega)⟩
set_option maxRecDepth 100000 in
set_option maxHeartbeats 2000000 in
theorem IK(L:SlLaysZ.n8 P ρ)(F:Fence)(n:Nat)(h8:F.fn (ρ.f 8))(h11:F.fn (ρ.f 11))(hro:F.round=none)(hn:3<=n)(g:Nat)(lb:Array Value)(hFg:F.fn g)(eg:∀args w,(callFunc g args).run P w=.ok (.enter g args) w)
 (S:List (List UInt8)->Prop)(N:Nat)(hN:N<=maxLen)(hNb:N *16<=140737488355328)(w:World)(hseq:fm F (n-1-1) P g lb encStr S N w) :
  CallsIn F n P (ρ.f 8) #[.func (.func g) #[] lb] w fun e w'=>∃(v:Value)(ss:List (List UInt8)),e=.returned v/\S ss/\w'.ownsRow w.heap.size (ρ.t 26) 1 v ss.length (ss.map encStr)/\(v=.slice none 0 0↔ss=[])/\Below w.heap.size w w':=by
 have h1:1<=n:=by omega
 have e11:∀args w,(callFunc (ρ.f 11) args).run P w=.ok (.enter (ρ.f 11) args) w:=L.f11.enters rfl;have mixed:=L.mixed;have t0:=L.t0;have a0:=L.a0;have z0:=L.z0;have v0:=L.v0;have t24:=L.t24;have a24:=L.a24;have z24:=L.z24;have v24:=L.v24;have t26:=L.t26;have a26:=L.a26;have z26:=L.z26;have v26:=L.v26;have t28:=L.t28;have a28:=L.a28;have z28:=L.z28;have v28:=L.v28;have u0:=Pc L.t0;have u24:=Pc L.t24;have u26:=Pc L.t26;have u28:=Pc L.t28;obtain⟨_,_,FG⟩:=L.f8;refine callsIn_of_wp FG rfl h8 ?_ hro;simp only[SlBodyZ.n8_ntmps ρ,PB,O8,ON,Nat.reduceAdd,Nat.reduceSub,Pu,Pv,PH,Px,Pn,OQ]
 gi_wp2_with (gi_at_fn (ρ.f 11);refine(CX {L with} F (n-1) h11 hro (by omega) g lb hFg eg S N hN hNb _ hseq).mono ?_;rintro e w' ⟨v,ss,rfl,hS,hrow,hnil,hb⟩)
 go_ret
 exact⟨v,ss,rfl,hS,hrow,hnil,hb⟩
set_option maxRecDepth 100000 in
set_option maxHeartbeats 2000000 in
theorem L7(L:SlLaysZ.n6 P ρ)(F:Fence)(n:Nat)(h6:F.fn (ρ.f 6))(h8:F.fn (ρ.f 8))(h9:F.fn (ρ.f 9))(h11:F.fn (ρ.f 11))(hro:F.round=none)(hn:4<=n)(hsort:AnyZ.SortsIn P ρ F (n-1))(e9:∀args w,(callFunc (ρ.f 9) args).run P w=.ok (.enter (ρ.f 9) args) w)(g:Nat)(lb:Array Value)(hFg:F.fn g)(eg:∀args w,(callFunc g args).run P w=.ok (.enter g args) w)
 (S:List (List UInt8)->Prop)(N:Nat)(hN:N<=maxLen)(hNb:N *16<=140737488355328)(w:World)(hseq:fm F (n-1-1-1) P g lb encStr S N w) :
  CallsIn F n P (ρ.f 6) #[.func (.func g) #[] lb] w fun e w'=>∃(v:Value)(ss:List (List UInt8)),e=.returned v/\S ss/\
   w'.ownsRow w.heap.size (ρ.t 26) 1 v ss.length ((ss.mergeSort (fun x y=>decide (x<=y))).map encStr)/\(v=.slice none 0 0↔ss=[])/\Below w.heap.size w w':=by
 have h1:1<=n:=by omega
 have e8:∀args w,(callFunc (ρ.f 8) args).run P w=.ok (.enter (ρ.f 8) args) w:=L.f8.enters rfl;have mixed:=L.mixed;have t0:=L.t0;have a0:=L.a0;have z0:=L.z0;have v0:=L.v0;have t24:=L.t24;have a24:=L.a24;have z24:=L.z24;have v24:=L.v24;have t26:=L.t26;have a26:=L.a26;have z26:=L.z26;have v26:=L.v26;have t28:=L.t28;have a28:=L.a28;have z28:=L.z28;have v28:=L.v28;have u0:=Pc L.t0;have u24:=Pc L.t24;have u26:=Pc L.t26;have u28:=Pc L.t28;obtain⟨_,_,FG⟩:=L.f6;refine callsIn_of_wp FG rfl h6 ?_ hro;simp only[SlBodyZ.n6_ntmps ρ,PB,O8,ON,Nat.reduceAdd,Nat.reduceSub,Pu,Pv,PH,Px,Pn,OQ]
 gi_wp2_with (gi_at_fn (ρ.f 8);refine(IK {L with} F (n-1) h8 h11 hro (by omega) g lb hFg eg _ N hN hNb _ (fm.bounded hseq)).mono ?_;rintro e W ⟨v,ss,rfl,⟨hS,hlen⟩,hrow,hnil,hb⟩)
 rcases hrow.2 with⟨rfl,hz⟩|⟨gb,cap,cur,rfl,hbase,hgb,r1,r2,r3,r4⟩
 ·
  have hss:ss=[]:=Oc hz;subst hss
  gi_wp2_with (gi_at_fn (ρ.f 9);refine(hsort.2 none 0 W).mono ?_;rintro e w' ⟨rfl,rfl⟩)
  go_ret
  exact⟨.slice none 0 0,[],rfl,hS,by simpa using hrow,by simp,hb⟩
 ·have hH:Go.Sort.Holds encStr W gb 0 ss.toArray:=holds_of_block hgb (by simpa using r4);have hgl:gb<W.heap.size:=(OB.1 hgb).1;have hsz:ss.length<4611686018427387904:=by omega
  have cS:=hsort.1 gb 0 cap ss W hH hgl hsz
  gi_wp2_with (gi_at_fn (ρ.f 9);refine cS.mono ?_;rintro e w' ⟨rfl,nn,os,rfl⟩)
  go_ret
  exact⟨_,ss,rfl,hS,ownsRow_sorted (by simp) hbase hgb r1 r2 r3,hnil,hb.grown (grownBy_sorted _) hb.size (fun j hj=>by cases hj;exact hbase)⟩
theorem G6{f:Nat}{args:List AV}{S:List (Nat×SObj)}{ob:Option Prop}{T:TypeId}{ss:List Str}(hk:aj S 0=none)
 (hC:∀w pub e vs,jx w pub->VL ⟨e,w,pub⟩ args vs->(∀id o,aj S id=some o->bn ⟨e,w,pub⟩ (fun _ _=>True) id o)->
   (∀s∈ss,s.length<=bj)/\Calls P f vs.toArray w fun en w'=>∃v,en=.returned v/\w'.ownsRow w.heap.size T 1 v ss.length (ss.map encStr)/\Below w.heap.size w w') :
  ak P f args S ⟨ob,none,.arr 0 ss.length 1,[(0,.box (.row .str ss))]⟩:=by
 intro w pub e vs hp ht hv hs hd hi;obtain⟨hlen,hC⟩:=hC w pub e vs hp hv hs;refine hC.mono ?_;rintro en w' ⟨v,rfl,⟨hl,hrow⟩,hb⟩;have hpl:(ae (.row .str ss)).length=ss.length:=by have:=aY .str ss;rw[show ab .str=1 from rfl,RE]at this;exact this
 rcases hrow with⟨rfl,hz⟩|⟨g,cap,cur,rfl,hbase,hg,h1,h2,h3,h4⟩
 ·have hss:ss=[]:=Oc hz;subst hss;refine⟨_,_,fun _ _ _ h=>(by cases h),?_,After.fresh1 (c:=.box w.heap.size 0 0) hp hs hd hi hb hk (fun b o ho=>by obtain⟨_,_,h⟩:=ho;omega) ⟨w.heap.size,0,by simp;rfl,fun j c' hc=>?_⟩⟩
  ·exact .arr 0 0 1 w.heap.size 0 0 none (by simp) (by omega) (by omega) (by unfold bj;omega) (.inr ⟨rfl,rfl,rfl⟩)
  ·simp[ae,flat]at hc
 ·refine⟨_,_,fun _ _ _ h=>(by cases h),?_,After.fresh1 (c:=.box g 0 (ae (.row .str ss)).length) hp hs hd hi hb hk (fun b o ho=>by obtain⟨rfl,_,_⟩:=ho;exact hbase) ⟨g,0,by simp,fun j c' hc=>?_⟩⟩
  ·exact .arr 0 ss.length 1 g (ae (.row .str ss)).length cap (some ⟨g,0,none⟩) (by simp) (by omega) h1 (by unfold maxLen at h2;unfold bj;omega) (.inl rfl)
  ·have hj:j<ss.length:=by
    rw[<-hpl];rcases O5 j (ae (.row .str ss)).length with k|k
    ·exact k
    ·rw[O2 k]at hc;cases hc
   have hcx:=gl .str ss j ss[j] 0 (.str ss[j]) (by simp[hj]) rfl;have hc0:(ae (.row .str ss))[j]?=some (.str ss[j]):=by rw[show j *ab .str+0=j by rw[show ab .str=1 from rfl];omega]at hcx;exact hcx
   rw[hc0]at hc;cases hc
   have hcur:cur[j]?=some (encStr ss[j]):=by
    have:(cur.toList.take (ss.length *1))[j]?=some (encStr ss[j]):=by rw[h4];simp[hj]
    rw[Oy]at this;split at this
    ·simpa using this
    ·cases this
   refine⟨.inl hbase,fun h=>?_,ez hg _,encStr ss[j],by rw[P0,al hg];exact hcur,.str _ (hlen _ (QK hj))⟩;rcases h with h|h
   ·obtain⟨v,hv⟩:=hp _ _ h;have:=aC hv;omega
   ·exact h
def fT(l:List Str):List Str:=l.mergeSort fun x y=>decide (x<=y)
theorem oN(l:List Str):(fT l).length=l.length:=List.length_mergeSort _
theorem G7{l:List Str}{s:Str}:s∈fT l↔s∈l:=Qh
structure SortL(P:Program)(ρ:Ren):Prop where
 lay:SlLaysZ.n6 P ρ
 sorts:AnyZ.SortsIn P ρ Fence.wide 4
 e9:∀args w,(callFunc (ρ.f 9) args).run P w=.ok (.enter (ρ.f 9) args) w
theorem xR(L:SortL P ρ){g:Nat}{lb:Array Value}(eg:∀args w,(callFunc g args).run P w=.ok (.enter g args) w){ks:List Str}(hN:ks.length *16<=140737488355328){w:World}
 (hseq:fm Fence.wide 2 P g lb encStr (fun ss=>ss.Perm ks) ks.length w) :
  Calls P (ρ.f 6) #[.func (.func g) #[] lb] w fun en w'=>∃v,en=.returned v/\w'.ownsRow w.heap.size (ρ.t 26) 1 v (fT ks).length ((fT ks).map encStr)/\Below w.heap.size w w':=by
 refine callsIn_wide.1 ((L7 L.lay Fence.wide 5 trivial trivial trivial trivial rfl (by omega) L.sorts L.e9 g lb trivial eg _ ks.length (by unfold maxLen;omega) hN w hseq).mono ?_);rintro en w' ⟨v,ss,rfl,hS,hrow,_,hb⟩;have e:ss.mergeSort (fun x y=>decide (x<=y))=fT ks:=mergeSort_of_perm hS;have hl:ss.length=(fT ks).length:=by rw[oN];exact hS.length_eq
 rw[e,hl]at hrow;exact⟨v,rfl,hrow,hb⟩
theorem V.fn_inv{Ω:Om}{f:Nat}{cs:List AV}{v:Value}(h:V Ω (.fn f cs) v):∃vs,v=.func (.func f) #[] vs.toArray/\VL Ω cs vs:=by
 cases h with|fn _ _ vs h1 h2=>exact⟨vs,rfl,h1,h2⟩
def Strs(n₀:Nat)(W:World)(sv:Value)(zs:List Str):Prop:=
 ((∃a cap,sv=.slice a 0 cap)/\zs=[])∨∃b off cap,sv=.slice (some ⟨b,off,none⟩) zs.length cap/\b<n₀/\∀j,j<zs.length->W.cell? ⟨b,off+j,none⟩=some (encStr (zs[j]?.getD []))
def upto{α:Type}(f:Nat->α)(k:Nat):List α:=(List.range k).map f
theorem G8{α:Type}(f:Nat->α)(k:Nat):upto f (k+1)=upto f k++[f k]:=by simp[upto,List.range_succ]
theorem zL{α:Type}(f:Nat->α)(k:Nat):(upto f k).length=k:=by simp[upto]
theorem IL(zs:List Str):upto (fun j=>zs[j]?.getD []) zs.length=zs:=by
 apply List.ext_getElem
 ·simp[upto]
 ·intro i h1 h2;simp[upto,h2]
def xS(P:Program)(g:Nat):Prop:=
 ∀(w:World)(b o:Nat)(sv:Value)(zs:List Str),zs.length<=maxLen->w.cell? ⟨b,o,none⟩=some sv->Strs w.heap.size w sv zs->
  fm Fence.wide 2 P g #[.pointer (some ⟨b,o,none⟩)] encStr (fun ss=>ss=zs) zs.length w
theorem V.dropTok{Ω:Om}{τ:Ty}{xs:List (den τ)}{o:Option Nat}{v:Value}(h:V Ω (.lst τ xs o) v):V Ω (.lst τ xs none) v:=by
 cases h with|lstNil=>exact .lstNil τ none (fun _ h=>by cases h)|lstVoid _ a=>exact .lstVoid τ a|lst _ _ _ b off cap vals h1 h2 h3 h4 h5=>exact .lst τ xs none b off cap vals h1 h2 (fun _ h=>by cases h) h4 h5
theorem nJ(L:SortL P ρ){g:Nat}(eg:∀args w,(callFunc g args).run P w=.ok (.enter g args) w)(K:xS P g)(zs:List Str)(hN:zs.length *16<=140737488355328)(tok:Option Nat) :
  ak P (ρ.f 6) [.fn g [.ptr 900 0]] [(900,.box (.lst .str zs tok))] ⟨some (zs.length *16<=140737488355328),none,.arr 0 (fT zs).length 1,[(0,.box (.row .str (fT zs)))]⟩:=by
 refine G6 (T:=ρ.t 26) rfl fun w pub e vs hp hv hs=>?_;obtain⟨v1,rfl,h1⟩:=VL.one_inv hv;obtain⟨us,rfl,hus⟩:=h1.fn_inv;obtain⟨u,rfl,hu⟩:=VL.one_inv hus;obtain⟨b,o,len,rfl,he⟩:=hu.ptr_inv;obtain⟨b',o',he',hbox⟩:=hs 900 _ rfl;rw[he]at he';cases he';obtain⟨_,_,_,v,hcell,hvm⟩:=hbox 0 (.lst .str zs tok) rfl
 have hst:Strs w.heap.size w v zs:=by
  cases hvm with
  |lstNil=>exact .inl ⟨⟨_,_,rfl⟩,rfl⟩
  |lstVoid=>exact .inl ⟨⟨_,_,rfl⟩,rfl⟩
  |lst _ _ _ g0 off cap vals h1 h2 h3 h4 h5=>
   rcases Qg zs.length with hz|hz
   ·have:=Oc hz;subst this;exact .inl ⟨⟨_,_,rfl⟩,rfl⟩
   ·have at_:∀j (hj:j<zs.length),w.cell? ⟨g0,off+j,none⟩=some (encStr zs[j]):=by intro j hj;have q:=h4 j zs[j] (by simp[hj]) 0 (.str zs[j]) rfl;have r:=h5 j zs[j] (by simp[hj]) 0 (.str zs[j]) rfl;obtain⟨r1,_⟩:=r.str_inv;have:=q.2;rw[r1]at this;simpa[ab]using this
    exact .inr ⟨g0,off,cap,rfl,aC (at_ 0 hz),fun j hj=>by rw[at_ j hj];simp[hj]⟩
 refine⟨fun s hs=>?_,?_⟩
 ·have hw:Wf (.lst .str) zs:=⟨_,_,V.dropTok hvm⟩;exact(hw.mem (G7.1 hs)).str
 have hsq:=K w b (o+0) v zs (by unfold maxLen;omega) hcell hst;refine xR L eg hN (w:=w) ?_;intro l J W a1 a2 a3 a4 a5;refine(hsq l J W a1 a2 a3 a4 a5).mono ?_;rintro e W' ⟨h1,xs,rfl,h3⟩;exact⟨h1,xs,.refl _,h3⟩
end Go.AL
end
noncomputable section
namespace Go.AL
variable [Tabs]
open Go.Proofs Go.RowKit Go.Maps Go.Sort Go.Shelf
variable {P:Program} {ρ:Ren}
theorem After.row{w w':World}{pub:Nat->Nat->Prop}{e:Nat->Option CObj}{S:List (Nat×SObj)}
 (hp:jx w pub)(hs:∀id o,aj S id=some o->bn ⟨e,w,pub⟩ (fun _ _=>True) id o)(hd:∀id,aj S id=none->e id=none)(hi:Inj e)
 {k b:Nat}{c c':AV}(hk:aj S k=some (.box c))(he:e k=some (.box b 0 (ae c).length))(hl:(ae c').length=(ae c).length)
 (os:w'.os=w.os)(tape:w'.tape=w.tape)(output:w'.output=w.output)(size:w.heap.size<=w'.heap.size)
 (hblock:∀b',b'<w.heap.size->b'≠b∨(ae c).length=0->w'.heap[b']?=w.heap[b']?)
 (hcell:∀j,(ae c).length<=j->w'.cell? ⟨b,j,none⟩=w.cell? ⟨b,j,none⟩)
 (hkind:w'.shape? b=w.shape? b/\∀o,w'.frozen? ⟨b,o,none⟩=w.frozen? ⟨b,o,none⟩)
 (hval:∀(j:Nat)(c0:AV),(ae c')[j]?=some c0->∃v,w'.cell? ⟨b,j,none⟩=some v/\∀Ω',V Ω' c0 v) :
  After w pub e (aj (cr S [(k,.box c')])) w' (fun b o=>pub b o∨False) (fun i=>if k=i then some (.box b 0 (ae c).length)else e i):=by
 obtain⟨b0,off0,he0,hbox⟩:=hs k _ hk;have he0:e k=some (.box b0 off0 (ae c).length):=he0;rw[he]at he0;simp only[Xs,CObj.box.injEq]at he0;obtain⟨rfl,rfl,_⟩:=he0;have inE:∀{o},o<(ae c).length->tA e k b o:=fun h=>⟨_,he,rfl,by omega,by omega⟩
 have outE:∀{b' o},¬tA e k b' o->b'≠b∨(ae c).length<=o:=by
  intro b' o h;rcases O5 o (ae c).length with h'|h'
  ·exact .inl fun e=>h (e ▸ inE h')
  ·exact .inr h'
 have cell:∀b' o,b'<w.heap.size->¬tA e k b' o->w'.cell? ⟨b',o,none⟩=w.cell? ⟨b',o,none⟩:=by
  intro b' o h1 h2;by_cases hb:b'=b
  ·subst hb;rcases outE h2 with h|h
   ·exact absurd rfl h
   ·exact hcell o h
  ·exact ai (hblock b' h1 (.inl hb)) o
 refine After.slot hp hs hd hi (Q:=fun _ _=>False) os tape output size (fun b' h1 h2=>?_) cell (fun b' h1 h2=>?_) (fun b' o h=>?_) (fun _ _ h=>h.elim) (fun c0 h=>?_) (fun b' o h=>?_) (fun _=>?_)
 ·refine hblock b' h1 ?_;rcases outE (h2 0)with h|h
  ·exact .inl h
  ·exact .inr (by omega)
 ·by_cases hb:b'=b
  ·subst hb;exact hkind
  ·have:=hblock b' h1 (.inl hb);exact⟨aT this,fun o=>aK this o⟩
 ·obtain⟨v,hv⟩:=hp b' o h;refine cell b' o (aC hv) ?_;rintro⟨c1,h1,h2⟩;rw[he]at h1;cases h1;obtain⟨rfl,_,h3⟩:=h2;have hj:o<(ae c).length:=by omega
  have:=(hbox o _ (NY hj)).2.1;exact this (by simpa using h)
 ·rw[he]at h;cases h;exact⟨rfl,rfl,rfl⟩
 ·exact .inr ⟨_,he,h⟩
 ·refine⟨b,0,by simp[hl],fun j c0 hc=>?_⟩
  have hj:j<(ae c).length:=by
   rw[<-hl];rcases O5 j (ae c').length with q|q
   ·exact q
   ·rw[O2 q]at hc;cases hc
  obtain⟨_,q2,q3,_⟩:=hbox j _ (NY hj);obtain⟨v,hv,hV⟩:=hval j c0 hc;rw[P0]at q2 q3⊢;refine⟨.inr ⟨k,_,he,rfl,by omega,by omega⟩,fun h=>?_,?_,v,hv,hV _⟩
  ·rcases h with h|h
   ·exact q2 h
   ·exact h
  ·exact(hkind.2 j).trans q3
theorem lO{α:Type}[Inhabited α](enc:α->Value)(w:World)(b:Nat)(d:Array α)(k:Nat)(h:k≠b∨d.size=0):(putRow enc w b 0 d).heap[k]?=w.heap[k]?:=by
 unfold putRow mapBlock;simp only[Pl];by_cases hk:b=k
 ·subst hk;rcases h with h|h
  ·exact absurd rfl h
  ·simp only[P1]
   cases hw:w.heap[b]? with
   |none=>rfl
   |some o=>
    simp only[Pr,Xs]
    cases o with
    |cells c e f=>
     simp only[onCells,Obj.cells.injEq,OK,OV];apply Array.ext
     ·simp[putCells]
     ·intro i h1 h2;simp[putCells,h]
    |_=>rfl
 ·rw[O0 hk]
theorem oO{α:Type}[Inhabited α](enc:α->Value)(w:World)(b:Nat)(d:Array α):(putRow enc w b 0 d).shape? b=w.shape? b:=by
 unfold putRow mapBlock World.shape?;simp only[Pl,P1]
 cases w.heap[b]? with
 |none=>rfl
 |some o=>cases o<;>simp[onCells,putCells]
theorem cX{τ:Ty}(hw:ab τ=1)(xs:List (den τ)):(ae (.row τ xs)).length=xs.length:=by have:=aY τ xs;rw[hw,RE]at this;exact this
theorem gu{τ:Ty}(hw:ab τ=1)(xs:List (den τ))(j:Nat)(x:den τ)(c:AV)(hx:xs[j]?=some x)(hc:(cells τ x)[0]?=some c):(ae (.row τ xs))[j]?=some c:=by have:=gl τ xs j x 0 c hx hc;rw[hw,RE,PR]at this;exact this
theorem strRow{Ω:Om}{own:Nat->Nat->Prop}{id b:Nat}{ss:List Str}(h:bn Ω own id (.box (.row .str ss))){len:Nat}(he:Ω.e id=some (.box b 0 len)) :
  len=ss.length/\Go.Sort.Holds encStr Ω.w b 0 ss.toArray/\∀s∈ss,s.length<=bj:=by
 obtain⟨b',off,h1,h2⟩:=h;rw[he]at h1;simp only[Xs,CObj.box.injEq]at h1;obtain⟨rfl,rfl,h1⟩:=h1;have at_:∀j (hj:j<ss.length),Ω.w.frozen? ⟨b,0+j,none⟩=false/\Ω.w.cell? ⟨b,0+j,none⟩=some (encStr ss[j])/\ss[j].length<=bj:=by intro j hj;obtain⟨_,_,q3,v,q4,q5⟩:=h2 j _ (gu (τ:=.str) rfl ss j ss[j] (.str ss[j]) (by simp[hj]) rfl);obtain⟨rfl,q6⟩:=q5.str_inv;exact⟨q3,q4,q6⟩
 refine⟨by rw[h1];exact cX (τ:=.str) rfl ss,fun j hj=>?_,fun s hs=>?_⟩
 ·have hj':j<ss.length:=by simpa using hj
  obtain⟨q1,q2,_⟩:=at_ j hj';exact⟨by rw[q2];simp[hj'],q1⟩
 ·obtain⟨j,hj,rfl⟩:=PZ hs;exact(at_ j hj).2.2
theorem zM{ss:List Str}{s:Str}(h:s∈Lib.compact ss):s∈ss:=by unfold Lib.compact Lib.compactUpTo at h;obtain⟨j,hj,rfl⟩:=OC.1 h;have:=(OO.1 hj).1;rw[Py]at this;simp[this]
theorem After.strRow{w:World}{pub:Nat->Nat->Prop}{e:Nat->Option CObj}{S:List (Nat×SObj)}
 (hp:jx w pub)(hs:∀id o,aj S id=some o->bn ⟨e,w,pub⟩ (fun _ _=>True) id o)(hd:∀id,aj S id=none->e id=none)(hi:Inj e)
 {k b len q:Nat}{ss ts:List Str}{gs:Array Obj}(hk:aj S k=some (.box (.row .str ss)))(he:e k=some (.box b 0 len))(hl:ts.length=ss.length)(hb:b<w.heap.size)(ht:∀s∈ts,s.length<=bj) :
  After w pub e (aj (cr S [(k,.box (.row .str ts))])) (grow (putRow encStr (Sort.ahead w q) b 0 ts.toArray) gs) (fun b o=>pub b o∨False) (fun i=>if k=i then some (.box b 0 (ae (.row .str ss)).length)else e i):=by
 obtain⟨rfl,hH,_⟩:=AL.strRow (hs k _ hk) he;have hsz:(putRow encStr (Sort.ahead w q) b 0 ts.toArray).heap.size=w.heap.size:=by simp
 have old:∀j,j<w.heap.size->(grow (putRow encStr (Sort.ahead w q) b 0 ts.toArray) gs).heap[j]?=(putRow encStr (Sort.ahead w q) b 0 ts.toArray).heap[j]?:=by intro j hj;unfold grow;simp only;rw[Qi (by rw[hsz];exact hj)]
 have hpl:=cX (τ:=.str) rfl ss;refine After.row hp hs hd hi hk (by rw[he,hpl]) (by rw[cX rfl,cX rfl,hl]) rfl rfl rfl (by simp[grow]) (fun b' h1 h2=>?_) (fun j hj=>?_) ⟨?_,fun o=>?_⟩ (fun j c0 hc=>?_)
 ·rw[old b' h1,lO encStr (Sort.ahead w q) b ts.toArray b' (by rw[hpl]at h2;simpa[hl]using h2)];rfl
 ·rw[ai (old b hb) j,cell?_putRow_other encStr (Sort.ahead w q) b 0 ts.toArray ⟨b,j,none⟩ (.inr (.inr (by rw[hpl]at hj;simp;omega)))];rfl
 ·rw[aT (old b hb),oO];rfl
 ·rw[aK (old b hb) o,frozen?_putRow];rfl
 ·have hj:j<ts.length:=by
   rw[<-cX (τ:=.str) rfl ts];rcases O5 j (ae (.row .str ts)).length with q|q
   ·exact q
   ·rw[O2 q]at hc;cases hc
  rw[gu (τ:=.str) rfl ts j ts[j] (.str ts[j]) (by simp[hj]) rfl]at hc;cases hc;refine⟨encStr ts[j],?_,fun Ω'=>.str _ (ht _ (QK hj))⟩;rw[ai (old b hb) j];have:=cell?_putRow encStr (Sort.ahead w q) b 0 ss.toArray ts.toArray hH (by simp[hl]) j (by simpa using hj);rw[P0]at this;rw[this];simp[hj]
theorem vf(L:Lays.n194 P ρ)(n:Nat)(ss:List Str)(hn:n=ss.length) :
  ak P (ρ.f 194) [.arr 900 n 1] [(900,.box (.row .str ss))]
   ⟨some (n=ss.length),none,.arr 900 (Lib.compact ss).length 1,[(900,.box (.row .str (Lib.compact ss++List.replicate (ss.length-(Lib.compact ss).length) [])))]⟩:=by
 subst hn;intro w pub e vs hp ht hv hs hd hi;obtain⟨v,rfl,h1⟩:=VL.one_inv hv;have hcl:(Lib.compact ss).length<=ss.length:=by unfold Lib.compact Lib.compactUpTo;rw[P3];exact OT (QG _ _) (by simp)
 cases h1 with
 |arr _ _ _ b len cap a he h2 h3 h4 h5=>
  have he:e 900=some (.box b 0 len):=he;obtain⟨rfl,hH,hlen⟩:=strRow (hs 900 _ rfl) he;have hpl:=cX (τ:=.str) rfl ss;rcases h5 with rfl|⟨rfl,hz,rfl⟩
  ·by_cases h0:ss=[]
   ·subst h0;refine(Any.slices_Compact_string_empty L (some ⟨b,0,none⟩) cap w).mono ?_;rintro en w' ⟨rfl,rfl⟩;refine⟨_,_,fun _ _ _ h=>(by cases h),?_,After.row (c':=.row .str []) hp hs hd hi rfl (show e 900=some (.box b 0 (ae (.row .str [])).length)from he) rfl rfl rfl rfl (Od _) (fun _ _ _=>rfl) (fun _ _=>rfl) ⟨rfl,fun _=>rfl⟩ (fun j c0 hc=>by simp[ae,flat]at hc)⟩;exact .arr 900 0 1 b (ae (.row .str [])).length cap _ (by simp) (by omega) (by omega) h4 (.inl rfl)
   ·have hpos:0<ss.length:=PG.2 h0;have hb:b<w.heap.size:=aC (hH 0 (by simpa using hpos)).1;refine(Any.slices_Compact_string L b 0 cap ss w hH (by unfold bj at h4;omega) h3).mono ?_;rintro en w' ⟨rfl,q,rfl⟩
    have hA:=After.strRow (q:=q) (gs:=#[]) (ts:=Lib.compact ss++List.replicate (ss.length-(Lib.compact ss).length) []) hp hs hd hi rfl he (by simp;omega) hb (fun s hs'=>by
     rcases Ow.1 hs' with h|h
     ·exact hlen s (zM h)
     ·obtain⟨_,rfl⟩:=QW.1 h;exact Of _)
    rw[grow_empty]at hA;exact⟨_,_,fun _ _ _ h=>(by cases h),.arr 900 (Lib.compact ss).length 1 b (ae (.row .str ss)).length cap _ (by simp) (by rw[hpl];omega) (by omega) h4 (.inl rfl),hA⟩
  ·have h0:ss=[]:=Oc hz;subst h0;refine(Any.slices_Compact_string_empty L none 0 w).mono ?_;rintro en w' ⟨rfl,rfl⟩;refine⟨_,_,fun _ _ _ h=>(by cases h),?_,After.row (c':=.row .str []) hp hs hd hi rfl (show e 900=some (.box b 0 (ae (.row .str [])).length)from he) rfl rfl rfl rfl (Od _) (fun _ _ _=>rfl) (fun _ _=>rfl) ⟨rfl,fun _=>rfl⟩ (fun j c0 hc=>by simp[ae,flat]at hc)⟩;exact .arr 900 0 1 b (ae (.row .str [])).length 0 _ (by simp) (by omega) (by omega) h4 (.inr ⟨rfl,rfl,rfl⟩)
end Go.AL
end
noncomputable section
namespace Go.AL
variable [Tabs]
open Go.Proofs Go.RowKit Go.Maps Go.Sort Go.Shelf Go.Lib
variable {P:Program} {ρ:Ren}
theorem dz:∀a b:List UInt8,decide (compareBytes a b<0)=decide (a<b)
 |[],[]=>by simp[compareBytes]
 |[],_::_=>by simp[compareBytes]
 |_::_,[]=>by simp[compareBytes]
 |a::r,b::s=>by
  simp only[compareBytes];by_cases h1:a<b
  ·simp[h1,PN]
  ·by_cases h2:b<a
   ·have:a≠b:=fun e=>by subst e;exact h1 h2
    simp[h1,h2,PN,this]
   ·have:a=b:=RF (R6.1 h2) (R6.1 h1);subst this;simp only[h1,OL,dz r s];simp[PN,Q9]
def CmpC(P:Program)(g:Nat):Prop:=
 ∀(W:World)(b o g0 off cap len i j:Nat)(si sj:Str),W.cell? ⟨b,o+3,none⟩=some (.slice (some ⟨g0,off,none⟩) len cap)->i<len->j<len->
  W.cell? ⟨g0,off+i,none⟩=some (encStr si)->W.cell? ⟨g0,off+j,none⟩=some (encStr sj)->
  Calls P g #[.int .i64 i,.int .i64 j,.pointer (some ⟨b,o,none⟩)] W fun e w'=>e=.returned (.int .i64 (compareBytes si sj))/\∃q,w'=W.drewN q
def dr(names:List Str)(i:Int):Str:=names.getD i.toNat []
def iS(names:List Str)(xs:List Int):List Int:=xs.mergeSort fun i j=>decide (dr names i<=dr names j)
theorem Mm{m:Nat}:∀(xs:List Int),(∀x∈xs,0<=x/\x<m)->∃ps:List (Fin m),xs=ps.map fun i=>(i.val:Int)
 |[],_=>⟨[],rfl⟩
 |x::r,h=>by obtain⟨ps,hp⟩:=Mm r fun y hy=>h y (by simp[hy]);obtain⟨h1,h2⟩:=h x (by simp);exact⟨⟨x.toNat,by omega⟩::ps,by simp[<-hp];omega⟩
theorem CY{names:List Str}(hnd:names.Nodup){xs ys:List Int}(hx:∀x∈xs,0<=x/\x<names.length)(hp:ys.Perm xs)(hs:ys.Pairwise fun i j=>dr names i<=dr names j):ys=iS names xs:=by
 have tr:∀a b c:Int,decide (dr names a<=dr names b)=true->decide (dr names b<=dr names c)=true->decide (dr names a<=dr names c)=true:=fun a b c h1 h2=>by simp only[O1]at *;exact List.le_trans h1 h2
 have tot:∀a b:Int,(decide (dr names a<=dr names b)||decide (dr names b<=dr names a))=true:=fun a b=>by simp only[OS,O1];exact Ra _ _
 refine List.Perm.eq_of_pairwise (le:=fun a b=>dr names a<=dr names b) (fun a b ha hb h1 h2=>?_) hs ?_ (hp.trans (Qw xs _).symm)
 ·have e:=Qd h1 h2;obtain⟨a1,a2⟩:=hx a (hp.mem_iff.1 ha)
  obtain⟨b1,b2⟩:=hx b (by
   have:b∈iS names xs:=hb;exact Qh.1 this)
  have ha':a.toNat<names.length:=by omega
  have hb':b.toNat<names.length:=by omega
  unfold dr at e;rw[O4,O4,NY ha',NY hb']at e;simp only[OX]at e;rcases R1 a.toNat b.toNat with q|q|q
  ·rw[PA,Pb]at hnd;exact absurd e (hnd _ _ ha' hb' q)
  ·omega
  ·rw[PA,Pb]at hnd;exact absurd e.symm (hnd _ _ hb' ha' q)
 ·have:=QB tr tot xs;exact this.imp fun h=>by simpa using h
theorem After.rowG{α:Type}[Inhabited α](enc:α->Value){w:World}{pub:Nat->Nat->Prop}{e:Nat->Option CObj}{S:List (Nat×SObj)}{τ:Ty}(hw:ab τ=1)
 (hp:jx w pub)(hs:∀id o,aj S id=some o->bn ⟨e,w,pub⟩ (fun _ _=>True) id o)(hd:∀id,aj S id=none->e id=none)(hi:Inj e)
 {k b q:Nat}{xs ys:List (den τ)}{d0 d:Array α}{gs:Array Obj}(hk:aj S k=some (.box (.row τ xs)))(he:e k=some (.box b 0 xs.length))(hl:ys.length=xs.length)(hb:b<w.heap.size)
 (hH:Go.Sort.Holds enc w b 0 d0)(h0:d0.size=xs.length)(h1:d.size=xs.length)(hv:∀(j:Nat)(y:den τ)(c:AV),ys[j]?=some y->(cells τ y)[0]?=some c->∀Ω,V Ω c (enc d[j]!))(hc1:∀y:den τ,∃c,(cells τ y)[0]?=some c) :
  After w pub e (aj (cr S [(k,.box (.row τ ys))])) (grow (putRow enc (Sort.ahead w q) b 0 d) gs) (fun b o=>pub b o∨False) (fun i=>if k=i then some (.box b 0 (ae (.row τ xs)).length)else e i):=by
 have hsz:(putRow enc (Sort.ahead w q) b 0 d).heap.size=w.heap.size:=by simp
 have old:∀j,j<w.heap.size->(grow (putRow enc (Sort.ahead w q) b 0 d) gs).heap[j]?=(putRow enc (Sort.ahead w q) b 0 d).heap[j]?:=by intro j hj;unfold grow;simp only;rw[Qi (by rw[hsz];exact hj)]
 have hpl:=cX hw xs;refine After.row hp hs hd hi hk (by rw[he,hpl]) (by rw[cX hw,cX hw,hl]) rfl rfl rfl (by simp[grow]) (fun b' k1 k2=>?_) (fun j hj=>?_) ⟨?_,fun o=>?_⟩ (fun j c0 hc=>?_)
 ·rw[old b' k1,lO enc (Sort.ahead w q) b d b' (by rw[hpl]at k2;rcases k2 with k2|k2;exact .inl k2;exact .inr (by omega))];rfl
 ·rw[ai (old b hb) j,cell?_putRow_other enc (Sort.ahead w q) b 0 d ⟨b,j,none⟩ (.inr (.inr (by rw[hpl]at hj;show 0+d.size<=j;omega)))];rfl
 ·rw[aT (old b hb),oO];rfl
 ·rw[aK (old b hb) o,frozen?_putRow];rfl
 ·have hj:j<ys.length:=by
   rw[<-cX hw ys];rcases O5 j (ae (.row τ ys)).length with q|q
   ·exact q
   ·rw[O2 q]at hc;cases hc
  obtain⟨c1,hc1⟩:=hc1 ys[j];rw[gu hw ys j ys[j] c1 (by simp[hj]) hc1]at hc;cases hc;refine⟨enc d[j]!,?_,hv j ys[j] _ (by simp[hj]) hc1⟩;rw[ai (old b hb) j];have:=cell?_putRow enc (Sort.ahead w q) b 0 d0 d hH (by omega) j (by omega);rw[P0]at this;exact this
theorem jf{α:Type}[Inhabited α](enc:α->Value){w:World}{b m b2 o2:Nat}{d:Array α}{os:Array Obj}{v:Value}(h:w.cell? ⟨b2,o2,none⟩=some v)(hn:b2≠b∨d.size<=o2) :
  (sortWorld enc w b 0 m d os).cell? ⟨b2,o2,none⟩=some v:=by
 have hb:=aC h;have old:(sortWorld enc w b 0 m d os).heap[b2]?=(putRow enc (Sort.ahead w m) b 0 d).heap[b2]?:=by unfold sortWorld grow;simp only;rw[Qi (by simp;exact hb)]
 rw[ai old o2,cell?_putRow_other enc (Sort.ahead w m) b 0 d ⟨b2,o2,none⟩ (by
  rcases hn with hn|hn
  ·exact .inl hn
  ·exact .inr (.inr (by show 0+d.size<=o2;omega)))]
 exact h
set_option maxHeartbeats 1000000 in
theorem tB(L:SlLaysF.n6 P ρ){g:Nat}(eg:∀args w,(callFunc g args).run P w=.ok (.enter g args) w)(C:CmpC P g)(s:Shape)(n:Nat)(xs:List Int)(hn:n=xs.length)(h0:xs≠[])
 (hx:∀x∈xs,0<=x/\x<s.names.length)(hnd:s.names.Nodup)(hbig:xs.length<4611686018427387904)(ob:Option Prop) :
  ak P (ρ.f 6) [.arr 900 n 1,.fn g [.ptr 901 0]] [(900,.box (.row (.int .i64) xs)),(901,.box (.st .shape s))] ⟨ob,none,.tup [],[(900,.box (.row (.int .i64) (iS s.names xs)))]⟩:=by
 subst hn;intro w pub e vs hp ht hv hs hd hi;obtain⟨v1,v2,rfl,h1,h2⟩:=VL.two_inv hv;obtain⟨us,rfl,hus⟩:=h2.fn_inv;obtain⟨u,rfl,hu⟩:=VL.one_inv hus;obtain⟨b,o,len',rfl,he1⟩:=hu.ptr_inv;have he1:e 901=some (.box b o len'):=he1;have hpos:0<xs.length:=PG.2 h0;have hm:0<s.names.length:=by obtain⟨x,hx'⟩:=List.exists_mem_of_ne_nil xs h0;have:=hx x hx';omega
 cases h1 with
 |arr _ _ _ blk len cap a he q2 q3 q4 q5=>
  have he:e 900=some (.box blk 0 len):=he
  obtain rfl:a=some ⟨blk,0,none⟩:=by
   rcases q5 with h|⟨_,h,_⟩
   ·exact h
   ·omega
  obtain⟨blk',off',he',hrow⟩:=hs 900 _ rfl;have he':e 900=some (.box blk' off' (ae (.row (.int .i64) xs)).length):=he';rw[he]at he';simp only[Xs,CObj.box.injEq]at he';obtain⟨rfl,rfl,hlen⟩:=he';rw[cX (τ:=.int .i64) rfl xs]at hlen;subst hlen;obtain⟨b',o',he2,hbox⟩:=hs 901 _ rfl;have he2:e 901=some (.box b' o' (ae (.st .shape s)).length):=he2;rw[he1]at he2;simp only[Xs,CObj.box.injEq]at he2;obtain⟨rfl,rfl,rfl⟩:=he2;obtain⟨_,_,_,vv,hcell,hvv⟩:=hbox 3 (.lst .str s.names none) rfl
  have q901:∀o2,o<=o2->o2<o+5->b≠blk∨xs.length<=o2:=by
   intro o2 k1 k2;rcases O5 o2 xs.length with h|h
   ·refine .inl fun e=>?_;subst e;have:=hi 900 901 _ _ b o2 he he1 ⟨rfl,by omega,by omega⟩ ⟨rfl,k1,k2⟩;omega
   ·exact .inr h
  have qpub:∀b2 o2,pub b2 o2->b2≠blk∨xs.length<=o2:=by
   intro b2 o2 hp2;rcases O5 o2 xs.length with h|h
   ·refine .inl fun e=>?_;subst e;have hj:o2<(ae (.row (.int .i64) xs)).length:=by rw[cX (τ:=.int .i64) rfl xs];exact h
    have:=(hrow o2 _ (NY hj)).2.1;rw[P0]at this;exact this hp2
   ·exact .inr h
  clear hbox;generalize s.names=nm at hx hnd hm hvv⊢;obtain⟨ps,hps⟩:=Mm xs hx
  haveI:Inhabited (Fin nm.length):=⟨⟨0,hm⟩⟩
  have hpsl:ps.length=xs.length:=by rw[hps];simp
  cases hvv with
  |lstNil=>exact absurd hm (by simp)
  |lstVoid=>exact absurd hm (by simp)
  |lst _ _ _ g0 off cap0 vals r1 r2 r3 r4 r5=>
   have at_:∀j (hj:j<nm.length),pub g0 (off+j)/\w.cell? ⟨g0,off+j,none⟩=some (encStr nm[j]):=by intro j hj;have q:=r4 j nm[j] (by simp[hj]) 0 (.str nm[j]) rfl;have r:=r5 j nm[j] (by simp[hj]) 0 (.str nm[j]) rfl;obtain⟨r1,_⟩:=r.str_inv;rw[r1]at q;simpa[ab]using q
   have hH:Go.Sort.Holds (fun i:Fin nm.length=>Value.int .i64 (i.val:Int)) w blk 0 ps.toArray:=by
    intro j hj;have hj':j<ps.length:=by simpa using hj
    have hjx:j<xs.length:=by omega
    obtain⟨_,_,k3,v,k4,k5⟩:=hrow j _ (gu (τ:=.int .i64) rfl xs j xs[j] (.int .i64 xs[j]) (by simp[hjx]) rfl);obtain⟨rfl,_⟩:=k5.int_inv;have k4:w.cell? ⟨blk,0+j,none⟩=some (.int .i64 xs[j]):=k4;refine⟨?_,k3⟩;rw[k4];simp[hps,hj']
   have hcmp:CmpLays1 P g #[.pointer (some ⟨b,o+0,none⟩)] (fun i:Fin nm.length=>Value.int .i64 (i.val:Int)) (fun i j=>compareBytes nm[i] nm[j]) blk 0 ps.toArray.size w:=by
    refine CmpReads.lays fun m os dk hsz x y=>?_;have hds:dk.size=xs.length:=by rw[hsz];simp[hpsl]
    have c0:=jf (fun i:Fin nm.length=>Value.int .i64 (i.val:Int)) (b:=blk) (m:=m) (d:=dk) (os:=os) hcell (by rw[hds];exact q901 (o+3) (by omega) (by omega));have cx:=jf (fun i:Fin nm.length=>Value.int .i64 (i.val:Int)) (b:=blk) (m:=m) (d:=dk) (os:=os) (at_ x.val x.isLt).2 (by rw[hds];exact qpub _ _ (at_ x.val x.isLt).1);have cy:=jf (fun i:Fin nm.length=>Value.int .i64 (i.val:Int)) (b:=blk) (m:=m) (d:=dk) (os:=os) (at_ y.val y.isLt).2 (by rw[hds];exact qpub _ _ (at_ y.val y.isLt).1);exact C _ b (o+0) g0 off cap0 nm.length x.val y.val nm[x] nm[y] c0 x.isLt y.isLt cx cy
   have hO:SWO (ltOf fun i j:Fin nm.length=>compareBytes nm[i] nm[j]):=by have e:∀i j:Fin nm.length,ltOf (fun i j:Fin nm.length=>compareBytes nm[i] nm[j]) i j=ltStr nm[i] nm[j]:=fun i j=>dz _ _;exact⟨fun i=>by rw[e];exact swo_ltStr.irrefl _,fun i j k h1 h2=>by rw[e]at *;exact swo_ltStr.trans _ _ _ h1 h2,fun i j k h1 h2=>by rw[e]at *;exact swo_ltStr.ntrans _ _ _ h1 h2⟩
   have hblk:blk<w.heap.size:=aC (hH 0 (by simp;omega)).1;have hcall:=Any.slices_SortFunc L (fun i:Fin nm.length=>Value.int .i64 (i.val:Int)) (fun _=>rfl) (fun i j=>compareBytes nm[i] nm[j]) hO g _ blk 0 cap ps.toArray w eg hcmp hH hblk (by simp;omega);rw[show ps.toArray.size=xs.length by simp[hpsl]]at hcall;refine hcall.mono ?_;rintro en w' ⟨rfl,d',n,os,⟨hds,_,hperm⟩,hsort,rfl⟩;have hd':d'.size=xs.length:=by rw[hds];simp[hpsl]
   have hys:d'.toList.map (fun i=>(i.val:Int))=iS nm xs:=by
    refine CY hnd hx ?_ ?_
    ·rw[hps];refine List.Perm.map _ ?_;have e1:d'.extract 0 xs.length=d':=by rw[<-hd'];simp
     have e2:ps.toArray.extract 0 xs.length=ps.toArray:=by rw[<-hpsl];simp
     rw[e1,e2]at hperm;simpa using hperm
    ·rw[Q5,Pb];intro i j hi hj hij;have hi':i<d'.size:=by simpa using hi
     have hj':j<d'.size:=by simpa using hj
     have:=hsort i j (Of _) hij (by omega);have e:=dz nm[d'[j]!] nm[d'[i]!];unfold ltOf at this;rw[e]at this;have h3:¬(nm[d'[j]!]<nm[d'[i]!]):=by simpa using this
     have:=Rh.1 h3;simp only[PX d' j hj',PX d' i hi']at this;simpa[dr]using this
   have hA:=After.rowG (q:=n) (gs:=os) (τ:=.int .i64) (xs:=xs) (ys:=iS nm xs) (fun i:Fin nm.length=>Value.int .i64 (i.val:Int)) (d0:=ps.toArray) (d:=d') rfl hp hs hd hi rfl he (by simp[iS]) hblk hH (by simp[hpsl]) hd' (fun j y c hy hc Ω=>?_) (fun y=>⟨_,rfl⟩)
   ·exact⟨_,_,fun _ _ _ h=>(by cases h),.tup [] [] rfl (fun j c v hc=>by simp at hc),hA⟩
   ·cases hc;rw[<-hys]at hy;have hj:j<d'.size:=by have:=(OA.1 hy).1;simpa using this
    have:y=(d'[j]!.val:Int):=by rw[OD]at hy;simp[hj]at hy;rw[PX d' j hj];exact hy.symm
    subst this;obtain⟨b1,b2⟩:=iQ (n:=d'[j]!.val) (by have:=d'[j]!.isLt;omega);exact .int .i64 _ b1 b2
end Go.AL
end
noncomputable section
namespace Go.AL
variable [Tabs]
open Go.Proofs Go.Shelf
variable {P:Program} {ρ:Ren}
def nK(gv:Nat):Pat:=fun args S=>
 match args,S with
 |[.fn g [.ptr 900 0]],[(900,.box (.lst .str zs _))]=>
  if g=gv then some ⟨some (zs.length *16<=140737488355328),none,.arr 0 (fT zs).length 1,[(0,.box (.row .str (fT zs)))]⟩else none
 |_,_=>none
theorem vg{f gv:Nat}(L:SortL P ρ)(hf:ρ.f 6=f)(eg:∀args w,(callFunc gv args).run P w=.ok (.enter gv args) w)(V:xS P gv)(he:Enters P f):ah P f (nK gv):=by
 subst hf;intro args S A h hob hkeys;unfold nK at h;split at h
 ·split at h
  ·rename_i e;subst e;cases h;exact⟨he,nJ L eg V _ (hob _ rfl) _⟩
  ·cases h
 ·cases h
def nL:Pat:=fun args S=>
 match args,S with
 |[.arr 900 n 1],[(900,.box (.row .str ss))]=>
  some ⟨some (n=ss.length),none,.arr 900 (Lib.compact ss).length 1,[(900,.box (.row .str (Lib.compact ss++List.replicate (ss.length-(Lib.compact ss).length) [])))]⟩
 |_,_=>none
theorem vh{f:Nat}(L:Lays.n194 P ρ)(hf:ρ.f 194=f)(he:Enters P f):ah P f nL:=by
 subst hf;intro args S A h hob hkeys;unfold nL at h;split at h
 ·cases h;exact⟨he,vf L _ _ (hob _ rfl)⟩
 ·cases h
def lP(gc:Nat):Pat:=fun args S=>
 match args,S with
 |[.arr 900 n 1,.fn g [.ptr 901 0]],[(900,.box (.row (.int .i64) xs)),(901,.box (.st .shape s))]=>
  if g=gc then some ⟨some (n=xs.length/\xs≠[]/\(∀x∈xs,0<=x/\x<s.names.length)/\s.names.Nodup/\xs.length<4611686018427387904),none,.tup [],[(900,.box (.row (.int .i64) (iS s.names xs)))]⟩else none
 |_,_=>none
theorem tC{f gc:Nat}(L:SlLaysF.n6 P ρ)(hf:ρ.f 6=f)(eg:∀args w,(callFunc gc args).run P w=.ok (.enter gc args) w)(C:CmpC P gc)(he:Enters P f):ah P f (lP gc):=by
 subst hf;intro args S A h hob hkeys;unfold lP at h;split at h
 ·split at h
  ·rename_i e;subst e;cases h;obtain⟨h1,h2,h3,h4,h5⟩:=hob _ rfl;exact⟨he,tB L eg C _ _ _ h1 h2 h3 h4 h5 _⟩
  ·cases h
 ·cases h
end Go.AL
end
noncomputable section
namespace Go.AL
open Go.Lib
theorem zN{l:List Str}(hs:l.Pairwise (·<= ·)):(Lib.compact l).length=l.length↔l.Nodup:=by
 unfold Lib.compact Lib.compactUpTo;rw[P3];have e:((List.range l.length).filter (keeps l.toArray)).length=l.length↔∀j,j<l.length->keeps l.toArray j=true:=by have h:=List.length_filter_eq_length_iff (p:=keeps l.toArray) (l:=List.range l.length);rw[List.length_range]at h;rw[h];simp
 rw[e,PA,Pb];rw[Pb]at hs;constructor
 ·intro h i j hi hj hij eq;have hk:=h j hj;have hj1:j-1<l.length:=by omega
  have h1:l[i]<=l[j-1]:=by
   rcases O5 i (j-1)with q|q
   ·exact hs i (j-1) hi hj1 q
   ·have:i=j-1:=by omega
    subst this;exact List.le_refl _
  have h2:l[j-1]<=l[j]:=hs (j-1) j hj1 hj (by omega);have h3:l[j-1]=l[j]:=Qd h2 (by rw[<-eq];exact h1);unfold keeps at hk;simp[hj,hj1,h3]at hk;omega
 ·intro h j hj;unfold keeps;rcases Qg j with q|q
  ·simp[q]
  ·have hj1:j-1<l.length:=by omega
   have:=h (j-1) j hj1 hj (by omega);simp[hj,hj1];exact .inr fun e=>this e.symm
theorem xT(l:List Str):(fT l).Pairwise (·<= ·):=by
 have tr:∀a b c:Str,decide (a<=b)=true->decide (b<=c)=true->decide (a<=c)=true:=fun a b c h1 h2=>by simp only[O1]at *;exact List.le_trans h1 h2
 have tot:∀a b:Str,(decide (a<=b)||decide (b<=a))=true:=fun a b=>by simp only[OS,O1];exact Ra _ _
 exact(QB tr tot l).imp fun h=>by simpa using h
theorem zO{l:List Str}:(fT l).Nodup↔l.Nodup:=(Qw l _).nodup_iff
theorem jg(l:List Str):(Lib.compact (fT l)).length=l.length↔l.Nodup:=by
 letI:=xx
 rw[<-oN l,zN (xT l),zO]
end Go.AL
end
section
namespace Go.Pd
open Go.AL
def dI(c:Int):Bool:=decide (97<=c)&&decide (c<=122)
def dR(c:Int):Bool:=decide (65<=c)&&decide (c<=90)
def iI(c:Int):Bool:=decide (48<=c)&&decide (c<=57)
def iB(c:Int):Bool:=dI c||dR c||iI c||decide (c=95)
def bI(b:UInt8):Int:=(b.toNat:Int)
def dJ(first:Int->Bool)(s:Str):Bool:=!decide (s=[])&&decide (s.length<=24)&&first (bI (s.getD 0 0))&&s.all fun c=>iB (bI c)
def str(s:String):Str:=s.toUTF8.data.toList
def Mn:List Str:=[[109,111,100,117,108,101],[105,109,112,111,114,116],[112,105,110],[114,97,110,103,101],[116,121,112,101],[111,112,97,113,117,101],[108,101,116],[105,110],[101,120,112,111,114,116],[102,117,110],[105,102],[116,104,101,110],[101,108,115,101],[99,97,115,101],[111,102],[97,115],[110,101,119],[114,97,119],[116,114,117,101],[102,97,108,115,101]]
def zP(s:Str):Bool:=decide (s∈Mn)
def aX(s:Str):Bool:=dJ dI s&&!zP s
def eG(s:Str):Bool:=dJ dR s
mutual
def sz:Shape->Nat
 |⟨_,_,_,_,ps⟩=>szL ps+1
def szL:List Shape->Nat
 |[]=>0
 |p::r=>sz p+szL r
end
mutual
def eqS:Shape->Shape->Bool
 |⟨k,p,n,ns,ps⟩,⟨k',p',n',ns',ps'⟩=>decide (k=k')&&decide (p=p')&&decide (n=n')&&decide (ns=ns')&&eqL ps ps'
def eqL:List Shape->List Shape->Bool
 |[],[]=>true
 |a::r,b::s=>eqS a b&&eqL r s
 |_,_=>false
end
mutual
def allS(f:Shape->Bool):Shape->Bool
 |⟨k,p,n,ns,ps⟩=>f ⟨k,p,n,ns,ps⟩&&allL f ps
def allL(f:Shape->Bool):List Shape->Bool
 |[]=>true
 |p::r=>allS f p&&allL f r
end
mutual
def deepS:Shape->Int->Int
 |⟨_,_,_,_,ps⟩,l=>deepL ps (l+1) l
def deepL:List Shape->Int->Int->Int
 |[],_,d=>d
 |p::r,l,d=>deepL r l (max d (deepS p l))
end
def nM(s:Str):Bool:=decide (s=[73,110,116])||decide (s=[66,111,111,108])||decide (s=[84,101,120,116])||decide (s=[65,110,121])
def ct:List Str->Str->Int->Int
 |[],_,_=>-1
 |a::r,v,i=>if a=v then i else ct r v (i+1)
theorem jh(a:Shape):sz a=szL a.parts+1:=by cases a;rfl
theorem eZ:∀{l:List Shape} {a:Shape},a∈l->sz a<=szL l
 |b::r,a,h=>by
  simp only[szL];rcases O7.1 h with rfl|h
  ·omega
  ·have:=eZ h;omega
theorem F3:∀{a b:List Shape},a.length≠b.length->eqL a b=false
 |[],[],h=>absurd rfl h
 |[],_::_,_=>rfl
 |_::_,[],_=>rfl
 |a::r,b::s,h=>by simp only[eqL];rw[F3 (fun e=>h (by simp[e]))];simp
def eH(s:Shape):Bool:=decide (s.names.length=s.parts.length)&&s.names.all aX&&decide s.names.Nodup
def aV(s:Shape):Bool:=
 let bare:=decide (s.pkg=[])&&decide (s.name=[])
 if s.kind=1∨s.kind=2∨s.kind=3∨s.kind=4 then bare&&decide (s.names=[])&&decide (s.parts=[])
 else if s.kind=5 then bare&&decide (s.names=[])&&decide (s.parts.length=1)
 else if s.kind=6∨s.kind=7 then bare&&eH s
 else if s.kind=8 then bare&&decide (s.names=[])&&!decide (s.parts=[])
 else if s.kind=9 then eG s.name&&(decide (s.pkg=[])&&!nM s.name||aX s.pkg)&&decide (s.names=[])&&decide (s.parts=[])
 else if s.kind=10 then eG s.name&&aX s.pkg&&decide (s.names=[])&&decide (s.parts=[])
 else false
theorem fH(a:Shape):0<sz a:=by rw[jh];omega
theorem mE:∀(l:List Shape),l.length<=szL l
 |[]=>Of _
 |a::r=>by have:=mE r;have:=fH a;simp only[szL,O8];omega
theorem allS_eq(f:Shape->Bool)(s:Shape):allS f s=(f s&&allL f s.parts):=by cases s;rfl
def dt(n:Nat):List Int:=(List.range n).map fun(i:Nat)=>(i:Int)
def bM(s:Shape):List Int:=if s.names=[]then dt s.parts.length else iS s.names (dt s.parts.length)
def xU:Shape:=⟨0,[],[],[],[]⟩
mutual
def sortedS:Shape->Shape
 |⟨k,p,n,ns,ps⟩=>⟨k,p,n,if ns=[]then[]else(bM ⟨k,p,n,ns,ps⟩).map (dr ns),(bM ⟨k,p,n,ns,ps⟩).map fun i=>(sortedL ps).getD i.toNat xU⟩
def sortedL:List Shape->List Shape
 |[]=>[]
 |p::r=>sortedS p::sortedL r
end
def fo(s:Shape):Bool:=decide (s.names=[])||(decide (s.names.length=s.parts.length)&&decide s.names.Nodup)
theorem dK(n:Nat):(dt n).length=n:=by simp[dt]
theorem zQ(n:Nat):dt (n+1)=dt n++[(n:Int)]:=by simp[dt,List.range_succ]
theorem tD{n:Nat}{x:Int}:x∈dt n↔0<=x/\x<n:=by
 simp only[dt,OC,Py];constructor
 ·rintro⟨i,hi,rfl⟩;omega
 ·rintro⟨h1,h2⟩;exact⟨x.toNat,by omega,by omega⟩
theorem qz(s:Shape):(bM s).Perm (dt s.parts.length):=by
 unfold bM;split
 ·exact .refl _
 ·exact Qw _ _
theorem vi(s:Shape):(bM s).length=s.parts.length:=by rw[(qz s).length_eq,dK]
theorem CZ{s:Shape}{x:Int}:x∈bM s↔0<=x/\x<s.parts.length:=by rw[(qz s).mem_iff,tD]
theorem G9{k n:Nat}(h:k<n):(dt k++List.replicate (n-k) (0:Int)).set k (k:Int)=dt (k+1)++List.replicate (n-(k+1)) 0:=by rw[List.set_append_right _ _ (by rw[dK];omega),dK,QO,show n-k=(n-(k+1))+1 by omega,List.replicate_succ,List.set_cons_zero,zQ,OE];rfl
theorem cD{α:Type}(l:List α)(k:Nat)(d:α)(h:k<l.length):l.take (k+1)=l.take k++[l.getD k d]:=by rw[List.take_add_one,O4,NY h];rfl
theorem gw{f:Shape->Bool}:∀{l:List Shape},allL f l=true->∀{a:Shape},a∈l->allS f a=true
 |b::r,h,a,ha=>by
  simp only[allL,NZ]at h;rcases O7.1 ha with rfl|ha
  ·exact h.1
  ·exact gw h.2 ha
theorem kO:∀(l:List Shape)(i:Nat)(d e:Shape),i<l.length->(sortedL l).getD i d=sortedS (l.getD i e)
 |a::r,0,d,e,_=>rfl
 |a::r,i+1,d,e,h=>by have:=kO r i d e (by simpa using h);simpa[sortedL]using this
end Go.Pd
end
section
namespace Go.Pd
open Go.AL
def aG(s:Shape):Int:=if 400<sz s then 3 else if 40<deepS s 1 then 91 else if allS aV s=true then 0 else 70
def bO(s:Shape):Shape:=if aG s=0 then sortedS s else s
def Mo(t:Nat)(c:Int):Ans:=⟨some (0<=c/\c<=400),some (decide (400<c+1),.iface t (.agg []),[(900,.box (.int .i64 (c+1)))]),.tup [],[(900,.box (.int .i64 (c+1)))]⟩
def xV(t:Nat):Pat:=fun args S=>
 match args,S with
 |[.ptr 900 0],[(900,.box (.int .i64 c))]=>some (Mo t c)
 |_,_=>none
theorem D0[Tabs]{P:Program}{f t:Nat}(he:Enters P f)(h:∀c,0<=c/\c<=400->ak P f [.ptr 900 0] [(900,.box (.int .i64 c))] (Mo t c)):ah P f (xV t):=by
 intro args S A hA ho _;unfold xV at hA;split at hA
 ·simp only[Xs]at hA;subst hA;exact⟨he,h _ (ho _ rfl)⟩
 ·cases hA
def IM(t:Nat)(s:Shape)(l c:Int)(q:Prop):Ans:=
 ⟨some (q/\0<=c/\c<=400/\1<=l/\l<=c+1),some (decide (400<c+(sz s:Int)),.iface t (.agg []),[(900,.box (.int .i64 401))]),.int .i64 (deepS s l),[(900,.box (.int .i64 (c+(sz s:Int))))]⟩
def rM(t g:Nat)(n:Nat):Pat:=fun args S=>
 match args,S with
 |[a,.int .i64 l,.fn g' [.ptr 900 0]],[(900,.box (.int .i64 c))]=>
  (match Nat.beq g' g,arg (.st .shape) a with
  |true,some s=>some (IM t s l c (sz s<=n))
  |_,_=>none)
 |_,_=>none
theorem tE[Tabs]{P:Program}{f t g n:Nat}(he:Enters P f)(h:∀s l c,Wf (.st .shape) s->sz s<=n->(0<=c/\c<=400/\1<=l/\l<=c+1)->ak P f [.st .shape s,.int .i64 l,.fn g [.ptr 900 0]] [(900,.box (.int .i64 c))] (IM t s l c (sz s<=n))) :
  ah P f (rM t g n):=by
 intro args S A hA ho _;unfold rM at hA;split at hA
 ·split at hA
  ·rename_i s hb hs;simp only[Xs]at hA;subst hA;have e:=On hb;subst e;obtain⟨h1,h2⟩:=ho _ rfl;exact⟨he,ak.args (.cons (Rd.arg hs) (.cons (Rd.refl _) (.cons (Rd.refl _) .nil))) (ak.wf fun hw=>h _ _ _ hw.one h1 h2)⟩
  ·cases hA
 ·cases hA
theorem nd:∀(l:List Shape)(k:Nat)(d:Shape),k<l.length->szL (l.take (k+1))=szL (l.take k)+sz (l.getD k d)
 |a::r,0,d,_=>by simp[szL]
 |a::r,k+1,d,h=>by have:=nd r k d (by simpa using h);simp only[Ph,szL,List.getD_cons_succ]at this⊢;omega
theorem zR(l:List Shape)(k:Nat):szL (l.take k)<=szL l:=by
 induction l generalizing k with
 |nil=>simp[szL]
 |cons a r ih=>
  cases k with|zero=>simp[szL]|succ k=>have:=ih k;simp only[Ph,szL];omega
theorem dD{s:Shape}(h:aG s=0):sz s<=400/\deepS s 1<=40/\allS aV s=true:=by
 unfold aG at h;split at h
 ·omega
 split at h
 ·omega
 split at h
 ·exact⟨by omega,by omega,by assumption⟩
 ·omega
theorem xW{s:Shape}(h:aV s=true):fo s=true:=by
 unfold fo;unfold aV at h;simp only at h;split at h
 ·simp_all
 split at h
 ·simp_all
 split at h
 ·simp only[eH,NZ,O1]at h;simp[h.2.1.1,h.2.2]
 split at h
 ·simp_all
 split at h
 ·simp_all
 split at h
 ·simp_all
 ·cases h
mutual
theorem allS_imp{f g:Shape->Bool}(h:∀s,f s=true->g s=true):∀s,allS f s=true->allS g s=true
 |⟨k,p,n,ns,ps⟩,hs=>by simp only[allS,NZ]at hs⊢;exact⟨h _ hs.1,allL_imp h ps hs.2⟩
theorem allL_imp{f g:Shape->Bool}(h:∀s,f s=true->g s=true):∀l,allL f l=true->allL g l=true
 |[],_=>rfl
 |a::r,hs=>by simp only[allL,NZ]at hs⊢;exact⟨allS_imp h a hs.1,allL_imp h r hs.2⟩
end
theorem tF{s:Shape}(h:aG s=0):allS fo s=true:=allS_imp (fun _=>xW) s (dD h).2.2
end Go.Pd
end
section
namespace Go.Pd
open Go.AL
abbrev PS:=Par
def nf(s:Str):Int:=s.foldl (fun n c=>10 *n+((c.toNat:Int)-48)) 0
end Go.Pd
end
section
namespace Go.Pd
open Go.AL
def qA(t:Str):Prop:=t≠[]/\t.length<=15/\∀c∈t,48<=c.toNat/\c.toNat<=57
def rem(s:Par):Nat:=if s.err=0 then((s.toks.length:Int)-s.pos).toNat+1 else 0
end Go.Pd
end
section
namespace Go.AL
open Go.Proofs Go.Shelf Go.RowKit Go.Pd
theorem qC:∀(l:Str)(acc:Nat),(∀c∈l,48<=c.toNat/\c.toNat<=57)->∃m:Nat,Lib.decFrom acc l=some m/\(m:Int)=l.foldl (fun n c=>10 *n+((c.toNat:Int)-48)) (acc:Int)/\m<(acc+1) *10 ^ l.length
 |[],acc,_=>⟨acc,rfl,rfl,by simp⟩
 |c::r,acc,h=>by
  obtain⟨h1,h2⟩:=h c (Ox ..);obtain⟨m,e1,e2,e3⟩:=qC r (acc *10+(c.toNat-48)) (fun d hd=>h d (Og _ hd));refine⟨m,?_,?_,?_⟩
  ·simp only[Lib.decFrom,Lib.digitVal,h1,h2,and_self,P1];exact e1
  ·rw[e2,QV];congr 1;omega
  ·refine Rz e3 ?_;rw[O8,Nat.pow_succ,<-Nat.mul_assoc,Nat.mul_right_comm];exact OP _ (by omega)
theorem IN{t:Str}(h:qA t):Lib.atoi t=some (nf t)/\0<=nf t/\nf t<1000000000000000:=by
 obtain⟨h1,h2,h3⟩:=h;obtain⟨m,e1,e2,e3⟩:=qC t 0 h3;have e4:(m:Int)=nf t:=e2;refine⟨?_,by omega,?_⟩
 ·cases t with
  |nil=>exact absurd rfl h1
  |cons c r=>
   have hc:=h3 c (Ox ..);have n1:(c ==45)=false:=by rw[Qa];rintro rfl;simp at hc
   have n2:(c ==43)=false:=by rw[Qa];rintro rfl;simp at hc
   simp only[Lib.atoi,n1,n2,P4,OL,Lib.decNat,List.isEmpty_cons,e1,Pr,e4]
 ·have:m<10 ^ t.length:=by simpa using e3
  have h10:10 ^ t.length<=10 ^ 15:=Nat.pow_le_pow_right (by decide) h2;have:m<1000000000000000:=Rz this h10;omega
variable [Tabs] {P:Program} {ρ:Ren}
theorem After.below{w w':World}{pub:Nat->Nat->Prop}{e:Nat->Option CObj}(hp:jx w pub)(hd:∀id,e id=none)(hb:Below w.heap.size w w'):After w pub e (aj (cr [] [])) w' pub e where
 os:=hb.os
 tape:=hb.tape
 output:=hb.output
 size:=hb.size
 block b h _:=hb.block b h
 cell b o h _:=ai (hb.block b h) o
 kind b h _:=⟨aT (hb.block b h),fun o=>aK (hb.block b h) o⟩
 ext:=⟨fun _ c h=>⟨c,h,CLe.refl c⟩,fun _ _ h=>h,fun b o h=>by obtain⟨v,hv⟩:=hp b o h;exact ai (hb.block b (aC hv)) o⟩
 fresh b o h:=.inl h
 ok b o h:=by obtain⟨v,hv⟩:=hp b o h;exact⟨v,(ai (hb.block b (aC hv)) o).trans hv⟩
 slots id o h:=by simp[cr,b5,aH]at h
 dom id _:=hd id
 inj i j c d b o h:=by rw[hd i]at h;cases h
theorem D1(L:Lays.n172 P ρ)(t:Str)(h:qA t):ak P (ρ.f 172) [.str t] [] ⟨some (qA t),none,.tup [.int .i64 (nf t),.nilif],[]⟩:=by intro w pub e vs hp ht hv hs hd hi;obtain⟨v,rfl,h1⟩:=VL.one_inv hv;obtain⟨rfl,hl⟩:=h1.str_inv;obtain⟨a1,a2,a3⟩:=IN h;refine(Any.strconv_Atoi L ⟨t.toArray⟩ (nf t) (by have:=h.2.1;show t.toArray.size<=18;simp;omega) (by simpa using a1) w).mono ?_;rintro en w' ⟨rfl,ty,rfl⟩;refine⟨pub,e,?_⟩;refine And.intro (fun b pv u h=>by cases h) (And.intro ?_ (After.below hp (fun id=>hd id rfl) (Lib.bytesWorld_below w _ _)));have b1:inR .i64 (nf t):=aU (by omega) (by omega);exact V.of_tup (VL.cons (.int _ _ b1.1 b1.2) (VL.cons .nilif .nil))
def L9:Pat:=p1 .str fun t=>⟨some (qA t),none,.tup [.int .i64 (nf t),.nilif],[]⟩
theorem D2{f:Nat}(L:Lays.n172 P ρ)(hf:ρ.f 172=f)(he:Enters P f):ah P f L9:=by subst hf;exact bA he fun t _ ho=>D1 L t (ho _ rfl)
end Go.AL
end
section
namespace Go.AL
variable [Tabs]
def RdO:SObj->SObj->Prop
 |.box c,.box d=>RdL (ae c) (ae d)
 |o,o'=>o=o'
inductive RdS:List (Nat×SObj)->List (Nat×SObj)->Prop
 |nil:RdS [] []
 |cons {i:Nat} {o o':SObj} {r r':List (Nat×SObj)}:RdO o o'->RdS r r'->RdS ((i,o)::r) ((i,o')::r')
section
variable {P:Program} {f:Nat}
end
end Go.AL
end
section
namespace Go.Pd
open Go.AL
def aJ:Shape:=⟨0,[],[],[],[]⟩
def aS:Trm:=⟨0,[],[],0,[],[],[],[],0⟩
end Go.Pd
end
section
namespace Go.Pd
open Go.AL
mutual
def szT:Trm->Nat
 |⟨_,_,_,_,_,_,_,ps,_⟩=>szTL ps+1
def szTL:List Trm->Nat
 |[]=>0
 |p::r=>szT p+szTL r
end
mutual
def countT:Trm->Int->Int×Int
 |⟨_,_,_,_,_,_,_,ps,_⟩,m=>((countL ps m 1 0).1,(countL ps m 1 0).2+1)
def countL:List Trm->Int->Int->Int->Int×Int
 |[],_,n,d=>(n,d)
 |p::r,m,n,d=>if m<n then(n,d)else countL r m (n+(countT p (m-n)).1) (max d (countT p (m-n)).2)
end
theorem Ga(t:Trm)(m:Int):countT t m=((countL t.parts m 1 0).1,(countL t.parts m 1 0).2+1):=by cases t;rw[countT]
theorem ji(t:Trm):szT t=szTL t.parts+1:=by cases t;rw[szT]
theorem hX(t:Trm):1<=szT t:=by rw[ji];omega
mutual
theorem countT_bound:∀(t:Trm)(m:Int),0<=m->1<=(countT t m).1/\(countT t m).1<=m+1/\1<=(countT t m).2/\(countT t m).2<=(countT t m).1
 |⟨k,g,q,z,ns,vs,ss,ps,pp⟩,m,hm=>by have h:=countL_bound ps m 1 0 (by omega) (by omega) (by omega) (by omega);rw[countT];exact⟨h.1,h.2.1,by show 1<=(countL ps m 1 0).2+1;omega,by show(countL ps m 1 0).2+1<=_;omega⟩
theorem countL_bound:∀(l:List Trm)(m n d:Int),1<=n->n<=m+1->0<=d->d+1<=n->1<=(countL l m n d).1/\(countL l m n d).1<=m+1/\0<=(countL l m n d).2/\(countL l m n d).2+1<=(countL l m n d).1
 |[],m,n,d,h1,h2,h3,h4=>by rw[countL];exact⟨h1,h2,h3,h4⟩
 |p::r,m,n,d,h1,h2,h3,h4=>by
  rw[countL];split
  ·exact⟨h1,h2,h3,h4⟩
  ·have h:=countT_bound p (m-n) (by omega);exact countL_bound r m _ _ (by omega) (by omega) (by omega) (by omega)
end
theorem jC:∀{l:List Trm} {t:Trm},t∈l->szT t<=szTL l
 |p::r,t,h=>by
  rw[szTL];rcases O7.1 h with e|e
  ·subst e;omega
  ·have:=jC e;omega
def ba{α:Type}(F:α->Bool):List α->Nat->Int
 |[],_=>-1
 |x::r,k=>if F x=true then ba F r (k+1)else(k:Int)
theorem iC{α:Type}(F:α->Bool):∀(l:List α)(k:Nat),decide (0<=ba F l k)=!l.all F
 |[],_=>rfl
 |x::r,k=>by
  rw[ba,P6];by_cases h:F x=true
  ·rw[O3 h,iC F r (k+1),h];rfl
  ·rw[O0 h];have:F x=false:=by simpa using h
   rw[this];simp
def aP(s:Shape):Bool:=!decide (s.kind=10)
theorem allL_all(f:Shape->Bool):∀l:List Shape,allL f l=l.all (allS f)
 |[]=>rfl
 |p::r=>by rw[P6,<-allL_all f r];rfl
end Go.Pd
end
section
namespace Go.AL
variable [Tabs]
section
variable {P:Program} {f:Nat}
def pfc(τ:Ty)(n g:Nat)(F:den τ->Ans):Pat
 |[a,.fn f [.ptr 900 0]],[(900,.box (.fn h []))]=>(match Nat.beq f n,Nat.beq h g,arg τ a with|true,true,some a=>some (F a)|_,_,_=>none)
 |_,_=>none
theorem lQ{τ:Ty}{n g:Nat}{F:den τ->Ans}(he:Enters P f)(h:∀x,Wf τ x->(∀q,(F x).ob=some q->q)->ak P f [inj τ x,.fn n [.ptr 900 0]] [(900,.box (.fn g []))] (F x)):ah P f (pfc τ n g F):=by
 intro args S A hA ho _;unfold pfc at hA;split at hA
 ·split at hA
  ·rename_i hb hc hx;simp only[Xs]at hA;subst hA;have e:=On hb;subst e;have e:=On hc;subst e;exact⟨he,ak.args (.cons (Rd.arg hx) (.cons (Rd.refl _) .nil)) (ak.wf fun hw=>h _ hw.one ho)⟩
  ·cases hA
 ·cases hA
def pcl(τ:Ty)(g:Nat)(F:den τ->Ans):Pat
 |[a,.ptr 900 0],[(900,.box (.fn h []))]=>(match Nat.beq h g,arg τ a with|true,some a=>some (F a)|_,_=>none)
 |_,_=>none
theorem xX{τ:Ty}{g:Nat}{F:den τ->Ans}(he:Enters P f)(h:∀x,Wf τ x->(∀q,(F x).ob=some q->q)->ak P f [inj τ x,.ptr 900 0] [(900,.box (.fn g []))] (F x)):ah P f (pcl τ g F):=by
 intro args S A hA ho _;unfold pcl at hA;split at hA
 ·split at hA
  ·rename_i hc hx;simp only[Xs]at hA;subst hA;have e:=On hc;subst e;exact⟨he,ak.args (.cons (Rd.arg hx) (.cons (Rd.refl _) .nil)) (ak.wf fun hw=>h _ hw.one ho)⟩
  ·cases hA
 ·cases hA
end
end Go.AL
end
section
namespace Go.Pd
open Go.AL
def cut(s:Str)(a b:Int):Str:=(s.take b.toNat).drop a.toNat
def qD(r:Str)(k:Nat):Bool:=decide (k<r.length)&&decide ((r.getD k 0).toNat/64=2)
def rf(r:Str)(k:Nat):Nat:=(r.getD k 0).toNat%64
def rN(c:Nat):Bool:=decide (c<1114112)&&!(decide (55296<=c)&&decide (c<57344))
def xY:Str->Nat
 |[]=>0
 |b::r=>
  if b.toNat<128 then 1
  else if b.toNat/32=6/\qD r 0=true then(if 128<=b.toNat%32 *64+rf r 0 then 2 else 0)
  else if b.toNat/16=14/\qD r 0=true/\qD r 1=true then
   (if 2048<=b.toNat%16 *4096+rf r 0 *64+rf r 1/\rN (b.toNat%16 *4096+rf r 0 *64+rf r 1)=true then 3 else 0)
  else if b.toNat/8=30/\qD r 0=true/\qD r 1=true/\qD r 2=true then
   (if 65536<=b.toNat%8 *262144+rf r 0 *4096+rf r 1 *64+rf r 2/\rN (b.toNat%8 *262144+rf r 0 *4096+rf r 1 *64+rf r 2)=true then 4 else 0)
  else 0
def F4:Nat->Str->Nat->Option Nat
 |0,_,_=>none
 |f+1,x,k=>if x=[]then none else if xY x=0 then some k else F4 f (x.drop (xY x)) (k+xY x)
def tG(x:Str):Option Nat:=F4 x.length x 0
def splitB(c:UInt8):Str->List Str
 |[]=>[[]]
 |b::r=>if b=c then[]::splitB c r else match splitB c r with|[]=>[[b]]|p::ps=>(b::p)::ps
def cI(s:Str):Bool:=!decide (s=[])&&s.all fun c=>iI (bI c)
def jo(c:Int):Bool:=iI c||dI c||dR c||decide (c=45)
def gG(s:Str):Bool:=!decide (s=[])&&!(cI s&&decide (bI (s.getD 0 0)=48)&&!decide (s=[48]))&&s.all fun c=>jo (bI c)
def ed(v:Vers):Int:=
 if v.major<0∨999999<v.major∨v.minor<0∨999999<v.minor∨v.patch<0∨999999<v.patch then 40
 else if 24<v.pre.length then 40 else if v.pre=[]then 0 else if(splitB 46 v.pre).all gG=true then 0 else 40
def jK(s:Str):Str:=s.takeWhile fun b=>!decide (b=45)
def nN(s:Str):Str:=s.drop ((jK s).length+1)
def pR(s:Str):Bool:=decide ((jK s).length<s.length)
end Go.Pd
end
section
namespace Go.Pd
open Go.AL
end Go.Pd
namespace Go.Pd
open Go.AL
def rh:Str:=[48,49,50,51,52,53,54,55,56,57]
def ng(b:UInt8):Bool:=iI (bI b)
def nh(s:Str):Str:=(s.reverse.dropWhile ng).reverse.dropWhile ng
def IP(s:Str)(c:Int):Int:=ba (fun b=>!decide (bI b=c)) s 0
def kP(s:Str):Nat×Nat:=if s=[]then(65533,0)else Lib.decodeN s.length (s.getD 0 0).toNat (s.getD 1 0).toNat (s.getD 2 0).toNat (s.getD 3 0).toNat
theorem ni{p:UInt8->Bool}:∀{l:Str},l.dropWhile p=[]↔l.all p=true
 |[]=>by simp
 |b::r=>by
  rw[QU];split
  ·rename_i h;rw[ni,P6,h,OW]
  ·rename_i h;simp[h]
theorem nj{p:UInt8->Bool}:∀(l:Str),(l.dropWhile p).all p=l.all p
 |[]=>rfl
 |b::r=>by
  rw[QU];split
  ·rename_i h;rw[nj r,P6,h,OW]
  ·rfl
theorem Gb(s:Str):nh s=[]↔s.all ng=true:=by unfold nh;rw[ni,List.all_reverse,nj,List.all_reverse]
theorem IQ(s:Str):(nh s).length<=s.length:=by unfold nh;have h1:=(List.dropWhile_sublist (p:=ng) (l:=(s.reverse.dropWhile ng).reverse)).length_le;have h2:=(List.dropWhile_sublist (p:=ng) (l:=s.reverse)).length_le;rw[List.length_reverse]at h1 h2;omega
def Gc(n b0 b1 b2 b3:Nat):Nat:=
 if b0<128 then 1
 else if b0/32=6/\(1<n/\b1/64=2)then(if b0%32 *64+b1%64≥128 then 2 else 0)
 else if b0/16=14/\(1<n/\b1/64=2)/\(2<n/\b2/64=2)then
  (if b0%16 *4096+b1%64 *64+b2%64≥2048/\(b0%16 *4096+b1%64 *64+b2%64<55296∨(57344<=b0%16 *4096+b1%64 *64+b2%64/\b0%16 *4096+b1%64 *64+b2%64<=1114111))then 3 else 0)
 else if b0/8=30/\(1<n/\b1/64=2)/\(2<n/\b2/64=2)/\(3<n/\b3/64=2)then
  (if b0%8 *262144+b1%64 *4096+b2%64 *64+b3%64≥65536/\(b0%8 *262144+b1%64 *4096+b2%64 *64+b3%64<55296∨(57344<=b0%8 *262144+b1%64 *4096+b2%64 *64+b3%64/\b0%8 *262144+b1%64 *4096+b2%64 *64+b3%64<=1114111))then 4 else 0)
 else 0
theorem zS(n b0 b1 b2 b3:Nat)(h1:b1<256)(h2:b2<256)(h3:b3<256)(h0:b0<256)(hn:1<=n) :
  ((Lib.decodeN n b0 b1 b2 b3).1=65533/\(Lib.decodeN n b0 b1 b2 b3).2=1↔Gc n b0 b1 b2 b3=0)/\(Gc n b0 b1 b2 b3≠0->(Lib.decodeN n b0 b1 b2 b3).2=Gc n b0 b1 b2 b3)/\
  (Lib.decodeN n b0 b1 b2 b3).1<=1114111/\1<=(Lib.decodeN n b0 b1 b2 b3).2/\(Lib.decodeN n b0 b1 b2 b3).2<=n:=by
 unfold Lib.decodeN Gc;by_cases c1:b0<128
 ·simp only[O3 c1];refine⟨⟨fun e=>?_,fun e=>?_⟩,fun e=>?_,?_,?_,?_⟩<;>first|omega|exact⟨rfl,rfl⟩|exact Xr|exact(e rfl).elim|exact e.elim|exact(e trivial).elim|simp only at *
 simp only[O0 c1];by_cases c2:b0/32=6/\(1<n/\b1/64=2)
 ·simp only[O3 c2];by_cases d:b0%32 *64+b1%64≥128
  ·simp only[O3 d];refine⟨⟨fun e=>?_,fun e=>?_⟩,fun e=>?_,?_,?_,?_⟩<;>first|omega|exact⟨rfl,rfl⟩|exact Xr|exact(e rfl).elim|exact e.elim|exact(e trivial).elim|simp only at *
  ·simp only[O0 d];refine⟨⟨fun e=>?_,fun e=>?_⟩,fun e=>?_,?_,?_,?_⟩<;>first|omega|exact⟨rfl,rfl⟩|exact Xr|exact(e rfl).elim|exact e.elim|exact(e trivial).elim|simp only at *
 simp only[O0 c2];by_cases c3:b0/16=14/\(1<n/\b1/64=2)/\(2<n/\b2/64=2)
 ·simp only[O3 c3];by_cases d:b0%16 *4096+b1%64 *64+b2%64≥2048/\(b0%16 *4096+b1%64 *64+b2%64<55296∨(57344<=b0%16 *4096+b1%64 *64+b2%64/\b0%16 *4096+b1%64 *64+b2%64<=1114111))
  ·simp only[O3 d];refine⟨⟨fun e=>?_,fun e=>?_⟩,fun e=>?_,?_,?_,?_⟩<;>first|omega|exact⟨rfl,rfl⟩|exact Xr|exact(e rfl).elim|exact e.elim|exact(e trivial).elim|simp only at *
  ·simp only[O0 d];refine⟨⟨fun e=>?_,fun e=>?_⟩,fun e=>?_,?_,?_,?_⟩<;>first|omega|exact⟨rfl,rfl⟩|exact Xr|exact(e rfl).elim|exact e.elim|exact(e trivial).elim|simp only at *
 simp only[O0 c3];by_cases c4:b0/8=30/\(1<n/\b1/64=2)/\(2<n/\b2/64=2)/\(3<n/\b3/64=2)
 ·simp only[O3 c4];by_cases d:b0%8 *262144+b1%64 *4096+b2%64 *64+b3%64≥65536/\(b0%8 *262144+b1%64 *4096+b2%64 *64+b3%64<55296∨(57344<=b0%8 *262144+b1%64 *4096+b2%64 *64+b3%64/\b0%8 *262144+b1%64 *4096+b2%64 *64+b3%64<=1114111))
  ·simp only[O3 d];refine⟨⟨fun e=>?_,fun e=>?_⟩,fun e=>?_,?_,?_,?_⟩<;>first|omega|exact⟨rfl,rfl⟩|exact Xr|exact(e rfl).elim|exact e.elim|exact(e trivial).elim|simp only at *
  ·simp only[O0 d];refine⟨⟨fun e=>?_,fun e=>?_⟩,fun e=>?_,?_,?_,?_⟩<;>first|omega|exact⟨rfl,rfl⟩|exact Xr|exact(e rfl).elim|exact e.elim|exact(e trivial).elim|simp only at *
 simp only[O0 c4];refine⟨⟨fun e=>?_,fun e=>?_⟩,fun e=>?_,?_,?_,?_⟩<;>first|omega|exact⟨rfl,rfl⟩|exact Xr|exact(e rfl).elim|exact e.elim|exact(e trivial).elim|simp only at *
theorem zT(c:Nat):rN c=true↔(c<55296∨(57344<=c/\c<=1114111)):=by unfold rN;simp only[NZ,O1,Oa,Bool.and_eq_false_iff,OF];omega
theorem Gd(r:Str)(k:Nat):qD r k=true↔(k+1<r.length+1/\(r.getD k 0).toNat/64=2):=by unfold qD;simp only[NZ,O1];omega
theorem MI(b:UInt8)(r:Str):xY (b::r)=Gc (r.length+1) b.toNat (r.getD 0 0).toNat (r.getD 1 0).toNat (r.getD 2 0).toNat:=by unfold xY Gc rf;simp only[Gd,zT]
theorem zU{s:Str}(h:s≠[]):((kP s).1=65533/\(kP s).2=1↔xY s=0)/\(xY s≠0->(kP s).2=xY s)/\(kP s).1<=1114111/\1<=(kP s).2/\(kP s).2<=s.length:=by
 cases s with
 |nil=>exact absurd rfl h
 |cons b r=>
  have e:kP (b::r)=Lib.decodeN (r.length+1) b.toNat (r.getD 0 0).toNat (r.getD 1 0).toNat (r.getD 2 0).toNat:=by unfold kP;rw[O0 h];rfl
  rw[e,MI,O8];exact zS _ _ _ _ _ (r.getD 0 0).toNat_lt (r.getD 1 0).toNat_lt (r.getD 2 0).toNat_lt b.toNat_lt (by omega)
end Go.Pd
namespace Go.Pd
open Go.AL
end Go.Pd
namespace Go.Pd
open Go.AL
theorem tH(c:Int):jo c=true↔(48<=c/\c<=57)∨(97<=c/\c<=122)∨(65<=c/\c<=90)∨c=45:=by unfold jo iI dI dR;simp only[OS,NZ,O1];omega
theorem ke{s:Str}(h:s≠[])(hz:(cI s&&decide (bI (s.getD 0 0)=48)&&!decide (s=[48]))=false):gG s=s.all fun c=>jo (bI c):=by unfold gG;rw[hz,Xf h];simp
end Go.Pd
namespace Go.Pd
open Go.AL
theorem fC(c:UInt8):∀s:Str,(splitB c s).length<=s.length+1
 |[]=>by simp[splitB]
 |b::r=>by
  have ih:=fC c r;unfold splitB;split
  ·simp only[O8];omega
  ·split
   ·simp
   ·rename_i e;rw[e]at ih;simp only[O8]at ih⊢;omega
theorem nk{α:Type}{p:α->Bool}{l:List α}{k:Nat}(d:α)(hk:k<l.length)(h:(l.take k).all p=true)(hp:p (l.getD k d)=true):(l.take (k+1)).all p=true:=by rw[cD l k d hk,List.all_append,h,P6,hp];rfl
theorem IS{α:Type}{p:α->Bool}{l:List α}{k:Nat}(h:l.length<=k):(l.take k).all p=l.all p:=by rw[Qb h]
theorem zW{α:Type}{p:α->Bool}{l:List α}{k:Nat}(d:α)(hk:k<l.length)(hp:p (l.getD k d)=false):l.all p=false:=by rw[PC];intro e;have:=O9.1 e _ (getD_mem l k d hk);rw[this]at hp;cases hp
def ri(n:Int):Bool:=decide (0<=n)&&decide (n<=999999)
theorem D3{v:Vers}(h:[v.major,v.minor,v.patch].all ri=false):ed v=40:=by unfold ed;rw[O3];simp only[P6,RR,Bool.and_true,Bool.and_eq_false_iff,ri,OF]at h;omega
theorem zX{v:Vers}(h:[v.major,v.minor,v.patch].all ri=true):ed v=if 24<v.pre.length then 40 else if v.pre=[]then 0 else if(splitB 46 v.pre).all gG=true then 0 else 40:=by unfold ed;rw[O0];simp only[P6,RR,Bool.and_true,NZ,ri,O1]at h;omega
end Go.Pd
namespace Go.Pd
open Go.AL
theorem Ge(s:Str):(jK s).length<=s.length:=(List.takeWhile_sublist _).length_le
end Go.Pd
namespace Go.Pd
open Go.AL
end Go.Pd
namespace Go.Pd
open Go.AL
end Go.Pd
end
section
namespace Go.AL
open Go.Proofs Go.Shelf Go.RowKit Go.Pd
theorem iT{c:UInt8}:∀{s:Str},Lib.indexByte s c=-1->c∉s
 |[],_=>Pz
 |b::r,h=>by
  unfold Lib.indexByte at h;by_cases e:b=c
  ·subst e;simp at h
  ·have e':(b ==c)=false:=Qa.2 e;rw[e']at h;simp only[P4,OL]at h;have hg:=Lib.indexByte_ge r c;split at h
   ·rename_i k;have:=iT (s:=r) (by simpa using k);rw[O7,Ry];exact⟨fun q=>e q.symm,this⟩
   ·omega
theorem gx{c:UInt8}:∀{s:Str},Lib.indexByte s c≠-1->∃k:Nat,Lib.indexByte s c=k/\k<s.length/\s=s.take k++c::s.drop (k+1)/\c∉s.take k
 |[],h=>absurd rfl h
 |b::r,h=>by
  unfold Lib.indexByte at h⊢;by_cases e:b=c
  ·subst e;refine⟨0,by simp,by simp,by simp,by simp⟩
  ·have e':(b ==c)=false:=Qa.2 e;rw[e']at h⊢;simp only[P4,OL]at h⊢;split at h
   ·exact absurd rfl h
   ·rename_i k;obtain⟨j,j1,j2,j3,j4⟩:=gx (s:=r) (by simpa using k);rw[O0 k];refine⟨j+1,by rw[j1];rfl,by simp;omega,?_,?_⟩
    ·rw[Ph,Pq,OQ,<-j3]
    ·rw[Ph,O7,Ry];exact⟨fun q=>e q.symm,j4⟩
theorem tI{c:UInt8}:∀{s:Str},c∉s->splitB c s=[s]
 |[],_=>rfl
 |b::r,h=>by rw[O7,Ry]at h;unfold splitB;rw[O0 (fun e=>h.1 e.symm),tI h.2]
theorem wh{c:UInt8}:∀{a:Str} (r:Str),c∉a->splitB c (a++c::r)=a::splitB c r
 |[],r,_=>by rw[Pn,splitB,O3 rfl]
 |b::a,r,h=>by rw[O7,Ry]at h;rw[OQ,splitB,O0 (fun e=>h.1 e.symm),wh r h.2]
theorem tJ(c:UInt8):∀(n:Nat)(s:Str),s.length<=n->Lib.splitK [c] 0 (s.count c) s=splitB c s
 |n,s,hn=>by
  by_cases h:Lib.indexByte s c=-1
  ·have hm:=iT h;rw[List.count_eq_zero.2 hm,tI hm];rfl
  ·obtain⟨k,k1,k2,k3,k4⟩:=gx h;have hc:s.count c=(s.drop (k+1)).count c+1:=by have e:=PT (List.count c) k3;rw[List.count_append,List.count_cons_self,List.count_eq_zero.2 k4]at e;omega
   rw[hc];unfold Lib.splitK;rw[Lib.index_one,O0 (by simpa using h),k1];have hd:(k:Int).toNat+[c].length=k+1:=rfl;have ht:(k:Int).toNat+0=k:=rfl;rw[hd,ht]
   cases n with
   |zero=>omega
   |succ n=>
    rw[tJ c n (s.drop (k+1)) (by rw[Qe];omega)];conv=>rhs;rw[k3]
    rw[wh _ k4]
theorem oP{c:UInt8}:∀{a:Str} (r:Str),c∉a->(a++c::r).takeWhile (fun b=>!decide (b=c))=a
 |[],r,_=>by simp
 |b::a,r,h=>by rw[O7,Ry]at h;have hb:¬b=c:=fun e=>h.1 e.symm;rw[OQ,List.takeWhile_cons];simp only[hb,R0,R3,P1];rw[oP r h.2]
theorem vj{c:UInt8}{s:Str}(h:c∉s):s.takeWhile (fun b=>!decide (b=c))=s:=by
 induction s with
 |nil=>rfl
 |cons b r ih=>rw[O7,Ry]at h;have hb:¬b=c:=fun e=>h.1 e.symm;rw[List.takeWhile_cons];simp only[hb,R0,R3,P1];rw[ih h.2]
theorem IT(s:Str):Lib.cut s [45]=(jK s,nN s,pR s):=by
 unfold Lib.cut;rw[Lib.index_one];by_cases h:Lib.indexByte s 45=-1
 ·have hm:=iT h;rw[h,O0 (by decide)];have e:jK s=s:=vj hm;unfold nN pR;rw[e,List.drop_eq_nil_of_le (by omega)];simp
 ·obtain⟨k,k1,k2,k3,k4⟩:=gx h;rw[k1,O3 (by omega)]
  have e:jK s=s.take k:=by
   unfold jK;conv=>lhs;rw[k3]
   exact oP _ k4
  have hl:(s.take k).length=k:=by rw[Pt];omega
  unfold nN pR;rw[e,hl];simp[k2]
theorem La(s:Str)(c:Int)(h0:0<=c)(h1:c<=255):∀k:Nat,ba (fun b=>!decide (bI b=c)) s k=if Lib.indexByte s c.toNat.toUInt8=-1 then -1 else Lib.indexByte s c.toNat.toUInt8+k:=by
 have hb:∀b:UInt8,(bI b=c)↔b=c.toNat.toUInt8:=by
  intro b;unfold bI;constructor
  ·intro e;have:c.toNat=b.toNat:=by omega
   rw[this];simp
  ·intro e;rw[e];simp[Nat.toUInt8];omega
 induction s with
 |nil=>intro k;rfl
 |cons b r ih=>
  intro k;rw[ba];by_cases e:bI b=c
  ·have e2:=(hb b).1 e;rw[O0 (by simp[e])];unfold Lib.indexByte;rw[e2];simp
  ·have e2:(b ==c.toNat.toUInt8)=false:=Qa.2 (fun q=>e ((hb b).2 q));rw[O3 (by simp[e]),ih (k+1)];have hg:=Lib.indexByte_ge r c.toNat.toUInt8;have e3:Lib.indexByte (b::r) c.toNat.toUInt8=(if b ==c.toNat.toUInt8 then 0 else if Lib.indexByte r c.toNat.toUInt8 ==-1 then -1 else Lib.indexByte r c.toNat.toUInt8+1):=rfl;rw[e3,e2];simp only[P4,OL,Pa];by_cases q:Lib.indexByte r c.toNat.toUInt8=-1
   ·rw[O3 q,O3 q];rfl
   ·rw[O0 q,O0 q,O0 (by omega)];omega
theorem zY(s:Str)(c:UInt8):decide (0<=Lib.indexByte s c)=decide (c∈s):=by
 have hg:=Lib.indexByte_ge s c;rw[Pg];by_cases h:Lib.indexByte s c=-1
 ·exact⟨fun e=>by omega,fun e=>absurd e (iT h)⟩
 ·obtain⟨k,k1,k2,k3,k4⟩:=gx h;exact⟨fun _=>by rw[k3];simp,fun _=>by omega⟩
variable [Tabs] {P:Program} {ρ:Ren}
theorem Below.drawn(w:World)(n:Nat):Below w.heap.size w (w.drewN n):=⟨rfl,rfl,rfl,Od _,fun _ _=>rfl⟩
theorem After.news{w w':World}{pub:Nat->Nat->Prop}{e:Nat->Option CObj}(hp:jx w pub)(hd:∀id,e id=none)(hb:Below w.heap.size w w'){p:Nat->Prop}(hc:∀o,p o->∃v,w'.cell? ⟨w.heap.size,o,none⟩=some v) :
  After w pub e (aj (cr [] [])) w' (fun b o=>pub b o∨(b=w.heap.size/\p o)) e where
 os:=hb.os
 tape:=hb.tape
 output:=hb.output
 size:=hb.size
 block b h _:=hb.block b h
 cell b o h _:=ai (hb.block b h) o
 kind b h _:=⟨aT (hb.block b h),fun o=>aK (hb.block b h) o⟩
 ext:=⟨fun _ c h=>⟨c,h,CLe.refl c⟩,fun _ _ h=>.inl h,fun b o h=>by obtain⟨v,hv⟩:=hp b o h;exact ai (hb.block b (aC hv)) o⟩
 fresh b o h:=by
  rcases h with h|⟨rfl,_⟩
  ·exact .inl h
  ·exact .inr (.inl (Od _))
 ok b o h:=by
  rcases h with h|⟨rfl,h⟩
  ·obtain⟨v,hv⟩:=hp b o h;exact⟨v,(ai (hb.block b (aC hv)) o).trans hv⟩
  ·exact hc o h
 slots id o h:=by simp[cr,b5,aH]at h
 dom id _:=hd id
 inj i j c d b o h:=by rw[hd i]at h;cases h
theorem fc{f:Nat}{args:List AV}{A:AV}{ob:Option Prop}(h:∀(w:World)(pub:Nat->Nat->Prop)(vs:List Value),ec w pub (fun _=>none)->VL ⟨fun _=>none,w,pub⟩ args vs->Calls P f vs.toArray w fun e w'=>(∃v,e=.returned v/\∀Ω,V Ω A v)/\Below w.heap.size w w') :
  ak P f args [] ⟨ob,none,A,[]⟩:=by
 intro w pub e vs hp ht hv hs hd hi;have he:e=fun _=>none:=funext fun id=>hd id rfl;subst he;refine(h w pub vs ht hv).mono ?_;rintro en w' ⟨⟨v,rfl,hV⟩,hb⟩;exact⟨pub,_,And.intro (fun b pv u h=>by cases h) (And.intro (hV _) (After.below hp (fun _=>rfl) hb))⟩
theorem VL.two_str{Ω:Om}{a b:Str}{vs:List Value}(h:VL Ω [.str a,.str b] vs):vs=[.string ⟨a.toArray⟩,.string ⟨b.toArray⟩]/\a.length<=bj/\b.length<=bj:=by obtain⟨v1,v2,rfl,h1,h2⟩:=VL.two_inv h;obtain⟨rfl,l1⟩:=h1.str_inv;obtain⟨rfl,l2⟩:=h2.str_inv;exact⟨rfl,l1,l2⟩
def Lb:Pat:=p2 .str .str fun a b=>⟨some (b=rh),none,.str (nh a),[]⟩
set_option maxRecDepth 100000 in
theorem IU(b:UInt8):rh.contains b=ng b:=by
 have h:∀b:Fin 256,rh.contains (UInt8.ofNat b.val)=ng (UInt8.ofNat b.val):=by decide
 have:=h ⟨b.toNat,b.toNat_lt⟩;simpa using this
theorem D4{f:Nat}(L:Lays.n160 P ρ)(h116:(P.info? (ρ.t 116)).map (fun i=>(i.zero,i.size))=some (some (.agg (Array.replicate 256 (.bool false))),256))(hf:ρ.f 160=f)(he:Enters P f):ah P f Lb:=by
 subst hf;refine ca he fun a b _ _ ho=>?_;have hb:=ho _ rfl;subst hb;refine fc fun w pub vs _ hv=>?_;obtain⟨rfl,l1,l2⟩:=VL.two_str hv;have l1':a.length<=9223372036854775807:=l1;refine(Any.strings_Trim_laid L h116 ⟨a.toArray⟩ ⟨rh.toArray⟩ w (by simpa[ByteArray.size]using l1') (by decide) (fun j b hj=>?_)).mono ?_
 ·have hd:∀b∈rh,b.toNat<128:=by decide
  exact hd b (Ot hj)
 ·rintro en w' ⟨rfl,hb⟩;refine⟨⟨_,rfl,fun Ω=>?_⟩,hb⟩;have e:Lib.trimS a rh=nh a:=by have ef:(fun b=>rh.contains b)=ng:=funext IU;unfold Lib.trimS Lib.trimLeftS Lib.trimRightS nh;rw[ef]
  have e2:(⟨a.toArray⟩:ByteArray).data.toList=a:=rfl;have e3:(⟨rh.toArray⟩:ByteArray).data.toList=rh:=rfl;rw[e2,e3,e];exact .str _ (OT (IQ a) l1)
def MJ:Pat:=p2 .str .str fun a b=>⟨some (b=[45]/\a.length<4294967281),none,.tup [.str (jK a),.str (nN a),.bool (pR a)],[]⟩
theorem Gf{f:Nat}{m:Int}(L:Lays.n145 P ρ)(hm:Tabs.tab (ρ.g 1) 0 (.int .i64 m))(hf:ρ.f 145=f)(he:Enters P f):ah P f MJ:=by
 subst hf;refine ca he fun a b _ _ ho=>?_;obtain⟨hb,hl⟩:=ho _ rfl;subst hb;refine fc fun w pub vs ht hv=>?_;obtain⟨rfl,l1,l2⟩:=VL.two_str hv;refine(Any.strings_Cut L ⟨a.toArray⟩ ⟨([45]:Str).toArray⟩ m w (by simpa[ByteArray.size]using hl) (ht.1 _ _ _ hm).2).mono ?_;rintro en w' ⟨rfl,n,rfl⟩;refine⟨⟨_,rfl,fun Ω=>?_⟩,Below.drawn w n⟩;have e2:(⟨a.toArray⟩:ByteArray).data.toList=a:=rfl;have e3:(⟨([45]:Str).toArray⟩:ByteArray).data.toList=[45]:=rfl;rw[e2,e3,IT];refine V.of_tup (VL.cons (.str _ ?_) (VL.cons (.str _ ?_) (VL.cons (.bool _) .nil)))
 ·exact OT (Ge a) l1
 ·unfold nN;rw[Qe];exact OT (Nat.sub_le _ _) l1
def zZ:Pat:=p2 .str .str fun a b=>⟨some (b.length=1),none,.bool (decide (b.getD 0 0∈a)),[]⟩
theorem tK{f:Nat}(L:Lays.n144 P ρ)(hf:ρ.f 144=f)(he:Enters P f):ah P f zZ:=by
 subst hf;refine ca he fun a b _ _ ho=>?_;have hb:b.length=1:=ho _ rfl
 obtain⟨c,rfl⟩:∃c,b=[c]:=by
  match b,hb with
  |[c],_=>exact⟨c,rfl⟩
 refine fc fun w pub vs ht hv=>?_;obtain⟨rfl,l1,l2⟩:=VL.two_str hv;refine(Any.strings_Contains_one L ⟨a.toArray⟩ c w).mono ?_;rintro en w' ⟨rfl,rfl⟩;refine⟨⟨_,rfl,fun Ω=>?_⟩,Below.refl _ _⟩;have e2:(⟨a.toArray⟩:ByteArray).data.toList=a:=rfl;rw[e2,zY];exact .bool _
def xZ:Pat:=p2 .str (.int .u8) fun a c=>.ret (.int .i64 (IP a c))
theorem rl{f:Nat}(L:Lays.n137 P ρ)(hf:ρ.f 137=f)(he:Enters P f):ah P f xZ:=by
 subst hf;refine ca he fun a c _ _ ho=>?_;refine fc fun w pub vs ht hv=>?_;obtain⟨v1,v2,rfl,h1,h2⟩:=VL.two_inv hv;obtain⟨rfl,l1⟩:=h1.str_inv;obtain⟨rfl,c1,c2⟩:=(show V _ (.int .u8 c) v2 from h2).int_inv;have c1:(0:Int)<=c:=c1;have c2:c<=(255:Int):=c2;refine(Any.strings_IndexByte L ⟨a.toArray⟩ c w).mono ?_;rintro en w' ⟨rfl,rfl⟩;refine⟨⟨_,rfl,fun Ω=>?_⟩,Below.refl _ _⟩;have e2:(⟨a.toArray⟩:ByteArray).data.toList=a:=rfl
 have e:IP a c=Lib.indexByte a c.toNat.toUInt8:=by
  unfold IP;rw[La a c c1 c2 0];split
  ·rename_i h;exact h.symm
  ·simp
 rw[e2,e];have hg:=Lib.indexByte_ge a c.toNat.toUInt8
 have hu:Lib.indexByte a c.toNat.toUInt8<=(a.length:Int):=by
  by_cases q:Lib.indexByte a c.toNat.toUInt8=-1
  ·omega
  ·obtain⟨k,k1,k2,_⟩:=gx q;omega
 have l1':a.length<=9223372036854775807:=l1;have b1:inR .i64 (Lib.indexByte a c.toNat.toUInt8):=aU (by omega) (by omega);exact .int _ _ b1.1 b1.2
def IW:Pat:=p2 .str .str fun a b=>⟨some (b=[46]/\a.length<4294967281),none,.lst .str (splitB 46 a) none,[]⟩
theorem tL(c:UInt8):∀(s:Str),∀x∈splitB c s,x.length<=s.length
 |[],x,h=>by rw[OH.1 h];exact Od _
 |b::r,x,h=>by
  have ih:=tL c r;unfold splitB at h;split at h
  ·rcases O7.1 h with e|e
   ·rw[e];exact Of _
   ·have:=ih x e;rw[O8];omega
  ·split at h
   ·rw[OH.1 h,O8];simp
   ·rename_i p ps e0;rcases O7.1 h with e|e
    ·have:=ih p (by rw[e0];exact Ox ..);rw[e,O8,O8];omega
    ·have:=ih x (by rw[e0];exact Og _ e);rw[O8];omega
theorem Aa{f:Nat}{m:Int}(L:Lays.n146 P ρ)(hi9:(P.info? (ρ.t 9)).map (fun i=>(i.zero,i.size,i.bytes))=some (some (.string ByteArray.empty),1,16))(hm:Tabs.tab (ρ.g 1) 0 (.int .i64 m))(hf:ρ.f 146=f)(he:Enters P f):ah P f IW:=by
 subst hf;refine ca he fun a b _ _ ho=>?_;obtain⟨hb,hl⟩:=ho _ rfl;subst hb;intro w pub e vs hp ht hv hs hd hi;obtain⟨rfl,l1,l2⟩:=VL.two_str hv;have l1':a.length<=9223372036854775807:=l1;refine(Any.strings_Split L hi9 ⟨a.toArray⟩ ⟨([46]:Str).toArray⟩ m w (by simpa[ByteArray.size]using hl) (ht.1 _ _ _ hm).2 (by decide)).mono ?_;rintro en w' ⟨rfl,rfl⟩;have e2:(⟨a.toArray⟩:ByteArray).data.toList=a:=rfl;have e3:(⟨([46]:Str).toArray⟩:ByteArray).data.toList=[46]:=rfl;have hcount:Lib.countB ⟨a.toArray⟩ ⟨([46]:Str).toArray⟩=a.count 46:=by show Lib.count a [46]=_;rw[Lib.count_one]
 have hsp:(Lib.splitB ⟨([46]:Str).toArray⟩ 0 (Lib.countB ⟨a.toArray⟩ ⟨([46]:Str).toArray⟩) ⟨a.toArray⟩).map (·.data.toList)=splitB 46 a:=by rw[Lib.splitB_data,hcount];exact tJ 46 a.length a (Od _)
 generalize Lib.splitB ⟨([46]:Str).toArray⟩ 0 (Lib.countB ⟨a.toArray⟩ ⟨([46]:Str).toArray⟩) ⟨a.toArray⟩=bs at hsp
 have hcl:(splitB 46 a).length=Lib.countB ⟨a.toArray⟩ ⟨([46]:Str).toArray⟩+1:=by
  rw[hcount]
  have:∀s:Str,(splitB 46 s).length=s.count 46+1:=by
   intro s
   induction s with
   |nil=>rfl
   |cons b r ih=>
    unfold splitB;split
    ·rename_i h;subst h;rw[O8,ih,List.count_cons_self]
    ·rename_i h;rw[List.count_cons_of_ne h];split
     ·rename_i e0;rw[e0]at ih;simp at ih
     ·rename_i p ps e0;rw[e0]at ih;simpa using ih
  exact this a
 have hbl:bs.length=(splitB 46 a).length:=by rw[<-hsp,P3]
 have hsz:=fC 46 a;rw[<-hcl];have hnew:(w.alloc (.cells (bs.map Value.string).toArray (ρ.t 9))).heap[w.heap.size]?=some (.cells (bs.map Value.string).toArray (ρ.t 9) (0,0)):=bG _ _;have hbw:Below w.heap.size w (w.alloc (.cells (bs.map Value.string).toArray (ρ.t 9))):=⟨rfl,rfl,rfl,by simp,fun b hb=>iz _ _ _ hb⟩;refine⟨fun b o=>pub b o∨(b=w.heap.size/\o<bs.length),e,And.intro (fun b pv u h=>by cases h) (And.intro ?_ (After.news hp (fun id=>hd id rfl) hbw (p:=fun o=>o<bs.length) (fun o ho=>?_)))⟩
 ·refine sG (Ω:=⟨e,w.alloc (.cells (bs.map Value.string).toArray (ρ.t 9)),fun b o=>pub b o∨(b=w.heap.size/\o<bs.length)⟩) (τ:=.str) (xs:=splitB 46 a) (vs:=bs.map Value.string) hnew ?_ ?_ (Od _) (by unfold bj;omega) (fun i hi=>.inr ⟨rfl,by rw[hbl];simpa[ab]using hi⟩) (fun id hid=>by cases hid)
  ·have e1:(splitB 46 a).length *ab .str=bs.length:=by rw[hbl];exact RE _
   rw[e1];exact Qb (by simp)
  ·have ef:flat .str (splitB 46 a)=(splitB 46 a).map AV.str:=by unfold flat;rw[QS];rfl
   rw[ef,<-hsp];refine⟨by simp,fun j c v hc hv=>?_⟩;rw[List.map_map,OD,Ov]at hc;rw[OD,Ov]at hv;obtain⟨x,hx,rfl⟩:=hc;obtain⟨y,hy,rfl⟩:=hv;rw[hx]at hy;cases hy;have hmem:x.data.toList∈splitB 46 a:=by rw[<-hsp];exact List.mem_map_of_mem (Ot hx)
   have hle:=tL 46 a _ hmem;have:=V.str (Ω:=⟨e,w.alloc (.cells (bs.map Value.string).toArray (ρ.t 9)),fun b o=>pub b o∨(b=w.heap.size/\o<bs.length)⟩) x.data.toList (OT hle l1);exact this
 ·rw[al hnew];exact⟨_,Oz (by simpa using ho)⟩
def oQ[Tabs](g3 g4:Nat):Prop:=
 (∀c,c<256->Tabs.tab g3 c (.int .u8 (Lib.firstT c)))/\(∀i,i<16->Tabs.tab g4 (2 *i) (.int .u8 (Lib.accLo i))/\Tabs.tab g4 (2 *i+1) (.int .u8 (Lib.accHi i)))
theorem oQ.tabs{g3 g4:Nat}(h:oQ g3 g4){w:World}{pub:Nat->Nat->Prop}{e:Nat->Option CObj}(ht:ec w pub e):Lib.Utf8Tabs g3 g4 w:=
 ⟨fun c hc=>(ht.1 _ _ _ (h.1 c hc)).2,fun i hi=>⟨(ht.1 _ _ _ (h.2 i hi).1).2,(ht.1 _ _ _ (h.2 i hi).2).2⟩⟩
theorem Lc(s:Str)(k:Nat)(h:k<s.length):((⟨s.toArray⟩:ByteArray).get! k)=s.getD k 0:=by rw[Utf8W.get!_of_lt _ k (by simpa[ByteArray.size]using h)];have:(⟨s.toArray⟩:ByteArray)[k]'(by simpa[ByteArray.size]using h)=s[k]:=rfl;rw[this];simp[O4,h]
theorem Ab(n b0 b1 b2 b3 c1 c2 c3:Nat)(h1:1<n->b1=c1)(h2:2<n->b2=c2)(h3:3<n->b3=c3):Lib.decodeN n b0 b1 b2 b3=Lib.decodeN n b0 c1 c2 c3:=by
 rcases O5 3 n with k|k
 ·rw[h1 (by omega),h2 (by omega),h3 k]
 rcases O5 2 n with k2|k2
 ·rw[h1 (by omega),h2 k2];unfold Lib.decodeN;have e:¬3<n:=by omega
  simp only[e,false_and,and_false,OL]
 rcases O5 1 n with k1|k1
 ·rw[h1 k1];unfold Lib.decodeN;have e:¬3<n:=by omega
  have e':¬2<n:=by omega
  simp only[e,e',false_and,and_false,OL]
 ·unfold Lib.decodeN;have e:¬3<n:=by omega
  have e':¬2<n:=by omega
  have e'':¬1<n:=by omega
  simp only[e,e',e'',false_and,and_false,OL]
theorem qE(s:Str):Lib.decodeGo ⟨s.toArray⟩=kP s:=by
 unfold Lib.decodeGo kP;have hs:(⟨s.toArray⟩:ByteArray).size=s.length:=by simp[ByteArray.size]
 rw[hs];by_cases h:s=[]
 ·subst h;rfl
 have hl:=PG.2 h;rw[O0 (by omega),O0 h,Lib.decode_at,hs,QM,Lc s 0 hl];exact Ab _ _ _ _ _ _ _ _ (fun k=>by rw[Lc s 1 k]) (fun k=>by rw[Lc s 2 k]) (fun k=>by rw[Lc s 3 k])
def vk:Pat:=p1 .str fun s=>.ret (.tup [.int .i32 ((kP s).1:Int),.int .i64 ((kP s).2:Int)])
theorem D5(s:Str):(kP s).1<=1114111/\(kP s).2<=s.length:=by
 by_cases h:s=[]
 ·subst h;decide
 ·have:=zU h;exact⟨this.2.2.1,this.2.2.2.2⟩
theorem pS{f:Nat}(L:Lays.n197 P ρ)(hu:oQ (ρ.g 3) (ρ.g 4))(hf:ρ.f 197=f)(he:Enters P f):ah P f vk:=by subst hf;refine bA he fun s _ ho=>?_;refine fc fun w pub vs ht hv=>?_;obtain⟨v,rfl,h1⟩:=VL.one_inv hv;obtain⟨rfl,hl⟩:=h1.str_inv;have hl':s.length<=9223372036854775807:=hl;refine(Any.utf8_DecodeRuneInString L ⟨s.toArray⟩ w (hu.tabs ht)).mono ?_;rintro en w' ⟨rfl,hb⟩;refine⟨⟨_,rfl,fun Ω=>?_⟩,hb⟩;rw[qE];obtain⟨d1,d2⟩:=D5 s;exact V.of_tup (VL.cons (.int .i32 _ (by show(-2147483648:Int)<=_;omega) (by show _<=(2147483647:Int);omega)) (VL.cons (.int .i64 _ (by show(-9223372036854775808:Int)<=_;omega) (by show _<=(9223372036854775807:Int);omega)) .nil))
theorem tM:∀(n:Nat)(l:Str)(k:Nat),Lib.validGoD n l=(F4 n l k).isNone
 |0,_,_=>rfl
 |n+1,l,k=>by
  unfold Lib.validGoD;rw[F4];by_cases h:l=[]
  ·rw[O3 h,O3 h];rfl
  rw[O0 h,O0 h]
  have hd:Lib.decodeL l=kP l:=by
   rw[<-qE];unfold Lib.decodeL Lib.decodeGo
   rw[O0 (by
    have:=PG.2 h;simp[ByteArray.size];exact h)]
  obtain⟨b1,b2,_⟩:=zU h;rw[hd];by_cases u:xY l=0
  ·rw[O3 (b1.2 u),O3 u];rfl
  ·rw[O0 (fun e=>u (b1.1 e)),O0 u,b2 u];exact tM n _ _
def IX:Pat:=p1 .str fun s=>.ret (.bool (tG s).isNone)
theorem Ac{f:Nat}(L:Lays.n196 P ρ)(hu:oQ (ρ.g 3) (ρ.g 4))(hf:ρ.f 196=f)(he:Enters P f):ah P f IX:=by subst hf;refine bA he fun s _ ho=>?_;refine fc fun w pub vs ht hv=>?_;obtain⟨v,rfl,h1⟩:=VL.one_inv hv;obtain⟨rfl,hl⟩:=h1.str_inv;have hl':s.length<=9223372036854775807:=hl;refine(Any.utf8_ValidString L ⟨s.toArray⟩ w (by simpa[ByteArray.size]using hl') (hu.tabs ht)).mono ?_;rintro en w' ⟨rfl,hb⟩;refine⟨⟨_,rfl,fun Ω=>?_⟩,hb⟩;have e:Lib.validD s=(tG s).isNone:=tM s.length s 0;have e2:(⟨s.toArray⟩:ByteArray).data.toList=s:=rfl;rw[e2,e];exact .bool _
end Go.AL
end
section
namespace Go.Proofs
open Go.Shelf
def Tryz.lays160_ren:Go.Shelf.Ren:=⟨fun|160=>161|232=>203|231=>202|227=>204|234=>206|233=>205|236=>208|235=>207|228=>254|271=>256|151=>255|197=>201|120=>291|152=>290|260=>253|137=>211|119=>310|224=>270|225=>269|217=>260|266=>297|n=>n,fun|9=>9|4=>4|3=>3|5=>5|117=>277|116=>276|0=>0|124=>280|21=>21|105=>272|46=>136|119=>325|139=>328|138=>327|n=>n,fun|3=>1|4=>2|n=>n⟩
theorem Tryz.lays160:Go.Proofs.Lays.n160 Tryz.prog Tryz.lays160_ren:={
 mixed:=by kernel_rfl
 f119:=Xt Tryz.func310
 f120:=Xt Tryz.func291
 f137:=Xt Tryz.func211
 f151:=Xt Tryz.func255
 f152:=Xt Tryz.func290
 f160:=Xt Tryz.func161
 f197:=Xt Tryz.func201
 f217:=Xt Tryz.func260
 f224:=Xt Tryz.func270
 f225:=Xt Tryz.func269
 f227:=Xt Tryz.func204
 f228:=Xt Tryz.func254
 f231:=Xt Tryz.func202
 f232:=Xt Tryz.func203
 f233:=Xt Tryz.func205
 f234:=Xt Tryz.func206
 f235:=Xt Tryz.func207
 f236:=Xt Tryz.func208
 f260:=Xt Tryz.func253
 f266:=Xt Tryz.func297
 f271:=Xt Tryz.func256
 t0:=Tryz.underlying0
 a0:=Tryz.isAgg0
 z0:=Tryz.sizeOf0
 v0:=Tryz.zeroValue0
 t3:=Tryz.underlying3
 a3:=Tryz.isAgg3
 z3:=Tryz.sizeOf3
 v3:=Tryz.zeroValue3
 t4:=Tryz.underlying4
 a4:=Tryz.isAgg4
 z4:=Tryz.sizeOf4
 v4:=Tryz.zeroValue4
 t5:=Tryz.underlying5
 a5:=Tryz.isAgg5
 z5:=Tryz.sizeOf5
 v5:=Tryz.zeroValue5
 t9:=Tryz.underlying9
 a9:=Tryz.isAgg9
 z9:=Tryz.sizeOf9
 v9:=Tryz.zeroValue9
 t21:=Tryz.underlying21
 a21:=Tryz.isAgg21
 z21:=Tryz.sizeOf21
 v21:=Tryz.zeroValue21
 t46:=Tryz.underlying136
 a46:=Tryz.isAgg136
 z46:=Tryz.sizeOf136
 v46:=Tryz.zeroValue136
 t105:=Tryz.underlying272
 a105:=Tryz.isAgg272
 z105:=Tryz.sizeOf272
 v105:=Tryz.zeroValue272
 t116:=Tryz.underlying276
 a116:=Tryz.isAgg276
 z116:=Tryz.sizeOf276
 t117:=Tryz.underlying277
 a117:=Tryz.isAgg277
 z117:=Tryz.sizeOf277
 v117:=Tryz.zeroValue277
 t119:=Tryz.underlying325
 a119:=Tryz.isAgg325
 z119:=Tryz.sizeOf325
 t124:=Tryz.underlying280
 a124:=Tryz.isAgg280
 z124:=Tryz.sizeOf280
 v124:=Tryz.zeroValue280
 t138:=Tryz.underlying327
 a138:=Tryz.isAgg327
 z138:=Tryz.sizeOf327
 v138:=Tryz.zeroValue327
 t139:=Tryz.underlying328
 a139:=Tryz.isAgg328
 z139:=Tryz.sizeOf328
 v139:=Tryz.zeroValue328
 g3:=by kernel_rfl
 g4:=by kernel_rfl}
def Tryz.lays145_ren:Go.Shelf.Ren:=⟨fun|145=>209|220=>257|219=>231|217=>260|225=>269|224=>270|267=>271|266=>297|314=>300|n=>n,fun|9=>9|4=>4|59=>281|3=>3|5=>5|46=>136|146=>337|51=>187|n=>n,fun|1=>0|n=>n⟩
theorem Tryz.lays145:Go.Proofs.Lays.n145 Tryz.prog Tryz.lays145_ren:={
 mixed:=by kernel_rfl
 f145:=Xt Tryz.func209
 f217:=Xt Tryz.func260
 f219:=Xt Tryz.func231
 f220:=Xt Tryz.func257
 f224:=Xt Tryz.func270
 f225:=Xt Tryz.func269
 f266:=Xt Tryz.func297
 f267:=Xt Tryz.func271
 f314:=Xt Tryz.func300
 t3:=Tryz.underlying3
 a3:=Tryz.isAgg3
 z3:=Tryz.sizeOf3
 v3:=Tryz.zeroValue3
 t4:=Tryz.underlying4
 a4:=Tryz.isAgg4
 z4:=Tryz.sizeOf4
 v4:=Tryz.zeroValue4
 t5:=Tryz.underlying5
 a5:=Tryz.isAgg5
 z5:=Tryz.sizeOf5
 v5:=Tryz.zeroValue5
 t9:=Tryz.underlying9
 a9:=Tryz.isAgg9
 z9:=Tryz.sizeOf9
 v9:=Tryz.zeroValue9
 t46:=Tryz.underlying136
 a46:=Tryz.isAgg136
 z46:=Tryz.sizeOf136
 v46:=Tryz.zeroValue136
 t51:=Tryz.underlying187
 a51:=Tryz.isAgg187
 z51:=Tryz.sizeOf187
 v51:=Tryz.zeroValue187
 t59:=Tryz.underlying281
 a59:=Tryz.isAgg281
 z59:=Tryz.sizeOf281
 v59:=Tryz.zeroValue281
 t146:=Tryz.underlying337
 a146:=Tryz.isAgg337
 z146:=Tryz.sizeOf337
 v146:=Tryz.zeroValue337
 g1:=by kernel_rfl}
def Tryz.lays146_ren:Go.Shelf.Ren:=⟨fun|146=>86|221=>136|268=>182|138=>183|143=>184|195=>229|197=>201|218=>230|219=>231|260=>253|217=>260|225=>269|224=>270|267=>271|266=>297|314=>300|n=>n,fun|9=>9|31=>24|3=>3|4=>4|0=>0|105=>272|21=>21|5=>5|46=>136|119=>325|139=>328|138=>327|146=>337|51=>187|n=>n,fun|1=>0|3=>1|4=>2|n=>n⟩
theorem Tryz.lays146:Go.Proofs.Lays.n146 Tryz.prog Tryz.lays146_ren:={
 mixed:=by kernel_rfl
 f138:=Xt Tryz.func183
 f143:=Xt Tryz.func184
 f146:=Xt Tryz.func86
 f195:=Xt Tryz.func229
 f197:=Xt Tryz.func201
 f217:=Xt Tryz.func260
 f218:=Xt Tryz.func230
 f219:=Xt Tryz.func231
 f221:=Xt Tryz.func136
 f224:=Xt Tryz.func270
 f225:=Xt Tryz.func269
 f260:=Xt Tryz.func253
 f266:=Xt Tryz.func297
 f267:=Xt Tryz.func271
 f268:=Xt Tryz.func182
 f314:=Xt Tryz.func300
 t0:=Tryz.underlying0
 a0:=Tryz.isAgg0
 z0:=Tryz.sizeOf0
 v0:=Tryz.zeroValue0
 t3:=Tryz.underlying3
 a3:=Tryz.isAgg3
 z3:=Tryz.sizeOf3
 v3:=Tryz.zeroValue3
 t4:=Tryz.underlying4
 a4:=Tryz.isAgg4
 z4:=Tryz.sizeOf4
 v4:=Tryz.zeroValue4
 t5:=Tryz.underlying5
 a5:=Tryz.isAgg5
 z5:=Tryz.sizeOf5
 v5:=Tryz.zeroValue5
 t9:=Tryz.underlying9
 a9:=Tryz.isAgg9
 z9:=Tryz.sizeOf9
 v9:=Tryz.zeroValue9
 t21:=Tryz.underlying21
 a21:=Tryz.isAgg21
 z21:=Tryz.sizeOf21
 v21:=Tryz.zeroValue21
 t31:=Tryz.underlying24
 a31:=Tryz.isAgg24
 z31:=Tryz.sizeOf24
 v31:=Tryz.zeroValue24
 t46:=Tryz.underlying136
 a46:=Tryz.isAgg136
 z46:=Tryz.sizeOf136
 v46:=Tryz.zeroValue136
 t51:=Tryz.underlying187
 a51:=Tryz.isAgg187
 z51:=Tryz.sizeOf187
 v51:=Tryz.zeroValue187
 t105:=Tryz.underlying272
 a105:=Tryz.isAgg272
 z105:=Tryz.sizeOf272
 v105:=Tryz.zeroValue272
 t119:=Tryz.underlying325
 a119:=Tryz.isAgg325
 z119:=Tryz.sizeOf325
 t138:=Tryz.underlying327
 a138:=Tryz.isAgg327
 z138:=Tryz.sizeOf327
 v138:=Tryz.zeroValue327
 t139:=Tryz.underlying328
 a139:=Tryz.isAgg328
 z139:=Tryz.sizeOf328
 v139:=Tryz.zeroValue328
 t146:=Tryz.underlying337
 a146:=Tryz.isAgg337
 z146:=Tryz.sizeOf337
 v146:=Tryz.zeroValue337
 g1:=by kernel_rfl
 g3:=by kernel_rfl
 g4:=by kernel_rfl}
def Tryz.lays144_ren:Go.Shelf.Ren:=⟨fun|144=>213|143=>184|219=>231|217=>260|225=>269|224=>270|267=>271|266=>297|314=>300|n=>n,fun|9=>9|4=>4|3=>3|5=>5|46=>136|146=>337|51=>187|n=>n,fun|1=>0|n=>n⟩
theorem Tryz.lays144:Go.Proofs.Lays.n144 Tryz.prog Tryz.lays144_ren:={
 mixed:=by kernel_rfl
 f143:=Xt Tryz.func184
 f144:=Xt Tryz.func213
 f217:=Xt Tryz.func260
 f219:=Xt Tryz.func231
 f224:=Xt Tryz.func270
 f225:=Xt Tryz.func269
 f266:=Xt Tryz.func297
 f267:=Xt Tryz.func271
 f314:=Xt Tryz.func300
 t3:=Tryz.underlying3
 a3:=Tryz.isAgg3
 z3:=Tryz.sizeOf3
 v3:=Tryz.zeroValue3
 t4:=Tryz.underlying4
 a4:=Tryz.isAgg4
 z4:=Tryz.sizeOf4
 v4:=Tryz.zeroValue4
 t5:=Tryz.underlying5
 a5:=Tryz.isAgg5
 z5:=Tryz.sizeOf5
 v5:=Tryz.zeroValue5
 t9:=Tryz.underlying9
 a9:=Tryz.isAgg9
 z9:=Tryz.sizeOf9
 v9:=Tryz.zeroValue9
 t46:=Tryz.underlying136
 a46:=Tryz.isAgg136
 z46:=Tryz.sizeOf136
 v46:=Tryz.zeroValue136
 t51:=Tryz.underlying187
 a51:=Tryz.isAgg187
 z51:=Tryz.sizeOf187
 v51:=Tryz.zeroValue187
 t146:=Tryz.underlying337
 a146:=Tryz.isAgg337
 z146:=Tryz.sizeOf337
 v146:=Tryz.zeroValue337
 g1:=by kernel_rfl}
def Tryz.lays137_ren:Go.Shelf.Ren:=⟨fun|137=>211|217=>260|266=>297|n=>n,fun|9=>9|5=>5|3=>3|n=>n,fun|n=>n⟩
theorem Tryz.lays137:Go.Proofs.Lays.n137 Tryz.prog Tryz.lays137_ren:={
 mixed:=by kernel_rfl
 f137:=Xt Tryz.func211
 f217:=Xt Tryz.func260
 f266:=Xt Tryz.func297
 t3:=Tryz.underlying3
 a3:=Tryz.isAgg3
 z3:=Tryz.sizeOf3
 v3:=Tryz.zeroValue3
 t5:=Tryz.underlying5
 a5:=Tryz.isAgg5
 z5:=Tryz.sizeOf5
 v5:=Tryz.zeroValue5
 t9:=Tryz.underlying9
 a9:=Tryz.isAgg9
 z9:=Tryz.sizeOf9
 v9:=Tryz.zeroValue9}
def Tryz.lays197_ren:Go.Shelf.Ren:=⟨fun|197=>201|260=>253|n=>n,fun|9=>9|21=>21|3=>3|4=>4|5=>5|105=>272|119=>325|0=>0|46=>136|139=>328|138=>327|n=>n,fun|3=>1|4=>2|n=>n⟩
theorem Tryz.lays197:Go.Proofs.Lays.n197 Tryz.prog Tryz.lays197_ren:={
 mixed:=by kernel_rfl
 f197:=Xt Tryz.func201
 f260:=Xt Tryz.func253
 t0:=Tryz.underlying0
 a0:=Tryz.isAgg0
 z0:=Tryz.sizeOf0
 v0:=Tryz.zeroValue0
 t3:=Tryz.underlying3
 a3:=Tryz.isAgg3
 z3:=Tryz.sizeOf3
 v3:=Tryz.zeroValue3
 t4:=Tryz.underlying4
 a4:=Tryz.isAgg4
 z4:=Tryz.sizeOf4
 v4:=Tryz.zeroValue4
 t5:=Tryz.underlying5
 a5:=Tryz.isAgg5
 z5:=Tryz.sizeOf5
 v5:=Tryz.zeroValue5
 t9:=Tryz.underlying9
 a9:=Tryz.isAgg9
 z9:=Tryz.sizeOf9
 v9:=Tryz.zeroValue9
 t21:=Tryz.underlying21
 a21:=Tryz.isAgg21
 z21:=Tryz.sizeOf21
 v21:=Tryz.zeroValue21
 t46:=Tryz.underlying136
 a46:=Tryz.isAgg136
 z46:=Tryz.sizeOf136
 v46:=Tryz.zeroValue136
 t105:=Tryz.underlying272
 a105:=Tryz.isAgg272
 z105:=Tryz.sizeOf272
 v105:=Tryz.zeroValue272
 t119:=Tryz.underlying325
 a119:=Tryz.isAgg325
 z119:=Tryz.sizeOf325
 t138:=Tryz.underlying327
 a138:=Tryz.isAgg327
 z138:=Tryz.sizeOf327
 v138:=Tryz.zeroValue327
 t139:=Tryz.underlying328
 a139:=Tryz.isAgg328
 z139:=Tryz.sizeOf328
 v139:=Tryz.zeroValue328
 g3:=by kernel_rfl
 g4:=by kernel_rfl}
def Tryz.lays196_ren:Go.Shelf.Ren:=⟨fun|196=>274|259=>301|n=>n,fun|9=>9|4=>4|3=>3|5=>5|12=>12|119=>325|0=>0|46=>136|139=>328|138=>327|53=>189|n=>n,fun|3=>1|4=>2|n=>n⟩
theorem Tryz.lays196:Go.Proofs.Lays.n196 Tryz.prog Tryz.lays196_ren:={
 mixed:=by kernel_rfl
 f196:=Xt Tryz.func274
 f259:=Xt Tryz.func301
 t0:=Tryz.underlying0
 a0:=Tryz.isAgg0
 z0:=Tryz.sizeOf0
 v0:=Tryz.zeroValue0
 t3:=Tryz.underlying3
 a3:=Tryz.isAgg3
 z3:=Tryz.sizeOf3
 v3:=Tryz.zeroValue3
 t4:=Tryz.underlying4
 a4:=Tryz.isAgg4
 z4:=Tryz.sizeOf4
 v4:=Tryz.zeroValue4
 t5:=Tryz.underlying5
 a5:=Tryz.isAgg5
 z5:=Tryz.sizeOf5
 v5:=Tryz.zeroValue5
 t9:=Tryz.underlying9
 a9:=Tryz.isAgg9
 z9:=Tryz.sizeOf9
 v9:=Tryz.zeroValue9
 t12:=Tryz.underlying12
 a12:=Tryz.isAgg12
 z12:=Tryz.sizeOf12
 v12:=Tryz.zeroValue12
 t46:=Tryz.underlying136
 a46:=Tryz.isAgg136
 z46:=Tryz.sizeOf136
 v46:=Tryz.zeroValue136
 t53:=Tryz.underlying189
 a53:=Tryz.isAgg189
 z53:=Tryz.sizeOf189
 v53:=Tryz.zeroValue189
 t119:=Tryz.underlying325
 a119:=Tryz.isAgg325
 z119:=Tryz.sizeOf325
 t138:=Tryz.underlying327
 a138:=Tryz.isAgg327
 z138:=Tryz.sizeOf327
 v138:=Tryz.zeroValue327
 t139:=Tryz.underlying328
 a139:=Tryz.isAgg328
 z139:=Tryz.sizeOf328
 v139:=Tryz.zeroValue328
 g3:=by kernel_rfl
 g4:=by kernel_rfl}
end Go.Proofs
end
section
namespace Go.Proofs
open Go.Shelf
def Tryz.lays190_ren:Go.Shelf.Ren:=⟨fun|190=>145|125=>63|258=>191|128=>113|129=>114|302=>241|303=>242|304=>243|305=>244|306=>245|307=>246|308=>247|309=>248|310=>249|333=>278|329=>152|330=>153|334=>279|335=>280|336=>79|344=>303|n=>n,fun|31=>24|9=>9|3=>3|46=>136|0=>0|51=>187|53=>189|4=>4|183=>180|182=>179|131=>184|5=>5|218=>228|222=>232|228=>270|229=>217|n=>n,fun|n=>n⟩
theorem Tryz.lays190:Go.Proofs.Lays.n190 Tryz.prog Tryz.lays190_ren:={
 mixed:=by kernel_rfl
 f125:=Xt Tryz.func63
 f128:=Xt Tryz.func113
 f129:=Xt Tryz.func114
 f190:=Xt Tryz.func145
 f258:=Xt Tryz.func191
 f302:=Xt Tryz.func241
 f303:=Xt Tryz.func242
 f304:=Xt Tryz.func243
 f305:=Xt Tryz.func244
 f306:=Xt Tryz.func245
 f307:=Xt Tryz.func246
 f308:=Xt Tryz.func247
 f309:=Xt Tryz.func248
 f310:=Xt Tryz.func249
 f329:=Xt Tryz.func152
 f330:=Xt Tryz.func153
 f333:=Xt Tryz.func278
 f334:=Xt Tryz.func279
 f335:=Xt Tryz.func280
 f336:=Xt Tryz.func79
 f344:=Xt Tryz.func303
 t0:=Tryz.underlying0
 a0:=Tryz.isAgg0
 z0:=Tryz.sizeOf0
 v0:=Tryz.zeroValue0
 t3:=Tryz.underlying3
 a3:=Tryz.isAgg3
 z3:=Tryz.sizeOf3
 v3:=Tryz.zeroValue3
 t4:=Tryz.underlying4
 a4:=Tryz.isAgg4
 z4:=Tryz.sizeOf4
 v4:=Tryz.zeroValue4
 t5:=Tryz.underlying5
 a5:=Tryz.isAgg5
 z5:=Tryz.sizeOf5
 v5:=Tryz.zeroValue5
 t9:=Tryz.underlying9
 a9:=Tryz.isAgg9
 z9:=Tryz.sizeOf9
 v9:=Tryz.zeroValue9
 t31:=Tryz.underlying24
 a31:=Tryz.isAgg24
 z31:=Tryz.sizeOf24
 v31:=Tryz.zeroValue24
 t46:=Tryz.underlying136
 a46:=Tryz.isAgg136
 z46:=Tryz.sizeOf136
 v46:=Tryz.zeroValue136
 t51:=Tryz.underlying187
 a51:=Tryz.isAgg187
 z51:=Tryz.sizeOf187
 v51:=Tryz.zeroValue187
 t53:=Tryz.underlying189
 a53:=Tryz.isAgg189
 z53:=Tryz.sizeOf189
 v53:=Tryz.zeroValue189
 t131:=Tryz.underlying184
 a131:=Tryz.isAgg184
 z131:=Tryz.sizeOf184
 v131:=Tryz.zeroValue184
 t182:=Tryz.underlying179
 a182:=Tryz.isAgg179
 z182:=Tryz.sizeOf179
 v182:=Tryz.zeroValue179
 t183:=Tryz.underlying180
 a183:=Tryz.isAgg180
 z183:=Tryz.sizeOf180
 v183:=Tryz.zeroValue180
 t218:=Tryz.underlying228
 a218:=Tryz.isAgg228
 z218:=Tryz.sizeOf228
 v218:=Tryz.zeroValue228
 t222:=Tryz.underlying232
 a222:=Tryz.isAgg232
 z222:=Tryz.sizeOf232
 v222:=Tryz.zeroValue232
 t228:=Tryz.underlying270
 a228:=Tryz.isAgg270
 z228:=Tryz.sizeOf270
 v228:=Tryz.zeroValue270
 t229:=Tryz.underlying217
 a229:=Tryz.isAgg217
 z229:=Tryz.sizeOf217
 v229:=Tryz.zeroValue217}
def Tryz.lays194_ren:Go.Shelf.Ren:=⟨fun|194=>95|n=>n,fun|31=>24|9=>9|3=>3|4=>4|0=>0|n=>n,fun|n=>n⟩
theorem Tryz.lays194:Go.Proofs.Lays.n194 Tryz.prog Tryz.lays194_ren:={
 mixed:=by kernel_rfl
 f194:=Xt Tryz.func95
 t0:=Tryz.underlying0
 a0:=Tryz.isAgg0
 z0:=Tryz.sizeOf0
 v0:=Tryz.zeroValue0
 t3:=Tryz.underlying3
 a3:=Tryz.isAgg3
 z3:=Tryz.sizeOf3
 v3:=Tryz.zeroValue3
 t4:=Tryz.underlying4
 a4:=Tryz.isAgg4
 z4:=Tryz.sizeOf4
 v4:=Tryz.zeroValue4
 t9:=Tryz.underlying9
 a9:=Tryz.isAgg9
 z9:=Tryz.sizeOf9
 v9:=Tryz.zeroValue9
 t31:=Tryz.underlying24
 a31:=Tryz.isAgg24
 z31:=Tryz.sizeOf24
 v31:=Tryz.zeroValue24}
def Tryz.lays172_ren:Go.Shelf.Ren:=⟨fun|172=>210|244=>258|245=>259|247=>292|279=>293|280=>294|281=>295|282=>296|287=>311|316=>312|171=>314|205=>313|321=>319|322=>320|243=>321|246=>322|283=>323|284=>324|285=>325|286=>326|129=>114|317=>327|318=>328|319=>329|320=>330|337=>331|338=>332|n=>n,fun|9=>9|3=>3|75=>285|76=>286|4=>4|5=>5|167=>330|37=>288|0=>0|85=>331|2=>2|168=>333|53=>189|175=>347|46=>136|210=>351|127=>360|145=>363|143=>361|21=>21|171=>365|173=>367|212=>370|51=>187|20=>20|213=>371|232=>372|233=>373|80=>374|n=>n,fun|15=>3|16=>4|17=>5|18=>6|19=>7|n=>n⟩
theorem Tryz.lays172:Go.Proofs.Lays.n172 Tryz.prog Tryz.lays172_ren:={
 mixed:=by kernel_rfl
 f129:=Xt Tryz.func114
 f171:=Xt Tryz.func314
 f172:=Xt Tryz.func210
 f205:=Xt Tryz.func313
 f243:=Xt Tryz.func321
 f244:=Xt Tryz.func258
 f245:=Xt Tryz.func259
 f246:=Xt Tryz.func322
 f247:=Xt Tryz.func292
 f279:=Xt Tryz.func293
 f280:=Xt Tryz.func294
 f281:=Xt Tryz.func295
 f282:=Xt Tryz.func296
 f283:=Xt Tryz.func323
 f284:=Xt Tryz.func324
 f285:=Xt Tryz.func325
 f286:=Xt Tryz.func326
 f287:=Xt Tryz.func311
 f316:=Xt Tryz.func312
 f317:=Xt Tryz.func327
 f318:=Xt Tryz.func328
 f319:=Xt Tryz.func329
 f320:=Xt Tryz.func330
 f321:=Xt Tryz.func319
 f322:=Xt Tryz.func320
 f337:=Xt Tryz.func331
 f338:=Xt Tryz.func332
 t0:=Tryz.underlying0
 a0:=Tryz.isAgg0
 z0:=Tryz.sizeOf0
 v0:=Tryz.zeroValue0
 t2:=Tryz.underlying2
 a2:=Tryz.isAgg2
 z2:=Tryz.sizeOf2
 v2:=Tryz.zeroValue2
 t3:=Tryz.underlying3
 a3:=Tryz.isAgg3
 z3:=Tryz.sizeOf3
 v3:=Tryz.zeroValue3
 t4:=Tryz.underlying4
 a4:=Tryz.isAgg4
 z4:=Tryz.sizeOf4
 v4:=Tryz.zeroValue4
 t5:=Tryz.underlying5
 a5:=Tryz.isAgg5
 z5:=Tryz.sizeOf5
 v5:=Tryz.zeroValue5
 t9:=Tryz.underlying9
 a9:=Tryz.isAgg9
 z9:=Tryz.sizeOf9
 v9:=Tryz.zeroValue9
 t20:=Tryz.underlying20
 a20:=Tryz.isAgg20
 z20:=Tryz.sizeOf20
 v20:=Tryz.zeroValue20
 t21:=Tryz.underlying21
 a21:=Tryz.isAgg21
 z21:=Tryz.sizeOf21
 v21:=Tryz.zeroValue21
 t37:=Tryz.underlying288
 a37:=Tryz.isAgg288
 z37:=Tryz.sizeOf288
 v37:=Tryz.zeroValue288
 t46:=Tryz.underlying136
 a46:=Tryz.isAgg136
 z46:=Tryz.sizeOf136
 v46:=Tryz.zeroValue136
 t51:=Tryz.underlying187
 a51:=Tryz.isAgg187
 z51:=Tryz.sizeOf187
 v51:=Tryz.zeroValue187
 t53:=Tryz.underlying189
 a53:=Tryz.isAgg189
 z53:=Tryz.sizeOf189
 v53:=Tryz.zeroValue189
 t75:=Tryz.underlying285
 a75:=Tryz.isAgg285
 z75:=Tryz.sizeOf285
 v75:=Tryz.zeroValue285
 t76:=Tryz.underlying286
 a76:=Tryz.isAgg286
 z76:=Tryz.sizeOf286
 v76:=Tryz.zeroValue286
 t85:=Tryz.underlying331
 a85:=Tryz.isAgg331
 z85:=Tryz.sizeOf331
 v85:=Tryz.zeroValue331
 t127:=Tryz.underlying360
 a127:=Tryz.isAgg360
 z127:=Tryz.sizeOf360
 v127:=Tryz.zeroValue360
 t143:=Tryz.underlying361
 a143:=Tryz.isAgg361
 z143:=Tryz.sizeOf361
 v143:=Tryz.zeroValue361
 t145:=Tryz.underlying363
 a145:=Tryz.isAgg363
 z145:=Tryz.sizeOf363
 v145:=Tryz.zeroValue363
 t167:=Tryz.underlying330
 a167:=Tryz.isAgg330
 z167:=Tryz.sizeOf330
 v167:=Tryz.zeroValue330
 t168:=Tryz.underlying333
 a168:=Tryz.isAgg333
 z168:=Tryz.sizeOf333
 v168:=Tryz.zeroValue333
 t171:=Tryz.underlying365
 a171:=Tryz.isAgg365
 z171:=Tryz.sizeOf365
 v171:=Tryz.zeroValue365
 t173:=Tryz.underlying367
 a173:=Tryz.isAgg367
 z173:=Tryz.sizeOf367
 v173:=Tryz.zeroValue367
 t175:=Tryz.underlying347
 a175:=Tryz.isAgg347
 z175:=Tryz.sizeOf347
 v175:=Tryz.zeroValue347
 t210:=Tryz.underlying351
 a210:=Tryz.isAgg351
 z210:=Tryz.sizeOf351
 v210:=Tryz.zeroValue351
 t212:=Tryz.underlying370
 a212:=Tryz.isAgg370
 z212:=Tryz.sizeOf370
 v212:=Tryz.zeroValue370
 t213:=Tryz.underlying371
 a213:=Tryz.isAgg371
 z213:=Tryz.sizeOf371
 t232:=Tryz.underlying372
 a232:=Tryz.isAgg372
 z232:=Tryz.sizeOf372
 v232:=Tryz.zeroValue372
 t233:=Tryz.underlying373
 a233:=Tryz.isAgg373
 z233:=Tryz.sizeOf373
 v233:=Tryz.zeroValue373
 g15:=by kernel_rfl
 g16:=by kernel_rfl
 g17:=by kernel_rfl
 g18:=by kernel_rfl
 g19:=by kernel_rfl}
def Tryz.sorted200_ren:Go.Shelf.Ren:=⟨fun|6=>93|8=>144|9=>145|11=>190|13=>63|12=>191|23=>113|24=>114|14=>241|15=>242|16=>243|17=>244|18=>245|19=>246|20=>247|21=>248|22=>249|25=>278|26=>152|27=>153|28=>279|29=>280|30=>79|31=>303|n=>n,fun|26=>9|28=>167|24=>24|0=>0|3=>3|37=>136|48=>187|50=>189|4=>4|40=>180|39=>179|45=>184|5=>5|9=>9|51=>228|55=>232|57=>270|58=>217|33=>113|n=>n,fun|n=>n⟩
theorem Tryz.sorted200:Go.Proofs.SlLaysZ.n6 Tryz.prog Tryz.sorted200_ren:={
 mixed:=by kernel_rfl
 f6:=⟨Tryz.f93.name,by decide,Xt Tryz.func93⟩
 f8:=⟨Tryz.f144.name,by decide,Xt Tryz.func144⟩
 f11:=⟨Tryz.f190.name,by decide,Xt Tryz.func190⟩
 t0:=Tryz.underlying0
 a0:=Tryz.isAgg0
 z0:=Tryz.sizeOf0
 v0:=Tryz.zeroValue0
 t24:=Tryz.underlying24
 a24:=Tryz.isAgg24
 z24:=Tryz.sizeOf24
 v24:=Tryz.zeroValue24
 t26:=Tryz.underlying9
 a26:=Tryz.isAgg9
 z26:=Tryz.sizeOf9
 v26:=Tryz.zeroValue9
 t28:=Tryz.underlying167
 a28:=Tryz.isAgg167
 z28:=Tryz.sizeOf167
 v28:=Tryz.zeroValue167
 i26:=by kernel_rfl}
end Go.Proofs
end
section
namespace Go.Proofs
open Go.RowKit Go.Shelf Go.AL
variable [Tabs]
attribute [local go_sem] Oper.semAt_some
set_option maxRecDepth 100000 in
set_option maxHeartbeats 2000000 in
theorem Tryz.values1(F:Fence)(n:Nat)(h7:F.fn 146)(hro:F.round=none)(hn:1<=n)(l Bs Bo b off len cap:Nat)(zs:List Str)(hreach:len<=maxLen)(J:List Str->World->Prop)(hBl:∀pre W,J pre W->W.cell? ⟨Bs,Bo,none⟩=some (.slice (some ⟨b,off,none⟩) len cap)/\∀j,j<len->W.cell? ⟨b,off+j,none⟩=some (encStr (zs[j]?.getD [])))
 (hY:∀pre x W,J pre W->pre.length<len->YieldAt F (n-1) Tryz.prog l #[encStr x] W fun e W'=>e=.returned (.bool true)/\J (pre++[x]) W')
 (W:World)(h0:J [] W) :
  CallsIn F n Tryz.prog 146 #[.func (.yield l) #[] #[],.pointer (some ⟨Bs,Bo,none⟩)] W fun e W'=>(∃v,e=.returned v)/\∃ys,ys=upto (fun j=>zs[j]?.getD []) len/\J ys W':=by
 obtain⟨hBs,hc⟩:=hBl _ _ h0;refine callsIn_of_wp Tryz.func146 rfl h7 ?_ hro;simp only[Tryz.ntmps146,PB,O8,ON,Nat.reduceAdd,Nat.reduceSub,Pu,Pv,PH,Px,Pn,OQ]
 gi_wp2
 gi_loopw [7] (fun i wr=>∃k:Nat,k<=len/\i=.int .i64 k/\J (upto (fun j=>zs[j]?.getD []) k) wr)
  (fun i _=>len-(intOf i).toNat)
 case atStart=>exact⟨0,Of _,rfl,h0⟩
 case round=>
  obtain⟨k,hk,rfl,hJs⟩:=hrel;have hcx:k<len->wr.cell? ⟨b,off+k,none⟩=some (encStr (zs[k]?.getD [])):=fun h=>(hBl _ _ hJs).2 k h;by_cases hlt:k<len
  ·obtain⟨fn,tmps,assign,body,hy,hR⟩:=hY _ (zs[k]?.getD []) wr hJs (by rw[zL];exact hlt);have hcx':=hcx hlt;have hsmall:(k:Int)+1<=9223372036854775807:=by unfold maxLen at hreach;omega
   gi_wp2
   refine hR.mono ?_;rintro e W3 ⟨rfl,hJ3⟩
   gi_wp2
   go_roundw
   case rel=>exact⟨k+1,by omega,by simp,by rw[G8];exact hJ3⟩
   case measure=>simp[intOf];omega
  ·obtain rfl:k=len:=by omega
   gi_wp2
   go_end0
   exact⟨⟨_,rfl⟩,_,rfl,hJs⟩
set_option maxRecDepth 100000 in
set_option maxHeartbeats 1000000 in
theorem Tryz.values1_nil(F:Fence)(n:Nat)(h7:F.fn 146)(hro:F.round=none)(l Bs Bo cap:Nat)(a:Option Addr)(J:List Str->World->Prop)(W:World)(hBs:W.cell? ⟨Bs,Bo,none⟩=some (.slice a 0 cap))(h0:J [] W) :
  CallsIn F n Tryz.prog 146 #[.func (.yield l) #[] #[],.pointer (some ⟨Bs,Bo,none⟩)] W fun e W'=>(∃v,e=.returned v)/\J [] W':=by
 refine callsIn_of_wp Tryz.func146 rfl h7 ?_ hro;simp only[Tryz.ntmps146,PB,O8,ON,Nat.reduceAdd,Nat.reduceSub,Pu,Pv,PH,Px,Pn,OQ]
 gi_wp2
 gi_loopw [7] (fun i wr=>i=.int .i64 0/\J [] wr) (fun _ _=>0)
 case atStart=>exact⟨rfl,h0⟩
 case round=>
  obtain⟨rfl,hJs⟩:=hrel
  gi_wp2
  go_end0
  exact⟨⟨_,rfl⟩,hJs⟩
theorem Tryz.valuesL:xS Tryz.prog 146:=by
 intro w b o sv zs hz hc hs l J W a1 a2 a3 a4 a5;have hb:=aC hc;rcases hs with⟨⟨a,cap,rfl⟩,rfl⟩|⟨g,off,cap,rfl,hg,hcs⟩
 ·refine(Tryz.values1_nil Fence.wide 2 trivial rfl l b o cap a J W ((a1.cell (p:=⟨b,o,none⟩) hb).trans hc) a5).mono ?_;rintro e W' ⟨h1,h2⟩;exact⟨h1,[],rfl,h2⟩
 ·refine(Tryz.values1 Fence.wide 2 trivial rfl (by omega) l b o g off zs.length cap zs hz J (fun pre W1 hJ=>⟨((a3 _ _ hJ).cell (p:=⟨b,o,none⟩) hb).trans hc,fun j hj=>((a3 _ _ hJ).cell (p:=⟨g,off+j,none⟩) hg).trans (hcs j hj)⟩)
   (fun pre x W1 h1 h2=>(a4 pre x W1 h1 h2).mono fun e W' h=>⟨h.1,h.2.1⟩) W a5).mono ?_
  rintro e W' ⟨h1,ys,h2,h3⟩;exact⟨h1,ys,by rw[h2,IL],h3⟩
end Go.Proofs
end
section
namespace Go.AL.Seat
open Go Go.AL Go.Proofs Go.Shelf Go.Pd
variable [Tabs]
theorem NB:SortL Tryz.prog Tryz.sorted200_ren:=
 ⟨Tryz.sorted200,⟨fun blk off cap ss W hH hblk hsz=>callsIn_wide.2 (Any.slices_Sort_string Tryz.lays190 blk off cap ss W hH hblk hsz),fun p cap W=>callsIn_wide.2 (Any.slices_Sort_string_none Tryz.lays190 p cap W)⟩,enters_of Tryz.func145 (by kernel_rfl) rfl⟩
theorem nO:ah Tryz.prog 93 (nK 146):=
 vg NB rfl (enters_of Tryz.func146 (by kernel_rfl) rfl) Tryz.valuesL (Enters.mk' Tryz.func93 (by kernel_rfl))
theorem lR:ah Tryz.prog 95 nL:=vh Tryz.lays194 rfl (Enters.mk' Tryz.func95 (by kernel_rfl))
theorem IY:ah Tryz.prog 210 (p1 .str fun t=>⟨some (qA t),none,.tup [.int .i64 (nf t),.nilif],[]⟩):=D2 Tryz.lays172 rfl (Enters.mk' Tryz.func210 (by kernel_rfl))
end Go.AL.Seat
end
section
namespace Go.AL.Seat
open Go Go.AL Go.Proofs Go.Shelf Go.Pd
class SeatLaid[Tabs]:Prop where
 max:∃m:Int,Tabs.tab 0 0 (.int .i64 m)
 utf:oQ 1 2
variable [Tabs] [SeatLaid]
theorem Ad:ah Tryz.prog 161 (p2 .str .str fun a b=>⟨some (b=rh),none,.str (nh a),[]⟩):=D4 Tryz.lays160 (by kernel_rfl) rfl (Enters.mk' Tryz.func161 (by kernel_rfl))
theorem Ld:ah Tryz.prog 209 (p2 .str .str fun a b=>⟨some (b=[45]/\a.length<4294967281),none,.tup [.str (jK a),.str (nN a),.bool (pR a)],[]⟩):=
 let ⟨_,hm⟩:=SeatLaid.max;Gf Tryz.lays145 hm rfl (Enters.mk' Tryz.func209 (by kernel_rfl))
theorem pT:ah Tryz.prog 86 (p2 .str .str fun a b=>⟨some (b=[46]/\a.length<4294967281),none,.lst .str (splitB 46 a) none,[]⟩):=
 let ⟨_,hm⟩:=SeatLaid.max;Aa Tryz.lays146 (by kernel_rfl) hm rfl (Enters.mk' Tryz.func86 (by kernel_rfl))
theorem y9:ah Tryz.prog 213 (p2 .str .str fun a b=>⟨some (b.length=1),none,.bool (decide (b.getD 0 0∈a)),[]⟩):=tK Tryz.lays144 rfl (Enters.mk' Tryz.func213 (by kernel_rfl))
theorem vm:ah Tryz.prog 211 (p2 .str (.int .u8) fun a c=>.ret (.int .i64 (IP a c))):=rl Tryz.lays137 rfl (Enters.mk' Tryz.func211 (by kernel_rfl))
theorem tN:ah Tryz.prog 201 (p1 .str fun s=>.ret (.tup [.int .i32 ((kP s).1:Int),.int .i64 ((kP s).2:Int)])):=pS Tryz.lays197 SeatLaid.utf rfl (Enters.mk' Tryz.func201 (by kernel_rfl))
theorem Gg:ah Tryz.prog 274 (p1 .str fun s=>.ret (.bool (tG s).isNone)):=Ac Tryz.lays196 SeatLaid.utf rfl (Enters.mk' Tryz.func274 (by kernel_rfl))
end Go.AL.Seat
end
section
namespace Go.Proofs.YtlhofbjllomgiaaGreatDoor.Join
open Go.AL Go.AL.Seat Go.ChangeShapes Go.WideShapes Go.RowKit Go.Lib Go.Shelf
set_option maxRecDepth 1000000
theorem own:ownKnob Tryz.prog.godebug=none:=by kernel_rfl
theorem Le:laidOutB Tryz.prog=true:=by kernel_rfl
theorem undB:Tryz.prog.underlying 4=some .bool:=by kernel_rfl
theorem undI:Tryz.prog.underlying 3=some (.int .i64):=by kernel_rfl
theorem fe:40<Tryz.prog.types.size:=Xo (by kernel_rfl)
def laid:List (String×DataW Unit):=Rows.checkOrderRow.laid
theorem NC:(Rows.laid_unicode_utf8_acceptRanges:DataW Unit)=acceptData:=by kernel_rfl
theorem ND{W:World}(h:W.ShapedOpen Tryz.prog):∃m,W.cell? ⟨0,0,none⟩=some (.int .i64 m):=
 cell_of_shapedOpen_int (t:=3) (zero:=#[.int .i64 0]) h (Xo (by kernel_rfl)) (by kernel_rfl) rfl (by kernel_rfl) (by kernel_rfl) undI
theorem NF{W:World}(h:laidMet Tryz.prog laid W):Utf8Tabs 1 2 W:=
 utf8Tabs_of_readsT (ρ:=Tryz.lays196_ren) (U8Types.of196 Tryz.lays196) ⟨by kernel_rfl,by kernel_rfl,by kernel_rfl,by kernel_rfl,by kernel_rfl,by kernel_rfl,by kernel_rfl⟩
  (Pinned.utf8First_eq ▸ laidMet.reads h (by simp[laid,Rows.checkOrderRow,Rows.laid_unicode_utf8_first])) (NC ▸ laidMet.reads h (by simp[laid,Rows.checkOrderRow]))
theorem IZ{W:World}(h:laidMet Tryz.prog laid W)(hs:W.ShapedOpen Tryz.prog):@SeatLaid (tz W):=by
 letI:Tabs:=tz W
 obtain⟨m,hm⟩:=ND hs;obtain⟨u1,u2⟩:=NF h;exact⟨⟨m,by decide,hm⟩,fun c hc=>⟨by decide,u1 c hc⟩,fun i hi=>⟨⟨by decide,(u2 i hi).1⟩,by decide,(u2 i hi).2⟩⟩
def z32:List Int:=[0,1,28,2,29,14,24,3,30,22,20,15,25,17,4,8,31,27,13,23,21,19,16,7,26,12,18,6,11,5,10,9]
def z64:List Int:=[0,1,56,2,57,49,28,3,61,58,42,50,38,29,17,4,62,47,59,36,45,43,51,22,53,39,33,30,24,18,12,5,63,55,48,27,60,41,37,16,46,35,44,21,52,32,23,11,54,26,40,15,34,20,31,10,25,14,19,9,13,8,7,6]
def zPow:List Int:=[1,10,100,1000,10000,100000,1000000,10000000,100000000,1000000000,10000000000,100000000000,1000000000000,10000000000000,100000000000000,1000000000000000,10000000000000000,100000000000000000,1000000000000000000,10000000000000000000]
def zAcc:List Int:=[128,191,160,191,128,159,144,191,128,143,0,0,0,0,0,0,0,0,0,0,0,0,0,0,0,0,0,0,0,0,0,0]
def MK:List Int:=List.map Int.ofNat Pinned.utf8FirstZ
noncomputable def mF(os:Os):World:=
 let N:=(World.settled Tryz.prog os).heap.size
 let w0:=World.holding Tryz.prog os ⟨#[.cells #[.string ⟨#[118,97,108,117,101,32,111,117,116,32,111,102,32,114,97,110,103,101]⟩] 363,.cells #[.string ⟨#[105,110,118,97,108,105,100,32,115,121,110,116,97,120]⟩] 363],#[],[]⟩
 let put (h:Array Obj) (g:Nat) (cs:Array Value):Array Obj:=h.modify g fun
  |.cells _ t frozen=>.cells cs t frozen
  |o=>o
 let h0:=put (put w0.heap 3 #[.iface 361 (.pointer (some ⟨N+1,0,none⟩))]) 4 #[.iface 361 (.pointer (some ⟨N,0,none⟩))]
 let h1:=put (put (put h0 5 (zPow.map (Value.int .u64)).toArray) 6 (z32.map (Value.int .u8)).toArray) 7 (z64.map (Value.int .u8)).toArray
 let h2:=put (put h1 1 (MK.map (Value.int .u8)).toArray) 2 (zAcc.map (Value.int .u8)).toArray
 {w0 with heap:=h2}
noncomputable abbrev N0:Nat:=(World.settled Tryz.prog default).heap.size
theorem ML(os:Os)(args:Array Value):LaidIn Tryz.prog ((mF os).forCall (fun _ _=>0) ⟨#[],args,[]⟩).memory laid [6,7,5,2,4,N0,3,N0+1,1]:=
 LaidIn.of_run [6,7,5,2,4,N0,3,N0+1,1] 10 (by kernel_rfl) (by kernel_rfl) (by kernel_rfl) (by kernel_rfl)
theorem J0(os:Os)(args:Array Value):laidMet Tryz.prog laid ((mF os).forCall (fun _ _=>0) ⟨#[],args,[]⟩).memory:=(ML os args).met
end Go.Proofs.YtlhofbjllomgiaaGreatDoor.Join
end
section
namespace Go.Pd
open Go.AL
def jj(b:UInt8):Bool:=!(decide (bI b<32)&&!decide (bI b=10)&&!decide (bI b=9))
def tO(s:Str):Bool:=s.all jj&&(tG s).isNone
def cN(s:Shape):Bool:=decide (aG s=0)&&allS aP s
def dj(t:Trm)(n v s p:Nat):Bool:=decide (t.names.length=n)&&decide (t.vars.length=v)&&decide (t.shapes.length=s)&&decide (t.parts.length=p)
def oR(t:Trm):Bool:=decide (0<=t.pos)&&(decide (t.n=0)||decide (t.kind=1))&&(decide (t.pkg=[])||decide (t.kind=5))&&t.shapes.all cN
def yb(l:List Str):Bool:=l.all aX&&decide l.Nodup
def Ae(t:Trm):Bool:=
 if t.kind=1 then decide (t.name=[])&&decide (0<=t.n)&&decide (t.n<=999999999999999)&&dj t 0 0 0 0
 else if t.kind=2 then tO t.name&&dj t 0 0 0 0
 else if t.kind=3∨t.kind=4 then decide (t.name=[])&&dj t 0 0 0 0
 else if t.kind=5 then aX t.name&&(decide (t.pkg=[])||aX t.pkg)&&dj t 0 0 0 0
 else if t.kind=6 then decide (t.name=[])&&decide (t.names.length<=4096)&&yb t.names&&dj t t.names.length 0 t.names.length 1
 else if t.kind=7 then decide (t.name=[])&&decide (0<t.parts.length)&&dj t 0 0 0 t.parts.length
 else if t.kind=8 then decide (t.name=[])&&yb t.names&&dj t t.names.length 0 0 t.names.length
 else if t.kind=9∨t.kind=10 then aX t.name&&dj t 0 0 0 1
 else if t.kind=11 then decide (t.name=[])&&dj t 0 0 1 t.parts.length
 else if t.kind=12 then decide (t.name=[])&&dj t 0 0 1 3
 else if t.kind=13 then decide (t.name=[])&&yb t.names&&t.vars.all aX&&dj t t.names.length t.names.length (t.names.length+1) (t.names.length+1)
 else if t.kind=14 then aX t.name&&dj t 0 0 0 2
 else if t.kind=15 then decide (t.name=[])&&dj t 0 0 1 1
 else if t.kind=16∨t.kind=17 then eG t.name&&dj t 0 0 0 1
 else false
def ao(t:Trm):Bool:=oR t&&Ae t
mutual
def allT(f:Trm->Bool):Trm->Bool
 |⟨k,g,q,z,ns,vs,ss,ps,pp⟩=>f ⟨k,g,q,z,ns,vs,ss,ps,pp⟩&&allTL f ps
def allTL(f:Trm->Bool):List Trm->Bool
 |[]=>true
 |p::r=>allT f p&&allTL f r
end
theorem allT_eq(f:Trm->Bool)(t:Trm):allT f t=(f t&&allTL f t.parts):=by cases t;rw[allT]
theorem allTL_all(f:Trm->Bool):∀l:List Trm,allTL f l=l.all (allT f)
 |[]=>rfl
 |p::r=>by rw[P6,<-allTL_all f r];rw[allTL]
def cd(t:Trm):Bool:=allT (fun x=>decide (x.names.length<=8796093022208)) t
theorem Gh{t x:Trm}(h:cd t=true)(hx:x∈t.parts):cd x=true:=by unfold cd at h⊢;rw[allT_eq,NZ,allTL_all]at h;exact O9.1 h.2 x hx
theorem D6{t:Trm}(h:cd t=true):t.names.length<=8796093022208:=by unfold cd at h;rw[allT_eq,NZ]at h;exact Xo h.1
def du(t:Trm):Int:=
 if 4096<(countT t 4096).1 then 3 else if 40<(countT t 4096).2 then 91 else if allT ao t=true then 0 else 80
end Go.Pd
namespace Go.Pd
open Go.AL
theorem dnZ(n:Nat):decide ((n:Int)=0)=decide (n=0):=Pg.2 (by omega)
theorem dn1(n:Nat):decide ((n:Int)=1)=decide (n=1):=Pg.2 (by omega)
theorem dn2(n:Nat):decide ((n:Int)=2)=decide (n=2):=Pg.2 (by omega)
theorem dn3(n:Nat):decide ((n:Int)=3)=decide (n=3):=Pg.2 (by omega)
theorem dnN(n m:Nat):decide ((n:Int)=(m:Int))=decide (n=m):=Pg.2 (by omega)
theorem dnS(n m:Nat):decide ((n:Int)=(m:Int)+1)=decide (n=m+1):=Pg.2 (by omega)
theorem dnL(n:Nat):decide ((n:Int)<=4096)=decide (n<=4096):=Pg.2 (by omega)
theorem dnP(n:Nat):decide ((0:Int)<(n:Int))=decide (0<n):=Pg.2 (by omega)
theorem Af(s:Str)(k:Nat)(h:k<s.length):(db s).getD k (dfl (Ty.int IntKind.u8))=bI (s.getD k 0):=by unfold db;simp[O4,h,bI]
theorem Gi(b:UInt8):jj b=false↔(bI b<32/\bI b≠10/\bI b≠9):=by unfold jj;simp only[Bool.not_eq_false',NZ,O1,Oa,OF];omega
end Go.Pd
end
