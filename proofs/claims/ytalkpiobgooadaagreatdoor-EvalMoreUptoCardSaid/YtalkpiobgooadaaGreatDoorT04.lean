/- The layer: Go code as conditions, and that they are sound. Plain facts. No condition. -/
import Derived.Test.YtalkpiobgooadaaGreatDoorT03
import Derived.Deep.LoopGhost
import Derived.KernelRfl
import Derived.LoopIn
import Derived.LoopN
import Derived.LoopNIn
import Derived.OwnWalkIn
import Derived.RangeFuncBox
import Derived.RangeFuncLeaves
import Derived.Recover
import Derived.Scope
import Derived.Shelf.SlIter.Sorted
import Derived.Shelf.SlSortCmp.Whole1
import Derived.Shelf.Slices.CompactS
import Derived.Shelf.Slices.In.SortNone
import Derived.Shelf.Small.Strs
import Derived.Shelf.Sort.Plain
import Derived.Shelf.Strconv.Atoi
import Derived.Shelf.Strings.BuilderF
import Derived.TacticsInMore
import Derived.Test.YtalkpiobgooadaaGreatDoorProg
import Derived.WalkKit
set_option linter.all false
set_option maxRecDepth 100000
noncomputable section
namespace Go.AL
variable [Tabs]
section
variable {k:Nat} {τ:Ty} {x:den τ}
theorem p9:∀(l:List AV)(j:Nat),(finVs k τ x l)[j]?=(l[j]?).map (finV k τ x)
 |[],j=>by simp[finVs]
 |a::r,0=>by simp[finVs]
 |a::r,j+1=>by simp only[finVs,P7];exact p9 r j
theorem k9:∀l:List AV,(finVs k τ x l).length=l.length
 |[]=>rfl
 |a::r=>by simp[finVs,k9 r]
theorem sf(σ:Ty)(y:den σ):∀d∈cells σ y,finV k τ x d=d:=by
 cases σ with
 |st n=>cases n<;>simp[cells,cC,fc,dq,dJ,dK,ea,bW,dL,gu,fe,ff,fg,gw,gx,fy,fh,iO,dM,gz,fA,gA,gB,fj,cQ,fk,dN,gC,gD,finV]
 |_=>simp[cells,finV]
theorem pY(σ:Ty)(y:den σ):∀d∈cells σ y,lensV k d=[]:=by
 cases σ with
 |st n=>cases n<;>simp[cells,cC,fc,dq,dJ,dK,ea,bW,dL,gu,fe,ff,fg,gw,gx,fy,fh,iO,dM,gz,fA,gA,gB,fj,cQ,fk,dN,gC,gD,lensV]
 |_=>simp[cells,lensV]
theorem EH(σ:Ty)(ys:List (den σ)):∀d∈flat σ ys,finV k τ x d=d:=by intro d hd;simp only[flat,O8]at hd;obtain⟨y,_,hy⟩:=hd;exact sf σ y d hy
theorem Bp(σ:Ty)(ys:List (den σ)):∀d∈flat σ ys,lensV k d=[]:=by intro d hd;simp only[flat,O8]at hd;obtain⟨y,_,hy⟩:=hd;exact pY σ y d hy
theorem sg(d:AV):(ae (finV k τ x d)).length=(ae d).length/\∀(j:Nat)(a:AV),(ae d)[j]?=some a->(ae (finV k τ x d))[j]?=some (finV k τ x a):=by
 have one:∀{d:AV},ae d=[d]->ae (finV k τ x d)=[finV k τ x d]->(ae (finV k τ x d)).length=(ae d).length/\
   ∀(j:Nat)(a:AV),(ae d)[j]?=some a->(ae (finV k τ x d))[j]?=some (finV k τ x a):=by
  intro d h1 h2;rw[h1,h2];refine⟨rfl,fun j a ha=>?_⟩
  cases j with|zero=>simp at ha;subst ha;rfl|succ j=>simp at ha
 cases d with
 |agg cs=>exact⟨k9 cs,fun j a ha=>by show(finVs k τ x cs)[j]?=_;rw[p9];have:cs[j]?=some a:=ha;rw[this];rfl⟩
 |st n y=>exact⟨rfl,fun j a ha=>by show(cells (.st n) y)[j]?=_;rw[sf (.st n) y a (Nf ha)];exact ha⟩
 |row σ ys=>exact⟨rfl,fun j a ha=>by show(flat σ ys)[j]?=_;rw[EH σ ys a (Nf ha)];exact ha⟩
 |lstp σ xs j=>
  refine one rfl ?_;simp only[finV];split
  ·split<;>rfl
  ·rfl
 |tptr σ n j=>refine one rfl ?_;simp only[finV];split<;>rfl
 |_=>exact one rfl rfl
theorem nj:∀{l:List AV} {j:Nat} {c:AV},l[j]?=some c->∀m∈lensV k c,m∈lensVs k l
 |a::r,0,c,h,m,hm=>by simp at h;subst h;simp[lensVs,hm]
 |a::r,j+1,c,h,m,hm=>by simp only[lensVs,Nv];exact Or.inr (nj (by simpa using h) m hm)
theorem sh{d c:AV}{j:Nat}(h:(ae d)[j]?=some c):∀m∈lensV k c,m∈lensV k d:=by
 intro m hm
 cases d with
 |agg cs=>exact nj h m hm
 |st n y=>rw[pY (.st n) y c (Nf h)]at hm;cases hm
 |row σ ys=>rw[Bp σ ys c (Nf h)]at hm;cases hm
 |_=>
  cases j with|zero=>simp only[ae,OK,Xs]at h;subst h;exact hm|succ j=>simp[ae]at h
structure Told(Ω:Om)(k:Nat)(τ:Ty)(n:Nat)(x:den τ)(b cap:Nat)(vals:Nat->Value):Prop where
 e:Ω.e k=some (.tail (n+1) (some b) cap)
 c1:n+1<=cap
 c2:cap<=aY
 at_:∀(j:Nat)(c:AV),(cells τ x)[j]?=some c->Ω.pub b (n *ab τ+j)/\Ω.w.cell? ⟨b,n *ab τ+j,none⟩=some (vals j)/\V Ω c (vals j)
theorem V.finV{Ω:Om}{n b cap:Nat}{vals:Nat->Value}(ht:Told Ω k τ n x b cap vals){a:AV}{v:Value}(h:V Ω a v):(∀m∈lensV k a,m=n)->V Ω (AL.finV k τ x a) v:=by
 have many:∀{cs:List AV} {vs:List Value},cs.length=vs.length->(∀m∈lensVs k cs,m=n)->(∀(j:Nat)(d:AV)(v:Value),cs[j]?=some d->vs[j]?=some v->(∀m∈lensV k d,m=n)->V Ω (AL.finV k τ x d) v)->
   (finVs k τ x cs).length=vs.length/\∀(j:Nat)(d:AV)(v:Value),(finVs k τ x cs)[j]?=some d->vs[j]?=some v->V Ω d v:=by
  intro cs vs hl hm ih;refine⟨by rw[k9,hl],fun j d v hd hv=>?_⟩;rw[p9]at hd;simp only[N3]at hd;obtain⟨d0,hd0,rfl⟩:=hd;exact ih j d0 v hd0 hv (fun m hmm=>hm m (nj hd0 m hmm))
 induction h with
 |lstp σ xs j b' off cap' vals' h1 h2 h3 h4 h5 _=>
  intro hm;simp only[AL.finV];split
  ·rename_i hjk;have hjk:=Ng hjk;subst hjk;split
   ·rename_i l hl;obtain⟨e,hl⟩:=fJ hl;subst e;simp only at hl;subst hl;have hlen:xs.length=n:=hm xs.length (by simp[lensV]);obtain⟨m,base,cap2,r1,r2,r3⟩:=h3 _ rfl;rw[ht.e]at r1;simp only[Xs,CObj.tail.injEq]at r1;obtain⟨rfl,rfl,rfl⟩:=r1;have r3:=r3 (by omega);simp only[cO,O3,Xs,P3,O9,NP]at r3;obtain⟨⟨rfl,rfl⟩,rfl⟩:=r3;have hlx:(xs++[x]).length=xs.length+1:=by simp
    have hcase:∀(i:Nat)(y:den τ),(xs++[x])[i]?=some y->(i<xs.length/\xs[i]?=some y)∨(i=xs.length/\y=x):=by
     intro i y hy;by_cases hi:i<xs.length
     ·rw[MZ hi]at hy;exact Or.inl ⟨hi,hy⟩
     ·rw[N1 (by omega)]at hy
      have:i-xs.length=0:=by
       rcases Ox (i-xs.length)with q|q
       ·exact q
       ·rw[MU (by simp;omega)]at hy;cases hy
      rw[this]at hy;simp at hy;exact Or.inr ⟨by omega,hy.symm⟩
    have:=V.lst (Ω:=Ω) τ (xs++[x]) (some j) b' 0 cap' (fun i q=>if i<xs.length then vals' i q else vals q) (by rw[hlx];exact h1) h2 (by
      rw[hlx];intro id hid;cases hid;exact⟨n+1,some b',cap',ht.e,by omega,fun e=>by simp[cO]⟩)
     (fun i y hy q c hc=>by
      rcases hcase i y hy with⟨hi,hy'⟩|⟨rfl,rfl⟩
      ·simp only[MT hi];exact h4 i y hy' q c hc
      ·simp only[Qi,Nt,NY];have:=ht.at_ q c hc;rw[<-hlen]at this;exact⟨this.1,this.2.1⟩)
     (fun i y hy q c hc=>by
      rcases hcase i y hy with⟨hi,hy'⟩|⟨rfl,rfl⟩
      ·simp only[MT hi];exact h5 i y hy' q c hc
      ·simp only[Qi,Nt];exact(ht.at_ q c hc).2.2)
    rw[hlx]at this;exact this
   ·exact .undef _
  ·exact .lstp σ xs j b' off cap' vals' h1 h2 h3 h4 h5
 |tptr σ m j p hp=>
  intro _;simp only[AL.finV];split
  ·exact .undef _
  ·exact .tptr σ m j p hp
 |glst s n k cap a h1 h2 h3 h4=>exact fun _=>.glst s n k cap a h1 h2 h3 h4
 |gptr k s i w off b h1=>exact fun _=>.gptr k s i w off b h1
 |gsuf k s i w m b c h1=>exact fun _=>.gsuf k s i w m b c h1
 |cptr d b' o vs h1 h2 ih=>
  intro hm;obtain⟨p1,p2⟩:=sg (k:=k) (τ:=τ) (x:=x) d
  have back:∀(j:Nat)(d':AV),(ae (AL.finV k τ x d))[j]?=some d'->∃d0,(ae d)[j]?=some d0/\d'=AL.finV k τ x d0:=by
   intro j d' hd'
   have hj:j<(ae d).length:=by
    rw[<-p1];rcases MY j (ae (AL.finV k τ x d)).length with q|q
    ·exact q
    ·rw[MU q]at hd';cases hd'
   have:=p2 j _ (MQ hj);rw[hd']at this;exact⟨_,MQ hj,Nk this⟩
  refine .cptr _ b' o vs (fun j d' hd'=>?_) (fun j d' hd'=>?_)
  ·obtain⟨d0,q1,_⟩:=back j d' hd';exact h1 j d0 q1
  ·obtain⟨d0,q1,rfl⟩:=back j d' hd';exact ih j d0 q1 (fun m hmm=>hm m (by simp only[lensV];exact sh q1 m hmm))
 |agg cs vs hl _ ih=>intro hm;obtain⟨q1,q2⟩:=many hl (by simpa[lensV]using hm) ih;exact .agg _ vs q1 q2
 |tup cs vs hl _ ih=>intro hm;obtain⟨q1,q2⟩:=many hl (by simpa[lensV]using hm) ih;exact .tup _ vs q1 q2
 |fn f cs vs hl _ ih=>intro hm;obtain⟨q1,q2⟩:=many hl (by simpa[lensV]using hm) ih;exact .fn f _ vs q1 q2
 |iface t a v _ ih=>intro hm;exact .iface t _ v (ih (by simpa[lensV]using hm))
 |undef v=>exact fun _=>.undef v
 |int k n h1 h2=>exact fun _=>.int k n h1 h2
 |bool b=>exact fun _=>.bool b
 |str s h=>exact fun _=>.str s h
 |lstNil τ o ht=>exact fun _=>.lstNil τ o ht
 |lstVoid τ a=>exact fun _=>.lstVoid τ a
 |lst τ xs o b' off' cap vals' h1 h2 h3 h4 h5 _=>exact fun _=>.lst τ xs o b' off' cap vals' h1 h2 h3 h4 h5
 |nils=>exact fun _=>.nils
 |nilp=>exact fun _=>.nilp
 |ptr i o b' p len he=>exact fun _=>.ptr i o b' p len he
 |ptNone n=>exact fun _=>.ptNone n
 |ptSome n x v hv _=>exact fun _=>.ptSome n x v hv
 |arr i n w b' len cap a he h1 h2 h3 h4=>exact fun _=>.arr i n w b' len cap a he h1 h2 h3 h4
 |aptr i n w o b' p len he=>exact fun _=>.aptr i n w o b' p len he
 |map i r he=>exact fun _=>.map i r he
 |bptr i b g he=>exact fun _=>.bptr i b g he
 |nilif=>exact fun _=>.nilif
 |nilm=>exact fun _=>.nilm
 |st n x v hv _=>exact fun _=>.st n x v hv
end
theorem lz{n:Nat}:∀{l:List Nat} {q:Prop},vQ n l q->(∀m∈l,m=n)/\q
 |[],q,h=>⟨fun _ hm=>absurd hm OG,h⟩
 |m::r,q,h=>by obtain⟨h1,h2⟩:=h;obtain⟨h3,h4⟩:=lz h2;exact⟨fun i hi=>(N9.1 hi).elim (fun e=>e ▸ h1) (h3 i),h4⟩
theorem Bq{F:Fr}{s:St}{a:Act}{Ω:Om}{k:Nat}{Q:St->Prop}(h:Holds F s.abs a Ω)(hf:AK k s Q):∃s' Ω',Ω'.w=Ω.w/\Holds F s'.abs a Ω'/\Q s':=by
 unfold AK at hf;split at hf
 ·rename_i τ n x hb;obtain⟨hlens,hq⟩:=lz hf;refine⟨⟨s.t.map fun y=>(y.1,finV k τ x y.2),(qo s.b k (.tail τ (n+1))).map fun y=>(y.1,Eh k τ x y.2)⟩,?_⟩;obtain⟨b,cap,e1,e2,e3,e4,⟨vs,ty,fz,e5,e6,e7⟩,e8,e9⟩:=h.slots k _ hb
  let Ω1:Om:=⟨Ω.e,Ω.w,fun b' o=>Ω.pub b' o∨(b'=b/\n *ab τ<=o/\o<n *ab τ+ab τ)⟩
  have hx1:Ext Ω Ω1:=⟨fun i c hc=>⟨c,hc,CLe.refl c⟩,fun _ _ p=>Or.inl p,fun _ _ _=>rfl⟩
  have htold:Told Ω1 k τ n x b cap (fun j=>(Ω.w.cell? ⟨b,n *ab τ+j,none⟩).getD undef):=by
   refine⟨e1,e2,e3,fun j c hc=>?_⟩;obtain⟨v,k1,k2⟩:=e9 j c hc
   have hj:j<ab τ:=by
    rw[<-aJ τ x];rcases MY j (cells τ x).length with q|q
    ·exact q
    ·rw[MU q]at hc;cases hc
   refine⟨Or.inr ⟨rfl,by omega,by omega⟩,?_,?_⟩
   ·show Ω.w.cell? _=_;rw[k1];rfl
   ·simp only[k1,NL];exact k2.ext hx1
  have hcell:∀o,n *ab τ<=o->o<n *ab τ+ab τ->∃v,Ω.w.cell? ⟨b,o,none⟩=some v:=by
   intro o h1 h2;have hj:o-n *ab τ<(cells τ x).length:=by rw[aJ];omega
   obtain⟨v,k1,_⟩:=e9 (o-n *ab τ) _ (MQ hj);exact⟨v,by rw[show n *ab τ+(o-n *ab τ)=o by omega]at k1;exact k1⟩
  refine⟨Ω1,rfl,⟨fun i=>?_,h.size,h.defers,fun id o ho=>?_,fun id hid=>?_,h.inj,fun b' o hp=>?_,h.keep,?_⟩,hq⟩
  ·simp only[St.abs];rw[nZ (finV k τ x) rfl s.t i];refine V.finV htold ((h.tmps i).ext hx1) (fun m hm=>?_);rcases lr s.t i with hu|hm'
   ·rw[hu]at hm;cases hm
   ·exact hlens m (List.mem_append_left _ (O8.2 ⟨_,hm',hm⟩))
  ·simp only[St.abs]at ho;rw[iw (Eh k τ x) _ id,ie]at ho;by_cases hid:k=id
   ·subst hid;rw[MT rfl]at ho;simp only[O6,Xs,Eh]at ho;subst ho;refine⟨some b,cap,e1,e2,e3,by simp,fun b2 hb2=>?_⟩;simp only[Xs]at hb2;subst hb2;refine⟨e4,vs,ty,fz,e5,e6,e7,fun o ho hp=>?_⟩;rw[NC,Pj]at ho;rcases hp with hp|⟨_,hp1,hp2⟩
    ·exact e8 o (by omega) hp
    ·omega
   ·rw[MS hid]at ho;simp only[N3]at ho;obtain⟨o0,ho0,rfl⟩:=ho;have hs:=h.slots id o0 ho0;have apart:∀c0,Ω.e id=some c0->∀b' o,occ c0 b' o->b'≠b:=by intro c0 hc0 b' o hoc hk;subst hk;exact hid (h.inj k id _ c0 b' o e1 hc0 rfl hoc)
    cases o0 with
    |box d=>
     obtain⟨b2,off2,g1,g2⟩:=hs;obtain⟨p1,p2⟩:=sg (k:=k) (τ:=τ) (x:=x) d;refine⟨b2,off2,by show Ω.e id=_;rw[g1,p1],fun j d' hd'=>?_⟩
     have hj:j<(ae d).length:=by
      rw[<-p1];rcases MY j (ae (finV k τ x d)).length with q|q
      ·exact q
      ·rw[MU q]at hd';cases hd'
     have hd2:=p2 j _ (MQ hj);rw[hd']at hd2;obtain⟨m1,m2,m3,v,m4,m5⟩:=g2 j _ (MQ hj);refine⟨m1,fun hp=>?_,m3,v,m4,?_⟩
     ·rcases hp with hp|hp
      ·exact m2 hp
      ·exact apart _ g1 b2 (off2+j) ⟨rfl,by omega,by omega⟩ hp.1
     ·rw[Nk hd2];refine V.finV htold (m5.ext hx1) (fun m hm=>hlens m (List.mem_append_right _ (O8.2 ⟨(id,.box d),bS _ _ _ ho0,?_⟩)));exact sh (MQ hj) m hm
    |tail σ m=>
     obtain⟨base,cap2,g1,g2,g3,g4,g5⟩:=hs;refine⟨base,cap2,g1,g2,g3,g4,fun b2 hb2=>?_⟩;obtain⟨m1,vs',ty',fz',m2,m3,m4,m5⟩:=g5 b2 hb2;refine⟨m1,vs',ty',fz',m2,m3,m4,fun o ho hp=>?_⟩;rcases hp with hp|hp
     ·exact m5 o ho hp
     ·exact apart _ g1 b2 o hb2 hp.1
    |map κ σ m=>obtain⟨r,g1,g2,es,clock,g3,g4⟩:=hs;exact⟨r,g1,g2,es,clock,g3,g4.ext hx1⟩
    |bld t u l=>
     obtain⟨b2,g,g1,g2,g3⟩:=hs;refine⟨b2,g,g1,fun b3 hb3 o=>⟨(g2 b3 hb3 o).1,fun hp=>?_⟩,g3⟩;rcases hp with hp|hp
     ·exact(g2 b3 hb3 o).2 hp
     ·exact apart _ g1 b3 o hb3 hp.1
    |tailp σ m y=>
     obtain⟨b2,cap2,g1,g2,g3,g4,g5,g6,g7⟩:=hs;refine⟨b2,cap2,g1,g2,g3,g4,g5,fun o ho hp=>?_,fun j c hc=>?_⟩
     ·rcases hp with hp|hp
      ·exact g6 o ho hp
      ·exact apart _ g1 b2 o rfl hp.1
     ·obtain⟨v,k1,k2⟩:=g7 j c hc;exact⟨v,k1,k2.ext hx1⟩
    |grow σ m ys=>
     obtain⟨base,cap2,g1,g2,g3,g4,g5⟩:=hs;refine⟨base,cap2,g1,g2,g3,g4,fun b2 hb2=>?_⟩;obtain⟨m1,m2,m3,m4⟩:=g5 b2 hb2;refine⟨m1,m2,fun o hp=>?_,fun j c hc=>?_⟩
     ·rcases hp with hp|hp
      ·exact m3 o hp
      ·exact apart _ g1 b2 o hb2 hp.1
     ·obtain⟨v,k1,k2⟩:=m4 j c hc;exact⟨v,k1,k2.ext hx1⟩
  ·simp only[St.abs]at hid;rw[iw (Eh k τ x) _ id,ie]at hid;by_cases hk:k=id
   ·subst hk;simp at hid
   ·rw[MS hk]at hid;exact h.dom id (by show aj s.b id=none;simpa using hid)
  ·rcases hp with hp|⟨rfl,hp1,hp2⟩
   ·exact h.pubok b' o hp
   ·exact hcell o hp1 hp2
  ·refine⟨h.frame.os,h.frame.tape,h.frame.output,h.frame.size,h.frame.block,h.frame.cell,h.frame.kind,fun b' o hp=>?_,fun b' o hp=>Or.inl (h.frame.old b' o hp),h.frame.pcell⟩;rcases hp with hp|⟨rfl,hp1,hp2⟩
   ·exact h.frame.pub b' o hp
   ·exact Or.inr (e4 o)
 ·exact⟨s,Ω,rfl,h,hf⟩
theorem si{F:Fr}{a:Act}{Q:St->Prop}:∀(l:List Nat) {s:St} {Ω:Om},Holds F s.abs a Ω->AM l s Q->∃s' Ω',Ω'.w=Ω.w/\Holds F s'.abs a Ω'/\Q s'
 |[],s,Ω,h,hf=>⟨s,Ω,rfl,h,hf⟩
 |k::r,s,Ω,h,hf=>by obtain⟨s1,Ω1,g1,g2,g3⟩:=Bq (Q:=fun s=>AM r s Q) h hf;obtain⟨s2,Ω2,k1,k2,k3⟩:=si r g2 g3;exact⟨s2,Ω2,k1.trans g1,k2,k3⟩
theorem sj{F:Fr}{a:Act}{Q:St->Prop}{s:St}{Ω:Om}(h:Holds F s.abs a Ω)(hf:Lc s Q):∃s' Ω',Ω'.w=Ω.w/\Holds F s'.abs a Ω'/\Q s':=si _ h hf
theorem EI{k:Nat}{s:St}{Q:St->Prop}(hf:AK k s Q):∃s',Q s':=by
 unfold AK at hf;split at hf
 ·exact⟨_,(lz hf).2⟩
 ·exact⟨s,hf⟩
theorem pa{Q:St->Prop}:∀(l:List Nat) {s:St},AM l s Q->∃s',Q s'
 |[],s,hf=>⟨s,hf⟩
 |k::r,s,hf=>by obtain⟨s1,h1⟩:=EI (Q:=fun s=>AM r s Q) hf;exact pa r h1
end Go.AL
end
noncomputable section
namespace Go.AL
theorem lA(i j k:Nat):dB i j k=if k=i then j else if k=j then i else k:=by
 unfold dB;by_cases h:k=i
 ·rw[MT h,h,Qp]
 ·have h':Nat.beq k i=false:=by
   cases hb:Nat.beq k i with|false=>rfl|true=>exact absurd (Ng hb) h
  rw[MS h,h'];by_cases g:k=j
  ·rw[MT g,g,Qp]
  ·have g':Nat.beq k j=false:=by
    cases hb:Nat.beq k j with|false=>rfl|true=>exact absurd (Ng hb) g
   rw[MS g,g']
theorem fb(i j k:Nat):dB i j (dB i j k)=k:=by
 rw[lA i j k];split
 ·rename_i h;rw[lA];split<;>simp_all
 ·rename_i h;split
  ·rename_i g;rw[lA];simp_all
  ·rename_i g;rw[lA,MS h,MS g]
variable [Tabs]
theorem ye(i j:Nat):∀(l:List (Nat×AV))(k:Nat),aM (Ei i j l) k=.undef∨Gw i j (aM l k)=some (aM (Ei i j l) k)
 |[],k=>.inl rfl
 |(m,a)::r,k=>by
  simp only[Ei,dz,cz];by_cases h:(m ==k)=true
  ·rw[MT h,MT h]
   cases hr:Gw i j a with|none=>exact .inl rfl|some a'=>exact .inr rfl
  ·rw[MS h,MS h];exact ye i j r k
inductive RenO(i j:Nat):SObj->SObj->Prop
 |box {c c':AV}:Gw i j c=some c'->RenO i j (.box c) (.box c')
 |same {o:SObj}:(∀c,o≠.box c)->RenO i j o o
theorem sk(i j:Nat):∀{l m:List (Nat×SObj)},rB i j l=some m->∀k,(∀o',aj m k=some o'->∃o,aj l (dB i j k)=some o/\RenO i j o o')/\(aj m k=none->aj l (dB i j k)=none)
 |[],m,h,k=>by cases h;exact⟨fun o' q=>(by cases q),fun _=>rfl⟩
 |(n,o)::r,m,h,k=>by
  have step:∀{o1:SObj} {r':List (Nat×SObj)},rB i j r=some r'->RenO i j o o1->m=(dB i j n,o1)::r'->
    (∀o',aj m k=some o'->∃o2,aj ((n,o)::r) (dB i j k)=some o2/\RenO i j o2 o')/\(aj m k=none->aj ((n,o)::r) (dB i j k)=none):=by
   rintro o1 r' hr ho rfl;obtain⟨h1,h2⟩:=sk i j hr k;simp only[aN,aG,NR];by_cases e:dB i j n=k
   ·have e':n=dB i j k:=by rw[<-e,fb]
    rw[MT e,MT e'];exact⟨fun o' q=>⟨o,rfl,(by cases q;exact ho)⟩,fun q=>(by cases q)⟩
   ·have e':¬n=dB i j k:=fun q=>e (by rw[q,fb]);rw[MS e,MS e'];exact⟨h1,h2⟩
  cases o with
  |box c=>
   simp only[rB]at h;split at h
   ·rename_i c' r' hc hr;exact step hr (.box hc) (Nk h).symm
   ·cases h
  |tail τ n'=>
   simp only[rB]at h;split at h
   ·rename_i r' hr;exact step hr (.same (fun c q=>by cases q)) (Nk h).symm
   ·cases h
  |grow τ n' xs'=>
   simp only[rB]at h;split at h
   ·rename_i r' hr;exact step hr (.same (fun c q=>by cases q)) (Nk h).symm
   ·cases h
  |map κ τ m'=>
   simp only[rB]at h;split at h
   ·rename_i r' hr;exact step hr (.same (fun c q=>by cases q)) (Nk h).symm
   ·cases h
  |bld t u l'=>
   simp only[rB]at h;split at h
   ·rename_i r' hr;exact step hr (.same (fun c q=>by cases q)) (Nk h).symm
   ·cases h
  |tailp τ n' x=>
   simp only[rB]at h;split at h
   ·rename_i r' hr;exact step hr (.same (fun c q=>by cases q)) (Nk h).symm
   ·cases h
theorem nk{F:Fr}{s s':St}{a:Act}{Ω:Om}{i j:Nat}(h:Holds F s.abs a Ω)(hr:Gx i j s=some s'):∃Ω',Ω'.w=Ω.w/\Holds F s'.abs a Ω':=by
 unfold Gx at hr;split at hr
 ·rename_i hl;simp only[MR,Nc]at hl;obtain⟨hi,hj⟩:=hl;split at hr
  ·rename_i b hb;cases hr
   have hn:Names (fun k o=>some (dB i j k,o)) (fun k=>some (dB i j k)) (fun k=>some (dB i j k)) Ω.e (fun k=>Ω.e (dB i j k)):=by
    refine⟨?_,?_,?_⟩
    ·intro k o k' o' q b p l he;cases q;exact⟨p,l,by simp only[fb];exact he,rfl⟩
    ·intro k k' q c he;cases q;simp only[fb];exact he
    ·intro k k' q c he;cases q;simp only[fb];exact he
   refine⟨⟨fun k=>Ω.e (dB i j k),Ω.w,Ω.pub⟩,rfl,fun k=>?_,h.size,h.defers,fun id o ho=>?_,fun id hid=>?_,fun x y cx cy b o hx hy hbx hby=>?_,h.pubok,fun id c hc=>?_,?_⟩
   ·rcases ye i j s.t k with e|e
    ·have e:(St.abs ⟨Ei i j s.t,b⟩).T k=.undef:=e;rw[e];exact .undef _
    ·exact V.mapV hn (h.tmps k) e
   ·obtain⟨o0,h1,h2⟩:=(sk i j hb id).1 o ho;have hs:=h.slots (dB i j id) o0 h1
    cases h2 with
    |@box c c' hc=>
     obtain⟨b',off,g1,g2⟩:=hs;obtain⟨hlen,hat⟩:=iu hc;refine⟨b',off,by show Ω.e (dB i j id)=_;rw[g1,hlen],fun k d' hd=>?_⟩;have hk:k<(ae c).length:=by rw[hlen];exact(Nw.1 hd).1
     obtain⟨d,hd0⟩:∃d,(ae c)[k]?=some d:=⟨_,MQ hk⟩;obtain⟨k1,k2,k3,v,k4,k5⟩:=g2 k d hd0;exact⟨k1,k2,k3,v,k4,V.mapV hn k5 (hat k d d' hd0 hd)⟩
    |same hne=>
     cases o with
     |box c=>exact absurd rfl (hne c)
     |tail τ n=>exact hs
     |map κ τ m=>obtain⟨r,g1,g2,es,clock,g3,g4⟩:=hs;exact⟨r,g1,g2,es,clock,g3,g4.data⟩
     |bld t u l=>exact hs
     |grow τ n xs=>obtain⟨base,cap,g1,g2,g3,g4,g5⟩:=hs;refine⟨base,cap,g1,g2,g3,g4,fun b hb=>?_⟩;obtain⟨q1,q2,q3,q4⟩:=g5 b hb;refine⟨q1,q2,q3,fun j c hj=>?_⟩;obtain⟨v,v1,v2⟩:=q4 j c hj;exact⟨v,v1,v2.flat hj⟩
     |tailp τ n x=>obtain⟨b',cap,g1,g2,g3,g4,g5,g6,g7⟩:=hs;refine⟨b',cap,g1,g2,g3,g4,g5,g6,fun k c hc=>?_⟩;obtain⟨v,k1,k2⟩:=g7 k c hc;exact⟨v,k1,V.mapV hn k2 (gd τ x c (Nf hc))⟩
   ·exact h.dom _ ((sk i j hb id).2 hid)
   ·have:=h.inj _ _ cx cy b o hx hy hbx hby;rw[<-fb i j x,this,fb]
   ·have hd:=F.dom0 id c hc
    have e:dB i j id=id:=by
     rw[lA];split
     ·rename_i e;rw[e,hi]at hd;cases hd
     ·split
      ·rename_i e;rw[e,hj]at hd;cases hd
      ·rfl
    obtain⟨c',g1,g2⟩:=h.keep id c hc;exact⟨c',by simp only[e];exact g1,g2⟩
   ·exact⟨h.frame.os,h.frame.tape,h.frame.output,h.frame.size,h.frame.block,h.frame.cell,h.frame.kind,h.frame.pub,h.frame.old,h.frame.pcell⟩
  ·cases hr
 ·cases hr
theorem nq{F:Fr}{a:Act}:∀(l:List Nat) {s s':St} {Ω:Om},Holds F s.abs a Ω->Gy l s=some s'->∃Ω',Ω'.w=Ω.w/\Holds F s'.abs a Ω'
 |[],s,s',Ω,h,hr=>by cases hr;exact⟨Ω,rfl,h⟩
 |[_],s,s',Ω,h,hr=>by cases hr;exact⟨Ω,rfl,h⟩
 |i::j::r,s,s',Ω,h,hr=>by
  unfold Gy at hr;split at hr
  ·rename_i s1 h1;obtain⟨Ω1,e1,g1⟩:=nk h h1;obtain⟨Ω2,e2,g2⟩:=nq r g1 hr;exact⟨Ω2,e2.trans e1,g2⟩
  ·cases hr
theorem nr{F:Fr}{a:Act}:∀(l:List Nat) {s s':St} {Ω:Om},Holds F s.abs a Ω->Gz l s=some s'->∃Ω',Ω'.w=Ω.w/\Holds F s'.abs a Ω'
 |[],s,s',Ω,h,hr=>by cases hr;exact⟨Ω,rfl,h⟩
 |[_],s,s',Ω,h,hr=>by cases hr;exact⟨Ω,rfl,h⟩
 |i::j::r,s,s',Ω,h,hr=>by
  unfold Gz at hr;split at hr
  ·split at hr
   ·rename_i s1 h1;obtain⟨Ω1,e1,g1⟩:=nk h h1;obtain⟨Ω2,e2,g2⟩:=nr r g1 hr;exact⟨Ω2,e2.trans e1,g2⟩
   ·cases hr
  ·exact nr r h hr
end Go.AL
end
noncomputable section
namespace Go.AL
variable [Tabs]
theorem cU{s n:Nat}:∀{l m:List (Nat×Nat)},dw s n (l++m)->dw s n l/\dw s n m
 |[],m,h=>⟨trivial,h⟩
 |(a,b)::r,m,h=>by obtain⟨h1,h2⟩:=h;obtain⟨h3,h4⟩:=cU h2;exact⟨⟨h1,h3⟩,h4⟩
section
variable {k:Nat} {τ:Ty} {xs:List (den τ)}
theorem pb:∀(l:List AV)(j:Nat),(frzVs k τ xs l)[j]?=(l[j]?).map (frzV k τ xs)
 |[],j=>by simp[frzVs]
 |a::r,0=>by simp[frzVs]
 |a::r,j+1=>by simp only[frzVs,P7];exact pb r j
theorem ka:∀l:List AV,(frzVs k τ xs l).length=l.length
 |[]=>rfl
 |a::r=>by simp[frzVs,ka r]
theorem sl(σ:Ty)(x:den σ):∀d∈cells σ x,frzV k τ xs d=d:=by
 cases σ with
 |st n=>cases n<;>simp[cells,cC,fc,dq,dJ,dK,ea,bW,dL,gu,fe,ff,fg,gw,gx,fy,fh,iO,dM,gz,fA,gA,gB,fj,cQ,fk,dN,gC,gD,frzV]
 |_=>simp[cells,frzV]
theorem EJ(σ:Ty)(ys:List (den σ)):∀d∈flat σ ys,frzV k τ xs d=d:=by intro d hd;simp only[flat,O8]at hd;obtain⟨x,_,hx⟩:=hd;exact sl σ x d hx
theorem so(d:AV):(ae (frzV k τ xs d)).length=(ae d).length/\∀(j:Nat)(a:AV),(ae d)[j]?=some a->(ae (frzV k τ xs d))[j]?=some (frzV k τ xs a):=by
 have one:∀{d:AV},ae d=[d]->ae (frzV k τ xs d)=[frzV k τ xs d]->(ae (frzV k τ xs d)).length=(ae d).length/\
   ∀(j:Nat)(a:AV),(ae d)[j]?=some a->(ae (frzV k τ xs d))[j]?=some (frzV k τ xs a):=by
  intro d h1 h2;rw[h1,h2];refine⟨rfl,fun j a ha=>?_⟩
  cases j with|zero=>simp at ha;subst ha;rfl|succ j=>simp at ha
 cases d with|agg cs=>exact⟨ka cs,fun j a ha=>by show(frzVs k τ xs cs)[j]?=_;rw[pb];have:cs[j]?=some a:=ha;rw[this];rfl⟩|st n x=>exact⟨rfl,fun j a ha=>by show(cells (.st n) x)[j]?=_;rw[sl (.st n) x a (Nf ha)];exact ha⟩|row σ ys=>exact⟨rfl,fun j a ha=>by show(flat σ ys)[j]?=_;rw[EJ σ ys a (Nf ha)];exact ha⟩|glst s n j=>refine one rfl ?_;simp only[frzV];split<;>rfl|_=>exact one rfl rfl
theorem pc{s n:Nat}:∀{cs:List AV} {j:Nat} {d:AV},dw s n (stpVs k cs)->cs[j]?=some d->dw s n (stpV k d)
 |a::r,0,d,h,hd=>by simp at hd;subst hd;unfold stpVs at h;exact(cU h).1
 |a::r,j+1,d,h,hd=>by unfold stpVs at h;exact pc (cU h).2 (by simpa using hd)
 |[],j,d,h,hd=>by simp at hd
theorem sq(σ:Ty)(x:den σ):∀d∈cells σ x,stpV k d=[]:=by
 cases σ with
 |st n=>cases n<;>simp[cells,cC,fc,dq,dJ,dK,ea,bW,dL,gu,fe,ff,fg,gw,gx,fy,fh,iO,dM,gz,fA,gA,gB,fj,cQ,fk,dN,gC,gD,stpV]
 |_=>simp[cells,stpV]
theorem su{s n:Nat}{c d:AV}{j:Nat}(h:dw s n (stpV k c))(hd:(ae c)[j]?=some d):dw s n (stpV k d):=by
 have one:ae c=[c]->dw s n (stpV k d):=fun e=>by
  rw[e]at hd
  cases j with|zero=>simp at hd;subst hd;exact h|succ j=>simp at hd
 cases c with
 |agg cs=>unfold stpV at h;exact pc h hd
 |st m x=>rw[sq (.st m) x d (Nf hd)];trivial
 |row σ ys=>have hm:d∈flat σ ys:=Nf hd;simp only[flat,O8]at hm;obtain⟨x,_,hx⟩:=hm;rw[sq σ x d hx];trivial
 |_=>exact one rfl
structure Froz(Ω:Om)(k s:Nat)(τ:Ty)(xs:List (den τ))(base:Option Nat)(cap:Nat)(vals:Nat->Value):Prop where
 e:Ω.e k=some (.tail s base cap)
 le:xs.length<=cap
 mx:cap<=aY
 z:base=none->cap=0
 at_:∀b,base=some b->∀(j:Nat)(c:AV),(flat τ xs)[j]?=some c->Ω.pub b j/\Ω.w.cell? ⟨b,j,none⟩=some (vals j)/\V Ω c (vals j)
theorem V.frzV{Ω:Om}{s cap:Nat}{base:Option Nat}{vals:Nat->Value}(hf:Froz Ω k s τ xs base cap vals){a:AV}{v:Value}(h:V Ω a v):dw s xs.length (stpV k a)->V Ω (AL.frzV k τ xs a) v:=by
 have many:∀{cs:List AV} {vs:List Value},dw s xs.length (stpVs k cs)->cs.length=vs.length->(∀(j:Nat)(d:AV)(v:Value),cs[j]?=some d->vs[j]?=some v->dw s xs.length (stpV k d)->V Ω (AL.frzV k τ xs d) v)->
   (frzVs k τ xs cs).length=vs.length/\∀(j:Nat)(d:AV)(v:Value),(frzVs k τ xs cs)[j]?=some d->vs[j]?=some v->V Ω d v:=by
  intro cs vs hst hl ih;refine⟨by rw[ka,hl],fun j d v hd hv=>?_⟩;rw[pb]at hd;simp only[N3]at hd;obtain⟨d0,hd0,rfl⟩:=hd;exact ih j d0 v hd0 hv (pc hst hd0)
 induction h with
 |glst s1 n j cap0 a0 h1 h2 h3 h4=>
  intro hs;simp only[AL.frzV]
  cases hj:Nat.beq j k with
  |false=>exact .glst s1 n j cap0 a0 h1 h2 h3 h4
  |true=>
   have ej:=Ng hj;subst ej;unfold stpV at hs;rw[hj]at hs;obtain⟨⟨rfl,rfl⟩,_⟩:=hs;obtain⟨m,b2,c2,q1,q2,q3⟩:=h4;rw[hf.e]at q1;simp only[Xs,CObj.tail.injEq]at q1;obtain⟨rfl,rfl,rfl⟩:=q1;obtain⟨e1,e2⟩:=q3 rfl;subst e1 e2
   cases base with
   |none=>have hc:=hf.z rfl;have hx:xs=[]:=N5 (by have:=hf.le;omega);subst hc hx;exact .lstNil τ none (fun id hid=>by cases hid)
   |some b=>
    have fl:∀{i:Nat} {x:den τ} {j:Nat} {c:AV},xs[i]?=some x->(cells τ x)[j]?=some c->(AL.flat τ xs)[i *ab τ+j]?=some c:=fun hx hc=>fI τ xs _ _ _ _ hx hc
    exact V.lst (Ω:=Ω) τ xs none b 0 _ (fun i j=>vals (i *ab τ+j)) hf.le hf.mx (fun id hid=>by cases hid)
     (fun i x hx j c' hc=>by have:=hf.at_ b rfl _ c' (fl hx hc);rw[NY];exact⟨this.1,this.2.1⟩) (fun i x hx j c' hc=>(hf.at_ b rfl _ c' (fl hx hc)).2.2)
 |cptr d b' o vs h1 h2 ih=>
  intro hs;obtain⟨p1,p2⟩:=so (k:=k) (xs:=xs) d
  have back:∀(j:Nat)(d':AV),(ae (AL.frzV k τ xs d))[j]?=some d'->∃d0,(ae d)[j]?=some d0/\d'=AL.frzV k τ xs d0:=by
   intro j d' hd'
   have hj:j<(ae d).length:=by
    rw[<-p1];rcases MY j (ae (AL.frzV k τ xs d)).length with q|q
    ·exact q
    ·rw[MU q]at hd';cases hd'
   have:=p2 j _ (MQ hj);rw[hd']at this;exact⟨_,MQ hj,Nk this⟩
  have hs':dw s xs.length (stpV k d):=by unfold stpV at hs;exact hs
  refine .cptr _ b' o vs (fun j d' hd'=>?_) (fun j d' hd'=>?_)
  ·obtain⟨d0,q1,_⟩:=back j d' hd';exact h1 j d0 q1
  ·obtain⟨d0,q1,rfl⟩:=back j d' hd';exact ih j d0 q1 (su hs' q1)
 |agg cs vs hl _ ih=>intro hs;unfold stpV at hs;obtain⟨q1,q2⟩:=many hs hl ih;exact .agg _ vs q1 q2
 |tup cs vs hl _ ih=>intro hs;unfold stpV at hs;obtain⟨q1,q2⟩:=many hs hl ih;exact .tup _ vs q1 q2
 |fn f cs vs hl _ ih=>intro hs;unfold stpV at hs;obtain⟨q1,q2⟩:=many hs hl ih;exact .fn f _ vs q1 q2
 |iface t a v _ ih=>intro hs;unfold stpV at hs;exact .iface t _ v (ih hs)
 |undef v=>intro _;exact .undef v
 |int k n h1 h2=>intro _;exact .int k n h1 h2
 |bool b=>intro _;exact .bool b
 |str s h=>intro _;exact .str s h
 |lstNil τ o ht=>intro _;exact .lstNil τ o ht
 |lstVoid τ a=>intro _;exact .lstVoid τ a
 |lst τ xs o b' off' cap vals' h1 h2 h3 h4 h5 _=>intro _;exact .lst τ xs o b' off' cap vals' h1 h2 h3 h4 h5
 |nils=>intro _;exact .nils
 |nilp=>intro _;exact .nilp
 |ptNone n=>intro _;exact .ptNone n
 |ptSome n x v hv _=>intro _;exact .ptSome n x v hv
 |ptr i o b' p len he=>intro _;exact .ptr i o b' p len he
 |arr i n w b' len cap a he h1 h2 h3 h4=>intro _;exact .arr i n w b' len cap a he h1 h2 h3 h4
 |aptr i n w o b' p len he=>intro _;exact .aptr i n w o b' p len he
 |map i r he=>intro _;exact .map i r he
 |bptr i b g he=>intro _;exact .bptr i b g he
 |nilif=>intro _;exact .nilif
 |nilm=>intro _;exact .nilm
 |lstp τ xs k b' off' cap vals' h1 h2 h3 h4 h5 _=>intro _;exact .lstp τ xs k b' off' cap vals' h1 h2 h3 h4 h5
 |tptr τ n k p hp=>intro _;exact .tptr τ n k p hp
 |gptr k s i w off b h1=>intro _;exact .gptr k s i w off b h1
 |gsuf k s i w m b c h1=>intro _;exact .gsuf k s i w m b c h1
 |st n x v hv _=>intro _;exact .st n x v hv
end
theorem yf(k:Nat)(τ:Ty)(xs:List (den τ))(ts:List Nat):∀(l:List (Nat×AV))(i:Nat),
  aM (vP k τ xs ts l) i=.undef∨(aM (vP k τ xs ts l) i=aM l i/\(∀j∈ids (aM l i),j≠k))∨(aM (vP k τ xs ts l) i=frzV k τ xs (aM l i)/\∀s n,dw s n (Gt k ts l)->dw s n (stpV k (aM l i)))
 |[],i=>.inl rfl
 |(m,a)::r,i=>by
  simp only[vP,cz];by_cases h:(m ==i)=true
  ·rw[MT h,MT h]
   cases hd:ru (ids a) [k]with
   |true=>right;left;refine⟨rfl,fun j hj=>?_⟩;have:=cM hd j hj;simpa using this
   |false=>
    cases ht:ts.contains m with|false=>exact .inl rfl|true=>right;right;refine⟨rfl,fun s n hs=>?_⟩;simp only[Gt,ht]at hs;exact(cU hs).1
  ·rw[MS h,MS h];rcases yf k τ xs ts r i with q|q|⟨q1,q2⟩
   ·exact .inl q
   ·exact .inr (.inl q)
   ·exact .inr (.inr ⟨q1,fun s n hs=>q2 s n (by simp only[Gt]at hs;exact(cU hs).2)⟩)
theorem Br{F:Fr}{s s':St}{q:Prop}{a:Act}{Ω:Om}{k:Nat}{ts:List Nat}(h:Holds F s.abs a Ω)(hp:Lb k ts s=some (q,s'))(hq:q):∃Ω',Ω'.w=Ω.w/\Holds F s'.abs a Ω':=by
 unfold Lb at hp;split at hp
 ·rename_i τ s0 xs hb;simp only at hp;split at hp
  ·rename_i hck;simp only[MR,Nc]at hck;obtain⟨hnn,hnl⟩:=hck;simp only[Xs,Pe]at hp;obtain⟨rfl,rfl⟩:=hp;obtain⟨qT,qB⟩:=cU hq;simp only[cn,MR,N6]at hnn;obtain⟨base,cap,e1,e2,e3,e4,e5⟩:=h.slots k _ hb
   let Ω1:Om:=⟨Ω.e,Ω.w,fun b' o=>Ω.pub b' o∨(base=some b'/\o<(flat τ xs).length)⟩
   have hx1:Ext Ω Ω1:=⟨fun i c hc=>⟨c,hc,CLe.refl c⟩,fun _ _ p=>Or.inl p,fun _ _ _=>rfl⟩
   have hfast:Froz Ω1 k s0 τ xs base cap (fun j=>match base with|some b=>(Ω.w.cell? ⟨b,j,none⟩).getD undef|none=>undef):=by
    refine⟨e1,e2,e3,e4,fun b hbb j c' hc=>?_⟩;subst hbb;obtain⟨k1,k2,k3,k4⟩:=e5 b rfl;obtain⟨v,v1,v2⟩:=k4 j c' hc
    have hj:j<(flat τ xs).length:=by
     rcases MY j (flat τ xs).length with g|g
     ·exact g
     ·rw[MU g]at hc;cases hc
    refine⟨Or.inr ⟨rfl,hj⟩,?_,?_⟩
    ·show Ω.w.cell? _=_;simp only[v1];rfl
    ·simp only[v1,NL];exact v2.ext hx1
   have hag:∀{x:AV} {v:Value},V Ω1 x v->(∀i∈ids x,i≠k)->V ⟨fun i=>if i=k then none else Ω.e i,Ω1.w,Ω1.pub⟩ x v:=
    fun hv hi=>V.agree hv (fun i him=>by simp[hi i him,Ω1])
   have apart:∀id' c0,id'≠k->Ω.e id'=some c0->∀b' o,occ c0 b' o->¬(base=some b'/\o<(flat τ xs).length):=by intro id' c0 hid hc0 b' o hoc hk;exact hid (h.inj id' k c0 _ b' o hc0 e1 hoc (by simpa[occ]using hk.1))
   refine⟨⟨fun i=>if i=k then none else Ω.e i,Ω.w,Ω1.pub⟩,rfl,⟨fun i=>?_,h.size,h.defers,fun id' o ho=>?_,fun id' hid=>?_,fun i j ci cj b' o hi hj=>?_,fun b' o hp=>?_,fun i x hx=>?_,?_⟩⟩
   ·show V _ (aM (vP k τ xs ts s.t) i) _
    have hnames:∀j∈ids (aM (vP k τ xs ts s.t) i),j≠k:=by
     intro j hj;rcases lr (vP k τ xs ts s.t) i with hu|hm
     ·rw[hu]at hj;simp[ids]at hj
     ·have:=cM (hnn.1 _ hm) j hj;simpa using this
    rcases yf k τ xs ts s.t i with g|⟨g,g2⟩|⟨g,g2⟩
    ·rw[g];exact .undef _
    ·rw[g];exact hag ((h.tmps i).ext hx1) g2
    ·rw[g]at hnames⊢;exact hag (V.frzV hfast ((h.tmps i).ext hx1) (g2 _ _ qT)) hnames
   ·simp only[St.abs]at ho;have e:=iw (Gs k τ xs) (s.b.filter fun x=>!(x.1 ==k)) id';rw[e]at ho;have e':=dV s.b (fun i=>!(i ==k)) id';rw[e']at ho;by_cases hid:id'=k
    ·subst hid;simp at ho
    ·rw[MT (by simp[hid])]at ho;simp only[N3]at ho;obtain⟨o0,ho0,rfl⟩:=ho;have hs:=h.slots id' o0 ho0;have hmm:(id',o0)∈s.b.filter fun x=>!(x.1 ==k):=NN.2 ⟨bS _ _ _ ho0,by simp[hid]⟩
     cases o0 with
     |box d=>
      obtain⟨b2,off2,g1,g2⟩:=hs;obtain⟨p1,p2⟩:=so (k:=k) (xs:=xs) d
      have hst:dw s0 xs.length (stpV k d):=by
       have:∀{l:List (Nat×SObj)},(id',SObj.box d)∈l->dw s0 xs.length (l.flatMap fun x=>stpO k x.2)->dw s0 xs.length (stpV k d):=by
        intro l
        induction l with
        |nil=>intro hm;cases hm
        |cons y r ih=>
         intro hm hq;rw[OU]at hq;obtain⟨q1,q2⟩:=cU hq;rcases N9.1 hm with rfl|hm
         ·exact q1
         ·exact ih hm q2
       exact this hmm qB
      refine⟨b2,off2,by simp only[MS hid];rw[g1,p1],fun j d' hd'=>?_⟩
      have hj:j<(ae d).length:=by
       rw[<-p1];rcases MY j (ae (frzV k τ xs d)).length with g|g
       ·exact g
       ·rw[MU g]at hd';cases hd'
      have hd2:=p2 j _ (MQ hj);rw[hd']at hd2;obtain⟨m1,m2,m3,v,m4,m5⟩:=g2 j _ (MQ hj);refine⟨m1,fun hp=>?_,m3,v,m4,?_⟩
      ·rcases hp with hp|hp
       ·exact m2 hp
       ·exact apart id' _ hid g1 b2 (off2+j) ⟨rfl,by omega,by omega⟩ hp
      ·rw[Nk hd2];refine hag (V.frzV hfast (m5.ext hx1) (su hst (MQ hj))) (fun i hi=>?_)
       have hmem:(id',Gs k τ xs (.box d))∈((s.b.filter fun x=>!(x.1 ==k)).map fun x=>(x.1,Gs k τ xs x.2)):=
        Nr.2 ⟨(id',.box d),hmm,rfl⟩
       have:=cM (hnn.2 _ hmem) i (mf (c:=frzV k τ xs d) (by rw[<-Nk hd2];exact hd') i hi);simpa using this
     |tail σ n=>
      obtain⟨base2,cap2,g1,g2,g3,g4,g5⟩:=hs;refine⟨base2,cap2,by simp only[MS hid];exact g1,g2,g3,g4,fun b2 hb2=>?_⟩;obtain⟨m1,vs,ty,fz,m2,m3,m4,m5⟩:=g5 b2 hb2;refine⟨m1,vs,ty,fz,m2,m3,m4,fun o ho hp=>?_⟩;rcases hp with hp|hp
      ·exact m5 o ho hp
      ·exact apart id' _ hid g1 b2 o hb2 hp
     |map κ σ m=>obtain⟨r,g1,g2,es,clock,g3,g4⟩:=hs;exact⟨r,by simp only[MS hid];exact g1,g2,es,clock,g3,(g4.ext hx1).data⟩
     |bld t u l=>
      obtain⟨b2,g,g1,g2,g3⟩:=hs;refine⟨b2,g,by simp only[MS hid];exact g1,fun b3 hb3 o=>⟨(g2 b3 hb3 o).1,fun hp=>?_⟩,g3⟩;rcases hp with hp|hp
      ·exact(g2 b3 hb3 o).2 hp
      ·exact apart id' _ hid g1 b3 o hb3 hp
     |tailp σ n x=>
      obtain⟨b2,cap2,g1,g2,g3,g4,g5,g6,g7⟩:=hs;refine⟨b2,cap2,by simp only[MS hid];exact g1,g2,g3,g4,g5,fun o ho hp=>?_,fun j c' hc=>?_⟩
      ·rcases hp with hp|hp
       ·exact g6 o ho hp
       ·exact apart id' _ hid g1 b2 o rfl hp
      ·obtain⟨v,k1,k2⟩:=g7 j c' hc;refine⟨v,k1,hag (k2.ext hx1) (fun i hi=>?_)⟩;have:=dC hc i hi;rw[fq]at this;cases this
     |grow σ n ys=>
      obtain⟨base2,cap2,g1,g2,g3,g4,g5⟩:=hs;refine⟨base2,cap2,by simp only[MS hid];exact g1,g2,g3,g4,fun b2 hb2=>?_⟩;obtain⟨m1,m2,m3,m4⟩:=g5 b2 hb2;refine⟨m1,m2,fun o hp=>?_,fun j c' hc=>?_⟩
      ·rcases hp with hp|hp
       ·exact m3 o hp
       ·exact apart id' _ hid g1 b2 o hb2 hp
      ·obtain⟨v,k1,k2⟩:=m4 j c' hc;exact⟨v,k1,(k2.ext hx1).flat hc⟩
   ·simp only[St.abs]at hid;by_cases hii:id'=k
    ·simp[hii]
    ·have e:=iw (Gs k τ xs) (s.b.filter fun x=>!(x.1 ==k)) id';rw[e]at hid;have e':=dV s.b (fun i=>!(i ==k)) id';rw[e',MT (by simp[hii])]at hid;simp only[MS hii];exact h.dom id' (by show aj s.b id'=none;simpa using hid)
   ·intro h1 h2;simp only at hi hj;split at hi
    ·cases hi
    ·split at hj
     ·cases hj
     ·exact h.inj i j ci cj b' o hi hj h1 h2
   ·rcases hp with hp|⟨hp1,hp2⟩
    ·exact h.pubok b' o hp
    ·obtain⟨_,_,_,k4⟩:=e5 b' hp1;obtain⟨v,hv,_⟩:=k4 o _ (MQ hp2);exact⟨v,hv⟩
   ·have hl:=F.dom0 i x hx;have hne:i≠k:=fun e=>by subst e;rw[hnl]at hl;cases hl
    obtain⟨x',q1,q2⟩:=h.keep i x hx;exact⟨x',by simp only[MS hne];exact q1,q2⟩
   ·refine⟨h.frame.os,h.frame.tape,h.frame.output,h.frame.size,h.frame.block,h.frame.cell,h.frame.kind,fun b' o hp=>?_,fun b' o hp=>Or.inl (h.frame.old b' o hp),h.frame.pcell⟩;rcases hp with hp|⟨hp1,hp2⟩
    ·exact h.frame.pub b' o hp
    ·exact Or.inr ((e5 b' hp1).1 o)
  ·cases hp
 ·cases hp
end Go.AL
end
noncomputable section
namespace Go.AL
variable [Tabs]
def Bt:SX->Exit
 |.normal=>.normal
 |.exit id=>.exit id
 |.ret=>.ret
 |.pan _=>.outgrown
def Ends(Ω:Om):SX->Exit->Prop
 |.pan pv,e=>∃v,e=.panic [{v,recovered:=false}]/\V Ω pv v
 |x,e=>Bt x=e
def QL(F:Fr)(Q:SX->St->Prop):Exit->Act->World->Prop:=fun e a w=>∃x s Ω,Ends Ω x e/\Ω.w=w/\Holds F s.abs a Ω/\Q x s
mutual
theorem forceV_eq:∀(a:AV)(k:AV->Prop),forceV a k=k a
 |.undef,k=>rfl
 |.int κ n,k=>rfl
 |.bool b,k=>rfl
 |.str s,k=>rfl
 |.lst τ xs none,k=>rfl
 |.lst τ xs (some i),k=>rfl
 |.nils,k=>rfl
 |.ptr i o,k=>rfl
 |.cptr c,k=>by simp only[forceV];rw[forceV_eq c]
 |.st n x,k=>rfl
 |.nilp,k=>rfl
 |.row τ xs,k=>rfl
 |.arr i n w,k=>rfl
 |.aptr i n w o,k=>rfl
 |.map i,k=>rfl
 |.bptr i,k=>rfl
 |.lstp τ xs i,k=>rfl
 |.glst s n i,k=>rfl
 |.gptr i s n w o,k=>rfl
 |.gsuf i s n w m,k=>rfl
 |.tptr τ n i,k=>rfl
 |.iface t a,k=>by simp only[forceV];rw[forceV_eq a]
 |.nilif,k=>rfl
 |.nilm,k=>rfl
 |.pt n x,k=>rfl
 |.agg cs,k=>by simp only[forceV];rw[forceL_eq cs]
 |.tup cs,k=>by simp only[forceV];rw[forceL_eq cs]
 |.fn f cs,k=>by simp only[forceV];rw[forceL_eq cs]
theorem forceL_eq:∀(l:List AV)(k:List AV->Prop),forceL l k=k l
 |[],k=>rfl
 |a::r,k=>by simp only[forceL];rw[forceV_eq a,forceL_eq r]
end
theorem uV:∀(l:List (Nat×AV))(k:List (Nat×AV)->Prop),vS l k=k l
 |[],k=>rfl
 |(i,a)::r,k=>by simp only[vS];rw[forceV_eq a,uV r]
theorem gf:∀(l:List (Nat×SObj))(k:List (Nat×SObj)->Prop),fH l k=k l
 |[],k=>rfl
 |(i,.box c)::r,k=>by simp only[fH];rw[forceV_eq c,gf r]
 |(i,.tail τ n)::r,k=>by simp only[fH];rw[gf r]
 |(i,.map κ τ m)::r,k=>by simp only[fH];rw[gf r]
 |(i,.bld t u l)::r,k=>by simp only[fH];rw[gf r]
 |(i,.tailp τ n x)::r,k=>by simp only[fH];rw[gf r]
 |(i,.grow τ s xs)::r,k=>by simp only[fH];rw[gf r]
theorem cE(s:St)(k:St->Prop):eP s k=k s:=by unfold eP;rw[uV,gf]
theorem iy:∀(l:List Nat)(k:List Nat->Prop),iR l k=k l
 |[],k=>rfl
 |0::r,k=>by simp only[iR];rw[iy r]
 |(n+1)::r,k=>by simp only[iR];rw[iy r]
theorem Holds.trim{F:Fr}{s:St}{a:Act}{Ω:Om}(h:Holds F s.abs a Ω)(keep:List Nat):Holds F (trim keep s).abs a Ω:=by
 refine⟨fun i=>?_,h.size,h.defers,h.slots,h.dom,h.inj,h.pubok,h.keep,h.frame⟩;have:=iW s.t (fun i=>keep.contains i) i;simp only[AL.trim,St.abs];rw[this];split
 ·exact h.tmps i
 ·exact .undef _
section
variable {P:Program} {C:Cfg} {F:Fr}
theorem mJ(hm:P.follows .mixedOrders=true)(hT:aP P C.tbl)(hS:bz P C.spec)(keep:List Nat){id:Nat}{ops:Array Oper}{draw:Bool}{s1:St}{Q:SX->St->Prop}{a:Act}{Ω1:Om}
 (hdst:∀(o:Oper),o∈ops.toList->∀d,o.dst=some d->d<F.n)(h:qE C keep ops draw s1 Q)(hh1:Holds F s1.abs a Ω1):(Code.region id ops draw).wp P (QL F Q) a Ω1.w:=by
 unfold qE at h
 have key:∀s' fs,(eP (trim keep s') fun s'=>if draw=true then(if eM ops.toList fs=true then Q .normal s' else False)else Q .normal s')->
   (draw=true->eM ops.toList fs=true)/\Q .normal (trim keep s'):=by
  intro s' fs hk;simp only[cE]at hk
  cases draw with
  |false=>exact⟨fun h=>by simp at h,by simpa using hk⟩
  |true=>
   simp only[NU]at hk;rcases OZ (eM ops.toList fs=true)with k|k
   ·rw[MT k]at hk;exact⟨fun _=>k,hk⟩
   ·rw[MS k]at hk;exact hk.elim
 refine o9 hm hT hS hdst h (fun hdr s' fs hk=>let ⟨s2,h2⟩:=pa _ hk;(key s2 fs h2).1 hdr) hh1 (fun s' fs a' Ω' hk h'=>
   let ⟨s2,Ω2,g1,g2,g3⟩:=sj h' hk
   ⟨.normal,trim keep s2,Ω2,rfl,g1,g2.trim keep,(key s2 fs g3).2⟩)
  (fun pv s' a' Ω' v hk h' hv=>?_)
 simp only[cE,forceV_eq]at hk;exact⟨.pan pv,s',Ω',⟨v,rfl,hv⟩,rfl,h',hk⟩
theorem Bu(hT:aP P C.tbl){keep:List Nat}{id:Nat}{ops:Array Oper}{draw:Bool}{s:St}{p:Prop}{f:Bool->St}{a:Act}{Ω:Om}(hn:Jv C keep ops draw s=some (p,f))
 (hdst:∀(o:Oper),o∈ops.toList->∀d,o.dst=some d->d<F.n)(hh:Holds F s.abs a Ω):(Code.region id ops draw).wp P (QL F fun x t=>x=.normal/\∃b,(b=true->p)/\t=f b) a Ω.w:=by
 unfold Jv at hn;split at hn
 ·rename_i m src ty1 ps1 af1 c t m' t2 ty2 ps2 af2 hops;split at hn
  ·rename_i e sz by' z ty τ xs o hc ht hsrc
   cases hn;simp only[MR,Nc]at hc;obtain⟨hm,hcm⟩:=hc;obtain rfl:=Ng hm;have hne:¬m'=c:=fun e=>by rw[e,Qp]at hcm;cases hcm
   have d1:m'<F.n:=hdst _ (by rw[hops];exact Nn ..) m' rfl;have d2:c<F.n:=hdst _ (by rw[hops];exact N4 _ (Nn ..)) c rfl;obtain⟨dd,u1,u2⟩:=ax hT ht rfl;cases dd<;>simp[aB]at u2;have hv:=aQ hh src;rw[show opd s.abs.T src=.lst τ xs o from hsrc]at hv;have hv2:V Ω (.lst τ xs none) (a.eval src):=hv.le (G:=[]) (fun k hk=>by cases hk) (bH (by simp[LeF,eK]))
   obtain⟨q,n,cp,hev,hq⟩:∃q n cp,a.eval src=.slice q n cp/\(q.isNone=true->xs=[]):=by
    generalize a.eval src=sv at hv2
    cases hv2 with|lstNil _ _ _=>exact⟨_,_,_,rfl,fun _=>rfl⟩|lstVoid _ _=>exact⟨_,_,_,rfl,fun _=>rfl⟩|lst _ _ _ b off cap vals h1 h2 tok hc hv=>exact⟨_,_,_,rfl,fun q=>by cases q⟩
   have hsz:=hh.size;have eqs:ops=#[⟨some m',.move src,ty1,ps1,af1,none⟩,⟨some c,.binOp .eql t (.tmp m') (.const (.slice none 0 0)) t2,ty2,ps2,af2,none⟩]:=by cases ops;simp at hops;rw[hops]
   subst eqs;rw[hev]at hv2;have hp1:=hh.pure (dst:=some m') (val:=.lst τ xs none) (v:=.slice q n cp) hv2 (fun d e=>by cases e;exact d1);have hp2:=hp1.pure (dst:=some c) (val:=.bool q.isNone) (v:=.bool q.isNone) (.bool _) (fun d e=>by cases e;exact d2);refine PD ?_;show wpOps P _ _ [0,1] a Ω.w;refine bU (o:=⟨some m',.move src,ty1,ps1,af1,none⟩) rfl rfl (al (v:=.slice q n cp) (w':=Ω.w) (by simp[execOp,hev]) ?_);have hm1:(a.put (some m') (.slice q n cp)).eval (.tmp m')=.slice q n cp:=by show(a.put (some m') (.slice q n cp)).tmps.getD m' undef=_;rw[bY hsz d1,MT rfl]
   have hq2:(Op.equal t (.slice q n cp) (.slice none 0 0)).run P Ω.w=.ok q.isNone Ω.w:=by unfold Op.equal Op.maxDepth Op.equalIn;simp only[Nd,aw u1,MW];cases q<;>rfl
   have hg:(eqGuard .eql t (.tmp m') (.const (.slice none 0 0)) (.slice q n cp) (.slice none 0 0)).run P Ω.w=.ok () Ω.w:=rfl
   refine bU (o:=⟨some c,.binOp .eql t (.tmp m') (.const (.slice none 0 0)) t2,ty2,ps2,af2,none⟩) rfl rfl (al (v:=.bool q.isNone) (w':=Ω.w) (by
    have hk:(a.put (some m') (.slice q n cp)).eval (.const (.slice none 0 0))=.slice none 0 0:=rfl;simp[execOp,hm1,hev,hk,hg,binOp,hq2]) ?_)
   refine⟨.normal,_,Ω,rfl,rfl,?_,rfl,q.isNone,hq,rfl⟩;refine Holds.trim (s:=⟨fU (fU s.t m' (.lst τ xs none)) c (.bool q.isNone),s.b⟩) ?_ keep;have eT:(St.abs ⟨fU (fU s.t m' (.lst τ xs none)) c (.bool q.isNone),s.b⟩)=⟨b9 (b9 s.abs.T (some m') (.lst τ xs none)) (some c) (.bool q.isNone),s.abs.B⟩:=by show AS.mk _ _=AS.mk _ _;congr 1;funext k;show aM (fU (fU s.t m' (.lst τ xs none)) c (.bool q.isNone)) k=_;rw[ed,ed];rfl
   rw[eT];exact hp2
  ·rename_i e sz by' z ty s1 n0 k0 hc ht hsrc
   cases hn;simp only[MR,Nc]at hc;obtain⟨hm,hcm⟩:=hc;obtain rfl:=Ng hm;have hne:¬m'=c:=fun e=>by rw[e,Qp]at hcm;cases hcm
   have d1:m'<F.n:=hdst _ (by rw[hops];exact Nn ..) m' rfl;have d2:c<F.n:=hdst _ (by rw[hops];exact N4 _ (Nn ..)) c rfl;obtain⟨dd,u1,u2⟩:=ax hT ht rfl;cases dd<;>simp[aB]at u2;have hv:=aQ hh src;rw[show opd s.abs.T src=.glst s1 n0 k0 from hsrc]at hv;have hv2:V Ω (.glst s1 n0 k0) (a.eval src):=hv
   obtain⟨q,n,cp,hev,hq⟩:∃q n cp,a.eval src=.slice q n cp/\(q.isNone=true->n0=0):=by
    obtain⟨cap,a0,g1,g2,g3,g4,g5⟩:=hv2.glst_inv;refine⟨a0,n0,cap,g1,fun q=>?_⟩;rcases g4 with⟨b,rfl⟩|⟨_,g,_⟩
    ·cases q
    ·exact g
   have hsz:=hh.size;have eqs:ops=#[⟨some m',.move src,ty1,ps1,af1,none⟩,⟨some c,.binOp .eql t (.tmp m') (.const (.slice none 0 0)) t2,ty2,ps2,af2,none⟩]:=by cases ops;simp at hops;rw[hops]
   subst eqs;rw[hev]at hv2;have hp1:=hh.pure (dst:=some m') (val:=.glst s1 n0 k0) (v:=.slice q n cp) hv2 (fun d e=>by cases e;exact d1);have hp2:=hp1.pure (dst:=some c) (val:=.bool q.isNone) (v:=.bool q.isNone) (.bool _) (fun d e=>by cases e;exact d2);refine PD ?_;show wpOps P _ _ [0,1] a Ω.w;refine bU (o:=⟨some m',.move src,ty1,ps1,af1,none⟩) rfl rfl (al (v:=.slice q n cp) (w':=Ω.w) (by simp[execOp,hev]) ?_);have hm1:(a.put (some m') (.slice q n cp)).eval (.tmp m')=.slice q n cp:=by show(a.put (some m') (.slice q n cp)).tmps.getD m' undef=_;rw[bY hsz d1,MT rfl]
   have hq2:(Op.equal t (.slice q n cp) (.slice none 0 0)).run P Ω.w=.ok q.isNone Ω.w:=by unfold Op.equal Op.maxDepth Op.equalIn;simp only[Nd,aw u1,MW];cases q<;>rfl
   have hg:(eqGuard .eql t (.tmp m') (.const (.slice none 0 0)) (.slice q n cp) (.slice none 0 0)).run P Ω.w=.ok () Ω.w:=rfl
   refine bU (o:=⟨some c,.binOp .eql t (.tmp m') (.const (.slice none 0 0)) t2,ty2,ps2,af2,none⟩) rfl rfl (al (v:=.bool q.isNone) (w':=Ω.w) (by
    have hk:(a.put (some m') (.slice q n cp)).eval (.const (.slice none 0 0))=.slice none 0 0:=rfl;simp[execOp,hm1,hev,hk,hg,binOp,hq2]) ?_)
   refine⟨.normal,_,Ω,rfl,rfl,?_,rfl,q.isNone,hq,rfl⟩;refine Holds.trim (s:=⟨fU (fU s.t m' (.glst s1 n0 k0)) c (.bool q.isNone),s.b⟩) ?_ keep;have eT:(St.abs ⟨fU (fU s.t m' (.glst s1 n0 k0)) c (.bool q.isNone),s.b⟩)=⟨b9 (b9 s.abs.T (some m') (.glst s1 n0 k0)) (some c) (.bool q.isNone),s.abs.B⟩:=by show AS.mk _ _=AS.mk _ _;congr 1;funext k;show aM (fU (fU s.t m' (.glst s1 n0 k0)) c (.bool q.isNone)) k=_;rw[ed,ed];rfl
   rw[eT];exact hp2
  ·cases hn
 ·cases hn
theorem wq{P:Program}{Q:Exit->Act->World->Prop}{a:Act}{w:World}{c:Code}(I:Nat->Act->World->Prop)(h₀:c.wp P (Exit.then (fun a w=>∃n,I n a w) Q) a w)
 (round:∀n a w,I n a w->c.wp P (Exit.then (fun a' w'=>∃n',n'<n/\I n' a' w') Q) a w):(Code.loop c).wp P Q a w:=by
 intro b k cs
 have key:∀n a w,I n a w->∃e a' w',Q e a' w'/\Arrives P (lone (b.at a (.code c::.inLoop c::k)) cs w) b k cs e a' w':=by
  intro n
  induction n using Nat.strongRecOn with
  |_ n ih=>
   intro a w hI;obtain⟨e,a₁,w₁,hq,harr⟩:=round n a w hI b (.inLoop c::k) cs
   cases e with
   |normal=>obtain⟨m,hlt,hI₁⟩:=hq;obtain⟨e₂,a₂,w₂,hq₂,harr₂⟩:=ih m hlt a₁ w₁ hI₁;exact⟨e₂,a₂,w₂,hq₂,.of_steps (Steps.trans harr (.one step_inLoop)) harr₂⟩
   |exit id=>exact⟨_,a₁,w₁,hq,.pass (x:=.inLoop c) rfl (fun _ _=>.inl (by simp)) harr⟩
   |goto l=>exact⟨_,a₁,w₁,hq,.pass (x:=.inLoop c) rfl (fun _ _=>.inl (by simp)) harr⟩
   |ret=>exact⟨_,a₁,w₁,hq,.pass (x:=.inLoop c) rfl (fun _ _=>.inl (by simp)) harr⟩
   |panic ch=>exact⟨_,a₁,w₁,hq,.pass (x:=.inLoop c) rfl (fun _ _=>.inl (by simp)) harr⟩
   |outgrown=>exact⟨_,a₁,w₁,hq,.pass (x:=.inLoop c) rfl (fun _ _=>.inl (by simp)) harr⟩
 obtain⟨e,a₁,w₁,hq,harr⟩:=h₀ b (.inLoop c::k) cs
 cases e with
 |normal=>obtain⟨m,hI⟩:=hq;obtain⟨e₂,a₂,w₂,hq₂,harr₂⟩:=key m a₁ w₁ hI;exact⟨e₂,a₂,w₂,hq₂,.of_steps (.one Qm) (.of_steps (Steps.trans harr (.one step_inLoop)) harr₂)⟩
 |exit id=>exact⟨_,a₁,w₁,hq,.of_steps (.one Qm) (.pass (x:=.inLoop c) rfl (fun _ _=>.inl (by simp)) harr)⟩
 |goto l=>exact⟨_,a₁,w₁,hq,.of_steps (.one Qm) (.pass (x:=.inLoop c) rfl (fun _ _=>.inl (by simp)) harr)⟩
 |ret=>exact⟨_,a₁,w₁,hq,.of_steps (.one Qm) (.pass (x:=.inLoop c) rfl (fun _ _=>.inl (by simp)) harr)⟩
 |panic ch=>exact⟨_,a₁,w₁,hq,.of_steps (.one Qm) (.pass (x:=.inLoop c) rfl (fun _ _=>.inl (by simp)) harr)⟩
 |outgrown=>exact⟨_,a₁,w₁,hq,.of_steps (.one Qm) (.pass (x:=.inLoop c) rfl (fun _ _=>.inl (by simp)) harr)⟩
def yg(F:Fr)(ann:An)(c:Code)(W:St->(SX->St->Prop)->Prop)(Q:SX->St->Prop)(k:Nat)(a:Act)(w:World):Prop:=
 ∃(s:St)(A:LA)(x:A.ι)(Ω:Om),(∀x,A.pre x->W (ik (cu c) s (A.t x) (A.b x)) fun
   |.normal,s'=>∃y,A.pre y/\A.m y<A.m x/\cS s' (ik (cu c) s (A.t y) (A.b y))
   |e,s'=>Q e s')/\A.pre x/\A.m x=k/\Ω.w=w/\Holds F (ik (cu c) s (A.t x) (A.b x)).abs a Ω
theorem pZ{ann:An}{c:Code}{W:St->(SX->St->Prop)->Prop}{Q:SX->St->Prop}{s:St}{a:Act}{Ω:Om}(h:Dn ann c W s Q)(hh:Holds F s.abs a Ω):∃k,yg F ann c W Q k a Ω.w:=by
 unfold Dn at h;split at h
 ·exact h.elim
 ·rename_i A hA;simp only[cE]at h;obtain⟨⟨x0,hp0,hle0⟩,hround⟩:=h;obtain⟨Ω0,e0,hh0⟩:=dG hh (gZ hle0);exact⟨A.m x0,s,A,x0,Ω0,hround,hp0,rfl,e0,hh0⟩
theorem q8{ann:An}{c:Code}{W:St->(SX->St->Prop)->Prop}{Q:SX->St->Prop}(hW:∀(s:St)(Q:SX->St->Prop)(a:Act)(Ω:Om),W s Q->Holds F s.abs a Ω->c.wp P (QL F Q) a Ω.w)
 {k:Nat}{a:Act}{w:World}(hI:yg F ann c W Q k a w):c.wp P (Exit.then (fun a' w'=>∃n',n'<k/\yg F ann c W Q n' a' w') (QL F Q)) a w:=by
 obtain⟨s,A,x,Ω1,hround,hp,hmx,hw1,hh1⟩:=hI;subst hw1;refine P0 (hW (ik (cu c) s (A.t x) (A.b x)) _ a Ω1 (hround x hp) hh1) ?_;intro e a' w' hq;obtain⟨z,s',Ω',h1,h2,h3,h4⟩:=hq;subst h2
 cases z with
 |normal=>cases h1;obtain⟨y,hy1,hy2,hy3⟩:=h4;obtain⟨Ω2,e2,hh2⟩:=dG h3 (gZ hy3);exact⟨A.m y,by omega,s,A,y,Ω2,hround,hy1,rfl,e2,hh2⟩
 |exit id=>cases h1;exact⟨.exit id,s',Ω',rfl,rfl,h3,h4⟩
 |ret=>cases h1;exact⟨.ret,s',Ω',rfl,rfl,h3,h4⟩
 |pan pv=>obtain⟨v,rfl,hv⟩:=h1;exact⟨.pan pv,s',Ω',⟨v,rfl,hv⟩,rfl,h3,h4⟩
theorem mK(hm:P.follows .mixedOrders=true)(hT:aP P C.tbl)(hS:bz P C.spec)(keep:List Nat)(ann:An){id:Nat}{ops:Array Oper}{draw:Bool}{s:St}{Q:SX->St->Prop}{a:Act}{Ω:Om}
 (hdst:∀(o:Oper),o∈ops.toList->∀d,o.dst=some d->d<F.n)(h:qF C keep ann id ops draw s Q)(hhr:Holds F s.abs a Ω):(Code.region id ops draw).wp P (QL F Q) a Ω.w:=by
  unfold qF at h;split at h
  ·exact h.elim
  ·rename_i s0 hp0;obtain⟨Ω0,e0,hh0⟩:=jZ _ hhr hp0;split at h
   ·exact h.elim
   ·rename_i s1 he;obtain⟨Ω1,e1,hh1⟩:=lu hh0 he;rw[<-e0,<-e1];split at h
    ·exact mJ hm hT hS keep hdst h hh1
    ·rename_i J hJ;obtain⟨h1,h2⟩:=h;rw[cE]at h2;refine P0 (mJ hm hT hS keep hdst h1 hh1) ?_;intro e a' w' hq;obtain⟨z,s',Ω',g1,g2,g3,g4⟩:=hq;subst g2
     cases z with
     |normal=>cases g1;obtain⟨Ω2,e2,hh2⟩:=dG g3 (gZ g4);exact⟨.normal,_,Ω2,rfl,e2,hh2,h2⟩
     |exit id=>exact⟨.exit id,s',Ω',g1,rfl,g3,g4⟩
     |ret=>exact⟨.ret,s',Ω',g1,rfl,g3,g4⟩
     |pan pv=>exact⟨.pan pv,s',Ω',g1,rfl,g3,g4⟩
theorem mh(hm:P.follows .mixedOrders=true)(hT:aP P C.tbl)(hS:bz P C.spec)(keep:List Nat)(ann:An) :
  ∀(c:Code)(s:St)(Q:SX->St->Prop)(a:Act)(Ω:Om),swp C keep ann c s Q->bw F.n c=true->Holds F s.abs a Ω->c.wp P (QL F Q) a Ω.w:=by
 intro c
 induction c with
 |skip=>exact fun s Q a Ω h _ hh=>wp_skip ⟨.normal,s,Ω,rfl,rfl,hh,h⟩
 |region id ops draw=>
  intro s Q a Ω h hd hh;simp only[swp]at h;have hdst:∀(o:Oper),o∈ops.toList->∀d,o.dst=some d->d<F.n:=by intro o ho d hod;simp only[bw,N6]at hd;have:=hd o ho;rw[hod]at this;simpa using this
  split at h
  ·rename_i p f hn;refine P0 (Bu hT hn hdst hh) ?_;rintro e a' w' ⟨z,s',Ω',h1,h2,h3,h4,b,h5,h6⟩;subst h2 h4 h6;have:=h b h5;rw[cE]at this;exact⟨.normal,f b,Ω',h1,rfl,h3,this⟩
  split at h
  ·exact h.elim
  rename_i sr hr0;obtain⟨Ωr,er,hhr⟩:=nq _ hh hr0;rw[<-er];split at h
  ·exact mK hm hT hS keep ann hdst h hhr
  ·split at h
   ·rename_i q s0 hf;obtain⟨h1,h2⟩:=h;rw[cE]at h2;obtain⟨Ω0,e0,hh0⟩:=Br hhr hf h1;rw[<-e0];exact mK hm hT hS keep ann hdst h2 hh0
   ·exact h.elim
 |seq x y ihx ihy=>
  intro s Q a Ω h hd hh;have hd0:=hd;simp only[bw,MR]at hd;simp only[swp]at h;split at h
  ·rename_i L hL;refine P0 (Bm hT hL h hd0 hh) ?_;rintro e a' w' ⟨rfl,s',Ω',h2,h3,h4⟩;rw[cE]at h4;exact⟨.normal,s',Ω',rfl,h2,h3,h4⟩
  split at h;rotate_left
  ·rename_i J hJ;obtain⟨h1,h2⟩:=h;rw[cE]at h2;refine Qk (P0 (ihx s _ a Ω h1 hd.1 hh) ?_);intro e a' w' hq;obtain⟨z,s',Ω',g1,g2,g3,g4⟩:=hq;subst g2
   cases z with
   |normal=>cases g1;obtain⟨Ω2,e2,hh2⟩:=dG g3 (gZ g4);rw[<-e2];exact ihy _ Q a' Ω2 h2 hd.2 hh2
   |exit id=>cases g1;exact⟨.exit id,s',Ω',rfl,rfl,g3,g4⟩
   |ret=>cases g1;exact⟨.ret,s',Ω',rfl,rfl,g3,g4⟩
   |pan pv=>obtain⟨v,rfl,hv⟩:=g1;exact⟨.pan pv,s',Ω',⟨v,rfl,hv⟩,rfl,g3,g4⟩
  refine Qk (P0 (ihx s _ a Ω h hd.1 hh) ?_);intro e a' w' hq;obtain⟨z,s',Ω',h1,h2,h3,h4⟩:=hq;subst h2
  cases z with
  |normal=>cases h1;exact ihy s' Q a' Ω' h4 hd.2 h3
  |exit id=>cases h1;exact⟨.exit id,s',Ω',rfl,rfl,h3,h4⟩
  |ret=>cases h1;exact⟨.ret,s',Ω',rfl,rfl,h3,h4⟩
  |pan pv=>obtain⟨v,rfl,hv⟩:=h1;exact⟨.pan pv,s',Ω',⟨v,rfl,hv⟩,rfl,h3,h4⟩
 |cond c x y ihx ihy=>
  intro s Q a Ω h hd hh;simp only[bw,MR]at hd;simp only[swp]at h;split at h
  ·rename_i b hb;have hv:=aQ hh c;have hb':opd s.abs.T c=.bool b:=hb;rw[hb']at hv;have hv:=hv.bool_inv;refine wp_cond hv ?_;unfold sp at h
   have hset:Holds F (Ju c b s).abs a Ω:=by
    cases c with
    |tmp t=>
     refine⟨fun i=>?_,hh.size,hh.defers,hh.slots,hh.dom,hh.inj,hh.pubok,hh.keep,hh.frame⟩;have e:(Ju (.tmp t) b s).abs.T i=if t=i then .bool b else aM s.t i:=ed s.t t (.bool b) i
     rw[e];by_cases ht:t=i
     ·subst ht;rw[MT rfl];have:=hh.tmps t;rw[show s.abs.T t=.bool b from hb']at this;exact this
     ·rw[MS ht];exact hh.tmps i
    |_=>exact hh
   cases b with|true=>exact ihx _ Q a Ω (by simpa using h) hd.1 hset|false=>exact ihy _ Q a Ω (by simpa using h) hd.2 hset
  ·exact h.elim
 |block id c ih=>
  intro s Q a Ω h hd hh;simp only[bw]at hd;simp only[swp]at h;refine wp_block (P0 (ih s _ a Ω h hd hh) ?_);intro e a' w' hq;obtain⟨z,s',Ω',h1,h2,h3,h4⟩:=hq;subst h2
  cases z with
  |normal=>cases h1;exact⟨.normal,s',Ω',rfl,rfl,h3,h4⟩
  |ret=>cases h1;exact⟨.ret,s',Ω',rfl,rfl,h3,h4⟩
  |pan pv=>obtain⟨v,rfl,hv⟩:=h1;exact⟨.pan pv,s',Ω',⟨v,rfl,hv⟩,rfl,h3,h4⟩
  |exit j=>
   cases h1;simp only[Bt,Exit.inBlock];by_cases hj:j=id
   ·subst hj;simp only[NU];simp only[Pq,NU]at h4;exact⟨.normal,s',Ω',rfl,rfl,h3,h4⟩
   ·rw[MS hj];simp only[NR,hj,Nt]at h4;exact⟨.exit j,s',Ω',rfl,rfl,h3,h4⟩
 |loop c ih=>
  intro s Q a Ω h hd hh;simp only[bw]at hd;simp only[swp]at h;have hW:∀(s:St)(Q:SX->St->Prop)(a:Act)(Ω:Om),swp C keep ann c s Q->Holds F s.abs a Ω->c.wp P (QL F Q) a Ω.w:=fun s Q a Ω h hh=>ih s Q a Ω h hd hh;split at h
  ·refine wq (yg F ann c (swp C keep ann c) Q) (P0 (hW s _ a Ω h hh) ?_) fun k a w hI=>q8 hW hI;intro e a' w' hq;obtain⟨z,s',Ω',h1,h2,h3,h4⟩:=hq;subst h2
   cases z with
   |normal=>
    cases h1;simp only[cE]at h4;split at h4
    ·rename_i s2 h5;obtain⟨Ω2,e2,hh2⟩:=nq _ h3 h5;obtain⟨k,hI⟩:=pZ h4 hh2;exact⟨k,e2 ▸ hI⟩
    ·exact h4.elim
   |exit id=>cases h1;exact⟨.exit id,s',Ω',rfl,rfl,h3,h4⟩
   |ret=>cases h1;exact⟨.ret,s',Ω',rfl,rfl,h3,h4⟩
   |pan pv=>obtain⟨v,rfl,hv⟩:=h1;exact⟨.pan pv,s',Ω',⟨v,rfl,hv⟩,rfl,h3,h4⟩
  ·obtain⟨k,hI⟩:=pZ h hh;exact wp_loop_ghost (yg F ann c (swp C keep ann c) Q) k hI fun k a w hI=>q8 hW hI
 |exit id=>exact fun s Q a Ω h _ hh=>wp_exit ⟨.exit id,s,Ω,rfl,rfl,hh,h⟩
 |ret=>
  intro s Q a Ω h _ hh;simp only[swp]at h;split at h
  ·exact wp_ret ⟨.ret,s,Ω,rfl,rfl,hh,h⟩
  ·split at h
   ·rename_i s' h1;rw[cE]at h;obtain⟨Ω',e,hh'⟩:=nr _ hh h1;rw[<-e];exact wp_ret ⟨.ret,s',Ω',rfl,rfl,hh',h⟩
   ·exact h.elim
 |rangeFunc g ps x y _ _=>exact fun s Q a Ω h=>by simp[swp]at h
 |scope c ih=>
  intro s Q a Ω h hd hh;simp only[bw]at hd;simp only[swp]at h;refine wp_scope_straight (P0 (ih s _ a Ω h hd hh) ?_);intro e a' w' hq;obtain⟨z,s',Ω',h1,h2,h3,h4⟩:=hq
  cases z with
  |normal=>cases h1;exact⟨.normal,s',Ω',rfl,h2,h3,h4⟩
  |exit id=>cases h1;exact⟨.exit id,s',Ω',rfl,h2,h3,h4⟩
  |ret=>cases h1;exact⟨.ret,s',Ω',rfl,h2,h3,h4⟩
  |pan pv=>obtain⟨v,rfl,hv⟩:=h1;exact⟨.pan pv,s',Ω',⟨v,rfl,hv⟩,h2,h3,h4⟩
 |label l=>exact fun s Q a Ω h _ hh=>wp_label ⟨.normal,s,Ω,rfl,rfl,hh,h⟩
 |goto l=>exact fun s Q a Ω h=>by simp[swp]at h
 |refuse why=>exact fun s Q a Ω h=>by simp[swp]at h
theorem gg:∀(l:List AV)(i j:Nat),aM (cI i l) j=if i<=j then l.getD (j-i) .undef else .undef
 |[],i,j=>by simp[cI,dz,cz]
 |v::r,i,j=>by
  simp only[cI,dz,cz,gg r (i+1) j];by_cases h:i=j
  ·subst h;simp
  ·simp only[NR,h,Nt];by_cases h2:i<=j
   ·have e:j-i=(j-(i+1))+1:=by omega
    rw[MT h2,MT (by omega),e];simp
   ·rw[MS h2,MS (by omega)]
theorem jj{w:World}{pub:Nat->Nat->Prop}{e:Nat->Option CObj}{args:List AV}{vs:List Value}(k:Nat)(hv:VL ⟨e,w,pub⟩ args vs)(i:Nat) :
  V ⟨e,w,pub⟩ (aM (cI 0 args) i) ((vs.toArray++Array.replicate k undef).getD i undef):=by
 simp only[gg,N2,NU,Po];by_cases h:i<args.length
 ·have h':i<vs.length:=by rw[<-hv.1];exact h
  have e1:args.getD i .undef=args[i]:=by simp[MX,h]
  have e2:(vs.toArray++Array.replicate k undef).getD i undef=vs[i]:=by simp[Na,Array.getElem?_append,h']
  rw[e1,e2];exact hv.2 i _ _ (MQ h) (MQ h')
 ·have e1:args.getD i .undef=.undef:=by simp[MX,h]
  rw[e1];exact .undef _
theorem kc{w:World}{pub:Nat->Nat->Prop}{e:Nat->Option CObj}{args:List AV}{vs:List Value}{n:Nat}{S:List (Nat×SObj)}(hp:kB w pub)(ht:il w pub e)(hv:VL ⟨e,w,pub⟩ args vs)(hn:args.length<=n)
 (hs:∀id o,aj S id=some o->b8 ⟨e,w,pub⟩ (fun _ _=>True) id o)(hd:∀id,aj S id=none->e id=none)(hi:Inj e)(hl:∀id c,e id=some c->bd id=true) :
  Holds ⟨w,pub,n,e,hl,[],ht⟩ (St.abs ⟨cI 0 args,S⟩) {tmps:=vs.toArray++Array.replicate (n-vs.toArray.size) undef,defers:=[]} ⟨e,w,pub⟩:=
 ⟨fun i=>jj _ hv i,by simp;have:=hv.1;omega,rfl,fun id o ho=>(hs id o ho).own_of (fun c b oo hc hoc=>Or.inr ⟨id,c,hc,hoc⟩),fun id hid=>hd id hid,hi,hp,fun id c hc=>⟨c,hc,CLe.refl c⟩,
  ⟨rfl,rfl,rfl,N8 _,fun _ _ _=>rfl,fun _ _ _ _=>rfl,fun _ _ _=>⟨rfl,fun _=>rfl⟩,fun _ _ h=>Or.inl h,fun _ _ h=>h,fun _ _ _=>rfl⟩⟩
def pd(tmps:Array Value):ResultVar->Sem Value
 |.tmp t=>pure (tmps.getD t undef)
 |.cell a t=>do loadVar t (<-asAddr (tmps.getD a undef))
theorem nt(fn:Func)(tmps:Array Value):results fn tmps=(do
  let vs <-fn.results.mapM (pd tmps)
  pure (if h:vs.size=1 then vs[0]else .tuple vs)):=by
 unfold results;congr 1
theorem fr(hT:aP P C.tbl){s:St}{a:Act}{Ω:Om}(hh:Holds F s.abs a Ω):∀(rs:List ResultVar)(l:List AV),kA C.tbl s rs=some l->
  ∃vs,(rs.mapM (pd a.tmps)).run P Ω.w=.ok vs Ω.w/\VL Ω l vs
 |[],l,h=>by simp[kA]at h;subst h;exact⟨[],rfl,VL.nil⟩
 |.tmp t::rs,l,h=>by
  simp only[kA]at h;split at h
  ·rename_i l' hl';simp at h;subst h;obtain⟨vs,k1,k2⟩:=fr hT hh rs l' hl';exact⟨_,by rw[List.mapM_cons];simp only[pd,Nd,Nx,MW,k1],VL.cons (hh.tmps t) k2⟩
  ·cases h
 |.cell b t::rs,l,h=>by
  simp only[kA]at h;split at h
  ·rename_i id off rt hb hrt;have hv:=hh.tmps b;have e:s.abs.T b=.ptr id off:=hb;rw[e]at hv;obtain⟨g,o',len,hv1,hv2⟩:=hv.ptr_inv;split at h
   ·rename_i c hcs;split at h
    ·rename_i x l' hx hl';simp at h;subst h;obtain⟨vs,k1,k2⟩:=fr hT hh rs l' hl';obtain⟨b',off',e1,e2⟩:=hh.slots id _ hcs;rw[hv2]at e1;simp only[Xs,CObj.box.injEq]at e1;obtain⟨rfl,rfl,rfl⟩:=e1;obtain⟨v,w1,w2⟩:=gI (P:=P) (C:=C) (w:=Ω.w) hT hrt hx (b:=g) (o':=o') (fun j c' hc=>(e2 j c' hc).2.2.2);exact⟨v::vs,by rw[List.mapM_cons];simp only[pd,Nd,hv1,asAddr,Nx,MW,w1,k1],VL.cons w2 k2⟩
    ·cases h
   ·cases h
  ·cases h
theorem Holds.retmp{s:AS}{a:Act}{Ω:Om}(h:Holds F s a Ω){l:List AV}{vs:List Value}(hv:VL Ω l vs) :
  Holds ⟨F.w0,F.pub0,vs.length,F.e0,F.dom0,[],F.tab0⟩ ⟨aM (cI 0 l),s.B⟩ {tmps:=vs.toArray++Array.replicate 0 undef,defers:=[]} Ω:=
 ⟨fun i=>jj 0 hv i,by simp,rfl,h.slots,h.dom,h.inj,h.pubok,h.keep,
  ⟨h.frame.os,h.frame.tape,h.frame.output,h.frame.size,h.frame.block,h.frame.cell,h.frame.kind,h.frame.pub,h.frame.old,h.frame.pcell⟩⟩
theorem iz{w:World}{pub:Nat->Nat->Prop}{e:Nat->Option CObj}{n:Nat}{hl:∀id c,e id=some c->bd id=true}{ht:il w pub e}{T:Nat->AV}{B:List (Nat×SObj)}{a:Act}{Ω:Om}
 (h:Holds ⟨w,pub,n,e,hl,[],ht⟩ ⟨T,aj B⟩ a Ω):After w pub e (aj B) Ω.w Ω.pub Ω.e:=by
 refine⟨h.frame.os,h.frame.tape,h.frame.output,h.frame.size,h.frame.block,h.frame.cell,h.frame.kind,⟨h.keep,h.frame.old,h.frame.pcell⟩,fun b o hp=>?_,h.pubok,h.slots,h.dom,h.inj⟩;rcases h.frame.pub b o hp with q|q|q
 ·exact Or.inl q
 ·exact Or.inr (Or.inl q)
 ·exact Or.inr (Or.inr q)
theorem jk{α:Type}{l:List α}(h:l.length=1):∃x,l=[x]:=by
 match l,h with
 |[x],_=>exact⟨x,rfl⟩
theorem EK(hm:P.follows .mixedOrders=true)(hT:aP P C.tbl)(hS:bz P C.spec){ann:An}{f:Nat}{fn:Func}(hf:P.funcs[f]?=some fn)
 {args:List AV}{S:List (Nat×SObj)}{A:Ans}(h:fwp C ann fn args S A):an P f args S A:=by
 intro w pub e vs hp ht hv hs hdom hinj;unfold fwp at h;split at h
 ·exact h.elim
 ·rename_i c hb;split at h
  ·exact h.elim
  ·rename_i hck;simp only[MR,N6]at hck;obtain⟨⟨hck1,hck2⟩,hck3⟩:=hck;have hlen:=dP _ _ hck2;rw[iy,cE]at h
   have hlent:∀id c,e id=some c->bd id=true:=by
    intro id c hc
    cases hg:aj S id with
    |none=>rw[hdom id hg]at hc;cases hc
    |some o=>exact hck3 id (Nr.2 ⟨(id,o),bS _ _ _ hg,rfl⟩)
   refine calls_of_wp hf hb ?_;have hh:=kc (n:=fn.ntmps) hp ht hv hlen hs hdom hinj hlent;refine P0 (mh (F:=⟨w,pub,fn.ntmps,e,hlent,[],ht⟩) hm hT hS _ ann c _ _ _ _ h hck1 hh) ?_;intro en a' w' hq;obtain⟨z,s',Ω',h1,h2,h3,h4⟩:=hq;subst h2
   have hmap:∀us,(fn.results.toList.mapM (pd a'.tmps)).run P Ω'.w=.ok us Ω'.w->
     (results fn a'.tmps).run P Ω'.w=.ok (if h:us.toArray.size=1 then us.toArray[0]else .tuple us.toArray) Ω'.w:=by
    intro us hus;rw[nt,<-OA (xs:=fn.results),PF];simp only[Nd,Sem.run_map,hus,MW,Nx]
   have key:((match A.pan with|some (b,_,_)=>b=false|none=>True)/\uH (kA C.tbl s' fn.results.toList) s' A.val (bO S A.upd))->
     a'.defers=[]/\∃v,(results fn a'.tmps).run P Ω'.w=.ok v Ω'.w/\∃pub' e',(∀b pv u,A.pan=some (b,pv,u)->b=false)/\V ⟨e',Ω'.w,pub'⟩ A.val v/\After w pub e (aj (bO S A.upd)) Ω'.w pub' e':=by
    rintro⟨hpan,hend⟩;refine⟨h3.defers,?_⟩;have hpan':∀b pv u,A.pan=some (b,pv,u)->b=false:=by intro b pv u hpa;rw[hpa]at hpan;exact hpan
    unfold uH at hend;split at hend
    ·rename_i x hres;obtain⟨us,k1,k2⟩:=fr hT h3 _ _ hres;obtain⟨u,rfl⟩:=jk (by rw[<-k2.1];rfl);obtain⟨Ω2,e2,hh2⟩:=dG (s:=⟨[(0,x)],s'.b⟩) (h3.retmp k2) (gZ hend);refine⟨u,by simpa using hmap [u] k1,Ω2.pub,Ω2.e,hpan',?_,?_⟩
     ·have:=hh2.tmps 0;rw[<-e2];exact this
     ·rw[<-e2];exact iz hh2
    ·rename_i l hne hres;split at hend
     ·rename_i rs hval;split at hend
      ·rename_i hln;have hl2:=bJ _ _ hln;obtain⟨us,k1,k2⟩:=fr hT h3 _ _ hres;obtain⟨Ω2,e2,hh2⟩:=dG (s:=⟨cI 0 l,s'.b⟩) (h3.retmp k2) (gZ hend);have hsz:¬us.toArray.size=1:=by intro h1;obtain⟨x,hx⟩:=jk (l:=l) (by rw[k2.1];simpa using h1);exact hne x hx
       refine⟨.tuple us.toArray,?_,Ω2.pub,Ω2.e,hpan',?_,?_⟩
       ·rw[hmap us k1,dif_neg hsz]
       ·rw[hval];refine .tup rs us (by rw[<-k2.1,<-hl2]) (fun j c v hc hv=>?_);have:=hh2.tmps j;simp only[St.abs,gg,N2,NU,Po,MX,hc,NL]at this;have e3:(us.toArray++Array.replicate 0 undef).getD j undef=v:=by simp[Na,hv]
        rw[e3,]at this;rw[<-e2];exact this
       ·rw[<-e2];exact iz hh2
      ·exact hend.elim
     ·exact hend.elim
    ·exact hend.elim
   cases z with
   |normal=>cases h1;exact key h4
   |exit id=>exact h4.elim
   |ret=>cases h1;exact key h4
   |pan pv=>
    obtain⟨v,rfl,hv⟩:=h1;simp only at h4;split at h4
    ·rename_i b pv' pu hpa;obtain⟨hbt,hend⟩:=h4;subst hbt;obtain⟨Ω2,e2,hh2⟩:=dG (s:=⟨[(0,pv)],s'.b⟩) (h3.retmp (VL.cons hv .nil)) (gZ hend);refine⟨h3.defers,Ω2.pub,Ω2.e,pv',pu,v,hpa,rfl,?_,?_⟩
     ·have:=hh2.tmps 0;rw[<-e2];exact this
     ·rw[<-e2];exact iz hh2
    ·exact h4.elim
end
end Go.AL
end
noncomputable section
namespace Go.AL
variable [Tabs]
theorem TRok.mk'{P:Program}{t:Nat}{r:TR}
 (h1:(P.info? t).map (fun i=>(i.size,i.bytes,i.zero.map fun z=>z.cells.toList.map bL))=some (r.size,r.bytes,some r.zero))
 (h2:(P.underlying t).map (aB P r.ti)=some true)
 (h3:(fB r.zero r.size&&(Nat.beq r.size 0||Nat.blt 0 r.bytes)&&(match r.ty with | some τ=>Nat.beq (ab τ) r.size&&(Jn τ ==r.isAgg) | none=>true))=true)
 (h8:(P.info? t).map (fun i=>i.zero.map fun z=>AN z ==r.isAgg)=some (some true))
 (h9:(match r.ti with|.strct true _=>!P.stoodInHeld t&&!P.eqGuardType P.depth t|_=>true)=true):TRok P t r:=by
 simp only[MR,NO,Nat.beq_eq,Pb]at h3;obtain⟨⟨h5,h6⟩,h7⟩:=h3;refine⟨?_,bJ _ _ h5,fun hz=>?_,?_,fun τ hτ=>?_,fun i z hi hz=>?_,fun fs hfs=>?_⟩
 ·cases hi:P.info? t with
  |none=>rw[hi]at h1;simp at h1
  |some i=>rw[hi]at h1;simp only[O6,Xs,Pe,N3]at h1;obtain⟨e1,e2,z,e3,e4⟩:=h1;exact⟨i,z,rfl,e1,e2,e3,e4⟩
 ·rcases h6 with h6|h6
  ·omega
  ·exact h6
 ·cases hd:P.underlying t with|none=>rw[hd]at h2;simp at h2|some d=>rw[hd]at h2;exact⟨d,rfl,by simpa using h2⟩
 ·rw[hτ]at h7;simpa using h7
 ·rw[hi]at h8;simp[hz]at h8;exact h8
 ·rw[hfs]at h9;simpa using h9
theorem aP.nil{P:Program}:aP P []:=fun t r h=>by simp[uE,r6]at h
theorem aP.cons{P:Program}{t:Nat}{r:TR}{l:List (Nat×TR)}(h:TRok P t r)(hl:aP P l):aP P ((t,r)::l):=by
 intro t' r' h';simp only[uE,r6]at h';by_cases e:t=t'
 ·subst e;simp at h';subst h';exact h
 ·simp only[NR,e,Nt]at h';exact hl t' r' h'
theorem aq.mk'{P:Program}{f:Nat}{fn:Func}(h:P.funcs[f]?=some fn)(h2:(fn.body.isNone || (fn.name == "runtime.NumGoroutine"))=false):aq P f:=by simp only [Bool.or_eq_false_iff] at h2;exact ⟨fn,h,h2.1,h2.2⟩
end Go.AL
end
noncomputable section
namespace Go.AL
def Wf(τ:Ty)(x:den τ):Prop:=∃Ω v,V Ω (inj τ x) v
def WfL(args:List AV):Prop:=∃Ω vs,VL Ω args vs
theorem Wf.str{s:Str}(h:Wf .str s):s.length<=9223372036854775807:=letI:=vT;let ⟨_,_,h⟩:=h;h.str_inv.2
theorem Wf.len{τ:Ty}{xs:List (den τ)}(h:Wf (.lst τ) xs):xs.length<=9223372036854775807:=by
 letI:=vT
 obtain⟨Ω,v,h⟩:=h;rcases h.lst_inv with⟨h1,_,_⟩|⟨h1,_,_⟩|⟨b,off,cap,vals,hv,h1,h2,_⟩
 ·rw[h1];simp
 ·rw[h1];simp
 ·unfold aY at h2;omega
theorem VL.inj{Ω:Om}{τ:Ty}{x:den τ}{vs:List Value}(h:VL Ω (cells τ x) vs):∃v,V Ω (inj τ x) v:=by
 cases τ with
 |st n=>exact⟨_,.st n x _ (V.of_agg h)⟩
 |int k=>match vs,h with|[v],h=>exact⟨v,h.head⟩
 |bool=>match vs,h with|[v],h=>exact⟨v,h.head⟩
 |str=>match vs,h with|[v],h=>exact⟨v,h.head⟩
 |lst t=>match vs,h with|[v],h=>exact⟨v,h.head⟩
 |pt n=>match vs,h with|[v],h=>exact⟨v,h.head⟩
theorem Wf.mem{τ:Ty}{xs:List (den τ)}(h:Wf (.lst τ) xs){x:den τ}(hx:x∈xs):Wf τ x:=by
 letI:=vT
 obtain⟨Ω,v,h⟩:=h;rcases h.lst_inv with⟨h1,_,_⟩|⟨h1,_,_⟩|⟨b,off,cap,vals,hv,h1,h2,h3,h4,h5⟩
 ·rw[h1]at hx;simp at hx
 ·rw[h1]at hx;simp at hx
 ·obtain⟨i,hi⟩:=OC hx
  have:VL Ω (cells τ x) ((List.range (cells τ x).length).map (vals i)):=by
   refine⟨by simp,fun j c v hc hv=>?_⟩
   have hj:j<(cells τ x).length:=by
    rcases MY j (cells τ x).length with k|k
    ·exact k
    ·rw[MU k]at hc;cases hc
   simp[hj]at hv;subst hv;exact h5 i x hi j c hc
  obtain⟨v',hv'⟩:=this.inj;exact⟨Ω,v',hv'⟩
theorem Wf.cell{n:SN}{x:SD n}(h:Wf (.st n) x)(j:Nat){τ:Ty}{y:den τ}(hc:(cells (.st n) x)[j]?=some (AL.inj τ y)):Wf τ y:=by
 obtain⟨Ω,v,h⟩:=h
 cases h with
 |st _ _ v hv=>
  obtain⟨vs,_,hl⟩:=hv.agg_inv
  have hj:j<vs.length:=by
   rw[<-hl.1];rcases MY j (cells (.st n) x).length with k|k
   ·exact k
   ·rw[MU k]at hc;cases hc
  exact⟨Ω,_,hl.2 j _ _ hc (MQ hj)⟩
theorem Wf.names{s:Shape}(h:Wf (.st .shape) s):Wf (.lst .str) s.names:=h.cell 3 (τ:=.lst .str) (y:=s.names) rfl
theorem Wf.parts{s:Shape}(h:Wf (.st .shape) s):Wf (.lst (.st .shape)) s.parts:=h.cell 4 (τ:=.lst (.st .shape)) (y:=s.parts) rfl
theorem Wf.term_parts{x:Trm}(h:Wf (.st .term) x):Wf (.lst (.st .term)) x.parts:=(h.cell 7 (τ:=.lst (.st .term)) (y:=x.parts) rfl)
theorem Wf.modu_imports{x:Modu}(h:Wf (.st .modu) x):Wf (.lst (.st .imp)) x.imports:=(h.cell 1 (τ:=.lst (.st .imp)) (y:=x.imports) rfl)
theorem Wf.modu_decls{x:Modu}(h:Wf (.st .modu) x):Wf (.lst (.st .decl)) x.decls:=(h.cell 2 (τ:=.lst (.st .decl)) (y:=x.decls) rfl)
theorem Wf.modu_exports{x:Modu}(h:Wf (.st .modu) x):Wf (.lst .str) x.exports:=(h.cell 3 (τ:=.lst .str) (y:=x.exports) rfl)
theorem Wf.val_names{x:Vlu}(h:Wf (.st .val) x):Wf (.lst .str) x.names:=(h.cell 4 (τ:=.lst .str) (y:=x.names) rfl)
theorem Wf.val_parts{x:Vlu}(h:Wf (.st .val) x):Wf (.lst (.st .val)) x.parts:=(h.cell 5 (τ:=.lst (.st .val)) (y:=x.parts) rfl)
theorem Wf.thing_parts{x:Thg}(h:Wf (.st .thing) x):Wf (.lst (.st .thing)) x.parts:=(h.cell 5 (τ:=.lst (.st .thing)) (y:=x.parts) rfl)
theorem WfL.cons{a:AV}{l:List AV}(h:WfL (a::l)):(∃Ω v,V Ω a v)/\WfL l:=by
 obtain⟨Ω,vs,h⟩:=h;rcases h.cases with⟨e,_⟩|⟨c,cs,v,vs',e,_,h1,h2⟩
 ·cases e
 ·cases e;exact⟨⟨Ω,v,h1⟩,Ω,vs',h2⟩
theorem WfL.one{τ:Ty}{x:den τ}{l:List AV}(h:WfL (inj τ x::l)):Wf τ x:=h.cons.1
theorem WfL.two{a:AV}{τ:Ty}{x:den τ}{l:List AV}(h:WfL (a::inj τ x::l)):Wf τ x:=h.cons.2.cons.1
theorem WfL.three{a b:AV}{τ:Ty}{x:den τ}{l:List AV}(h:WfL (a::b::inj τ x::l)):Wf τ x:=h.cons.2.cons.2.cons.1
section
variable [Tabs]
variable {P:Program}
theorem an.wf{f:Nat}{args:List AV}{S:List (Nat×SObj)}{A:Ans}(h:WfL args->an P f args S A):an P f args S A:=
 fun w pub e vs hp ht hv hs hd hi=>h ⟨_,vs,hv⟩ w pub e vs hp ht hv hs hd hi
theorem an.args{f:Nat}{args args':List AV}{S:List (Nat×SObj)}{A:Ans}(ha:RdL args args')(h:an P f args' S A):an P f args S A:=
 fun w pub e vs hp ht hv hs hd hi=>h w pub e vs hp ht (hv.rd ha) hs hd hi
abbrev Pat:=List AV->List (Nat×SObj)->Option Ans
def eA:List (Nat×Pat)->Nat->Pat
 |[],_=>fun _ _=>none
 |(i,g)::l,f=>fun args S=>
  match Nat.beq i f with
  |true=>(match g args S with|some A=>some A|none=>eA l f args S)
  |false=>eA l f args S
def ag(P:Program)(f:Nat)(g:Pat):Prop:=
 ∀args S A,g args S=some A->(∀q,A.ob=some q->q)->(aH S).all bd=true->aq P f/\an P f args S A
theorem jl:bz P (eA []):=fun f args S A h=>by simp[eA]at h
theorem iA{f:Nat}{g:Pat}{l:List (Nat×Pat)}(h:ag P f g)(hl:bz P (eA l)):bz P (eA ((f,g)::l)):=by
 intro f' args S A hA ho hk;simp only[eA]at hA;split at hA
 ·rename_i hb;have e:f=f':=Ng hb;subst e;split at hA
  ·rename_i A' hg;simp at hA;subst hA;exact h args S A' hg ho hk
  ·exact hl f args S A hA ho hk
 ·exact hl f' args S A hA ho hk
def p1(τ:Ty)(F:den τ->Ans):Pat
 |[a],[]=>(match arg τ a with|some a=>some (F a)|none=>none)
 |_,_=>none
def p2(τ σ:Ty)(F:den τ->den σ->Ans):Pat
 |[a,b],[]=>(match arg τ a,arg σ b with|some a,some b=>some (F a b)|_,_=>none)
 |_,_=>none
def pf(τ:Ty)(n:Nat)(F:den τ->Ans):Pat
 |[a,.fn f []],[]=>(match Nat.beq f n with|true=>(match arg τ a with|some a=>some (F a)|none=>none)|false=>none)
 |_,_=>none
def p3(τ σ ρ:Ty)(F:den τ->den σ->den ρ->Ans):Pat
 |[a,b,c],[]=>(match arg τ a,arg σ b,arg ρ c with|some a,some b,some c=>some (F a b c)|_,_,_=>none)
 |_,_=>none
theorem Rd.arg{τ:Ty}{a:AV}{x:den τ}(h:AL.arg τ a=some x):Rd a (inj τ x):=fun _ _ hv=>Dr hv h
theorem bp{f:Nat}{τ:Ty}{F:den τ->Ans}(he:aq P f)(h:∀x,Wf τ x->(∀q,(F x).ob=some q->q)->an P f [inj τ x] [] (F x)):ag P f (p1 τ F):=by
 intro args S A hA ho _;unfold p1 at hA;split at hA
 ·split at hA
  ·rename_i x hx;simp at hA;subst hA;exact⟨he,an.args (.cons (Rd.arg hx) .nil) (an.wf fun hw=>h x hw.one ho)⟩
  ·cases hA
 ·cases hA
theorem cP{f:Nat}{τ σ:Ty}{F:den τ->den σ->Ans}(he:aq P f)
 (h:∀x y,Wf τ x->Wf σ y->(∀q,(F x y).ob=some q->q)->an P f [inj τ x,inj σ y] [] (F x y)):ag P f (p2 τ σ F):=by
 intro args S A hA ho _;unfold p2 at hA;split at hA
 ·split at hA
  ·rename_i x y hx hy;simp at hA;subst hA;exact⟨he,an.args (.cons (Rd.arg hx) (.cons (Rd.arg hy) .nil)) (an.wf fun hw=>h x y hw.one hw.two ho)⟩
  ·cases hA
 ·cases hA
theorem kC{f:Nat}{τ:Ty}{n:Nat}{F:den τ->Ans}(he:aq P f)(h:∀x,Wf τ x->(∀q,(F x).ob=some q->q)->an P f [inj τ x,.fn n []] [] (F x)):ag P f (pf τ n F):=by
 intro args S A hA ho _;unfold pf at hA;split at hA
 ·split at hA
  ·rename_i hb;have e:=Ng hb;subst e;split at hA
   ·rename_i x hx;simp at hA;subst hA;exact⟨he,an.args (.cons (Rd.arg hx) (.cons (Rd.refl _) .nil)) (an.wf fun hw=>h x hw.one ho)⟩
   ·cases hA
  ·cases hA
 ·cases hA
theorem GX{f:Nat}{τ σ ρ:Ty}{F:den τ->den σ->den ρ->Ans}(he:aq P f)
 (h:∀x y z,Wf τ x->Wf σ y->Wf ρ z->(∀q,(F x y z).ob=some q->q)->an P f [inj τ x,inj σ y,inj ρ z] [] (F x y z)):ag P f (p3 τ σ ρ F):=by
 intro args S A hA ho _;unfold p3 at hA;split at hA
 ·split at hA
  ·rename_i x y z hx hy hz;simp at hA;subst hA;exact⟨he,an.args (.cons (Rd.arg hx) (.cons (Rd.arg hy) (.cons (Rd.arg hz) .nil))) (an.wf fun hw=>h x y z hw.one hw.two hw.three ho)⟩
  ·cases hA
 ·cases hA
end
end Go.AL
end
noncomputable section
namespace Go.AL
theorem az{α:Type}(l:List α)(k:Nat)(d:α)(h:k<l.length):l.drop k=l.getD k d::l.drop (k+1):=by rw[OS h];simp[MX,h]
theorem bG{α:Type}(l:List α)(k:Nat)(d:α)(h:k<l.length):l.getD k d∈l:=by simp[MX,h]
theorem eh{α:Type}(l:List α)(k:Nat)(d:α)(h:k<l.length):l.take (k+1)=l.take k++[l.getD k d]:=by rw[List.take_succ_eq_append_getElem h];simp[MX,h]
theorem aD{n:Int}(h1:-9223372036854775808<=n)(h2:n<=9223372036854775807):inR .i64 n:=by constructor<;>simp[IntKind.min,IntKind.max,IntKind.signed,IntKind.bits]<;>omega
theorem ba{n m:Nat}(h1:n<m)(h2:m<=9223372036854775807):inR .i64 ((n:Int)+1):=aD (by omega) (by omega)
theorem lB{p:Prop}[Decidable p]:(decide p=true)=p:=by simp
theorem aa{c p q:Prop}[Decidable c](h1:c->p)(h2:¬c->q):if c then p else q:=by
 by_cases h:c
 ·rw[MT h];exact h1 h
 ·rw[MS h];exact h2 h
abbrev oc(α:Type):List α:=[]
theorem GY[Tabs]{P:Program}{C:Cfg}(hm:P.follows .mixedOrders=true)(hT:aP P C.tbl)(hS:bz P C.spec){ann:An}{f:Nat}{fn:Func}(hf:P.funcs[f]?=some fn)
 {args:List AV}{S:List (Nat×SObj)}{A:Ans}{Q:Prop}(q:Q)(h:fwp C ann fn args S A=Q):an P f args S A:=EK hm hT hS hf (h.mpr q)
end Go.AL
end
noncomputable section
namespace Go.AL
def evN{α:Type}(n:Nat)(k:Nat->α):α:=match n with|0=>k 0|m+1=>k (m+1)
def evI{α:Type}(n:Int)(k:Int->α):α:=match n with|.ofNat m=>evN m fun m=>k (.ofNat m)|.negSucc m=>evN m fun m=>k (.negSucc m)
def evL{α β:Type}:List β->(List β->α)->α
 |[],k=>k []
 |a::r,k=>evL r fun r=>k (a::r)
theorem aZ{α:Type}(n:Nat)(k:Nat->α):evN n k=k n:=by cases n<;>rfl
theorem Bv{α:Type}(n:Int)(k:Int->α):evI n k=k n:=by cases n<;>(unfold evI;exact aZ _ _)
theorem eG{α β:Type}:∀(l:List β)(k:List β->α),evL l k=k l
 |[],_=>rfl
 |a::r,k=>by rw[evL,eG r]
mutual
def evV{α:Type}:AV->(AV->α)->α
 |.int κ n,k=>evI n fun n=>k (.int κ n)
 |.bool true,k=>k (.bool true)
 |.bool false,k=>k (.bool false)
 |.str s,k=>evL s fun s=>k (.str s)
 |.lst τ xs none,k=>evL xs fun xs=>k (.lst τ xs none)
 |.lst τ xs (some i),k=>evL xs fun xs=>k (.lst τ xs (some i))
 |.row τ xs,k=>evL xs fun xs=>k (.row τ xs)
 |.arr i n w,k=>evN n fun n=>k (.arr i n w)
 |.aptr i n w o,k=>evN n fun n=>evN o fun o=>k (.aptr i n w o)
 |.cptr c,k=>evV c fun c=>k (.cptr c)
 |.agg cs,k=>evVs cs fun cs=>k (.agg cs)
 |.tup cs,k=>evVs cs fun cs=>k (.tup cs)
 |.fn f cs,k=>evVs cs fun cs=>k (.fn f cs)
 |.iface t a,k=>evV a fun a=>k (.iface t a)
 |.lstp τ xs i,k=>evL xs fun xs=>k (.lstp τ xs i)
 |.glst s n i,k=>evN s fun s=>evN n fun n=>k (.glst s n i)
 |.gptr i s n w o,k=>evN s fun s=>evN n fun n=>evN w fun w=>evN o fun o=>k (.gptr i s n w o)
 |.gsuf i s n w o,k=>evN s fun s=>evN n fun n=>evN w fun w=>evN o fun o=>k (.gsuf i s n w o)
 |.undef,k=>k .undef
 |.nils,k=>k .nils
 |.ptr i o,k=>k (.ptr i o)
 |.nilp,k=>k .nilp
 |.st n x,k=>k (.st n x)
 |.map i,k=>k (.map i)
 |.bptr i,k=>k (.bptr i)
 |.nilif,k=>k .nilif
 |.nilm,k=>k .nilm
 |.pt n x,k=>k (.pt n x)
 |.tptr τ n i,k=>k (.tptr τ n i)
def evVs{α:Type}:List AV->(List AV->α)->α
 |[],k=>k []
 |a::r,k=>evV a fun a=>evVs r fun r=>k (a::r)
end
mutual
theorem evV_eq{α:Type}:∀(a:AV)(k:AV->α),evV a k=k a
 |.int κ n,k=>by rw[evV,Bv]
 |.bool true,k=>rfl
 |.bool false,k=>rfl
 |.str s,k=>by rw[evV,eG]
 |.lst τ xs none,k=>by rw[evV,eG]
 |.lst τ xs (some i),k=>by rw[evV,eG]
 |.row τ xs,k=>by rw[evV,eG]
 |.arr i n w,k=>by rw[evV,aZ]
 |.aptr i n w o,k=>by rw[evV,aZ,aZ]
 |.cptr c,k=>by rw[evV,evV_eq c]
 |.agg cs,k=>by rw[evV,evVs_eq cs]
 |.tup cs,k=>by rw[evV,evVs_eq cs]
 |.fn f cs,k=>by rw[evV,evVs_eq cs]
 |.iface t a,k=>by rw[evV,evV_eq a]
 |.lstp τ xs i,k=>by rw[evV,eG]
 |.glst _ _ _,k=>by rw[evV,aZ,aZ]
 |.gptr _ _ _ _ _,k=>by rw[evV,aZ,aZ,aZ,aZ]
 |.gsuf _ _ _ _ _,k=>by rw[evV,aZ,aZ,aZ,aZ]
 |.undef,k=>rfl
 |.nils,k=>rfl
 |.ptr _ _,k=>rfl
 |.nilp,k=>rfl
 |.st _ _,k=>rfl
 |.map _,k=>rfl
 |.bptr _,k=>rfl
 |.nilif,k=>rfl
 |.nilm,k=>rfl
 |.pt _ _,k=>rfl
 |.tptr _ _ _,k=>rfl
theorem evVs_eq{α:Type}:∀(l:List AV)(k:List AV->α),evVs l k=k l
 |[],k=>rfl
 |a::r,k=>by rw[evVs,evV_eq a,evVs_eq r]
end
def evA{α:Type}(a:AV)(k:AV->α):α:=
 match a with
 |.int κ n=>evI n fun n=>k (.int κ n)
 |.bool b=>(match b with|true=>k (.bool true)|false=>k (.bool false))
 |.str s=>evL s fun s=>k (.str s)
 |.lst τ xs o=>evL xs fun xs=>(match o with|none=>k (.lst τ xs none)|some i=>k (.lst τ xs (some i)))
 |.row τ xs=>evL xs fun xs=>k (.row τ xs)
 |.arr i n w=>evN n fun n=>k (.arr i n w)
 |.aptr i n w o=>evN n fun n=>evN o fun o=>k (.aptr i n w o)
 |.ptr i o=>evN o fun o=>k (.ptr i o)
 |.cptr c=>evV c fun c=>k (.cptr c)
 |.agg cs=>evVs cs fun cs=>k (.agg cs)
 |.tup cs=>evVs cs fun cs=>k (.tup cs)
 |.fn f cs=>evVs cs fun cs=>k (.fn f cs)
 |.iface t a=>evV a fun a=>k (.iface t a)
 |.lstp τ xs i=>evL xs fun xs=>k (.lstp τ xs i)
 |.glst s n i=>evN s fun s=>evN n fun n=>k (.glst s n i)
 |.gptr i s n w o=>evN s fun s=>evN n fun n=>evN w fun w=>evN o fun o=>k (.gptr i s n w o)
 |.gsuf i s n w o=>evN s fun s=>evN n fun n=>evN w fun w=>evN o fun o=>k (.gsuf i s n w o)
 |a=>k a
theorem Lk{α:Type}(a:AV)(k:AV->α):evA a k=k a:=by
 unfold evA;split
 ·exact Bv _ _
 ·split<;>rfl
 ·exact eG _ _
 ·rw[eG];split<;>rfl
 ·exact eG _ _
 ·exact aZ _ _
 ·rw[aZ,aZ]
 ·exact aZ _ _
 ·exact evV_eq _ _
 ·exact evVs_eq _ _
 ·exact evVs_eq _ _
 ·exact evVs_eq _ _
 ·exact evV_eq _ _
 ·exact eG _ _
 ·rw[aZ,aZ]
 ·rw[aZ,aZ,aZ,aZ]
 ·rw[aZ,aZ,aZ,aZ]
 ·rfl
mutual
def evW{α:Type}:AV->(AV->α)->α
 |.int κ n,k=>evI n fun n=>k (.int κ n)
 |.bool true,k=>k (.bool true)
 |.bool false,k=>k (.bool false)
 |.lst τ xs none,k=>k (.lst τ xs none)
 |.lst τ xs (some i),k=>k (.lst τ xs (some i))
 |.row τ xs,k=>evL xs fun xs=>k (.row τ xs)
 |.arr i n w,k=>evN n fun n=>k (.arr i n w)
 |.aptr i n w o,k=>evN n fun n=>evN o fun o=>k (.aptr i n w o)
 |.cptr c,k=>evW c fun c=>k (.cptr c)
 |.agg cs,k=>evWs cs fun cs=>k (.agg cs)
 |.tup cs,k=>evWs cs fun cs=>k (.tup cs)
 |.fn f cs,k=>evWs cs fun cs=>k (.fn f cs)
 |.iface t a,k=>evW a fun a=>k (.iface t a)
 |.lstp τ xs i,k=>evL xs fun xs=>k (.lstp τ xs i)
 |.glst s n i,k=>evN s fun s=>evN n fun n=>k (.glst s n i)
 |.gptr i s n w o,k=>evN s fun s=>evN n fun n=>evN w fun w=>evN o fun o=>k (.gptr i s n w o)
 |.gsuf i s n w o,k=>evN s fun s=>evN n fun n=>evN w fun w=>evN o fun o=>k (.gsuf i s n w o)
 |.str s,k=>k (.str s)
 |.undef,k=>k .undef
 |.nils,k=>k .nils
 |.ptr i o,k=>evN o fun o=>k (.ptr i o)
 |.nilp,k=>k .nilp
 |.st n x,k=>k (.st n x)
 |.map i,k=>k (.map i)
 |.bptr i,k=>k (.bptr i)
 |.nilif,k=>k .nilif
 |.nilm,k=>k .nilm
 |.pt n x,k=>k (.pt n x)
 |.tptr τ n i,k=>k (.tptr τ n i)
def evWs{α:Type}:List AV->(List AV->α)->α
 |[],k=>k []
 |a::r,k=>evW a fun a=>evWs r fun r=>k (a::r)
end
mutual
theorem evW_eq{α:Type}:∀(a:AV)(k:AV->α),evW a k=k a
 |.int κ n,k=>by rw[evW,Bv]
 |.bool true,k=>rfl
 |.bool false,k=>rfl
 |.str s,k=>rfl
 |.lst τ xs none,k=>rfl
 |.lst τ xs (some i),k=>rfl
 |.row τ xs,k=>by rw[evW,eG]
 |.arr i n w,k=>by rw[evW,aZ]
 |.aptr i n w o,k=>by rw[evW,aZ,aZ]
 |.cptr c,k=>by rw[evW,evW_eq c]
 |.agg cs,k=>by rw[evW,evWs_eq cs]
 |.tup cs,k=>by rw[evW,evWs_eq cs]
 |.fn f cs,k=>by rw[evW,evWs_eq cs]
 |.iface t a,k=>by rw[evW,evW_eq a]
 |.lstp τ xs i,k=>by rw[evW,eG]
 |.glst _ _ _,k=>by rw[evW,aZ,aZ]
 |.gptr _ _ _ _ _,k=>by rw[evW,aZ,aZ,aZ,aZ]
 |.gsuf _ _ _ _ _,k=>by rw[evW,aZ,aZ,aZ,aZ]
 |.undef,k=>rfl
 |.nils,k=>rfl
 |.ptr _ o,k=>by rw[evW,aZ]
 |.nilp,k=>rfl
 |.st _ _,k=>rfl
 |.map _,k=>rfl
 |.bptr _,k=>rfl
 |.nilif,k=>rfl
 |.nilm,k=>rfl
 |.pt _ _,k=>rfl
 |.tptr _ _ _,k=>rfl
theorem evWs_eq{α:Type}:∀(l:List AV)(k:List AV->α),evWs l k=k l
 |[],k=>rfl
 |a::r,k=>by rw[evWs,evW_eq a,evWs_eq r]
end
def JH:Op->Bool
 |.load _ _=>true
 |.move _=>true
 |_=>false
def evQ{α:Type}(o:Oper)(a:AV)(k:AV->α):α:=match JH o.op with|true=>evW a k|false=>evA a k
theorem Ll{α:Type}(o:Oper)(a:AV)(k:AV->α):evQ o a k=k a:=by
 unfold evQ;split
 ·exact evW_eq _ _
 ·exact Lk _ _
def evO{α:Type}:SObj->(SObj->α)->α
 |.box c,k=>evW c fun c=>k (.box c)
 |.tail τ n,k=>evN n fun n=>k (.tail τ n)
 |.map κ τ m,k=>evL m fun m=>k (.map κ τ m)
 |.bld t u l,k=>evL l fun l=>k (.bld t u l)
 |.tailp τ n x,k=>evN n fun n=>k (.tailp τ n x)
 |.grow τ s xs,k=>evN s fun s=>evL xs fun xs=>k (.grow τ s xs)
theorem Lm{α:Type}(o:SObj)(k:SObj->α):evO o k=k o:=by
 cases o with|box c=>exact evW_eq _ _|tail τ n=>unfold evO;exact aZ _ _|map κ τ m=>exact eG _ _|bld t u l=>exact eG _ _|tailp τ n x=>unfold evO;exact aZ _ _|grow τ s xs=>show evN s (fun s=>evL xs fun xs=>k (.grow τ s xs))=_;rw[aZ,eG]
def evB{α:Type}:List (Nat×SObj)->(List (Nat×SObj)->α)->α
 |[],k=>k []
 |(i,o)::r,k=>evO o fun o=>evB r fun r=>k ((i,o)::r)
theorem wu{α:Type}:∀(l:List (Nat×SObj))(k:List (Nat×SObj)->α),evB l k=k l
 |[],k=>rfl
 |(i,o)::r,k=>by rw[evB,Lm,wu r]
def evS{α:Type}(s:St)(k:St->α):α:=evL s.t fun t=>evB s.b fun b=>k ⟨t,b⟩
theorem GZ{α:Type}(s:St)(k:St->α):evS s k=k s:=by rw[evS,eG,wu]
theorem EL{ob:Option DP}{q:Prop}(h:okO ob=true)(hq:q):rq ob q:=by
 cases ob with|none=>exact hq|some d=>exact⟨d.h h,hq⟩
def DA{α:Sort _}(ops:List Oper)(o:Oper)(T:Nat->AV)(bad:α)(on off:Unit->α):α:=
 match o.guard with
 |none=>on ()
 |some (j,want)=>
  match(nth ops j).bind (·.dst)with
  |none=>bad
  |some d=>
   match T d with
   |.bool true=>if want then on ()else off ()
   |.bool false=>if want then off ()else on ()
   |.tup []=>off ()
   |_=>bad
theorem Bw{α:Type}{ops:List Oper}{o:Oper}{T:Nat->AV}{y:α}{on off:Unit->Option α}{on' off':Unit->Prop}(hon:on ()=some y->on' ())(hoff:off ()=some y->off' ())
 (h:DA ops o T none on off=some y):DA ops o T False on' off':=by
 unfold DA at h⊢
 cases hg:o.guard with
 |none=>simp only[hg]at h⊢;exact hon h
 |some p=>
  obtain⟨j,want⟩:=p;simp only[hg]at h⊢
  cases hd:(nth ops j).bind (·.dst)with
  |none=>simp only[hd]at h;cases h
  |some d=>
   simp only[hd]at h⊢;generalize T d=v at h⊢;split at h
   ·split at h
    ·rename_i hw;exact(MT hw).symm ▸ hon h
    ·rename_i hw;exact(MS hw).symm ▸ hoff h
   ·split at h
    ·rename_i hw;exact(MT hw).symm ▸ hoff h
    ·rename_i hw;exact(MS hw).symm ▸ hon h
   ·exact hoff h
   ·cases h
def gdB(ops:List Oper)(g:Bool)(i:Nat):Bool:=match g with|true=>fF ops i|false=>false
def H0(ops:List Oper):Bool:=ops.any fun o=>o.guard.isSome
theorem Ln(ops:List Oper)(i:Nat):gdB ops (H0 ops) i=fF ops i:=by
 unfold gdB
 cases h:H0 ops with
 |true=>rfl
 |false=>
  show false=fF ops i;symm;unfold H0 at h;rw[List.any_eq_false]at h;unfold fF;rw[List.any_eq_false];intro o ho;have:=h o ho
  cases hg:o.guard with|none=>simp|some x=>rw[hg]at this;exact absurd rfl this
def yh(C:Cfg)(ops:List Oper)(g:Bool):List Oper->Nat->St->List bq->Option (St×List bq)
 |[],_,s,fs=>some (s,fs.reverse)
 |o::r,i,s,fs=>
  DA ops o (aM s.t) none
   (fun _=>
    match ar C o (aM s.t) (aj s.b)with
    |none=>none
    |some e=>
     match okO e.ob,bM C o (aM s.t) (aj s.b)with
     |true,none=>
      (match gdB ops g i,e.val with
      |true,.bool b=>(match b with
       |true=>yh C ops g r (i+1) ⟨rn s.t o.dst (.bool true),bO s.b e.upd⟩ ((aC C o (aM s.t) (aj s.b),e.upd.map (·.1))::fs)
       |false=>yh C ops g r (i+1) ⟨rn s.t o.dst (.bool false),bO s.b e.upd⟩ ((aC C o (aM s.t) (aj s.b),e.upd.map (·.1))::fs))
      |true,_=>none
      |false,v=>evQ o v fun v=>yh C ops g r (i+1) ⟨rn s.t o.dst v,bO s.b e.upd⟩ ((aC C o (aM s.t) (aj s.b),e.upd.map (·.1))::fs))
     |_,_=>none)
   (fun _=>yh C ops g r (i+1) ⟨rn s.t o.dst (.tup []),s.b⟩ (([],[])::fs))
theorem DB{C:Cfg}{ops:List Oper}{draw:Bool}{kp:AV->St->Prop}{k:St->List bq->Prop}{s':St}{fs':List bq}(hk:k s' fs') :
  ∀(l:List Oper)(i:Nat)(s:St)(fs:List bq),yh C ops (H0 ops) l i s fs=some (s',fs')->bE C ops draw kp l i s fs k
 |[],_,s,fs,h=>by simp only[yh,Xs,Pe]at h;obtain⟨rfl,rfl⟩:=h;exact hk
 |o::r,i,s,fs,h=>by
  have ih:=DB (C:=C) (ops:=ops) (draw:=draw) (kp:=kp) hk r;rw[yh,Ln]at h
  refine Bw (on':=fun _=>
   match ar C o (aM s.t) (aj s.b)with
   |none=>False
   |some e=>
    rq e.ob
    (match bM C o (aM s.t) (aj s.b)with
    |none=>
     (match fF ops i,e.val with
     |true,.bool b=>
      sp b (bE C ops draw kp r (i+1) (s.put o.dst {e with val:=.bool true}) ((aC C o (aM s.t) (aj s.b),e.upd.map (·.1))::fs) k)
       (bE C ops draw kp r (i+1) (s.put o.dst {e with val:=.bool false}) ((aC C o (aM s.t) (aj s.b),e.upd.map (·.1))::fs) k)
     |true,_=>False
     |false,_=>bE C ops draw kp r (i+1) (s.put o.dst e) ((aC C o (aM s.t) (aj s.b),e.upd.map (·.1))::fs) k)
    |some (b,pv,u)=>
     (match fF ops i with
     |true=>False
     |false=>sp b (vN C ops draw kp r i s fs (aC C o (aM s.t) (aj s.b),e.upd.map (·.1)) pv u) (bE C ops draw kp r (i+1) (s.put o.dst e) ((aC C o (aM s.t) (aj s.b),e.upd.map (·.1))::fs) k))))
   (off':=fun _=>bE C ops draw kp r (i+1) ⟨rn s.t o.dst (.tup []),s.b⟩ (([],[])::fs) k) ?_ (fun h=>ih _ _ _ h) h
  intro h;split at h
  ·cases h
  ·rename_i e he;split at h
   ·rename_i ho hp;refine EL ho ?_
    try simp only[hp]
    split at h
    ·rename_i b hg hv
     try simp only[hg,hv]
     split at h
     ·exact ih _ _ _ h
     ·exact ih _ _ _ h
    ·cases h
    ·rename_i v hg;simp only[Ll]at h
     try simp only[hg]
     exact ih _ _ _ h
   ·cases h
def JI(ops:List Oper)(i j:Nat):Bool:=((eF ops).getD j 0).testBit i
def mL:Nat->List bq->List (Nat×bq)
 |_,[]=>[]
 |i,f::r=>match f with|([],[])=>mL (i+1) r|f=>(i,f)::mL (i+1) r
def JJ(ops:List Oper)(i j:Nat):Bool:=match nth ops i,nth ops j with|some x,some y=>oL x y|_,_=>false
def pe(ops:List Oper):List (Nat×bq)->Bool
 |[]=>true
 | x::r=>r.all (fun p=>JI ops x.1 p.1||(de x.2 p.2||JJ ops x.1 p.1))&&pe ops r
def DC(ops:List Oper):Bool:=
 ((List.range ops.length).all fun j=>(List.range j).all fun i=>JI ops i j||(match nth ops i,nth ops j with | some x,some y=>fG ops x y | _,_=>false))&&
 (ops.zipIdx.all fun(o,j)=>o.after.all fun e=>!Region.binds .any e||Nat.blt e.on j)
def Bx(ops:List Oper)(fs:List bq):Bool:=DC ops&&fB fs ops.length&&pe ops (mL 0 fs)
theorem sw{α:Type}:∀{l:List α} {i:Nat},i<l.length->∃x,nth l i=some x
 |a::_,0,_=>⟨a,rfl⟩
 |_::r,i+1,h=>sw (l:=r) (Nat.lt_of_succ_lt_succ h)
theorem uW:∀{fs:List bq} {i0 k:Nat} {f:bq},nth fs k=some f->f≠([],[])->(i0+k,f)∈mL i0 fs
 |g::r,i0,0,f,h,hf=>by
  cases h;unfold mL;split
  ·exact absurd rfl hf
  ·exact Nn ..
 |g::r,i0,k+1,f,h,hf=>by
  have ih:=uW (fs:=r) (i0:=i0+1) (k:=k) h hf;rw[show i0+(k+1)=i0+1+k by omega];unfold mL;split
  ·exact ih
  ·exact N4 _ ih
theorem q9{ops:List Oper}:∀{fs:List bq} {i0 a b:Nat} {f g:bq},pe ops (mL i0 fs)=true->a<b->nth fs a=some f->nth fs b=some g->f≠([],[])->g≠([],[])->(JI ops (i0+a) (i0+b)||(de f g||JJ ops (i0+a) (i0+b)))=true
 |x::r,i0,0,b+1,f,g,h,_,hf,hg,h1,h2=>by
  cases hf;have hm:=uW (fs:=r) (i0:=i0+1) (k:=b) hg h2;unfold mL at h;split at h
  ·exact absurd rfl h1
  ·unfold pe at h;rw[MR,N6]at h;have:=h.1 _ hm
   rwa [show i0+1+b=i0+(b+1) by omega]at this
 |x::r,i0,a+1,b+1,f,g,h,hab,hf,hg,h1,h2=>by
  have hr:pe ops (mL (i0+1) r)=true:=by
   unfold mL at h;split at h
   ·exact h
   ·unfold pe at h;rw[MR]at h;exact h.2
  have:=q9 (fs:=r) (i0:=i0+1) (a:=a) (b:=b) hr (by omega) hf hg h1 h2
  rwa [show i0+1+a=i0+(a+1) by omega,show i0+1+b=i0+(b+1) by omega]at this
theorem By(g:bq):de ([],[]) g=true:=by unfold de ru;simp
theorem yi(f:bq):de f ([],[])=true:=by unfold de ru;simp
theorem od{α:Type}:∀{l:List α} {n:Nat},fB l n=true->l.length=n
 |[],0,_=>rfl
 |_::r,n+1,h=>by rw[Ni,od (l:=r) h]
theorem EM{ops:List Oper}{fs:List bq}(h:Bx ops fs=true):eM ops fs=true:=by
 unfold Bx DC at h;simp only[MR,N6,Ou]at h;obtain⟨⟨⟨h1,h2⟩,h3⟩,h4⟩:=h;have hl:=od h3;unfold eM;rw[MR];refine⟨?_,by rw[N6];intro p hp;have:=h2 p hp;exact(by obtain⟨o,j⟩:=p;simpa using this)⟩;rw[N6];intro j hj;rw[N6];intro i hi;rw[Ou]at hj hi;have k:=h1 j hj i hi;rw[NO]at k⊢;rcases k with k|k
 ·exact .inl k
 obtain⟨x,hx⟩:=sw (l:=ops) (i:=i) (by omega);obtain⟨y,hy⟩:=sw (l:=ops) (i:=j) hj;obtain⟨f,hf⟩:=sw (l:=fs) (i:=i) (by omega);obtain⟨g,hg⟩:=sw (l:=fs) (i:=j) (by omega);rw[hx,hy]at k;rw[hx,hy,hf,hg]
 have q:JI ops i j=true∨(de f g||JJ ops i j)=true:=by
  by_cases c1:f=([],[])
  ·rw[c1];exact .inr (by rw[By g];rfl)
  ·by_cases c2:g=([],[])
   ·rw[c2];exact .inr (by rw[yi f];rfl)
   ·have:=q9 h4 hi hf hg c1 c2;rw[NY,NY,NO]at this;exact this
 rcases q with q|q
 ·exact .inl q
 ·unfold JJ at q;rw[hx,hy]at q;exact .inr (by rw[MR];exact⟨k,q⟩)
end Go.AL
end
noncomputable section
namespace Go.AL
variable [Tabs]
def H2:List (Nat×SObj)->Nat->Nat
 |[],m=>m *1000+998
 |(i,_)::r,m=>H2 r (match Nat.ble m (i/1000)with|true=>i/1000+1|false=>m)
def wv:List Nat->St->Option St
 |[],s=>some s
 |i::r,s=>(match Gx i (H2 s.b 100) s with|some s=>wv r s|none=>none)
theorem oe{F:Fr}{a:Act}:∀(l:List Nat) {s s':St} {Ω:Om},Holds F s.abs a Ω->wv l s=some s'->∃Ω',Ω'.w=Ω.w/\Holds F s'.abs a Ω'
 |[],s,s',Ω,h,hr=>by cases hr;exact⟨Ω,rfl,h⟩
 |i::r,s,s',Ω,h,hr=>by
  unfold wv at hr;split at hr
  ·rename_i s1 h1;obtain⟨Ω1,e1,g1⟩:=nk h h1;obtain⟨Ω2,e2,g2⟩:=oe r g1 hr;exact⟨Ω2,e2.trans e1,g2⟩
  ·cases hr
def Bz(ops:List Oper)(s:St):Option St:=
 match enter ops s with
 |some s'=>some s'
 |none=>(match wv ((s.b.map (·.1)).filter fun i=>Dk (ry ops) (vO ops) i&&!bd i) s with|some s'=>enter ops s'|none=>none)
theorem wx{F:Fr}{ops:List Oper}{s s':St}{a:Act}{Ω:Om}(h:Holds F s.abs a Ω)(he:Bz ops s=some s'):∃Ω',Ω'.w=Ω.w/\Holds F s'.abs a Ω':=by
 unfold Bz at he;split at he
 ·rename_i s1 h1;cases he;exact lu h h1
 ·split at he
  ·rename_i s1 h1;obtain⟨Ω1,e1,g1⟩:=oe _ h h1;obtain⟨Ω2,e2,g2⟩:=lu g1 he;exact⟨Ω2,e2.trans e1,g2⟩
  ·cases he
end Go.AL
end
noncomputable section
namespace Go.AL
def H3(k:Nat)(s:St):Option St:=
 match aj s.b k with
 |some (.tailp τ n x)=>
  if((s.t.flatMap (fun y=>lensV k y.2)++s.b.flatMap (fun y=>KV k y.2)).all fun m=>Nat.beq m n)=true then
   some ⟨s.t.map fun y=>(y.1,finV k τ x y.2),(qo s.b k (.tail τ (n+1))).map fun y=>(y.1,Eh k τ x y.2)⟩else none
 |_=>some s
def DD:List Nat->St->Option St
 |[],s=>some s
 |k::r,s=>(match H3 k s with|some s=>DD r s|none=>none)
theorem uX{n:Nat}{q:Prop}(hq:q):∀l:List Nat,(l.all fun m=>Nat.beq m n)=true->vQ n l q
 |[],_=>hq
 |m::r,h=>by rw[Ny,MR]at h;exact⟨Ng h.1,uX hq r h.2⟩
theorem H4{k:Nat}{s s':St}{Q:St->Prop}(h:H3 k s=some s')(hq:Q s'):AK k s Q:=by
 unfold H3 at h;unfold AK;generalize hb:aj s.b k=b at h⊢
 cases b with
 |none=>cases h;exact hq
 |some o=>
  cases o with
  |tailp τ n x=>
   dsimp only at h⊢;split at h
   ·rename_i ha;cases h;exact uX hq _ ha
   ·cases h
  |_=>cases h;exact hq
theorem yj{Q:St->Prop}{s':St}(hq:Q s'):∀(l:List Nat)(s:St),DD l s=some s'->AM l s Q
 |[],s,h=>by cases h;exact hq
 |k::r,s,h=>by
  unfold DD at h;split at h
  ·rename_i s1 h1;exact H4 h1 (yj hq r s1 h)
  ·cases h
def trimM(keep:Nat)(s:St):St:=⟨s.t.filter fun x=>Nat.beq (Nat.land (Nat.shiftRight keep x.1) 1) 1,s.b⟩
def Lo(C:Cfg)(keep:Nat)(ops:Array Oper)(draw:Bool)(s:St):Option St:=
 match yh C ops.toList (H0 ops.toList) ops.toList 0 s []with
 |none=>none
 |some (s,fs)=>
  match DD (qD s.b) s with
  |none=>none
  |some s=>
   match draw with
   |false=>evS (trimM keep s) some
   |true=>(match Bx ops.toList fs with|true=>evS (trimM keep s) some|false=>none)
theorem Holds.trimM[Tabs]{F:Fr}{s:St}{a:Act}{Ω:Om}(h:Holds F s.abs a Ω)(keep:Nat):Holds F (trimM keep s).abs a Ω:=by
 refine⟨fun i=>?_,h.size,h.defers,h.slots,h.dom,h.inj,h.pubok,h.keep,h.frame⟩;have e:(AL.trimM keep s).abs.T i=if Nat.beq (Nat.land (Nat.shiftRight keep i) 1) 1=true then aM s.t i else .undef:=iW s.t (fun i=>Nat.beq (Nat.land (Nat.shiftRight keep i) 1) 1) i
 rw[e];split
 ·exact h.tmps i
 ·exact .undef _
theorem BA[Tabs]{P:Program}{C:Cfg}{F:Fr}(hm:P.follows .mixedOrders=true)(hT:aP P C.tbl)(hS:bz P C.spec){keep:Nat}{id:Nat}{ops:Array Oper}{draw:Bool}{s s':St}{a:Act}{Ω:Om}
 (hdst:∀(o:Oper),o∈ops.toList->∀d,o.dst=some d->d<F.n)(h:Lo C keep ops draw s=some s')(hh:Holds F s.abs a Ω):(Code.region id ops draw).wp P (QL F fun y t=>y=.normal/\t=s') a Ω.w:=by
 have key:bE C ops.toList draw (fun _ _=>False) ops.toList 0 s [] fun s2 fs=>Lc s2 fun s3=>s'=trimM keep s3/\(draw=true->eM ops.toList fs=true):=by
  unfold Lo at h;split at h
  ·cases h
  ·rename_i s1 fs h1;refine DB ?_ _ _ _ _ h1;split at h
   ·cases h
   ·rename_i s2 h2;refine yj ?_ _ _ h2;split at h
    ·rw[GZ]at h;cases h;exact⟨rfl,fun q=>by cases q⟩
    ·split at h
     ·rename_i hi;rw[GZ]at h;cases h;exact⟨rfl,fun _=>EM hi⟩
     ·cases h
 refine o9 hm hT hS hdst key (fun hdr s2 fs hk=>let ⟨s3,h3⟩:=pa _ hk;h3.2 hdr) hh (fun s2 fs a' Ω' hk h'=>
   let ⟨s3,Ω3,g1,g2,g3⟩:=sj h' hk
   ⟨.normal,trimM keep s3,Ω3,rfl,g1,g2.trimM keep,rfl,g3.1.symm⟩)
  (fun pv s2 a' Ω' v hk _ _=>hk.elim)
def DE(f:St->Option (SX×St)):Nat->St->Option (SX×St)
 |0,_=>none
 |n+1,s=>
  match f s with
  |some (.normal,s')=>DE f n s'
  |r=>r
def jm(C:Cfg)(keep:Nat)(pubs:List (Nat×List Nat))(N:Nat):Code->St->Option (SX×St)
 |.skip,s=>some (.normal,s)
 |.seq a b,s=>
  (match jm C keep pubs N a s with
  |some (.normal,s')=>jm C keep pubs N b s'
  |r=>r)
 |.cond c a b,s=>
  (match opd (aM s.t) c with
  |.bool true=>jm C keep pubs N a s
  |.bool false=>jm C keep pubs N b s
  |_=>none)
 |.block id c,s=>
  (match jm C keep pubs N c s with
  |some (.exit j,s')=>if j ==id then some (.normal,s')else some (.exit j,s')
  |r=>r)
 |.exit id,s=>some (.exit id,s)
 |.scope c,s=>jm C keep pubs N c s
 |.label _,s=>some (.normal,s)
 |.ret,s=>some (.ret,s)
 |.region id ops draw,s=>
  (match oN (rz pubs id) s with
  |none=>none
  |some s=>
   match Bz ops.toList s with
   |none=>none
   |some s=>
    match Lo C keep ops draw s with
    |some s=>some (.normal,s)
    |none=>none)
 |.loop c,s=>DE (jm C keep pubs N c) N s
 |_,_=>none
variable [Tabs]
variable {P:Program} {C:Cfg} {F:Fr}
theorem BB(hm:P.follows .mixedOrders=true)(hT:aP P C.tbl)(hS:bz P C.spec)(keep:Nat)(pubs:List (Nat×List Nat))(N:Nat) :
  ∀(c:Code)(s:St)(x:SX)(s':St)(a:Act)(Ω:Om),jm C keep pubs N c s=some (x,s')->bw F.n c=true->Holds F s.abs a Ω->c.wp P (QL F fun y t=>y=x/\t=s') a Ω.w:=by
 intro c
 induction c with
 |skip=>intro s x s' a Ω h _ hh;cases h;exact wp_skip ⟨.normal,s,Ω,rfl,rfl,hh,rfl,rfl⟩
 |region id ops draw=>
  intro s x s' a Ω h hd hh;unfold jm at h;split at h
  ·cases h
  ·rename_i s0 h0;obtain⟨Ω0,e0,g0⟩:=jZ _ hh h0;split at h
   ·cases h
   ·rename_i s1 h1;obtain⟨Ω1,e1,g1⟩:=wx g0 h1;have hdst:∀(o:Oper),o∈ops.toList->∀d,o.dst=some d->d<F.n:=by intro o ho d hod;simp only[bw,N6]at hd;have:=hd o ho;rw[hod]at this;simpa using this
    split at h
    ·rename_i s2 h2;cases h;rw[<-e0,<-e1];exact BA hm hT hS hdst h2 g1
    ·cases h
 |seq x y ihx ihy=>
  intro s z s' a Ω h hd hh;simp only[bw,MR]at hd;unfold jm at h
  cases h1:jm C keep pubs N x s with
  |none=>rw[h1]at h;cases h
  |some r=>
   obtain⟨e1,s1⟩:=r;rw[h1]at h;refine Qk (P0 (ihx s e1 s1 a Ω h1 hd.1 hh) ?_);intro e a' w' hq;obtain⟨e2,s2,Ω',g1,g2,g3,g4,g5⟩:=hq;subst g2 g4 g5
   cases e2 with
   |normal=>cases g1;exact ihy _ z s' a' Ω' h hd.2 g3
   |exit id=>cases g1;cases h;exact⟨.exit id,_,Ω',rfl,rfl,g3,rfl,rfl⟩
   |ret=>cases g1;cases h;exact⟨.ret,_,Ω',rfl,rfl,g3,rfl,rfl⟩
   |pan pv=>obtain⟨v,rfl,hv⟩:=g1;cases h;exact⟨.pan pv,_,Ω',⟨v,rfl,hv⟩,rfl,g3,rfl,rfl⟩
 |cond c x y ihx ihy=>
  intro s z s' a Ω h hd hh;simp only[bw,MR]at hd;unfold jm at h;have hv:=aQ hh c;split at h
  ·rename_i hb;have hb':opd s.abs.T c=.bool true:=hb;rw[hb']at hv;exact wp_cond hv.bool_inv (ihx _ z s' a Ω h hd.1 hh)
  ·rename_i hb;have hb':opd s.abs.T c=.bool false:=hb;rw[hb']at hv;exact wp_cond hv.bool_inv (ihy _ z s' a Ω h hd.2 hh)
  ·cases h
 |block id c ih=>
  intro s z s' a Ω h hd hh;simp only[bw]at hd;unfold jm at h
  cases h1:jm C keep pubs N c s with
  |none=>rw[h1]at h;cases h
  |some r=>
   obtain⟨e1,s1⟩:=r;rw[h1]at h;refine wp_block (P0 (ih s e1 s1 a Ω h1 hd hh) ?_);intro e a' w' hq;obtain⟨e2,s2,Ω',g1,g2,g3,g4,g5⟩:=hq;subst g2 g4 g5
   cases e2 with
   |normal=>cases g1;cases h;exact⟨.normal,_,Ω',rfl,rfl,g3,rfl,rfl⟩
   |ret=>cases g1;cases h;exact⟨.ret,_,Ω',rfl,rfl,g3,rfl,rfl⟩
   |pan pv=>obtain⟨v,rfl,hv⟩:=g1;cases h;exact⟨.pan pv,_,Ω',⟨v,rfl,hv⟩,rfl,g3,rfl,rfl⟩
   |exit j=>
    cases g1;simp only[Bt,Exit.inBlock];by_cases hj:j=id
    ·subst hj;simp only[Pq,NU]at h;cases h;simp only[NU];exact⟨.normal,_,Ω',rfl,rfl,g3,rfl,rfl⟩
    ·simp only[NR,hj,Nt]at h;cases h;rw[MS hj];exact⟨.exit j,_,Ω',rfl,rfl,g3,rfl,rfl⟩
 |loop c ih=>
  intro s z s' a Ω h hd hh;simp only[bw]at hd;unfold jm at h;refine wp_loop_rounds N ?_
  have key:∀(n:Nat)(s:St)(a:Act)(Ω:Om),DE (jm C keep pubs N c) n s=some (z,s')->Holds F s.abs a Ω->Code.rounds P c (QL F fun y t=>y=z/\t=s') n a Ω.w:=by
   intro n
   induction n with
   |zero=>intro s a Ω h _;cases h
   |succ n ihn=>
    intro s a Ω h hh;rw[rounds_succ];unfold DE at h
    cases h1:jm C keep pubs N c s with
    |none=>rw[h1]at h;cases h
    |some r=>
     obtain⟨e1,s1⟩:=r;rw[h1]at h;refine P0 (ih s e1 s1 a Ω h1 hd hh) ?_;intro e a' w' hq;obtain⟨e2,s2,Ω',g1,g2,g3,g4,g5⟩:=hq;subst g2 g4 g5
     cases e2 with
     |normal=>cases g1;exact ihn _ a' Ω' h g3
     |exit id=>cases g1;cases h;exact⟨.exit id,_,Ω',rfl,rfl,g3,rfl,rfl⟩
     |ret=>cases g1;cases h;exact⟨.ret,_,Ω',rfl,rfl,g3,rfl,rfl⟩
     |pan pv=>obtain⟨v,rfl,hv⟩:=g1;cases h;exact⟨.pan pv,_,Ω',⟨v,rfl,hv⟩,rfl,g3,rfl,rfl⟩
  exact key N s a Ω h hh
 |exit id=>intro s x s' a Ω h _ hh;cases h;exact wp_exit ⟨.exit id,s,Ω,rfl,rfl,hh,rfl,rfl⟩
 |ret=>intro s x s' a Ω h _ hh;cases h;exact wp_ret ⟨.ret,s,Ω,rfl,rfl,hh,rfl,rfl⟩
 |rangeFunc g ps x y _ _=>intro s z s' a Ω h;cases h
 |scope c ih=>
  intro s z s' a Ω h hd hh;simp only[bw]at hd;unfold jm at h;refine wp_scope_straight (P0 (ih s z s' a Ω h hd hh) ?_);intro e a' w' hq;obtain⟨e2,s2,Ω',h1,h2,h3,h4⟩:=hq
  cases e2 with
  |normal=>cases h1;exact⟨.normal,_,Ω',rfl,h2,h3,h4⟩
  |exit id=>cases h1;exact⟨.exit id,_,Ω',rfl,h2,h3,h4⟩
  |ret=>cases h1;exact⟨.ret,_,Ω',rfl,h2,h3,h4⟩
  |pan pv=>obtain⟨v,rfl,hv⟩:=h1;exact⟨.pan pv,_,Ω',⟨v,rfl,hv⟩,h2,h3,h4⟩
 |label l=>intro s x s' a Ω h _ hh;cases h;exact wp_label ⟨.normal,s,Ω,rfl,rfl,hh,rfl,rfl⟩
 |goto l=>intro s z s' a Ω h;cases h
 |refuse why=>intro s z s' a Ω h;cases h
end Go.AL
end
noncomputable section
namespace Go.AL
variable [Tabs]
def Lp:AV->Bool
 |.ptr k 0=>bd k
 |_=>false
def ptrIn(ks:List Nat):AV->Bool
 |.ptr k _=>ks.contains k
 |_=>false
def JK(ks:List Nat)(t:List (Nat×AV)):List (Nat×AV):=t.map fun x=>(x.1,if ptrIn ks x.2 then x.2 else .undef)
structure RC where
 r0:Code
 rest:Code
 crest:Code
 t5:Nat
 caps:List Operand
 t6:Nat
 t3:Nat
def Lq(g:Nat)(c cc:Code):Option RC:=
 match c,cc with
 |.seq r0 (.seq (.region _ o1 false) rest),.seq (.region _ o2 false) crest=>
  match o1.toList,o2.toList with
  |[⟨some t5,.makeFunc (.func g') fst caps,_,_,_,none⟩,⟨none,.defer ⟨.value (.tmp t5'),asx,_⟩,_,_,_,none⟩],
   [⟨some t6,.call ⟨.builtin .recover,as2,_⟩,_,_,_,none⟩,⟨some t3,.assign (.tmp t6'),_,_,_,none⟩]=>
   if Nat.beq g' g&&Nat.beq t5' t5&&Nat.beq t6' t6&&fst.isEmpty&&asx.isEmpty&&as2.isEmpty then some ⟨r0,rest,crest,t5,caps.toList,t6,t3⟩else none
  |_,_=>none
 |_,_=>none
def H5(C:Cfg)(rs:List ResultVar)(L:List db)(s1:St)(S1:List (Nat×SObj))(S:List (Nat×SObj))(A:Ans)(t2:List (Nat×AV))(s3:St):Prop:=
 match aX (aH s3.b)&&(aH S1).all (fun k=>(aH s3.b).contains k)with
 |true=>
  match kA C.tbl ⟨JK (aH S1) t2,s3.b⟩ rs with
  |some l=>
   (match kz (aj s1.b) L 998 (gW S1 s3.b),mapVs (pM L 998) (gV L 998) (gV L 998) l with
   |some u',some l'=>eP ⟨[],bO s1.b u'⟩ fun s4=>uH (some l') s4 A.val (bO S A.upd)
   |_,_=>False)
  |none=>False
 |false=>False
def yk(C:Cfg)(annC:An)(clo:Func)(R:RC)(caps:List AV)(v:AV)(s2:St)(fin:St->Prop):Prop:=
 iR (List.range clo.ntmps) fun keep=>eP ⟨fU (cI 0 caps) R.t3 v,s2.b⟩ fun s=>swp C keep annC R.crest s fun
  |.exit _,_=>False
  |.pan _,_=>False
  |_,s3=>fin s3
def fwpR(C:Cfg)(ann annC:An)(fn:Func)(g:Nat)(clo:Func)(args:List AV)(S:List (Nat×SObj))(A:Ans):Prop:=
 match fn.body,clo.body,A.pan with
 |some c,some cc,none=>
  match Lq g c cc with
  |none=>False
  |some R=>
   match bw fn.ntmps c&&bw clo.ntmps cc&&Nat.blt R.t5 fn.ntmps&&mF args fn.ntmps&&(aH S).all bd&&clo.results.isEmpty&&mF R.caps clo.ntmps&&mF R.caps R.t6 with
   |false=>False
   |true=>iR ((List.range fn.ntmps)) fun keep=>eP ⟨cI 0 args,S⟩ fun i=>swp C keep ann R.r0 i fun
    |.normal,s1=>
     (match(aH s1.b).map (fun i=>(i,(none:Option (Nat×Nat))))with
     |L=>
      (match aX (L.map (·.1))&&Nat.ble L.length 100,mapVs (toP L) (toI L) (toI L) ((List.range fn.ntmps).map (aM s1.t)),mapVs (toP L) (toI L) (toI L) (R.caps.map (opd (aM s1.t))),nN (aj s1.b) L L 900 with
      |true,some as1,some caps,some S1=>
       (match caps.all Lp with
       |true=>eP ⟨fU (cI 0 as1) R.t5 .undef,S1⟩ fun i=>swp C keep ann R.rest i fun
        |.exit _,_=>False
        |.pan v,s2=>yk C annC clo R caps v s2 (H5 C fn.results.toList L s1 S1 S A s2.t)
        |_,s2=>yk C annC clo R caps .nilif s2 (H5 C fn.results.toList L s1 S1 S A s2.t)
       |false=>False)
      |_,_,_,_=>False))
    |_,_=>False
 |_,_,_=>False
theorem pg:∀(u S:List (Nat×SObj))(i:Nat),aX (u.map (·.1))=true->aj (bO S u) i=(aj u i).or (aj S i)
 |[],S,i,_=>by simp[bO,aN,aG]
 |(j,o)::r,S,i,h=>by
  simp only[Nu,aX,MR,Nc]at h;simp only[bO];rw[pg r _ i h.2,ie];simp only[aN,aG];by_cases e:j=i
  ·subst e
   have:aj r j=none:=by
    cases hb:aj r j with|none=>rfl|some o'=>have:=bS r j o' hb;have h1:=h.1;simp only[NI,Ns,Nr,not_exists,not_and]at h1;exact absurd rfl (h1 _ this)
   simp[this]
  ·simp[e]
section
variable {P:Program} {C:Cfg}
theorem V.pinned{e0 e:Nat->Option CObj}{w0 w:World}{p0 p:Nat->Nat->Prop}(hk:∀id c,e0 id=some c->∃c',e id=some c'/\CLe c c'){a:AV}{v:Value}(ha:Lp a=true)(h:V ⟨e0,w0,p0⟩ a v):V ⟨e,w,p⟩ a v:=by
 cases h with
 |ptr i o b q len he=>obtain⟨c',h1,h2⟩:=hk i _ he;have:=h2.box;subst this;exact .ptr i o b q len h1
 |_=>simp[Lp]at ha
theorem Holds.retmp'{F:Fr}{s:AS}{a a':Act}{Ω:Om}(h:Holds F s a Ω){n:Nat}{ds:List Deferred}{T:Nat->AV}(hT:∀i,V Ω (T i) (a'.tmps.getD i undef))(hs:a'.tmps.size=n)(hd:a'.defers=ds) :
  Holds ⟨F.w0,F.pub0,n,F.e0,F.dom0,ds,F.tab0⟩ ⟨T,s.B⟩ a' Ω:=
 ⟨hT,hs,hd,h.slots,h.dom,h.inj,h.pubok,h.keep,⟨h.frame.os,h.frame.tape,h.frame.output,h.frame.size,h.frame.block,h.frame.cell,h.frame.kind,h.frame.pub,h.frame.old,h.frame.pcell⟩⟩
inductive Rcv:FrameMode->AV->Om->Value->FrameMode->Prop
 |ret (Ω:Om):Rcv .returning .nilif Ω .nilIface .returning
 |pan (Ω:Om) (a:AV) (v:Value):V Ω a v->Rcv (.panicking [{v,recovered:=false}]) a Ω v (.panicking [{v,recovered:=true}])
structure RCcode(g:Nat)(R:RC)(c cc:Code):Prop where
 code:∃i1 i2 ty1 ps1 af1 ty2 ps2 af2 ts2 ty3 ps3 af3 ts3 ty4 ps4 af4,
  c=.seq R.r0 (.seq (.region i1 #[⟨some R.t5,.makeFunc (.func g) #[] R.caps.toArray,ty1,ps1,af1,none⟩,⟨none,.defer ⟨.value (.tmp R.t5),#[],ts2⟩,ty2,ps2,af2,none⟩] false) R.rest)/\
  cc=.seq (.region i2 #[⟨some R.t6,.call ⟨.builtin .recover,#[],ts3⟩,ty3,ps3,af3,none⟩,⟨some R.t3,.assign (.tmp R.t6),ty4,ps4,af4,none⟩] false) R.crest
theorem H6{g:Nat}{c cc:Code}{R:RC}(h:Lq g c cc=some R):RCcode g R c cc:=by
 unfold Lq at h;split at h
 ·rename_i r0 i1 o1 rest i2 o2 crest;split at h
  ·rename_i h1 h2;split at h
   ·rename_i hc;simp only[MR,Nat.beq_eq,Array.isEmpty_iff]at hc;obtain⟨⟨⟨⟨⟨rfl,rfl⟩,rfl⟩,rfl⟩,rfl⟩,rfl⟩:=hc;simp only[Xs]at h;subst h;have e1:=Oz List.toArray h1;have e2:=Oz List.toArray h2;simp only[OA]at e1 e2;subst e1 e2;exact⟨_,_,_,_,_,_,_,_,_,_,_,_,_,_,_,_,rfl,rfl⟩
   ·cases h
  ·cases h
 ·cases h
theorem qa{ts:Array Nat}{d:Option Nat}{ty:Nat}{ps:String}{af:Array Edge}{ρ:Operand->Value}{w:World} :
  (execOp ρ ⟨d,.call ⟨.builtin .recover,#[],ts⟩,ty,ps,af,none⟩).run P w=.ok .recover w:=by
 simp[execOp,resolve,invoke,builtin]
theorem BC(hm:P.follows .mixedOrders=true)(hT:aP P C.tbl)(hS:bz P C.spec){g:Nat}{clo:Func}{c cc:Code}{R:RC}(hR:RCcode g R c cc)(hg:P.funcs[g]?=some clo)(hb:clo.body=some cc)
 (hd:bw clo.ntmps cc=true)(hres:clo.results=#[]){caps:List AV}(hcl:caps.length<=clo.ntmps)(hc6:caps.length<=R.t6){F:Fr}{s2:St}{a2:Act}{Ω2:Om}(h:Holds F s2.abs a2 Ω2){vs:List Value}(hv:VL Ω2 caps vs)
 {u u':FrameMode}{av:AV}{v:Value}(hrc:Rcv u av Ω2 v u'){annC:An}{fin:St->Prop}(hc:yk C annC clo R caps av s2 fin) :
  CallsD P g vs.toArray u Ω2.w fun en u2 w'=>u2=u'/\en=.returned (.tuple #[])/\∃s3 Ω3 a3 T,Ω3.w=w'/\fin s3/\Holds ⟨F.w0,F.pub0,clo.ntmps,F.e0,F.dom0,[],F.tab0⟩ ⟨T,aj s3.b⟩ a3 Ω3:=by
 obtain⟨i1,i2,ty1,ps1,af1,ty2,ps2,af2,ts2,ty3,ps3,af3,ts3,ty4,ps4,af4,_,rfl⟩:=hR;refine callsD_of_wpS hg hb (fun c₀ cs hu=>?_);apply wpS_seq;apply wpS_region;simp only[bw,MR,Ny,Q3,Ql,Pb]at hd;obtain⟨⟨hd6,hd3⟩,hdc⟩:=hd;have hvs:vs.length<=clo.ntmps:=by rw[<-hv.1];exact hcl
 have hbase:Holds ⟨F.w0,F.pub0,clo.ntmps,F.e0,F.dom0,[],F.tab0⟩ ⟨aM (cI 0 caps),aj s2.b⟩ {tmps:=vs.toArray++Array.replicate (clo.ntmps-vs.toArray.size) undef,defers:=[]} Ω2:=
  h.retmp' (fun i=>jj _ hv i) (by simp;omega) rfl
 have key:∃cs',(∃c1,cs'=c1::cs/\c1={c₀ with mode:=u'})/\∀Q':Exit->Act->List Frame->World->Prop,Q' .normal (({tmps:=vs.toArray++Array.replicate (clo.ntmps-vs.toArray.size) undef,defers:=[]}:Act).put (some R.t6) v|>.put (some R.t3) v) cs' Ω2.w->
   wpOpsS P #[⟨some R.t6,.call ⟨.builtin .recover,#[],ts3⟩,ty3,ps3,af3,none⟩,⟨some R.t3,.assign (.tmp R.t6),ty4,ps4,af4,none⟩] Q' [0,1] {tmps:=vs.toArray++Array.replicate (clo.ntmps-vs.toArray.size) undef,defers:=[]} (c₀::cs) Ω2.w:=by
  have two:∀(cs':List Frame)(Q':Exit->Act->List Frame->World->Prop),Q' .normal (({tmps:=vs.toArray++Array.replicate (clo.ntmps-vs.toArray.size) undef,defers:=[]}:Act).put (some R.t6) v|>.put (some R.t3) v) cs' Ω2.w->
    wpOpsS P #[⟨some R.t6,.call ⟨.builtin .recover,#[],ts3⟩,ty3,ps3,af3,none⟩,⟨some R.t3,.assign (.tmp R.t6),ty4,ps4,af4,none⟩] Q' [1] (({tmps:=vs.toArray++Array.replicate (clo.ntmps-vs.toArray.size) undef,defers:=[]}:Act).put (some R.t6) v) cs' Ω2.w:=by
   intro cs' Q' hq;have he:(({tmps:=vs.toArray++Array.replicate (clo.ntmps-vs.toArray.size) undef,defers:=[]}:Act).put (some R.t6) v).eval (.tmp R.t6)=v:=by show(Act.put _ (some R.t6) v).tmps.getD R.t6 undef=v;rw[bY hbase.size hd6,MT rfl]
   unfold wpOpsS;simp only[O0,P7,OK,Region.wanted,NU];have hr:(execOp (({tmps:=vs.toArray++Array.replicate (clo.ntmps-vs.toArray.size) undef,defers:=[]}:Act).put (some R.t6) v).eval ⟨some R.t3,.assign (.tmp R.t6),ty4,ps4,af4,none⟩).run P Ω2.w=.ok (.value v) Ω2.w:=by show(pure (Next.value (Act.eval _ (.tmp R.t6))):Sem Next).run P Ω2.w=_;rw[he];rfl
   rw[hr];simp only[Oper.upon];exact hq
  cases hrc with|ret=>refine⟨_,⟨c₀,rfl,by cases c₀;simp only at hu;subst hu;rfl⟩,fun Q' hq=>?_⟩;unfold wpOpsS;simp only[O0,OK,Region.wanted,NU];rw[qa];simp only[recoverD,hu];exact two _ Q' hq|pan _ _ hv'=>refine⟨_,⟨_,rfl,rfl⟩,fun Q' hq=>?_⟩;unfold wpOpsS;simp only[O0,OK,Region.wanted,NU];rw[qa];simp only[recoverD,hu];exact two _ Q' hq
 obtain⟨cs',⟨c1,rfl,hc1⟩,key⟩:=key;refine key _ ?_;refine wpS_of_wp ?_;unfold yk at hc;rw[iy,cE]at hc
 have hav:V Ω2 av v:=by
  cases hrc<;>first|exact .nilif|assumption
 have h1:=(hbase.pure (dst:=some R.t6) (val:=.undef) (v:=v) (.undef v) (fun d e=>by cases e;exact hd6)).pure (dst:=some R.t3) (val:=av) (v:=v) hav (fun d e=>by cases e;exact hd3)
 have h2:Holds ⟨F.w0,F.pub0,clo.ntmps,F.e0,F.dom0,[],F.tab0⟩ (St.abs ⟨fU (cI 0 caps) R.t3 av,s2.b⟩) _ Ω2:=h1.weak (s':=St.abs ⟨fU (cI 0 caps) R.t3 av,s2.b⟩) (fun i=>by
  simp only[St.abs,ed,b9];by_cases e3:R.t3=i
  ·right;simp[e3]
  ·by_cases e6:R.t6=i
   ·left;subst e6;rw[MS e3,gg,MT (N2 _),Po];simp[MX,MU hc6]
   ·right;simp[e3,e6]) rfl
 refine P0 (mh hm hT hS _ annC R.crest _ _ _ Ω2 hc hdc h2) ?_;intro e a' w' hq;obtain⟨z,s3,Ω3,q1,q2,q3,q4⟩:=hq;have fin3:fin s3->bodyPostS P clo c₀ cs (fun en u2 w'=>u2=u'/\en=.returned (.tuple #[])/\∃s3 Ω3 a3 T,Ω3.w=w'/\fin s3/\Holds ⟨F.w0,F.pub0,clo.ntmps,F.e0,F.dom0,[],F.tab0⟩ ⟨T,aj s3.b⟩ a3 Ω3) .ret a' (c1::cs) w':=by intro hf;refine⟨q3.defers,u',by rw[hc1],.tuple #[],by simp[results,hres],rfl,rfl,s3,Ω3,a',_,q2,hf,q3⟩
 cases z with
 |normal=>cases q1;exact fin3 q4
 |ret=>cases q1;exact fin3 q4
 |exit id=>exact q4.elim
 |pan v=>exact q4.elim
theorem EN{w:World}{pub:Nat->Nat->Prop}{e:Nat->Option CObj}{n:Nat}{hl:∀id c,e id=some c->bd id=true}{ds:List Deferred}{ht:il w pub e}{T:Nat->AV}{t:List (Nat×AV)}{b b':List (Nat×SObj)}{a:Act}{Ω:Om}{l:List AV}{us:List Value}{val:AV}
 (hh:Holds ⟨w,pub,n,e,hl,ds,ht⟩ ⟨T,aj b⟩ a Ω)(k2:VL Ω l us)(hend:uH (some l) ⟨t,b⟩ val b') :
  ∃pub' e',V ⟨e',Ω.w,pub'⟩ val (if h:us.toArray.size=1 then us.toArray[0]else .tuple us.toArray)/\After w pub e (aj b') Ω.w pub' e':=by
 unfold uH at hend;split at hend
 ·rename_i x hres;cases hres;obtain⟨u,rfl⟩:=jk (by rw[<-k2.1];rfl);have h1:=hh.retmp' (T:=aM (cI 0 [x])) (a':={tmps:=[u].toArray++Array.replicate 0 undef,defers:=[]}) (n:=1) (ds:=[]) (fun i=>jj 0 k2 i) (by simp) rfl;obtain⟨Ω2,e2,hh2⟩:=dG (s:=⟨[(0,x)],b⟩) h1 (gZ hend);refine⟨Ω2.pub,Ω2.e,?_,?_⟩
  ·have:=hh2.tmps 0;rw[<-e2];exact this
  ·rw[<-e2];exact iz hh2
 ·rename_i l' hne hres;cases hres;split at hend
  ·rename_i rs;split at hend
   ·rename_i hln;have hl2:=bJ _ _ hln;have h1:=hh.retmp' (T:=aM (cI 0 l)) (a':={tmps:=us.toArray++Array.replicate 0 undef,defers:=[]}) (n:=us.length) (ds:=[]) (fun i=>jj 0 k2 i) (by simp) rfl;obtain⟨Ω2,e2,hh2⟩:=dG (s:=⟨cI 0 l,b⟩) h1 (gZ hend);have hsz:¬us.toArray.size=1:=by intro h1;obtain⟨x,hx⟩:=jk (l:=l) (by rw[k2.1];simpa using h1);exact hne x hx
    rw[dif_neg hsz];refine⟨Ω2.pub,Ω2.e,?_,?_⟩
    ·refine .tup rs us (by rw[<-k2.1,<-hl2]) (fun j c v hc hv=>?_);have:=hh2.tmps j;simp only[St.abs,gg,N2,NU,Po,MX,hc,NL]at this;have e3:(us.toArray++Array.replicate 0 undef).getD j undef=v:=by simp[Na,hv]
     rw[e3]at this;rw[<-e2];exact this
    ·rw[<-e2];exact iz hh2
   ·exact hend.elim
  ·exact hend.elim
 ·rename_i h;cases h
theorem CLe.to_box{c:CObj}{b o l:Nat}(h:CLe c (.box b o l)):c=.box b o l:=by cases c<;>simp[CLe]at h;obtain⟨rfl,rfl,rfl⟩:=h;rfl
theorem V.ptrIn{F:Fr}{Ω2 Ω3:Om}{ks:List Nat}(h2:∀id c,F.e0 id=some c->∃c',Ω2.e id=some c'/\CLe c c')(h3:∀id c,F.e0 id=some c->∃c',Ω3.e id=some c'/\CLe c c')
 (hk:∀k∈ks,∃c,F.e0 k=some c){a:AV}{v:Value}(h:V Ω2 a v):V Ω3 (if AL.ptrIn ks a=true then a else .undef) v:=by
 split
 ·rename_i hp
  cases h with
  |ptr i o b q len he=>simp only[AL.ptrIn,NI,MV]at hp;obtain⟨c,hc⟩:=hk i hp;obtain⟨c2,e2,l2⟩:=h2 i c hc;rw[he]at e2;cases e2;have:=l2.to_box;subst this;obtain⟨c3,e3,l3⟩:=h3 i _ hc;have:=l3.box;subst this;exact .ptr i o b q len e3
  |_=>simp[AL.ptrIn]at hp
 ·exact .undef v
theorem EO(hT:aP P C.tbl){w:World}{pub:Nat->Nat->Prop}{e:Nat->Option CObj}{n n1:Nat}{hl:∀id c,e id=some c->bd id=true}{ht:il w pub e}{s1:St}{a1:Act}{Ω1:Om}{L:List db}{ht1:il Ω1.w Ω1.pub (cD L Ω1.e)}(h3:Holds ⟨w,pub,n,e,hl,[],ht⟩ s1.abs a1 Ω1)
 (hdist:aX (L.map (·.1))=true){S1:List (Nat×SObj)}(hS1:nN (aj s1.b) L L 900=some S1){hl1:∀id c,cD L Ω1.e id=some c->bd id=true}(hk1:∀k∈aH S1,∃c,cD L Ω1.e k=some c)
 {ds:List Deferred}{s2:St}{a2:Act}{Ω2:Om}(q3:Holds ⟨Ω1.w,Ω1.pub,n,cD L Ω1.e,hl1,ds,ht1⟩ s2.abs a2 Ω2){s3:St}{a3:Act}{Ω3:Om}{T:Nat->AV}(h5:Holds ⟨Ω1.w,Ω1.pub,n1,cD L Ω1.e,hl1,[],ht1⟩ ⟨T,aj s3.b⟩ a3 Ω3)
 {fn:Func}{S:List (Nat×SObj)}{A:Ans}(hpan:A.pan=none)(hf:H5 C fn.results.toList L s1 S1 S A s2.t s3) :
  ∃v,(results fn a2.tmps).run P Ω3.w=.ok v Ω3.w/\∃pub' e',(∀b pv u,A.pan=some (b,pv,u)->b=false)/\V ⟨e',Ω3.w,pub'⟩ A.val v/\After w pub e (aj (bO S A.upd)) Ω3.w pub' e':=by
 unfold H5 at hf;split at hf
 ·rename_i hck;simp only[MR,N6]at hck;obtain⟨hd3,hin⟩:=hck;split at hf
  ·rename_i l hres;split at hf
   ·rename_i u' l' hu' hl';rw[cE]at hf
    have hR:Holds ⟨Ω1.w,Ω1.pub,n,cD L Ω1.e,hl1,ds,ht1⟩ (St.abs ⟨JK (aH S1) s2.t,s3.b⟩) a2 Ω3:=by
     have:=h5.retmp' (T:=aM (JK (aH S1) s2.t)) (a':=a2) (n:=n) (ds:=ds) (fun i=>by
      rw[show aM (JK (aH S1) s2.t) i=if ptrIn (aH S1) (aM s2.t i)=true then aM s2.t i else .undef from nZ (fun x=>if ptrIn (aH S1) x=true then x else .undef) (by simp[ptrIn]) s2.t i];exact V.ptrIn (F:=⟨Ω1.w,Ω1.pub,n,cD L Ω1.e,hl1,ds,ht1⟩) q3.keep h5.keep hk1 (q3.tmps i)) q3.size q3.defers
     exact this
    obtain⟨us,k1,k2⟩:=fr hT hR _ _ hres;have hmap:(results fn a2.tmps).run P Ω3.w=.ok (if h:us.toArray.size=1 then us.toArray[0]else .tuple us.toArray) Ω3.w:=by rw[nt,<-OA (xs:=fn.results),PF];simp only[Nd,Sem.run_map,k1,MW,Nx]
    have hB:aj (bO S1 s3.b)=aj s3.b:=by
     funext i;rw[pg _ _ _ hd3]
     cases h:aj s3.b i with
     |some o=>rfl
     |none=>
      cases h':aj S1 i with|none=>rfl|some o=>have:=hin i (Nr.2 ⟨(i,o),bS _ _ _ h',rfl⟩);simp only[NI,MV]at this;exact absurd this (jh _ _ h)
    have hA:After Ω1.w Ω1.pub (cD L Ω1.e) (aj (bO S1 s3.b)) Ω3.w Ω3.pub Ω3.e:=by rw[hB];exact iz (h5.retmp' (T:=T) (a':=a3) (n:=n1) (ds:=[]) h5.tmps h5.size h5.defers)
    obtain⟨Ω',w1,w2,w3⟩:=oU h3 (d:=998) (by omega) hdist hS1 hd3 hu' (val:=.tup l) (val':=.tup l') (by simp only[mapV,hl']) (v:=.tuple us.toArray) (V.of_tup k2) hA;obtain⟨us',e1,k3⟩:=w2.tup_inv;have e2:us=us':=by have:=Oz Array.toList (Value.tuple.inj e1);simpa using this
    subst e2;rw[show s1.abs.B=aj s1.b from rfl,<-iv]at w3;obtain⟨pub',e',p1,p2⟩:=EN (T:=s1.abs.T) (b:=bO s1.b u') (t:=[]) w3 k3 hf;rw[w1]at p1 p2;exact⟨_,hmap,pub',e',(fun b pv u h=>by rw[hpan]at h;cases h),p1,p2⟩
   ·exact hf.elim
  ·exact hf.elim
 ·exact hf.elim
theorem fwpR_sound(hm:P.follows .mixedOrders=true)(hT:aP P C.tbl)(hS:bz P C.spec){ann annC:An}{f g:Nat}{fn clo:Func}(hf:P.funcs[f]?=some fn)(hg:P.funcs[g]?=some clo)
 (eg:∀args w,(callFunc g args).run P w=.ok (.enter g args) w){args:List AV}{S:List (Nat×SObj)}{A:Ans}(h:fwpR C ann annC fn g clo args S A):an P f args S A:=by
 intro w pub e vs hp ht hv hs hdom hinj;unfold fwpR at h;split at h
 ·rename_i c cc hb hcb hpan;split at h
  ·exact h.elim
  ·rename_i R hR;split at h
   ·exact h.elim
   ·rename_i hck;simp only[MR,N6,Array.isEmpty_iff,Pb]at hck;obtain⟨⟨⟨⟨⟨⟨⟨hk1,hk2⟩,hk5⟩,hk3⟩,hk4⟩,hres⟩,hcl⟩,hc6⟩:=hck;have hlen:=dP _ _ hk3;have hcl:=dP _ _ hcl;have hc6:=dP _ _ hc6;rw[iy,cE]at h
    have hlent:∀id c,e id=some c->bd id=true:=by
     intro id c hc
     cases hg:aj S id with
     |none=>rw[hdom id hg]at hc;cases hc
     |some o=>exact hk4 id (Nr.2 ⟨(id,o),bS _ _ _ hg,rfl⟩)
    have hRc:=H6 hR;obtain⟨i1,i2,ty1,ps1,af1,ty2,ps2,af2,ts2,ty3,ps3,af3,ts3,ty4,ps4,af4,rfl,_⟩:=id hRc;refine calls_of_wp_defers hf hb ?_;have hh:=kc (n:=fn.ntmps) hp ht hv hlen hs hdom hinj hlent;have hdr:bw fn.ntmps R.r0=true/\bw fn.ntmps R.rest=true:=by simp only[bw,MR]at hk1;exact⟨hk1.1,hk1.2.2⟩
    refine Qk (P0 (mh (F:=⟨w,pub,fn.ntmps,e,hlent,[],ht⟩) hm hT hS _ ann R.r0 _ _ _ _ h hdr.1 hh) ?_);intro en a1 w1 hq;obtain⟨z,s1,Ω1,q1,rfl,h3,h4⟩:=hq
    cases z with
    |exit id=>exact h4.elim
    |ret=>exact h4.elim
    |pan pv=>exact h4.elim
    |normal=>
     cases q1;simp only at h4;generalize hLL:(aH s1.b).map (fun i=>(i,(none:Option (Nat×Nat))))=L at h4;split at h4
     ·rename_i as1 caps S1 hdl has hcaps hS1;simp only[MR,Q5]at hdl;obtain⟨hdist,hL100⟩:=hdl;split at h4
      ·rename_i hcp;rw[cE]at h4;obtain⟨k1,k2,k3⟩:=ic L 900 S1 hS1;refine Qk (PD ?_);show wpOps P _ _ [0,1] a1 Ω1.w;refine bU (o:=⟨some R.t5,.makeFunc (.func g) #[] R.caps.toArray,ty1,ps1,af1,none⟩) rfl rfl (al (v:=.func (.func g) #[] (R.caps.toArray.map a1.eval)) (w':=Ω1.w) (by simp[execOp,Instr.makeFunc]) ?_);have he5:(a1.put (some R.t5) (.func (.func g) #[] (R.caps.toArray.map a1.eval))).eval (.tmp R.t5)=.func (.func g) #[] (R.caps.toArray.map a1.eval):=by show(Act.put a1 (some R.t5) _).tmps.getD R.t5 undef=_;rw[bY h3.size hk5,MT rfl]
       refine bU (o:=⟨none,.defer ⟨.value (.tmp R.t5),#[],ts2⟩,ty2,ps2,af2,none⟩) rfl rfl ?_;have hrun:(execOp (a1.put (some R.t5) (.func (.func g) #[] (R.caps.toArray.map a1.eval))).eval ⟨none,.defer ⟨.value (.tmp R.t5),#[],ts2⟩,ty2,ps2,af2,none⟩).run P Ω1.w=.ok (.defer {target:=.fn (.func g) (R.caps.toArray.map a1.eval),args:=#[]}) Ω1.w:=by have he5':=he5;simp only[List.map_toArray]at he5';simp[execOp,resolve,he5',Deferred.ofValue]
       unfold Oper.wp;rw[hrun];have hcv:R.caps.toArray.map a1.eval=(R.caps.map a1.eval).toArray:=by simp
       have hdef0:a1.defers=[]:=h3.defers
       have hvl1:VL Ω1 ((List.range fn.ntmps).map (aM s1.t)) a1.tmps.toList:=by
        have hz:a1.tmps.size=fn.ntmps:=h3.size;refine⟨by simp;omega,fun j c v hc hv=>?_⟩;simp only[Np,N3]at hc;obtain⟨q,hq,rfl⟩:=hc;have hqj:q=j:=by have:=Nw.1 hq;obtain⟨_,e⟩:=this;simpa using e.symm
        subst hqj;have:=h3.tmps q;rw[N7]at hv;simp only[Na,hv,NL]at this;exact this
       have hvc1:VL Ω1 (R.caps.map (opd (aM s1.t))) (R.caps.map a1.eval):=by refine⟨by simp,fun j c v hc hv=>?_⟩;simp only[Np,N3]at hc hv;obtain⟨x,hx,rfl⟩:=hc;obtain⟨y,hy,rfl⟩:=hv;rw[hx]at hy;cases hy;exact aQ h3 x
       have hvl:=hvl1.mapVs (l7 L Ω1.e) has;have hvc:=hvc1.mapVs (l7 L Ω1.e) hcaps;have hlent1:∀k i r,b6 L k=some (i,r)->∃o o',s1.abs.B i=some o/\eE L r o=some o'/\aj S1 k=some o':=by intro k i r hk;obtain⟨h1,h2⟩:=fo hk;obtain⟨o,o',q1,q2,q3⟩:=k2 _ i r h2;rw[show 900+(k-900)=k by omega]at q3;exact⟨o,o',q1,q2,q3⟩
       have hLs:∀q i r,nth L q=some (i,r)->∃o o',s1.abs.B i=some o/\eE L r o=some o':=fun q i r hq=>let ⟨o,o',q1,q2,_⟩:=k2 q i r hq;⟨o,o',q1,q2⟩
       have hslots:∀id o,aj S1 id=some o->b8 ⟨cD L Ω1.e,Ω1.w,Ω1.pub⟩ (fun _ _=>True) id o:=fun id o' ho'=>by obtain⟨q,i,r,o2,e1,e2,e3,e4⟩:=k1 id o' ho';subst e1;exact xV (cr (ma L i 900 q r hdist e2)) (h3.slots i o2 e3) e4
       have hdom1:∀id,aj S1 id=none->cD L Ω1.e id=none:=fun id hid=>by
        unfold cD
        cases hl:b6 L id with
        |none=>rfl
        |some x=>obtain⟨o1,o2,_,_,q3⟩:=hlent1 id x.1 x.2 hl;rw[hid]at q3;cases q3
       have hinj1:Inj (cD L Ω1.e):=fun i j c c' b oo hi hj ho1 ho2=>by obtain⟨i1,r1,c1,p1,p2,p3⟩:=jg h3.slots hLs hi;obtain⟨i2,r2,c2,p4,p5,p6⟩:=jg h3.slots hLs hj;have:=h3.inj i1 i2 c1 c2 b oo p2 p5 (p3 b oo ho1) (p6 b oo ho2);subst this;have a1:=cR hdist p1;have a2:=cR hdist p4;rw[a1]at a2;simp at a2;exact a2.1
       have hpin:∀id c,cD L Ω1.e id=some c->bd id=true:=by
        intro id c hc
        cases hg:aj S1 id with
        |none=>rw[hdom1 id hg]at hc;cases hc
        |some o=>have:=k3 (id,o) (bS _ _ _ hg);simp only[bd,MR,Q5,Pb];simp only at this;omega
       have hkS:∀k∈aH S1,∃c,cD L Ω1.e k=some c:=by
        intro k hk;obtain⟨x,hx,rfl⟩:=Nr.1 hk
        cases hg:aj S1 x.1 with
        |none=>exact absurd (Nr.2 ⟨x,hx,rfl⟩) (jh _ _ hg)
        |some o=>
         have hso:=hslots x.1 o hg
         cases o with
         |box c=>obtain⟨_,_,e1,_⟩:=hso;exact⟨_,e1⟩
         |tail τ n=>obtain⟨_,_,e1,_⟩:=hso;exact⟨_,e1⟩
         |map κ τ m=>obtain⟨_,e1,_⟩:=hso;exact⟨_,e1⟩
         |bld t u l=>obtain⟨_,_,e1,_⟩:=hso;exact⟨_,e1⟩
         |tailp τ n x=>obtain⟨_,_,e1,_⟩:=hso;exact⟨_,e1⟩
         |grow τ n x=>obtain⟨_,_,e1,_⟩:=hso;exact⟨_,e1⟩
       have hlen1:as1.length<=fn.ntmps:=by have:=hvl.1;rw[this,On,h3.size];exact N8 _
       have hi1:=kc (n:=fn.ntmps) h3.pubok (h3.tabsC hLs) hvl hlen1 hslots hdom1 hinj1 hpin
       have hi2:=hi1.retmp' (T:=aM (cI 0 as1)) (a':={tmps:=a1.tmps,defers:=[{target:=.fn (.func g) (R.caps.toArray.map a1.eval),args:=#[]}]}) (n:=fn.ntmps) (ds:=[{target:=.fn (.func g) (R.caps.toArray.map a1.eval),args:=#[]}])
        (fun i=>by
         have:=hi1.tmps i;have e0:(a1.tmps.toList.toArray++Array.replicate (fn.ntmps-a1.tmps.toList.toArray.size) undef)=a1.tmps:=by have hz:a1.tmps.size=fn.ntmps:=h3.size;apply NX;simp[hz]
         rw[e0]at this;exact this) h3.size rfl
       have hi3:=hi2.pure (dst:=some R.t5) (val:=.undef) (v:=.func (.func g) #[] (R.caps.toArray.map a1.eval)) (.undef _) (fun d e=>by cases e;exact hk5)
       have hi4:=hi3.weak (s':=St.abs ⟨fU (cI 0 as1) R.t5 .undef,S1⟩) (fun i=>by
        simp only[St.abs,ed,b9];by_cases e5:R.t5=i
        ·left;simp[e5]
        ·right;simp[e5]) rfl
       have hact:(({tmps:=a1.tmps,defers:=[{target:=.fn (.func g) (R.caps.toArray.map a1.eval),args:=#[]}]}:Act).put (some R.t5) (.func (.func g) #[] (R.caps.toArray.map a1.eval)))=
         ({(a1.put (some R.t5) (.func (.func g) #[] (R.caps.toArray.map a1.eval)))with defers:={target:=.fn (.func g) (R.caps.toArray.map a1.eval),args:=#[]}::(a1.put (some R.t5) (.func (.func g) #[] (R.caps.toArray.map a1.eval))).defers}:Act).put none undef:=by
        simp[Act.put,hdef0]
       show Code.wp P R.rest _ (({(a1.put (some R.t5) (.func (.func g) #[] (R.caps.toArray.map a1.eval)))with defers:={target:=.fn (.func g) (R.caps.toArray.map a1.eval),args:=#[]}::(a1.put (some R.t5) (.func (.func g) #[] (R.caps.toArray.map a1.eval))).defers}:Act).put none undef) Ω1.w;rw[<-hact];refine P0 (mh hm hT hS _ ann R.rest _ _ _ ⟨cD L Ω1.e,Ω1.w,Ω1.pub⟩ h4 hdr.2 hi4) ?_;intro en a2 w2 hq;obtain⟨z,s2,Ω2,g1,rfl,g3,g4⟩:=hq;have hcv2:VL Ω2 caps (R.caps.map a1.eval):=by refine⟨hvc.1,fun j c v hc hv=>?_⟩;exact V.pinned g3.keep (N6.1 hcp c (Nf hc)) (hvc.2 j c v hc hv)
       have hcl':caps.length<=clo.ntmps:=by rw[hvc.1,NT];exact hcl
       have hc6':caps.length<=R.t6:=by rw[hvc.1,NT];exact hc6
       have close:∀(u u':FrameMode)(av:AV)(v:Value),u≠.run->settle u'=.returning->Rcv u av Ω2 v u'->yk C annC clo R caps av s2 (H5 C fn.results.toList L s1 S1 S A s2.t)->
         Leaves P fn a2.tmps (fun en w'=>∃pub' e',match en with
          |.returned v=>(∀b pv u,A.pan=some (b,pv,u)->b=false)/\V ⟨e',w',pub'⟩ A.val v/\After w pub e (aj (bO S A.upd)) w' pub' e'
          |.panicked ch=>∃pv u v,A.pan=some (true,pv,u)/\ch=[{v,recovered:=false}]/\V ⟨e',w',pub'⟩ pv v/\After w pub e (aj (bO S u)) w' pub' e'
          |.outgrown=>False) [{target:=.fn (.func g) (R.caps.toArray.map a1.eval),args:=#[]}] u Ω2.w:=by
        intro u u' av v hu hse hrc hcr;refine leaves_cons (f:=g) (args:=(R.caps.map a1.eval).toArray) hu (by simp[invoke,eg]) ?_;refine(BC hm hT hS hRc hg hcb hk2 hres hcl' hc6' g3 hcv2 hrc hcr).mono ?_;rintro en u2 w3 ⟨rfl,rfl,s3,Ω3,a3,T3,rfl,hfin,h5⟩;simp only[hse,Leaves];obtain⟨v,r1,pub',e',r2,r3,r4⟩:=EO hT h3 hdist hS1 hkS g3 h5 hpan hfin;exact⟨v,r1,pub',e',r2,r3,r4⟩
       have hds:a2.defers=[{target:=.fn (.func g) (R.caps.toArray.map a1.eval),args:=#[]}]:=g3.defers
       cases z with
       |normal=>cases g1;show Leaves P fn a2.tmps _ a2.defers .returning Ω2.w;rw[hds];exact close .returning .returning .nilif .nilIface (by simp) rfl (.ret Ω2) g4
       |ret=>cases g1;show Leaves P fn a2.tmps _ a2.defers .returning Ω2.w;rw[hds];exact close .returning .returning .nilif .nilIface (by simp) rfl (.ret Ω2) g4
       |exit id=>exact g4.elim
       |pan pv=>obtain⟨v,rfl,hv⟩:=g1;show Leaves P fn a2.tmps _ a2.defers (.panicking [{v,recovered:=false}]) Ω2.w;rw[hds];exact close _ (.panicking [{v,recovered:=true}]) pv v (by simp) (by simp[settle]) (.pan Ω2 pv v hv) g4
      ·exact h4.elim
     ·exact h4.elim
 ·exact h.elim
end
end Go.AL
end
noncomputable section
namespace Go.AL
variable [Tabs]
mutual
def fineV:AV->Bool
 |.lstp _ _ _=>false
 |.tptr _ _ _=>false
 |.gsuf _ _ _ _ _=>false
 |.cptr c=>fineV c
 |.agg cs=>fineVs cs
 |.tup cs=>fineVs cs
 |.fn _ cs=>fineVs cs
 |.iface _ a=>fineV a
 |_=>true
def fineVs:List AV->Bool
 |[]=>true
 |a::r=>fineV a&&fineVs r
end
def KX:SObj->Bool
 |.box c=>fineV c
 |.tailp _ _ _=>false
 |_=>true
mutual
def strip:AV->AV
 |.lst τ xs _=>.lst τ xs none
 |.agg cs=>.agg (strips cs)
 |.tup cs=>.tup (strips cs)
 |a=>a
def strips:List AV->List AV
 |[]=>[]
 |a::r=>strip a::strips r
end
theorem kd(τ:Ty)(xs:List (den τ)):eK τ τ xs=some xs:=by simp[eK]
theorem BD(n:SN)(x:SD n):kP n n x=some x:=by simp[kP]
theorem BE(n:SN)(x:Option (SD n)):pK n n x=some x:=by simp[pK]
theorem sx(a:AV):uG a a:=by cases a<;>trivial
mutual
theorem LeV_self(G:List Nat):∀a:AV,fineV a=true->LeV G a a
 |.undef,_=>bH (by simp[LeF])
 |.int k n,_=>bH (by simp[LeF])
 |.bool b,_=>bH (by simp[LeF])
 |.str s,_=>bH (by simp[LeF])
 |.lst τ xs o,_=>bH (by simp[LeF,kd])
 |.nils,_=>bH (by simp[LeF])
 |.ptr i o,_=>bH (by simp[LeF])
 |.nilp,_=>bH (by simp[LeF])
 |.pt n x,_=>bH (by simp[LeF,BE])
 |.st n x,_=>bH (by simp[LeF,BD])
 |.row τ xs,_=>bH (by simp[LeF,kd])
 |.arr i n w,_=>bH (by simp[LeF])
 |.aptr i n w o,_=>bH (by simp[LeF])
 |.map i,_=>bH (by simp[LeF])
 |.glst _ _ _,_=>bH (by simp[LeF])
 |.gptr _ _ _ _ _,_=>bH (by simp[LeF])
 |.gsuf _ _ _ _ _,h=>by simp[fineV]at h
 |.bptr i,_=>bH (by simp[LeF])
 |.nilif,_=>bH (by simp[LeF])
 |.nilm,_=>bH (by simp[LeF])
 |.cptr c,h=>by simp only[fineV]at h;unfold LeV;exact⟨sx c,LeV_self G c h⟩
 |.agg cs,h=>by simp only[fineV]at h;unfold LeV;exact LeL_self G cs h
 |.tup cs,h=>by simp only[fineV]at h;unfold LeV;exact LeL_self G cs h
 |.fn f cs,h=>by simp only[fineV]at h;unfold LeV;exact⟨by simp,LeL_self G cs h⟩
 |.iface t a,h=>by simp only[fineV]at h;unfold LeV;exact⟨by simp,LeV_self G a h⟩
 |.lstp _ _ _,h=>by cases h
 |.tptr _ _ _,h=>by cases h
theorem LeL_self(G:List Nat):∀l:List AV,fineVs l=true->LeL G l l
 |[],_=>by unfold LeL;trivial
 |a::r,h=>by simp only[fineVs,MR]at h;unfold LeL;exact⟨LeV_self G a h.1,LeL_self G r h.2⟩
end
mutual
theorem LeV_strip(G:List Nat):∀a:AV,fineV a=true->LeV G a (strip a)
 |.lst τ xs o,_=>by unfold strip;exact bH (by simp[LeF,kd])
 |.agg cs,h=>by simp only[fineV]at h;unfold strip LeV;exact LeL_strip G cs h
 |.tup cs,h=>by simp only[fineV]at h;unfold strip LeV;exact LeL_strip G cs h
 |.undef,h=>LeV_self G _ h
 |.int k n,h=>LeV_self G _ h
 |.bool b,h=>LeV_self G _ h
 |.str s,h=>LeV_self G _ h
 |.nils,h=>LeV_self G _ h
 |.ptr i o,h=>LeV_self G _ h
 |.nilp,h=>LeV_self G _ h
 |.pt n x,h=>LeV_self G _ h
 |.st n x,h=>LeV_self G _ h
 |.row τ xs,h=>LeV_self G _ h
 |.arr i n w,h=>LeV_self G _ h
 |.aptr i n w o,h=>LeV_self G _ h
 |.map i,h=>LeV_self G _ h
 |.glst _ _ _,h=>LeV_self G _ h
 |.gptr _ _ _ _ _,h=>LeV_self G _ h
 |.gsuf _ _ _ _ _,h=>LeV_self G _ h
 |.bptr i,h=>LeV_self G _ h
 |.nilif,h=>LeV_self G _ h
 |.nilm,h=>LeV_self G _ h
 |.cptr c,h=>LeV_self G _ h
 |.fn f cs,h=>LeV_self G _ h
 |.iface t a,h=>LeV_self G _ h
 |.lstp _ _ _,h=>by cases h
 |.tptr _ _ _,h=>by cases h
theorem LeL_strip(G:List Nat):∀l:List AV,fineVs l=true->LeL G l (strips l)
 |[],_=>by unfold strips LeL;trivial
 |a::r,h=>by simp only[fineVs,MR]at h;unfold strips LeL;exact⟨LeV_strip G a h.1,LeL_strip G r h.2⟩
end
theorem yl{G:List Nat}{s:St}:∀(l l':List AV)(k:Nat),LeL G l l'->(∀j,aM s.t (k+j)=l.getD j .undef)->LeT G s (cI k l')
 |[],[],k,_,_=>trivial
 |a::r,b::r',k,h,hg=>by
  unfold LeL at h;refine⟨?_,yl r r' (k+1) h.2 fun j=>?_⟩
  ·have:=hg 0;rw[Ov]at this;rw[this];exact h.1
  ·have:=hg (j+1);rw[show k+1+j=k+(j+1) by omega,this];rfl
 |[],_::_,_,h,_=>by unfold LeL at h;exact h.elim
 |_::_,[],_,h,_=>by unfold LeL at h;exact h.elim
theorem jn{G:List Nat}{s:St}:∀l:List (Nat×SObj),(∀x∈l,aj s.b x.1=some x.2/\KX x.2=true)->LeB G s l
 |[],_=>trivial
 |(i,.box c)::r,h=>by obtain⟨h1,h2⟩:=h _ (Nn ..);refine⟨?_,jn r fun x hx=>h x (N4 _ hx)⟩;simp only at h1;rw[h1];exact⟨sx c,LeV_self G c h2⟩
 |(i,.tail τ n)::r,h=>by obtain⟨h1,h2⟩:=h _ (Nn ..);refine⟨?_,jn r fun x hx=>h x (N4 _ hx)⟩;simp only at h1;rw[h1];simp
 |(i,.map κ τ m)::r,h=>by obtain⟨h1,h2⟩:=h _ (Nn ..);refine⟨?_,jn r fun x hx=>h x (N4 _ hx)⟩;simp only at h1;rw[h1];simp[Dl]
 |(i,.bld t u l)::r,h=>by obtain⟨h1,h2⟩:=h _ (Nn ..);refine⟨?_,jn r fun x hx=>h x (N4 _ hx)⟩;simp only at h1;rw[h1];simp
 |(i,.tailp τ n x)::r,h=>by obtain⟨h1,h2⟩:=h _ (Nn ..);cases h2
 |(i,.grow τ n xs)::r,h=>by obtain⟨h1,h2⟩:=h _ (Nn ..);refine⟨?_,jn r fun x hx=>h x (N4 _ hx)⟩;simp only at h1;rw[h1];simp[kd]
end Go.AL
end
noncomputable section
namespace Go.AL
def qb(S:List (Nat×SObj))(x:Nat×SObj):Bool:=match aj S x.1 with|some o=>eqO o x.2|none=>false
def H7:List AV->AV
 |[a]=>a
 |l=>.tup l
def H8(s:St)(l:List AV):List (Nat×SObj):=
 s.b.filter fun x=>bd x.1||(jc (aj s.b) 64 (ids.idsL l++(aH s.b).filter bd) []).contains x.1
def Lr:Bool->List AV->List AV
 |true,l=>l
 |false,l=>strips l
def H9(tok:Bool)(S:List (Nat×SObj))(s:St)(l:List AV):Option Ans:=
 evVs (Lr tok l) fun l'=>evB (H8 s l') fun kept=>
  match fineVs l&&(kept.all (fun x=>KX x.2))&&aX (aH s.b)&&(aH S).all (fun i=>(aH kept).contains i)&&
    (cn ((aH s.b).filter fun i=>!(aH kept).contains i) ⟨cI 0 l',kept⟩&&((aH s.b).filter fun i=>!(aH kept).contains i).all (fun i=>!bd i))with
  |true=>some ⟨none,none,H7 l',kept.filter fun x=>!qb S x⟩
  |false=>none
theorem qJ:∀{l:List (Nat×SObj)},aX (aH l)=true->∀{i:Nat} {o:SObj},(i,o)∈l->aj l i=some o
 |[],_,_,_,h=>by cases h
 |(j,u)::r,hd,i,o,h=>by
  simp only[aH,Nu,aX,MR,Nc,NI,Ns]at hd;rcases N9.1 h with e|e
  ·cases e;simp[aN,aG]
  ·have hne:¬j=i:=fun q=>hd.1 (Nr.2 ⟨_,e,q.symm⟩);simp only[aN,aG,NR,hne,Nt];exact qJ hd.2 e
theorem gP(p:Nat×SObj->Bool):∀{l:List (Nat×SObj)},aX (aH l)=true->aX (aH (l.filter p))=true
 |[],_=>rfl
 |x::r,hd=>by
  simp only[aH,Nu,aX,MR,Nc,NI,Ns]at hd;have ih:=gP p hd.2;rw[List.filter_cons];split
  ·simp only[aH,Nu,aX,MR,Nc,NI,Ns];refine⟨fun h=>hd.1 ?_,ih⟩;obtain⟨y,hy,e⟩:=Nr.1 h;exact Nr.2 ⟨y,(NN.1 hy).1,e⟩
  ·exact ih
variable [Tabs]
theorem Ha{l:List (Nat×SObj)}{i:Nat}(h:aj l i=none):i∉aH l:=jh l i h
theorem sy{l:List (Nat×SObj)}{i:Nat}(h:i∉aH l):aj l i=none:=by
 cases hb:aj l i with|none=>rfl|some o=>exact absurd (Nr.2 ⟨(i,o),bS l i o hb,rfl⟩) h
theorem JL{S kept:List (Nat×SObj)}(hd:aX (aH kept)=true)(hS:∀i∈aH S,i∈aH kept):aj (bO S (kept.filter fun x=>!qb S x))=aj kept:=by
 funext i;have hdf:=gP (fun x=>!qb S x) hd;rw[pg _ S i hdf]
 cases hk:aj kept i with
 |some o=>
  have hm:=bS kept i o hk
  cases hs:qb S (i,o)with
  |false=>have:(i,o)∈kept.filter fun x=>!qb S x:=NN.2 ⟨hm,by rw[hs];rfl⟩;rw[qJ hdf this];rfl
  |true=>
   have hn:aj (kept.filter fun x=>!qb S x) i=none:=by
    cases hb:aj (kept.filter fun x=>!qb S x) i with
    |none=>rfl
    |some o'=>have h1:=NN.1 (bS _ i o' hb);have h2:=qJ hd h1.1;rw[hk]at h2;cases h2;have h3:=h1.2;rw[hs]at h3;cases h3
   rw[hn];unfold qb at hs;split at hs
   ·rename_i o' ho';simp only at ho' hs;rw[ho',Gm hs];rfl
   ·cases hs
 |none=>
  have h1:i∉aH kept:=Ha hk;rw[sy (l:=S) fun h=>h1 (hS i h),sy fun h=>h1 ?_]
  ·rfl
  ·obtain⟨y,hy,e⟩:=Nr.1 h;exact Nr.2 ⟨y,(NN.1 hy).1,e⟩
theorem sA{G:List Nat}:∀{l m:List AV},LeL G l m->l.length=m.length
 |[],[],_=>rfl
 |_::_,_::_,h=>by unfold LeL at h;rw[Ni,Ni,sA h.2]
 |[],_::_,h=>by unfold LeL at h;exact h.elim
 |_::_,[],h=>by unfold LeL at h;exact h.elim
theorem EP{tok:Bool}{S:List (Nat×SObj)}{s:St}{l:List AV}{A:Ans}(h:H9 tok S s l=some A) :
  A.ob=none/\A.pan=none/\∃l' kept,A.val=H7 l'/\l'.length=l.length/\LeS ⟨cI 0 l,s.b⟩ ⟨cI 0 l',kept⟩/\aj (bO S A.upd)=aj kept:=by
 unfold H9 at h;rw[evVs_eq,wu]at h;split at h
 ·rename_i hc;cases h;simp only[MR,N6]at hc;obtain⟨⟨⟨⟨h1,h2⟩,h3⟩,h4⟩,h5,h6⟩:=hc;refine⟨rfl,rfl,Lr tok l,H8 s (Lr tok l),rfl,?_,⟨?_,?_,?_⟩,?_⟩
  ·cases tok with|true=>rfl|false=>exact(sA (LeL_strip [] l h1)).symm
  ·rw[MT]
   ·trivial
   ·rw[MR,N6];exact⟨h5,h6⟩
  ·refine yl l _ 0 ?_ fun j=>?_
   ·cases tok with|true=>exact LeL_self _ l h1|false=>exact LeL_strip _ l h1
   ·show aM (cI 0 l) (0+j)=_;rw[gg];simp
  ·refine jn _ fun x hx=>⟨?_,h2 x hx⟩;exact qJ h3 (NN.1 hx).1
  ·refine JL (gP _ h3) fun i hi=>?_;have:=h4 i hi
   rwa [NI,MV]at this
 ·cases h
structure FB where
 body:Code
 n:Nat
 res:List ResultVar
 keep:Nat
 pubs:List (Nat×List Nat)
 pend:Nat->Bool
 rows:Nat->Bool
 same:Nat->Bool
 tok:Bool
 ps:List (Option Ty)
def Hb:Option Ty->AV->AV
 |some (.st n),a=>(match arg (.st n) a with|some x=>.st n x|none=>a)
 |_,a=>a
def DF:List (Option Ty)->List AV->List AV
 |p::ps,a::r=>Hb p a::DF ps r
 |_,l=>l
def Ls(C:Cfg)(N:Nat)(x:FB)(args:List AV)(S:List (Nat×SObj)):Option Ans:=
 evVs (DF x.ps args) fun args=>evB S fun S=>
  match mF args x.n&&(aH S).all bd with
  |false=>none
  |true=>
   match jm C x.keep x.pubs N x.body ⟨cI 0 args,S⟩with
   |some (.normal,s)=>(match kA C.tbl s x.res with|some l=>H9 x.tok S s l|none=>none)
   |some (.ret,s)=>(match kA C.tbl s x.res with|some l=>H9 x.tok S s l|none=>none)
   |_=>none
variable {P:Program} {C:Cfg}
theorem Hc(p:Option Ty)(a:AV):Rd a (Hb p a):=by
 unfold Hb;split
 ·split
  ·rename_i x hx;exact Rd.arg hx
  ·exact Rd.refl a
 ·exact Rd.refl a
theorem ym:∀(ps:List (Option Ty))(l:List AV),RdL l (DF ps l)
 |[],l=>RdL.refl l
 |p::ps,[]=>.nil
 |p::ps,a::r=>.cons (Hc p a) (ym ps r)
theorem runF_meets(hm:P.follows .mixedOrders=true)(hT:aP P C.tbl)(hS:bz P C.spec){N:Nat}{x:FB}{f:Nat}{fn:Func}(hf:P.funcs[f]?=some fn)(hb:fn.body=some x.body)(hn:fn.ntmps=x.n)(hr:fn.results.toList=x.res)
 (hd:bw x.n x.body=true){args:List AV}{S:List (Nat×SObj)}{A:Ans}(h:Ls C N x args S=some A):an P f args S A:=by
 refine an.args (ym x.ps args) ?_;intro w pub e vs hp ht hv hs hdom hinj;unfold Ls at h;rw[evVs_eq,wu]at h;split at h
 ·cases h
 ·rename_i hck;simp only[MR,N6]at hck;obtain⟨hck2,hck3⟩:=hck;have hlen:=dP _ _ hck2
  have hlent:∀id c,e id=some c->bd id=true:=by
   intro id c hc
   cases hg:aj S id with
   |none=>rw[hdom id hg]at hc;cases hc
   |some o=>exact hck3 id (Nr.2 ⟨(id,o),bS _ _ _ hg,rfl⟩)
  have hrun:∃z s',jm C x.keep x.pubs N x.body ⟨cI 0 (DF x.ps args),S⟩=some (z,s')/\(match kA C.tbl s' x.res with|some l=>H9 x.tok S s' l|none=>none)=some A/\(z=.normal∨z=.ret):=by
   split at h
   ·rename_i s' hz;exact⟨_,s',hz,h,.inl rfl⟩
   ·rename_i s' hz;exact⟨_,s',hz,h,.inr rfl⟩
   ·cases h
  obtain⟨z,s',hz,he,hzz⟩:=hrun;refine calls_of_wp hf hb ?_;have hh:=kc (n:=fn.ntmps) hp ht hv (by rw[hn];exact hlen) hs hdom hinj hlent;rw[<-hn]at hd;refine P0 (BB (F:=⟨w,pub,fn.ntmps,e,hlent,[],ht⟩) hm hT hS _ _ N x.body _ z s' _ _ hz hd hh) ?_;intro en a' w' hq;obtain⟨z2,s2,Ω',h1,h2,h3,h4,h5⟩:=hq;subst h2 h4 h5
  have hmap:∀us,(fn.results.toList.mapM (pd a'.tmps)).run P Ω'.w=.ok us Ω'.w->
    (results fn a'.tmps).run P Ω'.w=.ok (if h:us.toArray.size=1 then us.toArray[0]else .tuple us.toArray) Ω'.w:=by
   intro us hus;rw[nt,<-OA (xs:=fn.results),PF];simp only[Nd,Sem.run_map,hus,MW,Nx]
  have main:a'.defers=[]/\∃v,(results fn a'.tmps).run P Ω'.w=.ok v Ω'.w/\∃pub' e',(∀b pv u,A.pan=some (b,pv,u)->b=false)/\V ⟨e',Ω'.w,pub'⟩ A.val v/\After w pub e (aj (bO S A.upd)) Ω'.w pub' e':=by
   refine⟨h3.defers,?_⟩;split at he
   ·rename_i l hres;rw[<-hr]at hres;obtain⟨a1,a2,l',kept,a3,a4,a5,a6⟩:=EP he;obtain⟨us,k1,k2⟩:=fr hT h3 _ _ hres;obtain⟨Ω2,e2,hh2⟩:=dG (s:=⟨cI 0 l,s2.b⟩) (h3.retmp k2) a5;rw[a3,a6];refine⟨_,hmap us k1,Ω2.pub,Ω2.e,fun b pv u q=>(by rw[a2]at q;cases q),?_,by rw[<-e2];exact iz hh2⟩
    have hval:∀(j:Nat) c v,l'[j]?=some c->us[j]?=some v->V ⟨Ω2.e,Ω'.w,Ω2.pub⟩ c v:=fun j c v hc hv=>by
     have:=hh2.tmps j;simp only[St.abs,gg,N2,NU,Po,MX,hc,NL]at this;have e3:(us.toArray++Array.replicate 0 undef).getD j undef=v:=by simp[Na,hv]
     rw[e3]at this;rw[<-e2];exact this
    have hlu:l'.length=us.length:=a4.trans k2.1;by_cases h1':us.toArray.size=1
    ·rw[dif_pos h1'];obtain⟨u,rfl⟩:=jk (l:=us) (by simpa using h1');obtain⟨c,rfl⟩:=jk (l:=l') (by rw[hlu];rfl);exact hval 0 c u rfl rfl
    ·rw[dif_neg h1']
     have:H7 l'=.tup l':=by
      match l',hlu with
      |[],_=>rfl
      |[c],q=>exact absurd (by simpa using q.symm) h1'
      |_::_::_,_=>rfl
     rw[this];exact .tup l' us hlu hval
   ·cases he
  rcases hzz with rfl|rfl
  ·cases h1;exact main
  ·cases h1;exact main
def DG:List (Nat×FB)->Nat->Option FB
 |[],_=>none
 |(j,x)::r,f=>if Nat.beq j f=true then some x else DG r f
def bQ(tbl:List (Nat×TR))(fn:Func)(keep:Nat)(pubs:List (Nat×List Nat))(pend rows same:Nat->Bool)(tok:Bool):FB:=
 ⟨fn.body.getD .skip,fn.ntmps,fn.results.toList,keep,pubs,pend,rows,same,tok,fn.params.toList.map fun t=>(aA tbl t).bind (·.ty)⟩
def fbok(fn:Func):Bool:=match fn.body with | none=>false | some c=>bw fn.ntmps c && !(fn.name == "runtime.NumGoroutine")
def aU(P:Program)(tab:List (Nat×FB)):Prop:=∀f x,DG tab f=some x->
 ∃fn,P.funcs[f]?=some fn/\fn.body=some x.body/\fn.ntmps=x.n/\fn.results.toList=x.res/\bw x.n x.body=true/\(fn.name == "runtime.NumGoroutine")=false
theorem aU.nil:aU P []:=fun f x h=>by cases h
theorem aU.cons{tbl:List (Nat×TR)}{f:Nat}{fn:Func}{keep:Nat}{pubs:List (Nat×List Nat)}{pend rows same:Nat->Bool}{tok:Bool}{tab:List (Nat×FB)}(hf:P.funcs[f]?=some fn)(hc:fbok fn=true)(ht:aU P tab) :
  aU P ((f,bQ tbl fn keep pubs pend rows same tok)::tab):=by
 intro g x h;unfold DG at h;split at h
 ·rename_i hb;obtain rfl:=Ng hb;cases h;unfold fbok at hc;split at hc
  ·cases hc
  ·rename_i c hb';simp only[MR,Nc]at hc;exact⟨fn,hf,by simp[bQ,hb'],rfl,rfl,by simpa[bQ,hb']using hc.1,hc.2⟩
 ·exact ht g x h
def sB(tbl:List (Nat×TR))(tab:List (Nat×FB))(keeps:Nat->Bool)(lends:Nat->List (Option Nat))(N:Nat)(base:Nat->List AV->List (Nat×SObj)->Option Ans) :
  Nat->Nat->List AV->List (Nat×SObj)->Option Ans
 |0,f,us,S=>base f us S
 |n+1,f,us,S=>
  match base f us S with
  |some A=>some A
  |none=>
  match DG tab f with
  |none=>none
  |some x=>Ls ⟨tbl,sB tbl tab keeps lends N base n,keeps,lends,x.pend,x.rows,x.same⟩ N x us S
theorem DH{tbl:List (Nat×TR)}{tab:List (Nat×FB)}{keeps:Nat->Bool}{lends:Nat->List (Option Nat)}{N:Nat}{base:Nat->List AV->List (Nat×SObj)->Option Ans}
 (hm:P.follows .mixedOrders=true)(hT:aP P tbl)(hB:bz P base)(ht:aU P tab):∀n:Nat,bz P (sB tbl tab keeps lends N base n)
 |0=>hB
 |n+1=>by
  intro f args S A h ho hl;unfold sB at h;split at h
  ·rename_i A' hb;cases h;exact hB f args S A hb ho hl
  split at h
  ·cases h
  ·rename_i x hx;obtain⟨fn,h1,h2,h3,h4,h5,h6⟩:=ht f x hx;exact⟨⟨fn,h1,by rw[h2];rfl,h6⟩,runF_meets hm hT (DH hm hT hB ht n) h1 h2 h3 h4 h5 h⟩
theorem gh{tbl:List (Nat×TR)}{tab:List (Nat×FB)}{keeps:Nat->Bool}{lends:Nat->List (Option Nat)}{N n f:Nat}{base:Nat->List AV->List (Nat×SObj)->Option Ans}{args:List AV}{v:AV}{u:List (Nat×SObj)}
 (hm:P.follows .mixedOrders=true)(hT:aP P tbl)(hB:bz P base)(ht:aU P tab)(h:sB tbl tab keeps lends N base n f args []=some ⟨none,none,v,u⟩):an P f args [] ⟨none,none,v,u⟩:=
 (DH hm hT hB ht n f args [] _ h (fun _ q=>by cases q) rfl).2
end Go.AL
end
noncomputable section
namespace Go.AL
variable [Tabs]
theorem b8.blk{Ω:Om}{own:Nat->Nat->Prop}{id:Nat}{ob:SObj}(hs:b8 Ω own id ob){c:CObj}(hc:Ω.e id=some c){b o:Nat}(hb:occ c b o):b<Ω.w.heap.size:=by
 cases ob with
 |box x=>
  obtain⟨b',off,he,hh⟩:=hs;rw[he]at hc;simp only[Xs]at hc;subst hc;obtain⟨rfl,h1,h2⟩:=hb;have hj:o-off<(ae x).length:=by omega
  obtain⟨_,_,_,v,hv,_⟩:=hh (o-off) _ (MQ hj);exact aS hv
 |tail τ n=>obtain⟨base,cap,he,_,_,_,hb'⟩:=hs;rw[he]at hc;simp only[Xs]at hc;subst hc;obtain⟨_,vs,ty,fz,hh,_⟩:=hb' b hb;exact bu hh
 |grow τ n xs=>obtain⟨base,cap,he,_,_,_,hb'⟩:=hs;rw[he]at hc;simp only[Xs]at hc;subst hc;obtain⟨_,⟨vs,ty,fz,hh,_⟩,_⟩:=hb' b hb;exact bu hh
 |map κ τ m=>obtain⟨r,he,_,es,clock,hh,_⟩:=hs;rw[he]at hc;simp only[Xs]at hc;subst hc;have:b=r:=hb;subst this;exact bu hh
 |bld t u l=>obtain⟨b0,g,he,_,hh⟩:=hs;rw[he]at hc;simp only[Xs]at hc;subst hc;exact hh.lt hb
 |tailp τ n x=>
  obtain⟨b0,cap,he,_,_,_,⟨vs,ty,fz,hh,_⟩,_⟩:=hs;rw[he]at hc;simp only[Xs]at hc;subst hc;have:b0=b:=by simpa[occ]using hb
  subst this;exact bu hh
def sC(e:Nat->Option CObj)(k b o:Nat):Prop:=∃c,e k=some c/\occ c b o
theorem After.slot{w w':World}{pub:Nat->Nat->Prop}{e:Nat->Option CObj}{S:List (Nat×SObj)}
 (hp:kB w pub)(hs:∀id o,aj S id=some o->b8 ⟨e,w,pub⟩ (fun _ _=>True) id o)(hd:∀id,aj S id=none->e id=none)(hi:Inj e)
 {k:Nat}{obj:SObj}{c:CObj}{Q:Nat->Nat->Prop}
 (os:w'.os=w.os)(tape:w'.tape=w.tape)(output:w'.output=w.output)(size:w.heap.size<=w'.heap.size)
 (block:∀b,b<w.heap.size->(∀o,¬sC e k b o)->w'.heap[b]?=w.heap[b]?)
 (cell:∀b o,b<w.heap.size->¬sC e k b o->w'.cell? ⟨b,o,none⟩=w.cell? ⟨b,o,none⟩)
 (kind:∀b,b<w.heap.size->¬(∀o,sC e k b o)->w'.shape? b=w.shape? b/\∀o,w'.frozen? ⟨b,o,none⟩=w.frozen? ⟨b,o,none⟩)
 (hpub:∀b o,pub b o->w'.cell? ⟨b,o,none⟩=w.cell? ⟨b,o,none⟩)
 (hQ:∀b o,Q b o->w.heap.size<=b/\∃v,w'.cell? ⟨b,o,none⟩=some v)
 (hle:∀c0,e k=some c0->CLe c0 c)(hnew:∀b o,occ c b o->w.heap.size<=b∨sC e k b o)
 (hobj:Ext ⟨e,w,pub⟩ ⟨fun i=>if k=i then some c else e i,w',fun b o=>pub b o∨Q b o⟩->
   b8 ⟨fun i=>if k=i then some c else e i,w',fun b o=>pub b o∨Q b o⟩ (fun b o=>w.heap.size<=b∨mB e b o) k obj) :
  After w pub e (aj (bO S [(k,obj)])) w' (fun b o=>pub b o∨Q b o) (fun i=>if k=i then some c else e i):=by
 have blk:∀{id c b o},e id=some c->occ c b o->b<w.heap.size:=by
  intro id c b o hc ho
  cases hg:aj S id with
  |none=>rw[hd id hg]at hc;cases hc
  |some ob=>exact(hs id ob hg).blk (Ω:=⟨e,w,pub⟩) hc ho
 have hx:Ext ⟨e,w,pub⟩ ⟨fun i=>if k=i then some c else e i,w',fun b o=>pub b o∨Q b o⟩:=by
  refine⟨fun id c' hc'=>?_,fun b o h=>Or.inl h,fun b o h=>hpub b o h⟩;by_cases hid:k=id
  ·subst hid;exact⟨c,by simp,hle c' hc'⟩
  ·exact⟨c',by simp only[MS hid];exact hc',CLe.refl _⟩
 have toL:∀{b o},sC e k b o->mB e b o:=fun⟨c,h1,h2⟩=>⟨k,c,h1,h2⟩;have stay:∀{id c' b o},k≠id->e id=some c'->occ c' b o->¬sC e k b o:=by rintro id c' b o hid hc ho ⟨c0,h1,h2⟩;exact hid (hi k id c0 c' b o h1 hc h2 ho)
 refine⟨os,tape,output,size,fun b hb h=>block b hb fun o ho=>h o (toL ho),fun b o hb h=>cell b o hb fun ho=>h (toL ho),
  fun b hb h=>kind b hb fun ho=>h fun o=>toL (ho o),hx,fun b o h=>?_,fun b o h=>?_,fun id o h=>?_,fun id h=>?_,?_⟩
 ·rcases h with h|h
  ·exact Or.inl h
  ·exact Or.inr (Or.inl (hQ b o h).1)
 ·rcases h with h|h
  ·obtain⟨v,hv⟩:=hp b o h;exact⟨v,(hpub b o h).trans hv⟩
  ·exact(hQ b o h).2
 ·rw[iv,gJ]at h;by_cases hid:k=id
  ·subst hid;simp only[NU]at h;cases h;exact hobj hx
  ·simp only[MS hid]at h;have h0:=hs id o h;refine b8.own_of (b8.keep h0 hx (by simp only[MS hid]) fun c' hc'=>?_) (fun c' b o hc ho=>?_)
   ·have hc':e id=some c':=hc'
    cases c' with
    |box b off len=>
     intro oo h1 h2;have ho:occ (.box b off len) b oo:=⟨rfl,h1,h2⟩;refine⟨cell b oo (blk hc' ho) (stay hid hc' ho),(kind b (blk hc' ho) fun hall=>stay hid hc' ho (hall oo)).2 oo,fun hp'=>?_⟩;rcases hp' with hp'|hp'
     ·exact hp'
     ·have:=(hQ _ _ hp').1;have:=blk hc' ho;omega
    |tail n base cap=>
     intro b hb;have ho:∀oo,occ (.tail n base cap) b oo:=fun _=>hb;refine⟨block b (blk hc' (ho 0)) fun oo=>stay hid hc' (ho oo),fun oo hp'=>?_⟩;rcases hp' with hp'|hp'
     ·exact hp'
     ·have:=(hQ _ _ hp').1;have:=blk hc' (ho 0);omega
    |obj r=>have ho:∀oo,occ (.obj r) r oo:=fun _=>rfl;exact block r (blk hc' (ho 0)) fun oo=>stay hid hc' (ho oo)
    |bld b g=>
     intro b' hb';have ho:∀oo,occ (.bld b g) b' oo:=fun _=>hb';refine⟨block b' (blk hc' (ho 0)) fun oo=>stay hid hc' (ho oo),fun oo hp'=>?_⟩;rcases hp' with hp'|hp'
     ·exact hp'
     ·have:=(hQ _ _ hp').1;have:=blk hc' (ho 0);omega
   ·simp only[MS hid]at hc;exact Or.inr ⟨id,c',hc,ho⟩
 ·rw[iv,gJ]at h;by_cases hid:k=id
  ·simp[hid]at h
  ·simp only[MS hid]at h⊢;exact hd id h
 ·intro i j ci cj b o hci hcj hoi hoj;simp only at hci hcj;by_cases h1:k=i<;>by_cases h2:k=j
  ·omega
  ·simp only[MT h1,MS h2,Xs]at hci hcj;subst hci;rcases hnew b o hoi with h|h
   ·have:=blk hcj hoj;omega
   ·exact absurd h (stay h2 hcj hoj)
  ·simp only[MS h1,MT h2,Xs]at hci hcj;subst hcj;rcases hnew b o hoj with h|h
   ·have:=blk hci hoi;omega
   ·exact absurd h (stay h1 hci hoi)
  ·simp only[MS h1,MS h2]at hci hcj;exact hi i j ci cj b o hci hcj hoi hoj
theorem After.fresh1{w w':World}{pub:Nat->Nat->Prop}{e:Nat->Option CObj}{S:List (Nat×SObj)}
 (hp:kB w pub)(hs:∀id o,aj S id=some o->b8 ⟨e,w,pub⟩ (fun _ _=>True) id o)(hd:∀id,aj S id=none->e id=none)(hi:Inj e)
 {k:Nat}{obj:SObj}{c:CObj}(hb:RowKit.Below w.heap.size w w')(hk:aj S k=none)(hnew:∀b o,occ c b o->w.heap.size<=b)
 (hobj:b8 ⟨fun i=>if k=i then some c else e i,w',fun b o=>pub b o∨False⟩ (fun b o=>w.heap.size<=b∨mB e b o) k obj) :
  After w pub e (aj (bO S [(k,obj)])) w' (fun b o=>pub b o∨False) (fun i=>if k=i then some c else e i):=
 After.slot hp hs hd hi (Q:=fun _ _=>False) hb.os hb.tape hb.output hb.size (fun b h _=>hb.block b h) (fun b o h _=>ai (hb.block b h) o)
  (fun b h _=>⟨aR (hb.block b h),fun o=>aK (hb.block b h) o⟩)
  (fun b o h=>by obtain⟨v,hv⟩:=hp b o h;exact ai (hb.block b (aS hv)) o)
  (fun _ _ h=>h.elim) (fun c0 h=>by rw[hd k hk]at h;cases h) (fun b o h=>Or.inl (hnew b o h)) (fun _=>hobj)
theorem VL.one_inv{Ω:Om}{a:AV}{vs:List Value}(h:VL Ω [a] vs):∃v,vs=[v]/\V Ω a v:=by
 obtain⟨hl,h⟩:=h
 match vs,hl,h with
 |[v],_,h=>exact⟨v,rfl,h 0 a v rfl rfl⟩
theorem VL.two_inv{Ω:Om}{a b:AV}{vs:List Value}(h:VL Ω [a,b] vs):∃v u,vs=[v,u]/\V Ω a v/\V Ω b u:=by
 obtain⟨hl,h⟩:=h
 match vs,hl,h with
 |[v,u],_,h=>exact⟨v,u,rfl,h 0 a v rfl rfl,h 1 b u rfl rfl⟩
end Go.AL
end
noncomputable section
namespace Go.AL
variable [Tabs]
open Go.Proofs Go.Shelf Go.RowKit
variable {P:Program} {ρ:Ren}
structure But(w w':World)(b:Nat)(g:Option Nat):Prop where
 os:w'.os=w.os
 tape:w'.tape=w.tape
 output:w'.output=w.output
 size:w.heap.size<=w'.heap.size
 block:∀k,k<w.heap.size->k≠b->g≠some k->w'.heap[k]?=w.heap[k]?
structure WL(P:Program)(ρ:Ren):Prop where
 mixed:P.follows .mixedOrders=true
 f166:P.funcs[ρ.f 166]?=some (Body.n166 ρ)
 t3:P.underlying (ρ.t 3)=some (TypeDesc.int IntKind.i64)
 a3:∀w,(isAgg (ρ.t 3)).run P w=.ok false w
 z3:∀w,(Go.sizeOf (ρ.t 3)).run P w=.ok 1 w
 v3:∀w,(zeroValue (ρ.t 3)).run P w=.ok (Value.int IntKind.i64 0) w
 t9:P.underlying (ρ.t 9)=some (TypeDesc.string)
 a9:∀w,(isAgg (ρ.t 9)).run P w=.ok false w
 z9:∀w,(Go.sizeOf (ρ.t 9)).run P w=.ok 1 w
 v9:∀w,(zeroValue (ρ.t 9)).run P w=.ok (Value.string {data:=#[]}) w
 t37:P.underlying (ρ.t 37)=some (TypeDesc.slice (ρ.t 5))
 a37:∀w,(isAgg (ρ.t 37)).run P w=.ok false w
 z37:∀w,(Go.sizeOf (ρ.t 37)).run P w=.ok 1 w
 v37:∀w,(zeroValue (ρ.t 37)).run P w=.ok (Value.slice none 0 0) w
 t70:P.underlying (ρ.t 70)=some (TypeDesc.pointer (ρ.t 72))
 a70:∀w,(isAgg (ρ.t 70)).run P w=.ok false w
 z70:∀w,(Go.sizeOf (ρ.t 70)).run P w=.ok 1 w
 v70:∀w,(zeroValue (ρ.t 70)).run P w=.ok (Value.pointer none) w
 t72:P.underlying (ρ.t 72)=some (TypeDesc.struct #[{name:= "addr",type:=ρ.t 70,offset:=0,embedded:=false,tag:= "",pkgPath:= "strings",byteOffset:=0},{name:= "buf",type:=ρ.t 37,offset:=1,embedded:=false,tag:= "",pkgPath:= "strings",byteOffset:=8}])
 a72:∀w,(isAgg (ρ.t 72)).run P w=.ok true w
 z72:∀w,(Go.sizeOf (ρ.t 72)).run P w=.ok 2 w
 v72:∀w,(zeroValue (ρ.t 72)).run P w=.ok (Value.agg #[Value.pointer none,Value.slice none 0 0]) w
end Go.AL
end
noncomputable section
namespace Go.AL
variable [Tabs]
open Go.Proofs Go.RowKit Go.Maps Go.Sort Go.Shelf
variable {P:Program} {ρ:Ren}
def eo{α:Type}(F:Fence)(n:Nat)(P:Program)(g:Nat)(lb:Array Value)(enc:α->Value)(S:List α->Prop)(N:Nat)(w:World):Prop:=
 ∀(l:Nat)(J:List α->World->Prop)(W:World),Below w.heap.size w W->AbidesFrom W.heap.size J->(∀pre W1,J pre W1->Below w.heap.size w W1)->
  (∀pre x W1,J pre W1->pre.length<N->YieldAt F (n-1) P l #[enc x] W1 fun e W'=>e=.returned (.bool true)/\J (pre++[x]) W'/\KeepsWalks W1 W')->
  J [] W->
  CallsIn F n P g (#[.func (.yield l) #[] #[]]++lb) W fun e W'=>(∃v,e=.returned v)/\∃xs,S xs/\J xs W'
theorem eo.bounded{α:Type}{F:Fence}{n:Nat}{g:Nat}{lb:Array Value}{enc:α->Value}{S:List α->Prop}{N:Nat}{w:World}
 (h:eo F n P g lb enc S N w):eo F n P g lb enc (fun xs=>S xs/\xs.length<=N) N w:=fun l J W hW hJ hB hY h0=>by
 refine(h l (fun xs W'=>J xs W'/\xs.length<=N) W hW (fun s A B row hs hg hr=>⟨hJ s A B row hs.1 hg hr,hs.2⟩) (fun pre W1 h=>hB pre W1 h.1)
  (fun pre x W1 hj hl=>(hY pre x W1 hj.1 hl).mono (fun e w' hr=>⟨hr.1,⟨hr.2.1,by simp;omega⟩,hr.2.2⟩)) ⟨h0,N2 _⟩).mono ?_
 rintro e W' ⟨hv,xs,hS,hJ',hlen⟩;exact⟨hv,xs,⟨hS,hlen⟩,hJ'⟩
set_option maxRecDepth 100000 in
set_option maxHeartbeats 2000000 in
theorem BF(L:SlLaysZ.n11 P ρ)(F:Fence)(n:Nat)(h11:F.fn (ρ.f 11))(hro:F.round=none)(hn:2<=n)(g:Nat)(lb:Array Value)(hFg:F.fn g)(eg:∀args w,(callFunc g args).run P w=.ok (.enter g args) w)
 (S:List (List UInt8)->Prop)(N:Nat)(hN:N<=maxLen)(hNb:N *16<=140737488355328)(w:World)(hseq:eo F (n-1) P g lb encStr S N w) :
  CallsIn F n P (ρ.f 11) #[.slice none 0 0,.func (.func g) #[] lb] w fun e w'=>∃(v:Value)(ss:List (List UInt8)),e=.returned v/\S ss/\w'.ownsRow w.heap.size (ρ.t 26) 1 v ss.length (ss.map encStr)/\(v=.slice none 0 0↔ss=[])/\Below w.heap.size w w':=by
 have h1:1<=n:=by omega
 have mixed:=L.mixed;have t0:=L.t0;have a0:=L.a0;have z0:=L.z0;have v0:=L.v0;have t24:=L.t24;have a24:=L.a24;have z24:=L.z24;have v24:=L.v24;have t26:=L.t26;have a26:=L.a26;have z26:=L.z26;have v26:=L.v26;have t28:=L.t28;have a28:=L.a28;have z28:=L.z28;have v28:=L.v28;have hne:ρ.t 24≠ρ.t 26:=fun e=>by have h:=L.t24;rw[e,L.t26]at h;cases h
 have u0:=NS L.t0;have u24:=NS L.t24;have u26:=NS L.t26;have u28:=NS L.t28;obtain⟨_,_,FG⟩:=L.f11;refine callsIn_of_wp_marks FG rfl h11 ?_ hro;simp only[SlBodyZ.n11_ntmps ρ,OW,Ni,Oi,Nat.reduceAdd,Nat.reduceSub,P1,P2,Ph,P4,Oa,Od]
 gi_wp2
 refine wpIn_rangeFunc ?_;intro fn hfn;rw[hro];obtain⟨W0,hW0⟩:∃W0,w.alloc (.cells #[.slice none 0 0] (ρ.t 24))=W0:=⟨_,rfl⟩;have hs0:W0.heap.size=w.heap.size+1:=by rw[<-hW0];simp
 have hv0:W0.heap[w.heap.size]?=some (.cells #[.slice none 0 0] (ρ.t 24) (0,0)):=by rw[<-hW0];exact World.alloc_heap_new w _
 have hb0:Below w.heap.size w W0:=by rw[<-hW0];exact(Below.refl _ w).alloc (N8 _) _
 rw[hW0];obtain⟨W1,hW1⟩:∃W1,(W0.alloc (.deferred (some []))).alloc (.loop (AnyZ.apRec ρ fn (.func (.func g) #[] lb) w.heap.size W0.heap.size .ready none))=W1:=⟨_,rfl⟩;have hold:∀k,k<W0.heap.size->W1.heap[k]?=W0.heap[k]?:=fun k hk=>by rw[<-hW1];exact(Below.heap_alloc _ _ k (by simp;omega)).trans (Below.heap_alloc _ _ k hk)
 have hb1:Below w.heap.size w W1:=by rw[<-hW1];exact(hb0.alloc hb0.size _).alloc (by have:=hb0.size;simp;omega) _
 have hs1:W1.heap.size=W0.heap.size+2:=by rw[<-hW1];simp
 have hM:AnyZ.ApAt ρ w fn (.func (.func g) #[] lb) w.heap.size (W0.heap.size+1) W0.heap.size [] W1:=
  ⟨⟨_,(hold w.heap.size (by omega)).trans hv0,⟨rfl,.inl ⟨rfl,rfl⟩⟩,by simp⟩,
   by rw[<-hW1];have:=World.alloc_heap_new (W0.alloc (.deferred (some []))) (.loop (AnyZ.apRec ρ fn (.func (.func g) #[] lb) w.heap.size W0.heap.size .ready none));rwa [World.size_alloc]at this,
   by rw[<-hW1];exact(Below.heap_alloc _ _ _ (by simp)).trans (World.alloc_heap_new W0 _),hb1⟩
 refine⟨W0.heap.size+1,[{target:=.collected W0.heap.size,args:=#[]}],W1,{target:=.fn (.func g) lb,args:=#[.func (.yield (W0.heap.size+1)) #[] #[]]},W1,g,
  #[.func (.yield (W0.heap.size+1)) #[] #[]]++lb,W1,?_,?_,?_,?_,fun _=>h1,?_⟩
 ·rw[<-hW1];exact run_enterLoop_outer _ _ _ _ _
 ·simp[resolve,go_sem]
 ·intro f' hf';simp[Target.leads]at hf';subst hf';exact hFg
 ·simp[invoke,go_sem,eg]
 ·refine(hseq (W0.heap.size+1) (AnyZ.ApAt ρ w fn (.func (.func g) #[] lb) w.heap.size (W0.heap.size+1) W0.heap.size) W1 hb1 (AnyZ.ap_abides ρ _ _ _ _ _ _ _ hb1.size) (fun _ _ h=>h.below)
   (fun pre x W hJ hl=>AnyZ.apYield {L with} F (n-1-1) w fn hfn _ w.heap.size (W0.heap.size+1) W0.heap.size (by omega) (by omega) (by omega) (N8 _) (by omega) N hN hNb pre x W hJ hl) hM).mono ?_
  rintro e W2 ⟨⟨v0,rfl⟩,ss,hS,h2⟩;obtain⟨v,hv,hrow,hnil⟩:=h2.box;have hend:=run_endLoop (P:=P) h2.L (by simp[AnyZ.apRec]);obtain⟨W3,hW3⟩:∃W3,W2.putObj (W0.heap.size+1) (.loop {AnyZ.apRec ρ fn (.func (.func g) #[] lb) w.heap.size W0.heap.size .ready none with state:=.exhausted})=W3:=⟨_,rfl⟩;rw[hW3]at hend;have hg3:W2.grownBy W3 (some (W0.heap.size+1)):=by rw[<-hW3];exact grownBy_putObj_a _ _ _
  have hv3:W3.heap[w.heap.size]?=some (.cells #[v] (ρ.t 24) (0,0)):=by rw[<-hW3];exact(World.putObj_heap_other (by omega)).trans hv
  have hK3:W3.heap[W0.heap.size]?=some (.deferred (some [])):=by rw[<-hW3];exact(World.putObj_heap_other (by omega)).trans h2.K
  have hrow3:=hrow.kept hg3 (ownsRow_ne_a hrow h2.L (fun cur e=>by first|cases e|exact hne (Obj.cells.inj e).2.1));have hb3:Below w.heap.size w W3:=h2.below.grown hg3 h2.below.size (fun k e=>by cases e;omega);obtain⟨hc3,hf3⟩:=cell_of_box_a hv3;clear hW3;refine⟨none,W3,hend,?_⟩
  gi_wp2
  rw[<-hs0];refine⟨by simp,.inl ⟨_,_,rfl,run_takeDeferred hK3,?_⟩⟩;exact⟨_,results_tmp rfl _ _ _,v,ss,rfl,hS,hrow3.kept (grownBy_putObj_a _ _ _) (ownsRow_ne_a hrow3 hK3 (fun cur e=>by first|cases e|exact hne (Obj.cells.inj e).2.1)),hnil,hb3.grown (grownBy_putObj_a _ _ _) hb3.size (fun k e=>by cases e;omega)⟩
set_option maxRecDepth 100000 in
set_option maxHeartbeats 2000000 in
theorem Hd(L:SlLaysZ.n8 P ρ)(F:Fence)(n:Nat)(h8:F.fn (ρ.f 8))(h11:F.fn (ρ.f 11))(hro:F.round=none)(hn:3<=n)(g:Nat)(lb:Array Value)(hFg:F.fn g)(eg:∀args w,(callFunc g args).run P w=.ok (.enter g args) w)
 (S:List (List UInt8)->Prop)(N:Nat)(hN:N<=maxLen)(hNb:N *16<=140737488355328)(w:World)(hseq:eo F (n-1-1) P g lb encStr S N w) :
  CallsIn F n P (ρ.f 8) #[.func (.func g) #[] lb] w fun e w'=>∃(v:Value)(ss:List (List UInt8)),e=.returned v/\S ss/\w'.ownsRow w.heap.size (ρ.t 26) 1 v ss.length (ss.map encStr)/\(v=.slice none 0 0↔ss=[])/\Below w.heap.size w w':=by
 have h1:1<=n:=by omega
 have e11:∀args w,(callFunc (ρ.f 11) args).run P w=.ok (.enter (ρ.f 11) args) w:=L.f11.enters rfl;have mixed:=L.mixed;have t0:=L.t0;have a0:=L.a0;have z0:=L.z0;have v0:=L.v0;have t24:=L.t24;have a24:=L.a24;have z24:=L.z24;have v24:=L.v24;have t26:=L.t26;have a26:=L.a26;have z26:=L.z26;have v26:=L.v26;have t28:=L.t28;have a28:=L.a28;have z28:=L.z28;have v28:=L.v28;have u0:=NS L.t0;have u24:=NS L.t24;have u26:=NS L.t26;have u28:=NS L.t28;obtain⟨_,_,FG⟩:=L.f8;refine callsIn_of_wp FG rfl h8 ?_ hro;simp only[SlBodyZ.n8_ntmps ρ,OW,Ni,Oi,Nat.reduceAdd,Nat.reduceSub,P1,P2,Ph,P4,Oa,Od]
 gi_wp2_with (gi_at_fn (ρ.f 11);refine(BF {L with} F (n-1) h11 hro (by omega) g lb hFg eg S N hN hNb _ hseq).mono ?_;rintro e w' ⟨v,ss,rfl,hS,hrow,hnil,hb⟩)
 go_ret
 exact⟨v,ss,rfl,hS,hrow,hnil,hb⟩
set_option maxRecDepth 100000 in
set_option maxHeartbeats 2000000 in
theorem JM(L:SlLaysZ.n6 P ρ)(F:Fence)(n:Nat)(h6:F.fn (ρ.f 6))(h8:F.fn (ρ.f 8))(h9:F.fn (ρ.f 9))(h11:F.fn (ρ.f 11))(hro:F.round=none)(hn:4<=n)(hsort:AnyZ.SortsIn P ρ F (n-1))(e9:∀args w,(callFunc (ρ.f 9) args).run P w=.ok (.enter (ρ.f 9) args) w)(g:Nat)(lb:Array Value)(hFg:F.fn g)(eg:∀args w,(callFunc g args).run P w=.ok (.enter g args) w)
 (S:List (List UInt8)->Prop)(N:Nat)(hN:N<=maxLen)(hNb:N *16<=140737488355328)(w:World)(hseq:eo F (n-1-1-1) P g lb encStr S N w) :
  CallsIn F n P (ρ.f 6) #[.func (.func g) #[] lb] w fun e w'=>∃(v:Value)(ss:List (List UInt8)),e=.returned v/\S ss/\
   w'.ownsRow w.heap.size (ρ.t 26) 1 v ss.length ((ss.mergeSort (fun x y=>decide (x<=y))).map encStr)/\(v=.slice none 0 0↔ss=[])/\Below w.heap.size w w':=by
 have h1:1<=n:=by omega
 have e8:∀args w,(callFunc (ρ.f 8) args).run P w=.ok (.enter (ρ.f 8) args) w:=L.f8.enters rfl;have mixed:=L.mixed;have t0:=L.t0;have a0:=L.a0;have z0:=L.z0;have v0:=L.v0;have t24:=L.t24;have a24:=L.a24;have z24:=L.z24;have v24:=L.v24;have t26:=L.t26;have a26:=L.a26;have z26:=L.z26;have v26:=L.v26;have t28:=L.t28;have a28:=L.a28;have z28:=L.z28;have v28:=L.v28;have u0:=NS L.t0;have u24:=NS L.t24;have u26:=NS L.t26;have u28:=NS L.t28;obtain⟨_,_,FG⟩:=L.f6;refine callsIn_of_wp FG rfl h6 ?_ hro;simp only[SlBodyZ.n6_ntmps ρ,OW,Ni,Oi,Nat.reduceAdd,Nat.reduceSub,P1,P2,Ph,P4,Oa,Od]
 gi_wp2_with (gi_at_fn (ρ.f 8);refine(Hd {L with} F (n-1) h8 h11 hro (by omega) g lb hFg eg _ N hN hNb _ (eo.bounded hseq)).mono ?_;rintro e W ⟨v,ss,rfl,⟨hS,hlen⟩,hrow,hnil,hb⟩)
 rcases hrow.2 with⟨rfl,hz⟩|⟨gb,cap,cur,rfl,hbase,hgb,r1,r2,r3,r4⟩
 ·
  have hss:ss=[]:=N5 hz;subst hss
  gi_wp2_with (gi_at_fn (ρ.f 9);refine(hsort.2 none 0 W).mono ?_;rintro e w' ⟨rfl,rfl⟩)
  go_ret
  exact⟨.slice none 0 0,[],rfl,hS,by simpa using hrow,by simp,hb⟩
 ·have hH:Go.Sort.Holds encStr W gb 0 ss.toArray:=holds_of_block hgb (by simpa using r4);have hgl:gb<W.heap.size:=(OP.1 hgb).1;have hsz:ss.length<4611686018427387904:=by omega
  have cS:=hsort.1 gb 0 cap ss W hH hgl hsz
  gi_wp2_with (gi_at_fn (ρ.f 9);refine cS.mono ?_;rintro e w' ⟨rfl,nn,os,rfl⟩)
  go_ret
  exact⟨_,ss,rfl,hS,ownsRow_sorted (by simp) hbase hgb r1 r2 r3,hnil,hb.grown (grownBy_sorted _) hb.size (fun j hj=>by cases hj;exact hbase)⟩
theorem ER{f:Nat}{args:List AV}{S:List (Nat×SObj)}{ob:Option Prop}{T:TypeId}{ss:List Str}(hk:aj S 0=none)
 (hC:∀w pub e vs,kB w pub->VL ⟨e,w,pub⟩ args vs->(∀id o,aj S id=some o->b8 ⟨e,w,pub⟩ (fun _ _=>True) id o)->
   (∀s∈ss,s.length<=aY)/\Calls P f vs.toArray w fun en w'=>∃v,en=.returned v/\w'.ownsRow w.heap.size T 1 v ss.length (ss.map encStr)/\Below w.heap.size w w') :
  an P f args S ⟨ob,none,.arr 0 ss.length 1,[(0,.box (.row .str ss))]⟩:=by
 intro w pub e vs hp ht hv hs hd hi;obtain⟨hlen,hC⟩:=hC w pub e vs hp hv hs;refine hC.mono ?_;rintro en w' ⟨v,rfl,⟨hl,hrow⟩,hb⟩;have hpl:(ae (.row .str ss)).length=ss.length:=by have:=aL .str ss;rw[show ab .str=1 from rfl,Qf]at this;exact this
 rcases hrow with⟨rfl,hz⟩|⟨g,cap,cur,rfl,hbase,hg,h1,h2,h3,h4⟩
 ·have hss:ss=[]:=N5 hz;subst hss;refine⟨_,_,fun _ _ _ h=>(by cases h),?_,After.fresh1 (c:=.box w.heap.size 0 0) hp hs hd hi hb hk (fun b o ho=>by obtain⟨_,_,h⟩:=ho;omega) ⟨w.heap.size,0,by simp;rfl,fun j c' hc=>?_⟩⟩
  ·exact .arr 0 0 1 w.heap.size 0 0 none (by simp) (by omega) (by omega) (by unfold aY;omega) (.inr ⟨rfl,rfl,rfl⟩)
  ·simp[ae,flat]at hc
 ·refine⟨_,_,fun _ _ _ h=>(by cases h),?_,After.fresh1 (c:=.box g 0 (ae (.row .str ss)).length) hp hs hd hi hb hk (fun b o ho=>by obtain⟨rfl,_,_⟩:=ho;exact hbase) ⟨g,0,by simp,fun j c' hc=>?_⟩⟩
  ·exact .arr 0 ss.length 1 g (ae (.row .str ss)).length cap (some ⟨g,0,none⟩) (by simp) (by omega) h1 (by unfold maxLen at h2;unfold aY;omega) (.inl rfl)
  ·have hj:j<ss.length:=by
    rw[<-hpl];rcases MY j (ae (.row .str ss)).length with k|k
    ·exact k
    ·rw[MU k]at hc;cases hc
   have hcx:=fI .str ss j ss[j] 0 (.str ss[j]) (by simp[hj]) rfl;have hc0:(ae (.row .str ss))[j]?=some (.str ss[j]):=by rw[show j *ab .str+0=j by rw[show ab .str=1 from rfl];omega]at hcx;exact hcx
   rw[hc0]at hc;cases hc
   have hcur:cur[j]?=some (encStr ss[j]):=by
    have:(cur.toList.take (ss.length *1))[j]?=some (encStr ss[j]):=by rw[h4];simp[hj]
    rw[Nl]at this;split at this
    ·simpa using this
    ·cases this
   refine⟨.inl hbase,fun h=>?_,eV hg _,encStr ss[j],by rw[NY,ak hg];exact hcur,.str _ (hlen _ (Pn hj))⟩;rcases h with h|h
   ·obtain⟨v,hv⟩:=hp _ _ h;have:=aS hv;omega
   ·exact h
def eR(l:List Str):List Str:=l.mergeSort fun x y=>decide (x<=y)
theorem og(l:List Str):(eR l).length=l.length:=PL _
theorem ES{l:List Str}{s:Str}:s∈eR l↔s∈l:=Qb
structure SortL(P:Program)(ρ:Ren):Prop where
 lay:SlLaysZ.n6 P ρ
 sorts:AnyZ.SortsIn P ρ Fence.wide 4
 e9:∀args w,(callFunc (ρ.f 9) args).run P w=.ok (.enter (ρ.f 9) args) w
theorem wy(L:SortL P ρ){g:Nat}{lb:Array Value}(eg:∀args w,(callFunc g args).run P w=.ok (.enter g args) w){ks:List Str}(hN:ks.length *16<=140737488355328){w:World}
 (hseq:eo Fence.wide 2 P g lb encStr (fun ss=>ss.Perm ks) ks.length w) :
  Calls P (ρ.f 6) #[.func (.func g) #[] lb] w fun en w'=>∃v,en=.returned v/\w'.ownsRow w.heap.size (ρ.t 26) 1 v (eR ks).length ((eR ks).map encStr)/\Below w.heap.size w w':=by
 refine callsIn_wide.1 ((JM L.lay Fence.wide 5 trivial trivial trivial trivial rfl (by omega) L.sorts L.e9 g lb trivial eg _ ks.length (by unfold maxLen;omega) hN w hseq).mono ?_);rintro en w' ⟨v,ss,rfl,hS,hrow,_,hb⟩;have e:ss.mergeSort (fun x y=>decide (x<=y))=eR ks:=mergeSort_of_perm hS;have hl:ss.length=(eR ks).length:=by rw[og];exact hS.length_eq
 rw[e,hl]at hrow;exact⟨v,rfl,hrow,hb⟩
theorem V.fn_inv{Ω:Om}{f:Nat}{cs:List AV}{v:Value}(h:V Ω (.fn f cs) v):∃vs,v=.func (.func f) #[] vs.toArray/\VL Ω cs vs:=by
 cases h with|fn _ _ vs h1 h2=>exact⟨vs,rfl,h1,h2⟩
def Strs(n₀:Nat)(W:World)(sv:Value)(zs:List Str):Prop:=
 ((∃a cap,sv=.slice a 0 cap)/\zs=[])∨∃b off cap,sv=.slice (some ⟨b,off,none⟩) zs.length cap/\b<n₀/\∀j,j<zs.length->W.cell? ⟨b,off+j,none⟩=some (encStr (zs[j]?.getD []))
def upto{α:Type}(f:Nat->α)(k:Nat):List α:=(List.range k).map f
theorem ET{α:Type}(f:Nat->α)(k:Nat):upto f (k+1)=upto f k++[f k]:=by simp[upto,List.range_succ]
theorem yn{α:Type}(f:Nat->α)(k:Nat):(upto f k).length=k:=by simp[upto]
theorem He(zs:List Str):upto (fun j=>zs[j]?.getD []) zs.length=zs:=by
 apply List.ext_getElem
 ·simp[upto]
 ·intro i h1 h2;simp[upto,h2]
def wz(P:Program)(g:Nat):Prop:=
 ∀(w:World)(b o:Nat)(sv:Value)(zs:List Str),zs.length<=maxLen->w.cell? ⟨b,o,none⟩=some sv->Strs w.heap.size w sv zs->
  eo Fence.wide 2 P g #[.pointer (some ⟨b,o,none⟩)] encStr (fun ss=>ss=zs) zs.length w
theorem V.dropTok{Ω:Om}{τ:Ty}{xs:List (den τ)}{o:Option Nat}{v:Value}(h:V Ω (.lst τ xs o) v):V Ω (.lst τ xs none) v:=by
 cases h with|lstNil=>exact .lstNil τ none (fun _ h=>by cases h)|lstVoid _ a=>exact .lstVoid τ a|lst _ _ _ b off cap vals h1 h2 h3 h4 h5=>exact .lst τ xs none b off cap vals h1 h2 (fun _ h=>by cases h) h4 h5
theorem nu(L:SortL P ρ){g:Nat}(eg:∀args w,(callFunc g args).run P w=.ok (.enter g args) w)(K:wz P g)(zs:List Str)(hN:zs.length *16<=140737488355328)(tok:Option Nat) :
  an P (ρ.f 6) [.fn g [.ptr 900 0]] [(900,.box (.lst .str zs tok))] ⟨some (zs.length *16<=140737488355328),none,.arr 0 (eR zs).length 1,[(0,.box (.row .str (eR zs)))]⟩:=by
 refine ER (T:=ρ.t 26) rfl fun w pub e vs hp hv hs=>?_;obtain⟨v1,rfl,h1⟩:=VL.one_inv hv;obtain⟨us,rfl,hus⟩:=h1.fn_inv;obtain⟨u,rfl,hu⟩:=VL.one_inv hus;obtain⟨b,o,len,rfl,he⟩:=hu.ptr_inv;obtain⟨b',o',he',hbox⟩:=hs 900 _ rfl;rw[he]at he';cases he';obtain⟨_,_,_,v,hcell,hvm⟩:=hbox 0 (.lst .str zs tok) rfl
 have hst:Strs w.heap.size w v zs:=by
  cases hvm with
  |lstNil=>exact .inl ⟨⟨_,_,rfl⟩,rfl⟩
  |lstVoid=>exact .inl ⟨⟨_,_,rfl⟩,rfl⟩
  |lst _ _ _ g0 off cap vals h1 h2 h3 h4 h5=>
   rcases Ox zs.length with hz|hz
   ·have:=N5 hz;subst this;exact .inl ⟨⟨_,_,rfl⟩,rfl⟩
   ·have at_:∀j (hj:j<zs.length),w.cell? ⟨g0,off+j,none⟩=some (encStr zs[j]):=by intro j hj;have q:=h4 j zs[j] (by simp[hj]) 0 (.str zs[j]) rfl;have r:=h5 j zs[j] (by simp[hj]) 0 (.str zs[j]) rfl;obtain⟨r1,_⟩:=r.str_inv;have:=q.2;rw[r1]at this;simpa[ab]using this
    exact .inr ⟨g0,off,cap,rfl,aS (at_ 0 hz),fun j hj=>by rw[at_ j hj];simp[hj]⟩
 refine⟨fun s hs=>?_,?_⟩
 ·have hw:Wf (.lst .str) zs:=⟨_,_,V.dropTok hvm⟩;exact(hw.mem (ES.1 hs)).str
 have hsq:=K w b (o+0) v zs (by unfold maxLen;omega) hcell hst;refine wy L eg hN (w:=w) ?_;intro l J W a1 a2 a3 a4 a5;refine(hsq l J W a1 a2 a3 a4 a5).mono ?_;rintro e W' ⟨h1,xs,rfl,h3⟩;exact⟨h1,xs,.refl _,h3⟩
end Go.AL
end
noncomputable section
namespace Go.AL
variable [Tabs]
open Go.Proofs Go.RowKit Go.Maps Go.Sort Go.Shelf
variable {P:Program} {ρ:Ren}
theorem After.row{w w':World}{pub:Nat->Nat->Prop}{e:Nat->Option CObj}{S:List (Nat×SObj)}
 (hp:kB w pub)(hs:∀id o,aj S id=some o->b8 ⟨e,w,pub⟩ (fun _ _=>True) id o)(hd:∀id,aj S id=none->e id=none)(hi:Inj e)
 {k b:Nat}{c c':AV}(hk:aj S k=some (.box c))(he:e k=some (.box b 0 (ae c).length))(hl:(ae c').length=(ae c).length)
 (os:w'.os=w.os)(tape:w'.tape=w.tape)(output:w'.output=w.output)(size:w.heap.size<=w'.heap.size)
 (hblock:∀b',b'<w.heap.size->b'≠b∨(ae c).length=0->w'.heap[b']?=w.heap[b']?)
 (hcell:∀j,(ae c).length<=j->w'.cell? ⟨b,j,none⟩=w.cell? ⟨b,j,none⟩)
 (hkind:w'.shape? b=w.shape? b/\∀o,w'.frozen? ⟨b,o,none⟩=w.frozen? ⟨b,o,none⟩)
 (hval:∀(j:Nat)(c0:AV),(ae c')[j]?=some c0->∃v,w'.cell? ⟨b,j,none⟩=some v/\∀Ω',V Ω' c0 v) :
  After w pub e (aj (bO S [(k,.box c')])) w' (fun b o=>pub b o∨False) (fun i=>if k=i then some (.box b 0 (ae c).length)else e i):=by
 obtain⟨b0,off0,he0,hbox⟩:=hs k _ hk;have he0:e k=some (.box b0 off0 (ae c).length):=he0;rw[he]at he0;simp only[Xs,CObj.box.injEq]at he0;obtain⟨rfl,rfl,_⟩:=he0;have inE:∀{o},o<(ae c).length->sC e k b o:=fun h=>⟨_,he,rfl,by omega,by omega⟩
 have jE:∀{b' o},¬sC e k b' o->b'≠b∨(ae c).length<=o:=by
  intro b' o h;rcases MY o (ae c).length with h'|h'
  ·exact .inl fun e=>h (e ▸ inE h')
  ·exact .inr h'
 have cell:∀b' o,b'<w.heap.size->¬sC e k b' o->w'.cell? ⟨b',o,none⟩=w.cell? ⟨b',o,none⟩:=by
  intro b' o h1 h2;by_cases hb:b'=b
  ·subst hb;rcases jE h2 with h|h
   ·exact absurd rfl h
   ·exact hcell o h
  ·exact ai (hblock b' h1 (.inl hb)) o
 refine After.slot hp hs hd hi (Q:=fun _ _=>False) os tape output size (fun b' h1 h2=>?_) cell (fun b' h1 h2=>?_) (fun b' o h=>?_) (fun _ _ h=>h.elim) (fun c0 h=>?_) (fun b' o h=>?_) (fun _=>?_)
 ·refine hblock b' h1 ?_;rcases jE (h2 0)with h|h
  ·exact .inl h
  ·exact .inr (by omega)
 ·by_cases hb:b'=b
  ·subst hb;exact hkind
  ·have:=hblock b' h1 (.inl hb);exact⟨aR this,fun o=>aK this o⟩
 ·obtain⟨v,hv⟩:=hp b' o h;refine cell b' o (aS hv) ?_;rintro⟨c1,h1,h2⟩;rw[he]at h1;cases h1;obtain⟨rfl,_,h3⟩:=h2;have hj:o<(ae c).length:=by omega
  have:=(hbox o _ (MQ hj)).2.1;exact this (by simpa using h)
 ·rw[he]at h;cases h;exact⟨rfl,rfl,rfl⟩
 ·exact .inr ⟨_,he,h⟩
 ·refine⟨b,0,by simp[hl],fun j c0 hc=>?_⟩
  have hj:j<(ae c).length:=by
   rw[<-hl];rcases MY j (ae c').length with q|q
   ·exact q
   ·rw[MU q]at hc;cases hc
  obtain⟨_,q2,q3,_⟩:=hbox j _ (MQ hj);obtain⟨v,hv,hV⟩:=hval j c0 hc;rw[NY]at q2 q3⊢;refine⟨.inr ⟨k,_,he,rfl,by omega,by omega⟩,fun h=>?_,?_,v,hv,hV _⟩
  ·rcases h with h|h
   ·exact q2 h
   ·exact h
  ·exact(hkind.2 j).trans q3
theorem qc{α:Type}[Inhabited α](enc:α->Value)(w:World)(b:Nat)(d:Array α)(k:Nat)(h:k≠b∨d.size=0):(putRow enc w b 0 d).heap[k]?=w.heap[k]?:=by
 unfold putRow mapBlock;simp only[O4];by_cases hk:b=k
 ·subst hk;rcases h with h|h
  ·exact absurd rfl h
  ·simp only[NU]
   cases hw:w.heap[b]? with
   |none=>rfl
   |some o=>
    simp only[O6,Xs]
    cases o with
    |cells c e f=>
     simp only[onCells,Obj.cells.injEq,NP,O9];apply Array.ext
     ·simp[putCells]
     ·intro i h1 h2;simp[putCells,h]
    |_=>rfl
 ·rw[MS hk]
theorem wA{α:Type}[Inhabited α](enc:α->Value)(w:World)(b:Nat)(d:Array α):(putRow enc w b 0 d).shape? b=w.shape? b:=by
 unfold putRow mapBlock World.shape?;simp only[O4,NU]
 cases w.heap[b]? with
 |none=>rfl
 |some o=>cases o<;>simp[onCells,putCells]
theorem gi{τ:Ty}(hw:ab τ=1)(xs:List (den τ)):(ae (.row τ xs)).length=xs.length:=by have:=aL τ xs;rw[hw,Qf]at this;exact this
theorem lC{τ:Ty}(hw:ab τ=1)(xs:List (den τ))(j:Nat)(x:den τ)(c:AV)(hx:xs[j]?=some x)(hc:(cells τ x)[0]?=some c):(ae (.row τ xs))[j]?=some c:=by have:=fI τ xs j x 0 c hx hc;rw[hw,Qf,Ov]at this;exact this
theorem strRow{Ω:Om}{own:Nat->Nat->Prop}{id b:Nat}{ss:List Str}(h:b8 Ω own id (.box (.row .str ss))){len:Nat}(he:Ω.e id=some (.box b 0 len)) :
  len=ss.length/\Go.Sort.Holds encStr Ω.w b 0 ss.toArray/\∀s∈ss,s.length<=aY:=by
 obtain⟨b',off,h1,h2⟩:=h;rw[he]at h1;simp only[Xs,CObj.box.injEq]at h1;obtain⟨rfl,rfl,h1⟩:=h1;have at_:∀j (hj:j<ss.length),Ω.w.frozen? ⟨b,0+j,none⟩=false/\Ω.w.cell? ⟨b,0+j,none⟩=some (encStr ss[j])/\ss[j].length<=aY:=by intro j hj;obtain⟨_,_,q3,v,q4,q5⟩:=h2 j _ (lC (τ:=.str) rfl ss j ss[j] (.str ss[j]) (by simp[hj]) rfl);obtain⟨rfl,q6⟩:=q5.str_inv;exact⟨q3,q4,q6⟩
 refine⟨by rw[h1];exact gi (τ:=.str) rfl ss,fun j hj=>?_,fun s hs=>?_⟩
 ·have hj':j<ss.length:=by simpa using hj
  obtain⟨q1,q2,_⟩:=at_ j hj';exact⟨by rw[q2];simp[hj'],q1⟩
 ·obtain⟨j,hj,rfl⟩:=Px hs;exact(at_ j hj).2.2
theorem yo{ss:List Str}{s:Str}(h:s∈Lib.compact ss):s∈ss:=by unfold Lib.compact Lib.compactUpTo at h;obtain⟨j,hj,rfl⟩:=Nr.1 h;have:=(NN.1 hj).1;rw[Ou]at this;simp[this]
theorem After.strRow{w:World}{pub:Nat->Nat->Prop}{e:Nat->Option CObj}{S:List (Nat×SObj)}
 (hp:kB w pub)(hs:∀id o,aj S id=some o->b8 ⟨e,w,pub⟩ (fun _ _=>True) id o)(hd:∀id,aj S id=none->e id=none)(hi:Inj e)
 {k b len q:Nat}{ss ts:List Str}{gs:Array Obj}(hk:aj S k=some (.box (.row .str ss)))(he:e k=some (.box b 0 len))(hl:ts.length=ss.length)(hb:b<w.heap.size)(ht:∀s∈ts,s.length<=aY) :
  After w pub e (aj (bO S [(k,.box (.row .str ts))])) (grow (putRow encStr (Sort.ahead w q) b 0 ts.toArray) gs) (fun b o=>pub b o∨False) (fun i=>if k=i then some (.box b 0 (ae (.row .str ss)).length)else e i):=by
 obtain⟨rfl,hH,_⟩:=AL.strRow (hs k _ hk) he;have hsz:(putRow encStr (Sort.ahead w q) b 0 ts.toArray).heap.size=w.heap.size:=by simp
 have old:∀j,j<w.heap.size->(grow (putRow encStr (Sort.ahead w q) b 0 ts.toArray) gs).heap[j]?=(putRow encStr (Sort.ahead w q) b 0 ts.toArray).heap[j]?:=by intro j hj;unfold grow;simp only;rw[Array.getElem?_append_left (by rw[hsz];exact hj)]
 have hpl:=gi (τ:=.str) rfl ss;refine After.row hp hs hd hi hk (by rw[he,hpl]) (by rw[gi rfl,gi rfl,hl]) rfl rfl rfl (by simp[grow]) (fun b' h1 h2=>?_) (fun j hj=>?_) ⟨?_,fun o=>?_⟩ (fun j c0 hc=>?_)
 ·rw[old b' h1,qc encStr (Sort.ahead w q) b ts.toArray b' (by rw[hpl]at h2;simpa[hl]using h2)];rfl
 ·rw[ai (old b hb) j,cell?_putRow_other encStr (Sort.ahead w q) b 0 ts.toArray ⟨b,j,none⟩ (.inr (.inr (by rw[hpl]at hj;simp;omega)))];rfl
 ·rw[aR (old b hb),wA];rfl
 ·rw[aK (old b hb) o,frozen?_putRow];rfl
 ·have hj:j<ts.length:=by
   rw[<-gi (τ:=.str) rfl ts];rcases MY j (ae (.row .str ts)).length with q|q
   ·exact q
   ·rw[MU q]at hc;cases hc
  rw[lC (τ:=.str) rfl ts j ts[j] (.str ts[j]) (by simp[hj]) rfl]at hc;cases hc;refine⟨encStr ts[j],?_,fun Ω'=>.str _ (ht _ (Pn hj))⟩;rw[ai (old b hb) j];have:=cell?_putRow encStr (Sort.ahead w q) b 0 ss.toArray ts.toArray hH (by simp[hl]) j (by simpa using hj);rw[NY]at this;rw[this];simp[hj]
theorem tV(L:Lays.n194 P ρ)(n:Nat)(ss:List Str)(hn:n=ss.length) :
  an P (ρ.f 194) [.arr 900 n 1] [(900,.box (.row .str ss))]
   ⟨some (n=ss.length),none,.arr 900 (Lib.compact ss).length 1,[(900,.box (.row .str (Lib.compact ss++List.replicate (ss.length-(Lib.compact ss).length) [])))]⟩:=by
 subst hn;intro w pub e vs hp ht hv hs hd hi;obtain⟨v,rfl,h1⟩:=VL.one_inv hv;have hcl:(Lib.compact ss).length<=ss.length:=by unfold Lib.compact Lib.compactUpTo;rw[NT];exact NZ (List.length_filter_le _ _) (by simp)
 cases h1 with
 |arr _ _ _ b len cap a he h2 h3 h4 h5=>
  have he:e 900=some (.box b 0 len):=he;obtain⟨rfl,hH,hlen⟩:=strRow (hs 900 _ rfl) he;have hpl:=gi (τ:=.str) rfl ss;rcases h5 with rfl|⟨rfl,hz,rfl⟩
  ·by_cases h0:ss=[]
   ·subst h0;refine(Any.slices_Compact_string_empty L (some ⟨b,0,none⟩) cap w).mono ?_;rintro en w' ⟨rfl,rfl⟩;refine⟨_,_,fun _ _ _ h=>(by cases h),?_,After.row (c':=.row .str []) hp hs hd hi rfl (show e 900=some (.box b 0 (ae (.row .str [])).length)from he) rfl rfl rfl rfl (N8 _) (fun _ _ _=>rfl) (fun _ _=>rfl) ⟨rfl,fun _=>rfl⟩ (fun j c0 hc=>by simp[ae,flat]at hc)⟩;exact .arr 900 0 1 b (ae (.row .str [])).length cap _ (by simp) (by omega) (by omega) h4 (.inl rfl)
   ·have hpos:0<ss.length:=Oo.2 h0;have hb:b<w.heap.size:=aS (hH 0 (by simpa using hpos)).1;refine(Any.slices_Compact_string L b 0 cap ss w hH (by unfold aY at h4;omega) h3).mono ?_;rintro en w' ⟨rfl,q,rfl⟩
    have hA:=After.strRow (q:=q) (gs:=#[]) (ts:=Lib.compact ss++List.replicate (ss.length-(Lib.compact ss).length) []) hp hs hd hi rfl he (by simp;omega) hb (fun s hs'=>by
     rcases Nv.1 hs' with h|h
     ·exact hlen s (yo h)
     ·obtain⟨_,rfl⟩:=PC.1 h;exact N2 _)
    rw[grow_empty]at hA;exact⟨_,_,fun _ _ _ h=>(by cases h),.arr 900 (Lib.compact ss).length 1 b (ae (.row .str ss)).length cap _ (by simp) (by rw[hpl];omega) (by omega) h4 (.inl rfl),hA⟩
  ·have h0:ss=[]:=N5 hz;subst h0;refine(Any.slices_Compact_string_empty L none 0 w).mono ?_;rintro en w' ⟨rfl,rfl⟩;refine⟨_,_,fun _ _ _ h=>(by cases h),?_,After.row (c':=.row .str []) hp hs hd hi rfl (show e 900=some (.box b 0 (ae (.row .str [])).length)from he) rfl rfl rfl rfl (N8 _) (fun _ _ _=>rfl) (fun _ _=>rfl) ⟨rfl,fun _=>rfl⟩ (fun j c0 hc=>by simp[ae,flat]at hc)⟩;exact .arr 900 0 1 b (ae (.row .str [])).length 0 _ (by simp) (by omega) (by omega) h4 (.inr ⟨rfl,rfl,rfl⟩)
end Go.AL
end
noncomputable section
namespace Go.AL
variable [Tabs]
open Go.Proofs Go.RowKit Go.Maps Go.Sort Go.Shelf Go.Lib
variable {P:Program} {ρ:Ren}
theorem kE:∀a b:List UInt8,decide (compareBytes a b<0)=decide (a<b)
 |[],[]=>by simp[compareBytes]
 |[],_::_=>by simp[compareBytes]
 |_::_,[]=>by simp[compareBytes]
 |a::r,b::s=>by
  simp only[compareBytes];by_cases h1:a<b
  ·simp[h1,Oq]
  ·by_cases h2:b<a
   ·have:a≠b:=fun e=>by subst e;exact h1 h2
    simp[h1,h2,Oq,this]
   ·have:a=b:=UInt8.le_antisymm (Qq.1 h2) (Qq.1 h1);subst this;simp only[h1,Nt,kE r s];simp[Oq,OT]
end Go.AL
end
noncomputable section
namespace Go.AL
variable [Tabs]
open Go.Proofs Go.Shelf
variable {P:Program} {ρ:Ren}
def Mh(gv gk:Nat):Pat:=fun args S=>
 match args,S with
 |[.fn g [.ptr 900 0]],[(900,.box (.lst .str zs _))]=>
  if g=gv then some ⟨some (zs.length *16<=140737488355328),none,.arr 0 (eR zs).length 1,[(0,.box (.row .str (eR zs)))]⟩else none
 |[.fn g [.ptr 900 0]],[(900,.box (.map 901)),(901,.map .str _ m)]=>
  if g=gk then some ⟨some (m.length *16<=140737488355328),none,.arr 0 (eR (m.map (·.1))).length 1,[(0,.box (.row .str (eR (m.map (·.1)))))]⟩else none
 |_,_=>none
def nv(gv:Nat):Pat:=fun args S=>
 match args,S with
 |[.fn g [.ptr 900 0]],[(900,.box (.lst .str zs _))]=>
  if g=gv then some ⟨some (zs.length *16<=140737488355328),none,.arr 0 (eR zs).length 1,[(0,.box (.row .str (eR zs)))]⟩else none
 |_,_=>none
theorem tW{f gv:Nat}(L:SortL P ρ)(hf:ρ.f 6=f)(eg:∀args w,(callFunc gv args).run P w=.ok (.enter gv args) w)(V:wz P gv)(he:aq P f):ag P f (nv gv):=by
 subst hf;intro args S A h hob hkeys;unfold nv at h;split at h
 ·split at h
  ·rename_i e;subst e;cases h;exact⟨he,nu L eg V _ (hob _ rfl) _⟩
  ·cases h
 ·cases h
def nw:Pat:=fun args S=>
 match args,S with
 |[.arr 900 n 1],[(900,.box (.row .str ss))]=>
  some ⟨some (n=ss.length),none,.arr 900 (Lib.compact ss).length 1,[(900,.box (.row .str (Lib.compact ss++List.replicate (ss.length-(Lib.compact ss).length) [])))]⟩
 |_,_=>none
theorem tX{f:Nat}(L:Lays.n194 P ρ)(hf:ρ.f 194=f)(he:aq P f):ag P f nw:=by
 subst hf;intro args S A h hob hkeys;unfold nw at h;split at h
 ·cases h;exact⟨he,tV L _ _ (hob _ rfl)⟩
 ·cases h
end Go.AL
end
noncomputable section
namespace Go.AL
variable [Tabs] {P:Program}
def q1(τ:Ty)(b:den τ->Bool)(F:den τ->AV):Pat
 |[a],[]=>(match arg τ a with|some x=>(match b x with|true=>some (.ret (F x))|false=>none)|none=>none)
 |_,_=>none
theorem KY{f:Nat}{τ:Ty}{b:den τ->Bool}{F:den τ->AV}{O:den τ->Prop}(h:ag P f (p1 τ fun x=>⟨some (O x),none,F x,[]⟩))(hb:∀x,b x=true->O x):ag P f (q1 τ b F):=by
 intro args S A hA ho hl;unfold q1 at hA;split at hA
 ·rename_i a;split at hA
  ·rename_i x hx;split at hA
   ·rename_i ht;cases hA;have k:=h [a] [] ⟨some (O x),none,F x,[]⟩ (by simp[p1,hx]) (fun q hq=>by cases hq;exact hb x ht) hl;exact⟨k.1,k.2⟩
   ·cases hA
  ·cases hA
 ·cases hA
def q2(τ σ:Ty)(b:den τ->den σ->Bool)(F:den τ->den σ->AV):Pat
 |[a,c],[]=>(match arg τ a,arg σ c with|some x,some y=>(match b x y with|true=>some (.ret (F x y))|false=>none)|_,_=>none)
 |_,_=>none
theorem yp{f:Nat}{τ σ:Ty}{b:den τ->den σ->Bool}{F:den τ->den σ->AV}{O:den τ->den σ->Prop}(h:ag P f (p2 τ σ fun x y=>⟨some (O x y),none,F x y,[]⟩))(hb:∀x y,b x y=true->O x y):ag P f (q2 τ σ b F):=by
 intro args S A hA ho hl;unfold q2 at hA;split at hA
 ·rename_i a c;split at hA
  ·rename_i x y hx hy;split at hA
   ·rename_i ht;cases hA;have k:=h [a,c] [] ⟨some (O x y),none,F x y,[]⟩ (by simp[p2,hx,hy]) (fun q hq=>by cases hq;exact hb x y ht) hl;exact⟨k.1,k.2⟩
   ·cases hA
  ·cases hA
 ·cases hA
def qd(as0:List AV)(v:AV):Pat:=fun args S=>match eqVs as0 args,S with|true,[]=>some (.ret v)|_,_=>none
theorem mj{f:Nat}{as0:List AV}{v:AV}(he:aq P f)(h:an P f as0 [] (.ret v)):ag P f (qd as0 v):=by
 intro args S A hA ho hl;unfold qd at hA;split at hA
 ·rename_i heq;cases hA;rw[<-eqVs_ok _ _ heq];exact⟨he,h⟩
 ·cases hA
def t1(τ:Ty)(b:den τ->Bool):List AV->List (Nat×SObj)->Bool
 |[a],_=>(match arg τ a with|some x=>b x|none=>false)
 |_,_=>false
end Go.AL
end
section
open Go Go.AL Go.Proofs
namespace Go.AL.Seat
variable [Tabs]
def r1:TR:=⟨.other,1,8,[.undef],none⟩
def r2:TR:=⟨.int .i64,1,8,[.int .i64 0],some (.int .i64)⟩
def r5:TR:=⟨.int .u8,1,1,[.int .u8 0],some (.int .u8)⟩
def r7:TR:=⟨.strct true [(0,2),(1,3),(2,4),(3,6)],4,24,[.int .i64 0,.int .i64 0,.bool false,.int .u8 0],none⟩
def r9:TR:=⟨.str,1,16,[.str []],some .str⟩
def r12:TR:=⟨.int .u64,1,8,[.int .u64 0],some (.int .u64)⟩
def r13:TR:=⟨.strct false [(0,9),(1,12)],2,24,[.str [],.int .u64 0],none⟩
def r18:TR:=⟨.strct false [(0,17)],1,8,[.nilp],none⟩
def r20:TR:=⟨.iface,1,16,[.nilif],none⟩
def r21:TR:=⟨.int .i32,1,4,[.int .i32 0],some (.int .i32)⟩
def r65:TR:=⟨.strct true [(0,3),(1,3)],2,16,[.int .i64 0,.int .i64 0],none⟩
def r89:TR:=⟨.strct false [(0,61),(6,87),(7,36),(8,49),(9,88),(10,9),(11,9)],12,224,[.int .i64 0,.int .i64 0,.str [],.str [],.nils,.nils,.nils,.nils,.nils,.nils,.str [],.str []],none⟩
def r91:TR:=⟨.strct false [(0,9),(1,9),(2,90),(14,3)],15,264,[.str [],.str [],.int .i64 0,.int .i64 0,.str [],.str [],.nils,.nils,.nils,.nils,.nils,.nils,.str [],.str [],.int .i64 0],none⟩
def r109:TR:=⟨.strct true [(0,28)],2,16,[.int .i64 0,.int .i64 0],none⟩
def r129:TR:=⟨.strct false [(0,9),(1,9),(2,90)],14,256,[.str [],.str [],.int .i64 0,.int .i64 0,.str [],.str [],.nils,.nils,.nils,.nils,.nils,.nils,.str [],.str []],none⟩
def JN:TR:=⟨.strct true [(0,9),(1,3)],2,24,[.str [],.int .i64 0],none⟩
def JO:TR:=⟨.strct false [(0,140),(2,96),(3,28)],5,64,[.str [],.int .i64 0,.nils,.int .i64 0,.int .i64 0],none⟩
def Lt:TR:=⟨.strct false [],0,0,[],none⟩
def r266:TR:=⟨.strct true [(0,3),(1,3),(2,3),(3,3)],4,32,[.int .i64 0,.int .i64 0,.int .i64 0,.int .i64 0],none⟩
def r308:TR:=⟨.strct true [(0,5),(1,5)],2,2,[.int .u8 0,.int .u8 0],none⟩
def r339:TR:=⟨.strct false [(0,9),(1,9),(2,260)],3,48,[.str [],.str [],.nilif],none⟩
def r353:TR:=⟨.strct true [(0,9)],1,16,[.str []],none⟩
def r368:TR:=⟨.strct false [(0,17),(1,17),(2,17),(3,9)],4,40,[.nilp,.nilp,.nilp,.str []],none⟩
def r379:TR:=⟨.strct false [(0,12),(1,12),(2,230),(3,374),(4,5),(5,5),(6,375),(7,376),(8,351),(9,377),(10,378)],11,48,[.int .u64 0,.int .u64 0,.int .u32 0,.int .u8 0,.int .u8 0,.int .u8 0,.int .u8 0,.undef,.nilp,.int .i32 0,.int .i32 0],none⟩
def tbl:List (Nat×TR):=[(1,r1),
 (2,r2),
 (3,r2),
 (4,⟨.bool,1,1,[.bool false],some .bool⟩),
 (5,r5),
 (6,r5),
 (7,r7),
 (8,r7),
 (9,r9),
 (10,r9),
 (11,r9),
 (12,r12),
 (13,r13),
 (14,r13),
 (15,⟨.ptr 369,1,8,[.nilp],none⟩),
 (16,⟨.ptr 372,1,8,[.nilp],none⟩),
 (17,⟨.ptr 380,1,8,[.nilp],none⟩),
 (18,r18),
 (19,r18),
 (20,r20),
 (21,r21),
 (22,⟨.slice 38,1,24,[.nils],some (.lst (.st .modu))⟩),
 (23,r1),
 (24,r1),
 (25,⟨.slice 80,1,24,[.nils],some (.lst (.st .cell))⟩),
 (26,r2),
 (27,⟨.strct true [(0,26),(1,3)],2,16,[.int .i64 0,.int .i64 0],none⟩),
 (28,⟨.strct true [(0,26),(1,3)],2,16,[.int .i64 0,.int .i64 0],some (.st .fault)⟩),
 (30,r1),
 (31,r1),
 (32,r1),
 (33,r1),
 (34,⟨.slice 43,1,24,[.nils],some (.lst (.st .imp))⟩),
 (35,⟨.slice 53,1,24,[.nils],some (.lst (.st .decl))⟩),
 (36,⟨.slice 9,1,24,[.nils],some (.lst .str)⟩),
 (37,⟨.strct false [(0,9),(1,34),(2,35),(3,36),(4,3)],5,96,[.str [],.nils,.nils,.nils,.int .i64 0],none⟩),
 (38,⟨.strct false [(0,9),(1,34),(2,35),(3,36),(4,3)],5,96,[.str [],.nils,.nils,.nils,.int .i64 0],some (.st .modu)⟩),
 (39,⟨.strct true [(0,3),(1,3),(2,3),(3,9)],4,40,[.int .i64 0,.int .i64 0,.int .i64 0,.str []],none⟩),
 (40,⟨.strct true [(0,3),(1,3),(2,3),(3,9)],4,40,[.int .i64 0,.int .i64 0,.int .i64 0,.str []],some (.st .version)⟩),
 (41,⟨.slice 56,1,24,[.nils],some (.lst (.st .bound))⟩),
 (42,⟨.strct false [(0,9),(1,40),(5,41),(6,3)],7,88,[.str [],.int .i64 0,.int .i64 0,.int .i64 0,.str [],.nils,.int .i64 0],none⟩),
 (43,⟨.strct false [(0,9),(1,40),(5,41),(6,3)],7,88,[.str [],.int .i64 0,.int .i64 0,.int .i64 0,.str [],.nils,.int .i64 0],some (.st .imp)⟩),
 (44,r1),
 (45,r1),
 (46,⟨.slice 48,1,24,[.nils],some (.lst (.st .shape))⟩),
 (47,⟨.strct false [(0,3),(1,9),(2,9),(3,36),(4,46)],5,88,[.int .i64 0,.str [],.str [],.nils,.nils],none⟩),
 (48,⟨.strct false [(0,3),(1,9),(2,9),(3,36),(4,46)],5,88,[.int .i64 0,.str [],.str [],.nils,.nils],some (.st .shape)⟩),
 (49,⟨.slice 51,1,24,[.nils],some (.lst (.st .term))⟩),
 (50,⟨.strct false [(0,3),(1,9),(2,9),(3,3),(4,36),(5,36),(6,46),(7,49),(8,3)],9,152,[.int .i64 0,.str [],.str [],.int .i64 0,.nils,.nils,.nils,.nils,.int .i64 0],none⟩),
 (51,⟨.strct false [(0,3),(1,9),(2,9),(3,3),(4,36),(5,36),(6,46),(7,49),(8,3)],9,152,[.int .i64 0,.str [],.str [],.int .i64 0,.nils,.nils,.nils,.nils,.int .i64 0],some (.st .term)⟩),
 (52,⟨.strct false [(0,3),(1,9),(2,48),(7,51),(16,3)],17,272,[.int .i64 0,.str [],.int .i64 0,.str [],.str [],.nils,.nils,.int .i64 0,.str [],.str [],.int .i64 0,.nils,.nils,.nils,.nils,.int .i64 0,.int .i64 0],none⟩),
 (53,⟨.strct false [(0,3),(1,9),(2,48),(7,51),(16,3)],17,272,[.int .i64 0,.str [],.int .i64 0,.str [],.str [],.nils,.nils,.int .i64 0,.str [],.str [],.int .i64 0,.nils,.nils,.nils,.nils,.int .i64 0,.int .i64 0],some (.st .decl)⟩),
 (54,r1),
 (55,⟨.strct true [(0,3),(1,40)],5,48,[.int .i64 0,.int .i64 0,.int .i64 0,.int .i64 0,.str []],none⟩),
 (56,⟨.strct true [(0,3),(1,40)],5,48,[.int .i64 0,.int .i64 0,.int .i64 0,.int .i64 0,.str []],some (.st .bound)⟩),
 (58,r1),
 (59,⟨.slice 61,1,24,[.nils],some (.lst (.st .val))⟩),
 (60,⟨.strct false [(0,3),(1,2),(2,9),(3,9),(4,36),(5,59)],6,96,[.int .i64 0,.int .i64 0,.str [],.str [],.nils,.nils],none⟩),
 (61,⟨.strct false [(0,3),(1,2),(2,9),(3,9),(4,36),(5,59)],6,96,[.int .i64 0,.int .i64 0,.str [],.str [],.nils,.nils],some (.st .val)⟩),
 (63,r1),
 (64,⟨.ptr 66,1,8,[.nilp],none⟩),
 (65,r65),
 (66,r65),
 (67,r1),
 (68,⟨.map 9 69,1,8,[.nilm],none⟩),
 (69,⟨.slice 77,1,24,[.nils],some (.lst (.st .exp))⟩),
 (70,r1),
 (71,⟨.ptr 38,1,8,[.nilp],none⟩),
 (72,⟨.slice 75,1,24,[.nils],some (.lst (.st .thing))⟩),
 (73,⟨.ptr 165,1,8,[.nilp],none⟩),
 (74,⟨.strct false [(0,3),(1,2),(2,9),(3,9),(4,36),(5,72),(6,73)],7,104,[.int .i64 0,.int .i64 0,.str [],.str [],.nils,.nils,.nilp],none⟩),
 (75,⟨.strct false [(0,3),(1,2),(2,9),(3,9),(4,36),(5,72),(6,73)],7,104,[.int .i64 0,.int .i64 0,.str [],.str [],.nils,.nils,.nilp],some (.st .thing)⟩),
 (76,⟨.strct false [(0,9),(1,75),(8,3)],9,128,[.str [],.int .i64 0,.int .i64 0,.str [],.str [],.nils,.nils,.nilp,.int .i64 0],none⟩),
 (77,⟨.strct false [(0,9),(1,75),(8,3)],9,128,[.str [],.int .i64 0,.int .i64 0,.str [],.str [],.nils,.nils,.nilp,.int .i64 0],some (.st .exp)⟩),
 (78,r1),
 (79,⟨.strct false [(0,9),(1,61)],7,112,[.str [],.int .i64 0,.int .i64 0,.str [],.str [],.nils,.nils],none⟩),
 (80,⟨.strct false [(0,9),(1,61)],7,112,[.str [],.int .i64 0,.int .i64 0,.str [],.str [],.nils,.nils],some (.st .cell)⟩),
 (81,⟨.ptr 83,1,8,[.nilp],none⟩),
 (82,r65),
 (83,r65),
 (84,⟨.slice 92,1,24,[.nils],none⟩),
 (86,r1),
 (87,⟨.slice 90,1,24,[.nils],none⟩),
 (88,⟨.slice 130,1,24,[.nils],none⟩),
 (89,r89),
 (90,r89),
 (91,r91),
 (92,r91),
 (94,r1),
 (95,r1),
 (96,⟨.slice 148,1,24,[.nils],some (.lst (.st .token))⟩),
 (98,r1),
 (100,r1),
 (101,r1),
 (102,r1),
 (103,r1),
 (104,⟨.ptr 51,1,8,[.nilp],none⟩),
 (105,⟨.ptr 163,1,8,[.nilp],none⟩),
 (106,r1),
 (107,⟨.strct false [(0,105),(1,9)],2,24,[.nilp,.str []],none⟩),
 (108,⟨.strct false [(0,105),(1,9)],2,24,[.nilp,.str []],some (.st .plc)⟩),
 (109,r109),
 (110,r109),
 (112,r1),
 (113,r1),
 (115,r1),
 (116,⟨.ptr 53,1,8,[.nilp],none⟩),
 (117,r1),
 (118,r1),
 (119,r1),
 (120,r1),
 (121,r1),
 (122,r1),
 (124,r1),
 (125,⟨.ptr 3,1,8,[.nilp],none⟩),
 (126,r1),
 (127,r1),
 (128,r1),
 (129,r129),
 (130,r129),
 (132,r1),
 (133,r1),
 (134,r1),
 (135,r1),
 (136,r1),
 (137,r1),
 (138,⟨.ptr 142,1,8,[.nilp],none⟩),
 (139,JN),
 (140,JN),
 (141,JO),
 (142,JO),
 (143,r1),
 (144,r1),
 (145,r1),
 (146,r1),
 (147,⟨.strct true [(0,3),(1,9),(2,3)],3,32,[.int .i64 0,.str [],.int .i64 0],none⟩),
 (148,⟨.strct true [(0,3),(1,9),(2,3)],3,32,[.int .i64 0,.str [],.int .i64 0],some (.st .token)⟩),
 (149,⟨.ptr 154,1,8,[.nilp],none⟩),
 (150,r1),
 (151,⟨.strct false [(0,96),(1,3),(2,28)],4,48,[.nils,.int .i64 0,.int .i64 0,.int .i64 0],none⟩),
 (152,⟨.strct false [(0,96),(1,3),(2,28)],4,48,[.nils,.int .i64 0,.int .i64 0,.int .i64 0],some (.st .par)⟩),
 (153,⟨.strct false [(0,152)],4,48,[.nils,.int .i64 0,.int .i64 0,.int .i64 0],none⟩),
 (154,⟨.strct false [(0,152)],4,48,[.nils,.int .i64 0,.int .i64 0,.int .i64 0],some (.st .par)⟩),
 (155,r1),
 (156,r1),
 (158,r1),
 (159,r1),
 (160,r1),
 (161,r1),
 (162,⟨.strct false [(0,9),(1,9),(2,75),(9,105)],10,144,[.str [],.str [],.int .i64 0,.int .i64 0,.str [],.str [],.nils,.nils,.nilp,.nilp],none⟩),
 (163,⟨.strct false [(0,9),(1,9),(2,75),(9,105)],10,144,[.str [],.str [],.int .i64 0,.int .i64 0,.str [],.str [],.nils,.nils,.nilp,.nilp],some (.st .scope)⟩),
 (164,⟨.strct false [(0,108),(2,36),(3,104),(4,9),(5,3)],6,80,[.nilp,.str [],.nils,.nilp,.str [],.int .i64 0],none⟩),
 (165,⟨.strct false [(0,108),(2,36),(3,104),(4,9),(5,3)],6,80,[.nilp,.str [],.nils,.nilp,.str [],.int .i64 0],some (.st .func)⟩),
 (166,r1),
 (167,r1),
 (168,r1),
 (169,r1),
 (170,r1),
 (171,r1),
 (172,r1),
 (173,r1),
 (174,r1),
 (175,r1),
 (176,r1),
 (177,r1),
 (178,r12),
 (179,r1),
 (181,r1),
 (182,r1),
 (183,r1),
 (184,r1),
 (185,r1),
 (187,r1),
 (188,r1),
 (189,r1),
 (190,r1),
 (191,r1),
 (192,⟨.ptr 140,1,8,[.nilp],none⟩),
 (193,⟨.slice 3,1,24,[.nils],some (.lst (.int .i64))⟩),
 (195,r1),
 (196,r1),
 (197,r1),
 (198,r1),
 (200,r1),
 (202,r1),
 (203,⟨.ptr 152,1,8,[.nilp],none⟩),
 (204,r1),
 (205,r1),
 (206,r1),
 (207,r1),
 (208,r1),
 (209,r1),
 (210,r1),
 (211,r1),
 (212,r1),
 (213,r1),
 (214,r1),
 (215,r1),
 (216,r1),
 (217,r1),
 (218,r1),
 (219,r1),
 (220,r1),
 (221,r1),
 (222,r2),
 (224,r1),
 (225,r1),
 (226,r1),
 (228,r1),
 (229,r1),
 (230,⟨.int .u32,1,4,[.int .u32 0],some (.int .u32)⟩),
 (231,r1),
 (232,r12),
 (233,Lt),
 (234,Lt),
 (236,r1),
 (237,r1),
 (238,r1),
 (239,r1),
 (240,r1),
 (241,r1),
 (242,r1),
 (243,r1),
 (244,r1),
 (245,r1),
 (246,r1),
 (248,r1),
 (249,r1),
 (253,r1),
 (254,r1),
 (255,⟨.ptr 251,1,8,[.nilp],none⟩),
 (257,r1),
 (258,⟨.arr 3 3,3,24,[.int .i64 0,.int .i64 0,.int .i64 0],none⟩),
 (259,r20),
 (260,r20),
 (262,r1),
 (263,⟨.slice 5,1,24,[.nils],some (.lst (.int .u8))⟩),
 (264,r1),
 (265,r1),
 (266,r266),
 (267,r266),
 (268,r1),
 (269,r1),
 (270,r1),
 (271,r1),
 (272,r1),
 (273,r1),
 (274,r1),
 (275,r1),
 (276,r1),
 (277,r1),
 (278,r1),
 (279,r12),
 (280,r1),
 (281,r1),
 (282,r1),
 (283,r1),
 (284,r1),
 (285,r1),
 (286,r1),
 (288,r1),
 (289,r1),
 (290,r1),
 (291,r1),
 (292,r1),
 (293,r1),
 (294,r1),
 (295,r1),
 (296,r1),
 (297,Lt),
 (299,r1),
 (300,r1),
 (301,r1),
 (302,r1),
 (303,⟨.ptr 279,1,8,[.nilp],none⟩),
 (304,r1),
 (305,r1),
 (306,r1),
 (308,r308),
 (309,r308),
 (311,r1),
 (312,r2),
 (314,r1),
 (315,⟨.ptr 340,1,8,[.nilp],none⟩),
 (316,r1),
 (317,r1),
 (318,r1),
 (319,r1),
 (321,r1),
 (323,r1),
 (324,r1),
 (325,r1),
 (326,r1),
 (327,r1),
 (328,r1),
 (329,r1),
 (330,r1),
 (331,r1),
 (332,r1),
 (333,r1),
 (334,r1),
 (335,r1),
 (337,r1),
 (338,r1),
 (339,r339),
 (340,r339),
 (341,r1),
 (342,r1),
 (345,r1),
 (346,r1),
 (347,r1),
 (349,r1),
 (350,r1),
 (351,⟨.ptr 5,1,8,[.nilp],none⟩),
 (352,⟨.ptr 354,1,8,[.nilp],none⟩),
 (353,r353),
 (354,r353),
 (355,r1),
 (356,r1),
 (357,r1),
 (359,r1),
 (361,r1),
 (365,r1),
 (366,r1),
 (367,r1),
 (368,r368),
 (369,r368),
 (373,r1),
 (374,r5),
 (375,r5),
 (376,r1),
 (377,r21),
 (378,r21),
 (379,r379),
 (380,r379)]
theorem tk{t:Nat}{r:TR}(h1:(Tryz.prog.info? t).map (fun i=>(i.size,i.bytes,i.zero.map fun z=>z.cells.toList.map bL))=some (r.size,r.bytes,some r.zero):=by kernel_rfl)
 (h2:(Tryz.prog.underlying t).map (aB Tryz.prog r.ti)=some true:=by kernel_rfl)
 (h3:(fB r.zero r.size&&(Nat.beq r.size 0||Nat.blt 0 r.bytes)&&(match r.ty with | some τ=>Nat.beq (ab τ) r.size&&(Jn τ ==r.isAgg) | none=>true))=true:=by kernel_rfl)
 (h8:(Tryz.prog.info? t).map (fun i=>i.zero.map fun z=>AN z ==r.isAgg)=some (some true):=by kernel_rfl)
 (h9:(match r.ti with|.strct true _=>!Tryz.prog.stoodInHeld t&&!Tryz.prog.eqGuardType Tryz.prog.depth t|_=>true)=true:=by kernel_rfl):TRok Tryz.prog t r:=TRok.mk' h1 h2 h3 h8 h9
theorem uY:aP Tryz.prog tbl:=
 .cons tk (.cons tk (.cons tk (.cons tk (.cons tk (.cons tk (.cons tk (.cons tk (.cons tk (.cons tk (.cons tk (.cons tk (.cons tk (.cons tk (.cons tk (.cons tk (.cons tk (.cons tk (.cons tk (.cons tk (.cons tk (.cons tk (.cons tk (.cons tk (.cons tk (.cons tk (.cons tk (.cons tk (.cons tk (.cons tk (.cons tk (.cons tk (.cons tk (.cons tk (.cons tk (.cons tk (.cons tk (.cons tk (.cons tk (.cons tk (.cons tk (.cons tk (.cons tk (.cons tk (.cons tk (.cons tk (.cons tk (.cons tk (.cons tk (.cons tk (.cons tk (.cons tk (.cons tk (.cons tk (.cons tk (.cons tk (.cons tk (.cons tk (.cons tk (.cons tk (.cons tk (.cons tk (.cons tk (.cons tk (.cons tk (.cons tk (.cons tk (.cons tk (.cons tk (.cons tk (.cons tk (.cons tk (.cons tk (.cons tk (.cons tk (.cons tk (.cons tk (.cons tk (.cons tk (.cons tk (.cons tk (.cons tk (.cons tk (.cons tk (.cons tk (.cons tk (.cons tk (.cons tk (.cons tk (.cons tk (.cons tk (.cons tk (.cons tk (.cons tk (.cons tk (.cons tk (.cons tk (.cons tk (.cons tk (.cons tk (.cons tk (.cons tk (.cons tk (.cons tk (.cons tk (.cons tk (.cons tk (.cons tk (.cons tk (.cons tk (.cons tk (.cons tk (.cons tk (.cons tk (.cons tk (.cons tk (.cons tk (.cons tk (.cons tk (.cons tk (.cons tk (.cons tk (.cons tk (.cons tk (.cons tk (.cons tk (.cons tk (.cons tk (.cons tk (.cons tk (.cons tk (.cons tk (.cons tk (.cons tk (.cons tk (.cons tk (.cons tk (.cons tk (.cons tk (.cons tk (.cons tk (.cons tk (.cons tk (.cons tk (.cons tk (.cons tk (.cons tk (.cons tk (.cons tk (.cons tk (.cons tk (.cons tk (.cons tk (.cons tk (.cons tk (.cons tk (.cons tk (.cons tk (.cons tk (.cons tk (.cons tk (.cons tk (.cons tk (.cons tk (.cons tk (.cons tk (.cons tk (.cons tk (.cons tk (.cons tk (.cons tk (.cons tk (.cons tk (.cons tk (.cons tk (.cons tk (.cons tk (.cons tk (.cons tk (.cons tk (.cons tk (.cons tk (.cons tk (.cons tk (.cons tk (.cons tk (.cons tk (.cons tk (.cons tk (.cons tk (.cons tk (.cons tk (.cons tk (.cons tk (.cons tk (.cons tk (.cons tk (.cons tk (.cons tk (.cons tk (.cons tk (.cons tk (.cons tk (.cons tk (.cons tk (.cons tk (.cons tk (.cons tk (.cons tk (.cons tk (.cons tk (.cons tk (.cons tk (.cons tk (.cons tk (.cons tk (.cons tk (.cons tk (.cons tk (.cons tk (.cons tk (.cons tk (.cons tk (.cons tk (.cons tk (.cons tk (.cons tk (.cons tk (.cons tk (.cons tk (.cons tk (.cons tk (.cons tk (.cons tk (.cons tk (.cons tk (.cons tk (.cons tk (.cons tk (.cons tk (.cons tk (.cons tk (.cons tk (.cons tk (.cons tk (.cons tk (.cons tk (.cons tk (.cons tk (.cons tk (.cons tk (.cons tk (.cons tk (.cons tk (.cons tk (.cons tk (.cons tk (.cons tk (.cons tk (.cons tk (.cons tk (.cons tk (.cons tk (.cons tk (.cons tk (.cons tk (.cons tk (.cons tk (.cons tk (.cons tk (.cons tk (.cons tk (.cons tk (.cons tk (.cons tk (.cons tk (.cons tk (.cons tk (.cons tk (.cons tk (.cons tk (.cons tk (.cons tk (.cons tk (.cons tk (.cons tk (.cons tk (.cons tk (.cons tk (.cons tk (.cons tk (.cons tk (.cons tk (.cons tk (.cons tk (.cons tk (.cons tk (.cons tk (.cons tk (.cons tk (.cons tk (.cons tk (.cons tk (.cons tk (.cons tk (.cons tk (.cons tk (.cons tk (.cons tk (.cons tk (.cons tk (.cons tk (.cons tk (.cons tk (.cons tk (.cons tk (.cons tk (.cons tk (.cons tk (.cons tk (.cons tk (.cons tk (.cons tk (.cons tk (.cons tk (.cons tk (.cons tk (.cons tk (.cons tk (.cons tk (.cons tk (.cons tk (.cons tk (.cons tk (.cons tk (.nil)))))))))))))))))))))))))))))))))))))))))))))))))))))))))))))))))))))))))))))))))))))))))))))))))))))))))))))))))))))))))))))))))))))))))))))))))))))))))))))))))))))))))))))))))))))))))))))))))))))))))))))))))))))))))))))))))))))))))))))))))))))))))))))))))))))))))))))))))))))))))))))))))))))))))))))))))))))))))))))))))))))))))))))))
theorem mixed:Tryz.prog.follows .mixedOrders=true:=by kernel_rfl
end Go.AL.Seat
end
section
namespace Go.Proofs
open Go.Shelf
def Tryz.lays190_ren:Go.Shelf.Ren:=⟨fun|190=>200|125=>76|258=>257|128=>141|129=>142|302=>286|303=>287|304=>288|305=>289|306=>290|307=>291|308=>292|309=>293|310=>294|333=>317|329=>203|330=>204|334=>318|335=>319|336=>77|344=>329|n=>n,fun|31=>36|9=>9|3=>3|46=>178|0=>0|51=>230|53=>232|4=>4|183=>223|182=>222|131=>227|5=>5|218=>279|222=>125|228=>303|229=>157|n=>n,fun|n=>n⟩
theorem Tryz.lays190:Go.Proofs.Lays.n190 Tryz.prog Tryz.lays190_ren:={
 mixed:=by kernel_rfl
 f125:=Xt Tryz.func76
 f128:=Xt Tryz.func141
 f129:=Xt Tryz.func142
 f190:=Xt Tryz.func200
 f258:=Xt Tryz.func257
 f302:=Xt Tryz.func286
 f303:=Xt Tryz.func287
 f304:=Xt Tryz.func288
 f305:=Xt Tryz.func289
 f306:=Xt Tryz.func290
 f307:=Xt Tryz.func291
 f308:=Xt Tryz.func292
 f309:=Xt Tryz.func293
 f310:=Xt Tryz.func294
 f329:=Xt Tryz.func203
 f330:=Xt Tryz.func204
 f333:=Xt Tryz.func317
 f334:=Xt Tryz.func318
 f335:=Xt Tryz.func319
 f336:=Xt Tryz.func77
 f344:=Xt Tryz.func329
 t0:=Tryz.underlying0
 a0:=Tryz.isAgg0
 z0:=Tryz.sizeOf0
 v0:=Tryz.zeroValue0
 t3:=Tryz.underlying3
 a3:=Tryz.isAgg3
 z3:=Tryz.sizeOf3
 v3:=Tryz.zeroValue3
 t4:=Tryz.underlying4
 a4:=Tryz.isAgg4
 z4:=Tryz.sizeOf4
 v4:=Tryz.zeroValue4
 t5:=Tryz.underlying5
 a5:=Tryz.isAgg5
 z5:=Tryz.sizeOf5
 v5:=Tryz.zeroValue5
 t9:=Tryz.underlying9
 a9:=Tryz.isAgg9
 z9:=Tryz.sizeOf9
 v9:=Tryz.zeroValue9
 t31:=Tryz.underlying36
 a31:=Tryz.isAgg36
 z31:=Tryz.sizeOf36
 v31:=Tryz.zeroValue36
 t46:=Tryz.underlying178
 a46:=Tryz.isAgg178
 z46:=Tryz.sizeOf178
 v46:=Tryz.zeroValue178
 t51:=Tryz.underlying230
 a51:=Tryz.isAgg230
 z51:=Tryz.sizeOf230
 v51:=Tryz.zeroValue230
 t53:=Tryz.underlying232
 a53:=Tryz.isAgg232
 z53:=Tryz.sizeOf232
 v53:=Tryz.zeroValue232
 t131:=Tryz.underlying227
 a131:=Tryz.isAgg227
 z131:=Tryz.sizeOf227
 v131:=Tryz.zeroValue227
 t182:=Tryz.underlying222
 a182:=Tryz.isAgg222
 z182:=Tryz.sizeOf222
 v182:=Tryz.zeroValue222
 t183:=Tryz.underlying223
 a183:=Tryz.isAgg223
 z183:=Tryz.sizeOf223
 v183:=Tryz.zeroValue223
 t218:=Tryz.underlying279
 a218:=Tryz.isAgg279
 z218:=Tryz.sizeOf279
 v218:=Tryz.zeroValue279
 t222:=Tryz.underlying125
 a222:=Tryz.isAgg125
 z222:=Tryz.sizeOf125
 v222:=Tryz.zeroValue125
 t228:=Tryz.underlying303
 a228:=Tryz.isAgg303
 z228:=Tryz.sizeOf303
 v228:=Tryz.zeroValue303
 t229:=Tryz.underlying157
 a229:=Tryz.isAgg157
 z229:=Tryz.sizeOf157
 v229:=Tryz.zeroValue157}
def Tryz.lays194_ren:Go.Shelf.Ren:=⟨fun|194=>132|n=>n,fun|31=>36|9=>9|3=>3|4=>4|0=>0|n=>n,fun|n=>n⟩
theorem Tryz.lays194:Go.Proofs.Lays.n194 Tryz.prog Tryz.lays194_ren:={
 mixed:=by kernel_rfl
 f194:=Xt Tryz.func132
 t0:=Tryz.underlying0
 a0:=Tryz.isAgg0
 z0:=Tryz.sizeOf0
 v0:=Tryz.zeroValue0
 t3:=Tryz.underlying3
 a3:=Tryz.isAgg3
 z3:=Tryz.sizeOf3
 v3:=Tryz.zeroValue3
 t4:=Tryz.underlying4
 a4:=Tryz.isAgg4
 z4:=Tryz.sizeOf4
 v4:=Tryz.zeroValue4
 t9:=Tryz.underlying9
 a9:=Tryz.isAgg9
 z9:=Tryz.sizeOf9
 v9:=Tryz.zeroValue9
 t31:=Tryz.underlying36
 a31:=Tryz.isAgg36
 z31:=Tryz.sizeOf36
 v31:=Tryz.zeroValue36}
def Tryz.lays172_ren:Go.Shelf.Ren:=⟨fun|172=>172|244=>228|245=>229|247=>270|279=>271|280=>272|281=>273|282=>274|287=>308|316=>309|171=>311|205=>310|321=>324|322=>325|243=>326|246=>244|283=>278|284=>279|285=>280|286=>281|129=>142|317=>312|318=>313|319=>314|320=>315|337=>327|338=>328|n=>n,fun|9=>9|3=>3|75=>260|76=>261|4=>4|5=>5|167=>312|37=>263|0=>0|85=>313|2=>2|168=>315|53=>232|175=>336|46=>178|210=>340|127=>351|145=>354|143=>352|21=>21|171=>320|173=>322|212=>343|51=>230|20=>20|213=>344|232=>362|233=>363|80=>367|n=>n,fun|15=>3|16=>4|17=>5|18=>6|19=>7|n=>n⟩
theorem Tryz.lays172:Go.Proofs.Lays.n172 Tryz.prog Tryz.lays172_ren:={
 mixed:=by kernel_rfl
 f129:=Xt Tryz.func142
 f171:=Xt Tryz.func311
 f172:=Xt Tryz.func172
 f205:=Xt Tryz.func310
 f243:=Xt Tryz.func326
 f244:=Xt Tryz.func228
 f245:=Xt Tryz.func229
 f246:=Xt Tryz.func244
 f247:=Xt Tryz.func270
 f279:=Xt Tryz.func271
 f280:=Xt Tryz.func272
 f281:=Xt Tryz.func273
 f282:=Xt Tryz.func274
 f283:=Xt Tryz.func278
 f284:=Xt Tryz.func279
 f285:=Xt Tryz.func280
 f286:=Xt Tryz.func281
 f287:=Xt Tryz.func308
 f316:=Xt Tryz.func309
 f317:=Xt Tryz.func312
 f318:=Xt Tryz.func313
 f319:=Xt Tryz.func314
 f320:=Xt Tryz.func315
 f321:=Xt Tryz.func324
 f322:=Xt Tryz.func325
 f337:=Xt Tryz.func327
 f338:=Xt Tryz.func328
 t0:=Tryz.underlying0
 a0:=Tryz.isAgg0
 z0:=Tryz.sizeOf0
 v0:=Tryz.zeroValue0
 t2:=Tryz.underlying2
 a2:=Tryz.isAgg2
 z2:=Tryz.sizeOf2
 v2:=Tryz.zeroValue2
 t3:=Tryz.underlying3
 a3:=Tryz.isAgg3
 z3:=Tryz.sizeOf3
 v3:=Tryz.zeroValue3
 t4:=Tryz.underlying4
 a4:=Tryz.isAgg4
 z4:=Tryz.sizeOf4
 v4:=Tryz.zeroValue4
 t5:=Tryz.underlying5
 a5:=Tryz.isAgg5
 z5:=Tryz.sizeOf5
 v5:=Tryz.zeroValue5
 t9:=Tryz.underlying9
 a9:=Tryz.isAgg9
 z9:=Tryz.sizeOf9
 v9:=Tryz.zeroValue9
 t20:=Tryz.underlying20
 a20:=Tryz.isAgg20
 z20:=Tryz.sizeOf20
 v20:=Tryz.zeroValue20
 t21:=Tryz.underlying21
 a21:=Tryz.isAgg21
 z21:=Tryz.sizeOf21
 v21:=Tryz.zeroValue21
 t37:=Tryz.underlying263
 a37:=Tryz.isAgg263
 z37:=Tryz.sizeOf263
 v37:=Tryz.zeroValue263
 t46:=Tryz.underlying178
 a46:=Tryz.isAgg178
 z46:=Tryz.sizeOf178
 v46:=Tryz.zeroValue178
 t51:=Tryz.underlying230
 a51:=Tryz.isAgg230
 z51:=Tryz.sizeOf230
 v51:=Tryz.zeroValue230
 t53:=Tryz.underlying232
 a53:=Tryz.isAgg232
 z53:=Tryz.sizeOf232
 v53:=Tryz.zeroValue232
 t75:=Tryz.underlying260
 a75:=Tryz.isAgg260
 z75:=Tryz.sizeOf260
 v75:=Tryz.zeroValue260
 t76:=Tryz.underlying261
 a76:=Tryz.isAgg261
 z76:=Tryz.sizeOf261
 v76:=Tryz.zeroValue261
 t85:=Tryz.underlying313
 a85:=Tryz.isAgg313
 z85:=Tryz.sizeOf313
 v85:=Tryz.zeroValue313
 t127:=Tryz.underlying351
 a127:=Tryz.isAgg351
 z127:=Tryz.sizeOf351
 v127:=Tryz.zeroValue351
 t143:=Tryz.underlying352
 a143:=Tryz.isAgg352
 z143:=Tryz.sizeOf352
 v143:=Tryz.zeroValue352
 t145:=Tryz.underlying354
 a145:=Tryz.isAgg354
 z145:=Tryz.sizeOf354
 v145:=Tryz.zeroValue354
 t167:=Tryz.underlying312
 a167:=Tryz.isAgg312
 z167:=Tryz.sizeOf312
 v167:=Tryz.zeroValue312
 t168:=Tryz.underlying315
 a168:=Tryz.isAgg315
 z168:=Tryz.sizeOf315
 v168:=Tryz.zeroValue315
 t171:=Tryz.underlying320
 a171:=Tryz.isAgg320
 z171:=Tryz.sizeOf320
 v171:=Tryz.zeroValue320
 t173:=Tryz.underlying322
 a173:=Tryz.isAgg322
 z173:=Tryz.sizeOf322
 v173:=Tryz.zeroValue322
 t175:=Tryz.underlying336
 a175:=Tryz.isAgg336
 z175:=Tryz.sizeOf336
 v175:=Tryz.zeroValue336
 t210:=Tryz.underlying340
 a210:=Tryz.isAgg340
 z210:=Tryz.sizeOf340
 v210:=Tryz.zeroValue340
 t212:=Tryz.underlying343
 a212:=Tryz.isAgg343
 z212:=Tryz.sizeOf343
 v212:=Tryz.zeroValue343
 t213:=Tryz.underlying344
 a213:=Tryz.isAgg344
 z213:=Tryz.sizeOf344
 t232:=Tryz.underlying362
 a232:=Tryz.isAgg362
 z232:=Tryz.sizeOf362
 v232:=Tryz.zeroValue362
 t233:=Tryz.underlying363
 a233:=Tryz.isAgg363
 z233:=Tryz.sizeOf363
 v233:=Tryz.zeroValue363
 g15:=by kernel_rfl
 g16:=by kernel_rfl
 g17:=by kernel_rfl
 g18:=by kernel_rfl
 g19:=by kernel_rfl}
def Tryz.sorted200_ren:Go.Shelf.Ren:=⟨fun|6=>130|8=>199|9=>200|11=>256|13=>76|12=>257|23=>141|24=>142|14=>286|15=>287|16=>288|17=>289|18=>290|19=>291|20=>292|21=>293|22=>294|25=>317|26=>203|27=>204|28=>318|29=>319|30=>77|31=>329|n=>n,fun|26=>9|28=>219|24=>36|0=>0|3=>3|37=>178|48=>230|50=>232|4=>4|40=>223|39=>222|45=>227|5=>5|9=>9|51=>279|55=>125|57=>303|58=>157|33=>168|n=>n,fun|n=>n⟩
theorem Tryz.sorted200:Go.Proofs.SlLaysZ.n6 Tryz.prog Tryz.sorted200_ren:={
 mixed:=by kernel_rfl
 f6:=⟨Tryz.f130.name,by decide,Xt Tryz.func130⟩
 f8:=⟨Tryz.f199.name,by decide,Xt Tryz.func199⟩
 f11:=⟨Tryz.f256.name,by decide,Xt Tryz.func256⟩
 t0:=Tryz.underlying0
 a0:=Tryz.isAgg0
 z0:=Tryz.sizeOf0
 v0:=Tryz.zeroValue0
 t24:=Tryz.underlying36
 a24:=Tryz.isAgg36
 z24:=Tryz.sizeOf36
 v24:=Tryz.zeroValue36
 t26:=Tryz.underlying9
 a26:=Tryz.isAgg9
 z26:=Tryz.sizeOf9
 v26:=Tryz.zeroValue9
 t28:=Tryz.underlying219
 a28:=Tryz.isAgg219
 z28:=Tryz.sizeOf219
 v28:=Tryz.zeroValue219
 i26:=by kernel_rfl}
end Go.Proofs
end
section
namespace Go.Proofs
open Go.RowKit Go.Shelf Go.AL
variable [Tabs]
attribute [local go_sem] Oper.semAt_some
set_option maxRecDepth 100000 in
set_option maxHeartbeats 2000000 in
theorem Tryz.values1(F:Fence)(n:Nat)(h7:F.fn 201)(hro:F.round=none)(hn:1<=n)(l Bs Bo b off len cap:Nat)(zs:List Str)(hreach:len<=maxLen)(J:List Str->World->Prop)(hBl:∀pre W,J pre W->W.cell? ⟨Bs,Bo,none⟩=some (.slice (some ⟨b,off,none⟩) len cap)/\∀j,j<len->W.cell? ⟨b,off+j,none⟩=some (encStr (zs[j]?.getD [])))
 (hY:∀pre x W,J pre W->pre.length<len->YieldAt F (n-1) Tryz.prog l #[encStr x] W fun e W'=>e=.returned (.bool true)/\J (pre++[x]) W')
 (W:World)(h0:J [] W) :
  CallsIn F n Tryz.prog 201 #[.func (.yield l) #[] #[],.pointer (some ⟨Bs,Bo,none⟩)] W fun e W'=>(∃v,e=.returned v)/\∃ys,ys=upto (fun j=>zs[j]?.getD []) len/\J ys W':=by
 obtain⟨hBs,hc⟩:=hBl _ _ h0;refine callsIn_of_wp Tryz.func201 rfl h7 ?_ hro;simp only[Tryz.ntmps201,OW,Ni,Oi,Nat.reduceAdd,Nat.reduceSub,P1,P2,Ph,P4,Oa,Od]
 gi_wp2
 gi_loopw [7] (fun i wr=>∃k:Nat,k<=len/\i=.int .i64 k/\J (upto (fun j=>zs[j]?.getD []) k) wr)
  (fun i _=>len-(intOf i).toNat)
 case atStart=>exact⟨0,N2 _,rfl,h0⟩
 case round=>
  obtain⟨k,hk,rfl,hJs⟩:=hrel;have hcx:k<len->wr.cell? ⟨b,off+k,none⟩=some (encStr (zs[k]?.getD [])):=fun h=>(hBl _ _ hJs).2 k h;by_cases hlt:k<len
  ·obtain⟨fn,tmps,assign,body,hy,hR⟩:=hY _ (zs[k]?.getD []) wr hJs (by rw[yn];exact hlt);have hcx':=hcx hlt;have hsmall:(k:Int)+1<=9223372036854775807:=by unfold maxLen at hreach;omega
   gi_wp2
   refine hR.mono ?_;rintro e W3 ⟨rfl,hJ3⟩
   gi_wp2
   go_roundw
   case rel=>exact⟨k+1,by omega,by simp,by rw[ET];exact hJ3⟩
   case measure=>simp[intOf];omega
  ·obtain rfl:k=len:=by omega
   gi_wp2
   go_end0
   exact⟨⟨_,rfl⟩,_,rfl,hJs⟩
set_option maxRecDepth 100000 in
set_option maxHeartbeats 1000000 in
theorem Tryz.values1_nil(F:Fence)(n:Nat)(h7:F.fn 201)(hro:F.round=none)(l Bs Bo cap:Nat)(a:Option Addr)(J:List Str->World->Prop)(W:World)(hBs:W.cell? ⟨Bs,Bo,none⟩=some (.slice a 0 cap))(h0:J [] W) :
  CallsIn F n Tryz.prog 201 #[.func (.yield l) #[] #[],.pointer (some ⟨Bs,Bo,none⟩)] W fun e W'=>(∃v,e=.returned v)/\J [] W':=by
 refine callsIn_of_wp Tryz.func201 rfl h7 ?_ hro;simp only[Tryz.ntmps201,OW,Ni,Oi,Nat.reduceAdd,Nat.reduceSub,P1,P2,Ph,P4,Oa,Od]
 gi_wp2
 gi_loopw [7] (fun i wr=>i=.int .i64 0/\J [] wr) (fun _ _=>0)
 case atStart=>exact⟨rfl,h0⟩
 case round=>
  obtain⟨rfl,hJs⟩:=hrel
  gi_wp2
  go_end0
  exact⟨⟨_,rfl⟩,hJs⟩
theorem Tryz.valuesL:wz Tryz.prog 201:=by
 intro w b o sv zs hz hc hs l J W a1 a2 a3 a4 a5;have hb:=aS hc;rcases hs with⟨⟨a,cap,rfl⟩,rfl⟩|⟨g,off,cap,rfl,hg,hcs⟩
 ·refine(Tryz.values1_nil Fence.wide 2 trivial rfl l b o cap a J W ((a1.cell (p:=⟨b,o,none⟩) hb).trans hc) a5).mono ?_;rintro e W' ⟨h1,h2⟩;exact⟨h1,[],rfl,h2⟩
 ·refine(Tryz.values1 Fence.wide 2 trivial rfl (by omega) l b o g off zs.length cap zs hz J (fun pre W1 hJ=>⟨((a3 _ _ hJ).cell (p:=⟨b,o,none⟩) hb).trans hc,fun j hj=>((a3 _ _ hJ).cell (p:=⟨g,off+j,none⟩) hg).trans (hcs j hj)⟩)
   (fun pre x W1 h1 h2=>(a4 pre x W1 h1 h2).mono fun e W' h=>⟨h.1,h.2.1⟩) W a5).mono ?_
  rintro e W' ⟨h1,ys,h2,h3⟩;exact⟨h1,ys,by rw[h2,He],h3⟩
end Go.Proofs
end
noncomputable section
namespace Go.AL
open Go.Lib
theorem yq{l:List Str}(hs:l.Pairwise (·<= ·)):(Lib.compact l).length=l.length↔l.Nodup:=by
 unfold Lib.compact Lib.compactUpTo;rw[NT];have e:((List.range l.length).filter (keeps l.toArray)).length=l.length↔∀j,j<l.length->keeps l.toArray j=true:=by have h:=List.length_filter_eq_length_iff (p:=keeps l.toArray) (l:=List.range l.length);rw[List.length_range]at h;rw[h];simp
 rw[e,Pm,OF];rw[OF]at hs;constructor
 ·intro h i j hi hj hij eq;have hk:=h j hj;have hj1:j-1<l.length:=by omega
  have h1:l[i]<=l[j-1]:=by
   rcases MY i (j-1)with q|q
   ·exact hs i (j-1) hi hj1 q
   ·have:i=j-1:=by omega
    subst this;exact List.le_refl _
  have h2:l[j-1]<=l[j]:=hs (j-1) j hj1 hj (by omega);have h3:l[j-1]=l[j]:=List.le_antisymm h2 (by rw[<-eq];exact h1);unfold keeps at hk;simp[hj,hj1,h3]at hk;omega
 ·intro h j hj;unfold keeps;rcases Ox j with q|q
  ·simp[q]
  ·have hj1:j-1<l.length:=by omega
   have:=h (j-1) j hj1 hj (by omega);simp[hj,hj1];exact .inr fun e=>this e.symm
theorem wB(l:List Str):(eR l).Pairwise (·<= ·):=by
 have tr:∀a b c:Str,decide (a<=b)=true->decide (b<=c)=true->decide (a<=c)=true:=fun a b c h1 h2=>by simp only[MV]at *;exact List.le_trans h1 h2
 have tot:∀a b:Str,(decide (a<=b)||decide (b<=a))=true:=fun a b=>by simp only[NO,MV];exact List.le_total _ _
 exact(List.pairwise_mergeSort tr tot l).imp fun h=>by simpa using h
theorem yr{l:List Str}:(eR l).Nodup↔l.Nodup:=(List.mergeSort_perm l _).nodup_iff
theorem fM(l:List Str):(Lib.compact (eR l)).length=l.length↔l.Nodup:=by
 letI:=vT
 rw[<-og l,yq (wB l),yr]
end Go.AL
end
section
namespace Go.Pd
open Go.AL
def cW(c:Int):Bool:=decide (97<=c)&&decide (c<=122)
def df(c:Int):Bool:=decide (65<=c)&&decide (c<=90)
def gQ(c:Int):Bool:=decide (48<=c)&&decide (c<=57)
def gM(c:Int):Bool:=cW c||df c||gQ c||decide (c=95)
def bI(b:UInt8):Int:=(b.toNat:Int)
def cX(first:Int->Bool)(s:Str):Bool:=!decide (s=[])&&decide (s.length<=24)&&first (bI (s.getD 0 0))&&s.all fun c=>gM (bI c)
def str(s:String):Str:=s.toUTF8.data.toList
def KZ:List Str:=[[109,111,100,117,108,101],[105,109,112,111,114,116],[112,105,110],[114,97,110,103,101],[116,121,112,101],[111,112,97,113,117,101],[108,101,116],[105,110],[101,120,112,111,114,116],[102,117,110],[105,102],[116,104,101,110],[101,108,115,101],[99,97,115,101],[111,102],[97,115],[110,101,119],[114,97,119],[116,114,117,101],[102,97,108,115,101]]
def yt(s:Str):Bool:=decide (s∈KZ)
def ay(s:Str):Bool:=cX cW s&&!yt s
def dh(s:Str):Bool:=cX df s
mutual
def sz:Shape->Nat
 |⟨_,_,_,_,ps⟩=>szL ps+1
def szL:List Shape->Nat
 |[]=>0
 |p::r=>sz p+szL r
end
mutual
def eqS:Shape->Shape->Bool
 |⟨k,p,n,ns,ps⟩,⟨k',p',n',ns',ps'⟩=>decide (k=k')&&decide (p=p')&&decide (n=n')&&decide (ns=ns')&&eqL ps ps'
def eqL:List Shape->List Shape->Bool
 |[],[]=>true
 |a::r,b::s=>eqS a b&&eqL r s
 |_,_=>false
end
mutual
def allS(f:Shape->Bool):Shape->Bool
 |⟨k,p,n,ns,ps⟩=>f ⟨k,p,n,ns,ps⟩&&allL f ps
def allL(f:Shape->Bool):List Shape->Bool
 |[]=>true
 |p::r=>allS f p&&allL f r
end
mutual
def deepS:Shape->Int->Int
 |⟨_,_,_,_,ps⟩,l=>deepL ps (l+1) l
def deepL:List Shape->Int->Int->Int
 |[],_,d=>d
 |p::r,l,d=>deepL r l (max d (deepS p l))
end
def ny(s:Str):Bool:=decide (s=[73,110,116])||decide (s=[66,111,111,108])||decide (s=[84,101,120,116])||decide (s=[65,110,121])
def bj:List Str->Str->Int->Int
 |[],_,_=>-1
 |a::r,v,i=>if a=v then i else bj r v (i+1)
theorem uZ(a:Shape):sz a=szL a.parts+1:=by cases a;rfl
theorem ph:∀{l:List Shape} {a:Shape},a∈l->sz a<=szL l
 |b::r,a,h=>by
  simp only[szL];rcases N9.1 h with rfl|h
  ·omega
  ·have:=ph h;omega
theorem vb:∀(a:List Str)(v:Str)(i:Int),0<=i->(0<=bj a v i↔v∈a)
 |[],v,i,_=>by simp[bj]
 |x::r,v,i,h=>by
  simp only[bj,N9];by_cases e:x=v
  ·simp[e,h]
  ·rw[MS e,vb r v (i+1) (by omega)];constructor
   ·exact Or.inr
   ·rintro(rfl|h)
    ·exact absurd rfl e
    ·exact h
def eY(s:Shape):Bool:=decide (s.names.length=s.parts.length)&&s.names.all ay&&decide s.names.Nodup
def cJ(s:Shape):Bool:=
 let bare:=decide (s.pkg=[])&&decide (s.name=[])
 if s.kind=1∨s.kind=2∨s.kind=3∨s.kind=4 then bare&&decide (s.names=[])&&decide (s.parts=[])
 else if s.kind=5 then bare&&decide (s.names=[])&&decide (s.parts.length=1)
 else if s.kind=6∨s.kind=7 then bare&&eY s
 else if s.kind=8 then bare&&decide (s.names=[])&&!decide (s.parts=[])
 else if s.kind=9 then dh s.name&&(decide (s.pkg=[])&&!ny s.name||ay s.pkg)&&decide (s.names=[])&&decide (s.parts=[])
 else if s.kind=10 then dh s.name&&ay s.pkg&&decide (s.names=[])&&decide (s.parts=[])
 else false
theorem nz(a:Shape):0<sz a:=by rw[uZ];omega
theorem DI:∀(l:List Shape),l.length<=szL l
 |[]=>N2 _
 |a::r=>by have:=DI r;have:=nz a;simp only[szL,Ni];omega
theorem qK(f:Shape->Bool)(s:Shape):allS f s=(f s&&allL f s.parts):=by cases s;rfl
theorem eh{α:Type}(l:List α)(k:Nat)(d:α)(h:k<l.length):l.take (k+1)=l.take k++[l.getD k d]:=by rw[List.take_add_one,MX,MQ h];rfl
end Go.Pd
end
section
namespace Go.Pd
open Go.AL
def di(s:Shape):Int:=if 400<sz s then 3 else if 40<deepS s 1 then 91 else if allS cJ s=true then 0 else 70
def L0(t:Nat)(c:Int):Ans:=⟨some (0<=c/\c<=400),some (decide (400<c+1),.iface t (.agg []),[(900,.box (.int .i64 (c+1)))]),.tup [],[(900,.box (.int .i64 (c+1)))]⟩
def wC(t:Nat):Pat:=fun args S=>
 match args,S with
 |[.ptr 900 0],[(900,.box (.int .i64 c))]=>some (L0 t c)
 |_,_=>none
theorem BG[Tabs]{P:Program}{f t:Nat}(he:aq P f)(h:∀c,0<=c/\c<=400->an P f [.ptr 900 0] [(900,.box (.int .i64 c))] (L0 t c)):ag P f (wC t):=by
 intro args S A hA ho _;unfold wC at hA;split at hA
 ·simp only[Xs]at hA;subst hA;exact⟨he,h _ (ho _ rfl)⟩
 ·cases hA
def Hf(t:Nat)(s:Shape)(l c:Int)(q:Prop):Ans:=
 ⟨some (q/\0<=c/\c<=400/\1<=l/\l<=c+1),some (decide (400<c+(sz s:Int)),.iface t (.agg []),[(900,.box (.int .i64 401))]),.int .i64 (deepS s l),[(900,.box (.int .i64 (c+(sz s:Int))))]⟩
def qL(t g:Nat)(n:Nat):Pat:=fun args S=>
 match args,S with
 |[a,.int .i64 l,.fn g' [.ptr 900 0]],[(900,.box (.int .i64 c))]=>
  (match Nat.beq g' g,arg (.st .shape) a with
  |true,some s=>some (Hf t s l c (sz s<=n))
  |_,_=>none)
 |_,_=>none
theorem sD[Tabs]{P:Program}{f t g n:Nat}(he:aq P f)(h:∀s l c,Wf (.st .shape) s->sz s<=n->(0<=c/\c<=400/\1<=l/\l<=c+1)->an P f [.st .shape s,.int .i64 l,.fn g [.ptr 900 0]] [(900,.box (.int .i64 c))] (Hf t s l c (sz s<=n))) :
  ag P f (qL t g n):=by
 intro args S A hA ho _;unfold qL at hA;split at hA
 ·split at hA
  ·rename_i s hb hs;simp only[Xs]at hA;subst hA;have e:=Ng hb;subst e;obtain⟨h1,h2⟩:=ho _ rfl;exact⟨he,an.args (.cons (Rd.arg hs) (.cons (Rd.refl _) (.cons (Rd.refl _) .nil))) (an.wf fun hw=>h _ _ _ hw.one h1 h2)⟩
  ·cases hA
 ·cases hA
theorem mM:∀(l:List Shape)(k:Nat)(d:Shape),k<l.length->szL (l.take (k+1))=szL (l.take k)+sz (l.getD k d)
 |a::r,0,d,_=>by simp[szL]
 |a::r,k+1,d,h=>by have:=mM r k d (by simpa using h);simp only[NW,szL,List.getD_cons_succ]at this⊢;omega
theorem yu(l:List Shape)(k:Nat):szL (l.take k)<=szL l:=by
 induction l generalizing k with
 |nil=>simp[szL]
 |cons a r ih=>
  cases k with|zero=>simp[szL]|succ k=>have:=ih k;simp only[NW,szL];omega
theorem yw{s:Shape}(h:di s=0):sz s<=400/\deepS s 1<=40/\allS cJ s=true:=by
 unfold di at h;split at h
 ·omega
 split at h
 ·omega
 split at h
 ·exact⟨by omega,by omega,by assumption⟩
 ·omega
end Go.Pd
end
section
namespace Go.Pd
open Go.AL
abbrev PS:=Par
def mN(s:Str):Int:=s.foldl (fun n c=>10 *n+((c.toNat:Int)-48)) 0
end Go.Pd
end
section
namespace Go.Pd
open Go.AL
def sF(t:Str):Prop:=t≠[]/\t.length<=15/\∀c∈t,48<=c.toNat/\c.toNat<=57
end Go.Pd
end
