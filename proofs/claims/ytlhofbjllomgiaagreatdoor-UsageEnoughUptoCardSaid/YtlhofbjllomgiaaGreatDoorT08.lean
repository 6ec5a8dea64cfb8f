/- What the functions' conditions say, proved. Plain facts. No condition. -/
import Derived.Test.YtlhofbjllomgiaaGreatDoorT07
set_option linter.all false
set_option maxRecDepth 100000
section
open Go Go.AL Go.Pd
namespace Go.AL.Seat
theorem EA(l:List Modu)(N:Nat)(hl:Wf (.lst (.st .modu)) l)(ho:∀m∈l,m.imports.length<=1048576)(hN:∀m∈l,∀d∈m.decls,sz d.shape<=N/\szT d.term<=N) :
  let A:=(0:Int);let B:=(600:Int);let C:=l=l;let D:=True;let E:=(↑(List.length l):Int);let F:=(20:Int);let G:=dfl (Ty.st SN.modu);let H:=D/\false=lgM l A/\D;let I:=(60:Int);let J:=(1:Nat);let K:=true=true;let L:=false=false;let M:=C/\K/\L/\D;let O:=dfl (Ty.st SN.decl);let P:=(300:Int);let Q:=A<=P/\P<=(1000000:Int);let R:=(1:Int);let S:=C/\K/\L/\L/\D;let T:=dfl (Ty.st SN.imp);(∃(x:Nat×Int),(x.1<=List.length l/\A<=x.2/\x.2<=B/\lgM (List.drop x.1 l) x.2=lgM l A)/\A=x.2/\A=(↑x.1:Int)/\C/\D)/\∀(x:Nat×Int),let U:=(↑x.1:Int);let V:=A<=U/\U<E;let W:=List.getD l (Int.toNat U) G;let X:=(↑(List.length W.imports):Int);let Y:=F+X;let Z:=(↑(List.length W.decls):Int);let a:=List.drop (Int.toNat U+J) l;x.1<=List.length l/\A<=x.2/\x.2<=B/\lgM (List.drop x.1 l) x.2=lgM l A->if decide (U<E)=true then V/\inR IntKind.i64 Y/\inR IntKind.i64 (x.2+Y)/\if decide (B<x.2+Y)=true then H else V/\if decide (F<X)=true then H else V/\if decide ((80:Int)<(↑(List.length W.exports):Int))=true then H else V/\if decide (I<Z)=true then H else(∃(x_1:Nat×Int),(x_1.1<=List.length W.decls/\A<=x_1.2/\x_1.2<=B/\lgA (lgD (List.drop x_1.1 W.decls) x_1.2) W (lgM a)=lgM l A)/\x.2+Y=x_1.2/\A=(↑x_1.1:Int)/\U=U/\M)/\∀(x_1:Nat×Int),let b:=(↑x_1.1:Int);let c:=A<=b/\b<Z;let d:=List.getD W.decls (Int.toNat b) O;let e:=eY d.term P+sizeF d.shape P;let f:=x_1.2=x_1.2;let g:=f/\b=b/\U=U/\S;x_1.1<=List.length W.decls/\A<=x_1.2/\x_1.2<=B/\lgA (lgD (List.drop x_1.1 W.decls) x_1.2) W (lgM a)=lgM l A->V/\if decide (b<Z)=true then V/\c/\(szT d.term<=N/\Q)/\V/\c/\(sz d.shape<=N/\Q)/\inR IntKind.i64 e/\inR IntKind.i64 (x_1.2+e)/\if decide (B<x_1.2+e)=true then H else inR IntKind.i64 (b+R)/\∃(y:Nat×Int),(y.1<=List.length W.decls/\A<=y.2/\y.2<=B/\lgA (lgD (List.drop y.1 W.decls) y.2) W (lgM a)=lgM l A)/\List.length W.decls-y.1<List.length W.decls-x_1.1/\x_1.2+e=y.2/\b+R=(↑y.1:Int)/\U=U/\M else(∃(x_2:Nat),(x_2<=List.length W.imports/\(List.all (List.drop x_2 W.imports) lgI&&lgM a x_1.2)=lgM l A)/\A=(↑x_2:Int)/\g)/\∀(x_2:Nat),let h:=(↑x_2:Int);let i:=Int.toNat h;let j:=List.getD W.imports i T;let k:=(↑(List.length j.range):Int);let m:=List.all (List.drop (Int.toNat h+J) W.imports) lgI&&lgM a x_1.2;let n:=h=h/\f/\b=b/\U=U/\C/\K/\L/\L/\K/\L/\List.getD W.imports i T=List.getD W.imports i T/\D;x_2<=List.length W.imports/\(List.all (List.drop x_2 W.imports) lgI&&lgM a x_1.2)=lgM l A->V/\if decide (h<X)=true then V/\(A<=h/\h<X)/\if decide ((30:Int)<k)=true then H else if decide (I<(↑(List.length j.pin.pre):Int))=true then H else(∃(x_3:Nat),(x_3<=List.length j.range/\(lgR (List.drop x_3 j.range)&&m)=lgM l A)/\A=(↑x_3:Int)/\n)/\∀(x_3:Nat),let o:=(↑x_3:Int);x_3<=List.length j.range/\(lgR (List.drop x_3 j.range)&&m)=lgM l A->if decide (o<k)=true then(A<=o/\o<k)/\if decide (I<(↑(List.length (List.getD j.range (Int.toNat o) (dfl (Ty.st SN.bound))).v.pre):Int))=true then H else inR IntKind.i64 (o+R)/\∃(y:Nat),(y<=List.length j.range/\(lgR (List.drop y j.range)&&m)=lgM l A)/\List.length j.range-y<List.length j.range-x_3/\o+R=(↑y:Int)/\n else inR IntKind.i64 (h+R)/\∃(y:Nat),(y<=List.length W.imports/\(List.all (List.drop y W.imports) lgI&&lgM a x_1.2)=lgM l A)/\List.length W.imports-y<List.length W.imports-x_2/\h+R=(↑y:Int)/\g else inR IntKind.i64 (U+R)/\∃(y:Nat×Int),(y.1<=List.length l/\A<=y.2/\y.2<=B/\lgM (List.drop y.1 l) y.2=lgM l A)/\List.length l-y.1<List.length l-x.1/\x_1.2=y.2/\U+R=(↑y.1:Int)/\C/\D else D/\true=lgM l A/\D:=by
 conv=>zeta
 have ln:=hl.len;refine⟨⟨(0,0),⟨O9 _,by omega,by omega,rfl⟩,(by repeat' (first|exact trivial|rfl|apply And.intro))⟩,?_⟩;rintro⟨i,n⟩ ⟨h1,h2,h3,h4⟩;dsimp only at h1 h2 h3 h4⊢;apply aa<;>intro hk
 ·have hk:=Xo hk;have hi:i<l.length:=by omega
  have hm:=getD_mem l i (dfl (.st .modu)) hi;have wm:=hl.mem hm;have hNm:=hN _ hm;have li:=ho _ hm;rw[an l i (dfl (.st .modu)) hi,lgM]at h4;have e0:l.getD (Int.toNat (i:Int)) (dfl (.st .modu))=l.getD i (dfl (.st .modu)):=rfl;rw[<-e0]at h4 hm wm hNm li;generalize l.getD (Int.toNat (i:Int)) (dfl (.st .modu))=m at h4 hm wm hNm li⊢;simp only[Oa,Pn,OM,OD];have ld:=wm.modu_decls.len;have bad:lgH m n=false->false=lgM l 0:=fun e=>by rw[e,Oh]at h4;exact h4
  refine⟨by omega,b8 (by omega) (by omega),b8 (by omega) (by omega),aa (fun c=>bad (Pr.2 fun e=>?_)) (fun c1=>⟨by omega,aa (fun c=>bad (Pr.2 fun e=>?_)) (fun c2=>⟨by omega,aa (fun c=>bad (Pr.2 fun e=>?_)) (fun c3=>⟨by omega,aa (fun c=>bad (Pr.2 fun e=>?_)) (fun c4=>?_)⟩)⟩)⟩)⟩
  ·have:=pd.1 e;have:=Xo c;omega
  ·have:=pd.1 e;have:=Xo c;omega
  ·have:=pd.1 e;have:=Xo c;omega
  ·have:=pd.1 e;have:=Xo c;omega
  have d1:¬(600:Int)<n+(20+(m.imports.length:Int)):=fun z=>c1 (Xd z);have d2:¬(20:Int)<(m.imports.length:Int):=fun z=>c2 (Xd z);have d3:¬(80:Int)<(m.exports.length:Int):=fun z=>c3 (Xd z);have d4:¬(60:Int)<(m.decls.length:Int):=fun z=>c4 (Xd z);have e1:lgH m n=true:=pd.2 ⟨by omega,by omega,by omega,by omega⟩;rw[e1,OQ]at h4;clear bad e1 c1 c2 c3 c4;refine⟨⟨(0,n+(20+(m.imports.length:Int))),⟨O9 _,by simp only;omega,by simp only;omega,h4⟩,rfl,rfl⟩,?_⟩;rintro⟨k,n2⟩ ⟨k1,k2,k3,k4⟩;simp only at k1 k2 k3 k4⊢;refine⟨by omega,aa (fun c=>?_) (fun c=>?_)⟩
  ·have c:=Xo c;have ck:k<m.decls.length:=by omega
   rw[an m.decls k (dfl (.st .decl)) ck,lgD]at k4;obtain⟨z1,z2⟩:=hNm _ (getD_mem m.decls k (dfl (.st .decl)) ck);have a:=sizeT_bd (m.decls.getD k (dfl (.st .decl))).term 300 (by omega);have b:=sizeF_bd (m.decls.getD k (dfl (.st .decl))).shape 300 (by omega);refine⟨by omega,by omega,⟨z2,by omega,by omega⟩,by omega,by omega,⟨z1,by omega,by omega⟩,b8 (by omega) (by omega),b8 (by omega) (by omega),aa (fun d=>?_) (fun d=>?_)⟩
   ·rw[NY (Xo d)]at k4;exact k4
   ·have d:¬(600:Int)<n2+(eY (m.decls.getD k (dfl (.st .decl))).term 300+sizeF (m.decls.getD k (dfl (.st .decl))).shape 300):=fun z=>d (Xd z);rw[NU d]at k4;exact⟨aB ck ld,(k+1,_),⟨by simp only;omega,by simp only;omega,by simp only;omega,k4⟩,by simp only;omega,rfl,rfl⟩
  ·have e:k=m.decls.length:=by have:¬((k:Int)<(m.decls.length:Int)):=fun e=>c (Xd e);omega
   rw[e,Oe,lgD]at k4;refine⟨⟨0,⟨O9 _,k4⟩,rfl⟩,?_⟩;rintro q ⟨q1,q2⟩;refine⟨by omega,aa (fun c=>?_) (fun c=>?_)⟩
   ·have c:=Xo c;have cq:q<m.imports.length:=by omega
    rw[an m.imports q (dfl (.st .imp)) cq,P5]at q2;have bad:lgI (m.imports.getD q (dfl (.st .imp)))=false->false=lgM l 0:=fun e=>by rw[e,Oh,Oh]at q2;exact q2
    refine⟨by omega,by omega,aa (fun c=>bad (Pr.2 fun e=>?_)) (fun x1=>aa (fun c=>bad (Pr.2 fun e=>?_)) (fun x2=>?_))⟩
    ·have:=Fx.1 e;have:=Xo c;omega
    ·have:=Fx.1 e;have:=Xo c;omega
    have y1:¬(30:Int)<((m.imports.getD q (dfl (.st .imp))).range.length:Int):=fun z=>x1 (Xd z);have y2:¬(60:Int)<((m.imports.getD q (dfl (.st .imp))).pin.pre.length:Int):=fun z=>x2 (Xd z);have lx:lgI (m.imports.getD q (dfl (.st .imp)))=lgR (m.imports.getD q (dfl (.st .imp))).range:=by unfold lgI;rw[Xd (show(m.imports.getD q (dfl (.st .imp))).range.length<=30 by omega),Xd (show(m.imports.getD q (dfl (.st .imp))).pin.pre.length<=60 by omega)];rfl
    rw[lx,Bool.and_assoc]at q2;refine⟨⟨0,⟨O9 _,q2⟩,rfl⟩,?_⟩;rintro j ⟨j1,j2⟩;apply aa<;>intro c
    ·have c:=Xo c;have hj:j<(m.imports.getD q (dfl (.st .imp))).range.length:=by omega
     rw[an (m.imports.getD q (dfl (.st .imp))).range j (dfl (.st .bound)) hj,Kx]at j2;refine⟨by omega,aa (fun d=>?_) (fun d=>?_)⟩
     ·have d:=Xo d;rw[Xf (show ¬((m.imports.getD q (dfl (.st .imp))).range.getD j (dfl (.st .bound))).v.pre.length<=60 by omega),Oh,Oh]at j2;exact j2
     ·have d:¬(60:Int)<(((m.imports.getD q (dfl (.st .imp))).range.getD j (dfl (.st .bound))).v.pre.length:Int):=fun z=>d (Xd z);rw[Xd (show((m.imports.getD q (dfl (.st .imp))).range.getD j (dfl (.st .bound))).v.pre.length<=60 by omega),OQ]at j2;exact⟨b8 (by omega) (by omega),j+1,⟨by omega,j2⟩,by omega,by omega⟩
    ·have e:j=(m.imports.getD q (dfl (.st .imp))).range.length:=by have:¬((j:Int)<((m.imports.getD q (dfl (.st .imp))).range.length:Int)):=fun e=>c (Xd e);omega
     rw[e,Oe]at j2;exact⟨b8 (by omega) (by omega),q+1,⟨by omega,j2⟩,by omega,by omega⟩
   ·have e:q=m.imports.length:=by have:¬((q:Int)<(m.imports.length:Int)):=fun e=>c (Xd e);omega
    rw[e,Oe]at q2;exact⟨aB hi ln,(i+1,n2),⟨by simp only;omega,k2,k3,q2⟩,by simp only;omega,rfl,rfl⟩
 ·have e:i=l.length:=by have:¬((i:Int)<(l.length:Int)):=fun e=>hk (Xd e);omega
  rw[e,Oe]at h4;exact⟨trivial,h4,trivial⟩
theorem qd(bL:List Bndg)(m:Modu)(ds:List Depd)(hm:Wf (.st .modu) m)(hd:Wf (.lst (.st .dep)) ds)(hs:m.decls.all di=true)(hi:∀d∈ds,∀x∈d.items,allS nmU x.shape=true)(hq:m.imports.length<=1048576) :
  let A:=(1048576:Nat);let B:=(0:Int);let C:=True/\true=true/\True;let D:=List.all m.decls di=true;let E:=fc m;let F:=jl E;let G:=false=false;let H:=fc m=fc m;let I:=m=m/\List.length [m]=List.length [m]/\True;let J:=(↑(List.length ds):Int);let K:=dfl (Ty.st SN.dep);let L:=(D/\List.length m.decls<=(1000000:Nat));let M:=List.length m.decls<=(100000:Nat);let N:=me bL m ds;let O:=True/\false=true/\True;(∀(m_1:Modu),m_1∈[m]->List.length m_1.imports<=A)/\if(!lgM [m] B)=true then C else if(!iD ds B B)=true then C else(D/\List.length m.decls<=(60:Nat))/\(∃(x:Nat),let P:=List.take x ds;x<=List.length ds/\B=(↑x:Int)/\List.map F P=[]/\m=m/\ds=ds/\G/\G/\H/\List.length (List.map F P)=(0:Nat)/\I)/\∀(x:Nat),let P:=(↑x:Int);let Q:=List.getD ds (Int.toNat P) K;let R:=List.take x ds;let S:=List.map F R;let T:=[{name:=Q.name,items:=cZ Q.name E Q.items:Depd}];let U:=me bL m S;x<=List.length ds->if decide (P<J)=true then(B<=P/\P<J)/\(List.length Q.items<=A/\∀(x_1:AL.Item),x_1∈Q.items->allS nmU x_1.shape=true)/\(List.length S=List.length S/\(List.length S+List.length T)*(40:Nat)<=(140737488355328:Nat))/\inR IntKind.i64 (P+(1:Int))/\∃(y:Nat),let V:=List.take y ds;y<=List.length ds/\List.length ds-y<List.length ds-x/\P+(1:Int)=(↑y:Int)/\List.map F R++T=List.map F V/\m=m/\ds=ds/\G/\G/\H/\List.length (List.map F R++T)=List.length (List.map F V)/\I else(L/\M/\∀(d:Depd),d∈ds->List.length d.items<=(4000:Nat)/\∀(x:AL.Item),x∈d.items->allS nmU x.shape=true)/\(L/\M/\∀(d:Depd),d∈List.map F R->List.length d.items<=(4000:Nat)/\∀(x:AL.Item),x∈d.items->allS nmU x.shape=true)/\if ke N.l U.l=true then if(decide (N.f.err=U.f.err)&&(decide (N.f.pos=U.f.pos)&&true))=true then C else O else O:=by
 conv=>zeta
 have ln:=hd.len;simp only[Oa,Pn,OM,OD];refine⟨fun x hx=>by rw[OE.1 hx];exact hq,aa (fun _=>trivial) (fun h=>aa (fun _=>trivial) (fun h'=>?_))⟩;have hL:lgM [m] 0=true:=by simpa using h
 have hS:iD ds 0 0=true:=by simpa using h'
 clear h h';obtain⟨f2,f1⟩:=Nk hL;have few:=C7 ds 0 0 (by omega) (by omega) hS
 have cnt:ds.length<=20:=by
  rcases C8 ds 0 0 hS with e|e
  ·rw[e];exact O9 _
  ·omega
 have few2:∀d∈ds,d.items.length<=4000/\∀x∈d.items,allS nmU x.shape=true:=fun d hd=>⟨few d hd,hi d hd⟩;refine⟨⟨hs,f2⟩,⟨0,O9 _,rfl,rfl,rfl⟩,?_⟩;intro k hk;apply aa<;>intro c
 ·have c:=Xo c;have hk':k<ds.length:=by omega
  have hm':=getD_mem ds k (dfl (.st .dep)) hk';have ht:(ds.take (k+1)).map (jl (fc m))=(ds.take k).map (jl (fc m))++[jl (fc m) (ds.getD k (dfl (.st .dep)))]:=by rw[cu ds k (dfl (.st .dep)) hk',PL];rfl
  refine⟨by omega,⟨by have:=(few2 _ hm').1;omega,(few2 _ hm').2⟩,?_,aB hk' ln,k+1,by omega,by omega,by omega,ht.symm,by rw[ht];rfl⟩;rw[OT,Pl,Ov];omega
 ·have e:k=ds.length:=by have:¬((k:Int)<(ds.length:Int)):=fun e=>c (Xd e);omega
  rw[e,OO,GO];refine⟨⟨⟨hs,by omega⟩,by omega,few2⟩,⟨⟨hs,by omega⟩,by omega,Kz few2⟩,?_⟩;rw[NY (wE _)];exact aa (fun _=>trivial) (fun c=>absurd (by simp) c)
end Go.AL.Seat
end
section
open Go Go.AL Go.Proofs Go.Shelf Go.Pd
namespace Go.AL.Seat
variable [Tabs]
variable [SeatLaid]
theorem EB:ah Tryz.prog 80 (p2 (.lst (.st .nm)) (.st .nm) fun a v=>.ret (.int .i64 (kW a v 0))):=
 bT (ee Tryz.func80) fun a v ha _ _=>g0 sn ⟨[(2,fun S0=>⟨Nat,fun k=>k<=a.length/\kW a v 0=kW (a.drop k) v k,fun k=>[(8,.int .i64 k)],fun _=>[],fun k=>a.length-k⟩)],[],[]⟩ Tryz.func80 (HS a v ha)
theorem vM:ah Tryz.prog 43 (p2 (.lst (.st .nm)) (.st .nm) fun a v=>.ret (.bool (isU a v.pkg v.name))):=
 bT (ee Tryz.func43) fun a v _ _ _=>g0 (sc EB sn) a0 Tryz.func43 (yU a v)
theorem uV:Enters Tryz.prog 44:=ee Tryz.func44
theorem vN(n:Nat)(s:AL.Shape)(hs:Wf (.st .shape) s)(ho:sz s<=n+1/\allS nmU s=true)(hA:ah Tryz.prog 44 (p1 (.st .shape) fun s=>⟨some (sz s<=n/\allS nmU s=true),none,.st .shape s,[]⟩)):ak Tryz.prog 44 [.st .shape s] [] (⟨some (sz s<=n+1/\allS nmU s=true),none,.st .shape s,[]⟩):=
 g0 (sc (ki) (sc (hA) sn)) ⟨[(4,fun S0=>⟨Nat,fun k=>k<=s.parts.length,fun k=>[(3,.lst (.st .shape) (s.parts.take k) (some 701)),(13,.int .i64 k)],fun k=>[(701,.tail (.st .shape) (s.parts.take k).length)],fun k=>s.parts.length-k⟩)],[],[]⟩ Tryz.func44 (Ez n s hs ho)
theorem qV:∀n:Nat,ah Tryz.prog 44 (p1 (.st .shape) fun s=>⟨some (sz s<=n/\allS nmU s=true),none,.st .shape s,[]⟩)
 |0=>bz uV fun s _ ho=>absurd (fG s) (by have:=(ho _ rfl).1;omega)
 |n+1=>bz uV fun s hs ho=>vN n s hs (ho _ rfl) (qV n)
theorem yV(d:Depd)(u:List Nam)(N:Nat)(hd:Wf (.st .dep) d)(hN:∀x∈d.items,sz x.shape<=N)(ho:d.items.length<=1048576/\∀x∈d.items,allS nmU x.shape=true) :ak Tryz.prog 16 [.st .dep d,.lst (.st .nm) u none] [] (⟨some (d.items.length<=1048576/\∀x∈d.items,allS nmU x.shape=true),none,.st .dep (AL.Depd.mk d.name (cZ d.name u d.items)),[]⟩):=
 g0 (sc vM (sc (qV N) sn)) ⟨[(3,fun S0=>⟨Nat,fun k=>k<=d.items.length,fun k=>[(14,.int .i64 k)],fun k=>[(5,.box (.agg [.str d.name,.lst (.st .item) (cZ d.name u (d.items.take k)) (some 701)])),(701,.tail (.st .item) (cZ d.name u (d.items.take k)).length)],fun k=>d.items.length-k⟩)],[],[]⟩ Tryz.func16 (HT d u N hd hN ho)
theorem EC:ah Tryz.prog 16 (p2 (.st .dep) (.lst (.st .nm)) fun d u=>⟨some (d.items.length<=1048576/\∀x∈d.items,allS nmU x.shape=true),none,.st .dep (AL.Depd.mk d.name (cZ d.name u d.items)),[]⟩):=
 bT (ee Tryz.func16) fun d u hd _ ho=>yV d u (szI d.items) hd (u9 d.items) (ho _ rfl)
theorem xa:Enters Tryz.prog 36:=ee Tryz.func36
theorem yW(n:Nat)(m:List (Nam×Int))(s:AL.Shape)(hs:Wf (.st .shape) s)(ho:sz s<=n+1/\m.length+(useS s).length<=9000000000000000000)(hA:ah Tryz.prog 36 (GK (.st .shape) (fun m s=>sz s<=n/\m.length+(useS s).length<=9000000000000000000) fun m s=>aM m (useS s))):ak Tryz.prog 36 [.map 900,.st .shape s] [(900,.map (.st .nm) (.int .i64) m)] (⟨some (sz s<=n+1/\m.length+(useS s).length<=9000000000000000000),none,.tup [],[(900,.map (.st .nm) (.int .i64) (aM m (useS s)))]⟩):=
 g1 nn (fun _=>[]) nn (fun d=>Nat.beq d 21) nn (sc (hA) sn) ⟨[(4,fun S0=>⟨Nat,fun k=>k<=s.parts.length,fun k=>[(27,.int .i64 k)],fun k=>[(900,.map (.st .nm) (.int .i64) (aM (aM m (rl s)) (useSL (s.parts.take k))))],fun k=>s.parts.length-k⟩)],[],[]⟩ Tryz.func36 (HU n m s hs ho)
theorem o9:∀n:Nat,ah Tryz.prog 36 (GK (.st .shape) (fun m s=>sz s<=n/\m.length+(useS s).length<=9000000000000000000) fun m s=>aM m (useS s))
 |0=>rN xa fun m s _ ho=>absurd (fG s) (by have:=ho.1;omega)
 |n+1=>rN xa fun m s hs ho=>yW n m s hs ho (o9 n)
theorem Cb:Enters Tryz.prog 37:=ee Tryz.func37
theorem Cc(N n:Nat)(m:List (Nam×Int))(t:Trm)(ht:Wf (.st .term) t)(ho:szT t<=n+1/\allT (mxU N) t=true/\m.length+(useT t).length<=9000000000000000000)(hA:ah Tryz.prog 37 (GK (.st .term) (fun m t=>szT t<=n/\allT (mxU N) t=true/\m.length+(useT t).length<=9000000000000000000) fun m t=>aM m (useT t))):ak Tryz.prog 37 [.map 900,.st .term t] [(900,.map (.st .nm) (.int .i64) m)] (⟨some (szT t<=n+1/\allT (mxU N) t=true/\m.length+(useT t).length<=9000000000000000000),none,.tup [],[(900,.map (.st .nm) (.int .i64) (aM m (useT t)))]⟩):=
 g1 nn (fun _=>[]) nn (fun d=>Nat.beq d 23) nn (sc (o9 N) (sc (hA) sn)) ⟨[(4,fun S0=>⟨Nat,fun k=>k<=t.shapes.length,fun k=>[(29,.int .i64 k)],fun k=>[(900,.map (.st .nm) (.int .i64) (aM (aM m (iE t)) (useSL (t.shapes.take k))))],fun k=>t.shapes.length-k⟩),(9,fun S0=>⟨Nat,fun k=>k<=t.parts.length,fun k=>[(40,.int .i64 k)],fun k=>[(900,.map (.st .nm) (.int .i64) (aM (aM (aM m (iE t)) (useSL t.shapes)) (useTL (t.parts.take k))))],fun k=>t.parts.length-k⟩)],[],[]⟩ Tryz.func37 (KA N n m t ht ho)
theorem xb(N:Nat):∀n:Nat,ah Tryz.prog 37 (GK (.st .term) (fun m t=>szT t<=n/\allT (mxU N) t=true/\m.length+(useT t).length<=9000000000000000000) fun m t=>aM m (useT t))
 |0=>rN Cb fun m t _ ho=>absurd (hX t) (by have:=ho.1;omega)
 |n+1=>rN Cb fun m t hs ho=>Cc N n m t hs ho (xb N n)
theorem KD:Enters Tryz.prog 39:=ee Tryz.func39
theorem Cd(m:List (Nam×Int))  :ak Tryz.prog 39 [.map 900] [(900,(.map (.st .nm) (.int .i64) m))] (⟨none,none,.fn 78 [.ptr 1 0],[(1,.box (.map 900)),(900,(.map (.st .nm) (.int .i64) m))]⟩):=
 g0 sn a0 Tryz.func39 (KB m)
theorem HV:ah Tryz.prog 39 (uS 78):=
 Ca KD fun m=>Cd m
theorem HW:ah Tryz.prog 15 (p1 (.st .modu) fun m=>⟨some (m.decls.all di=true/\m.decls.length<=60),none,.lst (.st .nm) (fc m) none,[]⟩):=
 bz (ee Tryz.func15) fun m hm ho=>g0 (sc uM (sc (o9 400) (sc (xb 400 4096) (sc HV (sc ((vL (ee Tryz.func38))) sn))))) ⟨[(5,fun S0=>⟨Nat,fun k=>bS m=0/\k<=m.decls.length,fun k=>[(13,.int .i64 k)],fun k=>[(9,.map (.st .nm) (.int .i64) (aM [] (cE (m.decls.take k))))],fun k=>m.decls.length-k⟩)],[],[]⟩ Tryz.func15 (KC m hm (ho _ rfl))
theorem vO(l:List Modu)(N:Nat)(hl:Wf (.lst (.st .modu)) l)(ho:∀m∈l,m.imports.length<=1048576)(hN:∀m∈l,∀d∈m.decls,sz d.shape<=N/\szT d.term<=N) :ak Tryz.prog 13 [.lst (.st .modu) l none] [] (⟨some (∀m∈l,m.imports.length<=1048576),none,.bool (lgM l 0),[]⟩):=
 g0 (sc (Bv N) (sc (Hy N) sn)) ⟨[(3,fun S0=>⟨Nat×Int,fun x=>x.1<=l.length/\0<=x.2/\x.2<=600/\lgM (l.drop x.1) x.2=lgM l 0,fun x=>[(3,.int .i64 x.2),(4,.int .i64 x.1)],fun _=>[],fun x=>l.length-x.1⟩),(9,fun S0=>qh S0 4 fun i=>⟨Nat×Int,fun x=>x.1<=(l.getD i.toNat (dfl (.st .modu))).decls.length/\0<=x.2/\x.2<=600/\lgA (lgD ((l.getD i.toNat (dfl (.st .modu))).decls.drop x.1) x.2) (l.getD i.toNat (dfl (.st .modu))) (lgM (l.drop (i.toNat+1)))=lgM l 0,fun x=>[(3,.int .i64 x.2),(5,.int .i64 x.1)],fun _=>[],fun x=>(l.getD i.toNat (dfl (.st .modu))).decls.length-x.1⟩),(15,fun S0=>qh S0 4 fun i=>qh S0 3 fun n=>⟨Nat,fun k=>k<=(l.getD i.toNat (dfl (.st .modu))).imports.length/\(((l.getD i.toNat (dfl (.st .modu))).imports.drop k).all lgI&&lgM (l.drop (i.toNat+1)) n)=lgM l 0,fun k=>[(6,.int .i64 k)],fun _=>[],fun k=>(l.getD i.toNat (dfl (.st .modu))).imports.length-k⟩),(21,fun S0=>qh S0 4 fun i=>qh S0 3 fun n=>qh S0 6 fun k=>⟨Nat,fun j=>j<=((l.getD i.toNat (dfl (.st .modu))).imports.getD k.toNat (dfl (.st .imp))).range.length/\(lgR (((l.getD i.toNat (dfl (.st .modu))).imports.getD k.toNat (dfl (.st .imp))).range.drop j)&&(((l.getD i.toNat (dfl (.st .modu))).imports.drop (k.toNat+1)).all lgI&&lgM (l.drop (i.toNat+1)) n))=lgM l 0,fun j=>[(8,.int .i64 j)],fun _=>[],fun j=>((l.getD i.toNat (dfl (.st .modu))).imports.getD k.toNat (dfl (.st .imp))).range.length-j⟩)],[],[]⟩ Tryz.func13 (EA l N hl ho hN)
theorem Ce:ah Tryz.prog 13 (p1 (.lst (.st .modu)) fun l=>⟨some (∀m∈l,m.imports.length<=1048576),none,.bool (lgM l 0),[]⟩):=
 bz (ee Tryz.func13) fun l hl ho=>vO l (szM l) hl (ho _ rfl) (Ky l)
theorem mV(bL:List Bndg)(m:Modu)(ds:List Depd)(hm:Wf (.st .modu) m)(hd:Wf (.lst (.st .dep)) ds)(hs:m.decls.all di=true)(hi:∀d∈ds,∀x∈d.items,allS nmU x.shape=true)(hq:m.imports.length<=1048576)(hM:ah Tryz.prog 9 (p2 (.st .modu) (.lst (.st .dep)) fun m ds=>⟨some ((m.decls.all di=true/\m.decls.length<=1000000)/\m.decls.length<=100000/\∀d∈ds,d.items.length<=4000/\∀x∈d.items,allS nmU x.shape=true),none,.tup [.lst (.st .item) (me bL m ds).l none,.agg [.int .i64 (me bL m ds).f.err,.int .i64 (me bL m ds).f.pos]],[]⟩))(hW:ah Tryz.prog 14 (p0 (.ret (.bool true)))):ak Tryz.prog 4 [.st .modu m,.lst (.st .dep) ds none] [] (.ret (.bool true)):=
 g0 (sc Ce (sc BZ (sc (hW) (sc HW (sc EC (sc (hM) (sc HL sn))))))) ⟨[(6,fun S0=>⟨Nat,fun k=>k<=ds.length,fun k=>[(7,.int .i64 k),(6,.lst (.st .dep) ((ds.take k).map (jl (fc m))) (some 701))],fun k=>[(701,.tail (.st .dep) ((ds.take k).map (jl (fc m))).length)],fun k=>ds.length-k⟩)],[],[]⟩ Tryz.func4 (qd bL m ds hm hd hs hi hq)
end Go.AL.Seat
end
noncomputable section
namespace Go.AL.Seat
open Go Go.AL Go.Proofs
variable [Tabs]
def qW:List (Nat×TR):=[(34,r34),(3,r2),(9,r9),(47,r47),(26,r26),(155,Lv),(121,r121),(32,r2),(45,r45),(49,r49),(31,r31),(24,r24),(43,r43),(63,r63),(38,r38),(27,r27),(71,r71),(120,r120),(33,r33),(25,r25),(22,r22),(23,r23),(65,r65),(64,r64),(62,r62),(61,r61),(41,r41),(40,r40),(39,r39),(59,r59),(58,r58),(37,r37),(42,r42),(48,r48),(46,r46)]
theorem KE:aS Tryz.prog qW:=by
 unfold qW
 repeat (first|exact aS.nil|refine aS.cons tk ?_)
end Go.AL.Seat
end
noncomputable section
namespace Go.AL.Seat
open Go Go.AL Go.Proofs
set_option maxRecDepth 1000000
variable [Tabs]
def Nl(f:Nat):List (Option Nat):=if Nat.beq f 121||Nat.beq f 122 then[some 2]else if Nat.beq f 68||(Nat.beq f 69||(Nat.beq f 73||(Nat.beq f 74||(Nat.beq f 75||Nat.beq f 126))))then[some 4]else if Nat.beq f 57||Nat.beq f 61 then[some 1004]else[]
def Nn(f:Nat):Bool:=false
def uW:List (Nat×FB):=(8,fbz qW Tryz.f8 2367)::(22,mb qW Tryz.f22 15 [] (fun _=>false) (fun _=>false) (fun _=>false) true)::(20,fbz qW Tryz.f20 268567539)::(54,mb qW Tryz.f54 1965 [] (fun _=>false) (fun _=>false) (fun d=>Nat.beq d 16) false)::(96,fbz qW Tryz.f96 5)::[]
theorem Cf:iP Tryz.prog uW:=by
 unfold uW
 repeat (first|exact iP.nil|refine iP.cons (by kernel_rfl) (by kernel_rfl) ?_)
end Go.AL.Seat
end
noncomputable section
namespace Go.AL.Seat
open Go Go.AL Go.Proofs Go.Pd
set_option maxRecDepth 1000000
def ml:List Bndg:=[⟨[],[97,100,100],⟨8,[],[],[],[⟨1,[],[],[],[]⟩,⟨1,[],[],[],[]⟩,⟨1,[],[],[],[]⟩]⟩⟩,⟨[],[115,117,98],⟨8,[],[],[],[⟨1,[],[],[],[]⟩,⟨1,[],[],[],[]⟩,⟨1,[],[],[],[]⟩]⟩⟩,⟨[],[109,117,108],⟨8,[],[],[],[⟨1,[],[],[],[]⟩,⟨1,[],[],[],[]⟩,⟨1,[],[],[],[]⟩]⟩⟩,⟨[],[108,101,115,115],⟨8,[],[],[],[⟨1,[],[],[],[]⟩,⟨1,[],[],[],[]⟩,⟨2,[],[],[],[]⟩]⟩⟩,⟨[],[115,97,109,101],⟨8,[],[],[],[⟨1,[],[],[],[]⟩,⟨1,[],[],[],[]⟩,⟨2,[],[],[],[]⟩]⟩⟩,⟨[],[110,111,116],⟨8,[],[],[],[⟨2,[],[],[],[]⟩,⟨2,[],[],[],[]⟩]⟩⟩,⟨[],[98,111,116,104],⟨8,[],[],[],[⟨2,[],[],[],[]⟩,⟨2,[],[],[],[]⟩,⟨2,[],[],[],[]⟩]⟩⟩,⟨[],[99,97,116],⟨8,[],[],[],[⟨3,[],[],[],[]⟩,⟨3,[],[],[],[]⟩,⟨3,[],[],[],[]⟩]⟩⟩,⟨[],[115,105,122,101],⟨8,[],[],[],[⟨3,[],[],[],[]⟩,⟨1,[],[],[],[]⟩]⟩⟩,⟨[],[115,104,111,119],⟨8,[],[],[],[⟨1,[],[],[],[]⟩,⟨3,[],[],[],[]⟩]⟩⟩]
variable [Tabs] [SeatLaid]
theorem Mb:ak Tryz.prog 22 [] [] ⟨none,none,.lst (.st .bind) ml (some 61),[(61,.tail (.st .bind) ml.length)]⟩:=
 mM (n:=100) mixed KE p8 Cf (by kernel_rfl:AO qW uW Nn Nl 50 (gE qS) 100 22 [] []=some ⟨none,none,.lst (.st .bind) ml (some 61),[(61,.tail (.st .bind) ml.length)]⟩)
theorem KF:ah Tryz.prog 22 (p0 ⟨none,none,.lst (.st .bind) ml (some 61),[(61,.tail (.st .bind) ml.length)]⟩):=J7 (ee Tryz.func22) Mb
def obM(m:Modu)(ds:List Depd):Prop:=(m.decls.all di=true/\m.decls.length<=1000000)/\m.decls.length<=100000/\∀d∈ds,d.items.length<=4000/\∀x∈d.items,allS nmU x.shape=true
def ansM(m:Modu)(ds:List Depd):Ans:=⟨some (obM m ds),none,.tup [.lst (.st .item) (me ml m ds).l none,.agg [.int .i64 (me ml m ds).f.err,.int .i64 (me ml m ds).f.pos]],[]⟩
theorem Mc:ah Tryz.prog 9 (p2 (.st .modu) (.lst (.st .dep)) fun m ds=>ansM m ds):=C9 ml (by decide) KF
end Go.AL.Seat
end
noncomputable section
namespace Go.AL.Seat
open Go Go.AL Go.Proofs Go.Pd
set_option maxRecDepth 1000000
variable [Tabs] [SeatLaid]
def Mp:List (Nat×Pat):=(38,mj)::(32,Fo [.str awS] awV)::(53,q1 (.lst .str) (fun l=>decide (l.length *16<=140737488355328)) fun l=>.bool (decide l.Nodup))::(81,q1 (.lst .str) (fun l=>decide (l.length *16<=140737488355328)) fun l=>.lst .str l none)::qS
theorem KG:bH Tryz.prog (gE Mp):=sc (uR (ee Tryz.func38)) (sc (Fp (ee Tryz.func32) NM) (sc (Ju uL fun _ h=>Xo h) (sc (Ju ki fun _ h=>Xo h) p8)))
theorem Cg:ah Tryz.prog 14 (p0 (.ret (.bool true))):=
 J7 (ee Tryz.func14) (mM (n:=100) mixed Kp KG C2 (by kernel_rfl:AO b9 uO Nd Nc 50 (gE Mp) 100 14 [] []=some ⟨none,none,.bool true,[]⟩))
end Go.AL.Seat
end
section
namespace Go.Proofs.YtlhofbjllomgiaaGreatDoor.JUsageEnough
open Go.AL Go.AL.Seat Go.Pd Go.ChangeShapes Go.WideShapes Go.RowKit Go.Proofs.YtlhofbjllomgiaaGreatDoor.Join
set_option maxRecDepth 1000000
theorem par:Tryz.f4.params=#[26,27]:=by kernel_rfl
theorem res:Tryz.f4.resultTypes=#[4]:=by kernel_rfl
theorem spec{H:Type}(ds:List (DataW H))(hd:ds.length=2):Rows.usageEnoughSpec.fn H ds={results:=[.lit (.bool true)],args:=ds}:=by
 match ds,hd with
 |[d0,d1],_=>rfl
theorem KH(H:Type)(enc:TypeId×Value->H)(W:World)(base:Nat)(args:Array Value)(ds gs:List (DataW H))(before:List MemPlace)
 (hval:∀(j:Nat) t v,Tryz.f4.params[j]?=some t->args[j]?=some v->Value.okWide Tryz.prog W .any base t v)
 (hW:DataW.Whole enc Tryz.prog Tryz.f4.params.toList Rows.usageEnoughSpec.vars false W args.toList ds gs before)(hku:Rows.uptoSmall H (ds++gs)=true)(hL:laidMet Tryz.prog laid W)(hsh:W.ShapedOpen Tryz.prog) :
  Calls Tryz.prog 4 args W fun e W'=>∃v,e=.returned v/\Rows.usageEnoughSpec.post enc Tryz.prog Tryz.f4 false true false false W args v W':=by
 letI:Tabs:=tw W
 haveI:SeatLaid:=IT hL hsh
 have hW':=hW;obtain⟨p,q,hA,hV,_,_,_⟩:=hW;rw[par]at hA hval;obtain⟨v0,vs0,d0,ds0,p0,q0,hargs0,rfl,rfl,h0,r0⟩:=trodAll_cons hA;obtain⟨v1,vs1,d1,ds1,p1,q1,hargs1,rfl,rfl,h1,r1⟩:=trodAll_cons r0;obtain⟨rfl,rfl,rfl⟩:=trodAll_nil r1;subst hargs1;obtain rfl:args=#[v0,v1]:=by have:=PM List.toArray hargs0;simpa using this
 obtain⟨x0,hx0,hq0⟩:=De (wF Tryz.prog) MR Jf (hval 0 26 v0 rfl rfl) h0 (AG hku (by simp));obtain⟨x1,hx1,hq1⟩:=MK (wF Tryz.prog) NF ND (hval 1 27 v1 rfl rfl) h1 (AG hku (by simp));refine(G7 (mV ml x0 x1 ⟨_,_,hx0⟩ ⟨_,_,hx1⟩ (O5.2 fun d hd=>AE (hq0.1 d hd)) (fun d hd=>(hq1 d hd).2) hq0.2 Mc Cg) (fun b o v h=>h.2) (fun b x h=>h.2) (VL.cons hx0 (VL.cons hx1 .nil))).mono fun e W' ⟨he,hb⟩=>?_;subst he;refine⟨_,rfl,ID (tb:=4) Lb (fun t ht=>?_) rfl (fun ds hd=>spec ds ?_) res undB hW' hb⟩
 ·rw[par]at ht;have ht:t∈[26,27]:=ht;simp only[O1,Pu,R8]at ht;rcases ht with rfl|rfl
  ·exact⟨NG,QY (by decide) eY⟩
  ·exact⟨MP,QY (by decide) eY⟩
 ·rw[par]at hd;exact hd
theorem reads(os:Os){H:Type}(enc:TypeId×Value->H):(DataW.whole enc Tryz.prog ((mG os).forCall (fun _ _=>0) ⟨#[],#[.agg #[.string ⟨#[]⟩,.slice none 0 0,.slice none 0 0,.slice none 0 0,.int .i64 0],.slice none 0 0],[]⟩).memory Tryz.f4.params.toList Rows.usageEnoughSpec.vars false [Value.agg #[.string ⟨#[]⟩,.slice none 0 0,.slice none 0 0,.slice none 0 0,.int .i64 0],Value.slice none 0 0] 8).map (fun x=>(x.1,x.2.1))=some ([.agg [.lit (.string []),.nil,.nil,.nil,.lit (.int .i64 0)],.nil],[]):=by kernel_rfl
theorem No(os:Os)(started:os.Started)(H:Type)(enc:TypeId×Value->H)(F:Stop.Interp) :
  ReturnsInHanded {} Tryz.checked os 4 .any ((Rows.OpenSpec.upto Rows.usageEnoughSpec).preRow enc Tryz.prog Tryz.f4 Rows.usageEnoughUptoRow.domain false Rows.usageEnoughUptoRow.laid) (((Rows.OpenSpec.upto Rows.usageEnoughSpec).at F).post enc Tryz.prog Tryz.f4 false true false false):=by
 obtain⟨⟨y1,y2,y3⟩,hx,hy⟩:=Ol.1 (reads os enc);simp only[Qn]at hy;obtain⟨rfl,rfl⟩:=hy
 refine returnsInHanded_of_row (C:=Tryz.checked) (s:=Rows.OpenSpec.upto Rows.usageEnoughSpec) own started (by kernel_rfl) Tryz.func4
  (witness_row_atRef (enc:=enc) (C:=Tryz.checked) false (mG os) #[.agg #[.string ⟨#[]⟩,.slice none 0 0,.slice none 0 0,.slice none 0 0,.int .i64 0],.slice none 0 0] rfl (by kernel_rfl) (by kernel_rfl) (by kernel_rfl)
   (OpenSpec.preRow_of_cond 8 hx (by kernel_rfl) (fun k hk=>by cases hk;kernel_rfl) (by kernel_rfl) (IU os _))) ?_
 intro W base args ds gs before hval hW _ hku _ hL hsh _;exact KH H enc W base args ds gs before hval hW (hku _ rfl) hL hsh
theorem c1:(Rows.usageEnoughUptoRow.inPlace ==Tryz.prog.inPlace 4)=true:=by kernel_rfl
theorem c2:(Rows.usageEnoughUptoRow.unfollowed ==Tryz.prog.unfollowed 4)=true:=by kernel_rfl
theorem c3:(Rows.usageEnoughUptoRow.recurses ==Tryz.prog.recurses 4)=true:=by kernel_rfl
theorem c4:(Rows.usageEnoughUptoRow.named ==Tryz.prog.varsNamed 4)=true:=by kernel_rfl
theorem Np:joinedFacts Tryz.prog 4 Tryz.f4 (Rows.OpenSpec.upto Rows.usageEnoughSpec).bare Rows.usageEnoughUptoRow=true:=by unfold joinedFacts;rw[c1,c2,c3,c4];kernel_rfl
theorem said:Rows.UsageEnoughUptoSaid:=
 OpenClaim.holds_of_cond 4 Tryz.f4 rfl rfl rfl rfl rfl rfl rfl ⟨rfl,rfl,rfl,rfl,rfl⟩ rfl rfl rfl rfl rfl (by kernel_rfl) Tryz.func4 Np
  (Xo (by kernel_rfl)) (by unfold Func.isWrapper;first|(rw[NY (by decide+kernel)];kernel_rfl)|(rw[NU (by decide+kernel)];exact⟨rfl,rfl⟩))
  (fun os started H enc _ F=>by rw[OpenClaim.pre_eq_preRow];exact No os started H enc F)
theorem fo(f:FuncId)(fn:Func)(hf:Tryz.pinned.checked.prog.funcNamed "pandect/pandectlaw34.UsageEnough"=some f)(hfn:Tryz.pinned.checked.prog.funcs[f]?=some fn) :
  true=Tryz.pinned.checked.prog.looks []/\∀(j:Nat) t,fn.params[j]?=some t->Tryz.pinned.checked.prog.wantsStandIn t=false:=by
 obtain rfl:f=4:=OB ((show Tryz.prog.funcNamed "pandect/pandectlaw34.UsageEnough"=some 4 by kernel_rfl).symm.trans hf) |>.symm;obtain rfl:fn=Tryz.f4:=(OB (Tryz.func4.symm.trans hfn)).symm;refine ⟨by kernel_rfl,fun j t ht=>?_⟩;rw [par] at ht;have ht:=Array.mem_of_getElem? ht;simp only [List.mem_toArray,O1,Pu,R8] at ht;rcases ht with rfl | rfl
 ·exact(show Tryz.prog.wantsStandIn 26=false by kernel_rfl)
 ·exact(show Tryz.prog.wantsStandIn 27=false by kernel_rfl)
theorem card:Rows.UsageEnoughUptoCardSaid:=
 Claim7.holds_tied_plain_at .later [] _ _ _ _ said (fun _ h=>by cases h) (by kernel_rfl) (fun _ h=>by cases h) usageEnoughUpto_row_tie rfl ⟨rfl,rfl⟩ (by kernel_rfl) rfl fo (by kernel_rfl)
end Go.Proofs.YtlhofbjllomgiaaGreatDoor.JUsageEnough
end
