/- What the functions' conditions say, proved. Plain facts. No condition. -/
import Derived.Test.YtlhofbjllomgiaaGreatDoorT07
set_option linter.all false
set_option maxRecDepth 100000
section
open Go Go.AL Go.Pd
namespace Go.AL.Seat
theorem uU(bL:List Bndg)(m:Modu)(ds:List Depd)(hm:Wf (.st .modu) m)(hd:Wf (.lst (.st .dep)) ds)(hs:m.decls.all cP=true)(hi:∀d∈ds,∀x∈d.items,allS nmU x.shape=true)(hq:m.imports.length<=1048576) :
  let A:=(0:Int);let B:=true=true;let C:=True/\B/\True;let D:=List.all m.decls cP=true;let E:=((D/\List.length m.decls<=(1000000:Nat))/\List.length m.decls<=(100000:Nat)/\∀(d:Depd),d∈ds->List.length d.items<=(4000:Nat)/\∀(x:AL.Item),x∈d.items->allS nmU x.shape=true);let F:=jM bL m ds;let G:=List.length m.decls<=(60:Nat);let H:=m=m;let I:=ds=ds;let J:=false=false;let K:=F.l=F.l;let L:=eF m=eF m;let M:=m.name=m.name;let N:=(fun(i:den (Ty.st SN.imp))=>dM (da m) i);let O:=m.decls=m.decls;let P:=m.exports=m.exports;let Q:=m.pos=m.pos;let R:=(fun(i:Impt)=>dM (da m) i);let S:=H/\List.length [m]=List.length [m]/\F.f.err=F.f.err/\F.f.pos=F.f.pos/\True;let T:=(↑(List.length m.imports):Int);let U:=eF m;let V:=dfl (Ty.st SN.imp);let W:=(↑(List.length U):Int);let X:=(1:Int);let Y:=True/\false=true/\True;(∀(m_1:Modu),m_1∈[m]->List.length m_1.imports<=(1048576:Nat))/\if(!lgM [m] A)=true then C else if(!iE ds A A)=true then C else E/\if(!decide (F.f.err=A))=true then C else(D/\G/\List.length m.imports<=(20:Nat))/\(∃(x:Nat),let Z:=List.take x m.imports;x<=List.length m.imports/\A=(↑x:Int)/\H/\I/\J/\J/\K/\J/\L/\M/\List.filter N Z=[]/\O/\P/\Q/\List.length (List.filter R Z)=(0:Nat)/\S)/\∀(x:Nat),let Z:=(↑x:Int);let a:=List.getD m.imports (Int.toNat Z) V;let b:=a;let c:=List.take x m.imports;let e:=List.filter R c;let g:=Z=Z/\H/\I/\J/\J/\K/\J/\L/\B/\M/\List.filter N c=List.filter N c/\O/\P/\Q/\List.length e=List.length e/\S;let h:=A<=Z/\Z<T;let j:=List.filter N c;let k:=inR IntKind.i64 (Z+X);let n:=(jM bL {name:=m.name,imports:=List.filter N c,decls:=m.decls,exports:=m.exports,pos:=m.pos:Modu} ds);x<=List.length m.imports->if decide (Z<T)=true then(∃(x_1:Nat×Bool),(x_1.1<=List.length U/\(x_1.2||mg b.name (List.drop x_1.1 U))=mg b.name U)/\false=x_1.2/\A=(↑x_1.1:Int)/\g)/\∀(x_1:Nat×Bool),let o:=(↑x_1.1:Int);let p:=inR IntKind.i64 (o+X);x_1.1<=List.length U/\(x_1.2||mg b.name (List.drop x_1.1 U))=mg b.name U->if decide (o<W)=true then if x_1.2=true then p/\∃(y:Nat×Bool),(y.1<=List.length U/\(y.2||mg b.name (List.drop y.1 U))=mg b.name U)/\List.length U-y.1<List.length U-x_1.1/\true=y.2/\o+X=(↑y.1:Int)/\g else(A<=o/\o<W)/\h/\p/\∃(y:Nat×Bool),(y.1<=List.length U/\(y.2||mg b.name (List.drop y.1 U))=mg b.name U)/\List.length U-y.1<List.length U-x_1.1/\decide (List.getD U (Int.toNat o) (dfl Ty.str)=b.name)=y.2/\o+X=(↑y.1:Int)/\g else if(!x_1.2)=true then h/\(List.length j=List.length e/\(List.length j+List.length [a])*(88:Nat)<=(140737488355328:Nat))/\k/\∃(y:Nat),let q:=List.take y m.imports;y<=List.length m.imports/\List.length m.imports-y<List.length m.imports-x/\Z+X=(↑y:Int)/\H/\I/\J/\J/\K/\J/\L/\M/\List.filter N c++[a]=List.filter N q/\O/\P/\Q/\List.length (List.filter N c++[a])=List.length (List.filter R q)/\S else k/\∃(y:Nat),let q:=List.take y m.imports;y<=List.length m.imports/\List.length m.imports-y<List.length m.imports-x/\Z+X=(↑y:Int)/\H/\I/\J/\J/\K/\J/\L/\M/\List.filter N c=List.filter N q/\O/\P/\Q/\List.length e=List.length (List.filter R q)/\S else E/\if decide (n.f.err=A)=true then if kf F.l n.l=true then(D/\G/\List.length j<=(20:Nat))/\if decide ((↑(List.length (eF {name:=m.name,imports:=List.filter N c,decls:=m.decls,exports:=m.exports,pos:=m.pos:Modu})):Int)=A)=true then C else Y else Y else Y:=by
 conv=>zeta
 have ln:=hd.len;simp only[Oi,Pw,OV,OK];refine⟨fun x hx=>by rw[OH.1 hx];exact hq,aa (fun _=>trivial) (fun h=>aa (fun _=>trivial) (fun h'=>?_))⟩;have hL:lgM [m] 0=true:=by simpa using h
 have hS:iE ds 0 0=true:=by simpa using h'
 clear h h';obtain⟨f2,f1⟩:=Nr hL;have few:=C1 ds 0 0 (by omega) (by omega) hS
 have cnt:ds.length<=20:=by
  rcases C2 ds 0 0 hS with e|e
  ·rw[e];exact Of _
  ·omega
 have few2:∀d∈ds,d.items.length<=4000/\∀x∈d.items,allS nmU x.shape=true:=fun d hd=>⟨few d hd,hi d hd⟩;have li:=hm.modu_imports.len;refine⟨⟨⟨hs,by omega⟩,by omega,few2⟩,aa (fun _=>trivial) (fun h=>?_)⟩;have h:(jM bL m ds).f.err=0:=by simpa using h
 obtain⟨o1,o2⟩:=LF h;have hc:bq m=0:=Qn fun c=>by unfold jM at h;rw[O0 c]at h;exact c h
 have hI:eF m=cC (da m) m.imports:=by unfold eF;rw[O3 hc]
 have hlen:(eF m).length<=20:=by rw[hI];exact OT (qa _ _) f1
 refine⟨⟨hs,f2,f1⟩,⟨0,Of _,rfl,rfl,rfl⟩,?_⟩;intro k hk;apply aa<;>intro c
 ·have c:=Xo c;have hk':k<m.imports.length:=by omega
  have hm':=getD_mem m.imports k (dfl (.st .imp)) hk';have ht:(m.imports.take (k+1)).filter (fun i=>dM (da m) i)=(m.imports.take k).filter (fun i=>dM (da m) i)++(if dM (da m) (m.imports.getD k (dfl (.st .imp)))=true then[m.imports.getD k (dfl (.st .imp))]else[]):=by rw[cD m.imports k (dfl (.st .imp)) hk',List.filter_append];congr 1;rw[List.filter_cons];rfl
  have hfl:((m.imports.take k).filter (fun i=>dM (da m) i)).length<=20:=OT (QG _ _) (by rw[Pt];omega);obtain⟨x,hx⟩:∃x,m.imports.getD k (dfl (.st .imp))=x:=⟨_,rfl⟩;simp only[hx]at ht hm'⊢;refine⟨⟨(0,false),⟨Of _,by simp only[Pe,RL]⟩,rfl,rfl⟩,?_⟩;rintro⟨p,b⟩ ⟨p1,p2⟩;simp only at p1 p2⊢;apply aa<;>intro c
  ·have c:=Xo c;have hp:p<(eF m).length:=by omega
   rw[an (eF m) p (dfl .str) hp,HU]at p2;apply aa<;>intro b1
   ·rw[b1,Bool.true_or]at p2;exact⟨aU (by omega) (by omega),(p+1,true),⟨by simp only;omega,by simp only[Bool.true_or];exact p2⟩,by simp only;omega,rfl,by simp only;omega⟩
   ·have b2:b=false:=by simpa using b1
    rw[b2,RL]at p2;exact⟨by omega,by omega,aU (by omega) (by omega),(p+1,_),⟨by simp only;omega,p2⟩,by simp only;omega,rfl,by simp only;omega⟩
  ·have e:p=(eF m).length:=by have:¬((p:Int)<((eF m).length:Int)):=fun e=>c (Xd e);omega
   rw[e,Ol]at p2;have p2:b=mg x.name (eF m):=by simpa[mg]using p2
   have key:dM (da m) x=!b:=by
    rw[p2]
    cases q:dM (da m) x with
    |false=>have:=C5.2 (by rw[hI];exact(uT hm').2 q:x.name∈eF m);rw[this];rfl
    |true=>
     cases r:mg x.name (eF m)with
     |false=>rfl
     |true=>have r:=C5.1 r;rw[hI]at r;rw[(uT hm').1 r]at q;cases q
   apply aa<;>intro b1
   ·rw[O3 (key.trans b1)]at ht;refine⟨by omega,?_,aU (by omega) (by omega),k+1,by omega,by omega,by omega,ht.symm,by rw[ht]⟩;rw[OI];exact OT (OP 88 (Nat.add_le_add_right hfl 1)) (by decide)
   ·rw[O0 (fun q=>b1 (key.symm.trans q)),P2]at ht;exact⟨aU (by omega) (by omega),k+1,by omega,by omega,by omega,ht.symm,by rw[ht]⟩
 ·have e:k=m.imports.length:=by have:¬((k:Int)<(m.imports.length:Int)):=fun e=>c (Xd e);omega
  rw[e,OY];have er:AL.Modu.mk m.name (m.imports.filter fun i=>dM (da m) i) m.decls m.exports m.pos=jl m:=rfl;rw[er,o1,o2];refine⟨⟨⟨hs,by omega⟩,by omega,few2⟩,?_⟩;rw[O3 (Xd h),O3 (wB _)];exact⟨⟨hs,f2,OT (QG _ _) f1⟩,aa (fun _=>trivial) (fun c=>absurd (by rfl) c)⟩
end Go.AL.Seat
end
section
open Go Go.AL Go.Proofs Go.Shelf Go.Pd
namespace Go.AL.Seat
variable [Tabs]
variable [SeatLaid]
theorem wY:Enters Tryz.prog 36:=ee Tryz.func36
theorem yT(n:Nat)(m:List (Nam×Int))(s:AL.Shape)(hs:Wf (.st .shape) s)(ho:sz s<=n+1/\m.length+(useS s).length<=9000000000000000000)(hA:ah Tryz.prog 36 (GJ (.st .shape) (fun m s=>sz s<=n/\m.length+(useS s).length<=9000000000000000000) fun m s=>aL m (useS s))):ak Tryz.prog 36 [.map 900,.st .shape s] [(900,.map (.st .nm) (.int .i64) m)] (⟨some (sz s<=n+1/\m.length+(useS s).length<=9000000000000000000),none,.tup [],[(900,.map (.st .nm) (.int .i64) (aL m (useS s)))]⟩):=
 g1 nn (fun _=>[]) nn (fun d=>Nat.beq d 21) nn (sc (hA) sn) ⟨[(4,fun S0=>⟨Nat,fun k=>k<=s.parts.length,fun k=>[(27,.int .i64 k)],fun k=>[(900,.map (.st .nm) (.int .i64) (aL (aL m (rr s)) (useSL (s.parts.take k))))],fun k=>s.parts.length-k⟩)],[],[]⟩ Tryz.func36 (HV n m s hs ho)
theorem o9:∀n:Nat,ah Tryz.prog 36 (GJ (.st .shape) (fun m s=>sz s<=n/\m.length+(useS s).length<=9000000000000000000) fun m s=>aL m (useS s))
 |0=>rQ wY fun m s _ ho=>absurd (fH s) (by have:=ho.1;omega)
 |n+1=>rQ wY fun m s hs ho=>yT n m s hs ho (o9 n)
theorem C7:Enters Tryz.prog 37:=ee Tryz.func37
theorem C8(N n:Nat)(m:List (Nam×Int))(t:Trm)(ht:Wf (.st .term) t)(ho:szT t<=n+1/\allT (mxU N) t=true/\m.length+(useT t).length<=9000000000000000000)(hA:ah Tryz.prog 37 (GJ (.st .term) (fun m t=>szT t<=n/\allT (mxU N) t=true/\m.length+(useT t).length<=9000000000000000000) fun m t=>aL m (useT t))):ak Tryz.prog 37 [.map 900,.st .term t] [(900,.map (.st .nm) (.int .i64) m)] (⟨some (szT t<=n+1/\allT (mxU N) t=true/\m.length+(useT t).length<=9000000000000000000),none,.tup [],[(900,.map (.st .nm) (.int .i64) (aL m (useT t)))]⟩):=
 g1 nn (fun _=>[]) nn (fun d=>Nat.beq d 23) nn (sc (o9 N) (sc (hA) sn)) ⟨[(4,fun S0=>⟨Nat,fun k=>k<=t.shapes.length,fun k=>[(29,.int .i64 k)],fun k=>[(900,.map (.st .nm) (.int .i64) (aL (aL m (iF t)) (useSL (t.shapes.take k))))],fun k=>t.shapes.length-k⟩),(9,fun S0=>⟨Nat,fun k=>k<=t.parts.length,fun k=>[(40,.int .i64 k)],fun k=>[(900,.map (.st .nm) (.int .i64) (aL (aL (aL m (iF t)) (useSL t.shapes)) (useTL (t.parts.take k))))],fun k=>t.parts.length-k⟩)],[],[]⟩ Tryz.func37 (KC N n m t ht ho)
theorem wZ(N:Nat):∀n:Nat,ah Tryz.prog 37 (GJ (.st .term) (fun m t=>szT t<=n/\allT (mxU N) t=true/\m.length+(useT t).length<=9000000000000000000) fun m t=>aL m (useT t))
 |0=>rQ C7 fun m t _ ho=>absurd (hX t) (by have:=ho.1;omega)
 |n+1=>rQ C7 fun m t hs ho=>C8 N n m t hs ho (wZ N n)
theorem KG:Enters Tryz.prog 39:=ee Tryz.func39
theorem C9(m:List (Nam×Int))  :ak Tryz.prog 39 [.map 900] [(900,(.map (.st .nm) (.int .i64) m))] (⟨none,none,.fn 78 [.ptr 1 0],[(1,.box (.map 900)),(900,(.map (.st .nm) (.int .i64) m))]⟩):=
 g0 sn a0 Tryz.func39 (KD m)
theorem HZ:ah Tryz.prog 39 (uQ 78):=
 C4 KG fun m=>C9 m
theorem I0:ah Tryz.prog 15 (p1 (.st .modu) fun m=>⟨some (m.decls.all cP=true/\m.decls.length<=60),none,.lst (.st .nm) (da m) none,[]⟩):=
 bA (ee Tryz.func15) fun m hm ho=>g0 (sc nZ (sc (o9 400) (sc (wZ 400 4096) (sc HZ (sc ((vJ (ee Tryz.func38))) sn))))) ⟨[(5,fun S0=>⟨Nat,fun k=>bq m=0/\k<=m.decls.length,fun k=>[(13,.int .i64 k)],fun k=>[(9,.map (.st .nm) (.int .i64) (aL [] (cU (m.decls.take k))))],fun k=>m.decls.length-k⟩)],[],[]⟩ Tryz.func15 (KE m hm (ho _ rfl))
theorem Ey:ah Tryz.prog 46 (Ew fun u x=>⟨none,none,.bool (!rz x u),[]⟩):=
 HS (ee Tryz.func46) fun u x _=>g0 sn a0 Tryz.func46 (HW u x)
theorem Ez:ah Tryz.prog 82 (pe 46 fun l x=>⟨none,none,.int .i64 (ba (rz x) l 0),[]⟩):=
 qY (ee Tryz.func82) fun l x hl _=>g0 (sc Ey sn) ⟨[(2,fun S0=>⟨Nat,fun k=>k<=l.length/\ba (rz x) (l.drop k) k=ba (rz x) l 0,fun k=>[(8,.int .i64 k)],fun _=>[],fun k=>l.length-k⟩)],[],[]⟩ Tryz.func82 (HX l x hl)
theorem EA:ah Tryz.prog 45 (pe 46 fun l x=>⟨none,none,.bool (dM l x),[]⟩):=
 qY (ee Tryz.func45) fun l x _ _=>g0 (sc Ez sn) a0 Tryz.func45 (HY l x)
theorem I1:ah Tryz.prog 17 (p1 (.st .modu) fun m=>⟨some (m.decls.all cP=true/\m.decls.length<=60/\m.imports.length<=20),none,.lst .str (eF m) none,[]⟩):=
 bA (ee Tryz.func17) fun m hm ho=>g0 (sc nZ (sc I0 (sc EA sn))) ⟨[(6,fun S0=>⟨Nat,fun k=>bq m=0/\k<=m.imports.length,fun k=>[(4,.lst .str (cC (da m) (m.imports.take k)) (some 701)),(15,.int .i64 k)],fun k=>[(701,.tail .str (cC (da m) (m.imports.take k)).length)],fun k=>m.imports.length-k⟩)],[],[]⟩ Tryz.func17 (KF m hm (ho _ rfl))
theorem vL(l:List Modu)(N:Nat)(hl:Wf (.lst (.st .modu)) l)(ho:∀m∈l,m.imports.length<=1048576)(hN:∀m∈l,∀d∈m.decls,sz d.shape<=N/\szT d.term<=N) :ak Tryz.prog 13 [.lst (.st .modu) l none] [] (⟨some (∀m∈l,m.imports.length<=1048576),none,.bool (lgM l 0),[]⟩):=
 g0 (sc (Bn N) (sc (Hy N) sn)) ⟨[(3,fun S0=>⟨Nat×Int,fun x=>x.1<=l.length/\0<=x.2/\x.2<=600/\lgM (l.drop x.1) x.2=lgM l 0,fun x=>[(3,.int .i64 x.2),(4,.int .i64 x.1)],fun _=>[],fun x=>l.length-x.1⟩),(9,fun S0=>oz S0 4 fun i=>⟨Nat×Int,fun x=>x.1<=(l.getD i.toNat (dfl (.st .modu))).decls.length/\0<=x.2/\x.2<=600/\lgA (lgD ((l.getD i.toNat (dfl (.st .modu))).decls.drop x.1) x.2) (l.getD i.toNat (dfl (.st .modu))) (lgM (l.drop (i.toNat+1)))=lgM l 0,fun x=>[(3,.int .i64 x.2),(5,.int .i64 x.1)],fun _=>[],fun x=>(l.getD i.toNat (dfl (.st .modu))).decls.length-x.1⟩),(15,fun S0=>oz S0 4 fun i=>oz S0 3 fun n=>⟨Nat,fun k=>k<=(l.getD i.toNat (dfl (.st .modu))).imports.length/\(((l.getD i.toNat (dfl (.st .modu))).imports.drop k).all lgI&&lgM (l.drop (i.toNat+1)) n)=lgM l 0,fun k=>[(6,.int .i64 k)],fun _=>[],fun k=>(l.getD i.toNat (dfl (.st .modu))).imports.length-k⟩),(21,fun S0=>oz S0 4 fun i=>oz S0 3 fun n=>oz S0 6 fun k=>⟨Nat,fun j=>j<=((l.getD i.toNat (dfl (.st .modu))).imports.getD k.toNat (dfl (.st .imp))).range.length/\(lgR (((l.getD i.toNat (dfl (.st .modu))).imports.getD k.toNat (dfl (.st .imp))).range.drop j)&&(((l.getD i.toNat (dfl (.st .modu))).imports.drop (k.toNat+1)).all lgI&&lgM (l.drop (i.toNat+1)) n))=lgM l 0,fun j=>[(8,.int .i64 j)],fun _=>[],fun j=>((l.getD i.toNat (dfl (.st .modu))).imports.getD k.toNat (dfl (.st .imp))).range.length-j⟩)],[],[]⟩ Tryz.func13 (Ex l N hl ho hN)
theorem Ca:ah Tryz.prog 13 (p1 (.lst (.st .modu)) fun l=>⟨some (∀m∈l,m.imports.length<=1048576),none,.bool (lgM l 0),[]⟩):=
 bA (ee Tryz.func13) fun l hl ho=>vL l (szM l) hl (ho _ rfl) (KB l)
theorem ph(bL:List Bndg)(m:Modu)(ds:List Depd)(hm:Wf (.st .modu) m)(hd:Wf (.lst (.st .dep)) ds)(hs:m.decls.all cP=true)(hi:∀d∈ds,∀x∈d.items,allS nmU x.shape=true)(hq:m.imports.length<=1048576)(hM:ah Tryz.prog 9 (p2 (.st .modu) (.lst (.st .dep)) fun m ds=>⟨some ((m.decls.all cP=true/\m.decls.length<=1000000)/\m.decls.length<=100000/\∀d∈ds,d.items.length<=4000/\∀x∈d.items,allS nmU x.shape=true),none,.tup [.lst (.st .item) (jM bL m ds).l none,.agg [.int .i64 (jM bL m ds).f.err,.int .i64 (jM bL m ds).f.pos]],[]⟩))(hW:ah Tryz.prog 14 (p0 (.ret (.bool true)))):ak Tryz.prog 5 [.st .modu m,.lst (.st .dep) ds none] [] (.ret (.bool true)):=
 g0 (sc Ca (sc BT (sc (hW) (sc (hM) (sc I1 (sc HL sn)))))) ⟨[(10,fun S0=>⟨Nat,fun k=>k<=m.imports.length,fun k=>[(9,.int .i64 k)],fun k=>[(8,.box (.agg [.str m.name,.lst (.st .imp) ((m.imports.take k).filter fun i=>dM (da m) i) (some 701),.lst (.st .decl) m.decls none,.lst .str m.exports none,.int .i64 m.pos])),(701,.tail (.st .imp) ((m.imports.take k).filter fun i=>dM (da m) i).length)],fun k=>m.imports.length-k⟩),(14,fun S0=>oz S0 9 fun i=>⟨Nat×Bool,fun x=>x.1<=(eF m).length/\(x.2||mg (m.imports.getD i.toNat (dfl (.st .imp))).name ((eF m).drop x.1))=mg (m.imports.getD i.toNat (dfl (.st .imp))).name (eF m),fun x=>[(10,.bool x.2),(11,.int .i64 x.1)],fun _=>[],fun x=>(eF m).length-x.1⟩)],[],[]⟩ Tryz.func5 (uU bL m ds hm hd hs hi hq)
end Go.AL.Seat
end
noncomputable section
namespace Go.AL.Seat
open Go Go.AL Go.Proofs
variable [Tabs]
def qZ:List (Nat×TR):=[(34,r34),(3,r2),(9,r9),(47,r47),(26,r26),(155,Ly),(121,r121),(32,r2),(45,r45),(49,r49),(31,r31),(24,r24),(43,r43),(63,r63),(38,r38),(27,r27),(71,r71),(120,r120),(33,r33),(25,r25),(22,r22),(23,r23),(65,r65),(64,r64),(62,r62),(61,r61),(41,r41),(40,r40),(39,r39),(59,r59),(58,r58),(37,r37),(42,r42),(48,r48),(46,r46)]
theorem KH:aR Tryz.prog qZ:=by
 unfold qZ
 repeat (first|exact aR.nil|refine aR.cons tk ?_)
end Go.AL.Seat
end
noncomputable section
namespace Go.AL.Seat
open Go Go.AL Go.Proofs
set_option maxRecDepth 1000000
variable [Tabs]
def Ns(f:Nat):List (Option Nat):=if Nat.beq f 121||Nat.beq f 122 then[some 2]else if Nat.beq f 68||(Nat.beq f 69||(Nat.beq f 73||(Nat.beq f 74||(Nat.beq f 75||Nat.beq f 126))))then[some 4]else if Nat.beq f 57||Nat.beq f 61 then[some 1004]else[]
def Nt(f:Nat):Bool:=false
def uV:List (Nat×FB):=(8,fbz qZ Tryz.f8 2367)::(22,lZ qZ Tryz.f22 15 [] (fun _=>false) (fun _=>false) (fun _=>false) true)::(20,fbz qZ Tryz.f20 268567539)::(54,lZ qZ Tryz.f54 1965 [] (fun _=>false) (fun _=>false) (fun d=>Nat.beq d 16) false)::(96,fbz qZ Tryz.f96 5)::[]
theorem Cb:iP Tryz.prog uV:=by
 unfold uV
 repeat (first|exact iP.nil|refine iP.cons (by kernel_rfl) (by kernel_rfl) ?_)
end Go.AL.Seat
end
noncomputable section
namespace Go.AL.Seat
open Go Go.AL Go.Proofs Go.Pd
set_option maxRecDepth 1000000
def mh:List Bndg:=[⟨[],[97,100,100],⟨8,[],[],[],[⟨1,[],[],[],[]⟩,⟨1,[],[],[],[]⟩,⟨1,[],[],[],[]⟩]⟩⟩,⟨[],[115,117,98],⟨8,[],[],[],[⟨1,[],[],[],[]⟩,⟨1,[],[],[],[]⟩,⟨1,[],[],[],[]⟩]⟩⟩,⟨[],[109,117,108],⟨8,[],[],[],[⟨1,[],[],[],[]⟩,⟨1,[],[],[],[]⟩,⟨1,[],[],[],[]⟩]⟩⟩,⟨[],[108,101,115,115],⟨8,[],[],[],[⟨1,[],[],[],[]⟩,⟨1,[],[],[],[]⟩,⟨2,[],[],[],[]⟩]⟩⟩,⟨[],[115,97,109,101],⟨8,[],[],[],[⟨1,[],[],[],[]⟩,⟨1,[],[],[],[]⟩,⟨2,[],[],[],[]⟩]⟩⟩,⟨[],[110,111,116],⟨8,[],[],[],[⟨2,[],[],[],[]⟩,⟨2,[],[],[],[]⟩]⟩⟩,⟨[],[98,111,116,104],⟨8,[],[],[],[⟨2,[],[],[],[]⟩,⟨2,[],[],[],[]⟩,⟨2,[],[],[],[]⟩]⟩⟩,⟨[],[99,97,116],⟨8,[],[],[],[⟨3,[],[],[],[]⟩,⟨3,[],[],[],[]⟩,⟨3,[],[],[],[]⟩]⟩⟩,⟨[],[115,105,122,101],⟨8,[],[],[],[⟨3,[],[],[],[]⟩,⟨1,[],[],[],[]⟩]⟩⟩,⟨[],[115,104,111,119],⟨8,[],[],[],[⟨1,[],[],[],[]⟩,⟨3,[],[],[],[]⟩]⟩⟩]
variable [Tabs] [SeatLaid]
theorem Mf:ak Tryz.prog 22 [] [] ⟨none,none,.lst (.st .bind) mh (some 61),[(61,.tail (.st .bind) mh.length)]⟩:=
 mL (n:=100) mixed KH p9 Cb (by kernel_rfl:AI qZ uV Nt Ns 50 (gF qW) 100 22 [] []=some ⟨none,none,.lst (.st .bind) mh (some 61),[(61,.tail (.st .bind) mh.length)]⟩)
theorem KI:ah Tryz.prog 22 (p0 ⟨none,none,.lst (.st .bind) mh (some 61),[(61,.tail (.st .bind) mh.length)]⟩):=Jc (ee Tryz.func22) Mf
def obM(m:Modu)(ds:List Depd):Prop:=(m.decls.all cP=true/\m.decls.length<=1000000)/\m.decls.length<=100000/\∀d∈ds,d.items.length<=4000/\∀x∈d.items,allS nmU x.shape=true
def ansM(m:Modu)(ds:List Depd):Ans:=⟨some (obM m ds),none,.tup [.lst (.st .item) (jM mh m ds).l none,.agg [.int .i64 (jM mh m ds).f.err,.int .i64 (jM mh m ds).f.pos]],[]⟩
theorem Mg:ah Tryz.prog 9 (p2 (.st .modu) (.lst (.st .dep)) fun m ds=>ansM m ds):=C3 mh (by decide) KI
end Go.AL.Seat
end
noncomputable section
namespace Go.AL.Seat
open Go Go.AL Go.Proofs Go.Pd
set_option maxRecDepth 1000000
variable [Tabs] [SeatLaid]
def Mt:List (Nat×Pat):=(38,mf)::(32,Fk [.str awS] awV)::(53,q1 (.lst .str) (fun l=>decide (l.length *16<=140737488355328)) fun l=>.bool (decide l.Nodup))::(81,q1 (.lst .str) (fun l=>decide (l.length *16<=140737488355328)) fun l=>.lst .str l none)::qW
theorem KJ:bJ Tryz.prog (gF Mt):=sc (uP (ee Tryz.func38)) (sc (Fl (ee Tryz.func32) NS) (sc (JA uK fun _ h=>Xo h) (sc (JA mM fun _ h=>Xo h) p9)))
theorem Cc:ah Tryz.prog 14 (p0 (.ret (.bool true))):=
 Jc (ee Tryz.func14) (mL (n:=100) mixed Ks KJ BV (by kernel_rfl:AI b8 uM Nk Nj 50 (gF Mt) 100 14 [] []=some ⟨none,none,.bool true,[]⟩))
end Go.AL.Seat
end
section
namespace Go.Proofs.YtlhofbjllomgiaaGreatDoor.JUsageIdle
open Go.AL Go.AL.Seat Go.Pd Go.ChangeShapes Go.WideShapes Go.RowKit Go.Proofs.YtlhofbjllomgiaaGreatDoor.Join
set_option maxRecDepth 1000000
theorem par:Tryz.f5.params=#[26,27]:=by kernel_rfl
theorem res:Tryz.f5.resultTypes=#[4]:=by kernel_rfl
theorem spec{H:Type}(ds:List (DataW H))(hd:ds.length=2):Rows.usageIdleSpec.fn H ds={results:=[.lit (.bool true)],args:=ds}:=by
 match ds,hd with
 |[d0,d1],_=>rfl
theorem KK(H:Type)(enc:TypeId×Value->H)(W:World)(base:Nat)(args:Array Value)(ds gs:List (DataW H))(before:List MemPlace)
 (hval:∀(j:Nat) t v,Tryz.f5.params[j]?=some t->args[j]?=some v->Value.okWide Tryz.prog W .any base t v)
 (hW:DataW.Whole enc Tryz.prog Tryz.f5.params.toList Rows.usageIdleSpec.vars false W args.toList ds gs before)(hku:Rows.uptoSmall H (ds++gs)=true)(hL:laidMet Tryz.prog laid W)(hsh:W.ShapedOpen Tryz.prog) :
  Calls Tryz.prog 5 args W fun e W'=>∃v,e=.returned v/\Rows.usageIdleSpec.post enc Tryz.prog Tryz.f5 false true false false W args v W':=by
 letI:Tabs:=tz W
 haveI:SeatLaid:=IZ hL hsh
 have hW':=hW;obtain⟨p,q,hA,hV,_,_,_⟩:=hW;rw[par]at hA hval;obtain⟨v0,vs0,d0,ds0,p0,q0,hargs0,rfl,rfl,h0,r0⟩:=trodAll_cons hA;obtain⟨v1,vs1,d1,ds1,p1,q1,hargs1,rfl,rfl,h1,r1⟩:=trodAll_cons r0;obtain⟨rfl,rfl,rfl⟩:=trodAll_nil r1;subst hargs1;obtain rfl:args=#[v0,v1]:=by have:=PT List.toArray hargs0;simpa using this
 obtain⟨x0,hx0,hq0⟩:=Da (wC Tryz.prog) MV Jl (hval 0 26 v0 rfl rfl) h0 (AA hku (by simp));obtain⟨x1,hx1,hq1⟩:=MO (wC Tryz.prog) NL NK (hval 1 27 v1 rfl rfl) h1 (AA hku (by simp));refine(G5 (ph mh x0 x1 ⟨_,_,hx0⟩ ⟨_,_,hx1⟩ (O9.2 fun d hd=>Ay (hq0.1 d hd)) (fun d hd=>(hq1 d hd).2) hq0.2 Mg Cc) (fun b o v h=>h.2) (fun b x h=>h.2) (VL.cons hx0 (VL.cons hx1 .nil))).mono fun e W' ⟨he,hb⟩=>?_;subst he;refine⟨_,rfl,II (tb:=4) Le (fun t ht=>?_) rfl (fun ds hd=>spec ds ?_) res undB hW' hb⟩
 ·rw[par]at ht;have ht:t∈[26,27]:=ht;simp only[O7,Pz,Rf]at ht;rcases ht with rfl|rfl
  ·exact⟨NM,R4 (by decide) fe⟩
  ·exact⟨MT,R4 (by decide) fe⟩
 ·rw[par]at hd;exact hd
theorem reads(os:Os){H:Type}(enc:TypeId×Value->H):(DataW.whole enc Tryz.prog ((mF os).forCall (fun _ _=>0) ⟨#[],#[.agg #[.string ⟨#[]⟩,.slice none 0 0,.slice none 0 0,.slice none 0 0,.int .i64 0],.slice none 0 0],[]⟩).memory Tryz.f5.params.toList Rows.usageIdleSpec.vars false [Value.agg #[.string ⟨#[]⟩,.slice none 0 0,.slice none 0 0,.slice none 0 0,.int .i64 0],Value.slice none 0 0] 8).map (fun x=>(x.1,x.2.1))=some ([.agg [.lit (.string []),.nil,.nil,.nil,.lit (.int .i64 0)],.nil],[]):=by kernel_rfl
theorem Nu(os:Os)(started:os.Started)(H:Type)(enc:TypeId×Value->H)(F:Stop.Interp) :
  ReturnsInHanded {} Tryz.checked os 5 .any ((Rows.OpenSpec.upto Rows.usageIdleSpec).preRow enc Tryz.prog Tryz.f5 Rows.usageIdleUptoRow.domain false Rows.usageIdleUptoRow.laid) (((Rows.OpenSpec.upto Rows.usageIdleSpec).at F).post enc Tryz.prog Tryz.f5 false true false false):=by
 obtain⟨⟨y1,y2,y3⟩,hx,hy⟩:=Ov.1 (reads os enc);simp only[Qu]at hy;obtain⟨rfl,rfl⟩:=hy
 refine returnsInHanded_of_row (C:=Tryz.checked) (s:=Rows.OpenSpec.upto Rows.usageIdleSpec) own started (by kernel_rfl) Tryz.func5
  (witness_row_atRef (enc:=enc) (C:=Tryz.checked) false (mF os) #[.agg #[.string ⟨#[]⟩,.slice none 0 0,.slice none 0 0,.slice none 0 0,.int .i64 0],.slice none 0 0] rfl (by kernel_rfl) (by kernel_rfl) (by kernel_rfl)
   (OpenSpec.preRow_of_cond 8 hx (by kernel_rfl) (fun k hk=>by cases hk;kernel_rfl) (by kernel_rfl) (J0 os _))) ?_
 intro W base args ds gs before hval hW _ hku _ hL hsh _;exact KK H enc W base args ds gs before hval hW (hku _ rfl) hL hsh
theorem c1:(Rows.usageIdleUptoRow.inPlace ==Tryz.prog.inPlace 5)=true:=by kernel_rfl
theorem c2:(Rows.usageIdleUptoRow.unfollowed ==Tryz.prog.unfollowed 5)=true:=by kernel_rfl
theorem c3:(Rows.usageIdleUptoRow.recurses ==Tryz.prog.recurses 5)=true:=by kernel_rfl
theorem c4:(Rows.usageIdleUptoRow.named ==Tryz.prog.varsNamed 5)=true:=by kernel_rfl
theorem Nv:joinedFacts Tryz.prog 5 Tryz.f5 (Rows.OpenSpec.upto Rows.usageIdleSpec).bare Rows.usageIdleUptoRow=true:=by unfold joinedFacts;rw[c1,c2,c3,c4];kernel_rfl
theorem said:Rows.UsageIdleUptoSaid:=
 OpenClaim.holds_of_cond 5 Tryz.f5 rfl rfl rfl rfl rfl rfl rfl ⟨rfl,rfl,rfl,rfl,rfl⟩ rfl rfl rfl rfl rfl (by kernel_rfl) Tryz.func5 Nv
  (Xo (by kernel_rfl)) (by unfold Func.isWrapper;first|(rw[O3 (by decide+kernel)];kernel_rfl)|(rw[O0 (by decide+kernel)];exact⟨rfl,rfl⟩))
  (fun os started H enc _ F=>by rw[OpenClaim.pre_eq_preRow];exact Nu os started H enc F)
theorem fr(f:FuncId)(fn:Func)(hf:Tryz.pinned.checked.prog.funcNamed "pandect/pandectlaw34.UsageIdle"=some f)(hfn:Tryz.pinned.checked.prog.funcs[f]?=some fn) :
  true=Tryz.pinned.checked.prog.looks []/\∀(j:Nat) t,fn.params[j]?=some t->Tryz.pinned.checked.prog.wantsStandIn t=false:=by
 obtain rfl:f=5:=OG ((show Tryz.prog.funcNamed "pandect/pandectlaw34.UsageIdle"=some 5 by kernel_rfl).symm.trans hf) |>.symm;obtain rfl:fn=Tryz.f5:=(OG (Tryz.func5.symm.trans hfn)).symm;refine ⟨by kernel_rfl,fun j t ht=>?_⟩;rw [par] at ht;have ht:=Array.mem_of_getElem? ht;simp only [List.mem_toArray,O7,Pz,Rf] at ht;rcases ht with rfl | rfl
 ·exact(show Tryz.prog.wantsStandIn 26=false by kernel_rfl)
 ·exact(show Tryz.prog.wantsStandIn 27=false by kernel_rfl)
theorem card:Rows.UsageIdleUptoCardSaid:=
 Claim7.holds_tied_plain_at .later [] _ _ _ _ said (fun _ h=>by cases h) (by kernel_rfl) (fun _ h=>by cases h) usageIdleUpto_row_tie rfl ⟨rfl,rfl⟩ (by kernel_rfl) rfl fr (by kernel_rfl)
end Go.Proofs.YtlhofbjllomgiaaGreatDoor.JUsageIdle
end
