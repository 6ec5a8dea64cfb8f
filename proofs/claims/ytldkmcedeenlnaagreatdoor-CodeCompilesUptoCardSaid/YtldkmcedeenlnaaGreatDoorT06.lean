/- Plain facts. What the functions' conditions say, proved. No condition. -/
import Derived.Test.YtldkmcedeenlnaaGreatDoorT05
import Derived.KernelRfl
import Derived.Shelf.Slices.Clone
import Derived.Sort.Walk0
import Derived.Test.YtldkmcedeenlnaaGreatDoorProg
set_option linter.all false
set_option maxRecDepth 100000
section
namespace Go.AL.Seat
open Go Go.AL Go.Proofs Go.Shelf Go.Pd
variable [Tabs]
theorem Mj:Builder.Extra Tryz.prog Tryz.lays169_ren:={
 sizeBuilder:=by kernel_rfl
 liesBuilder:=by kernel_rfl
 t5:=Tryz.underlying5
 a5:=Tryz.isAgg5
 z5:=Tryz.sizeOf5
 v5:=Tryz.zeroValue5
 infoByte:=by kernel_rfl
 cellsByte:=by kernel_rfl
 sizeByte:=by kernel_rfl
 neB5:=by decide}
theorem ED:ag Tryz.prog 61 (rZ 127 5):=xn Tryz.wl Tryz.cc Tryz.bx rfl rfl rfl (au.mk' Tryz.func61 (by kernel_rfl))
theorem Ba:ag Tryz.prog 62 (oI 127 5):=vM Tryz.lays169 Mj rfl rfl rfl (au.mk' Tryz.func62 (by kernel_rfl))
theorem EE:ag Tryz.prog 90 (p1 (.int .u64) fun n=>.ret (.int .i64 (nI n))):=yq Tryz.lays129 rfl (au.mk' Tryz.func90 (by kernel_rfl))
end Go.AL.Seat
end
section
open Go Go.AL Go.Pd
namespace Go.AL.Seat
theorem Hu(c:Int)  :
  if decide ((97:Int)<=c)=true then True/\decide (c<=(122:Int))=cn c/\True else True/\false=cn c/\True:=by
 unfold cn;simp only[l9];split<;>simp[*]
theorem Hv(c:Int)  :
  if decide ((65:Int)<=c)=true then True/\decide (c<=(90:Int))=cv c/\True else True/\false=cv c/\True:=by
 unfold cv;simp only[l9];split<;>simp[*]
theorem Hw(c:Int)  :
  if decide ((48:Int)<=c)=true then True/\decide (c<=(57:Int))=gg c/\True else True/\false=gg c/\True:=by
 unfold gg;simp only[l9];split<;>simp[*]
theorem JQ(c:Int)  :
  let A:=True/\true=eY c/\True;if cn c=true then A else if cv c=true then A else if gg c=true then A else True/\decide (c=(95:Int))=eY c/\True:=by
 conv=>zeta
 unfold eY;cases cn c<;>cases cv c<;>cases gg c<;>simp
theorem EF(s:Str)(hs:Wf .str s) :
  let A:=True/\false=cW cn s/\True;let B:=(↑(List.length s):Int);let C:=(0:Int);let D:=s=s/\false=false/\B=B/\True;if decide (s=[])=true then A else if decide ((24:Int)<B)=true then A else(C<=C/\C<B)/\if(!cn (↑(UInt8.toNat (List.getD s (Int.toNat C) (0:UInt8))):Int))=true then A else(∃(x:Nat),(x<=List.length s/\cW cn s=List.all (List.drop x s) fun(c:UInt8)=>eY (bI c))/\C=(↑x:Int)/\D)/\∀(x:Nat),let E:=(↑x:Int);(x<=List.length s/\cW cn s=List.all (List.drop x s) fun(c:UInt8)=>eY (bI c))->if decide (E<B)=true then(C<=E/\E<B)/\if(!eY (↑(UInt8.toNat (List.getD s (Int.toNat E) (0:UInt8))):Int))=true then A else inR IntKind.i64 (E+(1:Int))/\∃(y:Nat),(y<=List.length s/\cW cn s=List.all (List.drop y s) fun(c:UInt8)=>eY (bI c))/\List.length s-y<List.length s-x/\E+(1:Int)=(↑y:Int)/\D else True/\true=cW cn s/\True:=by
 conv=>zeta
 have hlen:=hs.str;have eb:∀b:UInt8,(b.toNat:Int)=bI b:=fun _=>rfl;simp only[l9,Mv,OR,Ni,N4,eb,cW];generalize cn (bI (s.getD 0 0))=f0;by_cases h0:s=[]
 ·simp[h0]
 have hpos:0<s.length:=NM.2 h0;by_cases h1:s.length<=24
 ·rw[Mp h0,Mp (by omega)];refine⟨by omega,?_⟩
  cases f0 with
  |false=>simp
  |true=>
   simp only[PH,N7,N1,h0,h1,Px,decide_true,Pg,MU];refine⟨⟨0,⟨by omega,rfl⟩,rfl⟩,?_⟩;rintro k ⟨h3,h4⟩;split
   ·have hk:k<s.length:=by omega
    rw[aU s k 0 hk,NK]at h4;generalize eY (bI (s.getD k 0))=r at h4⊢;refine⟨by omega,?_⟩
    cases r with|false=>simpa using h4.symm|true=>simp only[PH,N7,N1];exact⟨bu hk hlen,k+1,⟨by omega,by simpa using h4⟩,by omega,by omega⟩
   ·have hk:k=s.length:=by omega
    subst hk;simpa using h4.symm
 ·rw[Mp h0,Mu (by omega)];simp[h1]
theorem EG(s:Str)(hs:Wf .str s) :
  let A:=True/\false=cW cv s/\True;let B:=(↑(List.length s):Int);let C:=(0:Int);let D:=s=s/\false=false/\B=B/\True;if decide (s=[])=true then A else if decide ((24:Int)<B)=true then A else(C<=C/\C<B)/\if(!cv (↑(UInt8.toNat (List.getD s (Int.toNat C) (0:UInt8))):Int))=true then A else(∃(x:Nat),(x<=List.length s/\cW cv s=List.all (List.drop x s) fun(c:UInt8)=>eY (bI c))/\C=(↑x:Int)/\D)/\∀(x:Nat),let E:=(↑x:Int);(x<=List.length s/\cW cv s=List.all (List.drop x s) fun(c:UInt8)=>eY (bI c))->if decide (E<B)=true then(C<=E/\E<B)/\if(!eY (↑(UInt8.toNat (List.getD s (Int.toNat E) (0:UInt8))):Int))=true then A else inR IntKind.i64 (E+(1:Int))/\∃(y:Nat),(y<=List.length s/\cW cv s=List.all (List.drop y s) fun(c:UInt8)=>eY (bI c))/\List.length s-y<List.length s-x/\E+(1:Int)=(↑y:Int)/\D else True/\true=cW cv s/\True:=by
 conv=>zeta
 have hlen:=hs.str;have eb:∀b:UInt8,(b.toNat:Int)=bI b:=fun _=>rfl;simp only[l9,Mv,OR,Ni,N4,eb,cW];generalize cv (bI (s.getD 0 0))=f0;by_cases h0:s=[]
 ·simp[h0]
 have hpos:0<s.length:=NM.2 h0;by_cases h1:s.length<=24
 ·rw[Mp h0,Mp (by omega)];refine⟨by omega,?_⟩
  cases f0 with
  |false=>simp
  |true=>
   simp only[PH,N7,N1,h0,h1,Px,decide_true,Pg,MU];refine⟨⟨0,⟨by omega,rfl⟩,rfl⟩,?_⟩;rintro k ⟨h3,h4⟩;split
   ·have hk:k<s.length:=by omega
    rw[aU s k 0 hk,NK]at h4;generalize eY (bI (s.getD k 0))=r at h4⊢;refine⟨by omega,?_⟩
    cases r with|false=>simpa using h4.symm|true=>simp only[PH,N7,N1];exact⟨bu hk hlen,k+1,⟨by omega,by simpa using h4⟩,by omega,by omega⟩
   ·have hk:k=s.length:=by omega
    subst hk;simpa using h4.symm
 ·rw[Mp h0,Mu (by omega)];simp[h1]
theorem JR(s:Str)  :
  let A:=101;let B:=True/\true=nE s/\True;if decide (s=([109,111,100,117,108,A]:Str))=true then B else if decide (s=([105,109,112,111,114,116]:Str))=true then B else if decide (s=([112,105,110]:Str))=true then B else if decide (s=([114,97,110,103,A]:Str))=true then B else if decide (s=([116,121,112,A]:Str))=true then B else if decide (s=([111,112,97,113,117,A]:Str))=true then B else if decide (s=([108,A,116]:Str))=true then B else if decide (s=([105,110]:Str))=true then B else if decide (s=([A,120,112,111,114,116]:Str))=true then B else if decide (s=([102,117,110]:Str))=true then B else if decide (s=([105,102]:Str))=true then B else if decide (s=([116,104,A,110]:Str))=true then B else if decide (s=([A,108,115,A]:Str))=true then B else if decide (s=([99,97,115,A]:Str))=true then B else if decide (s=([111,102]:Str))=true then B else if decide (s=([97,115]:Str))=true then B else if decide (s=([110,A,119]:Str))=true then B else if decide (s=([114,97,119]:Str))=true then B else if decide (s=([116,114,117,A]:Str))=true then B else if decide (s=([102,97,108,115,A]:Str))=true then B else True/\false=nE s/\True:=by
 conv=>zeta
 refine aa (fun h=>?_) (fun h0=>?_)
 ·rw[Xo h];exact Xr
 refine aa (fun h=>?_) (fun h1=>?_)
 ·rw[Xo h];exact Xr
 refine aa (fun h=>?_) (fun h2=>?_)
 ·rw[Xo h];exact Xr
 refine aa (fun h=>?_) (fun h3=>?_)
 ·rw[Xo h];exact Xr
 refine aa (fun h=>?_) (fun h4=>?_)
 ·rw[Xo h];exact Xr
 refine aa (fun h=>?_) (fun h5=>?_)
 ·rw[Xo h];exact Xr
 refine aa (fun h=>?_) (fun h6=>?_)
 ·rw[Xo h];exact Xr
 refine aa (fun h=>?_) (fun h7=>?_)
 ·rw[Xo h];exact Xr
 refine aa (fun h=>?_) (fun h8=>?_)
 ·rw[Xo h];exact Xr
 refine aa (fun h=>?_) (fun h9=>?_)
 ·rw[Xo h];exact Xr
 refine aa (fun h=>?_) (fun h10=>?_)
 ·rw[Xo h];exact Xr
 refine aa (fun h=>?_) (fun h11=>?_)
 ·rw[Xo h];exact Xr
 refine aa (fun h=>?_) (fun h12=>?_)
 ·rw[Xo h];exact Xr
 refine aa (fun h=>?_) (fun h13=>?_)
 ·rw[Xo h];exact Xr
 refine aa (fun h=>?_) (fun h14=>?_)
 ·rw[Xo h];exact Xr
 refine aa (fun h=>?_) (fun h15=>?_)
 ·rw[Xo h];exact Xr
 refine aa (fun h=>?_) (fun h16=>?_)
 ·rw[Xo h];exact Xr
 refine aa (fun h=>?_) (fun h17=>?_)
 ·rw[Xo h];exact Xr
 refine aa (fun h=>?_) (fun h18=>?_)
 ·rw[Xo h];exact Xr
 refine aa (fun h=>?_) (fun h19=>?_)
 ·rw[Xo h];exact Xr
 refine⟨trivial,?_,trivial⟩;symm;refine Xf fun hm=>?_;unfold Ky at hm;rcases MJ.1 hm with e|hm
 ·exact h0 (Xd e)
 rcases MJ.1 hm with e|hm
 ·exact h1 (Xd e)
 rcases MJ.1 hm with e|hm
 ·exact h2 (Xd e)
 rcases MJ.1 hm with e|hm
 ·exact h3 (Xd e)
 rcases MJ.1 hm with e|hm
 ·exact h4 (Xd e)
 rcases MJ.1 hm with e|hm
 ·exact h5 (Xd e)
 rcases MJ.1 hm with e|hm
 ·exact h6 (Xd e)
 rcases MJ.1 hm with e|hm
 ·exact h7 (Xd e)
 rcases MJ.1 hm with e|hm
 ·exact h8 (Xd e)
 rcases MJ.1 hm with e|hm
 ·exact h9 (Xd e)
 rcases MJ.1 hm with e|hm
 ·exact h10 (Xd e)
 rcases MJ.1 hm with e|hm
 ·exact h11 (Xd e)
 rcases MJ.1 hm with e|hm
 ·exact h12 (Xd e)
 rcases MJ.1 hm with e|hm
 ·exact h13 (Xd e)
 rcases MJ.1 hm with e|hm
 ·exact h14 (Xd e)
 rcases MJ.1 hm with e|hm
 ·exact h15 (Xd e)
 rcases MJ.1 hm with e|hm
 ·exact h16 (Xd e)
 rcases MJ.1 hm with e|hm
 ·exact h17 (Xd e)
 rcases MJ.1 hm with e|hm
 ·exact h18 (Xd e)
 rcases MJ.1 hm with e|hm
 ·exact h19 (Xd e)
 exact absurd hm O5
theorem JS(s:Str)  :
  if cW cn s=true then True/\(!nE s)=az s/\True else True/\false=az s/\True:=by
 unfold az;cases cW cn s<;>simp
theorem Hx(s:Str)  :
  True/\cW cv s=cH s/\True:=by
 simp[cH]
theorem EH(a:List Str)  :
  True/\a=a/\True:=by
 trivial
theorem EI(n:Int)  :
  let A:=(nI n+(7:Int));let B:=(8:Int);inR IntKind.i64 A/\(B≠(0:Int)/\inR IntKind.i64 (Int.tdiv A B))/\True/\Int.tdiv A B=bq n/\True:=by
 conv=>zeta
 have h1:=vV n;have h2:=si n;have e:Int.tdiv (nI n+7) 8=bq n:=rfl;rw[e];exact⟨ai (by omega) (by omega),⟨by omega,ai (by omega) (by omega)⟩,trivial,rfl,trivial⟩
theorem Bb(n:Int)  :
  let A:=True;let B:=(fun(n:Int)=>UInt8.ofNat (Int.toNat n));let C:=(0:Int);let D:=(1:Int);let E:=(1:Nat);let F:=((247:Int)+bq n);let G:=List.replicate (Int.toNat D) C;let H:=mf UInt8=mf UInt8;let I:=bq n=bq n;let J:=(8:Int);let K:=(2:Int);let L:=IntKind.bits IntKind.u64;if decide (n<(248:Int))=true then A/\List.map B [IntKind.wrap IntKind.u8 n]=hZ n/\A else(C<=D/\D<=(9:Int)/\(9:Int)*(↑E:Int)<=(140737488355328:Int))/\inR IntKind.i64 F/\(C<=C/\C<(↑(List.length G):Int))/\(Int.toNat D=Int.toNat D/\Int.toNat C<List.length G)/\inR IntKind.i64 (bq n-D)/\(∃(x:Nat),let M:=Int.toNat D=E+x;(↑x:Int)<=bq n/\bq n-D=bq n-D-(↑x:Int)/\M/\List.length G=List.length (mW n x)/\n=n/\H/\false=false/\I/\M/\List.set G (Int.toNat C) (IntKind.wrap IntKind.u8 F)=mW n x/\A)/\∀(x:Nat),let M:=(↑x:Int);let N:=bq n-D-M;let O:=mW n x;let P:=E+x=E+x/\List.length O=List.length O;let Q:=[IntKind.wrap IntKind.u8 (Int.fdiv n (K ^ min (Int.toNat (J*N)) L))];M<=bq n->if decide (C<=bq n-D-M)=true then inR IntKind.i64 (J*N)/\inR IntKind.u64 (J*N)/\C<=J*N/\(P/\(List.length O+List.length Q)*E<=(140737488355328:Nat))/\inR IntKind.i64 (bq n-D-M-D)/\∃(y:Nat),let R:=E+x+List.length Q=E+y;(↑y:Int)<=bq n/\Int.toNat (bq n)-y<Int.toNat (bq n)-x/\bq n-D-M-D=bq n-D-(↑y:Int)/\R/\List.length (mW n x++Q)=List.length (mW n y)/\n=n/\H/\false=false/\I/\R/\mW n x++Q=mW n y/\A else P/\A/\List.map B O=hZ n/\A:=by
 conv=>zeta
 have hw:=si n;apply aa<;>intro h
 ·replace h:=Xo h;refine⟨trivial,?_,trivial⟩;unfold hZ;rw[Mu h];rfl
 replace h:¬n<248:=fun e=>h (Xd e);refine⟨⟨by omega,by omega,by omega⟩,ai (by omega) (by omega),⟨by omega,by simp⟩,⟨rfl,by simp⟩,ai (by omega) (by omega),⟨0,by omega,by omega,rfl,by simp[jd],rfl,rfl,rfl,rfl,rfl,rfl,trivial⟩,?_⟩;intro x hx;apply aa<;>intro k
 ·replace k:=Xo k;have e:IntKind.wrap IntKind.u8 (Int.fdiv n ((2:Int) ^ min (Int.toNat ((8:Int) *(bq n-(1:Int)-(x:Int)))) (IntKind.bits IntKind.u64)))=CJ n (bq n) x:=rfl;simp only[e];have hl:=jd n x;have hs:=Ej n x;refine⟨ai (by omega) (by omega),⟨by show(0:Int)<=_;omega,by show _<=(18446744073709551615:Int);omega⟩,by omega,⟨⟨by trivial,by trivial⟩,by simp only[Mr];omega⟩,ai (by omega) (by omega),x+1,by omega,by omega,by omega,by simp only[Mr];omega,by rw[hs],by trivial,by trivial,by trivial,by trivial,by simp only[Mr];omega,hs.symm,trivial⟩
 ·replace k:¬(0:Int)<=bq n-1-(x:Int):=fun e=>k (Xd e);refine⟨⟨by trivial,by trivial⟩,trivial,?_,trivial⟩;have e:x=(bq n).toNat:=by omega
  subst e;unfold hZ;rw[Mp h];rfl
theorem Hy(s:Str)(ho:s.length<=140737488355328) :
  let A:=(↑(List.length s):Int);inR IntKind.u64 A/\List.length (hZ A)+List.length s<=(9223372036854775807:Nat)/\True/\hZ A++s=dj s/\True:=by
 conv=>zeta
 have h9:=lS (s.length:Int);exact⟨⟨by show(0:Int)<=_;omega,by show _<=(18446744073709551615:Int);omega⟩,by omega,trivial,rfl,trivial⟩
theorem Hz(l:List Str)(hl:Wf (.lst .str) l)(ho:(iN l).length<=140737488355328) :
  let A:=(↑(List.length l):Int);let B:=(140737488355328:Nat);let C:=mf UInt8=mf UInt8;let D:=dfl Ty.str;inR IntKind.u64 A/\List.length ([]:Str)+List.length (hZ A)<=B/\(∃(x:Nat),x<=List.length l/\(0:Int)=(↑x:Int)/\l=l/\C/\l=l/\A=A/\([]:Str)++hZ A=hZ A++List.flatMap dj (List.take x l)/\True)/\∀(x:Nat),let E:=(↑x:Int);let F:=List.getD l (Int.toNat E) D;let G:=List.take x l;let H:=hZ A++List.flatMap dj G;x<=List.length l->if decide (E<A)=true then((0:Int)<=E/\E<A)/\List.length F<=B/\List.length H+List.length (dj F)<=B/\inR IntKind.i64 (E+(1:Int))/\∃(y:Nat),y<=List.length l/\List.length l-y<List.length l-x/\E+(1:Int)=(↑y:Int)/\l=l/\C/\l=l/\A=A/\hZ A++List.flatMap dj G++dj F=hZ A++List.flatMap dj (List.take y l)/\True else List.length H<=b9/\True/\hZ A++List.flatMap dj G=iN l/\True:=by
 conv=>zeta
 have ln:=hl.len
 have e:∀x,x<=l.length->(hZ (l.length:Int)++(l.take x).flatMap dj).length<=140737488355328:=fun x hx=>by
  have h1:(iN l).length=(hZ (l.length:Int)++(l.take x).flatMap dj).length+((l.drop x).flatMap dj).length:=by unfold iN;rw[<-Mq,MH,<-P1,OM]
  omega
 have h0:=e 0 (ME _);simp only[Od,List.flatMap_nil,Ny]at h0;refine⟨⟨by show(0:Int)<=_;omega,by show _<=(18446744073709551615:Int);omega⟩,by simpa using h0,⟨0,ME _,rfl,rfl,rfl,rfl,rfl,by simp,trivial⟩,?_⟩;intro x hx;apply aa<;>intro k
 ·replace k:=Xo k;have k:x<l.length:=by omega
  have hg:l.take (x+1)=l.take x++[l.getD x []]:=by rw[List.take_add_one,Mn k];simp[k]
  have he:=e (x+1) k;rw[hg,P1,<-MH,Mq]at he;simp only[NN,List.flatMap_nil,Ny]at he;simp only[Mv];have ht:(dj (l.getD x [])).length=(hZ ((l.getD x []).length:Int)).length+(l.getD x []).length:=by unfold dj;rw[Mq]
  have hd:l.getD x (dfl Ty.str)=l.getD x []:=rfl;rw[hd];refine⟨⟨by omega,by omega⟩,by omega,he,bu k ln,x+1,k,by omega,rfl,by trivial,by trivial,by trivial,by trivial,?_,trivial⟩;rw[hg,P1,<-MH];simp only[NN,List.flatMap_nil,Ny]
 ·replace k:¬(x:Int)<(l.length:Int):=fun q=>k (Xd q);have k:x=l.length:=by omega
  subst k;have he:=e l.length (Mx _);rw[NS]at he⊢;exact⟨NA he (by unfold b9;omega),trivial,rfl,trivial⟩
theorem HA(s:Str)(p:Int)(b:Bool)(ho:AtS s p/\s.length<=9223372036854775807) :
  let A:=(↑(List.length s):Int);let B:=bB s p b;let C:=(1:Int);if decide (p=A)=true then True/\(0:Int)=B.1/\p=B.2.1/\s=s/\true=B.2.2/\True else inR IntKind.i64 (p+C)/\inR IntKind.i64 (p+C-C)/\((0:Int)<=p+C-C/\p+C-C<A)/\True/\(↑(UInt8.toNat (List.getD s (Int.toNat (p+C-C)) (0:UInt8))):Int)=B.1/\p+C=B.2.1/\s=s/\b=B.2.2/\True:=by
 conv=>zeta
 obtain⟨⟨h1,h2⟩,ln⟩:=ho;unfold bB;apply aa<;>intro h
 ·replace h:=Xo h;rw[Mu h];exact Xr
 ·replace h:¬p=(s.length:Int):=fun q=>h (Xd q);rw[Mp h];have e:p+1-1=p:=by omega
  simp only[e];exact⟨ai (by omega) (by omega),ai (by omega) (by omega),⟨by omega,by omega⟩,trivial,rfl,by repeat' (first|exact trivial|rfl|apply And.intro)⟩
theorem HC(s:Str)(p:Int)(hs:Wf .str s) :
  if decide (p<(0:Int))=true then True/\(0:Int)=(aN s p).1/\(0:Int)=(aN s p).2.1/\(2:Int)=(aN s p).2.2/\True else if decide ((↑(List.length s):Int)<p)=true then True/\(0:Int)=(aN s p).1/\(0:Int)=(aN s p).2.1/\(2:Int)=(aN s p).2.2/\True else(AtS s p/\List.length s<=(9223372036854775807:Nat))/\inR IntKind.u64 (bB s p false).1/\(if decide ((248:Int)<=(bB s p false).1)=true then inR IntKind.i64 (bB s p false).1/\inR IntKind.i64 ((bB s p false).1-(248:Int))/\inR IntKind.i64 ((bB s p false).1-(248:Int)+(1:Int))/\(0:Int)=bX (an s p).1/\(bB s p false).1-(248:Int)+(1:Int)=bZ (an s p).1/\s=s/\p=p/\(0:Int)=(0:Int)/\(0:Int)=(0:Int)/\(0:Int)=(0:Int)/\false=false/\(bB s p false).1=(bB s p false).1/\s=s/\(bB s p false).2.1=(bB s p false).2.1/\(bB s p false).2.2=(bB s p false).2.2/\True else(bB s p false).1=bX (an s p).1/\(0:Int)=bZ (an s p).1/\s=s/\p=p/\(0:Int)=(0:Int)/\(0:Int)=(0:Int)/\(0:Int)=(0:Int)/\false=false/\(bB s p false).1=(bB s p false).1/\s=s/\(bB s p false).2.1=(bB s p false).2.1/\(bB s p false).2.2=(bB s p false).2.2/\True)/\(∃(x:Nat),(↑x:Int)<=bZ (an s p).1/\(0:Int)=(↑x:Int)/\bX (an s p).1=(cq s x (bX (an s p).1,(an s p).2.1,(an s p).2.2)).1/\bZ (an s p).1=bZ (an s p).1/\s=s/\p=p/\(0:Int)=(0:Int)/\(0:Int)=(0:Int)/\(0:Int)=(0:Int)/\false=false/\(bB s p false).1=(bB s p false).1/\bZ (an s p).1=bZ (an s p).1/\(bB s p false).2.1=(cq s x (bX (an s p).1,(an s p).2.1,(an s p).2.2)).2.1/\(bB s p false).2.2=(cq s x (bX (an s p).1,(an s p).2.1,(an s p).2.2)).2.2/\s=s/\True)/\∀(x:Nat),(↑x:Int)<=bZ (an s p).1->if decide ((↑x:Int)<bZ (an s p).1)=true then(0:Int)<=(8:Int)/\(AtS s (cq s x (bX (an s p).1,(an s p).2.1,(an s p).2.2)).2.1/\List.length s<=(9223372036854775807:Nat))/\inR IntKind.u64 (bB s (cq s x (bX (an s p).1,(an s p).2.1,(an s p).2.2)).2.1 (cq s x (bX (an s p).1,(an s p).2.1,(an s p).2.2)).2.2).1/\inR IntKind.i64 ((↑x:Int)+(1:Int))/\∃(y:Nat),(↑y:Int)<=bZ (an s p).1/\Int.toNat (bZ (an s p).1)-y<Int.toNat (bZ (an s p).1)-x/\(↑x:Int)+(1:Int)=(↑y:Int)/\IntKind.wrap IntKind.u64 (↑(BitVec.toNat (BitVec.ofInt (IntKind.bits IntKind.u64) (IntKind.wrap IntKind.u64 ((cq s x (bX (an s p).1,(an s p).2.1,(an s p).2.2)).1 *(2:Int) ^ min (Int.toNat (8:Int)) (IntKind.bits IntKind.u64))) ||| BitVec.ofInt (IntKind.bits IntKind.u64) (bB s (cq s x (bX (an s p).1,(an s p).2.1,(an s p).2.2)).2.1 (cq s x (bX (an s p).1,(an s p).2.1,(an s p).2.2)).2.2).1)):Int)=(cq s y (bX (an s p).1,(an s p).2.1,(an s p).2.2)).1/\bZ (an s p).1=bZ (an s p).1/\s=s/\p=p/\(0:Int)=(0:Int)/\(0:Int)=(0:Int)/\(0:Int)=(0:Int)/\false=false/\(bB s p false).1=(bB s p false).1/\bZ (an s p).1=bZ (an s p).1/\(bB s (cq s x (bX (an s p).1,(an s p).2.1,(an s p).2.2)).2.1 (cq s x (bX (an s p).1,(an s p).2.1,(an s p).2.2)).2.2).2.1=(cq s y (bX (an s p).1,(an s p).2.1,(an s p).2.2)).2.1
  /\(bB s (cq s x (bX (an s p).1,(an s p).2.1,(an s p).2.2)).2.1 (cq s x (bX (an s p).1,(an s p).2.1,(an s p).2.2)).2.2).2.2=(cq s y (bX (an s p).1,(an s p).2.1,(an s p).2.2)).2.2/\s=s/\True else if(cq s x (bX (an s p).1,(an s p).2.1,(an s p).2.2)).2.2=true then True/\(0:Int)=(aN s p).1/\(0:Int)=(aN s p).2.1/\(10:Int)=(aN s p).2.2/\True else if decide ((0:Int)<bZ (an s p).1)=true then if decide ((cq s x (bX (an s p).1,(an s p).2.1,(an s p).2.2)).1<(248:Int))=true then True/\(0:Int)=(aN s p).1/\(0:Int)=(aN s p).2.1/\(11:Int)=(aN s p).2.2/\True else if(!decide (bq (cq s x (bX (an s p).1,(an s p).2.1,(an s p).2.2)).1=bZ (an s p).1))=true then True/\(0:Int)=(aN s p).1/\(0:Int)=(aN s p).2.1/\(11:Int)=(aN s p).2.2/\True else True/\(cq s x (bX (an s p).1,(an s p).2.1,(an s p).2.2)).1=(aN s p).1/\(cq s x (bX (an s p).1,(an s p).2.1,(an s p).2.2)).2.1=(aN s p).2.1/\(0:Int)=(aN s p).2.2/\True else True/\(cq s x (bX (an s p).1,(an s p).2.1,(an s p).2.2)).1=(aN s p).1/\(cq s x (bX (an s p).1,(an s p).2.1,(an s p).2.2)).2.1=(aN s p).2.1/\(0:Int)=(aN s p).2.2/\True:=by
 have ln:=hs.str;have eT:∀(a b:Int)(c:Prop),True/\a=b/\c↔a=b/\c:=fun _ _ _=>⟨fun h=>h.2,fun h=>⟨trivial,h⟩⟩;have bad:p<0∨(s.length:Int)<p->aN s p=(0,0,2):=fun h=>by unfold aN;rw[Mu h]
 apply aa<;>intro h
 ·rw[bad (.inl (Xo h))];exact Xr
 replace h:¬p<0:=fun q=>h (Xd q);apply aa<;>intro h2
 ·rw[bad (.inr (Xo h2))];exact Xr
 replace h2:¬(s.length:Int)<p:=fun q=>h2 (Xd q);have ha:AtS s p:=⟨by omega,by omega⟩;obtain⟨b1,b2,b3,b4,b5⟩:=qo (b:=false) ha;have hK:0<=bZ (an s p).1/\bZ (an s p).1<=8:=by unfold bZ an;split<;>omega
 refine⟨⟨ha,ln⟩,⟨by show(0:Int)<=_;omega,by show _<=(18446744073709551615:Int);omega⟩,aa (fun k=>?_) (fun k=>?_),⟨0,hK.1,rfl,rfl,rfl,rfl,rfl,rfl,rfl,rfl,rfl,rfl,rfl,rfl,rfl,rfl,trivial⟩,?_⟩
 ·replace k:=Xo k;refine⟨ai (by omega) (by omega),ai (by omega) (by omega),ai (by omega) (by omega),?_,?_,rfl,rfl,rfl,rfl,rfl,rfl,rfl,rfl,rfl,rfl,trivial⟩
  ·unfold bX an;rw[Mu k]
  ·unfold bZ an;rw[Mu k];omega
 ·replace k:¬248<=(bB s p false).1:=fun q=>k (Xd q);refine⟨?_,?_,rfl,rfl,rfl,rfl,rfl,rfl,rfl,rfl,rfl,rfl,trivial⟩
  ·unfold bX an;rw[Mp k]
  ·unfold bZ an;rw[Mp k]
 intro x hx;obtain⟨c1,c2,c3,c4⟩:=vW x (bX (an s p).1,(an s p).2.1,(an s p).2.2) b4 (CK b1);have d:=qo (b:=(cq s x (bX (an s p).1,(an s p).2.1,(an s p).2.2)).2.2) c2;apply aa<;>intro k
 ·replace k:=Xo k;exact⟨by omega,⟨c2,ln⟩,⟨by show(0:Int)<=_;omega,by show _<=(18446744073709551615:Int);omega⟩,ai (by omega) (by omega),x+1,by omega,by omega,by omega,rfl,rfl,rfl,rfl,rfl,rfl,rfl,rfl,rfl,rfl,rfl,rfl,rfl,trivial⟩
 replace k:¬(x:Int)<bZ (an s p).1:=fun q=>k (Xd q);have ex:x=(bZ (an s p).1).toNat:=by omega
 subst ex;have e2:cq s (bZ (an s p).1).toNat (bX (an s p).1,(an s p).2.1,(an s p).2.2)=iO s p:=rfl;rw[e2];have e:aN s p=if(iO s p).2.2=true then(0,0,10)else if 0<bZ (an s p).1/\((iO s p).1<248∨bq (iO s p).1≠bZ (an s p).1)then(0,0,11)else((iO s p).1,(iO s p).2.1,0):=by unfold aN;rw[Mp (by omega)]
 rw[e];apply aa<;>intro q
 ·rw[Mu q];exact Xr
 rw[Mp q];apply aa<;>intro r
 ·replace r:=Xo r;apply aa<;>intro t
  ·rw[Mu ⟨r,.inl (Xo t)⟩];exact Xr
  replace t:¬(iO s p).1<248:=fun q=>t (Xd q);apply aa<;>intro u
  ·have u:¬bq (iO s p).1=bZ (an s p).1:=by simpa using u
   rw[Mu ⟨r,.inr u⟩];exact Xr
  ·have u:bq (iO s p).1=bZ (an s p).1:=by simpa using u
   rw[Mp (fun z=>z.2.elim t (fun z=>z u))];exact Xr
 ·replace r:¬0<bZ (an s p).1:=fun q=>r (Xd q);rw[Mp (fun z=>r z.1)];exact Xr
theorem EJ(s:Str)(p:Int)(hs:Wf .str s) :
  let A:=aN s p;let B:=(0:Int);let C:=True;let D:=cA s p;let E:=(↑(List.length s):Int);let F:=E-A.2.1;let G:=A.2.1+A.1;if(!decide (A.2.2=B))=true then C/\[]=D.1/\B=D.2.1/\A.2.2=D.2.2/\C else inR IntKind.i64 F/\inR IntKind.u64 F/\if decide (E-A.2.1<A.1)=true then C/\[]=D.1/\B=D.2.1/\(10:Int)=D.2.2/\C else inR IntKind.i64 A.1/\inR IntKind.i64 G/\(B<=A.2.1/\A.2.1<=A.2.1+A.1/\A.2.1+A.1<=E)/\C/\List.drop (Int.toNat A.2.1) (List.take (Int.toNat G) s)=D.1/\A.2.1+A.1=D.2.1/\B=D.2.2/\C:=by
 conv=>zeta
 have ln:=hs.str;obtain⟨h1,h2,h3⟩:=lT s p;unfold cA;apply aa<;>intro h
 ·have h:(aN s p).2.2≠0:=by simpa using h
  rw[Mu h];exact Xr
 have h:(aN s p).2.2=0:=by simpa using h
 obtain⟨a1,a2,a3⟩:=h3 h;rw[Mp (show ¬(aN s p).2.2≠0 from fun q=>q h)];unfold AtS InU at *
 refine⟨ai (by omega) (by omega),⟨by show(0:Int)<=_;omega,by show _<=(18446744073709551615:Int);omega⟩,aa (fun k=>?_) (fun k=>?_)⟩
 ·rw[Mu (Xo k)];exact Xr
 have k:¬(s.length:Int)-(aN s p).2.1<(aN s p).1:=fun q=>k (Xd q);rw[Mp k];exact⟨ai (by omega) (by omega),ai (by omega) (by omega),⟨by omega,by omega,by omega⟩,trivial,rfl,rfl,rfl,trivial⟩
theorem EK(s:Str)(p:Int)(hs:Wf .str s)(ho:s.length<=1099511627776) :
  let A:=aN s p;let B:=(0:Int);let C:=True;let D:=dy s p;let E:=(↑(List.length s):Int);let F:=(1:Int);let G:=A.2.2=A.2.2;if(!decide (A.2.2=B))=true then C/\D.1=[]/\B=D.2.1/\A.2.2=D.2.2/\C else(∃(x:Nat×Int×List Str×Int),(AtS s x.2.2.2/\E+F<=(↑x.1:Int)+x.2.2.2/\InU x.2.1/\(↑(wL x.2.2.1):Int)<=x.2.2.2/\fA s x.1 x.2.1 x.2.2.1 x.2.2.2=dy s p)/\A.1=x.2.1/\x.2.2.1=[]/\A.2.1=x.2.2.2/\s=s/\G/\false=false/\List.length x.2.2.1=(0:Nat)/\C)/\∀(x:Nat×Int×List Str×Int),let H:=cA s x.2.2.2;AtS s x.2.2.2/\E+F<=(↑x.1:Int)+x.2.2.2/\InU x.2.1/\(↑(wL x.2.2.1):Int)<=x.2.2.2/\fA s x.1 x.2.1 x.2.2.1 x.2.2.2=dy s p->if decide (B<x.2.1)=true then if(!decide (H.2.2=B))=true then C/\D.1=[]/\B=D.2.1/\H.2.2=D.2.2/\C else(List.length x.2.2.1=List.length x.2.2.1/\(List.length x.2.2.1+List.length [H.1])*(16:Nat)<=(140737488355328:Nat))/\inR IntKind.u64 (x.2.1-F)/\∃(y:Nat×Int×List Str×Int),(AtS s y.2.2.2/\E+F<=(↑y.1:Int)+y.2.2.2/\InU y.2.1/\(↑(wL y.2.2.1):Int)<=y.2.2.2/\fA s y.1 y.2.1 y.2.2.1 y.2.2.2=dy s p)/\y.1<x.1/\x.2.1-F=y.2.1/\x.2.2.1++[H.1]=y.2.2.1/\H.2.1=y.2.2.2/\s=s/\G/\false=false/\List.length (x.2.2.1++[H.1])=List.length y.2.2.1/\C else C/\x.2.2.1=D.1/\x.2.2.2=D.2.1/\B=D.2.2/\C:=by
 conv=>zeta
 have ln:=hs.str;obtain⟨h1,h2,h3⟩:=lT s p;apply aa<;>intro h
 ·have h:(aN s p).2.2≠0:=by simpa using h
  unfold dy;rw[Mu h];exact Xr
 have h:(aN s p).2.2=0:=by simpa using h
 obtain⟨a1,a2,a3⟩:=h3 h;refine⟨⟨(s.length+1,(aN s p).1,[],(aN s p).2.1),⟨a2,by unfold AtS at a2;simp only;omega,h1,by unfold AtS at a2;simp only[wL,O8,PL];omega,by unfold dy;rw[Mp (by simp[h])]⟩,rfl,rfl,rfl,rfl,rfl,rfl,rfl,trivial⟩,?_⟩;rintro⟨k,n,acc,q⟩ ⟨g1,g2,g3,g4,g5⟩;simp only at g1 g2 g3 g4 g5⊢;obtain⟨t1,t2,t3⟩:=nK s q;have hw:=Ek acc
 cases k with
 |zero=>unfold AtS at g1;omega
 |succ k=>
 unfold fA at g5;apply aa<;>intro r
 ·replace r:=Xo r;rw[Mu r]at g5;apply aa<;>intro u
  ·have u:(cA s q).2.2≠0:=by simpa using u
   rw[Mu u]at g5;rw[<-g5];exact Xr
  ·have u:(cA s q).2.2=0:=by simpa using u
   rw[Mp (by simp[u])]at g5;obtain⟨v1,v2,v3⟩:=t1 u;unfold AtS InU at *
   refine⟨⟨trivial,by simp only[Mr];omega⟩,⟨by show(0:Int)<=_;omega,by show _<=(18446744073709551615:Int);omega⟩,(k,n-1,acc++[(cA s q).1],(cA s q).2.1),⟨v2,by simp only;omega,by simp only;omega,?_,g5⟩,by simp,by repeat' (first|exact trivial|rfl|apply And.intro)⟩;simp only[GK];simp[wL]at g4⊢;omega
 ·replace r:=fun z=>r (Xd z);rw[Mp r]at g5;rw[<-g5];exact Xr
theorem EL(l:List Str)(ho:l.length *16<=140737488355328) :
  let A:=(↑(List.length l):Int);let B:=l=l/\l=l/\A=A/\True;let C:=(List.mergeSort l fun(x y:Str)=>decide (x<=y));(∃(x:Nat),(x<=List.length l/\List.all l az=List.all (List.drop x l) az)/\(0:Int)=(↑x:Int)/\B)/\∀(x:Nat),let D:=(↑x:Int);x<=List.length l/\List.all l az=List.all (List.drop x l) az->if decide (D<A)=true then((0:Int)<=D/\D<A)/\if(!az (List.getD l (Int.toNat D) (dfl Ty.str)))=true then True/\false=eG l/\True else inR IntKind.i64 (D+(1:Int))/\∃(y:Nat),(y<=List.length l/\List.all l az=List.all (List.drop y l) az)/\List.length l-y<List.length l-x/\D+(1:Int)=(↑y:Int)/\B else List.length l*(16:Nat)<=(140737488355328:Nat)/\List.length C=List.length C/\True/\decide ((↑(List.length (Lib.compact C)):Int)=A)=eG l/\True:=by
 conv=>zeta
 have hc:=iL l;unfold fN at hc;refine⟨⟨0,⟨ME _,by simp⟩,rfl,rfl,rfl,rfl,trivial⟩,?_⟩;rintro k ⟨h1,h2⟩;apply aa<;>intro h
 ·replace h:=Xo h;have h:k<l.length:=by omega
  simp only[Mv];rw[aU l k (dfl Ty.str) h,NK]at h2;refine⟨⟨by omega,by omega⟩,aa (fun m=>?_) (fun m=>?_)⟩
  ·have m:az (l.getD k (dfl Ty.str))=false:=by simpa using m
   rw[m,Og]at h2;refine⟨trivial,?_,trivial⟩;unfold eG;rw[h2];rfl
  ·have m:az (l.getD k (dfl Ty.str))=true:=by simpa using m
   rw[m,MU]at h2;exact⟨ai (by omega) (by omega),k+1,⟨h,h2⟩,by omega,by omega,by repeat' (first|exact trivial|rfl|apply And.intro)⟩
 ·replace h:¬(k:Int)<(l.length:Int):=fun q=>h (Xd q);have h:k=l.length:=by omega
  subst h;rw[MX]at h2;refine⟨ho,rfl,trivial,?_,trivial⟩;unfold eG;rw[h2,List.all_nil,MU,Nn,<-hc];omega
theorem Bc(o:Opn)(ho:o.names.length *16<=140737488355328) :
  let A:=o=o;let B:=false=false;let C:=o.kind=o.kind;let D:=A/\True;let E:=B/\B/\C/\D;let F:=A/\B/\B/\E;let G:=true=is8 o.kind/\F;let H:=(↑(List.length o.names):Int);let I:=H=toN o;let J:=true=true;let K:=(0:Int);let L:=J/\A/\B/\decide (K<=o.n)=decide (K<=o.n)/\E;let M:=K=toN o;let N:=True/\false=lU o/\True;let O:=if decide ((↑(List.length o.tos):Int)=toN o)=true then True/\decide (K<=o.pos)=lU o/\True else N;let P:=if decide (H=K)=true then O else N;let Q:=if(!decide (o.name=[]))=true then N else if decide ((17:Int)<=o.kind)=true then N else if decide (o.kind=(9:Int))=true then N else if decide (o.kind=(10:Int))=true then N else P;let R:=if(!decide (o.n=K))=true then N else if decide (o.kind=(3:Int))=true then N else if decide (o.kind=(5:Int))=true then N else Q;let S:=B/\B/\C/\J/\D;let T:=B/\A/\B/\J/\S;let U:=B/\A/\B/\decide (o.n=(1:Int))=decide (o.n=(1:Int))/\S;let V:=B/\A/\B/\decide (o.n=(110:Int))=decide (o.n=(110:Int))/\B/\B/\C/\B/\J/\D;let W:=B/\B/\J/\D;let X:=B/\A/\B/\B/\J/\B/\C/\W;let Y:=C/\B/\B/\B/\D;let Z:=B/\A/\B/\B/\B/\B/\Y;let a:=J/\B/\A/\B/\B/\az o.name=az o.name/\B/\Y;let b:=J/\B/\B/\A/\B/\B/\cH o.name=cH o.name/\B/\Y;let c:=J/\B/\B/\B/\A/\B/\B/\B/\eG o.names=eG o.names/\Y;let d:=B/\B/\B/\B/\A/\B/\B/\B/\B/\C/\B/\W;(if decide (o.kind=(1:Int))=true then G else if decide (o.kind=(4:Int))=true then G else if decide (o.kind=(6:Int))=true then G else if decide (o.kind=(7:Int))=true then G else if decide (o.kind=(11:Int))=true then G else if decide (o.kind=(13:Int))=true then G else if decide (o.kind=(14:Int))=true then G else decide (o.kind=(15:Int))=is8 o.kind/\F)/\if is8 o.kind=true then(if decide (o.kind=(16:Int))=true then I/\L else M/\L)/\if(!decide (K<=o.n))=true then R else Q else if decide (o.kind=(3:Int))=true then if decide (o.n=K)=true then(if decide (o.kind=(16:Int))=true then I/\T else M/\T)/\Q else(if decide (o.kind=(16:Int))=true then I/\U else M/\U)/\if(!decide (o.n=(1:Int)))=true then R else Q else if decide (o.kind=(5:Int))=true then(if decide (o.kind=(16:Int))=true then I/\V else M/\V)/\if(!decide (o.n=(110:Int)))=true then R else Q else if decide (o.kind=(2:Int))=true then(if decide (o.kind=(16:Int))=true then I/\X else M/\X)/\if(!decide (o.n=K))=true then N else if decide (o.kind=(3:Int))=true then N else if decide (o.kind=(5:Int))=true then N else P else(if decide (o.kind=(9:Int))=true then true=isB o.kind/\Z else decide (o.kind=(10:Int))=isB o.kind/\Z)/\if isB o.kind=true then(if decide (o.kind=(16:Int))=true then I/\a else M/\a)/\if(!decide (o.n=K))=true then N else if decide (o.kind=(3:Int))=true then N else if decide (o.kind=(5:Int))=true then N else if(!az o.name)=true then Q else P else(if decide (o.kind=(17:Int))=true then true=isU o.kind/\B/\Z else decide (o.kind=(18:Int))=isU o.kind/\B/\Z)/\if isU o.kind=true then(if decide (o.kind=(16:Int))=true then I/\b else M/\b)/\if(!decide (o.n=K))=true then N else if decide (o.kind=(3:Int))=true then N else if decide (o.kind=(5:Int))=true then N else if(!cH o.name)=true then Q else P else(if decide (o.kind=(8:Int))=true then true=isR o.kind/\B/\B/\Z else decide (o.kind=(16:Int))=isR o.kind/\B/\B/\Z)/\if isR o.kind=true then List.length o.names*(16:Nat)<=(140737488355328:Nat)/\(if decide (o.kind=(16:Int))=true then I/\c else M/\c)/\if(!decide (o.n=K))=true then N else if decide (o.kind=(3:Int))=true then N else if decide (o.kind=(5:Int))=true then N else if(!decide (o.name=[]))=true then N else if decide ((17:Int)<=o.kind)=true then N else if decide (o.kind=(9:Int))=true then N else if decide (o.kind=(10:Int))=true then N else if eG o.names=true then O else P else if decide (o.kind=(12:Int))=true then(if decide (o.kind=(16:Int))=true then I/\d else M/\d)/\R else N:=by
 conv=>zeta
 repeat' (first|exact trivial|rfl|apply aa<;>intro _|refine And.intro ?_ ?_)
 all_goals (simp_all [lU,nM,is8,isB,isU,isR,toN]<;>omega)
theorem HD(o:Opn)  :
  let A:=(1:Int);let B:=(0:Int);let C:=B=B;let D:=o.kind=o.kind;let E:=True;let F:=o=o/\C/\C/\D/\o=o/\E;let G:=true=is6 o.kind/\F;let H:=jI o;let I:=A=H.2/\E;let J:=(↑(List.length o.names):Int);let K:=false=false;let L:=K/\K/\K/\o=o/\E;let M:=K/\o=o/\C/\C/\D/\L;let N:=true=is4 o.kind/\M;let O:=E/\A=H.1/\I;let P:=B=H.2/\E;let Q:=E/\A=H.1/\P;let R:=K/\K/\o=o/\C/\C/\D/\K/\L;(if decide (o.kind=A)=true then G else if decide (o.kind=(2:Int))=true then G else if decide (o.kind=(3:Int))=true then G else if decide (o.kind=(4:Int))=true then G else if decide (o.kind=(6:Int))=true then G else decide (o.kind=(5:Int))=is6 o.kind/\F)/\if is6 o.kind=true then E/\B=H.1/\I else if decide (o.kind=(7:Int))=true then E/\IntKind.wrap IntKind.i64 (o.n+A)=H.1/\I else if decide (o.kind=(8:Int))=true then E/\J=H.1/\I else if decide (o.kind=(11:Int))=true then E/\o.n=H.1/\I else(if decide (o.kind=(9:Int))=true then N else if decide (o.kind=(10:Int))=true then N else if decide (o.kind=(17:Int))=true then N else decide (o.kind=(18:Int))=is4 o.kind/\M)/\if is4 o.kind=true then O else if decide (o.kind=(16:Int))=true then if decide (J=B)=true then O else Q else(if decide (o.kind=(12:Int))=true then true=is2 o.kind/\R else decide (o.kind=(14:Int))=is2 o.kind/\R)/\if is2 o.kind=true then Q else E/\B=H.1/\P:=by
 conv=>zeta
 repeat' (first|exact trivial|rfl|apply aa<;>intro _|refine And.intro ?_ ?_)
 all_goals simp_all [jI,is6,is4,is2]
theorem HE(l:List Stt)(n:Nat)(tgt:Int)(s:Stt)(ho:0<=tgt/\tgt<n/\n=l.length) :
  let A:=((0:Int)<=tgt/\tgt<(↑n:Int));let B:=Int.toNat tgt<List.length l;let C:=Int.toNat tgt;let D:=dfl (Ty.st SN.stt);let E:=List.getD l C D;let F:=List.set l C s;let G:=List.getD F C D;A/\B/\if decide (E.things<(0:Int))=true then A/\B/\A/\Int.toNat tgt<List.length F/\True/\(decide (G.things=s.things)&&(decide (G.names=s.names)&&true))=dm l tgt s/\n=n/\List.set l C s=cY l tgt s/\True else A/\B/\True/\(decide (E.things=s.things)&&(decide (E.names=s.names)&&true))=dm l tgt s/\n=n/\l=cY l tgt s/\True:=by
 conv=>zeta
 obtain⟨h1,h2,h3⟩:=ho;have hb:∀x y:Stt,(decide (x.things=y.things)&&(decide (x.names=y.names)&&true))=pY x y:=fun x y=>by unfold pY;simp
 have hd:dfl (Ty.st SN.stt)=(default:Stt):=rfl;simp only[hb,hd];refine⟨⟨h1,h2⟩,by omega,aa (fun k=>?_) (fun k=>?_)⟩
 ·replace k:=Xo k;have e:cY l tgt s=l.set tgt.toNat s:=by unfold cY;rw[Mu k]
  unfold dm;rw[e];exact⟨⟨h1,h2⟩,by omega,⟨h1,h2⟩,by simp;omega,trivial,rfl,by repeat' (first|exact trivial|rfl|apply And.intro)⟩
 ·replace k:¬(l.getD tgt.toNat default).things<0:=fun q=>k (Xd q);have e:cY l tgt s=l:=by unfold cY;rw[Mp k]
  unfold dm;rw[e];exact⟨⟨h1,h2⟩,by omega,trivial,rfl,by repeat' (first|exact trivial|rfl|apply And.intro)⟩
theorem EM(code:List Chnk)(k:Int)(bs:List Stt)(n:Nat)(ho:Jd code k bs n) :
  let A:=(0:Int);let B:=(↑(List.length code):Int);let C:=(↑n:Int);let D:=Int.toNat k;let E:=dfl (Ty.st SN.chunk);let F:=List.getD code D E;let G:=(↑(List.length F.ops):Int);let H:=(1:Int);let I:=G+H;let J:=(1:Nat);let K:=k=k;let L:=false=false;let M:=F.ops=F.ops;let N:=(↑(Int.toNat I):Int);let O:=N=N;let P:=cC code k+J;let Q:=code=code;let R:=n=n;let S:=dfl (Ty.st SN.stt);let T:=List.getD bs D S=List.getD bs D S;let U:=Int.toNat I=Int.toNat I;let V:=True;let W:=Q/\R/\bs=bs/\T/\U/\V;let X:=List.getD bs D S;let Y:=dt code k bs;let Z:=false=Y.1;let a:=List.getD bs D default;let b:=cC code k;let c:=iu code k;let d:=G=G;let e:=Q/\R/\T/\U/\V;let f:=dfl (Ty.st SN.op);let g:=true=true;let h:=dfl (Ty.int IntKind.i64);(A<=k/\k<B)/\(A<=k/\k<C)/\Int.toNat k<List.length bs/\inR IntKind.i64 I/\(A<=G+H/\G+H<=G+H/\I*(↑(16:Nat):Int)<=(140737488355328:Int))/\(∃(x:Nat),x<=cC code k+J/\A=(↑x:Int)/\K/\L/\M/\O/\List.replicate (Int.toNat I) {things:=A,names:=A:Stt}=gn P x/\W)/\∀(x:Nat),let i:=(↑x:Int);let j:=gn P x;let l:=i=i;x<=cC code k+J->if decide (i<N)=true then(A<=i/\i<N)/\Int.toNat i<List.length j/\inR IntKind.i64 (i+H)/\∃(y:Nat),y<=cC code k+J/\cC code k+J-y<cC code k+J-x/\i+H=(↑y:Int)/\K/\L/\M/\O/\List.set j (Int.toNat i) {things:=(-1:Int),names:=(List.getD j (Int.toNat i) S).names:Stt}=gn P y/\W else(A<=A/\A<N/\Int.toNat I=List.length j)/\if(!dm j A X)=true then V/\Z/\Q/\R/\bs=Y.2/\V else(∃(x_1:Nat×List Stt×List Stt),let m:=(↑x_1.1:Int);(x_1.1<=cC code k/\List.length x_1.2.1=cC code k+J/\List.length x_1.2.2=List.length code/\kF code k a b (List.drop x_1.1 c.ops) m x_1.2.1 x_1.2.2=dt code k bs)/\A=m/\l/\K/\M/\O/\L/\L/\M/\d/\cY j A X=x_1.2.1/\bs=x_1.2.2/\e)/\∀(x_1:Nat×List Stt×List Stt),let m:=(↑x_1.1:Int);let o:=Int.toNat m;let p:=List.getD x_1.2.1 o S;let q:=Q/\R/\x_1.2.2=Y.2/\V;let r:=V/\Z/\q;let s:=List.getD F.ops o f;let t:=jI s;let u:=List.getD c.ops o default;let v:=m=m;let w:=t.1=t.1;let z:=t.2=t.2;let A0:=p.things+IntKind.wrap IntKind.i64 (t.2-t.1);let A1:=sF b m u x_1.2.1;let A2:=IntKind.wrap IntKind.i64 A0=A1.things;let A3:=p.names=A1.names;let A4:=x_1.2.1=lF b m u x_1.2.1;let A5:=List.getD F.ops o f=List.getD F.ops o f;let A6:=Q/\R/\T/\U/\A5/\V;let A7:=x_1.2.2=bF code k a b m u x_1.2.1 x_1.2.2/\A6;let A8:=v/\v/\l/\K/\M/\O/\L/\L/\M/\d/\g/\w/\z/\L/\A2/\A3/\A4/\A7;let A9:=A<=s.n;let B0:=A9/\s.n<C;let B1:=Int.toNat s.n<List.length x_1.2.2;let B2:=Int.toNat s.n;let B3:=List.getD x_1.2.2 B2 S;let B4:=p.names+(List.getD code B2 E).args;let B5:=true=gF code k a b m u x_1.2.1 x_1.2.2;let B6:=B0/\B1/\B5/\v/\v/\l/\K/\M/\O/\L/\L/\M/\d/\g/\w/\z/\L/\A2/\A3/\A4/\List.set x_1.2.2 B2 {things:=A,names:=IntKind.wrap IntKind.i64 B4:Stt}=bF code k a b m u x_1.2.1 x_1.2.2/\A6;let B7:=p.names+H;let B8:=A9/\s.n<N/\Int.toNat I=List.length x_1.2.1;let B9:=inR IntKind.i64 (m+H);let C0:=false=gF code k a b m u x_1.2.1 x_1.2.2/\A8;let C1:=(↑(List.length s.tos):Int);let C2:=s.kind=s.kind;let C3:=x_1.2.2=x_1.2.2/\Q/\R/\T/\U/\A5/\IntKind.wrap IntKind.i64 A0=IntKind.wrap IntKind.i64 A0/\IntKind.wrap IntKind.i64 B7=IntKind.wrap IntKind.i64 B7/\V;let C4:=V/\Z/\Q/\R/\bF code k a b m u x_1.2.1 x_1.2.2=Y.2/\V;let C5:=lF b m u x_1.2.1;let C6:=List.getD x_1.2.1 (Int.toNat G) S;x_1.1<=cC code k/\List.length x_1.2.1=cC code k+J/\List.length x_1.2.2=List.length code/\kF code k a b (List.drop x_1.1 c.ops) m x_1.2.1 x_1.2.2=dt code k bs->if decide (m<G)=true then(A<=m/\m<G)/\(A<=m/\m<N)/\Int.toNat m<List.length x_1.2.1/\if decide (p.things<A)=true then r else List.length s.names*(16:Nat)<=(140737488355328:Nat)/\if(!lU s)=true then r else if decide (p.things<t.1)=true then r else(if decide (s.kind=(4:Int))=true then decide (s.n<p.names)=gF code k a b m u x_1.2.1 x_1.2.2/\A8 else if decide (s.kind=(6:Int))=true then if decide (s.n<=k)=true then r else if decide (B<=s.n)=true then r else(A9/\s.n<B)/\B0/\B1/\if decide (A<=B3.things)=true then B0/\B1/\if(!(decide (B3.things=A)&&(decide (B3.names=IntKind.wrap IntKind.i64 B4)&&true)))=true then r else B6 else B6 else if decide (s.kind=(12:Int))=true then B5/\v/\v/\l/\K/\M/\O/\L/\L/\M/\d/\g/\w/\z/\L/\A2/\IntKind.wrap IntKind.i64 B7=A1.names/\A4/\A7 else if decide (s.kind=(13:Int))=true then if decide (IntKind.wrap IntKind.i64 (p.names-X.names)<s.n)=true then r else B5/\v/\v/\l/\K/\M/\O/\L/\L/\M/\d/\g/\w/\z/\L/\A2/\IntKind.wrap IntKind.i64 (p.names-s.n)=A1.names/\A4/\A7 else if decide (s.kind=(15:Int))=true then if decide (s.n<=m)=true then r else if decide (G<s.n)=true then r else B8/\if(!dm x_1.2.1 s.n {things:=IntKind.wrap IntKind.i64 A0,names:=p.names:Stt})=true then r else B9/\∃(y:Nat×List Stt×List Stt),let C7:=(↑y.1:Int);(y.1<=cC code k/\List.length y.2.1=cC code k+J/\List.length y.2.2=List.length code/\kF code k a b (List.drop y.1 c.ops) C7 y.2.1 y.2.2=dt code k bs)/\cC code k-y.1<cC code k-x_1.1/\m+H=C7/\l/\K/\M/\O/\L/\L/\M/\d/\cY x_1.2.1 s.n {things:=IntKind.wrap IntKind.i64 A0,names:=p.names:Stt}=y.2.1/\x_1.2.2=y.2.2/\e else if decide (s.kind=(14:Int))=true then if decide (m<s.n)=true then if decide (s.n<=G)=true then B8/\dm x_1.2.1 s.n {things:=IntKind.wrap IntKind.i64 A0,names:=p.names:Stt}=gF code k a b m u x_1.2.1 x_1.2.2/\v/\v/\l/\K/\M/\O/\L/\L/\M/\d/\g/\w/\z/\L/\A2/\A3/\cY x_1.2.1 s.n {things:=IntKind.wrap IntKind.i64 A0,names:=p.names:Stt}=lF b m u x_1.2.1/\A7 else C0 else C0 else if decide (s.kind=(16:Int))=true then if decide (C1=A)=true then B5/\A8 else(∃(x_2:Nat×List Stt),(x_2.1<=List.length u.tos/\List.length x_2.2=cC code k+J/\kn m b {things:=IntKind.wrap IntKind.i64 A0,names:=IntKind.wrap IntKind.i64 B7:Stt} (List.drop x_2.1 u.tos) x_2.2=kn m b {things:=IntKind.wrap IntKind.i64 A0,names:=IntKind.wrap IntKind.i64 B7:Stt} u.tos x_1.2.1)/\A=(↑x_2.1:Int)/\v/\l/\K/\M/\O/\L/\L/\M/\d/\g/\v/\w/\z/\L/\g/\C2/\L/\L/\L/\L/\L/\L/\g/\L/\s.tos=s.tos/\C1=C1/\x_1.2.1=x_2.2/\C3)/\
  ∀(x_2:Nat×List Stt),let C7:=(↑x_2.1:Int);let C8:=Int.toNat C7;let C9:=List.getD s.tos C8 h;x_2.1<=List.length u.tos/\List.length x_2.2=cC code k+J/\kn m b {things:=IntKind.wrap IntKind.i64 A0,names:=IntKind.wrap IntKind.i64 B7:Stt} (List.drop x_2.1 u.tos) x_2.2=kn m b {things:=IntKind.wrap IntKind.i64 A0,names:=IntKind.wrap IntKind.i64 B7:Stt} u.tos x_1.2.1->if decide (C7<C1)=true then(A<=C7/\C7<C1)/\if decide (List.getD s.tos C8 h<=m)=true then r else if decide (G<List.getD s.tos C8 h)=true then r else(A<=List.getD s.tos C8 h/\List.getD s.tos C8 h<N/\Int.toNat I=List.length x_2.2)/\if(!dm x_2.2 C9 {things:=IntKind.wrap IntKind.i64 A0,names:=IntKind.wrap IntKind.i64 B7:Stt})=true then r else inR IntKind.i64 (C7+H)/\∃(y:Nat×List Stt),(y.1<=List.length u.tos/\List.length y.2=cC code k+J/\kn m b {things:=IntKind.wrap IntKind.i64 A0,names:=IntKind.wrap IntKind.i64 B7:Stt} (List.drop y.1 u.tos) y.2=kn m b {things:=IntKind.wrap IntKind.i64 A0,names:=IntKind.wrap IntKind.i64 B7:Stt} u.tos x_1.2.1)/\List.length u.tos-y.1<List.length u.tos-x_2.1/\C7+H=(↑y.1:Int)/\v/\l/\K/\M/\O/\L/\L/\M/\d/\g/\v/\w/\z/\L/\g/\C2/\L/\L/\L/\L/\L/\L/\g/\L/\s.tos=s.tos/\C1=C1/\cY x_2.2 C9 {things:=IntKind.wrap IntKind.i64 A0,names:=IntKind.wrap IntKind.i64 B7:Stt}=y.2/\C3 else B9/\∃(y:Nat×List Stt×List Stt),let D0:=(↑y.1:Int);(y.1<=cC code k/\List.length y.2.1=cC code k+J/\List.length y.2.2=List.length code/\kF code k a b (List.drop y.1 c.ops) D0 y.2.1 y.2.2=dt code k bs)/\cC code k-y.1<cC code k-x_1.1/\m+H=D0/\l/\K/\M/\O/\L/\L/\M/\d/\x_2.2=y.2.1/\x_1.2.2=y.2.2/\e else B5/\A8)/\if(!gF code k a b m u x_1.2.1 x_1.2.2)=true then C4 else B9/\(A<=m+H/\m+H<N/\Int.toNat I=List.length C5)/\if(!dm C5 (m+H) A1)=true then C4 else B9/\∃(y:Nat×List Stt×List Stt),let C7:=(↑y.1:Int);(y.1<=cC code k/\List.length y.2.1=cC code k+J/\List.length y.2.2=List.length code/\kF code k a b (List.drop y.1 c.ops) C7 y.2.1 y.2.2=dt code k bs)/\cC code k-y.1<cC code k-x_1.1/\m+H=C7/\l/\K/\M/\O/\L/\L/\M/\d/\cY C5 (m+H) A1=y.2.1/\bF code k a b m u x_1.2.1 x_1.2.2=y.2.2/\e else(A<=G/\G<N)/\Int.toNat G<List.length x_1.2.1/\V/\(decide (C6.things=H)&&(decide (C6.names=X.names)&&true))=Y.1/\q:=by
 conv=>zeta
 obtain⟨h1,h2,h3,h4,h5,h6⟩:=ho;subst h4;have dC:code.getD k.toNat (dfl (Ty.st SN.chunk))=iu code k:=rfl;have dS:dfl (Ty.st SN.stt)=(default:Stt):=rfl;have dO:dfl (Ty.st SN.op)=(default:Opn):=rfl;have dI:dfl (Ty.int IntKind.i64)=(0:Int):=rfl;have dN:(iu code k).ops.length=cC code k:=rfl;have hb:∀x y:Stt,(decide (x.things=y.things)&&(decide (x.names=y.names)&&true))=pY x y:=fun x y=>by unfold pY;simp
 simp only[dC,dS,dO,dI,dN,Mv];have tN:(((cC code k:Nat):Int)+1).toNat=cC code k+1:=by omega
 simp only[tN];have cN:((cC code k+1:Nat):Int)=(cC code k:Int)+1:=by omega
 generalize hN:cC code k=N at *
 generalize hbb:bs.getD k.toNat (default:Stt)=bb at *
 refine⟨⟨h1,h2⟩,⟨h1,h2⟩,by omega,ai (by omega) (by omega),⟨by omega,by omega,by omega⟩,⟨0,ME _,rfl,by repeat' (first|exact trivial|rfl|apply And.intro)⟩,?_⟩;intro x hx;apply aa<;>intro q
 ·replace q:=Xo q;have q:x<N+1:=by omega
  refine⟨⟨by omega,by omega⟩,by rw[fO hx];exact q,ai (by omega) (by omega),x+1,by omega,by omega,by omega,?_⟩;rw[uv q];have e:(gn (N+1) x).set x {things:=-1,names:=({things:=0,names:=0}:Stt).names}=gn (N+1) (x+1):=xQ q default
  repeat' (first|exact trivial|exact e|rfl|apply And.intro)
 replace q:¬(x:Int)<((N+1:Nat):Int):=fun z=>q (Xd z);have q:x=N+1:=by omega
 subst q;have e0:∀h:dm (gn (N+1) (N+1)) 0 bb=false,dt code k bs=(false,bs):=fun h=>by unfold dt;rw[hbb,hN,Mp (by rw[h];exact fun z=>by cases z)]
 have e1:∀h:dm (gn (N+1) (N+1)) 0 bb=true,kF code k bb N (iu code k).ops 0 (cY (gn (N+1) (N+1)) 0 bb) bs=dt code k bs:=fun h=>by unfold dt;rw[hbb,hN,Mu h]
 refine⟨⟨by omega,by omega,by rw[fO (Mx _)]⟩,aa (fun q=>?_) (fun q=>?_)⟩
 ·have q:dm (gn (N+1) (N+1)) 0 bb=false:=by simpa using q
  rw[e0 q]
  repeat' (first|exact trivial|rfl|apply And.intro)
 have q:dm (gn (N+1) (N+1)) 0 bb=true:=by simpa using q
 refine⟨⟨(0,cY (gn (N+1) (N+1)) 0 bb,bs),⟨ME _,by rw[eU,fO (Mx _)],h3,by rw[Nq];exact e1 q⟩,by repeat' (first|exact trivial|rfl|apply And.intro)⟩,?_⟩;clear e0 e1 q;rintro⟨i,l,b⟩ ⟨i1,i2,i3,i4⟩;simp only at i1 i2 i3 i4⊢;apply aa<;>intro q
 ·replace q:=Xo q;have q:i<N:=by omega
  have qi:i<(iu code k).ops.length:=by omega
  rw[aU (iu code k).ops i (default:Opn) qi]at i4;obtain⟨hO,hO2⟩:=h6 _ (bW (iu code k).ops i (default:Opn) qi);generalize (iu code k).ops.getD i (default:Opn)=O at *
  generalize hcf:dt code k bs=cf at *
  have bad:gF code k bb N i O l b=false->cf=(false,b):=fun h=>by rw[<-i4];exact CN _ h
  have ci:((i+1:Nat):Int)=(i:Int)+1:=by omega
  refine⟨⟨by omega,by omega⟩,⟨by omega,by omega⟩,by omega,aa (fun m=>?_) (fun m=>?_)⟩
  ·rw[bad (by unfold gF;rw[Mv,Mu (.inl (Xo m))])];repeat' (first|exact trivial|rfl|apply And.intro)
  have m:¬(l.getD i default).things<0:=fun z=>m (Xd z);refine⟨hO,aa (fun m2=>?_) (fun m2=>?_)⟩
  ·rw[bad (by unfold gF;rw[Mu (.inr (.inl (by simpa using m2)))])];repeat' (first|exact trivial|rfl|apply And.intro)
  apply aa<;>intro m3
  ·rw[bad (by unfold gF;rw[Mv,Mu (.inr (.inr (Xo m3)))])];repeat' (first|exact trivial|rfl|apply And.intro)
  have m3:¬(l.getD i default).things<(jI O).1:=fun z=>m3 (Xd z);have g0:gF code k bb N i O l b=gK code k bb N i O l b:=by unfold gF;rw[Mv,Mp (fun z=>z.elim m (fun z=>z.elim (fun z=>by simp[z]at m2) m3))]
  have q1:({things:=IntKind.wrap IntKind.i64 ((l.getD i default).things+IntKind.wrap IntKind.i64 ((jI O).2-(jI O).1)),names:=(l.getD i default).names}:Stt)=s1F O (l.getD i default):=rfl;simp only[q1];refine⟨?_,aa (fun z=>?_) (fun z=>?_)⟩
  ·apply aa<;>intro K
   ·have K:=Xo K;rw[g0];simp only[gK,sF,lF,bF,K,Mv]
    repeat' (first|exact trivial|rfl|apply And.intro)
   have K1:¬O.kind=4:=fun z=>K (Xd z);apply aa<;>intro K
   ·have K:=Xo K;have q3:(decide ((b.getD O.n.toNat default).things=0)&&(decide ((b.getD O.n.toNat default).names=IntKind.wrap IntKind.i64 ((l.getD i default).names+(code.getD O.n.toNat (dfl (Ty.st SN.chunk))).args))&&true))=pY (b.getD O.n.toNat default) (xO code O (l.getD i default)):=hb _ (xO code O (l.getD i default));have g1:gF code k bb N i O l b=(!(decide (O.n<=k)||decide ((code.length:Int)<=O.n))&&!(decide (0<=(b.getD O.n.toNat default).things)&&!pY (b.getD O.n.toNat default) (xO code O (l.getD i default)))):=by rw[g0];unfold gK;rw[Mp K1,Mu K];rfl
    have g2:sF N i O l=s1F O (l.getD i default):=by simp only[sF,K,Mv];rfl
    have g3:lF N i O l=l:=by simp only[lF,K];rfl
    have g4:gF code k bb N i O l b=true->bF code k bb N i O l b=b.set O.n.toNat (xO code O (l.getD i default)):=fun z=>by unfold bF;rw[Mu ⟨K,z⟩];rfl
    simp only[q3];apply aa<;>intro y
    ·rw[bad (by rw[g1,y];rfl)];repeat' (first|exact trivial|rfl|apply And.intro)
    have y:decide (O.n<=k)=false:=by simpa using y
    apply aa<;>intro w
    ·rw[bad (by rw[g1,w,y];rfl)];repeat' (first|exact trivial|rfl|apply And.intro)
    have w:decide ((code.length:Int)<=O.n)=false:=by simpa using w
    have y':=P6 y;have w':=P6 w;refine⟨⟨by omega,by omega⟩,⟨by omega,by omega⟩,by omega,aa (fun v=>?_) (fun v=>?_)⟩
    ·refine⟨⟨by omega,by omega⟩,by omega,aa (fun u=>?_) (fun u=>?_)⟩
     ·have u:pY (b.getD O.n.toNat default) (xO code O (l.getD i default))=false:=by simpa using u
      rw[bad (by rw[g1,w,y,v,u];rfl)];repeat' (first|exact trivial|rfl|apply And.intro)
     ·have u:pY (b.getD O.n.toNat default) (xO code O (l.getD i default))=true:=by simpa using u
      have g5:gF code k bb N i O l b=true:=by rw[g1,w,y,u];simp
      refine⟨⟨by omega,by omega⟩,by omega,?_⟩;rw[g4 g5,g5,g2,g3]
      repeat' (first|exact trivial|rfl|apply And.intro)
    ·have v:decide (0<=(b.getD O.n.toNat default).things)=false:=by simpa using v
     have g5:gF code k bb N i O l b=true:=by rw[g1,w,y,v];simp
     refine⟨⟨by omega,by omega⟩,by omega,?_⟩;rw[g4 g5,g5,g2,g3]
     repeat' (first|exact trivial|rfl|apply And.intro)
   have K2:¬O.kind=6:=fun z=>K (Xd z);have g4:bF code k bb N i O l b=b:=by unfold bF;rw[Mp (fun z=>K2 z.1)]
   apply aa<;>intro K
   ·have K:=Xo K;rw[g4,g0];simp only[gK,sF,lF,K,Mv]
    repeat' (first|exact trivial|rfl|apply And.intro)
   have K3:¬O.kind=12:=fun z=>K (Xd z);apply aa<;>intro K
   ·have K:=Xo K;have g1:gF code k bb N i O l b=!decide (IntKind.i64.wrap ((l.getD i default).names-bb.names)<O.n):=by rw[g0];simp only[gK,K,Mv];rfl
    apply aa<;>intro y
    ·rw[bad (by rw[g1,y];rfl)];repeat' (first|exact trivial|rfl|apply And.intro)
    ·have y:decide (IntKind.i64.wrap ((l.getD i default).names-bb.names)<O.n)=false:=by simpa using y
     rw[g4,g1,y];simp only[sF,lF,K,Mv]
     repeat' (first|exact trivial|rfl|apply And.intro)
   have K4:¬O.kind=13:=fun z=>K (Xd z);apply aa<;>intro K
   ·have K:=Xo K;have g1:gF code k bb N i O l b=(decide ((i:Int)<O.n)&&decide (O.n<=(N:Int))&&dm l O.n (s1F O (l.getD i default))):=by rw[g0];simp only[gK,K,Mv];rfl
    apply aa<;>intro y
    ·have y:=Xo y;rw[bad (by rw[g1,Xf (show ¬(i:Int)<O.n by omega)];rfl)];repeat' (first|exact trivial|rfl|apply And.intro)
    have y:¬O.n<=(i:Int):=fun z=>y (Xd z);apply aa<;>intro w
    ·have w:=Xo w;rw[bad (by rw[g1,Xf (show ¬O.n<=(N:Int) by omega),Oh];rfl)];repeat' (first|exact trivial|rfl|apply And.intro)
    have w:¬(N:Int)<O.n:=fun z=>w (Xd z);refine⟨⟨by omega,by omega,by omega⟩,aa (fun v=>?_) (fun v=>?_)⟩
    ·have v:dm l O.n (s1F O (l.getD i default))=false:=by simpa using v
     rw[bad (by rw[g1,v,Oh])];repeat' (first|exact trivial|rfl|apply And.intro)
    ·have v:dm l O.n (s1F O (l.getD i default))=true:=by simpa using v
     have g5:gF code k bb N i O l b=true:=by rw[g1,v,Xd (show(i:Int)<O.n by omega),Xd (show O.n<=(N:Int) by omega)];rfl
     have g3:lF N i O l=cY l O.n (s1F O (l.getD i default)):=by unfold lF;rw[Mu ⟨.inl K,by omega,by omega⟩,Mv]
     have g2:sF N i O l=(lF N i O l).getD ((i:Int)+1).toNat default:=by unfold sF;rw[Mp K3,Mp K4,Mu (.inl K)]
     rw[xP _ g5 g2,g3,g4]at i4;refine⟨ai (by omega) (by omega),(i+1,cY l O.n (s1F O (l.getD i default)),b),⟨q,by rw[eU];exact i2,i3,by rw[ci];exact i4⟩,by simp only;omega,by repeat' (first|exact trivial|rfl|apply And.intro)⟩
   have K5:¬O.kind=15:=fun z=>K (Xd z);apply aa<;>intro K
   ·have K:=Xo K;have g1:gF code k bb N i O l b=(decide ((i:Int)<O.n)&&decide (O.n<=(N:Int))&&dm l O.n (s1F O (l.getD i default))):=by rw[g0];simp only[gK,K,Mv];rfl
    have g2:sF N i O l=s1F O (l.getD i default):=by simp only[sF,K,Mv];rfl
    have off:¬((i:Int)<O.n/\O.n<=(N:Int))->gF code k bb N i O l b=false/\lF N i O l=l:=fun z=>by
     refine⟨?_,?_⟩
     ·rw[g1];by_cases y:(i:Int)<O.n
      ·rw[Xf (show ¬O.n<=(N:Int)from fun w=>z ⟨y,w⟩),Oh];rfl
      ·rw[Xf y];rfl
     ·unfold lF;rw[Mp (fun y=>z y.2),Mp (fun y=>by rw[K]at y;exact absurd y.1 (by decide))]
    apply aa<;>intro y
    ·have y:=Xo y;apply aa<;>intro w
     ·have w:=Xo w;have g3:lF N i O l=cY l O.n (s1F O (l.getD i default)):=by unfold lF;rw[Mu ⟨.inr K,y,w⟩,Mv]
      refine⟨⟨by omega,by omega,by omega⟩,?_⟩;rw[g4,g3,g2,g1,Xd y,Xd w]
      repeat' (first|exact trivial|rfl|apply And.intro)
     ·have w:¬O.n<=(N:Int):=fun z=>w (Xd z);obtain⟨o1,o2⟩:=off (fun z=>w z.2);rw[g4,o1,o2,g2]
      repeat' (first|exact trivial|rfl|apply And.intro)
    ·have y:¬(i:Int)<O.n:=fun z=>y (Xd z);obtain⟨o1,o2⟩:=off (fun z=>y z.1);rw[g4,o1,o2,g2]
     repeat' (first|exact trivial|rfl|apply And.intro)
   have K6:¬O.kind=14:=fun z=>K (Xd z);have K56:¬(O.kind=15∨O.kind=14):=fun z=>z.elim K5 K6
   have dW:¬(O.kind=16/\O.tos.length≠0)->gF code k bb N i O l b=true/\sF N i O l=s1F O (l.getD i default)/\lF N i O l=l:=fun z=>by
    refine⟨?_,?_,?_⟩
    ·rw[g0];unfold gK;rw[Mp K1,Mp K2,Mp K4,Mp K56,Mp z]
    ·unfold sF;rw[Mp K3,Mp K4,Mp (fun y=>y.elim K5 z),Mv]
    ·unfold lF;rw[Mp (fun y=>K56 y.1),Mp z]
   apply aa<;>intro K
   ·have K:=Xo K;apply aa<;>intro y
    ·have y:=Xo y;obtain⟨o1,o2,o3⟩:=dW (fun z=>z.2 (by omega));rw[g4,o1,o2,o3]
     repeat' (first|exact trivial|rfl|apply And.intro)
    have y:O.tos.length≠0:=fun z=>y (Xd (by omega));have q4:({things:=IntKind.wrap IntKind.i64 ((l.getD i default).things+IntKind.wrap IntKind.i64 ((jI O).2-(jI O).1)),names:=IntKind.wrap IntKind.i64 ((l.getD i default).names+1)}:Stt)=⟨(s1F O (l.getD i default)).things,IntKind.i64.wrap ((l.getD i default).names+1)⟩:=rfl;simp only[q4];generalize hs2:(⟨(s1F O (l.getD i default)).things,IntKind.i64.wrap ((l.getD i default).names+1)⟩:Stt)=s2 at *
    have g1:gF code k bb N i O l b=(kn i N s2 O.tos l).1:=by rw[g0];unfold gK;rw[Mp K1,Mp K2,Mp K4,Mp K56,Mu ⟨K,y⟩,Mv,hs2]
    have g3:lF N i O l=(kn i N s2 O.tos l).2:=by unfold lF;rw[Mp (fun y=>K56 y.1),Mu ⟨K,y⟩,Mv,hs2]
    have g2:sF N i O l=(lF N i O l).getD ((i:Int)+1).toNat default:=by unfold sF;rw[Mp K3,Mp K4,Mu (.inr ⟨K,y⟩)]
    refine⟨⟨(0,l),⟨ME _,i2,by rw[Nq]⟩,by repeat' (first|exact trivial|rfl|apply And.intro)⟩,?_⟩;rintro⟨j,a⟩ ⟨j1,j2,j3⟩;simp only at j1 j2 j3⊢;apply aa<;>intro v
    ·have v:=Xo v;have v:j<O.tos.length:=by omega
     rw[aU O.tos j (0:Int) v]at j3;generalize O.tos.getD j (0:Int)=tgt at *
     have no:¬(¬tgt<=(i:Int)/\¬(N:Int)<tgt/\dm a tgt s2=true)->cf=(false,b):=fun z=>bad (by
      rw[g1,<-j3];unfold kn;rw[Mu];by_cases c1:tgt<=(i:Int)
      ·exact .inl c1
      by_cases c2:(N:Int)<tgt
      ·exact .inr (.inl c2)
      refine .inr (.inr (O1.2 fun c3=>z ⟨c1,c2,c3⟩)))
     refine⟨⟨by omega,by omega⟩,aa (fun u=>?_) (fun u=>?_)⟩
     ·rw[no (fun z=>z.1 (Xo u))];repeat' (first|exact trivial|rfl|apply And.intro)
     have u:¬tgt<=(i:Int):=fun z=>u (Xd z);apply aa<;>intro t
     ·rw[no (fun z=>z.2.1 (Xo t))];repeat' (first|exact trivial|rfl|apply And.intro)
     have t:¬(N:Int)<tgt:=fun z=>t (Xd z);refine⟨⟨by omega,by omega,by omega⟩,aa (fun r=>?_) (fun r=>?_)⟩
     ·rw[no (fun z=>by rw[z.2.2]at r;cases r)];repeat' (first|exact trivial|rfl|apply And.intro)
     have r:dm a tgt s2=true:=by simpa using r
     have j4:kn i N s2 (O.tos.drop (j+1)) (cY a tgt s2)=kn i N s2 O.tos l:=by
      rw[<-j3];conv=>rhs;unfold kn
      rw[Mp (fun z=>z.elim u (fun z=>z.elim t (fun z=>by rw[r]at z;cases z)))]
     refine⟨ai (by omega) (by omega),(j+1,cY a tgt s2),⟨v,by rw[eU];exact j2,j4⟩,by simp only;omega,by repeat' (first|exact trivial|rfl|apply And.intro)⟩
    ·have v:¬(j:Int)<(O.tos.length:Int):=fun z=>v (Xd z);have v:j=O.tos.length:=by omega
     subst v;rw[MX]at j3;have g5:gF code k bb N i O l b=true:=by rw[g1,<-j3];rfl
     have g6:lF N i O l=a:=by rw[g3,<-j3];rfl
     rw[xP _ g5 g2,g6,g4]at i4;refine⟨ai (by omega) (by omega),(i+1,a,b),⟨q,j2,i3,by rw[ci];exact i4⟩,by simp only;omega,by repeat' (first|exact trivial|rfl|apply And.intro)⟩
   have K7:¬O.kind=16:=fun z=>K (Xd z);obtain⟨o1,o2,o3⟩:=dW (fun z=>K7 z.1);rw[g4,o1,o2,o3]
   repeat' (first|exact trivial|rfl|apply And.intro)
  ·have z:gF code k bb N i O l b=false:=by simpa using z
   rw[bad z];have e:bF code k bb N i O l b=b:=by unfold bF;rw[Mp (fun y=>by rw[z]at y;cases y.2)]
   rw[e]
   repeat' (first|exact trivial|rfl|apply And.intro)
  ·have z:gF code k bb N i O l b=true:=by simpa using z
   rw[Av _ z]at i4;refine⟨ai (by omega) (by omega),⟨by omega,by omega,by rw[ur];omega⟩,aa (fun y=>?_) (fun y=>?_)⟩
   ·have y:dm (lF N i O l) (i+1) (sF N i O l)=false:=by simpa using y
    rw[Mp (by rw[y];exact fun w=>by cases w)]at i4;rw[<-i4]
    repeat' (first|exact trivial|rfl|apply And.intro)
   ·have y:dm (lF N i O l) (i+1) (sF N i O l)=true:=by simpa using y
    rw[Mu y]at i4;refine⟨ai (by omega) (by omega),(i+1,cY (lF N i O l) (i+1) (sF N i O l),bF code k bb N i O l b),⟨q,by rw[eU,ur];exact i2,by rw[oN];exact i3,by rw[ci];exact i4⟩,by simp only;omega,by repeat' (first|exact trivial|rfl|apply And.intro)⟩
 ·replace q:¬(i:Int)<(N:Int):=fun z=>q (Xd z);have q:i=N:=by omega
  subst q;have e:(iu code k).ops.drop i=[]:=NG (by omega);rw[e]at i4;unfold kF at i4;rw[<-i4];refine⟨⟨by omega,by omega⟩,by omega,trivial,hb _ ⟨1,bb.names⟩,by repeat' (first|exact trivial|rfl|apply And.intro)⟩
theorem Be(l:List Chnk)(n:Int)(hl:Wf (.lst (.st .chunk)) l)(ho:sq l) :
  let A:=(0:Int);let B:=True;let C:=B/\(310:Int)=oP l n/\B;let D:=List.length l;let E:=(↑D:Int);let F:=(4096:Int);let G:=dfl (Ty.st SN.chunk);let H:=(4096:Nat);let I:=l=l;let J:=n=n;let K:=false=false;let L:=E=E;let M:=I/\J/\K/\I/\L/\B;let N:=(1:Int);let O:=Int.toNat E;let P:=(↑O:Int);let Q:=I/\Int.toNat E=Int.toNat E/\B;let R:=dfl (Ty.st SN.stt);let S:=(0:Nat);let T:=bg0 D n;if decide (n<A)=true then C else if decide ((1000000:Int)<n)=true then C else if decide (E=A)=true then C else if decide (F<E)=true then C else(A<=A/\A<E)/\if(!decide ((List.getD l (Int.toNat A) G).args=A))=true then C else(∃(x:Nat×Int),(x.1<=List.length l/\A<=x.2/\x.2<=F/\eJ (List.drop x.1 l) x.2=eJ l A/\∀(j:Nat),j<x.1->List.length (List.getD l j default).ops<=H)/\A=(↑x.1:Int)/\A=x.2/\M)/\∀(x:Nat×Int),let U:=(↑x.1:Int);let V:=List.getD l (Int.toNat U) G;let W:=(↑(List.length V.ops):Int);let X:=x.2=x.2;(x.1<=List.length l/\A<=x.2/\x.2<=F/\eJ (List.drop x.1 l) x.2=eJ l A/\∀(j:Nat),j<x.1->List.length (List.getD l j default).ops<=H)->if decide (U<E)=true then(A<=U/\U<E)/\if decide (V.args<A)=true then C else if decide (F<V.args)=true then C else inR IntKind.i64 (F-x.2)/\if decide (F-x.2<W)=true then C else inR IntKind.i64 (x.2+W)/\inR IntKind.i64 (U+N)/\∃(y:Nat×Int),(y.1<=List.length l/\A<=y.2/\y.2<=F/\eJ (List.drop y.1 l) y.2=eJ l A/\∀(j:Nat),j<y.1->List.length (List.getD l j default).ops<=H)/\List.length l-y.1<List.length l-x.1/\U+N=(↑y.1:Int)/\x.2+W=y.2/\M else(A<=E/\E<=E/\E*(↑(16:Nat):Int)<=(140737488355328:Int))/\(∃(x_1:Nat),x_1<=List.length l/\A=(↑x_1:Int)/\U=U/\X/\I/\J/\K/\I/\L/\K/\P=P/\List.replicate O {things:=A,names:=A:Stt}=gn D x_1/\Q)/\∀(x_1:Nat),let Y:=(↑x_1:Int);let Z:=gn D x_1;x_1<=List.length l->if decide (Y<P)=true then(A<=Y/\Y<P)/\Int.toNat Y<List.length Z/\inR IntKind.i64 (Y+N)/\∃(y:Nat),y<=List.length l/\List.length l-y<List.length l-x_1/\Y+N=(↑y:Int)/\U=U/\X/\I/\J/\K/\I/\L/\K/\P=P/\List.set Z (Int.toNat Y) {things:=(-1:Int),names:=(List.getD Z (Int.toNat Y) R).names:Stt}=gn D y/\Q else(A<=A/\A<P)/\Int.toNat A<List.length Z/\(∃(x_2:Nat×List Stt),(x_2.1<=List.length l/\List.length x_2.2=List.length l/\oO l (List.length l-x_2.1) x_2.1 x_2.2=oO l D S T)/\A=(↑x_2.1:Int)/\Y=Y/\U=U/\X/\I/\J/\K/\I/\L/\K/\P=P/\K/\L/\List.set Z (Int.toNat A) {things:=A,names:=n:Stt}=x_2.2/\Q)/\∀(x_2:Nat×List Stt),let a:=(↑x_2.1:Int);let b:=dt l a x_2.2;x_2.1<=List.length l/\List.length x_2.2=List.length l/\oO l (List.length l-x_2.1) x_2.1 x_2.2=oO l D S T->if decide (a<E)=true then(A<=a/\a<P)/\Int.toNat a<List.length x_2.2/\if decide ((List.getD x_2.2 (Int.toNat a) R).things<A)=true then C else Jd l a x_2.2 O/\if(!b.1)=true then C else inR IntKind.i64 (a+N)/\∃(y:Nat×List Stt),(y.1<=List.length l/\List.length y.2=List.length l/\oO l (List.length l-y.1) y.1 y.2=oO l D S T)/\List.length l-y.1<List.length l-x_2.1/\a+N=(↑y.1:Int)/\Y=Y/\U=U/\X/\I/\J/\K/\I/\L/\K/\P=P/\K/\L/\b.2=y.2/\Q else B/\A=oP l n/\B:=by
 conv=>zeta
 have dC:dfl (Ty.st SN.chunk)=(default:Chnk):=rfl;have dS:dfl (Ty.st SN.stt)=(default:Stt):=rfl;simp only[dC,dS,Mv,OR];have bad:n<0∨1000000<n∨l.length=0∨4096<l.length∨(l.getD 0 default).args≠0->oP l n=310:=fun h=>by unfold oP;rw[Mu h]
 apply aa<;>intro h
 ·rw[bad (.inl (Xo h))];repeat' (first|exact trivial|rfl|apply And.intro)
 have h1:¬n<0:=fun z=>h (Xd z);apply aa<;>intro h
 ·rw[bad (.inr (.inl (Xo h)))];repeat' (first|exact trivial|rfl|apply And.intro)
 have h2:¬1000000<n:=fun z=>h (Xd z);apply aa<;>intro h
 ·have:=Xo h;rw[bad (.inr (.inr (.inl (by omega))))];repeat' (first|exact trivial|rfl|apply And.intro)
 have h3:¬l.length=0:=fun z=>h (Xd (by omega));apply aa<;>intro h
 ·have:=Xo h;rw[bad (.inr (.inr (.inr (.inl (by omega)))))];repeat' (first|exact trivial|rfl|apply And.intro)
 have h4:¬4096<l.length:=fun z=>h (Xd (by omega));refine⟨⟨by omega,by omega⟩,aa (fun h=>?_) (fun h=>?_)⟩
 ·have h:(l.getD 0 default).args≠0:=by simpa using h
  rw[bad (.inr (.inr (.inr (.inr h))))];repeat' (first|exact trivial|rfl|apply And.intro)
 have h5:(l.getD 0 default).args=0:=by simpa using h
 have e0:oP l n=if eJ l 0=false then 310 else if oO l l.length 0 (bg0 l.length n)=true then 0 else 310:=by unfold oP;rw[Mp (fun z=>z.elim h1 (fun z=>z.elim h2 (fun z=>z.elim h3 (fun z=>z.elim h4 (fun z=>z h5)))))]
 clear bad;generalize oP l n=vf at *
 refine⟨⟨(0,0),⟨ME _,Oq _,by omega,rfl,fun j hj=>absurd hj (Nat.not_lt_zero _)⟩,by repeat' (first|exact trivial|rfl|apply And.intro)⟩,?_⟩;rintro⟨i,z⟩ ⟨i1,i2,i3,i4,i5⟩;simp only at i1 i2 i3 i4 i5⊢;apply aa<;>intro q
 ·have q:=Xo q;have q:i<l.length:=by omega
  rw[aU l i (default:Chnk) q]at i4
  have i6:¬((l.getD i default).args<0∨4096<(l.getD i default).args∨4096-z<((l.getD i default).ops.length:Int))->eJ (l.drop (i+1)) (z+(l.getD i default).ops.length)=eJ l 0:=fun w=>by
   rw[<-i4];conv=>rhs;unfold eJ
   rw[Mp w]
  have i7:(l.getD i default).args<0∨4096<(l.getD i default).args∨4096-z<((l.getD i default).ops.length:Int)->vf=310:=fun w=>by
   have e:eJ l 0=false:=by rw[<-i4];unfold eJ;rw[Mu w]
   rw[e0,Mu e]
  refine⟨⟨by omega,by omega⟩,aa (fun w=>?_) (fun w=>?_)⟩
  ·rw[i7 (.inl (Xo w))];repeat' (first|exact trivial|rfl|apply And.intro)
  have w1:¬(l.getD i default).args<0:=fun z=>w (Xd z);apply aa<;>intro w
  ·rw[i7 (.inr (.inl (Xo w)))];repeat' (first|exact trivial|rfl|apply And.intro)
  have w2:¬4096<(l.getD i default).args:=fun z=>w (Xd z);refine⟨ai (by omega) (by omega),aa (fun w=>?_) (fun w=>?_)⟩
  ·rw[i7 (.inr (.inr (Xo w)))];repeat' (first|exact trivial|rfl|apply And.intro)
  have w3:¬4096-z<((l.getD i default).ops.length:Int):=fun z=>w (Xd z);refine⟨ai (by omega) (by omega),ai (by omega) (by omega),(i+1,z+(l.getD i default).ops.length),⟨q,by simp only;omega,by simp only;omega,i6 (by omega),fun j hj=>?_⟩,by simp only;omega,by repeat' (first|exact trivial|rfl|apply And.intro)⟩;simp only at hj;by_cases hji:j=i
  ·subst hji;omega
  ·exact i5 j (by omega)
 have q:¬(i:Int)<(l.length:Int):=fun z=>q (Xd z);have q:i=l.length:=by omega
 subst q;rw[MX]at i4;have e1:eJ l 0=true:=by rw[<-i4];rfl
 rw[e1,Mp (by decide)]at e0;generalize hR:oO l l.length 0 (bg0 l.length n)=R at *
 refine⟨⟨by omega,by omega,by omega⟩,⟨0,ME _,rfl,by repeat' (first|exact trivial|rfl|apply And.intro)⟩,?_⟩;intro x hx;apply aa<;>intro q
 ·have q:=Xo q;have q:x<l.length:=by omega
  refine⟨⟨by omega,by omega⟩,by rw[fO hx];exact q,ai (by omega) (by omega),x+1,by omega,by omega,by omega,?_⟩;rw[uv q];have e:(gn l.length x).set x {things:=-1,names:=({things:=0,names:=0}:Stt).names}=gn l.length (x+1):=xQ q default
  repeat' (first|exact trivial|exact e|rfl|apply And.intro)
 have q:¬(x:Int)<(l.length:Int):=fun z=>q (Xd z);have q:x=l.length:=by omega
 subst q;refine⟨⟨by omega,by omega⟩,by rw[fO (Mx _)];omega,⟨(0,bg0 l.length n),⟨ME _,Aw _ _,hR⟩,by repeat' (first|exact trivial|rfl|apply And.intro)⟩,?_⟩;rintro⟨k,bs⟩ ⟨k1,k2,k3⟩;simp only at k1 k2 k3⊢;apply aa<;>intro q
 ·have q:=Xo q;have q:k<l.length:=by omega
  have ek:l.length-k=(l.length-(k+1))+1:=by omega
  rw[ek]at k3;unfold oO at k3;refine⟨⟨by omega,by omega⟩,by omega,aa (fun w=>?_) (fun w=>?_)⟩
  ·rw[Mu (Xo w)]at k3;rw[<-k3]at e0;rw[e0]
   repeat' (first|exact trivial|rfl|apply And.intro)
  have w:¬(bs.getD k default).things<0:=fun z=>w (Xd z);rw[Mp w]at k3;have hm:iu l (k:Int)∈l:=by unfold iu;rw[Mv];exact bW l k default q
  refine⟨⟨by omega,by omega,k2,rfl,by unfold cC iu;rw[Mv];exact i5 k q,fun o hO=>Jg ho hm hO⟩,aa (fun v=>?_) (fun v=>?_)⟩
  ·rw[Mp (fun z=>by rw[z]at v;cases v)]at k3;rw[<-k3]at e0;rw[e0]
   repeat' (first|exact trivial|rfl|apply And.intro)
  ·have v:(dt l (k:Int) bs).1=true:=by simpa using v
   rw[Mu v]at k3;refine⟨ai (by omega) (by omega),(k+1,(dt l (k:Int) bs).2),⟨q,by rw[tM];exact k2,k3⟩,by simp only;omega,by repeat' (first|exact trivial|rfl|apply And.intro)⟩
 ·have q:¬(k:Int)<(l.length:Int):=fun z=>q (Xd z);have q:k=l.length:=by omega
  subst q;rw[OV]at k3;rw[<-k3]at e0;rw[e0]
  repeat' (first|exact trivial|rfl|apply And.intro)
theorem JT(s:Str)(p:Int)(b:Bool)  :
  let A:=tkN s p b;let B:=True/\(0:Int)=A.1/\s=s/\p=A.2.1/\true=A.2.2/\True;let C:=aN s p;if b=true then B else if(!decide (C.2.2=(0:Int)))=true then B else if decide ((9223372036854775807:Int)<C.1)=true then B else inR IntKind.i64 C.1/\True/\C.1=A.1/\s=s/\C.2.1=A.2.1/\b=A.2.2/\True:=by
 conv=>zeta
 obtain⟨h1,h2,h3⟩:=lT s p;unfold InU at h1;unfold tkN;apply aa<;>intro h
 ·rw[Mu (.inl h)];exact Xr
 apply aa<;>intro k
 ·have k:(aN s p).2.2≠0:=by simpa using k
  rw[Mu (.inr (.inl k))];exact Xr
 have k:(aN s p).2.2=0:=by simpa using k
 apply aa<;>intro m
 ·rw[Mu (.inr (.inr (Xo m)))];exact Xr
 have m:¬9223372036854775807<(aN s p).1:=fun q=>m (Xd q);rw[Mp (fun z=>z.elim h (fun z=>z.elim (fun z=>z k) m))];exact⟨ai (by omega) (by omega),trivial,rfl,rfl,rfl,rfl,trivial⟩
theorem LQ(s:Str)(p:Int)(b:Bool)(ho:AtS s p/\s.length<=68719476736) :
  let A:=tkN s p b;let B:=tkN s A.2.1 A.2.2;let C:=True;let D:=opF s p b;let E:=(0:Int);let F:=s=s;let G:=C/\A.1=D.1.kind/\B.1=D.1.n/\[]=D.1.name/\D.1.names=[]/\D.1.tos=[]/\E=D.1.pos/\F/\B.2.1=D.2.1/\true=D.2.2/\C;let H:=cA s B.2.1;let I:=dy s H.2.1;let J:=(9223372036854775807:Int);let K:=(1:Int);let L:=tkN s I.2.1 B.2.2;let M:=I.2.1=I.2.1;let N:=I.2.2=I.2.2;let O:=false=false;let P:=op1 s p b;let Q:=op2 s p b;let R:=op3 s p b;let S:=op4 s p b;let T:=E=E;let U:=T/\T/\mf UInt8=mf UInt8/\T/\C;let V:=P.1=D.1.kind;let W:=Q.1=D.1.n;let X:=R.1=D.1.name;let Y:=S.1=D.1.names;if B.2.2=true then G else if(!decide (H.2.2=E))=true then G else List.length s<=(1099511627776:Nat)/\if(!decide (I.2.2=E))=true then G else(∃(x:Nat×Int×List Int×Int×Bool),(AtS s x.2.2.2.1/\x.2.1<=J/\eH s x.2.2.2.1 x.2.2.2.2<=(↑x.1:Int)/\(↑(List.length x.2.2.1):Int)<=x.2.2.2.1+bg x.2.2.2.2 K/\toL s x.1 x.2.1 x.2.2.1 x.2.2.2.1 x.2.2.2.2=op6 s p b)/\L.1=x.2.1/\H.1=H.1/\M/\N/\O/\I.1=I.1/\O/\A.1=P.1/\B.1=Q.1/\H.1=R.1/\I.1=S.1/\x.2.2.1=[]/\T/\F/\L.2.1=x.2.2.2.1/\L.2.2=x.2.2.2.2/\List.length x.2.2.1=(0:Nat)/\U)/\∀(x:Nat×Int×List Int×Int×Bool),let Z:=tkN s x.2.2.2.1 x.2.2.2.2;let a:=C/\V/\W/\X/\Y/\x.2.2.1=D.1.tos/\Z.1=D.1.pos/\F/\Z.2.1=D.2.1/\Z.2.2=D.2.2/\C;AtS s x.2.2.2.1/\x.2.1<=J/\eH s x.2.2.2.1 x.2.2.2.2<=(↑x.1:Int)/\(↑(List.length x.2.2.1):Int)<=x.2.2.2.1+bg x.2.2.2.2 K/\toL s x.1 x.2.1 x.2.2.1 x.2.2.2.1 x.2.2.2.2=op6 s p b->if decide (E<x.2.1)=true then if(!x.2.2.2.2)=true then(List.length x.2.2.1=List.length x.2.2.1/\(List.length x.2.2.1+List.length [Z.1])*(8:Nat)<=(140737488355328:Nat))/\inR IntKind.i64 (x.2.1-K)/\∃(y:Nat×Int×List Int×Int×Bool),(AtS s y.2.2.2.1/\y.2.1<=J/\eH s y.2.2.2.1 y.2.2.2.2<=(↑y.1:Int)/\(↑(List.length y.2.2.1):Int)<=y.2.2.2.1+bg y.2.2.2.2 K/\toL s y.1 y.2.1 y.2.2.1 y.2.2.2.1 y.2.2.2.2=op6 s p b)/\y.1<x.1/\x.2.1-K=y.2.1/\H.1=H.1/\M/\N/\O/\I.1=I.1/\O/\P.1=P.1/\Q.1=Q.1/\R.1=R.1/\S.1=S.1/\x.2.2.1++[Z.1]=y.2.2.1/\T/\F/\Z.2.1=y.2.2.2.1/\Z.2.2=y.2.2.2.2/\List.length (x.2.2.1++[Z.1])=List.length y.2.2.1/\U else a else a:=by
 conv=>zeta
 obtain⟨ha,hl⟩:=ho;have q2:tkN s (tkN s p b).2.1 (tkN s p b).2.2=op2 s p b:=rfl;have q3:cA s (op2 s p b).2.1=op3 s p b:=rfl;have q4:dy s (op3 s p b).2.1=op4 s p b:=rfl;have q5:tkN s (op4 s p b).2.1 (op2 s p b).2.2=op5 s p b:=rfl;have q1:tkN s p b=op1 s p b:=rfl;simp only[q2,q3,q4,q5];simp only[q1];apply aa<;>intro h
 ·have e:opF s p b=(⟨(op1 s p b).1,(op2 s p b).1,[],[],[],0⟩,(op2 s p b).2.1,true):=by unfold opF;rw[Mu (.inl h)]
  rw[e];repeat' (first|exact trivial|rfl|apply And.intro)
 apply aa<;>intro k
 ·have k:(op3 s p b).2.2≠0:=by simpa using k
  have e:opF s p b=(⟨(op1 s p b).1,(op2 s p b).1,[],[],[],0⟩,(op2 s p b).2.1,true):=by unfold opF;rw[Mu (.inr k)]
  rw[e];repeat' (first|exact trivial|rfl|apply And.intro)
 have k:(op3 s p b).2.2=0:=by simpa using k
 have n1:¬((op2 s p b).2.2=true∨(op3 s p b).2.2≠0):=fun z=>z.elim h (fun z=>z k);refine⟨by omega,aa (fun m=>?_) (fun m=>?_)⟩
 ·have m:(op4 s p b).2.2≠0:=by simpa using m
  have e:opF s p b=(⟨(op1 s p b).1,(op2 s p b).1,[],[],[],0⟩,(op2 s p b).2.1,true):=by unfold opF;rw[Mp n1,Mu m]
  rw[e];repeat' (first|exact trivial|rfl|apply And.intro)
 have m:(op4 s p b).2.2=0:=by simpa using m
 have e:opF s p b=(⟨(op1 s p b).1,(op2 s p b).1,(op3 s p b).1,(op4 s p b).1,(op6 s p b).1,(op7 s p b).1⟩,(op7 s p b).2.1,(op7 s p b).2.2):=by unfold opF;rw[Mp n1,Mp (fun z=>z m)]
 obtain⟨g1,g2⟩:=Mc ha k m
 have fin:∀(l:List Int)(q:Int)(c:Bool),(l,q,c)=op6 s p b->True/\(op1 s p b).1=(opF s p b).1.kind/\(op2 s p b).1=(opF s p b).1.n/\(op3 s p b).1=(opF s p b).1.name/\(op4 s p b).1=(opF s p b).1.names/\
   l=(opF s p b).1.tos/\(tkN s q c).1=(opF s p b).1.pos/\True/\(tkN s q c).2.1=(opF s p b).2.1/\(tkN s q c).2.2=(opF s p b).2.2/\True:=by
  intro l q c hq;have e7:tkN s q c=op7 s p b:=by unfold op7;rw[<-hq]
  rw[e,e7];simp only[<-hq]
  repeat' (first|exact trivial|rfl|apply And.intro)
 refine⟨⟨(s.length+2,(op5 s p b).1,[],(op5 s p b).2.1,(op5 s p b).2.2),⟨g1,g2,jH g1,by have:=g1.1;simp only[N9];unfold bg;split<;>omega,rfl⟩,by repeat' (first|exact trivial|rfl|apply And.intro)⟩,?_⟩;rintro⟨f,n,l,q,c⟩ ⟨i1,i2,i3,i4,i5⟩;simp only at i1 i2 i3 i4 i5⊢
 cases f with
 |zero=>have:=iB (b:=c) i1;omega
 |succ f=>
 unfold toL at i5;apply aa<;>intro r
 ·replace r:=Xo r;apply aa<;>intro t
  ·have t:c=false:=by simpa using t
   subst t;rw[Mu ⟨r,rfl⟩]at i5;obtain⟨j1,j2,j3,j4,j5⟩:=jG (b:=false) i1;have hs:=gD i1 j3 (fun q=>(j5 q).2);have i6:=i1.2;simp only[bg,N7,N1]at i4;refine⟨⟨by trivial,by simp only[Mr];omega⟩,ai (by omega) (by omega),(f,n-1,l++[(tkN s q false).1],(tkN s q false).2.1,(tkN s q false).2.2),⟨j3,by simp only;omega,by simp only;omega,?_,i5⟩,by simp,by repeat' (first|exact trivial|rfl|apply And.intro)⟩;simp only[Mq,Mr];unfold bg;split
   ·omega
   ·rename_i z;have:=(j5 (O1.2 z)).2;omega
  ·have t:c=true:=by simpa using t
   rw[Mp (fun z=>by rw[t]at z;cases z.2)]at i5;exact fin l q c i5
 ·replace r:¬0<n:=fun z=>r (Xd z);rw[Mp (fun z=>r z.1)]at i5;exact fin l q c i5
theorem HF(n:Int)  :
  True/\hZ (IntKind.wrap IntKind.u64 n)=dz n/\True:=by
 exact Xr
theorem Bf(l:List Chnk)(hl:Wf (.lst (.st .chunk)) l)(ho:sq l) :
  let A:=(0:Int);let B:=True;let C:=lv l;let D:=(↑(List.length l):Int);let E:=l=l;let F:=mf UInt8=mf UInt8;let G:=A=A;let H:=false=false;let I:=D=D;let J:=E/\F/\G/\H/\E/\I/\B;let K:=dfl (Ty.st SN.chunk);let L:=(9223372036854775807:Nat);let M:=true=true;let N:=dfl (Ty.st SN.op);let O:=(140737488355328:Nat);let P:=dfl (Ty.int IntKind.i64);let Q:=(1:Int);sq l/\if(!decide (oP l (1000:Int)=A))=true then B/\[]=C.1/\(310:Int)=C.2/\B else(∃(x:Nat),x<=List.length l/\A=(↑x:Int)/\dz D=prC l x/\J)/\∀(x:Nat),let R:=(↑x:Int);let S:=Int.toNat R;let T:=List.getD l S K;let U:=(↑(List.length T.ops):Int);let V:=dz T.args++dz U;let W:=List.getD l S default;let X:=T.ops=T.ops;let Y:=List.getD l S K=List.getD l S K;let Z:=R=R/\E/\F/\G/\H/\E/\I/\M/\X/\U=U/\Y/\B;x<=List.length l->if decide (R<D)=true then(A<=R/\R<D)/\List.length (dz T.args)+List.length (dz U)<=L/\List.length (prC l x)+List.length V<=L/\(∃(x_1:Nat),x_1<=List.length W.ops/\A=(↑x_1:Int)/\prC l x++V=prC l S++prO W x_1/\Z)/\∀(x_1:Nat),let a:=(↑x_1:Int);let b:=Int.toNat a;let c:=List.getD T.ops b N;let d:=iN c.names;let e:=(↑(List.length c.tos):Int);let f:=dz c.kind++dz c.n++dj c.name++iN c.names++dz e;let g:=List.getD W.ops b default;let h:=a=a/\R=R/\E/\F/\G/\H/\E/\I/\M/\X/\U=U/\M/\c.tos=c.tos/\e=e/\Y/\List.getD T.ops b N=List.getD T.ops b N/\B;x_1<=List.length W.ops->if decide (a<U)=true then(A<=a/\a<U)/\List.length (dz c.kind)+List.length (dz c.n)<=L/\List.length c.name<=O/\List.length (dz c.kind++dz c.n)+List.length (dj c.name)<=L/\List.length d<=O/\List.length (dz c.kind++dz c.n++dj c.name)+List.length d<=L/\List.length (dz c.kind++dz c.n++dj c.name++iN c.names)+List.length (dz e)<=L/\List.length (prC l S++prO W x_1)+List.length f<=L/\(∃(x_2:Nat),x_2<=List.length g.tos/\A=(↑x_2:Int)/\prC l S++prO W x_1++f=prC l S++prO W b++prT g x_2/\h)/\∀(x_2:Nat),let i:=(↑x_2:Int);let j:=prC l S++prO W b++prT g x_2;let k:=List.getD c.tos (Int.toNat i) P;x_2<=List.length g.tos->if decide (i<e)=true then(A<=i/\i<e)/\List.length j+List.length (dz k)<=L/\inR IntKind.i64 (i+Q)/\∃(y:Nat),y<=List.length g.tos/\List.length g.tos-y<List.length g.tos-x_2/\i+Q=(↑y:Int)/\prC l S++prO W b++prT g x_2++dz k=prC l S++prO W b++prT g y/\h else List.length j+List.length (dz c.pos)<=L/\inR IntKind.i64 (a+Q)/\∃(y:Nat),y<=List.length W.ops/\List.length W.ops-y<List.length W.ops-x_1/\a+Q=(↑y:Int)/\prC l S++prO W b++prT g x_2++dz c.pos=prC l S++prO W y/\Z else inR IntKind.i64 (R+Q)/\∃(y:Nat),y<=List.length l/\List.length l-y<List.length l-x/\R+Q=(↑y:Int)/\prC l S++prO W x_1=prC l y/\J else B/\prC l x=C.1/\A=C.2/\B:=by
 conv=>zeta
 have ln:=hl.len;have hT:(pX l).length<=8796093022208:=ho;have dC:dfl (Ty.st SN.chunk)=(default:Chnk):=rfl;have dO:dfl (Ty.st SN.op)=(default:Opn):=rfl;have dI:dfl (Ty.int IntKind.i64)=(0:Int):=rfl;simp only[Mv,dC,dO,dI];refine⟨ho,aa (fun h=>?_) (fun h=>?_)⟩
 ·have h:oP l 1000≠0:=by simpa using h
  unfold lv;rw[Mu h];exact Xr
 have h:oP l 1000=0:=by simpa using h
 refine⟨⟨0,ME _,rfl,by unfold prC;simp,by repeat' (first|exact trivial|rfl|apply And.intro)⟩,?_⟩;intro x hx;have px:=GP l x;apply aa<;>intro k
 ·replace k:=Xo k;have k:x<l.length:=by omega
  have eC:=xM k;have sC:=xK k;generalize l.getD x default=C at *
  have oC:=Au C;have a1:=dM C.args;have a2:=dM (C.ops.length:Int);refine⟨⟨by omega,by omega⟩,by omega,by simp only[Mq];omega,⟨0,ME _,rfl,by unfold prO J6;simp,by repeat' (first|exact trivial|rfl|apply And.intro)⟩,?_⟩;intro y hy;have py:=GQ C y;apply aa<;>intro m
  ·replace m:=Xo m;have m:y<C.ops.length:=by omega
   have eO:=xN m;have sO:=xL m;have lO:C.ops.length<=C.ops.length:=Mx _;generalize C.ops.getD y default=O at *
   obtain⟨b1,b2,b3⟩:=sj O;have oT:=so O;have c1:=dM O.kind;have c2:=dM O.n;have c3:=dM (O.tos.length:Int);have c4:=dM O.pos;refine⟨⟨by omega,by omega⟩,by omega,by omega,by simp only[Mq];omega,by omega,by simp only[Mq];omega,by simp only[Mq];omega,by simp only[Mq];omega,⟨0,ME _,rfl,by unfold prT GM;simp,by repeat' (first|exact trivial|rfl|apply And.intro)⟩,?_⟩;intro z hz;have pz:=Lh O z;apply aa<;>intro n
   ·replace n:=Xo n;have n:z<O.tos.length:=by omega
    have sT:=GO n;have c5:=dM (O.tos.getD z 0);refine⟨⟨by omega,by omega⟩,by simp only[Mq];omega,ai (by omega) (by omega),z+1,by omega,by omega,by omega,by rw[sT];simp only[MH],by repeat' (first|exact trivial|rfl|apply And.intro)⟩
   ·replace n:¬(z:Int)<(O.tos.length:Int):=fun q=>n (Xd q);have n:z=O.tos.length:=by omega
    subst n;refine⟨by simp only[Mq];omega,ai (by omega) (by omega),y+1,by omega,by omega,by omega,by rw[sO,<-Jc];simp only[MH],by repeat' (first|exact trivial|rfl|apply And.intro)⟩
  ·replace m:¬(y:Int)<(C.ops.length:Int):=fun q=>m (Xd q);have m:y=C.ops.length:=by omega
   subst m;refine⟨ai (by omega) (by omega),x+1,by omega,by omega,by omega,by rw[sC,Jb],by repeat' (first|exact trivial|rfl|apply And.intro)⟩
 ·replace k:¬(x:Int)<(l.length:Int):=fun q=>k (Xd q);have k:x=l.length:=by omega
  subst k;have e:lv l=(pX l,0):=by unfold lv;rw[Mp (fun z=>z h)]
  rw[e,Ja];exact Xr
theorem Bg(s:Str)(ho:s.length<=68719476736) :
  let A:=(9223372036854775807:Int);let B:=(4:Int);let C:=(0:Int);let D:=tkN s C false;let E:=s=s;let F:=C=C;let G:=True;let H:=(3:Int);let I:=(List.length s+(2:Nat));let J:=(140737488355328:Nat);let K:=(1:Int);let L:=mh s;let M:=G/\L.1=[]/\(310:Int)=L.2/\G;let N:=(↑(List.length s):Int);let O:=C=L.2/\G;(∃(x:Nat×Int×List Chnk×Int×Bool),(AtS s x.2.2.2.1/\x.2.1<=A/\eH s x.2.2.2.1 x.2.2.2.2<=(↑x.1:Int)/\(↑(wCs x.2.2.1):Int)<=x.2.2.2.1+bg x.2.2.2.2 B/\chL s x.1 x.2.1 x.2.2.1 x.2.2.2.1 x.2.2.2.2=nL s)/\D.1=x.2.1/\x.2.2.1=[]/\E/\F/\E/\D.2.1=x.2.2.2.1/\D.2.2=x.2.2.2.2/\List.length x.2.2.1=(0:Nat)/\G)/\∀(x:Nat×Int×List Chnk×Int×Bool),let P:=tkN s x.2.2.2.1 x.2.2.2.2;let Q:=tkN s P.2.1 P.2.2;let R:=x.2.1=x.2.1;let S:=x.2.2.1=x.2.2.1;let T:=List.length x.2.2.1=List.length x.2.2.1;let U:=inR IntKind.i64 (x.2.1-K);let V:=lv x.2.2.1;let W:=if x.2.2.2.2=true then M else if(!decide (x.2.2.2.1=N))=true then M else sq x.2.2.1/\if(!decide (V.2=C))=true then M else if(!decide (V.1=s))=true then M else G/\x.2.2.1=L.1/\O;AtS s x.2.2.2.1/\x.2.1<=A/\eH s x.2.2.2.1 x.2.2.2.2<=(↑x.1:Int)/\(↑(wCs x.2.2.1):Int)<=x.2.2.2.1+bg x.2.2.2.2 B/\chL s x.1 x.2.1 x.2.2.1 x.2.2.2.1 x.2.2.2.2=nL s->if decide (C<x.2.1)=true then if(!x.2.2.2.2)=true then(∃(x_1:Nat×Int×List Opn×Int×Bool),(AtS s x_1.2.2.2.1/\x_1.2.1<=A/\eH s x_1.2.2.2.1 x_1.2.2.2.2<=(↑x_1.1:Int)/\(↑(wOs x_1.2.2.1):Int)<=x_1.2.2.2.1+bg x_1.2.2.2.2 H/\iS s x_1.1 x_1.2.1 x_1.2.2.1 x_1.2.2.2.1 x_1.2.2.2.2=iS s I Q.1 [] Q.2.1 Q.2.2)/\Q.1=x_1.2.1/\R/\S/\E/\F/\true=true/\P.1=P.1/\x_1.2.2.1=[]/\E/\Q.2.1=x_1.2.2.2.1/\Q.2.2=x_1.2.2.2.2/\List.length x_1.2.2.1=(0:Nat)/\T/\G)/\∀(x_1:Nat×Int×List Opn×Int×Bool),let X:=AtS s x_1.2.2.2.1;let Y:=opF s x_1.2.2.2.1 x_1.2.2.2.2;let Z:=[{args:=P.1,ops:=x_1.2.2.1:Chnk}];let a:=(T/\(List.length x.2.2.1+List.length Z)*(32:Nat)<=J)/\U/\∃(y:Nat×Int×List Chnk×Int×Bool),(AtS s y.2.2.2.1/\y.2.1<=A/\eH s y.2.2.2.1 y.2.2.2.2<=(↑y.1:Int)/\(↑(wCs y.2.2.1):Int)<=y.2.2.2.1+bg y.2.2.2.2 B/\chL s y.1 y.2.1 y.2.2.1 y.2.2.2.1 y.2.2.2.2=nL s)/\y.1<x.1/\x.2.1-K=y.2.1/\x.2.2.1++Z=y.2.2.1/\E/\F/\E/\x_1.2.2.2.1=y.2.2.2.1/\x_1.2.2.2.2=y.2.2.2.2/\List.length (x.2.2.1++Z)=List.length y.2.2.1/\G;X/\x_1.2.1<=A/\eH s x_1.2.2.2.1 x_1.2.2.2.2<=(↑x_1.1:Int)/\(↑(wOs x_1.2.2.1):Int)<=x_1.2.2.2.1+bg x_1.2.2.2.2 H/\iS s x_1.1 x_1.2.1 x_1.2.2.1 x_1.2.2.2.1 x_1.2.2.2.2=iS s I Q.1 [] Q.2.1 Q.2.2->if decide (C<x_1.2.1)=true then if(!x_1.2.2.2.2)=true then(X/\List.length s<=(68719476736:Nat))/\(List.length x_1.2.2.1=List.length x_1.2.2.1/\(List.length x_1.2.2.1+List.length [Y.1])*(88:Nat)<=J)/\inR IntKind.i64 (x_1.2.1-K)/\∃(y:Nat×Int×List Opn×Int×Bool),(AtS s y.2.2.2.1/\y.2.1<=A/\eH s y.2.2.2.1 y.2.2.2.2<=(↑y.1:Int)/\(↑(wOs y.2.2.1):Int)<=y.2.2.2.1+bg y.2.2.2.2 H/\iS s y.1 y.2.1 y.2.2.1 y.2.2.2.1 y.2.2.2.2=iS s I Q.1 [] Q.2.1 Q.2.2)/\y.1<x_1.1/\x_1.2.1-K=y.2.1/\R/\S/\E/\F/\true=true/\P.1=P.1/\x_1.2.2.1++[Y.1]=y.2.2.1/\E/\Y.2.1=y.2.2.2.1/\Y.2.2=y.2.2.2.2/\List.length (x_1.2.2.1++[Y.1])=List.length y.2.2.1/\T/\G else a else a else W else W:=by
 conv=>zeta
 have h0:AtS s 0:=⟨Oq _,by omega⟩;obtain⟨a1,a2,a3,a4,a5⟩:=jG (b:=false) h0;have hw:=Lg s
 have fin:∀(l:List Chnk)(q:Int)(c:Bool),(l,q,c)=nL s->if c=true then True/\(mh s).1=[]/\(310:Int)=(mh s).2/\True else if(!decide (q=(s.length:Int)))=true then True/\(mh s).1=[]/\(310:Int)=(mh s).2/\True else
   sq l/\if(!decide ((lv l).2=(0:Int)))=true then True/\(mh s).1=[]/\(310:Int)=(mh s).2/\True else if(!decide ((lv l).1=s))=true then True/\(mh s).1=[]/\(310:Int)=(mh s).2/\True else True/\l=(mh s).1/\(0:Int)=(mh s).2/\True:=by
  intro l q c hq;unfold mh;rw[<-hq]at hw⊢;apply aa<;>intro k
  ·rw[Mu (.inl k)];exact Xr
  apply aa<;>intro m
  ·have m:q≠(s.length:Int):=by simpa using m
   rw[Mu (.inr m)];exact Xr
  have m:q=(s.length:Int):=by simpa using m
  have n1:¬(c=true∨q≠(s.length:Int)):=fun z=>z.elim k (fun z=>z m);rw[Mp n1];have hw:=hw (O1.2 k);have he:=J9 l;refine⟨by unfold sq;simp only at hw;omega,aa (fun n=>?_) (fun n=>?_)⟩
  ·have n:(lv l).2≠0:=by simpa using n
   rw[Mu (.inl n)];exact Xr
  have n:(lv l).2=0:=by simpa using n
  apply aa<;>intro r
  ·have r:(lv l).1≠s:=by simpa using r
   rw[Mu (.inr r)];exact Xr
  have r:(lv l).1=s:=by simpa using r
  rw[Mp (fun z=>z.elim (fun z=>z n) (fun z=>z r))];exact Xr
 refine⟨⟨(s.length+2,(tkN s 0 false).1,[],(tkN s 0 false).2.1,(tkN s 0 false).2.2),⟨a3,a2,jH a3,by have:=a3.1;simp only[wCs,O8,PL];unfold bg;split<;>omega,rfl⟩,by repeat' (first|exact trivial|rfl|apply And.intro)⟩,?_⟩;rintro⟨f,n,l,q,c⟩ ⟨i1,i2,i3,i4,i5⟩;simp only at i1 i2 i3 i4 i5⊢
 cases f with
 |zero=>have:=iB (b:=c) i1;omega
 |succ f=>
 unfold chL at i5;apply aa<;>intro r
 ·replace r:=Xo r;apply aa<;>intro t
  ·have t:c=false:=by simpa using t
   subst t;rw[Mu ⟨r,rfl⟩]at i5;have q1:tkN s q false=ch1 s q false:=rfl;simp only[q1];have q2:tkN s (ch1 s q false).2.1 (ch1 s q false).2.2=ch2 s q false:=rfl;simp only[q2];have q3:iS s (s.length+2) (ch2 s q false).1 [] (ch2 s q false).2.1 (ch2 s q false).2.2=ch3 s q false:=rfl;simp only[q3];obtain⟨b1,b2,b3⟩:=KD (b:=false) i1;obtain⟨d1,d2,d3,d4⟩:=KE (b:=false) i1;have e2:(ch2 s q false).1<=9223372036854775807:=(jG (jG (b:=false) i1).2.2.1).2.1;have i6:=i1.2;have hs:=gD i1 d1 (fun z=>(d3 z).2);simp only[bg,N7,N1]at i4;have wl:=As l
   have next:∀(ops:List Opn)(p':Int)(c':Bool),(ops,p',c')=ch3 s q false->((True)/\(l.length+([{args:=(ch1 s q false).1,ops:=ops}]:List Chnk).length) *32<=140737488355328)/\inR IntKind.i64 (n-1)/\
     ∃(y:Nat×Int×List Chnk×Int×Bool),(AtS s y.2.2.2.1/\y.2.1<=9223372036854775807/\eH s y.2.2.2.1 y.2.2.2.2<=(y.1:Int)/\(wCs y.2.2.1:Int)<=y.2.2.2.1+bg y.2.2.2.2 4/\chL s y.1 y.2.1 y.2.2.1 y.2.2.2.1 y.2.2.2.2=nL s)/\y.1<f+1/\
      n-1=y.2.1/\l++[{args:=(ch1 s q false).1,ops:=ops}]=y.2.2.1/\True/\True/\True/\p'=y.2.2.2.1/\c'=y.2.2.2.2/\(l++[({args:=(ch1 s q false).1,ops:=ops}:Chnk)]).length=y.2.2.1.length/\True:=by
    intro ops p' c' he;have e1:ops=(ch3 s q false).1:=by rw[<-he]
    have e3:p'=(ch3 s q false).2.1:=by rw[<-he]
    have e4:c'=(ch3 s q false).2.2:=by rw[<-he]
    subst e1 e3 e4;refine⟨⟨trivial,by simp only[Mr];omega⟩,ai (by omega) (by omega),(f,n-1,l++[⟨(ch1 s q false).1,(ch3 s q false).1⟩],(ch3 s q false).2.1,(ch3 s q false).2.2),⟨d1,by simp only;omega,by simp only;omega,?_,i5⟩,by simp,by repeat' (first|exact trivial|rfl|apply And.intro)⟩;simp only[CM];have ew:wCs [(⟨(ch1 s q false).1,(ch3 s q false).1⟩:Chnk)]=wC ⟨(ch1 s q false).1,(ch3 s q false).1⟩:=by simp[wCs]
    rw[ew];omega
   refine⟨⟨(s.length+2,(ch2 s q false).1,[],(ch2 s q false).2.1,(ch2 s q false).2.2),⟨b1,e2,jH b1,by have:=b1.1;simp only[wOs,O8,PL];unfold bg;split<;>omega,rfl⟩,by repeat' (first|exact trivial|rfl|apply And.intro)⟩,?_⟩;rintro⟨g,m,ops,p',c'⟩ ⟨j1,j2,j3,j4,j5⟩;simp only at j1 j2 j3 j4 j5⊢
   cases g with
   |zero=>have:=iB (b:=c') j1;omega
   |succ g=>
   unfold iS at j5;apply aa<;>intro u
   ·replace u:=Xo u;apply aa<;>intro v
    ·have v:c'=false:=by simpa using v
     subst v;rw[Mu ⟨u,rfl⟩]at j5;obtain⟨k1,k2,k3,k4⟩:=KC (b:=false) j1;have hs2:=gD j1 k1 (fun z=>(k3 z).2);have j6:=j1.2;have wo:=Ar ops;simp only[bg,N7,N1]at j4;refine⟨⟨j1,ho⟩,⟨by trivial,by simp only[Mr];omega⟩,ai (by omega) (by omega),(g,m-1,ops++[(opF s p' false).1],(opF s p' false).2.1,(opF s p' false).2.2),⟨k1,by simp only;omega,by simp only;omega,?_,j5⟩,by simp,by repeat' (first|exact trivial|rfl|apply And.intro)⟩;simp only[CL];have ew:wOs [(opF s p' false).1]=wO (opF s p' false).1:=by simp[wOs]
     rw[ew];omega
    ·have v:c'=true:=by simpa using v
     rw[Mp (fun z=>by rw[v]at z;cases z.2)]at j5;exact next ops p' c' j5
   ·replace u:¬0<m:=fun z=>u (Xd z);rw[Mp (fun z=>u z.1)]at j5;exact next ops p' c' j5
  ·have t:c=true:=by simpa using t
   rw[Mp (fun z=>by rw[t]at z;cases z.2)]at i5;exact fin l q c i5
 ·replace r:¬0<n:=fun z=>r (Xd z);rw[Mp (fun z=>r z.1)]at i5;exact fin l q c i5
end Go.AL.Seat
end
section
open Go Go.AL Go.Proofs Go.Shelf Go.Pd
namespace Go.AL.Seat
variable [Tabs]
def nn:Nat->Bool:=fun _=>false
def cf(k:Nat->Bool)(l:Nat->List (Option Nat))(p r m:Nat->Bool)(s:Nat->List AV->List (Nat×SObj)->Option Ans):Cfg:=⟨tbl,s,k,l,p,r,m⟩
def a0:An:=⟨[],[],[]⟩
theorem g1(k:Nat->Bool)(l:Nat->List (Option Nat))(p r m:Nat->Bool){s:Nat->List AV->List (Nat×SObj)->Option Ans}(hS:bN Tryz.prog s)(a:An){f:Nat}{fn:Func}(hf:Tryz.prog.funcs[f]?=some fn)
 {args:List AV}{S:List (Nat×SObj)}{A:Ans}{Q:Prop}(q:Q)(h:fwp (cf k l p r m s) a fn args S A=Q:=by kernel_rfl):aw Tryz.prog f args S A:=Gm (C:=cf k l p r m s) mixed Ht hS hf q h
theorem g0{s:Nat->List AV->List (Nat×SObj)->Option Ans}(hS:bN Tryz.prog s)(a:An){f:Nat}{fn:Func}(hf:Tryz.prog.funcs[f]?=some fn)
 {args:List AV}{S:List (Nat×SObj)}{A:Ans}{Q:Prop}(q:Q)(h:fwp (cf nn (fun _=>[]) nn nn nn s) a fn args S A=Q:=by kernel_rfl):aw Tryz.prog f args S A:=Gm (C:=cf nn (fun _=>[]) nn nn nn s) mixed Ht hS hf q h
theorem sc{f:Nat}{g:Pat}{l:List (Nat×Pat)}(h:ag Tryz.prog f g)(hl:bN Tryz.prog (hX l)):bN Tryz.prog (hX ((f,g)::l)):=rV h hl
theorem sn:bN Tryz.prog (hX []):=uj
theorem ee{f:Nat}{fn:Func}(h:Tryz.prog.funcs[f]?=some fn)(e:(fn.body.isNone || (fn.name == "runtime.NumGoroutine"))=false:=by kernel_rfl):au Tryz.prog f:=au.mk' h e
variable [SeatLaid]
theorem oY:ag Tryz.prog 102 (p1 (.int .u8) fun c=>.ret (.bool (cn c))):=
 aW (ee Tryz.func102) fun c _ _=>g0 sn a0 Tryz.func102 (Hu c)
theorem oZ:ag Tryz.prog 103 (p1 (.int .u8) fun c=>.ret (.bool (cv c))):=
 aW (ee Tryz.func103) fun c _ _=>g0 sn a0 Tryz.func103 (Hv c)
theorem EN:ag Tryz.prog 106 (p1 (.int .u8) fun c=>.ret (.bool (gg c))):=
 aW (ee Tryz.func106) fun c _ _=>g0 sn a0 Tryz.func106 (Hw c)
theorem yr:ag Tryz.prog 104 (p1 (.int .u8) fun c=>.ret (.bool (eY c))):=
 aW (ee Tryz.func104) fun c _ _=>g0 (sc oY (sc oZ (sc EN sn))) a0 Tryz.func104 (JQ c)
theorem Bi:ag Tryz.prog 139 (pf .str 102 fun s=>.ret (.bool (cW cn s))):=
 pC (ee Tryz.func139) fun s hs _=>g0 (sc oY (sc oZ (sc yr sn))) ⟨[(4,fun S0=>⟨Nat,fun k=>k<=s.length/\cW cn s=(s.drop k).all fun c=>eY (bI c),fun k=>[(22,.int .i64 k)],fun _=>[],fun k=>s.length-k⟩)],[],[]⟩ Tryz.func139 (EF s hs)
theorem Bj:ag Tryz.prog 139 (pf .str 103 fun s=>.ret (.bool (cW cv s))):=
 pC (ee Tryz.func139) fun s hs _=>g0 (sc oY (sc oZ (sc yr sn))) ⟨[(4,fun S0=>⟨Nat,fun k=>k<=s.length/\cW cv s=(s.drop k).all fun c=>eY (bI c),fun k=>[(22,.int .i64 k)],fun _=>[],fun k=>s.length-k⟩)],[],[]⟩ Tryz.func139 (EG s hs)
theorem HG:ag Tryz.prog 105 (p1 .str fun s=>.ret (.bool (nE s))):=
 aW (ee Tryz.func105) fun s _ _=>g0 sn a0 Tryz.func105 (JR s)
theorem iR:ag Tryz.prog 96 (p1 .str fun s=>.ret (.bool (az s))):=
 aW (ee Tryz.func96) fun s _ _=>g0 (sc Bi (sc HG sn)) a0 Tryz.func96 (JS s)
theorem ma:ag Tryz.prog 97 (p1 .str fun s=>.ret (.bool (cH s))):=
 aW (ee Tryz.func97) fun s _ _=>g0 (sc Bj sn) a0 Tryz.func97 (Hx s)
theorem mZ:ag Tryz.prog 141 (p1 (.lst .str) fun a=>⟨none,none,.fn 181 [.ptr 1 0],[(1,.box (.lst .str a none))]⟩):=
 aW (ee Tryz.func141) fun a _ _=>g0 sn a0 Tryz.func141 (EH a)
theorem sU:ag Tryz.prog 60 (p1 (.int .u64) fun n=>.ret (.int .i64 (bq n))):=
 aW (ee Tryz.func60) fun n _ _=>g0 (sc (EE) sn) a0 Tryz.func60 (EI n)
theorem ly:ag Tryz.prog 28 (p1 (.int .u64) fun n=>.ret (.str (hZ n))):=
 aW (ee Tryz.func28) fun n _ _=>g1 nn (fun _=>[]) nn (fun d=>Nat.beq d 9||Nat.beq d 18||Nat.beq d 32||Nat.beq d 5014) nn (sc sU sn) ⟨[(7,fun S0=>⟨Nat,fun j=>(j:Int)<=bq n,fun j=>[(5,.int .i64 (bq n-1-j)),(4,.glst (1+j) (mW n j).length 14)],fun j=>[(14,.grow (.int .u8) (1+j) (mW n j))],fun j=>(bq n).toNat-j⟩)],[],[]⟩ Tryz.func28 (Bb n)
theorem uH:ag Tryz.prog 29 (p1 .str fun s=>⟨some (s.length<=140737488355328),none,.str (dj s),[]⟩):=
 aW (ee Tryz.func29) fun s _ ho=>g0 (sc ly sn) a0 Tryz.func29 (Hy s (ho _ rfl))
theorem EO:ag Tryz.prog 30 (p1 (.lst .str) fun l=>⟨some ((iN l).length<=140737488355328),none,.str (iN l),[]⟩):=
 aW (ee Tryz.func30) fun l hl ho=>g0 (sc ly (sc uH (sc (ED) (sc (Ba) sn)))) ⟨[(4,fun S0=>⟨Nat,fun k=>k<=l.length,fun k=>[(13,.int .i64 k)],fun k=>[(3,.bld 127 5 (hZ l.length++(l.take k).flatMap dj))],fun k=>l.length-k⟩)],[],[]⟩ Tryz.func30 (Hz l hl (ho _ rfl))
theorem EP:ag Tryz.prog 95 (Lf):=
 J5 (ee Tryz.func95) fun s p b ho=>g0 sn a0 Tryz.func95 (HA s p b ho)
theorem p7:ag Tryz.prog 65 (p2 .str (.int .i64) fun s p=>.ret (.tup [.int .u64 (aN s p).1,.int .i64 (aN s p).2.1,.int .i64 (aN s p).2.2])):=
 dx (ee Tryz.func65) fun s p hs _ _=>g0 (sc EP (sc sU sn)) ⟨[(10,fun S0=>⟨Nat,fun k=>(k:Int)<=bZ (an s p).1,fun k=>[(32,.int .i64 k),(10,.int .u64 (cq s k (bX (an s p).1,(an s p).2.1,(an s p).2.2)).1)],fun k=>[(3,.box (.int .i64 (cq s k (bX (an s p).1,(an s p).2.1,(an s p).2.2)).2.1)),(7,.box (.bool (cq s k (bX (an s p).1,(an s p).2.1,(an s p).2.2)).2.2))],fun k=>(bZ (an s p).1).toNat-k⟩)],[],[(100009,fun S0=>⟨[(10,.int .u64 (bX (an s p).1)),(11,.int .i64 (bZ (an s p).1))],[]⟩)]⟩ Tryz.func65 (HC s p hs)
theorem sV:ag Tryz.prog 66 (p2 .str (.int .i64) fun s p=>.ret (.tup [.str (cA s p).1,.int .i64 (cA s p).2.1,.int .i64 (cA s p).2.2])):=
 dx (ee Tryz.func66) fun s p hs _ _=>g0 (sc p7 sn) a0 Tryz.func66 (EJ s p hs)
theorem Bk:ag Tryz.prog 67 (p2 .str (.int .i64) fun s p=>⟨some (s.length<=1099511627776),none,.tup [.lst .str (dy s p).1 none,.int .i64 (dy s p).2.1,.int .i64 (dy s p).2.2],[]⟩):=
 dx (ee Tryz.func67) fun s p hs _ ho=>g0 (sc p7 (sc sV sn)) ⟨[(5,fun S0=>⟨Nat×Int×List Str×Int,fun x=>AtS s x.2.2.2/\(s.length:Int)+1<=x.1+x.2.2.2/\InU x.2.1/\(wL x.2.2.1:Int)<=x.2.2.2/\fA s x.1 x.2.1 x.2.2.1 x.2.2.2=dy s p,fun x=>[(7,.int .u64 x.2.1),(9,.lst .str x.2.2.1 (some 701)),(1,.int .i64 x.2.2.2)],fun x=>[(701,.tail .str x.2.2.1.length)],fun x=>x.1⟩)],[],[]⟩ Tryz.func67 (EK s p hs (ho _ rfl))
theorem Bl:ag Tryz.prog 98 (p1 (.lst .str) fun l=>⟨some (l.length *16<=140737488355328),none,.bool (eG l),[]⟩):=
 aW (ee Tryz.func98) fun l _ ho=>g0 (sc mZ (sc (mV) (sc iR (sc (lu) sn)))) ⟨[(2,fun S0=>⟨Nat,fun k=>k<=l.length/\l.all az=(l.drop k).all az,fun k=>[(8,.int .i64 k)],fun _=>[],fun k=>l.length-k⟩)],[],[]⟩ Tryz.func98 (EL l (ho _ rfl))
theorem yt:ag Tryz.prog 73 (p1 (.st .op) fun o=>⟨some (o.names.length *16<=140737488355328),none,.bool (lU o),[]⟩):=
 aW (ee Tryz.func73) fun o _ ho=>g0 (sc iR (sc ma (sc Bl sn))) ⟨[],[],[(100012,fun S0=>⟨[(9,.bool (is8 o.kind))],[]⟩),(100021,fun S0=>⟨[(38,.bool (isB o.kind))],[]⟩),(100024,fun S0=>⟨[(44,.bool (isU o.kind))],[]⟩),(100027,fun S0=>⟨[(50,.bool (isR o.kind))],[]⟩),(100032,fun S0=>⟨[(6,.int .i64 (toN o))],[]⟩)]⟩ Tryz.func73 (Bc o (ho _ rfl))
theorem ER:ag Tryz.prog 72 (p1 (.st .op) fun o=>.ret (.tup [.int .i64 (jI o).1,.int .i64 (jI o).2])):=
 aW (ee Tryz.func72) fun o _ _=>g1 nn (fun _=>[]) nn (fun d=>Nat.beq d 17) nn sn ⟨[],[],[(100008,fun S0=>⟨[(6,.bool (is6 o.kind))],[]⟩),(100019,fun S0=>⟨[(27,.bool (is4 o.kind))],[]⟩),(100026,fun S0=>⟨[(38,.bool (is2 o.kind))],[]⟩)]⟩ Tryz.func72 (HD o)
theorem ES:ag Tryz.prog 71 (GR):=
 GS (ee Tryz.func71) fun l n tgt s ho=>g0 sn a0 Tryz.func71 (HE l n tgt s ho)
theorem Bm:ag Tryz.prog 39 (Li):=
 Je (ee Tryz.func39) fun code k bs n ho=>g1 nn (fun _=>[]) nn (fun d=>Nat.beq d 87||Nat.beq d 88||Nat.beq d 126||Nat.beq d 162||Nat.beq d 172||Nat.beq d 178||Nat.beq d 229) nn (sc ES (sc ER (sc yt sn))) ⟨[(5,fun S0=>⟨Nat,fun j=>j<=cC code k+1,fun j=>[(40,.int .i64 j)],fun j=>[(37,.box (.row (.st .stt) (gn (cC code k+1) j)))],fun j=>cC code k+1-j⟩),(13,fun S0=>⟨Nat×List Stt×List Stt,fun x=>x.1<=cC code k/\x.2.1.length=cC code k+1/\x.2.2.length=code.length/\kF code k (bs.getD k.toNat default) (cC code k) ((iu code k).ops.drop x.1) x.1 x.2.1 x.2.2=dt code k bs,fun x=>[(55,.int .i64 x.1)],fun x=>[(37,.box (.row (.st .stt) x.2.1)),(901,.box (.row (.st .stt) x.2.2))],fun x=>cC code k-x.1⟩),(46,fun S0=>pb S0 55 fun i0=>Jf S0 37 12 fun l0 s0=>⟨Nat×List Stt,fun x=>x.1<=((iu code k).ops.getD i0.toNat default).tos.length/\x.2.length=cC code k+1/\kn i0 (cC code k) s0 (((iu code k).ops.getD i0.toNat default).tos.drop x.1) x.2=kn i0 (cC code k) s0 ((iu code k).ops.getD i0.toNat default).tos l0,fun x=>[(234,.int .i64 x.1)],fun x=>[(37,.box (.row (.st .stt) x.2))],fun x=>((iu code k).ops.getD i0.toNat default).tos.length-x.1⟩)],[],[(100051,fun S0=>Lj S0 fun i l b=>([(15,.bool (gF code k (bs.getD k.toNat default) (cC code k) i ((iu code k).ops.getD i.toNat default) l b)),(10,.int .i64 i)],[(12,.box (.st .stt (sF (cC code k) i ((iu code k).ops.getD i.toNat default) l))),(37,.box (.row (.st .stt) (lF (cC code k) i ((iu code k).ops.getD i.toNat default) l))),(901,.box (.row (.st .stt) (bF code k (bs.getD k.toNat default) (cC code k) i ((iu code k).ops.getD i.toNat default) l b)))]))]⟩ Tryz.func39 (EM code k bs n ho)
theorem pQ:ag Tryz.prog 19 (p2 (.lst (.st .chunk)) (.int .i64) fun l n=>⟨some (sq l),none,.int .i64 (oP l n),[]⟩):=
 dx (ee Tryz.func19) fun l n hl _ ho=>g0 (sc Bm sn) ⟨[(6,fun S0=>⟨Nat×Int,fun x=>x.1<=l.length/\0<=x.2/\x.2<=4096/\eJ (l.drop x.1) x.2=eJ l 0/\∀j:Nat,j<x.1->(l.getD j default).ops.length<=4096,fun x=>[(36,.int .i64 x.1),(5,.int .i64 x.2)],fun _=>[],fun x=>l.length-x.1⟩),(14,fun S0=>⟨Nat,fun k=>k<=l.length,fun k=>[(73,.int .i64 k)],fun k=>[(65,.box (.row (.st .stt) (gn l.length k)))],fun k=>l.length-k⟩),(20,fun S0=>⟨Nat×List Stt,fun x=>x.1<=l.length/\x.2.length=l.length/\oO l (l.length-x.1) x.1 x.2=oO l l.length 0 (bg0 l.length n),fun x=>[(93,.int .i64 x.1)],fun x=>[(65,.box (.row (.st .stt) x.2))],fun x=>l.length-x.1⟩)],[],[]⟩ Tryz.func19 (Be l n hl (ho _ rfl))
theorem yu:ag Tryz.prog 35 (Jh tkA):=
 CP (ee Tryz.func35) fun s p b _=>g0 (sc p7 sn) a0 Tryz.func35 (JT s p b)
theorem JU:ag Tryz.prog 36 (Jh opA):=
 CP (ee Tryz.func36) fun s p b ho=>g0 (sc yu (sc sV (sc Bk sn))) ⟨[(12,fun S0=>⟨Nat×Int×List Int×Int×Bool,fun x=>AtS s x.2.2.2.1/\x.2.1<=9223372036854775807/\eH s x.2.2.2.1 x.2.2.2.2<=x.1/\(x.2.2.1.length:Int)<=x.2.2.2.1+bg x.2.2.2.2 1/\toL s x.1 x.2.1 x.2.2.1 x.2.2.2.1 x.2.2.2.2=op6 s p b,fun x=>[(8,.int .i64 x.2.1)],fun x=>[(3,.box (.agg [.int .i64 (op1 s p b).1,.int .i64 (op2 s p b).1,.str (op3 s p b).1,.lst .str (op4 s p b).1 none,.lst (.int .i64) x.2.2.1 (some 701),.int .i64 0])),(900,.box (.agg [.str s,.int .i64 x.2.2.2.1,.bool x.2.2.2.2])),(701,.tail (.int .i64) x.2.2.1.length)],fun x=>x.1⟩)],[],[]⟩ Tryz.func36 (LQ s p b (ho _ rfl))
theorem ET:ag Tryz.prog 27 (p1 (.int .i64) fun n=>.ret (.str (dz n))):=
 aW (ee Tryz.func27) fun n _ _=>g1 nn (fun _=>[]) nn (fun d=>Nat.beq d 4) nn (sc ly sn) a0 Tryz.func27 (HF n)
theorem pR:ag Tryz.prog 15 (p1 (.lst (.st .chunk)) fun l=>⟨some (sq l),none,.tup [.str (lv l).1,.int .i64 (lv l).2],[]⟩):=
 aW (ee Tryz.func15) fun l hl ho=>g0 (sc (pQ) (sc ET (sc uH (sc EO sn)))) ⟨[(6,fun S0=>⟨Nat,fun k=>k<=l.length,fun k=>[(21,.int .i64 k),(5,.str (prC l k))],fun k=>[],fun k=>l.length-k⟩),(10,fun S0=>pb S0 21 fun k0=>⟨Nat,fun j=>j<=(l.getD k0.toNat default).ops.length,fun j=>[(40,.int .i64 j),(5,.str (prC l k0.toNat++prO (l.getD k0.toNat default) j))],fun _=>[],fun j=>(l.getD k0.toNat default).ops.length-j⟩),(14,fun S0=>pb S0 21 fun k0=>pb S0 40 fun j0=>⟨Nat,fun i=>i<=((l.getD k0.toNat default).ops.getD j0.toNat default).tos.length,fun i=>[(72,.int .i64 i),(5,.str (prC l k0.toNat++prO (l.getD k0.toNat default) j0.toNat++prT ((l.getD k0.toNat default).ops.getD j0.toNat default) i))],fun _=>[],fun i=>((l.getD k0.toNat default).ops.getD j0.toNat default).tos.length-i⟩)],[],[]⟩ Tryz.func15 (Bf l hl (ho _ rfl))
theorem yw:ag Tryz.prog 17 (p1 .str fun s=>⟨some (s.length<=68719476736),none,.tup [.lst (.st .chunk) (mh s).1 none,.int .i64 (mh s).2],[]⟩):=
 aW (ee Tryz.func17) fun s _ ho=>g0 (sc yu (sc JU (sc pR sn))) ⟨[(4,fun S0=>⟨Nat×Int×List Chnk×Int×Bool,fun x=>AtS s x.2.2.2.1/\x.2.1<=9223372036854775807/\eH s x.2.2.2.1 x.2.2.2.2<=x.1/\(wCs x.2.2.1:Int)<=x.2.2.2.1+bg x.2.2.2.2 4/\chL s x.1 x.2.1 x.2.2.1 x.2.2.2.1 x.2.2.2.2=nL s,fun x=>[(6,.int .i64 x.2.1),(5,.lst (.st .chunk) x.2.2.1 (some 702))],fun x=>[(13,.box (.agg [.str s,.int .i64 x.2.2.2.1,.bool x.2.2.2.2])),(702,.tail (.st .chunk) x.2.2.1.length)],fun x=>x.1⟩),(8,fun S0=>Ji S0 13 fun p0 b0=>pb S0 8 fun k0=>Jj S0 7 fun a0=>⟨Nat×Int×List Opn×Int×Bool,fun x=>AtS s x.2.2.2.1/\x.2.1<=9223372036854775807/\eH s x.2.2.2.1 x.2.2.2.2<=x.1/\(wOs x.2.2.1:Int)<=x.2.2.2.1+bg x.2.2.2.2 3/\iS s x.1 x.2.1 x.2.2.1 x.2.2.2.1 x.2.2.2.2=iS s (s.length+2) k0 [] p0 b0,fun x=>[(8,.int .i64 x.2.1)],fun x=>[(7,.box (.agg [.int .i64 a0,.lst (.st .op) x.2.2.1 (some 701)])),(13,.box (.agg [.str s,.int .i64 x.2.2.2.1,.bool x.2.2.2.2])),(701,.tail (.st .op) x.2.2.1.length)],fun x=>x.1⟩)],[],[]⟩ Tryz.func17 (Bg s (ho _ rfl))
end Go.AL.Seat
end
section
namespace Go.Proofs
open Go.Shelf
def Tryz.lays2_16_ren:Go.Shelf.Ren:=⟨fun|16=>88|n=>n,fun|24=>22|9=>9|4=>4|n=>n,fun|n=>n⟩
theorem Tryz.lays2_16:Go.Proofs.Lays2.n16 Tryz.prog Tryz.lays2_16_ren:={
 mixed:=by kernel_rfl
 f16:=Xt Tryz.func88
 t4:=Tryz.underlying4
 a4:=Tryz.isAgg4
 z4:=Tryz.sizeOf4
 v4:=Tryz.zeroValue4
 t9:=Tryz.underlying9
 a9:=Tryz.isAgg9
 z9:=Tryz.sizeOf9
 v9:=Tryz.zeroValue9
 t24:=Tryz.underlying22
 a24:=Tryz.isAgg22
 z24:=Tryz.sizeOf22
 v24:=Tryz.zeroValue22
 i9:=by kernel_rfl}
end Go.Proofs
end
section
namespace Go.AL.Seat
open Go Go.AL Go.Proofs Go.Shelf Go.Pd
variable [Tabs]
theorem uI:ag Tryz.prog 88 xT:=xU Tryz.lays2_16 rfl (au.mk' Tryz.func88 (by kernel_rfl))
end Go.AL.Seat
end
noncomputable section
namespace Go.AL.Seat
open Go Go.AL Go.Proofs Go.Shelf Go.Pd
variable [Tabs]
def LR(t:Str):Bool:=!t.isEmpty&&decide (t.length<=15)&&t.all fun c=>decide (48<=c.toNat)&&decide (c.toNat<=57)
theorem JV{t:Str}(h:LR t=true):uk t:=by unfold LR at h;simp only[Mo,MO,MD,MI]at h;exact⟨fun e=>(by rw[e]at h;exact absurd h.1.1 (by decide)),h.1.2,h.2⟩
def sW:List (Nat×Pat):=
 [(143,p1 .str fun s=>.ret (.tup [.int .i32 ((kj s).1:Int),.int .i64 ((kj s).2:Int)])),
  (156,p2 .str (.int .u8) fun a c=>.ret (.int .i64 (Gu a c))),
  (108,q2 .str .str (fun _ b=>decide (b=s6)) fun a _=>.str (s7 a)),
  (151,q2 .str .str (fun a b=>decide (b=[45])&&decide (a.length<4294967281)) fun a _=>.tup [.str (jm a),.str (mU a),.bool (oJ a)]),
  (152,q2 .str .str (fun a b=>decide (b=[46])&&decide (a.length<4294967281)) fun a _=>.lst .str (splitB 46 a) none),
  (158,q2 .str .str (fun _ b=>decide (b.length=1)) fun a b=>.bool (decide (b.getD 0 0∈a))),
  (154,q1 .str LR fun t=>.tup [.int .i64 (mC t),.nilif]),
  (96,p1 .str fun s=>.ret (.bool (az s))),(97,p1 .str fun s=>.ret (.bool (cH s)))]
theorem sX[SeatLaid]:bN Tryz.prog (hX sW):=
 sc sh (sc tK (sc (uG GC fun _ _ h=>Xo h)
  (sc (uG J3 fun _ _ h=>by rw[Mo]at h;exact⟨Xo h.1,Xo h.2⟩)
  (sc (uG Ed fun _ _ h=>by rw[Mo]at h;exact⟨Xo h.1,Xo h.2⟩)
  (sc (uG vU fun _ _ h=>Xo h) (sc (Hs GB fun _ h=>JV h)
  (sc iR (sc ma sn))))))))
end Go.AL.Seat
end
noncomputable section
namespace Go.AL.Seat
open Go Go.AL Go.Proofs
variable [Tabs]
def aB:List (Nat×TR):=[(3,r2),(9,r9),(26,⟨.strct false [(0,3),(1,9),(2,9),(3,3),(4,22),(5,22),(6,23),(7,24),(8,3)],9,152,[.int .i64 0,.str [],.str [],.int .i64 0,.nils,.nils,.nils,.nils,.int .i64 0],some (.st .term)⟩),(49,⟨.strct false [(0,3),(1,9),(2,9),(3,22),(4,23)],5,88,[.int .i64 0,.str [],.str [],.nils,.nils],some (.st .shape)⟩),(168,⟨.strct false [(0,166)],4,48,[.nils,.int .i64 0,.int .i64 0,.int .i64 0],some (.st .par)⟩),(22,⟨.slice 9,1,24,[.nils],some (.lst .str)⟩),(163,⟨.ptr 168,1,8,[.nilp],none⟩),(5,r5),(200,EB),(162,⟨.strct true [(0,3),(1,9),(2,3)],3,32,[.int .i64 0,.str [],.int .i64 0],some (.st .token)⟩),(60,⟨.strct false [(0,3),(1,3),(2,9),(3,22),(4,58),(5,3)],6,88,[.int .i64 0,.int .i64 0,.str [],.nils,.nils,.int .i64 0],some (.st .op)⟩),(24,⟨.slice 26,1,24,[.nils],some (.lst (.st .term))⟩),(23,⟨.slice 49,1,24,[.nils],some (.lst (.st .shape))⟩),(55,⟨.strct true [(0,32),(1,3)],2,16,[.int .i64 0,.int .i64 0],some (.st .fault)⟩),(71,r70),(61,⟨.slice 60,1,24,[.nils],some (.lst (.st .op))⟩),(156,JP),(4,⟨.bool,1,1,[.bool false],some .bool⟩),(154,JO),(69,⟨.slice 73,1,24,[.nils],some (.lst (.st .nm))⟩),(32,r2),(166,⟨.strct false [(0,102),(1,3),(2,55)],4,48,[.nils,.int .i64 0,.int .i64 0,.int .i64 0],some (.st .par)⟩),(58,⟨.slice 3,1,24,[.nils],some (.lst (.int .i64))⟩),(31,⟨.slice 63,1,24,[.nils],some (.lst (.st .chunk))⟩),(102,⟨.slice 162,1,24,[.nils],some (.lst (.st .token))⟩),(189,⟨.strct true [(0,3),(1,3),(2,3),(3,9)],4,40,[.int .i64 0,.int .i64 0,.int .i64 0,.str []],some (.st .version)⟩),(152,⟨.ptr 156,1,8,[.nilp],none⟩),(63,⟨.strct false [(0,3),(1,61)],2,32,[.int .i64 0,.nils],some (.st .chunk)⟩),(68,r67),(1,r1),(73,⟨.strct true [(0,9),(1,9)],2,32,[.str [],.str []],some (.st .nm)⟩),(122,⟨.slice 5,1,24,[.nils],some (.lst (.int .u8))⟩),(195,r1),(51,⟨.strct false [(0,9),(1,9),(2,49)],7,120,[.str [],.str [],.int .i64 0,.str [],.str [],.nils,.nils],some (.st .bind)⟩),(66,⟨.ptr 31,1,8,[.nilp],none⟩),(227,⟨.arr 3 3,3,24,[.int .i64 0,.int .i64 0,.int .i64 0],none⟩),(21,r21),(268,EC),(27,⟨.slice 51,1,24,[.nils],some (.lst (.st .bind))⟩),(110,r1),(203,r1),(46,r1),(20,r20),(267,EC),(199,EB),(48,⟨.strct false [(0,3),(1,9),(2,9),(3,22),(4,23)],5,88,[.int .i64 0,.str [],.str [],.nils,.nils],none⟩),(188,⟨.strct true [(0,3),(1,3),(2,3),(3,9)],4,40,[.int .i64 0,.int .i64 0,.int .i64 0,.str []],none⟩),(165,⟨.strct false [(0,102),(1,3),(2,55)],4,48,[.nils,.int .i64 0,.int .i64 0,.int .i64 0],none⟩),(167,⟨.strct false [(0,166)],4,48,[.nils,.int .i64 0,.int .i64 0,.int .i64 0],none⟩),(161,⟨.strct true [(0,3),(1,9),(2,3)],3,32,[.int .i64 0,.str [],.int .i64 0],none⟩),(155,JP),(153,JO),(59,⟨.strct false [(0,3),(1,3),(2,9),(3,22),(4,58),(5,3)],6,88,[.int .i64 0,.int .i64 0,.str [],.nils,.nils,.int .i64 0],none⟩),(67,r67),(72,⟨.strct true [(0,9),(1,9)],2,32,[.str [],.str []],none⟩),(50,⟨.strct false [(0,9),(1,9),(2,49)],7,120,[.str [],.str [],.int .i64 0,.str [],.str [],.nils,.nils],none⟩),(70,r70),(62,⟨.strct false [(0,3),(1,61)],2,32,[.int .i64 0,.nils],none⟩),(54,⟨.strct true [(0,32),(1,3)],2,16,[.int .i64 0,.int .i64 0],none⟩),(25,⟨.strct false [(0,3),(1,9),(2,9),(3,3),(4,22),(5,22),(6,23),(7,24),(8,3)],9,152,[.int .i64 0,.str [],.str [],.int .i64 0,.nils,.nils,.nils,.nils,.int .i64 0],none⟩)]
theorem yx:aQ Tryz.prog aB:=.cons tk (.cons tk (.cons tk (.cons tk (.cons tk (.cons tk (.cons tk (.cons tk (.cons tk (.cons tk (.cons tk (.cons tk (.cons tk (.cons tk (.cons tk (.cons tk (.cons tk (.cons tk (.cons tk (.cons tk (.cons tk (.cons tk (.cons tk (.cons tk (.cons tk (.cons tk (.cons tk (.cons tk (.cons tk (.cons tk (.cons tk (.cons tk (.cons tk (.cons tk (.cons tk (.cons tk (.cons tk (.cons tk (.cons tk (.cons tk (.cons tk (.cons tk (.cons tk (.cons tk (.cons tk (.cons tk (.cons tk (.cons tk (.cons tk (.cons tk (.cons tk (.cons tk (.cons tk (.cons tk (.cons tk (.cons tk (.cons tk (.cons tk (.cons tk (.cons tk (.nil))))))))))))))))))))))))))))))))))))))))))))))))))))))))))))
end Go.AL.Seat
end
noncomputable section
namespace Go.AL.Seat
open Go Go.AL Go.Proofs
set_option maxRecDepth 1000000
variable [Tabs]
def HH(f:Nat):List (Option Nat):=if Nat.beq f 74||Nat.beq f 75 then[some 2]else[]
def HI(f:Nat):Bool:=false
def sY:List (Nat×FB):=(21,aD aB Tryz.f21 4362109181 [] (fun _=>false) (fun _=>false) (fun _=>false) false)::(11,aD aB Tryz.f11 15746551 [] (fun _=>false) (fun _=>false) (fun _=>false) false)::(13,aD aB Tryz.f13 2361185502030729349235 [] (fun _=>false) (fun _=>false) (fun d=>Nat.beq d 70) false)::(40,aD aB Tryz.f40 77975715369647181664879229 [] (fun _=>false) (fun _=>false) (fun _=>false) false)::(41,aD aB Tryz.f41 9016029707634675 [] (fun _=>false) (fun _=>false) (fun _=>false) false)::(42,aD aB Tryz.f42 531 [] (fun _=>false) (fun _=>false) (fun _=>false) false)::(22,aD aB Tryz.f22 74783 [] (fun _=>false) (fun _=>false) (fun _=>false) false)::(23,aD aB Tryz.f23 686032242260302265618932259388129843 [] (fun _=>false) (fun _=>false) (fun d=>Nat.beq d 27||Nat.beq d 43||Nat.beq d 59||Nat.beq d 71||Nat.beq d 83||Nat.beq d 91||Nat.beq d 93||Nat.beq d 101||Nat.beq d 108||Nat.beq d 137||Nat.beq d 148||Nat.beq d 158) false)::(26,aD aB Tryz.f26 288266660035428415 [] (fun _=>false) (fun _=>false) (fun _=>false) false)::(74,aD aB Tryz.f74 65555 [] (fun _=>false) (fun _=>false) (fun _=>false) false)::(75,aD aB Tryz.f75 4294967347 [] (fun _=>false) (fun _=>false) (fun _=>false) false)::(76,aD aB Tryz.f76 5 [] (fun _=>false) (fun _=>false) (fun _=>false) false)::(77,aD aB Tryz.f77 8388935 [] (fun _=>false) (fun _=>false) (fun _=>false) false)::(78,aD aB Tryz.f78 87112288527988523651034566703108870643455 [] (fun _=>false) (fun _=>false) (fun d=>Nat.beq d 21) false)::(79,aD aB Tryz.f79 33816627 [] (fun _=>false) (fun _=>false) (fun _=>false) false)::(80,aD aB Tryz.f80 5 [] (fun _=>false) (fun _=>false) (fun _=>false) false)::(81,aD aB Tryz.f81 268439557 [] (fun _=>false) (fun _=>false) (fun _=>false) false)::(82,aD aB Tryz.f82 81129648086015544455969055506495 [] (fun _=>false) (fun _=>false) (fun _=>false) false)::(83,aD aB Tryz.f83 263 [] (fun _=>false) (fun _=>false) (fun _=>false) false)::(43,aD aB Tryz.f43 2223863 [] (fun _=>false) (fun _=>false) (fun _=>false) false)::(44,aD aB Tryz.f44 7 [] (fun _=>false) (fun _=>false) (fun _=>false) false)::(45,aD aB Tryz.f45 19 [] (fun _=>false) (fun _=>false) (fun _=>false) false)::(46,aD aB Tryz.f46 4294975539 [] (fun _=>false) (fun _=>false) (fun _=>false) false)::(47,aD aB Tryz.f47 8444249301320051 [] (fun _=>false) (fun _=>false) (fun d=>Nat.beq d 39) false)::(48,aD aB Tryz.f48 51 [] (fun _=>false) (fun _=>false) (fun d=>Nat.beq d 22||Nat.beq d 39||Nat.beq d 49||Nat.beq d 68) false)::(49,aD aB Tryz.f49 37138201178561408728010064627 [] (fun _=>false) (fun _=>false) (fun d=>Nat.beq d 24||Nat.beq d 31||Nat.beq d 62||Nat.beq d 78||Nat.beq d 106) false)::(50,aD aB Tryz.f50 7 [] (fun _=>false) (fun _=>false) (fun _=>false) false)::(51,aD aB Tryz.f51 467 [] (fun _=>false) (fun _=>false) (fun _=>false) false)::(52,aD aB Tryz.f52 302379064902644767129997 [] (fun _=>false) (fun _=>false) (fun d=>Nat.beq d 27) false)::(59,aD aB Tryz.f59 33571891 [] (fun _=>false) (fun _=>false) (fun _=>false) false)::(99,aD aB Tryz.f99 549890048253 [] (fun _=>false) (fun _=>false) (fun _=>false) false)::(100,aD aB Tryz.f100 71 [] (fun _=>false) (fun _=>false) (fun _=>false) false)::(101,aD aB Tryz.f101 79 [] (fun _=>false) (fun _=>false) (fun _=>false) false)::(102,aD aB Tryz.f102 5 [] (fun _=>false) (fun _=>false) (fun _=>false) false)::(103,aD aB Tryz.f103 5 [] (fun _=>false) (fun _=>false) (fun _=>false) false)::(104,aD aB Tryz.f104 5 [] (fun _=>false) (fun _=>false) (fun _=>false) false)::(105,aD aB Tryz.f105 29 [] (fun _=>false) (fun _=>false) (fun _=>false) false)::(106,aD aB Tryz.f106 5 [] (fun _=>false) (fun _=>false) (fun _=>false) false)::(107,aD aB Tryz.f107 5 [] (fun _=>false) (fun _=>false) (fun _=>false) false)::(109,aD aB Tryz.f109 151115799509488183025661 [] (fun _=>false) (fun _=>false) (fun _=>false) false)::(110,aD aB Tryz.f110 618970019647202533975261693 [] (fun _=>false) (fun _=>false) (fun _=>false) false)::(111,aD aB Tryz.f111 29 [] (fun _=>false) (fun _=>false) (fun _=>false) false)::(112,aD aB Tryz.f112 3 [] (fun d=>Nat.beq d 8) (fun _=>false) (fun _=>false) false)::(113,aD aB Tryz.f113 7 [] (fun d=>Nat.beq d 15) (fun _=>false) (fun _=>false) false)::(116,aD aB Tryz.f116 275 [] (fun _=>false) (fun _=>false) (fun _=>false) false)::(114,aD aB Tryz.f114 131 [] (fun _=>false) (fun _=>false) (fun _=>false) false)::(118,aD aB Tryz.f118 7 [] (fun _=>false) (fun _=>false) (fun _=>false) false)::(117,aD aB Tryz.f117 271375 [] (fun _=>false) (fun _=>false) (fun _=>false) false)::(120,aD aB Tryz.f120 32819 [] (fun _=>false) (fun _=>false) (fun _=>false) false)::(121,aD aB Tryz.f121 15 [] (fun _=>false) (fun _=>false) (fun _=>false) false)::(122,aD aB Tryz.f122 17180524607 [] (fun _=>false) (fun _=>false) (fun _=>false) false)::(84,aD aB Tryz.f84 3537148372723500476506894142080440715070649430595550180525943565456506895 [] (fun _=>false) (fun _=>false) (fun _=>false) false)::(85,aD aB Tryz.f85 27 [] (fun _=>false) (fun _=>false) (fun _=>false) false)::(86,aD aB Tryz.f86 21 [] (fun _=>false) (fun _=>false) (fun _=>false) false)::(87,aD aB Tryz.f87 5 [] (fun _=>false) (fun _=>false) (fun _=>false) false)::(153,aD aB Tryz.f153 5 [] (fun _=>false) (fun _=>false) (fun _=>false) false)::(155,aD aB Tryz.f155 9316337836119 [] (fun _=>false) (fun _=>false) (fun _=>false) false)::(157,aD aB Tryz.f157 5 [] (fun _=>false) (fun _=>false) (fun _=>false) false)::(115,aD aB Tryz.f115 2228285 [] (fun _=>false) (fun _=>false) (fun _=>false) false)::(161,aD aB Tryz.f161 51 [] (fun _=>false) (fun _=>false) (fun _=>false) false)::(119,aD aB Tryz.f119 65587 [] (fun _=>false) (fun _=>false) (fun _=>false) false)::(163,aD aB Tryz.f163 23945973599159813139139346461134680183357916012085311 [] (fun _=>false) (fun _=>false) (fun _=>false) false)::(164,aD aB Tryz.f164 3 [] (fun d=>Nat.beq d 8) (fun _=>false) (fun _=>false) false)::(123,aD aB Tryz.f123 7 [] (fun _=>false) (fun _=>false) (fun _=>false) false)::(124,aD aB Tryz.f124 27 [] (fun _=>false) (fun _=>false) (fun _=>false) false)::(125,aD aB Tryz.f125 7 [] (fun _=>false) (fun _=>false) (fun _=>false) false)::(126,aD aB Tryz.f126 2098133 [] (fun _=>false) (fun _=>false) (fun _=>false) false)::(127,aD aB Tryz.f127 13 [] (fun _=>false) (fun _=>false) (fun _=>false) false)::(128,aD aB Tryz.f128 27 [] (fun _=>false) (fun _=>false) (fun _=>false) false)::(130,aD aB Tryz.f130 15 [] (fun _=>false) (fun _=>false) (fun _=>false) false)::(129,aD aB Tryz.f129 19 [] (fun _=>false) (fun _=>false) (fun _=>false) false)::(190,aD aB Tryz.f190 18014398524686365 [] (fun _=>false) (fun _=>false) (fun _=>false) false)::(159,aD aB Tryz.f159 324677087359430077278579446644799 [] (fun d=>Nat.beq d 129) (fun _=>false) (fun _=>false) false)::(160,aD aB Tryz.f160 299063 [] (fun _=>false) (fun _=>false) (fun _=>false) false)::(162,aD aB Tryz.f162 19 [] (fun _=>false) (fun _=>false) (fun _=>false) false)::(201,aD aB Tryz.f201 3 [] (fun d=>Nat.beq d 23) (fun _=>false) (fun _=>false) false)::(202,aD aB Tryz.f202 13 [] (fun _=>false) (fun _=>false) (fun _=>false) false)::(166,aD aB Tryz.f166 15 [] (fun _=>false) (fun _=>false) (fun _=>false) false)::(165,aD aB Tryz.f165 19 [] (fun _=>false) (fun _=>false) (fun _=>false) false)::(167,aD aB Tryz.f167 7 [] (fun _=>false) (fun _=>false) (fun _=>false) false)::(141,aD aB Tryz.f141 7 [] (fun _=>false) (fun _=>false) (fun _=>false) false)::(170,aD aB Tryz.f170 11 [] (fun _=>false) (fun _=>false) (fun _=>false) false)::(169,aD aB Tryz.f169 19 [] (fun _=>false) (fun _=>false) (fun _=>false) false)::(171,aD aB Tryz.f171 66483 [] (fun _=>false) (fun _=>false) (fun _=>false) false)::(193,aD aB Tryz.f193 7 [] (fun d=>Nat.beq d 21) (fun _=>false) (fun _=>false) false)::(195,aD aB Tryz.f195 149971 [] (fun _=>false) (fun _=>false) (fun _=>false) false)::(196,aD aB Tryz.f196 3 [] (fun d=>Nat.beq d 8) (fun _=>false) (fun _=>false) false)::(197,aD aB Tryz.f197 31 [] (fun _=>false) (fun _=>false) (fun _=>false) false)::(198,aD aB Tryz.f198 2159703 [] (fun _=>false) (fun _=>false) (fun _=>false) false)::(199,aD aB Tryz.f199 10141204803006463002229839257615 [] (fun _=>false) (fun _=>false) (fun _=>false) false)::(200,aD aB Tryz.f200 66483 [] (fun _=>false) (fun _=>false) (fun _=>false) false)::(203,aD aB Tryz.f203 66483 [] (fun _=>false) (fun _=>false) (fun _=>false) false)::(181,aD aB Tryz.f181 16883 [] (fun _=>false) (fun _=>false) (fun _=>false) false)::(205,aD aB Tryz.f205 66483 [] (fun _=>false) (fun _=>false) (fun _=>false) false)::(194,aD aB Tryz.f194 5 [] (fun _=>false) (fun _=>false) (fun _=>false) false)::(226,aD aB Tryz.f226 33071 [] (fun _=>false) (fun _=>false) (fun _=>false) false)::(228,aD aB Tryz.f228 17 [] (fun _=>false) (fun _=>false) (fun _=>false) false)::(227,aD aB Tryz.f227 246479 [] (fun _=>false) (fun _=>false) (fun _=>false) false)::(229,aD aB Tryz.f229 4444215 [] (fun _=>false) (fun _=>false) (fun _=>false) false)::(230,aD aB Tryz.f230 5 [] (fun _=>false) (fun _=>false) (fun _=>false) false)::[]
theorem pS:ah Tryz.prog sY:=ah.cons Tryz.func21 (by kernel_rfl) (ah.cons Tryz.func11 (by kernel_rfl) (ah.cons Tryz.func13 (by kernel_rfl) (ah.cons Tryz.func40 (by kernel_rfl) (ah.cons Tryz.func41 (by kernel_rfl) (ah.cons Tryz.func42 (by kernel_rfl) (ah.cons Tryz.func22 (by kernel_rfl) (ah.cons Tryz.func23 (by kernel_rfl) (ah.cons Tryz.func26 (by kernel_rfl) (ah.cons Tryz.func74 (by kernel_rfl) (ah.cons Tryz.func75 (by kernel_rfl) (ah.cons Tryz.func76 (by kernel_rfl) (ah.cons Tryz.func77 (by kernel_rfl) (ah.cons Tryz.func78 (by kernel_rfl) (ah.cons Tryz.func79 (by kernel_rfl) (ah.cons Tryz.func80 (by kernel_rfl) (ah.cons Tryz.func81 (by kernel_rfl) (ah.cons Tryz.func82 (by kernel_rfl) (ah.cons Tryz.func83 (by kernel_rfl) (ah.cons Tryz.func43 (by kernel_rfl) (ah.cons Tryz.func44 (by kernel_rfl) (ah.cons Tryz.func45 (by kernel_rfl) (ah.cons Tryz.func46 (by kernel_rfl) (ah.cons Tryz.func47 (by kernel_rfl) (ah.cons Tryz.func48 (by kernel_rfl) (ah.cons Tryz.func49 (by kernel_rfl) (ah.cons Tryz.func50 (by kernel_rfl) (ah.cons Tryz.func51 (by kernel_rfl) (ah.cons Tryz.func52 (by kernel_rfl) (ah.cons Tryz.func59 (by kernel_rfl) (ah.cons Tryz.func99 (by kernel_rfl) (ah.cons Tryz.func100 (by kernel_rfl) (ah.cons Tryz.func101 (by kernel_rfl) (ah.cons Tryz.func102 (by kernel_rfl) (ah.cons Tryz.func103 (by kernel_rfl) (ah.cons Tryz.func104 (by kernel_rfl) (ah.cons Tryz.func105 (by kernel_rfl) (ah.cons Tryz.func106 (by kernel_rfl) (ah.cons Tryz.func107 (by kernel_rfl) (ah.cons Tryz.func109 (by kernel_rfl) (ah.cons Tryz.func110 (by kernel_rfl) (ah.cons Tryz.func111 (by kernel_rfl) (ah.cons Tryz.func112 (by kernel_rfl) (ah.cons Tryz.func113 (by kernel_rfl) (ah.cons Tryz.func116 (by kernel_rfl) (ah.cons Tryz.func114 (by kernel_rfl) (ah.cons Tryz.func118 (by kernel_rfl) (ah.cons Tryz.func117 (by kernel_rfl) (ah.cons Tryz.func120 (by kernel_rfl) (ah.cons Tryz.func121 (by kernel_rfl) (ah.cons Tryz.func122 (by kernel_rfl) (ah.cons Tryz.func84 (by kernel_rfl) (ah.cons Tryz.func85 (by kernel_rfl) (ah.cons Tryz.func86 (by kernel_rfl) (ah.cons Tryz.func87 (by kernel_rfl) (ah.cons Tryz.func153 (by kernel_rfl) (ah.cons Tryz.func155 (by kernel_rfl) (ah.cons Tryz.func157 (by kernel_rfl) (ah.cons Tryz.func115 (by kernel_rfl) (ah.cons Tryz.func161 (by kernel_rfl) (ah.cons Tryz.func119 (by kernel_rfl) (ah.cons Tryz.func163 (by kernel_rfl) (ah.cons Tryz.func164 (by kernel_rfl) (ah.cons Tryz.func123 (by kernel_rfl) (ah.cons Tryz.func124 (by kernel_rfl) (ah.cons Tryz.func125 (by kernel_rfl) (ah.cons Tryz.func126 (by kernel_rfl) (ah.cons Tryz.func127 (by kernel_rfl) (ah.cons Tryz.func128 (by kernel_rfl) (ah.cons Tryz.func130 (by kernel_rfl) (ah.cons Tryz.func129 (by kernel_rfl) (ah.cons Tryz.func190 (by kernel_rfl) (ah.cons Tryz.func159 (by kernel_rfl) (ah.cons Tryz.func160 (by kernel_rfl) (ah.cons Tryz.func162 (by kernel_rfl) (ah.cons Tryz.func201 (by kernel_rfl) (ah.cons Tryz.func202 (by kernel_rfl) (ah.cons Tryz.func166 (by kernel_rfl) (ah.cons Tryz.func165 (by kernel_rfl) (ah.cons Tryz.func167 (by kernel_rfl) (ah.cons Tryz.func141 (by kernel_rfl) (ah.cons Tryz.func170 (by kernel_rfl) (ah.cons Tryz.func169 (by kernel_rfl) (ah.cons Tryz.func171 (by kernel_rfl) (ah.cons Tryz.func193 (by kernel_rfl) (ah.cons Tryz.func195 (by kernel_rfl) (ah.cons Tryz.func196 (by kernel_rfl) (ah.cons Tryz.func197 (by kernel_rfl) (ah.cons Tryz.func198 (by kernel_rfl) (ah.cons Tryz.func199 (by kernel_rfl) (ah.cons Tryz.func200 (by kernel_rfl) (ah.cons Tryz.func203 (by kernel_rfl) (ah.cons Tryz.func181 (by kernel_rfl) (ah.cons Tryz.func205 (by kernel_rfl) (ah.cons Tryz.func194 (by kernel_rfl) (ah.cons Tryz.func226 (by kernel_rfl) (ah.cons Tryz.func228 (by kernel_rfl) (ah.cons Tryz.func227 (by kernel_rfl) (ah.cons Tryz.func229 (by kernel_rfl) (ah.cons Tryz.func230 (by kernel_rfl) (ah.nil))))))))))))))))))))))))))))))))))))))))))))))))))))))))))))))))))))))))))))))))))))))))))))))))))))
end Go.AL.Seat
end
noncomputable section
namespace Go.AL.Seat
open Go Go.AL Go.Proofs Go.Pd
set_option maxRecDepth 1000000
def aw1:Str:=[108,101,116,32,120,32,61,32,49,32,105,110,32,120]
def LS:AV:=.tup [.lst (.st .token) [⟨5,[108,101,116],0⟩,⟨1,[120],4⟩,⟨6,[61],6⟩,⟨3,[49],8⟩,⟨5,[105,110],10⟩,⟨1,[120],13⟩,⟨0,[],14⟩] none,.agg [.int .i64 0,.int .i64 0]]
variable [Tabs] [SeatLaid]
theorem Mk:aw Tryz.prog 40 [.str aw1] [] (.ret LS):=lZ (n:=100) mixed yx sX pS (by kernel_rfl:yp aB sY HI HH 5000 (hX sW) 100 40 [.str aw1] []=some ⟨none,none,LS,[]⟩)
def Bn:Trm:=⟨14,[],[120],0,[],[],[],[⟨1,[],[],1,[],[],[],[],8⟩,⟨5,[],[120],0,[],[],[],[],13⟩],0⟩
def awA(t:Trm):AV:=.tup [.agg [.int .i64 t.kind,.str t.pkg,.str t.name,.int .i64 t.n,.nils,.nils,.nils,.lst (.st .term) t.parts none,.int .i64 t.pos],.agg [.int .i64 0,.int .i64 0]]
def HJ:List (Nat×Pat):=(40,Dm [.str aw1] LS)::sW
theorem EU:bN Tryz.prog (hX HJ):=sc (Dn (ee Tryz.func40) Mk) sX
theorem Ml:aw Tryz.prog 21 [.str aw1] [] (.ret (awA Bn)):=lZ (n:=100) mixed yx EU pS (by kernel_rfl:yp aB sY HI HH 5000 (hX HJ) 100 21 [.str aw1] []=some ⟨none,none,awA Bn,[]⟩)
end Go.AL.Seat
end
noncomputable section
namespace Go.AL.Seat
open Go Go.AL Go.Proofs
variable [Tabs]
def bE:List (Nat×TR):=[(3,r2),(26,⟨.strct false [(0,3),(1,9),(2,9),(3,3),(4,22),(5,22),(6,23),(7,24),(8,3)],9,152,[.int .i64 0,.str [],.str [],.int .i64 0,.nils,.nils,.nils,.nils,.int .i64 0],some (.st .term)⟩),(9,r9),(200,EB),(49,⟨.strct false [(0,3),(1,9),(2,9),(3,22),(4,23)],5,88,[.int .i64 0,.str [],.str [],.nils,.nils],some (.st .shape)⟩),(22,⟨.slice 9,1,24,[.nils],some (.lst .str)⟩),(71,r70),(60,⟨.strct false [(0,3),(1,3),(2,9),(3,22),(4,58),(5,3)],6,88,[.int .i64 0,.int .i64 0,.str [],.nils,.nils,.int .i64 0],some (.st .op)⟩),(61,⟨.slice 60,1,24,[.nils],some (.lst (.st .op))⟩),(69,⟨.slice 73,1,24,[.nils],some (.lst (.st .nm))⟩),(24,⟨.slice 26,1,24,[.nils],some (.lst (.st .term))⟩),(23,⟨.slice 49,1,24,[.nils],some (.lst (.st .shape))⟩),(4,⟨.bool,1,1,[.bool false],some .bool⟩),(31,⟨.slice 63,1,24,[.nils],some (.lst (.st .chunk))⟩),(68,r67),(58,⟨.slice 3,1,24,[.nils],some (.lst (.int .i64))⟩),(73,⟨.strct true [(0,9),(1,9)],2,32,[.str [],.str []],some (.st .nm)⟩),(5,r5),(51,⟨.strct false [(0,9),(1,9),(2,49)],7,120,[.str [],.str [],.int .i64 0,.str [],.str [],.nils,.nils],some (.st .bind)⟩),(66,⟨.ptr 31,1,8,[.nilp],none⟩),(63,⟨.strct false [(0,3),(1,61)],2,32,[.int .i64 0,.nils],some (.st .chunk)⟩),(32,r2),(122,⟨.slice 5,1,24,[.nils],some (.lst (.int .u8))⟩),(268,EC),(27,⟨.slice 51,1,24,[.nils],some (.lst (.st .bind))⟩),(110,r1),(203,r1),(46,r1),(20,r20),(267,EC),(48,⟨.strct false [(0,3),(1,9),(2,9),(3,22),(4,23)],5,88,[.int .i64 0,.str [],.str [],.nils,.nils],none⟩),(199,EB),(59,⟨.strct false [(0,3),(1,3),(2,9),(3,22),(4,58),(5,3)],6,88,[.int .i64 0,.int .i64 0,.str [],.nils,.nils,.int .i64 0],none⟩),(67,r67),(72,⟨.strct true [(0,9),(1,9)],2,32,[.str [],.str []],none⟩),(50,⟨.strct false [(0,9),(1,9),(2,49)],7,120,[.str [],.str [],.int .i64 0,.str [],.str [],.nils,.nils],none⟩),(70,r70),(62,⟨.strct false [(0,3),(1,61)],2,32,[.int .i64 0,.nils],none⟩),(25,⟨.strct false [(0,3),(1,9),(2,9),(3,3),(4,22),(5,22),(6,23),(7,24),(8,3)],9,152,[.int .i64 0,.str [],.str [],.int .i64 0,.nils,.nils,.nils,.nils,.int .i64 0],none⟩)]
theorem HK:aQ Tryz.prog bE:=.cons tk (.cons tk (.cons tk (.cons tk (.cons tk (.cons tk (.cons tk (.cons tk (.cons tk (.cons tk (.cons tk (.cons tk (.cons tk (.cons tk (.cons tk (.cons tk (.cons tk (.cons tk (.cons tk (.cons tk (.cons tk (.cons tk (.cons tk (.cons tk (.cons tk (.cons tk (.cons tk (.cons tk (.cons tk (.cons tk (.cons tk (.cons tk (.cons tk (.cons tk (.cons tk (.cons tk (.cons tk (.cons tk (.cons tk (.nil)))))))))))))))))))))))))))))))))))))))
end Go.AL.Seat
end
noncomputable section
namespace Go.AL.Seat
open Go Go.AL Go.Proofs
set_option maxRecDepth 1000000
variable [Tabs]
def LU(f:Nat):List (Option Nat):=if Nat.beq f 74||Nat.beq f 75 then[some 2]else if Nat.beq f 45||Nat.beq f 87 then[some 1]else[]
def LV(f:Nat):Bool:=false
def yy:List (Nat×FB):=(11,aD bE Tryz.f11 15746551 [(13,[17])] (fun _=>false) (fun d=>Nat.beq d 17) (fun _=>false) false)::(22,aD bE Tryz.f22 74783 [] (fun _=>false) (fun _=>false) (fun _=>false) false)::(23,aD bE Tryz.f23 686032242260302265618932259388129843 [] (fun _=>false) (fun _=>false) (fun _=>false) false)::(43,aD bE Tryz.f43 2223863 [] (fun _=>false) (fun _=>false) (fun _=>false) false)::(44,aD bE Tryz.f44 7 [] (fun _=>false) (fun _=>false) (fun _=>false) false)::(45,aD bE Tryz.f45 19 [] (fun _=>false) (fun _=>false) (fun _=>false) false)::(46,aD bE Tryz.f46 4294975539 [] (fun _=>false) (fun _=>false) (fun _=>false) false)::(47,aD bE Tryz.f47 8444249301320051 [] (fun _=>false) (fun _=>false) (fun d=>Nat.beq d 39) false)::(48,aD bE Tryz.f48 51 [] (fun _=>false) (fun _=>false) (fun d=>Nat.beq d 49||Nat.beq d 68) false)::(49,aD bE Tryz.f49 37138201178561408728010064627 [] (fun _=>false) (fun _=>false) (fun d=>Nat.beq d 24||Nat.beq d 106) false)::(50,aD bE Tryz.f50 7 [] (fun _=>false) (fun _=>false) (fun _=>false) false)::(51,aD bE Tryz.f51 467 [] (fun _=>false) (fun _=>false) (fun _=>false) false)::(52,aD bE Tryz.f52 302379064902644767129997 [] (fun _=>false) (fun _=>false) (fun d=>Nat.beq d 27) false)::(84,aD bE Tryz.f84 3537148372723500476506894142080440715070649430595550180525943565456506895 [] (fun _=>false) (fun _=>false) (fun _=>false) false)::(85,aD bE Tryz.f85 27 [] (fun _=>false) (fun _=>false) (fun _=>false) false)::(86,aD bE Tryz.f86 21 [] (fun _=>false) (fun _=>false) (fun _=>false) false)::(87,aD bE Tryz.f87 5 [] (fun _=>false) (fun _=>false) (fun _=>false) false)::(123,aD bE Tryz.f123 7 [] (fun _=>false) (fun _=>false) (fun _=>false) false)::(124,aD bE Tryz.f124 27 [] (fun _=>false) (fun _=>false) (fun _=>false) false)::(125,aD bE Tryz.f125 7 [] (fun _=>false) (fun _=>false) (fun _=>false) false)::(126,aD bE Tryz.f126 2098133 [] (fun _=>false) (fun _=>false) (fun _=>false) false)::(127,aD bE Tryz.f127 13 [] (fun _=>false) (fun _=>false) (fun _=>false) false)::(128,aD bE Tryz.f128 27 [] (fun _=>false) (fun _=>false) (fun _=>false) false)::(130,aD bE Tryz.f130 15 [] (fun _=>false) (fun _=>false) (fun _=>false) false)::(129,aD bE Tryz.f129 19 [] (fun _=>false) (fun _=>false) (fun _=>false) false)::(166,aD bE Tryz.f166 15 [] (fun _=>false) (fun _=>false) (fun _=>false) false)::(165,aD bE Tryz.f165 19 [] (fun _=>false) (fun _=>false) (fun _=>false) false)::(160,aD bE Tryz.f160 299063 [] (fun _=>false) (fun _=>false) (fun _=>false) false)::(167,aD bE Tryz.f167 7 [] (fun _=>false) (fun _=>false) (fun _=>false) false)::(141,aD bE Tryz.f141 7 [] (fun _=>false) (fun _=>false) (fun _=>false) false)::(170,aD bE Tryz.f170 11 [] (fun _=>false) (fun _=>false) (fun _=>false) false)::(169,aD bE Tryz.f169 19 [] (fun _=>false) (fun _=>false) (fun _=>false) false)::(171,aD bE Tryz.f171 66483 [] (fun _=>false) (fun _=>false) (fun _=>false) false)::(203,aD bE Tryz.f203 66483 [] (fun _=>false) (fun _=>false) (fun _=>false) false)::(197,aD bE Tryz.f197 31 [] (fun _=>false) (fun _=>false) (fun _=>false) false)::(198,aD bE Tryz.f198 2159703 [] (fun _=>false) (fun _=>false) (fun _=>false) false)::(199,aD bE Tryz.f199 10141204803006463002229839257615 [] (fun _=>false) (fun _=>false) (fun _=>false) false)::(181,aD bE Tryz.f181 16883 [] (fun _=>false) (fun _=>false) (fun _=>false) false)::(205,aD bE Tryz.f205 66483 [] (fun _=>false) (fun _=>false) (fun _=>false) false)::(226,aD bE Tryz.f226 33071 [] (fun _=>false) (fun _=>false) (fun _=>false) false)::(228,aD bE Tryz.f228 17 [] (fun _=>false) (fun _=>false) (fun _=>false) false)::(227,aD bE Tryz.f227 246479 [] (fun _=>false) (fun _=>false) (fun _=>false) false)::(229,aD bE Tryz.f229 4444215 [] (fun _=>false) (fun _=>false) (fun _=>false) false)::(230,aD bE Tryz.f230 5 [] (fun _=>false) (fun _=>false) (fun _=>false) false)::[]
theorem yz:ah Tryz.prog yy:=ah.cons Tryz.func11 (by kernel_rfl) (ah.cons Tryz.func22 (by kernel_rfl) (ah.cons Tryz.func23 (by kernel_rfl) (ah.cons Tryz.func43 (by kernel_rfl) (ah.cons Tryz.func44 (by kernel_rfl) (ah.cons Tryz.func45 (by kernel_rfl) (ah.cons Tryz.func46 (by kernel_rfl) (ah.cons Tryz.func47 (by kernel_rfl) (ah.cons Tryz.func48 (by kernel_rfl) (ah.cons Tryz.func49 (by kernel_rfl) (ah.cons Tryz.func50 (by kernel_rfl) (ah.cons Tryz.func51 (by kernel_rfl) (ah.cons Tryz.func52 (by kernel_rfl) (ah.cons Tryz.func84 (by kernel_rfl) (ah.cons Tryz.func85 (by kernel_rfl) (ah.cons Tryz.func86 (by kernel_rfl) (ah.cons Tryz.func87 (by kernel_rfl) (ah.cons Tryz.func123 (by kernel_rfl) (ah.cons Tryz.func124 (by kernel_rfl) (ah.cons Tryz.func125 (by kernel_rfl) (ah.cons Tryz.func126 (by kernel_rfl) (ah.cons Tryz.func127 (by kernel_rfl) (ah.cons Tryz.func128 (by kernel_rfl) (ah.cons Tryz.func130 (by kernel_rfl) (ah.cons Tryz.func129 (by kernel_rfl) (ah.cons Tryz.func166 (by kernel_rfl) (ah.cons Tryz.func165 (by kernel_rfl) (ah.cons Tryz.func160 (by kernel_rfl) (ah.cons Tryz.func167 (by kernel_rfl) (ah.cons Tryz.func141 (by kernel_rfl) (ah.cons Tryz.func170 (by kernel_rfl) (ah.cons Tryz.func169 (by kernel_rfl) (ah.cons Tryz.func171 (by kernel_rfl) (ah.cons Tryz.func203 (by kernel_rfl) (ah.cons Tryz.func197 (by kernel_rfl) (ah.cons Tryz.func198 (by kernel_rfl) (ah.cons Tryz.func199 (by kernel_rfl) (ah.cons Tryz.func181 (by kernel_rfl) (ah.cons Tryz.func205 (by kernel_rfl) (ah.cons Tryz.func226 (by kernel_rfl) (ah.cons Tryz.func228 (by kernel_rfl) (ah.cons Tryz.func227 (by kernel_rfl) (ah.cons Tryz.func229 (by kernel_rfl) (ah.cons Tryz.func230 (by kernel_rfl) (ah.nil))))))))))))))))))))))))))))))))))))))))))))
end Go.AL.Seat
end
noncomputable section
namespace Go.AL.Seat
open Go Go.AL Go.Proofs Go.Pd
set_option maxRecDepth 1000000
def awC:List Chnk:=[⟨0,[⟨1,1,[],[],[],8⟩,⟨12,0,[],[],[],0⟩,⟨4,0,[],[],[],13⟩,⟨13,1,[],[],[],0⟩]⟩]
def awB:AV:=.tup [.lst (.st .chunk) awC none,.int .i64 0]
def yA(t:Trm)(k:Int)(nm:Str)(n pos:Int):Bool:=
 decide (t.kind=k)&&t.pkg.isEmpty&&decide (t.name=nm)&&decide (t.n=n)&&t.names.isEmpty&&t.vars.isEmpty&&t.shapes.isEmpty&&decide (t.pos=pos)
theorem sZ{t:Trm}{k:Int}{nm:Str}{n pos:Int}(h:yA t k nm n pos=true):t=⟨k,[],nm,n,[],[],[],t.parts,pos⟩:=by simp only[yA,Mo,MD,List.isEmpty_iff]at h;obtain⟨⟨⟨⟨⟨⟨⟨h1,h2⟩,h3⟩,h4⟩,h5⟩,h6⟩,h7⟩,h8⟩:=h;cases t;simp only at h1 h2 h3 h4 h5 h6 h7 h8;subst h1 h2 h3 h4 h5 h6 h7 h8;rfl
def LW(t:Trm):Bool:=
 yA t 14 [120] 0 0&&(match t.parts with|[a,b]=>yA a 1 [] 1 8&&a.parts.isEmpty&&(yA b 5 [120] 0 13&&b.parts.isEmpty)|_=>false)
theorem JW{t:Trm}(h:LW t=true):t=Bn:=by
 unfold LW at h;rw[Mo]at h;obtain⟨h1,h2⟩:=h;have e:=sZ h1;split at h2
 ·rename_i a b hp;simp only[Mo,List.isEmpty_iff]at h2;obtain⟨⟨a1,a2⟩,b1,b2⟩:=h2;have ea:=sZ a1;have eb:=sZ b1;rw[a2]at ea;rw[b2]at eb;rw[e,hp,ea,eb];rfl
 ·cases h2
variable [Tabs] [SeatLaid]
theorem Mm:aw Tryz.prog 11 [.st .term Bn,.lst (.st .bind) [] none] [] (.ret awB):=lZ (n:=100) mixed HK sX yz (by kernel_rfl:yp bE yy LV LU 5000 (hX sW) 100 11 [.st .term Bn,.lst (.st .bind) [] none] []=some ⟨none,none,awB,[]⟩)
def KR:Pat:=q2 (.st .term) (.lst (.st .bind)) (fun t l=>LW t&&l.isEmpty) fun _ _=>awB
theorem JX:ag Tryz.prog 11 KR:=
 uG (O:=fun t l=>t=Bn/\l=[]) (dx (ee Tryz.func11) fun t l _ _ ho=>by
  obtain⟨rfl,rfl⟩:=ho _ rfl;exact Mm) fun t l q=>by
  rw[Mo]at q;exact⟨JW q.1,List.isEmpty_iff.1 q.2⟩
end Go.AL.Seat
end
noncomputable section
namespace Go.AL.Seat
open Go Go.AL Go.Proofs
variable [Tabs]
def uJ:List (Nat×TR):=[(3,r2),(60,⟨.strct false [(0,3),(1,3),(2,9),(3,22),(4,58),(5,3)],6,88,[.int .i64 0,.int .i64 0,.str [],.nils,.nils,.int .i64 0],some (.st .op)⟩),(32,r2),(9,r9),(61,⟨.slice 60,1,24,[.nils],some (.lst (.st .op))⟩),(31,⟨.slice 63,1,24,[.nils],some (.lst (.st .chunk))⟩),(58,⟨.slice 3,1,24,[.nils],some (.lst (.int .i64))⟩),(22,⟨.slice 9,1,24,[.nils],some (.lst .str)⟩),(63,⟨.strct false [(0,3),(1,61)],2,32,[.int .i64 0,.nils],some (.st .chunk)⟩),(26,⟨.strct false [(0,3),(1,9),(2,9),(3,3),(4,22),(5,22),(6,23),(7,24),(8,3)],9,152,[.int .i64 0,.str [],.str [],.int .i64 0,.nils,.nils,.nils,.nils,.int .i64 0],some (.st .term)⟩),(55,⟨.strct true [(0,32),(1,3)],2,16,[.int .i64 0,.int .i64 0],some (.st .fault)⟩),(23,⟨.slice 49,1,24,[.nils],some (.lst (.st .shape))⟩),(4,⟨.bool,1,1,[.bool false],some .bool⟩),(62,⟨.strct false [(0,3),(1,61)],2,32,[.int .i64 0,.nils],none⟩),(59,⟨.strct false [(0,3),(1,3),(2,9),(3,22),(4,58),(5,3)],6,88,[.int .i64 0,.int .i64 0,.str [],.nils,.nils,.int .i64 0],none⟩),(54,⟨.strct true [(0,32),(1,3)],2,16,[.int .i64 0,.int .i64 0],none⟩),(25,⟨.strct false [(0,3),(1,9),(2,9),(3,3),(4,22),(5,22),(6,23),(7,24),(8,3)],9,152,[.int .i64 0,.str [],.str [],.int .i64 0,.nils,.nils,.nils,.nils,.int .i64 0],none⟩),(24,⟨.slice 26,1,24,[.nils],some (.lst (.st .term))⟩),(49,⟨.strct false [(0,3),(1,9),(2,9),(3,22),(4,23)],5,88,[.int .i64 0,.str [],.str [],.nils,.nils],some (.st .shape)⟩),(48,⟨.strct false [(0,3),(1,9),(2,9),(3,22),(4,23)],5,88,[.int .i64 0,.str [],.str [],.nils,.nils],none⟩)]
theorem HL:aQ Tryz.prog uJ:=.cons tk (.cons tk (.cons tk (.cons tk (.cons tk (.cons tk (.cons tk (.cons tk (.cons tk (.cons tk (.cons tk (.cons tk (.cons tk (.cons tk (.cons tk (.cons tk (.cons tk (.cons tk (.cons tk (.cons tk (.nil))))))))))))))))))))
end Go.AL.Seat
end
noncomputable section
namespace Go.AL.Seat
open Go Go.AL Go.Proofs
set_option maxRecDepth 1000000
variable [Tabs]
def LX(f:Nat):List (Option Nat):=[]
def LY(f:Nat):Bool:=false
def yB:List (Nat×FB):=(10,aD uJ Tryz.f10 1023 [] (fun _=>false) (fun _=>false) (fun _=>false) false)::(13,aD uJ Tryz.f13 2361185502030729349235 [] (fun _=>false) (fun _=>false) (fun d=>Nat.beq d 70) false)::(26,aD uJ Tryz.f26 288266660035428415 [] (fun _=>false) (fun _=>false) (fun _=>false) false)::(59,aD uJ Tryz.f59 33571891 [] (fun _=>false) (fun _=>false) (fun _=>false) false)::[]
theorem yC:ah Tryz.prog yB:=ah.cons Tryz.func10 (by kernel_rfl) (ah.cons Tryz.func13 (by kernel_rfl) (ah.cons Tryz.func26 (by kernel_rfl) (ah.cons Tryz.func59 (by kernel_rfl) (ah.nil))))
end Go.AL.Seat
end
noncomputable section
namespace Go.AL.Seat
open Go Go.AL Go.Proofs Go.Pd
set_option maxRecDepth 1000000
variable [Tabs] [SeatLaid]
def HN(l:List Chnk):Bool:=Nat.ble (pX l).length 8796093022208
theorem yD{l:List Chnk}(h:HN l=true):sq l:=Nat.le_of_ble_eq_true h
def KS:List (Nat×Pat):=[(21,Dm [.str aw1] (awA Bn)),(11,KR),
 (15,q1 (.lst (.st .chunk)) HN fun l=>.tup [.str (lv l).1,.int .i64 (lv l).2]),
 (17,q1 .str (fun s=>Nat.ble s.length 68719476736) fun s=>.tup [.lst (.st .chunk) (mh s).1 none,.int .i64 (mh s).2]),
 (19,q2 (.lst (.st .chunk)) (.int .i64) (fun l _=>HN l) fun l n=>.int .i64 (oP l n))]
theorem HO:bN Tryz.prog (hX KS):=sc (Dn (ee Tryz.func21) Ml) (sc JX
 (sc (Hs pR fun _ h=>yD h) (sc (Hs yw fun _ h=>Nat.le_of_ble_eq_true h) (sc (uG pQ fun _ _ h=>yD h) sn))))
theorem yE:ag Tryz.prog 10 (p0 (.ret (.bool true))):=
 Md (ee Tryz.func10) (lZ (n:=20) mixed HL HO yC (by kernel_rfl:yp uJ yB LY LX 50 (hX KS) 20 10 [] []=some ⟨none,none,.bool true,[]⟩))
end Go.AL.Seat
end
section
open Go Go.AL Go.Pd
namespace Go.AL.Seat
theorem EV(c:Int)  :
  if decide ((97:Int)<=c)=true then True/\decide (c<=(122:Int))=cn c/\True else True/\false=cn c/\True:=by
 simp only[Ni,N4];unfold cn;by_cases h:(97:Int)<=c
 ·rw[Mu (Xd h)];simp[h]
 ·rw[Mp (by simpa using h)];simp[h]
theorem EW(c:Int)  :
  if decide ((65:Int)<=c)=true then True/\decide (c<=(90:Int))=cv c/\True else True/\false=cv c/\True:=by
 simp only[Ni,N4];unfold cv;by_cases h:(65:Int)<=c
 ·rw[Mu (Xd h)];simp[h]
 ·rw[Mp (by simpa using h)];simp[h]
theorem EX(c:Int)  :
  if decide ((48:Int)<=c)=true then True/\decide (c<=(57:Int))=gg c/\True else True/\false=gg c/\True:=by
 simp only[Ni,N4];unfold gg;by_cases h:(48:Int)<=c
 ·rw[Mu (Xd h)];simp[h]
 ·rw[Mp (by simpa using h)];simp[h]
theorem HP(s:Str)(hs:Wf .str s) :
  let A:=(0:Int);let B:=s=s/\A=A/\True;let C:=(↑(List.length s):Int);let D:=(0:UInt8);let E:=(1:Int);let F:=(↑(dU s):Int);(∃(x:Nat),(x<=List.length s/\dU s=x+dU (List.drop x s))/\A=(↑x:Int)/\B)/\∀(x:Nat),let G:=(↑x:Int);let H:=A<=G/\G<C;let I:=(↑(UInt8.toNat (List.getD s (Int.toNat G) D)):Int);let J:=inR IntKind.i64 (G+E)/\∃(y:Nat),(y<=List.length s/\dU s=y+dU (List.drop y s))/\List.length s-y<List.length s-x/\G+E=(↑y:Int)/\B;let K:=True/\G=F/\True;x<=List.length s/\dU s=x+dU (List.drop x s)->if decide (G<C)=true then H/\if cn I=true then J else H/\if cv I=true then J else H/\if gg I=true then J else H/\if decide (I=(95:Int))=true then J else K else K:=by
 conv=>zeta
 have ln:=hs.str;have eb:∀b:UInt8,(b.toNat:Int)=bI b:=fun _=>rfl;simp only[Mv,O4,Ni,N4,eb];refine⟨⟨0,⟨ME _,by simp⟩,rfl⟩,?_⟩;rintro k ⟨h1,h2⟩;apply aa<;>intro h
 ·replace h:=Xo h;have hk:k<s.length:=by omega
  rw[aU s k 0 hk]at h2;simp only[dU]at h2;have fin:eY (bI (s.getD k 0))=true->(inR IntKind.i64 ((k:Int)+1)/\∃y:Nat,(y<=s.length/\dU s=y+dU (s.drop y))/\s.length-y<s.length-k/\(k:Int)+1=(y:Int)):=by intro e;rw[Mu e]at h2;exact⟨bu hk ln,k+1,⟨by omega,by omega⟩,by omega,by omega⟩
  have hr:eY (bI (s.getD k 0))=(cn (bI (s.getD k 0))||cv (bI (s.getD k 0))||gg (bI (s.getD k 0))||decide (bI (s.getD k 0)=95)):=rfl;refine⟨by omega,aa (fun a=>fin (by rw[hr,a];simp)) (fun a=>⟨by omega,aa (fun b=>fin (by rw[hr,b];simp)) (fun b=>⟨by omega,aa (fun c=>fin (by rw[hr,c];simp)) (fun c=>⟨by omega,aa (fun d=>fin (by rw[hr,d];simp)) (fun d=>?_)⟩)⟩)⟩)⟩;rw[Mp ?_]at h2
  ·omega
  ·rw[hr];simp only[Bool.not_eq_true]at a b c d;rw[a,b,c,d];simp
 ·replace h:¬((k:Int)<(s.length:Int)):=fun e=>h (Xd e);have e:k=s.length:=by omega
  subst e;rw[MX]at h2;simp only[dU]at h2;omega
theorem HQ(s:Str)(l:List Str)(hl:Wf (.lst .str) l) :
  let A:=s=s/\l=l/\True;let B:=(↑(List.length l):Int);(∃(x:Nat),(x<=List.length l/\decide (s∈l)=decide (s∈List.drop x l))/\(0:Int)=(↑x:Int)/\A)/\∀(x:Nat),let C:=(↑x:Int);x<=List.length l/\decide (s∈l)=decide (s∈List.drop x l)->if decide (C<B)=true then((0:Int)<=C/\C<B)/\if decide (s=List.getD l (Int.toNat C) (dfl Ty.str))=true then True/\true=decide (s∈l)/\True else inR IntKind.i64 (C+(1:Int))/\∃(y:Nat),(y<=List.length l/\decide (s∈l)=decide (s∈List.drop y l))/\List.length l-y<List.length l-x/\C+(1:Int)=(↑y:Int)/\A else True/\false=decide (s∈l)/\True:=by
 conv=>zeta
 have ln:=hl.len;simp only[Mv,O4,Ni,N4];refine⟨⟨0,⟨ME _,by simp⟩,rfl⟩,?_⟩;rintro k ⟨h1,h2⟩;apply aa<;>intro h
 ·replace h:=Xo h;have hk:k<l.length:=by omega
  rw[aU l k (dfl .str) hk]at h2;refine⟨by omega,aa (fun a=>?_) (fun a=>?_)⟩
  ·rw[h2,Xo a];simp
  ·refine⟨bu hk ln,k+1,⟨by omega,?_⟩,by omega,by omega⟩;rw[h2,Nn,MJ];constructor
   ·rintro(h|h)
    ·exact absurd (Xd h) a
    ·exact h
   ·exact Or.inr
 ·replace h:¬((k:Int)<(l.length:Int)):=fun e=>h (Xd e);have e:k=l.length:=by omega
  subst e;rw[h2,MX];simp
theorem HR(s:Str)  :
  let A:=101;True/\decide (s∈[([109,111,100,117,108,A]:Str),([105,109,112,111,114,116]:Str),([112,105,110]:Str),([114,97,110,103,A]:Str),([116,121,112,A]:Str),([111,112,97,113,117,A]:Str),([108,A,116]:Str),([105,110]:Str),([A,120,112,111,114,116]:Str),([102,117,110]:Str),([105,102]:Str),([116,104,A,110]:Str),([A,108,115,A]:Str),([99,97,115,A]:Str),([111,102]:Str),([97,115]:Str),([110,A,119]:Str),([114,97,119]:Str),([116,114,117,A]:Str),([102,97,108,115,A]:Str)])=nE s/\True:=by
 conv=>zeta
 exact Xr
theorem HS(s:Str)  :
  let A:=(↑(List.length s):Int);let B:=(0:Int);let C:=True/\false=az s/\True;if(!decide (s=[]))=true then if decide (A<=(24:Int))=true then(B<=B/\B<A)/\if cn (↑(UInt8.toNat (List.getD s (Int.toNat B) (0:UInt8))):Int)=true then if decide ((↑(dU s):Int)=A)=true then True/\(!nE s)=az s/\True else C else C else C else C:=by
 conv=>zeta
 have eb:∀b:UInt8,(b.toNat:Int)=bI b:=fun _=>rfl;simp only[Mv,OR,O4,Ni,N4,eb];have hF:az s=(!decide (s=[])&&decide (s.length<=24)&&cn (bI (s.getD 0 0))&&decide (dU s=s.length)&&!nE s):=by unfold az;rw[pM]
 apply aa<;>intro a
 ·have a':decide (s=[])=false:=by simpa using a
  have hpos:0<s.length:=NM.2 (P6 a');apply aa<;>intro b
  ·have b':s.length<=24:=by have:=Xo b;omega
   refine⟨by omega,aa (fun c=>?_) (fun c=>?_)⟩
   ·apply aa<;>intro d
    ·have d':dU s=s.length:=by have:=Xo d;omega
     rw[hF,a',c,d'];simp[b']
    ·have d':¬dU s=s.length:=fun e=>d (Xd (by omega));rw[hF];simp[d']
   ·simp only[Bool.not_eq_true]at c;rw[hF,c];simp
  ·have b':¬s.length<=24:=fun e=>b (Xd (by omega));rw[hF];simp[b']
 ·have a':decide (s=[])=true:=by simpa using a
  rw[hF,a'];simp
theorem EY(s:Str)  :
  let A:=(↑(List.length s):Int);let B:=(0:Int);let C:=True/\false=cH s/\True;if(!decide (s=[]))=true then if decide (A<=(24:Int))=true then(B<=B/\B<A)/\if cv (↑(UInt8.toNat (List.getD s (Int.toNat B) (0:UInt8))):Int)=true then True/\decide ((↑(dU s):Int)=A)=cH s/\True else C else C else C:=by
 conv=>zeta
 have eb:∀b:UInt8,(b.toNat:Int)=bI b:=fun _=>rfl;simp only[Mv,OR,O4,Ni,N4,eb];have hF:cH s=(!decide (s=[])&&decide (s.length<=24)&&cv (bI (s.getD 0 0))&&decide (dU s=s.length)):=by unfold cH;rw[pM]
 apply aa<;>intro a
 ·have a':decide (s=[])=false:=by simpa using a
  have hpos:0<s.length:=NM.2 (P6 a');apply aa<;>intro b
  ·have b':s.length<=24:=by have:=Xo b;omega
   refine⟨by omega,aa (fun c=>?_) (fun c=>?_)⟩
   ·rw[hF,a',c];simp[b',Int.ofNat_inj]
   ·simp only[Bool.not_eq_true]at c;rw[hF,c];simp
  ·have b':¬s.length<=24:=fun e=>b (Xd (by omega));rw[hF];simp[b']
 ·have a':decide (s=[])=true:=by simpa using a
  rw[hF,a'];simp
theorem EZ(a b:List Str)(ha:Wf (.lst .str) a) :
  let A:=(↑(List.length a):Int);let B:=(↑(List.length b):Int);let C:=True/\false=lx a b/\True;let D:=List.length a=List.length b;let E:=(fun(x y:Str)=>decide (x=y));let F:=(0:Int);let G:=a=a/\b=b/\false=false/\True;if(!decide (A=B))=true then C else(∃(x:Nat),(x<=List.length a/\D/\du E a b=du E (List.drop x a) (List.drop x b))/\F=(↑x:Int)/\G)/\∀(x:Nat),let H:=(↑x:Int);x<=List.length a/\D/\du E a b=du E (List.drop x a) (List.drop x b)->if decide (H<A)=true then(F<=H/\H<A)/\(F<=H/\H<B)/\if(!decide (List.getD a (Int.toNat H) (dfl Ty.str)=List.getD b (Int.toNat H) (dfl Ty.str)))=true then C else inR IntKind.i64 (H+(1:Int))/\∃(y:Nat),(y<=List.length a/\D/\du E a b=du E (List.drop y a) (List.drop y b))/\List.length a-y<List.length a-x/\H+(1:Int)=(↑y:Int)/\G else True/\true=lx a b/\True:=by
 conv=>zeta
 have ln:=ha.len;have dS:dfl Ty.str=([]:Str):=rfl;simp only[Mv,dS];unfold lx;apply aa<;>intro h
 ·have h:¬a.length=b.length:=fun z=>by rw[z]at h;simp at h
  rw[Xf h];exact Xr
 have h:a.length=b.length:=eqN h;rw[Xd h,MU];refine⟨⟨0,⟨ME _,h,rfl⟩,by repeat' (first|exact trivial|rfl|apply And.intro)⟩,?_⟩;rintro k ⟨k1,_,k2⟩;rw[k2];apply aa<;>intro q
 ·replace q:=Xo q;have q:k<a.length:=by omega
  have e:=lW (fun x y:Str=>decide (x=y)) a b k [] q (by omega);refine⟨⟨by omega,by omega⟩,⟨by omega,by omega⟩,aa (fun m=>?_) (fun m=>?_)⟩
  ·have m:decide (a.getD k []=b.getD k [])=false:=by simpa using m
   rw[e,m];exact Xr
  ·have m:decide (a.getD k []=b.getD k [])=true:=by simpa using m
   exact⟨ai (by omega) (by omega),k+1,⟨q,h,by rw[e,m];rfl⟩,by omega,by omega,by repeat' (first|exact trivial|rfl|apply And.intro)⟩
 ·replace q:¬(k:Int)<(a.length:Int):=fun z=>q (Xd z);rw[NG (show a.length<=k by omega),nN];exact Xr
theorem F0(x y:Opn)(hx:Wf (.st .op) x) :
  let A:=True/\false=gi x y/\True;let B:=(↑(List.length x.tos):Int);let C:=(↑(List.length y.tos):Int);let D:=List.length x.tos=List.length y.tos;let E:=(fun(x y:Int)=>decide (x=y));let F:=(0:Int);let G:=x=x/\y=y/\false=false/\x=x/\y=y/\True;let H:=dfl (Ty.int IntKind.i64);if(!decide (x.kind=y.kind))=true then A else if(!decide (x.n=y.n))=true then A else if(!decide (x.name=y.name))=true then A else if(!decide (x.pos=y.pos))=true then A else if(!decide (B=C))=true then A else(∃(x_1:Nat),(x_1<=List.length x.tos/\D/\du E x.tos y.tos=du E (List.drop x_1 x.tos) (List.drop x_1 y.tos))/\F=(↑x_1:Int)/\G)/\∀(x_1:Nat),let I:=(↑x_1:Int);x_1<=List.length x.tos/\D/\du E x.tos y.tos=du E (List.drop x_1 x.tos) (List.drop x_1 y.tos)->if decide (I<B)=true then(F<=I/\I<B)/\(F<=I/\I<C)/\if(!decide (List.getD x.tos (Int.toNat I) H=List.getD y.tos (Int.toNat I) H))=true then A else inR IntKind.i64 (I+(1:Int))/\∃(y_1:Nat),(y_1<=List.length x.tos/\D/\du E x.tos y.tos=du E (List.drop y_1 x.tos) (List.drop y_1 y.tos))/\List.length x.tos-y_1<List.length x.tos-x_1/\I+(1:Int)=(↑y_1:Int)/\G else True/\lx x.names y.names=gi x y/\True:=by
 conv=>zeta
 have ln:=hx.op_tos.len;have dI:dfl (Ty.int IntKind.i64)=(0:Int):=rfl;simp only[Mv,dI];unfold gi;apply aa<;>intro h
 ·have h:decide (x.kind=y.kind)=false:=by simpa using h
  rw[h];exact Xr
 have h:decide (x.kind=y.kind)=true:=by simpa using h
 apply aa<;>intro h2
 ·have h2:decide (x.n=y.n)=false:=by simpa using h2
  rw[h,h2];exact Xr
 have h2:decide (x.n=y.n)=true:=by simpa using h2
 apply aa<;>intro h3
 ·have h3:decide (x.name=y.name)=false:=by simpa using h3
  rw[h,h2,h3];exact Xr
 have h3:decide (x.name=y.name)=true:=by simpa using h3
 apply aa<;>intro h4
 ·have h4:decide (x.pos=y.pos)=false:=by simpa using h4
  rw[h,h2,h3,h4];exact Xr
 have h4:decide (x.pos=y.pos)=true:=by simpa using h4
 apply aa<;>intro h5
 ·have h5:¬x.tos.length=y.tos.length:=fun z=>by rw[z]at h5;simp at h5
  rw[h,h2,h3,h4,Xf h5];exact Xr
 have h5:x.tos.length=y.tos.length:=eqN h5;rw[h,h2,h3,h4,Xd h5,MU,MU,MU,MU,MU];refine⟨⟨0,⟨ME _,h5,rfl⟩,by repeat' (first|exact trivial|rfl|apply And.intro)⟩,?_⟩;rintro k ⟨k1,_,k2⟩;rw[k2];apply aa<;>intro q
 ·replace q:=Xo q;have q:k<x.tos.length:=by omega
  have e:=lW (fun x y:Int=>decide (x=y)) x.tos y.tos k 0 q (by omega);refine⟨⟨by omega,by omega⟩,⟨by omega,by omega⟩,aa (fun m=>?_) (fun m=>?_)⟩
  ·have m:decide (x.tos.getD k 0=y.tos.getD k 0)=false:=by simpa using m
   rw[e,m];exact Xr
  ·have m:decide (x.tos.getD k 0=y.tos.getD k 0)=true:=by simpa using m
   exact⟨ai (by omega) (by omega),k+1,⟨q,h5,by rw[e,m];rfl⟩,by omega,by omega,by repeat' (first|exact trivial|rfl|apply And.intro)⟩
 ·replace q:¬(k:Int)<(x.tos.length:Int):=fun z=>q (Xd z);rw[NG (show x.tos.length<=k by omega),nN,MU];exact Xr
theorem F1(a b:List Chnk)(ha:Wf (.lst (.st .chunk)) a) :
  let A:=(↑(List.length a):Int);let B:=(↑(List.length b):Int);let C:=True;let D:=C/\false=su a b/\C;let E:=List.length a=List.length b;let F:=(0:Int);let G:=false=false/\C;let H:=a=a/\b=b/\G;let I:=dfl (Ty.st SN.chunk);let J:=a=a/\b=b/\false=false/\true=true/\G;let K:=dfl (Ty.st SN.op);let L:=(1:Int);if(!decide (A=B))=true then D else(∃(x:Nat),(x<=List.length a/\E/\du jJ a b=du jJ (List.drop x a) (List.drop x b))/\F=(↑x:Int)/\H)/\∀(x:Nat),let M:=(↑x:Int);let N:=F<=M/\M<A;let O:=F<=M/\M<B;let P:=Int.toNat M;let Q:=List.getD a P I;let R:=List.getD b P I;let S:=(↑(List.length Q.ops):Int);let T:=(↑(List.length R.ops):Int);let U:=List.getD a P default;let V:=List.getD b P default;let W:=List.length U.ops=List.length V.ops;x<=List.length a/\E/\du jJ a b=du jJ (List.drop x a) (List.drop x b)->if decide (M<A)=true then N/\O/\if(!decide (Q.args=R.args))=true then D else N/\O/\if(!decide (S=T))=true then D else(∃(x_1:Nat),(x_1<=List.length U.ops/\W/\du gi U.ops V.ops=du gi (List.drop x_1 U.ops) (List.drop x_1 V.ops))/\F=(↑x_1:Int)/\M=M/\J)/\∀(x_1:Nat),let X:=(↑x_1:Int);x_1<=List.length U.ops/\W/\du gi U.ops V.ops=du gi (List.drop x_1 U.ops) (List.drop x_1 V.ops)->N/\if decide (X<S)=true then N/\(F<=X/\X<S)/\O/\(F<=X/\X<T)/\(C/\C)/\if(!gi (List.getD Q.ops (Int.toNat X) K) (List.getD R.ops (Int.toNat X) K))=true then D else inR IntKind.i64 (X+L)/\∃(y:Nat),(y<=List.length U.ops/\W/\du gi U.ops V.ops=du gi (List.drop y U.ops) (List.drop y V.ops))/\List.length U.ops-y<List.length U.ops-x_1/\X+L=(↑y:Int)/\M=M/\J else inR IntKind.i64 (M+L)/\∃(y:Nat),(y<=List.length a/\E/\du jJ a b=du jJ (List.drop y a) (List.drop y b))/\List.length a-y<List.length a-x/\M+L=(↑y:Int)/\H else C/\true=su a b/\C:=by
 conv=>zeta
 have ln:=ha.len;have dC:dfl (Ty.st SN.chunk)=(default:Chnk):=rfl;have dO:dfl (Ty.st SN.op)=(default:Opn):=rfl;simp only[Mv,dC,dO];unfold su;apply aa<;>intro h
 ·have h:¬a.length=b.length:=fun z=>by rw[z]at h;simp at h
  rw[Xf h];exact Xr
 have h:a.length=b.length:=eqN h;rw[Xd h,MU];refine⟨⟨0,⟨ME _,h,rfl⟩,by repeat' (first|exact trivial|rfl|apply And.intro)⟩,?_⟩;rintro k ⟨k1,_,k2⟩;rw[k2];apply aa<;>intro q
 ·replace q:=Xo q;have q:k<a.length:=by omega
  have e:=lW jJ a b k default q (by omega);have lo:=(Wf.mem ha (bW a k default q)).chunk_ops.len;rw[jJ]at e;generalize a.getD k default=A at *
  generalize b.getD k default=B at *
  refine⟨⟨by omega,by omega⟩,⟨by omega,by omega⟩,aa (fun m=>?_) (fun m=>?_)⟩
  ·have m:decide (A.args=B.args)=false:=by simpa using m
   rw[e,m];exact Xr
  have m:decide (A.args=B.args)=true:=by simpa using m
  refine⟨⟨by omega,by omega⟩,⟨by omega,by omega⟩,aa (fun m2=>?_) (fun m2=>?_)⟩
  ·have m2:¬A.ops.length=B.ops.length:=fun z=>by rw[z]at m2;simp at m2
   rw[e,Xf m2,Oh];exact Xr
  have m2:A.ops.length=B.ops.length:=eqN m2;rw[m,Xd m2,MU,MU]at e;refine⟨⟨0,⟨ME _,m2,rfl⟩,by repeat' (first|exact trivial|rfl|apply And.intro)⟩,?_⟩;rintro j ⟨j1,_,j2⟩;rw[j2]at e;refine⟨⟨by omega,by omega⟩,aa (fun r=>?_) (fun r=>?_)⟩
  ·replace r:=Xo r;have r:j<A.ops.length:=by omega
   have e2:=lW gi A.ops B.ops j default r (by omega);refine⟨⟨by omega,by omega⟩,⟨by omega,by omega⟩,⟨by omega,by omega⟩,⟨by omega,by omega⟩,⟨trivial,trivial⟩,aa (fun v=>?_) (fun v=>?_)⟩
   ·have v:gi (A.ops.getD j default) (B.ops.getD j default)=false:=by simpa using v
    rw[e,e2,v];exact Xr
   ·have v:gi (A.ops.getD j default) (B.ops.getD j default)=true:=by simpa using v
    exact⟨ai (by omega) (by omega),j+1,⟨r,m2,by rw[j2,e2,v];rfl⟩,by omega,by omega,by repeat' (first|exact trivial|rfl|apply And.intro)⟩
  ·replace r:¬(j:Int)<(A.ops.length:Int):=fun z=>r (Xd z);rw[NG (show A.ops.length<=j by omega),nN,MU]at e;exact⟨ai (by omega) (by omega),k+1,⟨q,h,e⟩,by omega,by omega,by repeat' (first|exact trivial|rfl|apply And.intro)⟩
 ·replace q:¬(k:Int)<(a.length:Int):=fun z=>q (Xd z);rw[NG (show a.length<=k by omega),nN];exact Xr
end Go.AL.Seat
end
section
open Go Go.AL Go.Proofs Go.Shelf Go.Pd
namespace Go.AL.Seat
variable [Tabs]
variable [SeatLaid]
theorem ta:ag Tryz.prog 174 (p1 (.int .u8) fun c=>.ret (.bool (cn c))):=
 aW (ee Tryz.func174) fun c _ _=>g0 sn a0 Tryz.func174 (EV c)
theorem tc:ag Tryz.prog 178 (p1 (.int .u8) fun c=>.ret (.bool (cv c))):=
 aW (ee Tryz.func178) fun c _ _=>g0 sn a0 Tryz.func178 (EW c)
theorem Bp:ag Tryz.prog 209 (p1 (.int .u8) fun c=>.ret (.bool (gg c))):=
 aW (ee Tryz.func209) fun c _ _=>g0 sn a0 Tryz.func209 (EX c)
theorem uK:ag Tryz.prog 175 (p1 .str fun s=>.ret (.int .i64 (dU s:Int))):=
 aW (ee Tryz.func175) fun s hs _=>g0 (sc ta (sc tc (sc Bp sn))) ⟨[(2,fun S0=>⟨Nat,fun k=>k<=s.length/\dU s=k+dU (s.drop k),fun k=>[(3,.int .i64 k)],fun _=>[],fun k=>s.length-k⟩)],[],[]⟩ Tryz.func175 (HP s hs)
theorem F2:ag Tryz.prog 210 (p2 .str (.lst .str) fun s l=>.ret (.bool (decide (s∈l)))):=
 dx (ee Tryz.func210) fun s l _ hl _=>g0 sn ⟨[(2,fun S0=>⟨Nat,fun k=>k<=l.length/\decide (s∈l)=decide (s∈l.drop k),fun k=>[(5,.int .i64 k)],fun _=>[],fun k=>l.length-k⟩)],[],[]⟩ Tryz.func210 (HQ s l hl)
theorem F3:ag Tryz.prog 176 (p1 .str fun s=>.ret (.bool (nE s))):=
 aW (ee Tryz.func176) fun s _ _=>g0 (sc F2 sn) a0 Tryz.func176 (HR s)
theorem mb:ag Tryz.prog 133 (p1 .str fun s=>.ret (.bool (az s))):=
 aW (ee Tryz.func133) fun s _ _=>g0 (sc ta (sc uK (sc F3 sn))) a0 Tryz.func133 (HS s)
theorem td:ag Tryz.prog 136 (p1 .str fun s=>.ret (.bool (cH s))):=
 aW (ee Tryz.func136) fun s _ _=>g0 (sc tc (sc uK sn)) a0 Tryz.func136 (EY s)
theorem Bq:ag Tryz.prog 59 (p2 (.lst .str) (.lst .str) fun a b=>.ret (.bool (lx a b))):=
 dx (ee Tryz.func59) fun a b ha _ _=>g0 sn ⟨[(4,fun S0=>⟨Nat,fun k=>k<=a.length/\a.length=b.length/\du (fun x y=>decide (x=y)) a b=du (fun x y=>decide (x=y)) (List.drop k a) (List.drop k b),fun k=>[(5,.int .i64 k)],fun _=>[],fun k=>a.length-k⟩)],[],[]⟩ Tryz.func59 (EZ a b ha)
theorem Br:ag Tryz.prog 26 (p2 (.st .op) (.st .op) fun x y=>.ret (.bool (gi x y))):=
 dx (ee Tryz.func26) fun x y hx _ _=>g0 (sc Bq sn) ⟨[(4,fun S0=>⟨Nat,fun k=>k<=x.tos.length/\x.tos.length=y.tos.length/\du (fun x y=>decide (x=y)) x.tos y.tos=du (fun x y=>decide (x=y)) (List.drop k x.tos) (List.drop k y.tos),fun k=>[(5,.int .i64 k)],fun _=>[],fun k=>x.tos.length-k⟩)],[],[]⟩ Tryz.func26 (F0 x y hx)
theorem Bt:ag Tryz.prog 13 (p2 (.lst (.st .chunk)) (.lst (.st .chunk)) fun a b=>.ret (.bool (su a b))):=
 dx (ee Tryz.func13) fun a b ha _ _=>g1 nn (fun _=>[]) nn nn (fun d=>Nat.beq d 70) (sc Br sn) ⟨[(4,fun S0=>⟨Nat,fun k=>k<=a.length/\a.length=b.length/\du jJ a b=du jJ (List.drop k a) (List.drop k b),fun k=>[(5,.int .i64 k)],fun _=>[],fun k=>a.length-k⟩),(9,fun S0=>pb S0 5 fun k0=>⟨Nat,fun j=>j<=(a.getD k0.toNat default).ops.length/\(a.getD k0.toNat default).ops.length=(b.getD k0.toNat default).ops.length/\du gi (a.getD k0.toNat default).ops (b.getD k0.toNat default).ops=du gi (List.drop j (a.getD k0.toNat default).ops) (List.drop j (b.getD k0.toNat default).ops),fun j=>[(6,.int .i64 j)],fun _=>[],fun j=>(a.getD k0.toNat default).ops.length-j⟩)],[],[]⟩ Tryz.func13 (F1 a b ha)
end Go.AL.Seat
end
section
open Go Go.AL Go.Pd
namespace Go.AL.Seat
theorem HU(s:Str)  :
  let A:=True/\true=ld s/\True;if decide (s=([73,110,116]:Str))=true then A else if decide (s=([66,111,111,108]:Str))=true then A else if decide (s=([84,101,120,116]:Str))=true then A else True/\decide (s=([65,110,121]:Str))=ld s/\True:=by
 conv=>zeta
 simp only[O4,Ni,N4,ld];by_cases a:s=[73,110,116]<;>by_cases b:s=[66,111,111,108]<;>by_cases c:s=[84,101,120,116]<;>by_cases d:s=[65,110,121]<;>simp[a,b,c,d]
theorem HV(s:Shape)(hs:Wf (.st .shape) s)(ho:s.parts.length *16<=140737488355328) :
  let A:=(↑(List.length s.names):Int);let B:=True/\false=dL s/\True;let C:=List.length s.names=List.length s.parts;let D:=s=s/\false=false/\s.names=s.names/\A=A/\s=s/\True;let E:=(List.mergeSort s.names fun(x y:Str)=>decide (x<=y));if(!decide (A=(↑(List.length s.parts):Int)))=true then B else(∃(x:Nat),(x<=List.length s.names/\C/\dL s=(List.all (List.drop x s.names) az&&decide (List.Nodup s.names)))/\(0:Int)=(↑x:Int)/\D)/\∀(x:Nat),let F:=(↑x:Int);x<=List.length s.names/\C/\dL s=(List.all (List.drop x s.names) az&&decide (List.Nodup s.names))->if decide (F<A)=true then((0:Int)<=F/\F<A)/\if(!az (List.getD s.names (Int.toNat F) (dfl Ty.str)))=true then B else inR IntKind.i64 (F+(1:Int))/\∃(y:Nat),(y<=List.length s.names/\C/\dL s=(List.all (List.drop y s.names) az&&decide (List.Nodup s.names)))/\List.length s.names-y<List.length s.names-x/\F+(1:Int)=(↑y:Int)/\D else List.length s.names*(16:Nat)<=(140737488355328:Nat)/\List.length E=List.length E/\True/\decide ((↑(List.length (Lib.compact E)):Int)=A)=dL s/\True:=by
 conv=>zeta
 have ln:=hs.names.len;simp only[Mv,O4,Ni,N4];apply aa<;>intro h
 ·have:s.names.length≠s.parts.length:=by simp at h;omega
  simp[dL,this]
 have hl:s.names.length=s.parts.length:=by simp at h;omega
 refine⟨⟨0,⟨by omega,hl,by simp[dL,hl]⟩,rfl⟩,?_⟩;rintro k ⟨h1,_,h3⟩;apply aa<;>intro h
 ·replace h:=Xo h;have hk:k<s.names.length:=by omega
  rw[aU s.names k (dfl .str) hk]at h3;refine⟨by omega,?_⟩;simp only[NK]at h3;cases e:az (s.names.getD k (dfl .str))
  ·rw[e]at h3;rw[h3];simp
  ·simp only[e,MU]at h3;exact⟨bu hk ln,k+1,⟨by omega,hl,h3⟩,by omega,by omega⟩
 ·replace h:¬((k:Int)<(s.names.length:Int)):=fun e=>h (Xd e);have e:k=s.names.length:=by omega
  subst e;have hc:=iL s.names;unfold fN at hc;refine⟨by omega,?_⟩;rw[h3,MX];simp only[List.all_nil,MU];rw[Nn,<-hc];omega
theorem JY(s:Shape)(hs:Wf (.st .shape) s)(ho:s.parts.length *16<=140737488355328) :
  let A:=(0:Int);let B:=True;let C:=(↑(List.length s.parts):Int);let D:=B/\false=bh s/\B;let E:=if decide ((↑(List.length s.names):Int)=A)=true then B/\decide (C=A)=bh s/\B else D;let F:=if decide (s.name=[])=true then E else D;let G:=if decide (s.name=[])=true then List.length s.parts*(16:Nat)<=(140737488355328:Nat)/\B/\dL s=bh s/\B else D;let H:=if az s.pkg=true then E else D;let I:=if decide (s.kind=(9:Int))=true then if cH s.name=true then if decide (s.pkg=[])=true then if(!ld s.name)=true then E else H else H else D else if decide (s.kind=(10:Int))=true then if cH s.name=true then H else D else D;if decide (s.pkg=[])=true then if decide (s.kind=(1:Int))=true then F else if decide (s.kind=(2:Int))=true then F else if decide (s.kind=(3:Int))=true then F else if decide (s.kind=(4:Int))=true then F else if decide (s.kind=(5:Int))=true then if decide (s.name=[])=true then if decide ((↑(List.length s.names):Int)=A)=true then B/\decide (C=(1:Int))=bh s/\B else D else D else if decide (s.kind=(6:Int))=true then G else if decide (s.kind=(7:Int))=true then G else if decide (s.kind=(8:Int))=true then if decide (s.name=[])=true then if decide ((↑(List.length s.names):Int)=A)=true then B/\decide (A<C)=bh s/\B else D else D else I else if decide (s.kind=(1:Int))=true then D else if decide (s.kind=(2:Int))=true then D else if decide (s.kind=(3:Int))=true then D else if decide (s.kind=(4:Int))=true then D else if decide (s.kind=(5:Int))=true then D else if decide (s.kind=(6:Int))=true then D else if decide (s.kind=(7:Int))=true then D else if decide (s.kind=(8:Int))=true then D else I:=by
 conv=>zeta
 have n0:((s.names.length:Int)=0)↔s.names=[]:=by rw[<-ND];omega
 have p0:((s.parts.length:Int)=0)↔s.parts=[]:=by rw[<-ND];omega
 have p1:((s.parts.length:Int)=1)↔s.parts.length=1:=by omega
 have p2:(0<(s.parts.length:Int))↔¬s.parts=[]:=by rw[<-ND];omega
 simp only[n0,p0,p1,p2,MD,Ni,N4,ho];have hf:bh s=bh s:=rfl;conv at hf=>rhs;unfold bh
 revert hf;generalize bh s=F;generalize dL s=A;generalize cH s.name=B;generalize az s.pkg=C;generalize ld s.name=D;generalize s.kind=K;intro hf
 repeat' (apply aa<;>intro _)
 all_goals (subst hf;simp_all)
theorem Bu(n:Nat)(s:Shape)(hs:Wf (.st .shape) s)(hn:sz s<=n+1)(hb:n<=1000000) :
  let A:=True/\false=allS bh s/\True;let B:=(↑(List.length s.parts):Int);let C:=s=s/\false=false/\s.parts=s.parts/\B=B/\s=s/\True;let D:=dfl (Ty.st SN.shape);List.length s.parts*(16:Nat)<=(140737488355328:Nat)/\if(!bh s)=true then A else(∃(x:Nat),(x<=List.length s.parts/\allS bh s=allL bh (List.drop x s.parts))/\(0:Int)=(↑x:Int)/\C)/\∀(x:Nat),let E:=(↑x:Int);let F:=List.getD s.parts (Int.toNat E) D;x<=List.length s.parts/\allS bh s=allL bh (List.drop x s.parts)->if decide (E<B)=true then((0:Int)<=E/\E<B)/\sz F<=n/\if(!allS bh F)=true then A else inR IntKind.i64 (E+(1:Int))/\∃(y:Nat),(y<=List.length s.parts/\allS bh s=allL bh (List.drop y s.parts))/\List.length s.parts-y<List.length s.parts-x/\E+(1:Int)=(↑y:Int)/\C else True/\true=allS bh s/\True:=by
 conv=>zeta
 have ln:=hs.parts.len;have hz:=pD s;have hl:=CH s.parts;simp only[Mv,O4,Ni,N4];refine⟨by omega,aa (fun h=>?_) (fun h=>?_)⟩
 ·rw[lQ];simp at h;simp[h]
 refine⟨⟨0,⟨by omega,by rw[lQ];simp at h;simp[h]⟩,rfl⟩,?_⟩;rintro k ⟨h1,h3⟩;apply aa<;>intro h
 ·replace h:=Xo h;have hk:k<s.parts.length:=by omega
  have hm:=lg (bW s.parts k (dfl (.st .shape)) hk);rw[aU s.parts k (dfl (.st .shape)) hk]at h3;simp only[allL]at h3;refine⟨by omega,by omega,?_⟩;cases e:allS bh (s.parts.getD k (dfl (.st .shape)))
  ·rw[e]at h3;rw[h3];simp
  ·simp only[e,MU]at h3;exact⟨bu hk ln,k+1,⟨by omega,h3⟩,by omega,by omega⟩
 ·replace h:¬((k:Int)<(s.parts.length:Int)):=fun e=>h (Xd e);have e:k=s.parts.length:=by omega
  subst e;rw[h3,MX];rfl
theorem JZ(c:Int)(hc:0<=c/\c<=400) :
  let A:=(1:Int);let B:=c+A=c+A/\True;inR IntKind.i64 (c+A)/\if decide ((400:Int)<c+A)=true then decide ((400:Int)<c+A)=true/\B else decide ((400:Int)<c+A)=false/\B:=by
 conv=>zeta
 refine⟨ai (by omega) (by omega),aa (fun h=>?_) (fun h=>?_)⟩
 ·exact⟨h,rfl,trivial⟩
 ·exact⟨by simpa using h,rfl,trivial⟩
theorem K0(n:Nat)(s:Shape)(l c:Int)(hs:Wf (.st .shape) s)(hn:sz s<=n+1)(hc:0<=c/\c<=400/\1<=l/\l<=c+1) :
  let A:=(0:Int);let B:=(400:Int);let C:=(1:Int);let D:=(↑(sz s):Int);let E:=decide (B<c+D)=true;let F:=(401:Int);let G:=l+C;let H:=s.parts=s.parts;let I:=(↑(List.length s.parts):Int);let J:=s=s/\True;let K:=dfl (Ty.st SN.shape);(A<=c/\c<=B)/\if decide (B<c+C)=true then E/\c+C=F/\True else(∃(x:Nat×Int),let L:=(↑(szL (List.take x.1 s.parts)):Int);(x.1<=List.length s.parts/\c+C+L<=B/\deepL (List.drop x.1 s.parts) G x.2=deepS s l)/\l=x.2/\A=(↑x.1:Int)/\s=s/\l=l/\A=A/\H/\I=I/\c+C=c+C+L/\J)/\∀(x:Nat×Int),let L:=(↑(szL (List.take x.1 s.parts)):Int);let M:=c+C+L<=B;let N:=(↑x.1:Int);let O:=List.getD s.parts (Int.toNat N) K;let P:=(↑(sz O):Int);x.1<=List.length s.parts/\M/\deepL (List.drop x.1 s.parts) G x.2=deepS s l->if decide (N<I)=true then(A<=N/\N<I)/\inR IntKind.i64 G/\(sz O<=n/\A<=c+C+L/\M/\C<=l+C/\l+C<=c+C+L+C)/\if decide (B<c+C+L+P)=true then E/\F=F/\True else inR IntKind.i64 (N+C)/\∃(y:Nat×Int),let Q:=(↑(szL (List.take y.1 s.parts)):Int);(y.1<=List.length s.parts/\c+C+Q<=B/\deepL (List.drop y.1 s.parts) G y.2=deepS s l)/\List.length s.parts-y.1<List.length s.parts-x.1/\max x.2 (deepS O G)=y.2/\N+C=(↑y.1:Int)/\s=s/\l=l/\A=A/\H/\I=I/\c+C+L+P=c+C+Q/\J else decide (B<c+D)=false/\x.2=deepS s l/\c+C+L=c+D/\True:=by
 conv=>zeta
 have ln:=hs.parts.len;have hz:=pD s;refine⟨⟨hc.1,hc.2.1⟩,aa (fun h=>?_) (fun h=>?_)⟩
 ·replace h:=Xo h;have:=jl s;exact⟨Xd (by omega),by omega,trivial⟩
 replace h:¬(400:Int)<c+1:=fun e=>h (Xd e);have hd0:deepL s.parts (l+1) l=deepS s l:=by cases s;rfl
 refine⟨⟨(0,l),⟨ME _,by simp[szL];omega,by simpa using hd0⟩,rfl,rfl,rfl,rfl,rfl,rfl,rfl,by simp[szL],rfl,trivial⟩,?_⟩;rintro⟨k,d⟩ ⟨h1,h2,h3⟩;simp only[Mv]at h1 h2 h3⊢;have hc0:(0:Int)<=(szL (s.parts.take k):Int):=by omega
 apply aa<;>intro hk
 ·replace hk:=Xo hk;have hk:k<s.parts.length:=by omega
  have hs1:=mB s.parts k (dfl (.st .shape)) hk;have hm:=lg (bW s.parts k (dfl (.st .shape)) hk);rw[aU s.parts k (dfl (.st .shape)) hk]at h3;simp only[deepL]at h3;have ht:=xu s.parts (k+1);refine⟨by omega,ai (by omega) (by omega),⟨by omega,by omega,h2,by omega,by omega⟩,aa (fun h=>?_) (fun h=>?_)⟩
  ·replace h:=Xo h;exact⟨Xd (by omega),by trivial,by trivial⟩
  ·replace h:=fun e=>h (Xd e);replace h:¬(400:Int)<c+1+(szL (s.parts.take k):Int)+(sz (s.parts.getD k (dfl (.st .shape))):Int):=h;exact⟨bu hk ln,(k+1,_),⟨by omega,by simp only;omega,h3⟩,by simp only;omega,rfl,by simp only;omega,by trivial,by trivial,by trivial,by trivial,by trivial,by simp only;omega,by trivial,by trivial⟩
 ·replace hk:¬((k:Int)<(s.parts.length:Int)):=fun e=>hk (Xd e);have e:k=s.parts.length:=by omega
  subst e;rw[NS]at h2⊢;rw[MX]at h3;exact⟨Xf (by omega),h3,by omega,trivial⟩
theorem HW(s:Shape)(hs:Wf (.st .shape) s) :
  let A:=(0:Int);let B:=(1:Int);let C:=(↑(sz s):Int);let D:=if sz s<=(400:Nat)then C else(401:Int);let E:=if sz s<=(400:Nat)then deepS s B else A;(sz s<=sz s/\A<=A/\A<=(400:Int)/\B<=B/\B<=A+B)/\if decide ((400:Int)<A+C)=true then((401:Int)=D)/\(A=E)/\false=decide (sz s<=(400:Nat))/\True else(A+C=D)/\(deepS s B=E)/\true=decide (sz s<=(400:Nat))/\True:=by
 conv=>zeta
 refine⟨by simp,aa (fun h=>?_) (fun h=>?_)⟩
 ·replace h:=Xo h;have h':¬sz s<=400:=by omega
  rw[Mp h',Mp h'];exact⟨rfl,rfl,by simp[h'],trivial⟩
 ·replace h:¬(400:Int)<0+(sz s:Int):=fun e=>h (Xd e);have h':sz s<=400:=by omega
  rw[Mu h',Mu h'];exact⟨by omega,by trivial,by simp[h'],trivial⟩
theorem HX(s:Shape)  :
  let A:=True;if(!decide (sz s<=(400:Nat)))=true then A/\(3:Int)=cw s/\A else if decide ((40:Int)<if sz s<=(400:Nat)then deepS s (1:Int)else(0:Int))=true then A/\(91:Int)=cw s/\A else sz s<=(400:Nat)/\if(!allS bh s)=true then A/\(70:Int)=cw s/\A else A/\(0:Int)=cw s/\A:=by
 conv=>zeta
 unfold cw;by_cases h1:sz s<=400
 ·rw[Mp (by simp[h1]),Mu h1,Mp (show ¬400<sz s by omega)];by_cases h2:(40:Int)<deepS s 1
  ·rw[Mu (by simp[h2]),Mu h2];exact Xr
  ·rw[Mp (by simp[h2]),Mp h2];refine⟨h1,?_⟩;cases allS bh s<;>simp
 ·rw[Mu (by simp[h1]),Mu (show 400<sz s by omega)];exact Xr
theorem F4(n:Nat)(t:Trm)(m:Int)(hs:Wf (.st .term) t)(hz:szT t<=n+1)(h0:0<=m)(h1:m<=1000000) :
  let A:=(1:Int);let B:=(0:Int);let C:=(↑(List.length t.parts):Int);let D:=t=t/\m=m/\B=B/\B=B/\t.parts=t.parts/\C=C/\t=t/\True;let E:=countT t m;let F:=dfl (Ty.st SN.term);(∃(x:Nat×Int×Int),(x.1<=List.length t.parts/\A<=x.2.1/\x.2.1<=m+A/\B<=x.2.2/\x.2.2+A<=x.2.1/\countL (List.drop x.1 t.parts) m x.2.1 x.2.2=countL t.parts m A B)/\A=x.2.1/\B=x.2.2/\B=(↑x.1:Int)/\D)/\∀(x:Nat×Int×Int),let G:=(↑x.1:Int);let H:=inR IntKind.i64 (x.2.2+A)/\True/\x.2.1=E.1/\x.2.2+A=E.2/\True;let I:=m-x.2.1;let J:=List.getD t.parts (Int.toNat G) F;let K:=countT J I;x.1<=List.length t.parts/\A<=x.2.1/\x.2.1<=m+A/\B<=x.2.2/\x.2.2+A<=x.2.1/\countL (List.drop x.1 t.parts) m x.2.1 x.2.2=countL t.parts m A B->if decide (G<C)=true then(B<=G/\G<C)/\if decide (m<x.2.1)=true then H else inR IntKind.i64 I/\(szT J<=n/\B<=m-x.2.1/\m-x.2.1<=(1000000:Int))/\inR IntKind.i64 (x.2.1+K.1)/\inR IntKind.i64 (G+A)/\∃(y:Nat×Int×Int),(y.1<=List.length t.parts/\A<=y.2.1/\y.2.1<=m+A/\B<=y.2.2/\y.2.2+A<=y.2.1/\countL (List.drop y.1 t.parts) m y.2.1 y.2.2=countL t.parts m A B)/\List.length t.parts-y.1<List.length t.parts-x.1/\x.2.1+K.1=y.2.1/\max x.2.2 K.2=y.2.2/\G+A=(↑y.1:Int)/\D else H:=by
 conv=>zeta
 have ln:=hs.term_parts.len;rw[E7];refine⟨⟨(0,1,0),⟨ME _,by decide,by show(1:Int)<=m+1;omega,by decide,by decide,rfl⟩,rfl,rfl,rfl,?_⟩,?_⟩
 ·exact Xr
 rintro⟨k,a,d⟩ ⟨h1,h2,h3,h4,h5,h6⟩;simp only[Mv]at h1 h2 h3 h4 h5 h6⊢;apply aa<;>intro h
 ·replace h:=Xo h;have hk:k<t.parts.length:=by omega
  rw[aU t.parts k (dfl (.st .term)) hk,countL]at h6;refine⟨by omega,aa (fun c=>?_) (fun c=>?_)⟩
  ·replace c:=Xo c;rw[Mu c]at h6;rw[<-h6];refine⟨ai (by omega) (by omega),?_⟩;exact Xr
  ·replace c:¬m<a:=fun e=>c (Xd e);rw[Mp c]at h6;have hm:=cE (bW t.parts k (dfl (.st .term)) hk);have he:=cz t;have hb:=countT_bound (t.parts.getD k (dfl (.st .term))) (m-a) (by omega);refine⟨ai (by omega) (by omega),⟨by omega,by omega,by omega⟩,ai (by omega) (by omega),bu hk ln,(k+1,_,_),⟨by show k+1<=_;omega,?_,?_,?_,?_,h6⟩,by show _-(k+1)<_;omega,rfl,rfl,by show _=((k+1:Nat):Int);omega,?_⟩
   ·show(1:Int)<=a+_;omega
   ·show a+_<=m+1;omega
   ·show(0:Int)<=max d _;omega
   ·show max d _+1<=a+_;omega
   exact Xr
 ·replace h:¬((k:Int)<(t.parts.length:Int)):=fun e=>h (Xd e);have e:k=t.parts.length:=by omega
  subst e;rw[MX,countL]at h6;rw[<-h6];refine⟨ai (by omega) (by omega),?_⟩;exact Xr
theorem Bv (x:Str)  :
  True/\(!az x)=!az x/\True:=by
 exact⟨trivial,by trivial,trivial⟩
theorem Bw (l:List Str) (hl:Wf (.lst .str) l) :
  let A:=(0:Nat);let B:=(↑(List.length l):Int);let C:=l=l/\B=B/\True;(∃(x:Nat),(x<=List.length l/\bP az (List.drop x l) x=bP az l A)/\(0:Int)=(↑x:Int)/\C)/\∀(x:Nat),let D:=(↑x:Int);x<=List.length l/\bP az (List.drop x l) x=bP az l A->if decide (D<B)=true then((0:Int)<=D/\D<B)/\if(!az (List.getD l (Int.toNat D) (dfl Ty.str)))=true then True/\D=bP az l A/\True else inR IntKind.i64 (D+(1:Int))/\∃(y:Nat),(y<=List.length l/\bP az (List.drop y l) y=bP az l A)/\List.length l-y<List.length l-x/\D+(1:Int)=(↑y:Int)/\C else True/\(-1:Int)=bP az l A/\True:=by
 conv=>zeta
 have ln:=hl.len;simp only[Mv];refine⟨⟨0,⟨ME _,by simp⟩,rfl,by trivial,by trivial,trivial⟩,?_⟩;rintro k ⟨h1,h2⟩;apply aa<;>intro h
 ·replace h:=Xo h;have hk:k<l.length:=by omega
  rw[aU l k (dfl .str) hk,bP]at h2;refine⟨by omega,aa (fun c=>?_) (fun c=>?_)⟩
  ·have c:az (l.getD k (dfl .str))=false:=by simpa using c
   rw[c,Mp OJ]at h2;rw[<-h2];exact Xr
  ·have c:az (l.getD k (dfl .str))=true:=by simpa using c
   rw[Mu c]at h2;refine⟨bu hk ln,k+1,⟨by omega,h2⟩,by omega,by omega,by trivial,by trivial,trivial⟩
 ·replace h:¬((k:Int)<(l.length:Int)):=fun e=>h (Xd e);have e:k=l.length:=by omega
  subst e;rw[MX,bP]at h2;rw[<-h2];exact Xr
theorem Bx (l:List Str)  :
  True/\decide ((0:Int)<=bP az l (0:Nat))=!List.all l az/\True:=by
 exact⟨trivial,lh az l 0,trivial⟩
theorem HY (l:List Str)  :
  True/\(!!List.all l az)=List.all l az/\True:=by
 exact⟨trivial,PM _,trivial⟩
theorem HZ(l:List Str)(ho:l.length *16<=140737488355328) :
  let A:=(List.mergeSort l fun(x y:Str)=>decide (x<=y));let B:=List.all l az&&decide (List.Nodup l);List.length l*(16:Nat)<=(140737488355328:Nat)/\if List.all l az=true then List.length A=List.length A/\True/\decide ((↑(List.length (Lib.compact A)):Int)=(↑(List.length l):Int))=B/\True else True/\false=B/\True:=by
 conv=>zeta
 have hc:=iL l;unfold fN at hc;refine⟨ho,aa (fun h=>?_) (fun h=>?_)⟩
 ·refine⟨by trivial,trivial,?_,trivial⟩;rw[h,MU,Nn,<-hc];omega
 ·have h:l.all az=false:=by simpa using h
  exact⟨trivial,by rw[h];rfl,trivial⟩
theorem By(n:Nat)(x:Shape) (ho:sz x<=n) :
  sz x<=n/\True/\(!allS aS x)=!allS aS x/\True:=by
 exact⟨ho,trivial,by trivial,trivial⟩
theorem Bz(n:Nat)(l:List Shape) (hl:Wf (.lst (.st .shape)) l)(ho:∀x∈l,sz x<=n) :
  let A:=allS aS;let B:=(0:Nat);let C:=(↑(List.length l):Int);let D:=l=l/\C=C/\True;let E:=dfl (Ty.st SN.shape);(∃(x:Nat),(x<=List.length l/\bP A (List.drop x l) x=bP A l B)/\(0:Int)=(↑x:Int)/\D)/\∀(x:Nat),let F:=(↑x:Int);let G:=List.getD l (Int.toNat F) E;x<=List.length l/\bP A (List.drop x l) x=bP A l B->if decide (F<C)=true then((0:Int)<=F/\F<C)/\sz G<=n/\if(!allS aS G)=true then True/\F=bP A l B/\True else inR IntKind.i64 (F+(1:Int))/\∃(y:Nat),(y<=List.length l/\bP A (List.drop y l) y=bP A l B)/\List.length l-y<List.length l-x/\F+(1:Int)=(↑y:Int)/\D else True/\(-1:Int)=bP A l B/\True:=by
 conv=>zeta
 have ln:=hl.len;simp only[Mv];refine⟨⟨0,⟨ME _,by simp⟩,rfl,by trivial,by trivial,trivial⟩,?_⟩;rintro k ⟨h1,h2⟩;apply aa<;>intro h
 ·replace h:=Xo h;have hk:k<l.length:=by omega
  rw[aU l k (dfl (.st .shape)) hk,bP]at h2;refine⟨by omega,ho _ (bW l k _ hk),aa (fun c=>?_) (fun c=>?_)⟩
  ·have c:(allS aS) (l.getD k (dfl (.st .shape)))=false:=by simpa using c
   rw[c,Mp OJ]at h2;rw[<-h2];exact Xr
  ·have c:(allS aS) (l.getD k (dfl (.st .shape)))=true:=by simpa using c
   rw[Mu c]at h2;refine⟨bu hk ln,k+1,⟨by omega,h2⟩,by omega,by omega,by trivial,by trivial,trivial⟩
 ·replace h:¬((k:Int)<(l.length:Int)):=fun e=>h (Xd e);have e:k=l.length:=by omega
  subst e;rw[MX,bP]at h2;rw[<-h2];exact Xr
theorem BA(n:Nat)(l:List Shape) (ho:∀x∈l,sz x<=n) :
  (∀(x:Shape),x∈l->sz x<=n)/\True/\decide ((0:Int)<=bP (allS aS) l (0:Nat))=!List.all l (allS aS)/\True:=by
 exact⟨ho,trivial,lh (allS aS) l 0,trivial⟩
theorem I0(n:Nat)(l:List Shape) (ho:∀x∈l,sz x<=n) :
  (∀(x:Shape),x∈l->sz x<=n)/\True/\(!!List.all l (allS aS))=List.all l (allS aS)/\True:=by
 exact⟨ho,trivial,PM _,trivial⟩
theorem K8(n:Nat)(s:Shape)(ho:sz s<=n+1) :
  if(!decide (s.kind=(10:Int)))=true then(∀(x:Shape),x∈s.parts->sz x<=n)/\True/\List.all s.parts (allS aS)=allS aS s/\True else True/\false=allS aS s/\True:=by
 have e0:allS aS s=(aS s&&s.parts.all (allS aS)):=by rw[lQ,xw]
 have h0:=pD s;have hm:∀x∈s.parts,sz x<=n:=fun x hx=>by have:=lg hx;omega
 rw[e0];apply aa<;>intro h
 ·have h:aS s=true:=h;rw[h,MU];exact⟨hm,trivial,rfl,trivial⟩
 ·have h:aS s=false:=by simpa[aS]using h
  rw[h];exact Xr
theorem F5(s:Shape)  :
  let A:=(decide (cw s=(0:Int))&&allS aS s);if decide (cw s=(0:Int))=true then sz s<=(400:Nat)/\True/\allS aS s=A/\True else True/\false=A/\True:=by
 conv=>zeta
 apply aa<;>intro h
 ·have h:cw s=0:=by simpa using h
  refine⟨?_,trivial,by simp[h],trivial⟩;unfold cw at h;by_cases c:400<sz s
  ·rw[Mu c]at h;exact absurd h (by decide)
  ·omega
 ·have h:¬cw s=0:=by simpa using h
  exact⟨trivial,by simp[h],trivial⟩
theorem LZ(t:Trm)  :
  let A:=(↑(List.length t.names):Int);let B:=(↑(List.length t.vars):Int);let C:=(↑(List.length t.shapes):Int);let D:=(↑(List.length t.parts):Int);True/\A=A/\B=B/\C=C/\D=D/\True:=by
 conv=>zeta
 exact Xr
theorem I1(s:Str)(hs:Wf .str s) :
  let A:=cK s;let B:=(↑(List.length A):Int);let C:=s=s/\cK s=cK s/\B=B/\True;let D:=dfl (Ty.int IntKind.u8);let E:=(1:Int);(∃(x:Nat),(x<=List.length s/\List.all s di=List.all (List.drop x s) di)/\(0:Int)=(↑x:Int)/\C)/\∀(x:Nat),let F:=(↑x:Int);let G:=Int.toNat F;let H:=inR IntKind.i64 (F+E)/\∃(y:Nat),(y<=List.length s/\List.all s di=List.all (List.drop y s) di)/\List.length s-y<List.length s-x/\F+E=(↑y:Int)/\C;x<=List.length s/\List.all s di=List.all (List.drop x s) di->if decide (F<B)=true then((0:Int)<=F/\F<B)/\if decide (List.getD A G D<(32:Int))=true then if(!decide (List.getD A G D=(10:Int)))=true then if(!decide (List.getD A G D=(9:Int)))=true then True/\false=jb s/\True else H else H else H else True/\Option.isNone (lk s)=jb s/\True:=by
 conv=>zeta
 have ln:=hs.str;have hbl:(cK s).length=s.length:=MZ _;simp only[hbl,Mv];refine⟨⟨0,⟨ME _,rfl⟩,?_⟩,?_⟩
 ·exact Xr
 rintro k ⟨h1,h2⟩;apply aa<;>intro h
 ·have hk:k<s.length:=by have:=Xo h;omega
  rw[aU s k 0 hk,NK]at h2;have hq:=uo (s.getD k 0);simp only[xE s k hk]
  have yes:¬(bI (s.getD k 0)<32/\bI (s.getD k 0)≠10/\bI (s.getD k 0)≠9)->s.all di=(s.drop (k+1)).all di:=fun e=>by
   have:di (s.getD k 0)=true:=by
    cases hh:di (s.getD k 0)with|true=>rfl|false=>exact absurd (hq.1 hh) e
   rw[h2,this,MU]
  refine⟨⟨by omega,by omega⟩,?_⟩
  repeat' (apply aa<;>intro _)
  all_goals (simp only[MD,MO,N6]at *)
  all_goals first
   |(refine⟨trivial,?_,trivial⟩;unfold jb;rw[h2,hq.2 (by omega),Og,Og])
   |(refine⟨bu hk ln,k+1,⟨by omega,yes (by omega)⟩,by omega,by omega,?_⟩;exact Xr)
 ·have hk:k=s.length:=by have:¬((k:Int)<(s.length:Int)):=fun e=>h (Xd e);omega
  refine⟨trivial,?_,trivial⟩;unfold jb;rw[h2,hk,MX];rfl
theorem yF (x:Shape)  :
  True/\(!(decide (cw x=(0:Int))&&allS aS x))=!bn x/\True:=by
 exact⟨trivial,by trivial,trivial⟩
theorem yG (l:List Shape) (hl:Wf (.lst (.st .shape)) l) :
  let A:=(0:Nat);let B:=(↑(List.length l):Int);let C:=l=l/\B=B/\True;(∃(x:Nat),(x<=List.length l/\bP bn (List.drop x l) x=bP bn l A)/\(0:Int)=(↑x:Int)/\C)/\∀(x:Nat),let D:=(↑x:Int);x<=List.length l/\bP bn (List.drop x l) x=bP bn l A->if decide (D<B)=true then((0:Int)<=D/\D<B)/\if(!bn (List.getD l (Int.toNat D) (dfl (Ty.st SN.shape))))=true then True/\D=bP bn l A/\True else inR IntKind.i64 (D+(1:Int))/\∃(y:Nat),(y<=List.length l/\bP bn (List.drop y l) y=bP bn l A)/\List.length l-y<List.length l-x/\D+(1:Int)=(↑y:Int)/\C else True/\(-1:Int)=bP bn l A/\True:=by
 conv=>zeta
 have ln:=hl.len;simp only[Mv];refine⟨⟨0,⟨ME _,by simp⟩,rfl,by trivial,by trivial,trivial⟩,?_⟩;rintro k ⟨h1,h2⟩;apply aa<;>intro h
 ·replace h:=Xo h;have hk:k<l.length:=by omega
  rw[aU l k (dfl (.st .shape)) hk,bP]at h2;refine⟨by omega,aa (fun c=>?_) (fun c=>?_)⟩
  ·have c:bn (l.getD k (dfl (.st .shape)))=false:=by simpa using c
   rw[c,Mp OJ]at h2;rw[<-h2];exact Xr
  ·have c:bn (l.getD k (dfl (.st .shape)))=true:=by simpa using c
   rw[Mu c]at h2;refine⟨bu hk ln,k+1,⟨by omega,h2⟩,by omega,by omega,by trivial,by trivial,trivial⟩
 ·replace h:¬((k:Int)<(l.length:Int)):=fun e=>h (Xd e);have e:k=l.length:=by omega
  subst e;rw[MX,bP]at h2;rw[<-h2];exact Xr
theorem yH (l:List Shape)  :
  True/\decide ((0:Int)<=bP bn l (0:Nat))=!List.all l bn/\True:=by
 exact⟨trivial,lh bn l 0,trivial⟩
theorem F6 (l:List Shape)  :
  True/\(!!List.all l bn)=List.all l bn/\True:=by
 exact⟨trivial,PM _,trivial⟩
theorem I2(t:Trm)(ht:Wf (.st .term) t)(ho:t.names.length<=8796093022208) :
  let A:=(0:Int);let B:=(↑(List.length t.names):Int);let C:=(↑(List.length t.vars):Int);let D:=(↑(List.length t.shapes):Int);let E:=(↑(List.length t.parts):Int);let F:=True;let G:=t=t/\false=false/\t=t/\B=B/\C=C/\D=D/\E=E/\F;let H:=true=!jc t/\G;let I:=(1:Int);let J:=(!List.all t.shapes bn)=!jc t/\G;let K:=if(!decide (t.pkg=[]))=true then if(!decide (t.kind=(5:Int)))=true then H else J else J;let L:=F/\false=ax t/\F;let M:=F/\(decide (B=A)&&(decide (C=A)&&(decide (D=A)&&(decide (E=A)&&true))))=ax t/\F;let N:=if decide (t.name=[])=true then M else L;let O:=List.length t.names*(16:Nat)<=(140737488355328:Nat);let P:=decide (E=I)&&true;let Q:=decide (E=E)&&true;let R:=F/\(decide (B=A)&&(decide (C=A)&&(decide (D=A)&&P)))=ax t/\F;let S:=if az t.name=true then R else L;let T:=inR IntKind.i64 (B+I);let U:=if cH t.name=true then R else L;(if decide (t.pos<A)=true then H else if(!decide (t.n=A))=true then if(!decide (t.kind=I))=true then H else K else K)/\if(!jc t)=true then L else if decide (t.kind=I)=true then if decide (t.name=[])=true then if decide (A<=t.n)=true then if decide (t.n<=(999999999999999:Int))=true then M else L else L else L else if decide (t.kind=(2:Int))=true then if jb t.name=true then M else L else if decide (t.kind=(3:Int))=true then N else if decide (t.kind=(4:Int))=true then N else if decide (t.kind=(5:Int))=true then if az t.name=true then if decide (t.pkg=[])=true then M else if az t.pkg=true then M else L else L else if decide (t.kind=(6:Int))=true then if decide (t.name=[])=true then if decide (B<=(4096:Int))=true then O/\if(List.all t.names az&&decide (List.Nodup t.names))=true then F/\(decide (B=B)&&(decide (C=A)&&(decide (D=B)&&P)))=ax t/\F else L else L else L else if decide (t.kind=(7:Int))=true then if decide (t.name=[])=true then if decide (A<E)=true then F/\(decide (B=A)&&(decide (C=A)&&(decide (D=A)&&Q)))=ax t/\F else L else L else if decide (t.kind=(8:Int))=true then if decide (t.name=[])=true then O/\if(List.all t.names az&&decide (List.Nodup t.names))=true then F/\(decide (B=B)&&(decide (C=A)&&(decide (D=A)&&(decide (E=B)&&true))))=ax t/\F else L else L else if decide (t.kind=(9:Int))=true then S else if decide (t.kind=(10:Int))=true then S else if decide (t.kind=(11:Int))=true then if decide (t.name=[])=true then F/\(decide (B=A)&&(decide (C=A)&&(decide (D=I)&&Q)))=ax t/\F else L else if decide (t.kind=(12:Int))=true then if decide (t.name=[])=true then F/\(decide (B=A)&&(decide (C=A)&&(decide (D=I)&&(decide (E=(3:Int))&&true))))=ax t/\F else L else if decide (t.kind=(13:Int))=true then if decide (t.name=[])=true then O/\if(List.all t.names az&&decide (List.Nodup t.names))=true then if List.all t.vars az=true then T/\T/\F/\(decide (B=B)&&(decide (C=B)&&(decide (D=B+I)&&(decide (E=B+I)&&true))))=ax t/\F else L else L else L else if decide (t.kind=(14:Int))=true then if az t.name=true then F/\(decide (B=A)&&(decide (C=A)&&(decide (D=A)&&(decide (E=(2:Int))&&true))))=ax t/\F else L else if decide (t.kind=(15:Int))=true then if decide (t.name=[])=true then F/\(decide (B=A)&&(decide (C=A)&&(decide (D=I)&&P)))=ax t/\F else L else if decide (t.kind=(16:Int))=true then U else if decide (t.kind=(17:Int))=true then U else L:=by
 conv=>zeta
 refine⟨?_,aa (fun h=>?_) (fun h=>?_)⟩
 ·unfold jc
  repeat' (apply aa<;>intro _)
  all_goals simp_all
 ·have h:jc t=false:=by simpa using h
  unfold ax;rw[h];exact Xr
 have h:jc t=true:=by simpa using h
 have e0:ax t=jF t:=by unfold ax;rw[h,MU]
 rw[e0];clear h e0;unfold jF fk eG;simp only[dnZ,dn1,dn2,dn3,dnN,dnS,dnL,dnP];generalize t.names.all az=na;generalize t.vars.all az=va
 repeat' (first|apply aa<;>intro _|refine⟨by omega,?_⟩|refine⟨ai (by omega) (by omega),?_⟩|fail)
 all_goals (refine⟨trivial,?_,trivial⟩;try simp_all)
 all_goals first|(simp only[Bool.and_assoc];done)|(intros;omega)
theorem yI(n:Nat)(x:Trm) (ho:szT x<=n/\cX x=true) :
  (szT x<=n/\cX x=true)/\True/\(!allT ax x)=!allT ax x/\True:=by
 exact⟨ho,trivial,by trivial,trivial⟩
theorem yJ(n:Nat)(l:List Trm) (hl:Wf (.lst (.st .term)) l)(ho:∀x∈l,szT x<=n/\cX x=true) :
  let A:=allT ax;let B:=(0:Nat);let C:=(↑(List.length l):Int);let D:=l=l/\C=C/\True;let E:=dfl (Ty.st SN.term);(∃(x:Nat),(x<=List.length l/\bP A (List.drop x l) x=bP A l B)/\(0:Int)=(↑x:Int)/\D)/\∀(x:Nat),let F:=(↑x:Int);let G:=List.getD l (Int.toNat F) E;x<=List.length l/\bP A (List.drop x l) x=bP A l B->if decide (F<C)=true then((0:Int)<=F/\F<C)/\(szT G<=n/\cX G=true)/\if(!allT ax G)=true then True/\F=bP A l B/\True else inR IntKind.i64 (F+(1:Int))/\∃(y:Nat),(y<=List.length l/\bP A (List.drop y l) y=bP A l B)/\List.length l-y<List.length l-x/\F+(1:Int)=(↑y:Int)/\D else True/\(-1:Int)=bP A l B/\True:=by
 conv=>zeta
 have ln:=hl.len;simp only[Mv];refine⟨⟨0,⟨ME _,by simp⟩,rfl,by trivial,by trivial,trivial⟩,?_⟩;rintro k ⟨h1,h2⟩;apply aa<;>intro h
 ·replace h:=Xo h;have hk:k<l.length:=by omega
  rw[aU l k (dfl (.st .term)) hk,bP]at h2;refine⟨by omega,ho _ (bW l k _ hk),aa (fun c=>?_) (fun c=>?_)⟩
  ·have c:(allT ax) (l.getD k (dfl (.st .term)))=false:=by simpa using c
   rw[c,Mp OJ]at h2;rw[<-h2];exact Xr
  ·have c:(allT ax) (l.getD k (dfl (.st .term)))=true:=by simpa using c
   rw[Mu c]at h2;refine⟨bu hk ln,k+1,⟨by omega,h2⟩,by omega,by omega,by trivial,by trivial,trivial⟩
 ·replace h:¬((k:Int)<(l.length:Int)):=fun e=>h (Xd e);have e:k=l.length:=by omega
  subst e;rw[MX,bP]at h2;rw[<-h2];exact Xr
theorem yK(n:Nat)(l:List Trm) (ho:∀x∈l,szT x<=n/\cX x=true) :
  (∀(x:Trm),x∈l->szT x<=n/\cX x=true)/\True/\decide ((0:Int)<=bP (allT ax) l (0:Nat))=!List.all l (allT ax)/\True:=by
 exact⟨ho,trivial,lh (allT ax) l 0,trivial⟩
theorem F7(n:Nat)(l:List Trm) (ho:∀x∈l,szT x<=n/\cX x=true) :
  (∀(x:Trm),x∈l->szT x<=n/\cX x=true)/\True/\(!!List.all l (allT ax))=List.all l (allT ax)/\True:=by
 exact⟨ho,trivial,PM _,trivial⟩
theorem F8(n:Nat)(t:Trm)(ho:szT t<=n+1/\cX t=true) :
  List.length t.names<=(8796093022208:Nat)/\if ax t=true then(∀(x:Trm),x∈t.parts->szT x<=n/\cX x=true)/\True/\List.all t.parts (allT ax)=allT ax t/\True else True/\false=allT ax t/\True:=by
 obtain⟨h1,h2⟩:=ho;have e0:allT ax t=(ax t&&t.parts.all (allT ax)):=by rw[allT_eq,allTL_all]
 have h0:=cz t;rw[e0];refine⟨Aq h2,aa (fun h=>?_) (fun h=>?_)⟩
 ·rw[h,MU];exact⟨fun x hx=>⟨by have:=cE hx;omega,Ef h2 hx⟩,trivial,rfl,trivial⟩
 ·have h:ax t=false:=by simpa using h
  rw[h];exact Xr
theorem F9(x:Trm)(ho:cX x=true) :
  let A:=szT x<=szT x;let B:=(4096:Int);let C:=True;(A/\(0:Int)<=B/\B<=(1000000:Int))/\if decide (B<(countT x B).1)=true then C/\(3:Int)=aZ x/\C else if decide ((40:Int)<(countT x B).2)=true then C/\(91:Int)=aZ x/\C else(A/\cX x=true)/\if(!allT ax x)=true then C/\(80:Int)=aZ x/\C else C/\(0:Int)=aZ x/\C:=by
 conv=>zeta
 refine⟨⟨Mx _,by omega,by omega⟩,aa (fun h=>?_) (fun h=>?_)⟩
 ·replace h:=Xo h;unfold aZ;rw[Mu h];exact Xr
 have h:¬_:=fun e=>h (Xd e);have e1:aZ x=if 40<(countT x 4096).2 then 91 else if allT ax x=true then 0 else 80:=by unfold aZ;rw[Mp h]
 apply aa<;>intro k
 ·rw[Mu (Xo k)]at e1;rw[e1];exact Xr
 rw[Mp (fun e=>k (Xd e))]at e1;refine⟨⟨Mx _,ho⟩,aa (fun j=>?_) (fun j=>?_)⟩
 ·have j:allT ax x=false:=by simpa using j
  rw[j,Mp OJ]at e1;rw[e1];exact Xr
 ·have j:allT ax x=true:=by simpa using j
  rw[Mu j]at e1;rw[e1];exact Xr
theorem K9(s:Nat)(xs ys:List Opn)(ho:(xs.length+ys.length) *88<=140737488355328) :
  let A:=xs++ys;let B:=(↑(List.length A):Int);let C:=(1:Int);let D:=s+List.length ys=s+List.length ys;((s=s/\List.length xs=List.length xs)/\(List.length xs+List.length ys)*(88:Nat)<=(140737488355328:Nat))/\inR IntKind.i64 (B-C)/\True/\B-C=(↑(List.length xs):Int)+(↑(List.length ys):Int)-C/\D/\List.length A=List.length A/\D/\xs++ys=xs++ys/\True:=by
 conv=>zeta
 refine⟨⟨⟨rfl,rfl⟩,ho⟩,ai (by omega) (by simp only[Mq];omega),trivial,by simp only[Mq];omega,by repeat' (first|exact trivial|rfl|apply And.intro)⟩
theorem I3(s:Nat)(xs:List Opn)  :
  let A:=(↑(List.length xs):Int);True/\A=A/\s=s/\List.length xs=List.length xs/\s=s/\xs=xs/\True:=by
 conv=>zeta
 repeat' (first|exact trivial|rfl|apply And.intro)
theorem I4(s:Nat)(sp:List Nam)(x:CS)(t:Trm)(ht:Wf (.st .term) t)(ho:sp.length<=9223372036854775807) :
  let A:=(↑(List.length sp):Int);let B:=(1:Int);let C:=inR IntKind.i64 (A-B);let D:=List.length x.1=List.length x.1;let E:=s=s;let F:=List.length sp=List.length sp;let G:=List.length x.2=List.length x.2;let H:=(0:Int);let I:=t=t/\D/\D/\E/\F/\D/\x.1=x.1/\E/\sp=sp/\G/\G/\G/\x.2=x.2/\H=H/\H=H/\mf UInt8=mf UInt8/\H=H/\True;let J:=dfl (Ty.st SN.nm);let K:=mE sp t;let L:=[]=K.name/\K.names=[]/\K.tos=[]/\t.pos=K.pos/\D/\D/\E/\F/\D/\x.1=x.1/\E/\sp=sp/\G/\G/\G/\x.2=x.2/\True;C/\(∃(x_1:Nat),(x_1<=List.length sp/\mE sp t=dG sp t x_1)/\A-B=(↑x_1:Int)-B/\I)/\∀(x_1:Nat),let M:=(↑x_1:Int);let N:=M-B;let O:=List.getD sp (Int.toNat N) J;x_1<=List.length sp/\mE sp t=dG sp t x_1->if decide (H<=M-B)=true then(H<=M-B/\M-B<A)/\(E/\Int.toNat N<List.length sp)/\if(decide (O.pkg=t.pkg)&&(decide (O.name=t.name)&&true))=true then C/\inR IntKind.i64 (A-B-N)/\True/\(4:Int)=K.kind/\A-B-N=K.n/\L else inR IntKind.i64 (M-B-B)/\∃(y:Nat),(y<=List.length sp/\mE sp t=dG sp t y)/\y<x_1/\M-B-B=(↑y:Int)-B/\I else True/\(5:Int)=K.kind/\(110:Int)=K.n/\L:=by
 conv=>zeta
 refine⟨ai (by omega) (by omega),⟨sp.length,⟨Mx _,rfl⟩,by repeat' (first|exact trivial|rfl|apply And.intro)⟩,?_⟩;rintro k ⟨h1,h2⟩;apply aa<;>intro h
 ·replace h:=Xo h;obtain⟨k,rfl⟩:∃j,k=j+1:=⟨k-1,by omega⟩;have e:Int.toNat (((k+1:Nat):Int)-1)=k:=by omega
  simp only[e];rw[dG]at h2;refine⟨⟨by omega,by omega⟩,⟨trivial,by omega⟩,aa (fun g=>?_) (fun g=>?_)⟩
  ·rw[Mo,Mo]at g;have g:(sp.getD k default).pkg=t.pkg/\(sp.getD k default).name=t.name:=⟨Xo g.1,Xo g.2.1⟩;rw[Mu g]at h2;rw[h2];refine⟨ai (by omega) (by omega),ai (by omega) (by omega),trivial,rfl,by show _=(sp.length:Int)-1-k;omega,by repeat' (first|exact trivial|rfl|apply And.intro)⟩
  ·rw[Mo,Mo]at g;have g:¬((sp.getD k default).pkg=t.pkg/\(sp.getD k default).name=t.name):=fun z=>g ⟨Xd z.1,Xd z.2,rfl⟩;rw[Mp g]at h2;exact⟨ai (by omega) (by omega),k,⟨by omega,h2⟩,by omega,by omega,by repeat' (first|exact trivial|rfl|apply And.intro)⟩
 ·have h:¬0<=(k:Int)-1:=fun z=>h (Xd z);have:k=0:=by omega
  subst this;rw[h2]
  repeat' (first|exact trivial|rfl|apply And.intro)
theorem BB(t:Trm)(ht:Wf (.st .term) t)(ho:t.names.length *16<=140737488355328) :
  let A:=(↑(List.length t.parts):Int);let B:=True;let C:=eV t;let D:=[]=C.1.name;let E:=C.1.names=[];let F:=C.1.tos=[];let G:=F/\t.pos=C.1.pos/\true=C.2/\B;let H:=(0:Int);let I:=H=C.1.n;let J:=I/\t.name=C.1.name/\E/\G;if decide (t.kind=(7:Int))=true then inR IntKind.i64 (A-(1:Int))/\B/\(7:Int)=C.1.kind/\A-(1:Int)=C.1.n/\D/\E/\G else if decide (t.kind=(8:Int))=true then(Nat.le (List.length t.names*(16:Nat)) (140737488355328:Nat)/\B)/\B/\(8:Int)=C.1.kind/\I/\D/\t.names=C.1.names/\G else if decide (t.kind=(9:Int))=true then B/\(9:Int)=C.1.kind/\J else if decide (t.kind=(10:Int))=true then B/\(10:Int)=C.1.kind/\J else if decide (t.kind=(11:Int))=true then B/\(11:Int)=C.1.kind/\A=C.1.n/\D/\E/\G else if decide (t.kind=(16:Int))=true then B/\(17:Int)=C.1.kind/\J else if decide (t.kind=(17:Int))=true then B/\(18:Int)=C.1.kind/\J else B/\H=C.1.kind/\I/\D/\E/\F/\H=C.1.pos/\false=C.2/\B:=by
 conv=>zeta
 unfold eV;apply aa<;>intro h
 ·rw[Mu (Xo h)];exact⟨ai (by omega) (by have:=ht.term_parts.len;omega),trivial,rfl,rfl,by repeat' (first|exact trivial|rfl|apply And.intro)⟩
 rw[Mp (fun z=>h (Xd z))];apply aa<;>intro h
 ·rw[Mu (Xo h)];exact⟨⟨ho,trivial⟩,by repeat' (first|exact trivial|rfl|apply And.intro)⟩
 rw[Mp (fun z=>h (Xd z))];apply aa<;>intro h
 ·rw[Mu (Xo h)]
  repeat' (first|exact trivial|rfl|apply And.intro)
 rw[Mp (fun z=>h (Xd z))];apply aa<;>intro h
 ·rw[Mu (Xo h)]
  repeat' (first|exact trivial|rfl|apply And.intro)
 rw[Mp (fun z=>h (Xd z))];apply aa<;>intro h
 ·rw[Mu (Xo h)]
  repeat' (first|exact trivial|rfl|apply And.intro)
 rw[Mp (fun z=>h (Xd z))];apply aa<;>intro h
 ·rw[Mu (Xo h)]
  repeat' (first|exact trivial|rfl|apply And.intro)
 rw[Mp (fun z=>h (Xd z))];apply aa<;>intro h
 ·rw[Mu (Xo h)]
  repeat' (first|exact trivial|rfl|apply And.intro)
 rw[Mp (fun z=>h (Xd z))]
 repeat' (first|exact trivial|rfl|apply And.intro)
theorem Fa(s:Nat)(sp:List Nam)(ho:sp.length *32<=140737488355328) :
  let A:=List.length sp=(0:Nat);let B:=([]:List Nam);let C:=List.length B=List.length B;let D:=List.length B+List.length sp=List.length sp;∀(b:Bool),(b=true->A)->if b=true then True/\A/\A/\s=s/\sp=sp/\A/\sp=[]/\True else((C/\C)/\(s=s/\List.length sp=List.length sp)/\(List.length B+List.length sp)*(32:Nat)<=(140737488355328:Nat))/\True/\D/\List.length ([]++sp)=List.length sp/\s=s/\sp=sp/\D/\[]++sp=sp/\True:=by
 conv=>zeta
 intro b hb;apply aa<;>intro h
 ·have e:=hb h;have e':=My e;exact⟨trivial,e,e,rfl,rfl,e,e',trivial⟩
 ·simp only[N9,Np,Nc];exact⟨⟨⟨trivial,trivial⟩,⟨trivial,trivial⟩,ho⟩,by repeat' (first|exact trivial|rfl|apply And.intro)⟩
theorem I5(n s:Nat)(sp:List Nam)(x:CS)(nm:Str)(t:Trm)(ht:Wf (.st .term) t)(ho:CmO n (sp++[nm0 nm]) x t) :
  let A:=[{pkg:=[],name:=nm:Nam}];let B:=List.length x.1=List.length x.1;let C:=sp++A;let D:=List.length C=List.length C;let E:=List.length x.2=List.length x.2;let F:=(x.1,x.2);let G:=(↑(List.length C):Int);let H:=(1:Int);let I:=(2:Nat);let J:=aX n t C F;let K:=aX n t (sp++[nm0 nm]) x;let L:=List.length J.1=List.length K.1;let M:=s+List.length A+I*wN n t+(1:Nat)=s+I*(wN n t+(1:Nat));let N:=Int.toNat (G-H);let O:=List.length J.2=List.length K.2;((s=s/\List.length sp=List.length sp)/\(List.length sp+List.length A)*(32:Nat)<=(140737488355328:Nat))/\((B/\B/\B)/\(s+List.length A=s+List.length A/\D)/\(E/\E/\E)/\∀(q:Prop),some (CmO n C F t)=some q->q)/\inR IntKind.i64 (G-H)/\((s+List.length A+I*wN n t=s+List.length A+I*wN n t/\D)/\(0:Int)<=G-H/\G-H<=G)/\True/\L/\L/\M/\List.length (List.take N C)=List.length sp/\L/\J.1=K.1/\M/\List.take N C=sp/\O/\O/\O/\J.2=K.2/\True:=by
 conv=>zeta
 have e:({pkg:=[],name:=nm:Nam})=nm0 nm:=rfl;simp only[e,GZ,Mq,Mr];have i1:Int.toNat (((sp.length+1:Nat):Int)-1)=sp.length:=by omega
 have h4:=ho.2.2.2.1;have h0:=dh t;rw[Mq,Mr]at h4;simp only[i1,List.take_left];refine⟨⟨?_,by omega⟩,⟨?_,?_,?_,fun q hq=>by cases hq;exact ho⟩,ai (by omega) (by omega),?_⟩<;>repeat' (first|exact trivial|rfl|omega|apply And.intro)
theorem Ka(n s:Nat)(sp:List Nam)(x:CS)(l:List Trm)(hl:Wf (.lst (.st .term)) l)(ho:CmL n sp x l) :
  let A:=(2:Nat);let B:=wN n;let C:=aX n;let D:=(↑(List.length l):Int);let E:=List.length sp=List.length sp;let F:=dfl (Ty.st SN.term);let G:=fP C sp l x;(∃(x_1:Nat×Nat×CS),let H:=List.take x_1.1 l;let I:=List.length x.1=List.length x_1.2.2.1;let J:=s=x_1.2.1;let K:=List.length x.2=List.length x_1.2.2.2;(x_1.1<=List.length l/\x_1.2.1=s+A*mj B H/\x_1.2.2=fP C sp H x)/\(0:Int)=(↑x_1.1:Int)/\l=l/\D=D/\I/\I/\J/\E/\I/\x.1=x_1.2.2.1/\J/\sp=sp/\K/\K/\K/\x.2=x_1.2.2.2/\True)/\∀(x_1:Nat×Nat×CS),let H:=List.take x_1.1 l;let I:=(↑x_1.1:Int);let J:=List.length x_1.2.2.1=List.length x_1.2.2.1;let K:=List.length x_1.2.2.2=List.length x_1.2.2.2;let L:=(x_1.2.2.1,x_1.2.2.2);let M:=List.getD l (Int.toNat I) F;let N:=aX n M sp L;let O:=List.length x_1.2.2.1=List.length G.1;let P:=x_1.2.1=s+A*mj B l;let Q:=List.length x_1.2.2.2=List.length G.2;x_1.1<=List.length l/\x_1.2.1=s+A*mj B H/\x_1.2.2=fP C sp H x->if decide (I<D)=true then((0:Int)<=I/\I<D)/\((J/\J/\J)/\(x_1.2.1=x_1.2.1/\E)/\(K/\K/\K)/\∀(q:Prop),some (CmO n sp L M)=some q->q)/\inR IntKind.i64 (I+(1:Int))/\∃(y:Nat×Nat×CS),let R:=List.take y.1 l;let S:=List.length N.1=List.length y.2.2.1;let T:=x_1.2.1+A*wN n M=y.2.1;let U:=List.length N.2=List.length y.2.2.2;(y.1<=List.length l/\y.2.1=s+A*mj B R/\y.2.2=fP C sp R x)/\List.length l-y.1<List.length l-x_1.1/\I+(1:Int)=(↑y.1:Int)/\l=l/\D=D/\S/\S/\T/\E/\S/\N.1=y.2.2.1/\T/\sp=sp/\U/\U/\U/\N.2=y.2.2.2/\True else True/\O/\O/\P/\E/\O/\x_1.2.2.1=G.1/\P/\sp=sp/\Q/\Q/\Q/\x_1.2.2.2=G.2/\True:=by
 conv=>zeta
 have d0:dfl (.st .term)=(default:Trm):=rfl;have ln:=hl.len;simp only[Mv,d0,GZ];refine⟨⟨(0,s,x),⟨ME _,by simp[mj],rfl⟩,by repeat' (first|exact trivial|rfl|apply And.intro)⟩,?_⟩;rintro⟨i,s1,y⟩ ⟨i1,i2,i3⟩;simp only at i1 i2 i3⊢;apply aa<;>intro h
 ·replace h:=Xo h;have h:i<l.length:=by omega
  have o:=ho.next h;rw[<-i3]at o;have e2:s1+2 *wN n (l.getD i default)=s+2 *mj (wN n) (l.take (i+1)):=by rw[i2,nQ h,uw];omega
  have e3:aX n (l.getD i default) sp y=fP (aX n) sp (l.take (i+1)) x:=by rw[nQ h,oR,i3]
  refine⟨⟨by omega,by omega⟩,⟨?_,?_,?_,fun q hq=>by cases hq;exact o⟩,ai (by omega) (by omega),(i+1,s1+2 *wN n (l.getD i default),aX n (l.getD i default) sp y),⟨by simp only;omega,e2,e3⟩,by simp only;omega,?_⟩<;>repeat' (first|exact trivial|rfl|omega|apply And.intro)
 ·have h:¬(i:Int)<(l.length:Int):=fun z=>h (Xd z);have e:l.take i=l:=NH (by omega);rw[e]at i2 i3;subst i2 i3
  repeat' (first|exact trivial|rfl|apply And.intro)
theorem Kb(n s:Nat)(sp:List Nam)(x:CS)(t:Trm)(ht:Wf (.st .term) t)(ho:CmK n 12 sp x t) :
  let A:=(0:Int);let B:=(↑(List.length t.parts):Int);let C:=List.length x.1=List.length x.1;let D:=List.length sp=List.length sp;let E:=List.length x.2=List.length x.2;let F:=(x.1,x.2);let G:=dfl (Ty.st SN.term);let H:=List.getD t.parts (Int.toNat A) G;let I:=aX n H sp F;let J:=List.length I.1=List.length I.1;let K:=[(AL.Opn.mk ((14:Int)) (A) ([]) ([]) ([]) (t.pos))];let L:=(140737488355328:Nat);let M:=(1:Int);let N:=I.1++K;let O:=List.length I.1+List.length K=List.length N;let P:=(2:Nat);let Q:=List.length I.2=List.length I.2;let R:=(I.1++K,I.2);let S:=List.getD t.parts (Int.toNat M) G;let T:=aX n S sp R;let U:=List.length T.1=List.length T.1;let V:=[(AL.Opn.mk ((15:Int)) (A) ([]) ([]) ([]) (t.pos))];let W:=List.length T.1+List.length V;let X:=List.length T.1+List.length V=List.length T.1+List.length V;let Y:=T.1++V;let Z:=List.length Y;let a:=List.length sp;let b:=AV.ptr (903:Nat) (0:Nat);let c:=(AV.agg [AV.glst W Z (901:Nat),AV.glst (s+P*wN n H+P*wN n S) a (902:Nat),b]);let d:=Ty.st SN.op;let e:=(↑(List.length I.1):Int);let f:=(↑(List.length K):Int);let g:=(2:Int);let h:=Int.toNat (e+f-M);let i:=List.getD Y h (dfl d);let j:=List.set Y h (AL.Opn.mk (i.kind) ((↑Z:Int)) (i.name) (i.names) (i.tos) (i.pos));let k:=List.length T.1+List.length V=List.length (j);let l:=List.length T.2=List.length T.2;let m:=List.getD t.parts (Int.toNat g) G;let o:=aX n m sp (j,T.2);let p:=List.length o.1=List.length o.1;let r:=List.length o.1;let u:=(AV.agg [AV.glst r r (901:Nat),AV.glst (s+P*wN n H+P*wN n S+P*wN n m) a (902:Nat),b]);let v:=(↑(List.length T.1):Int);let w:=(↑(List.length V):Int);let y:=oQ (aX n) t sp x;let z:=List.length o.1=List.length y.1;let A0:=s+P*wN n H+P*wN n S+P*wN n m=s+P*wK n t;let A1:=Int.toNat (v+w-M);let A2:=List.getD o.1 A1 (dfl d);let A3:=List.length o.2=List.length y.2;(A<=A/\A<B)/\((C/\C/\C)/\(s=s/\D)/\(E/\E/\E)/\∀(q:Prop),some (CmO n sp F H)=some q->q)/\((J/\J)/\(List.length I.1+List.length K)*(88:Nat)<=L)/\(A<=M/\M<B)/\((O/\List.length N=List.length N/\O)/\(s+P*wN n H=s+P*wN n H/\D)/\(Q/\Q/\Q)/\∀(q:Prop),some (CmO n sp R S)=some q->q)/\((U/\U)/\W*(88:Nat)<=L)/\((X/\List.length Y=List.length Y)/\SObj.box c=SObj.box c/\SObj.grow d W Y=SObj.grow d W Y/\True)/\(A<=e+f-M/\e+f-M<(↑Z:Int))/\(X/\Int.toNat (e+f-M)<List.length Y)/\(A<=g/\g<B)/\((k/\List.length Y=List.length (j)/\k)/\(s+P*wN n H+P*wN n S=s+P*wN n H+P*wN n S/\D)/\(l/\l/\l)/\∀(q:Prop),some (CmO n sp (j,T.2) m)=some q->q)/\((p/\p)/\SObj.box u=SObj.box u/\SObj.grow d r o.1=SObj.grow d r o.1/\True)/\(A<=v+w-M/\v+w-M<(↑r:Int))/\(p/\Int.toNat (v+w-M)<List.length o.1)/\True/\z/\z/\A0/\D/\z/\List.set o.1 A1 (AL.Opn.mk (A2.kind) ((↑r:Int)) (A2.name) (A2.names) (A2.tos) (A2.pos))=y.1/\A0/\sp=sp/\A3/\A3/\A3/\o.2=y.2/\True:=by
 conv=>zeta
 obtain⟨hk,ho⟩:=ho;replace hk:t.kind=12:=hk;have hc:=qp (b6 ho.2.1) hk;have e0:=aY (l:=t.parts) (i:=0) (by omega);have e1:=aY (l:=t.parts) (i:=1) (by omega);have e2:=aY (l:=t.parts) (i:=2) (by omega);rw[Nq]at e0;simp only[Nat.reduceAdd]at e0 e1 e2;have d0:dfl (.st .term)=(default:Trm):=rfl;have t0:Int.toNat 0=0:=rfl;have t1:Int.toNat 1=1:=rfl;have t2:Int.toNat 2=2:=rfl;have hw:wK n t=wN n (t.parts.getD 0 default)+wN n (t.parts.getD 1 default)+wN n (t.parts.getD 2 default):=by unfold wK sw;rw[Mp (by omega),Mu hk]
 simp only[d0,t0,t1,t2,GZ,Mr,sy,hw,oQ];have o0:CmO n sp x (t.parts.getD 0 default):=ho.part (by omega) (Bd.refl x) (by omega) (by omega) (by omega);have b0:=o0.here;generalize aX n (t.parts.getD 0 default) sp x=y at *
 have a0:=b0.trans (Bd.app y [⟨14,0,[],[],[],t.pos⟩]);have o1:CmO n sp (y.1++[⟨14,0,[],[],[],t.pos⟩],y.2) (t.parts.getD 1 default):=ho.part (by omega) a0 (by omega) (by simp only[Mr];omega) (by omega);have b1:=a0.trans o1.here;have p1:=o1.here.1;generalize aX n (t.parts.getD 1 default) sp (y.1++[⟨14,0,[],[],[],t.pos⟩],y.2)=z at *
 have i1:(y.1.length:Int)+((1:Nat):Int)-1=y.1.length:=by omega
 have i2:(z.1.length:Int)+((1:Nat):Int)-1=z.1.length:=by omega
 simp only[i1,i2];have a1:=b1.trans (Bd.app z [⟨15,0,[],[],[],t.pos⟩]);have o2:CmO n sp (setN (z.1++[⟨15,0,[],[],[],t.pos⟩]) y.1.length (z.1++[(⟨15,0,[],[],[],t.pos⟩:Opn)]).length,z.2) (t.parts.getD 2 default):=by refine ho.part (c:=szT (t.parts.getD 0 default)+szT (t.parts.getD 1 default)) (e:=2) (by omega) ?_ (by omega) (by omega) (by omega);obtain⟨a1,a2,a3,a4⟩:=a1;simp only[Mr,O7,Np]at a1 a2 a3 a4;refine⟨?_,?_,a3,a4⟩<;>simp only[fm]<;>omega
 have b2:=o2.here;have r2:=o2.2.2.1;obtain⟨u1,u2,u3,u4⟩:=b2;obtain⟨v1,v2,v3,v4⟩:=b1;obtain⟨q1,q2,q3,q4⟩:=b0;have rx:=ho.2.2.1;rw[cz]at rx;generalize hC:aX n (t.parts.getD 2 default) sp _=w at *
 simp only[fm,Mq,Mr]at r2 u1 u2 u3 u4 v1 v2 v3 v4 p1
 repeat' (first|exact trivial|omega|rfl|(intro q hq;cases hq;assumption)|(simp only[fm,Mq,Mr]<;>omega)|apply And.intro)
theorem Kc(n s:Nat)(sp:List Nam)(x:CS)(t:Trm)(ht:Wf (.st .term) t)(ho:CmK n 6 sp x t) :
  let A:=List.length x.2=List.length x.2;let B:=(↑(List.length t.names):Int);let C:=[{args:=B,ops:=[]:Chnk}];let D:=(32:Nat);let E:=(140737488355328:Nat);let F:=s=s;let G:=List.length sp=List.length sp;let H:=(0:Int);let I:=(↑(List.length x.2):Int);let J:=t.names=t.names;let K:=(0:Nat);let L:=K=K;let M:=den (Ty.st SN.op);let N:=mf M=mf M;let O:=List.length x.1=List.length x.1;let P:=List.length x.2+List.length C=List.length x.2+List.length C;let Q:=x.2++C;let R:=List.length Q=List.length Q;let S:=O/\O/\F/\G/\O/\x.1=x.1/\F/\sp=sp/\P/\R/\P/\x.2++C=x.2++C/\List.length C=List.length C/\True;let T:=dfl Ty.str;let U:=K=List.length ([]:List Opn);let V:=List.length x.2+List.length C=List.length Q;let W:=([],x.2++C);let X:=List.getD t.parts (Int.toNat H) (dfl (Ty.st SN.term));let Y:=jK (aX n) t sp x;let Z:=List.length x.1=List.length Y.1;((A/\A)/\(List.length x.2+List.length C)*D<=E)/\(((F/\G)/\List.length sp*D<=E)/\SObj.grow (Ty.st SN.nm) s sp=SObj.grow (Ty.st SN.nm) s sp/\True)/\(∃(x_1:Nat),let a:=List.length sp=List.length sp+x_1;x_1<=List.length t.names/\H=(↑x_1:Int)/\t=t/\H=H/\I=I/\J/\B=B/\L/\L/\a/\a/\L/\N/\a/\sp=sp++List.map nm0 (List.take x_1 t.names)/\S)/\∀(x_1:Nat),let a:=(↑x_1:Int);let b:=List.take x_1 t.names;let c:=sp++List.map nm0 b;let d:=List.length sp+x_1=List.length sp+x_1/\List.length sp+x_1=List.length c;let e:=[{pkg:=[],name:=List.getD t.names (Int.toNat a) T:Nam}];let f:=aX n X c W;let g:=List.length f.1=List.length f.1;let h:=List.length f.2=List.length Y.2;x_1<=List.length t.names->if decide (a<B)=true then(H<=a/\a<B)/\(d/\(List.length c+List.length e)*D<=E)/\inR IntKind.i64 (a+(1:Int))/\∃(y:Nat),let i:=List.length sp+x_1+List.length e=List.length sp+y;y<=List.length t.names/\List.length t.names-y<List.length t.names-x_1/\a+(1:Int)=(↑y:Int)/\t=t/\H=H/\I=I/\J/\B=B/\L/\L/\i/\List.length (sp++List.map nm0 b++e)=List.length sp+y/\L/\N/\i/\sp++List.map nm0 b++e=sp++List.map nm0 (List.take y t.names)/\S else(H<=H/\H<(↑(List.length t.parts):Int))/\((U/\U/\U)/\d/\(V/\R/\V)/\∀(q:Prop),some (CmO n c W X)=some q->q)/\((g/\g)/\True)/\(H<=I/\I<(↑(List.length f.2):Int))/\(List.length f.2=List.length f.2/\Int.toNat I<List.length f.2)/\True/\I=I/\Z/\Z/\F/\G/\Z/\x.1=Y.1/\F/\sp=sp/\h/\h/\h/\List.set f.2 (Int.toNat I) {args:=(List.getD f.2 (Int.toNat I) (dfl (Ty.st SN.chunk))).args,ops:=f.1:Chnk}=Y.2/\True:=by
 conv=>zeta
 obtain⟨hk,ho⟩:=ho;replace hk:t.kind=6:=hk;have hc:=AB (b6 ho.2.1) hk;have hn:=eK (b6 ho.2.1);obtain⟨h1,h2,h3,h4,h5⟩:=ho;rw[cz]at h1 h3 h4 h5;have d0:dfl (.st .term)=(default:Trm):=rfl;have dS:dfl .str=(default:Str):=rfl;have t0:Int.toNat 0=0:=rfl;have eN:∀s,({pkg:=[],name:=s:Nam})=nm0 s:=fun _=>rfl;simp only[d0,dS,eN,t0,Mr,Mv,N9];have p0:=cE (db (l:=t.parts) (i:=0) (by omega));have o0:CmO n (sp++t.names.map nm0) ([],x.2++[⟨t.names.length,[]⟩]) (t.parts.getD 0 default):=by refine⟨by omega,de h2 (db (by omega)),?_,?_,?_⟩<;>simp only[N9,Mq,MZ,Mr]<;>omega
 have b0:=o0.here;have hl:∀i,i<=t.names.length->(sp++List.map nm0 (t.names.take i)).length=sp.length+i:=fun i hi=>by simp only[Mq,MZ,NI];omega
 refine⟨⟨⟨trivial,trivial⟩,by omega⟩,⟨⟨⟨trivial,trivial⟩,by omega⟩,?_⟩,⟨0,ME _,?_⟩,?_⟩
 ·repeat' (first|exact trivial|rfl|apply And.intro)
 ·simp only[Od,O8,Ny]
  repeat' (first|exact trivial|rfl|apply And.intro)
 intro i hi;have hl':=hl i hi;apply aa<;>intro h
 ·replace h:=Xo h;have h:i<t.names.length:=by omega
  have e1:sp++List.map nm0 (t.names.take i)++[nm0 (t.names.getD i default)]=sp++List.map nm0 (t.names.take (i+1)):=by rw[nQ h,NR,MH];rfl
  rw[e1,hl',hl (i+1) h];refine⟨⟨by omega,by omega⟩,⟨⟨trivial,by omega⟩,by omega⟩,ai (by omega) (by omega),i+1,h,by omega,?_⟩
  repeat' (first|exact trivial|omega|rfl|apply And.intro)
 ·have h:¬(i:Int)<(t.names.length:Int):=fun z=>h (Xd z);have e:t.names.take i=t.names:=NH (by omega);rw[e]at hl'⊢;simp only[hl',jK];generalize aX n (t.parts.getD 0 default) (sp++t.names.map nm0) ([],x.2++[⟨t.names.length,[]⟩])=y at *
  obtain⟨q1,q2,q3,q4⟩:=b0;simp only[Mq,Mr]at q3
  repeat' (first|exact trivial|omega|rfl|(intro q hq;cases hq;assumption)|(simp only[Mq,Mr,Ob]<;>omega)|apply And.intro)
theorem Kd(n s:Nat)(sp:List Nam)(x:CS)(t:Trm)(ht:Wf (.st .term) t)(ho:CmK n 13 sp x t) :
  let A:=(0:Int);let B:=(↑(List.length t.parts):Int);let C:=List.length x.1=List.length x.1;let D:=List.length sp=List.length sp;let E:=List.length x.2=List.length x.2;let F:=(x.1,x.2);let G:=dfl (Ty.st SN.term);let H:=List.getD t.parts (Int.toNat A) G;let I:=(140737488355328:Nat);let J:=aX n H sp F;let K:=List.length J.1=List.length J.1;let L:=[(AL.Opn.mk ((16:Int)) (A) ([]) (t.names) ([]) (t.pos))];let M:=(2:Nat);let N:=(0:Nat);let O:=List.getD t.parts N default;let P:=aX n;let Q:=List.length t.names;let R:=xV n t sp x;let S:=(↑(List.length J.1):Int);let T:=(↑(List.length L):Int);let U:=(1:Int);let V:=S+T-U=S+T-U;let W:=(↑Q:Int);let X:=sp=sp;let Y:=List.length L=List.length L/\True;let Z:=dfl Ty.str;let a:=[(AL.Opn.mk ((13:Int)) (U) ([]) ([]) ([]) (t.pos)),(AL.Opn.mk ((15:Int)) (A) ([]) ([]) ([]) (t.pos))];let b:=(↑(List.length a):Int);let c:=Int.toNat (S+T-U);let d:=Ty.st SN.op;let e:=dfl d;let f:=List.length sp;let g:=AV.ptr (903:Nat) N;let h:=dfl (Ty.int IntKind.i64);let i:=nO P t sp x;(A<=A/\A<B)/\((C/\C/\C)/\(s=s/\D)/\(E/\E/\E)/\∀(q:Prop),some (CmO n sp F H)=some q->q)/\(Nat.le (List.length t.names*(16:Nat)) I/\True)/\((K/\K)/\(List.length J.1+List.length L)*(88:Nat)<=I)/\(∃(x_1:Nat×Nat×List Int×List Int×CS),let j:=List.length J.1+List.length L=List.length x_1.2.2.2.2.1;let k:=s+M*wN n H=x_1.2.1;let l:=List.length J.2=List.length x_1.2.2.2.2.2;(x_1.1<=List.length t.names/\x_1.2.1=s+M*wN n O+M*vZ (wN n) t x_1.1/\List.length x_1.2.2.1=x_1.1/\List.length x_1.2.2.2.1=x_1.1/\xW n t sp x x_1.1 x_1.2.2.2.1 x_1.2.2.2.2/\fB P t sp (List.length t.names-x_1.1) x_1.1 x_1.2.2.1 x_1.2.2.2.1 x_1.2.2.2.2=fB P t sp Q N [] [] R)/\A=(↑x_1.1:Int)/\x_1.2.2.1=[]/\x_1.2.2.2.1=[]/\t=t/\V/\W=W/\List.length x_1.2.2.1=N/\List.length x_1.2.2.2.1=N/\j/\List.length (J.1++L)=List.length x_1.2.2.2.2.1/\k/\D/\j/\J.1++L=x_1.2.2.2.2.1/\k/\X/\l/\l/\l/\J.2=x_1.2.2.2.2.2/\Y)/\∀(x_1:Nat×Nat×List Int×List Int×CS),let j:=(↑x_1.1:Int);let k:=List.length x_1.2.2.2.2.1=List.length x_1.2.2.2.2.1;let l:=List.length x_1.2.2.1=List.length x_1.2.2.1;let m:=(↑(List.length x_1.2.2.2.2.1):Int);let o:=inR IntKind.i64 (j+U);let p:=x_1.2.1=x_1.2.1;let r:=List.length x_1.2.2.2.2.2=List.length x_1.2.2.2.2.2;let u:=sp++[nm0 (List.getD t.vars (Int.toNat j) Z)];let v:=(x_1.2.2.2.2.1,x_1.2.2.2.2.2);let w:=List.getD t.parts (Int.toNat (j+U)) G;let z:=aX n w u v;let A0:=List.length z.1=List.length z.1;let A1:=List.length x_1.2.2.2.1=List.length x_1.2.2.2.1;let A2:=[(↑(List.length z.1):Int)+b-U];let A3:=(wN n w+(1:Nat));let A4:=List.getD x_1.2.2.2.2.1 c e;let A5:=AL.Opn.mk (A4.kind) (A4.n) (A4.name) (A4.names) (x_1.2.2.1) (A4.pos);let A6:=List.set x_1.2.2.2.2.1 c A5;let A7:=(↑(List.length A6):Int);let A8:=x_1.2.2.1=x_1.2.2.1;let A9:=x_1.2.2.2.1=x_1.2.2.2.1;let B0:=(↑(List.length x_1.2.2.2.1):Int);let B1:=AV.glst x_1.2.1 f (902:Nat);let B2:=x_1.2.1=s+M*wK n t;x_1.1<=List.length t.names/\x_1.2.1=s+M*wN n O+M*vZ (wN n) t x_1.1/\List.length x_1.2.2.1=x_1.1/\List.length x_1.2.2.2.1=x_1.1/\xW n t sp x x_1.1 x_1.2.2.2.1 x_1.2.2.2.2/\fB P t sp (List.length t.names-x_1.1) x_1.1 x_1.2.2.1 x_1.2.2.2.1 x_1.2.2.2.2=fB P t sp Q N [] [] R->if decide (j<W)=true then(k/\k)/\(l/\(List.length x_1.2.2.1+List.length [m])*(8:Nat)<=I)/\(A<=j/\j<(↑(List.length t.vars):Int))/\o/\(A<=j+U/\j+U<B)/\((k/\k/\k)/\(p/\D)/\(r/\r/\r)/\∀(q:Prop),some (CmO n u v w)=some q->q)/\((A0/\A0)/\(List.length z.1+List.length a)*(88:Nat)<=I)/\(A1/\(List.length x_1.2.2.2.1+List.length A2)*(8:Nat)<=I)/\o/\∃(y:Nat×Nat×List Int×List Int×CS),let B3:=List.length z.1+List.length a=List.length y.2.2.2.2.1;let B4:=x_1.2.1+M*A3=y.2.1;let B5:=List.length z.2=List.length y.2.2.2.2.2;(y.1<=List.length t.names/\y.2.1=s+M*wN n O+M*vZ (wN n) t y.1/\List.length y.2.2.1=y.1/\List.length y.2.2.2.1=y.1/\xW n t sp x y.1 y.2.2.2.1 y.2.2.2.2/\fB P t sp (List.length t.names-y.1) y.1 y.2.2.1 y.2.2.2.1 y.2.2.2.2=fB P t sp Q N [] [] R)/\List.length t.names-y.1<List.length t.names-x_1.1/\j+U=(↑y.1:Int)/\x_1.2.2.1++[m]=y.2.2.1/\x_1.2.2.2.1++A2=y.2.2.2.1/\t=t/\V/\W=W/\List.length (x_1.2.2.1++[m])=List.length y.2.2.1/\List.length (x_1.2.2.2.1++A2)=List.length y.2.2.2.1/\B3/\List.length (z.1++a)=List.length y.2.2.2.2.1/\B4/\D/\B3/\z.1++a=y.2.2.2.2.1/\B4/\X/\B5/\B5/\B5/\z.2=y.2.2.2.2.2/\Y else(A<=S+T-U/\S+T-U<m)/\(k/\Int.toNat (S+T-U)<List.length x_1.2.2.2.2.1)/\(∃(x_2:Nat×CS),let B3:=List.length x_1.2.2.2.2.1=List.length x_2.2.1;let B4:=List.length x_1.2.2.2.2.2=List.length x_2.2.2;(x_2.1<=List.length x_1.2.2.2.1/\List.length x_2.2.1=List.length A6/\x_2.2.2=x_1.2.2.2.2.2/\setAll A7 (List.drop x_2.1 x_1.2.2.2.1) x_2.2.1=setAll A7 x_1.2.2.2.1 A6)/\A=(↑x_2.1:Int)/\j=j/\A8/\A9/\t=t/\V/\W=W/\false=false/\A9/\B0=B0/\B3/\B3/\p/\D/\B3/\List.set x_1.2.2.2.2.1 c A5=x_2.2.1/\p/\X/\B4/\B4/\B4/\x_1.2.2.2.2.2=x_2.2.2/\l/\A1/\Y)/\∀(x_2:Nat×CS),let B3:=(↑x_2.1:Int);let B4:=List.length x_2.2.1=List.length x_2.2.1;let B5:=List.length x_2.2.1;let B6:=(AV.agg [AV.glst B5 B5 (901:Nat),B1,g]);let B7:=Int.toNat B3;let B8:=List.getD x_1.2.2.2.1 B7 h;let B9:=List.getD x_2.2.1 (Int.toNat B8) e;let C0:=List.length x_2.2.1=List.length i.1;let C1:=List.length x_2.2.2=List.length i.2;x_2.1<=List.length x_1.2.2.2.1/\List.length x_2.2.1=List.length A6/\x_2.2.2=x_1.2.2.2.2.2/\
  setAll A7 (List.drop x_2.1 x_1.2.2.2.1) x_2.2.1=setAll A7 x_1.2.2.2.1 A6->if decide (B3<B0)=true then(A<=B3/\B3<B0)/\((B4/\B4)/\SObj.box B6=SObj.box B6/\SObj.grow d B5 x_2.2.1=SObj.grow d B5 x_2.2.1/\True)/\(A<=List.getD x_1.2.2.2.1 B7 h/\List.getD x_1.2.2.2.1 B7 h<(↑B5:Int))/\(B4/\Int.toNat B8<List.length x_2.2.1)/\inR IntKind.i64 (B3+U)/\∃(y:Nat×CS),let C2:=List.length x_2.2.1=List.length y.2.1;let C3:=List.length x_2.2.2=List.length y.2.2;(y.1<=List.length x_1.2.2.2.1/\List.length y.2.1=List.length A6/\y.2.2=x_1.2.2.2.2.2/\setAll A7 (List.drop y.1 x_1.2.2.2.1) y.2.1=setAll A7 x_1.2.2.2.1 A6)/\List.length x_1.2.2.2.1-y.1<List.length x_1.2.2.2.1-x_2.1/\B3+U=(↑y.1:Int)/\j=j/\A8/\A9/\t=t/\V/\W=W/\false=false/\A9/\B0=B0/\C2/\C2/\p/\D/\C2/\List.set x_2.2.1 (Int.toNat B8) (AL.Opn.mk (B9.kind) ((↑B5:Int)) (B9.name) (B9.names) (B9.tos) (B9.pos))=y.2.1/\p/\X/\C3/\C3/\C3/\x_2.2.2=y.2.2/\l/\A1/\Y else True/\C0/\C0/\B2/\D/\C0/\x_2.2.1=i.1/\B2/\X/\C1/\C1/\C1/\x_2.2.2=i.2/\True:=by
 conv=>zeta
 obtain⟨hk,ho⟩:=ho;replace hk:t.kind=13:=hk;obtain⟨hc,hv⟩:=gj (b6 ho.2.1) hk;have hn:=eK (b6 ho.2.1);have d0:dfl (.st .term)=(default:Trm):=rfl;have dS:dfl .str=(default:Str):=rfl;have dI:dfl (.int .i64)=(default:Int):=rfl;have t0:Int.toNat 0=0:=rfl;have eI:∀i:Nat,Int.toNat ((i:Int)+1)=i+1:=fun i=>by omega
 have l2:∀a b:Opn,([a,b]:List Opn).length=2:=fun _ _=>rfl;have e0:=aY (l:=t.parts) (i:=0) (by omega);rw[Nq]at e0;have o0:CmO n sp x (t.parts.getD 0 default):=ho.part (by omega) (Bd.refl x) (by omega) (by omega) (by omega);have st:=AD ho hk;have b0:=o0.here;have ofm:=@Ju (aX n) t sp x;have m0:xV n t sp x=((aX n (t.parts.getD 0 default) sp x).1++[⟨16,0,[],t.names,[],t.pos⟩],(aX n (t.parts.getD 0 default) sp x).2):=rfl;have w0:=Me (n:=n) hk;simp only[d0,dS,dI,t0,eI,l2,Mr,Mv,GZ,sy,uz,w0];have ml:(xV n t sp x).1.length=(aX n (t.parts.getD 0 default) sp x).1.length+1:=by rw[m0,Mq,Mr]
 have rx:=ho.2.2.1;rw[cz]at rx;have i1:((aX n (t.parts.getD 0 default) sp x).1.length:Int)+((1:Nat):Int)-1=(aX n (t.parts.getD 0 default) sp x).1.length:=by omega
 simp only[i1];rw[<-m0]at ofm;have b0':=b0.2.1;refine⟨⟨by omega,by omega⟩,⟨?_,?_,?_,fun q hq=>by cases hq;exact o0⟩,⟨by show t.names.length *16<=140737488355328;omega,trivial⟩,⟨⟨trivial,trivial⟩,by omega⟩,⟨(0,s+2 *wN n (t.parts.getD 0 default),[],[],xV n t sp x),⟨ME _,rfl,rfl,rfl,st,rfl⟩,?_⟩,?_⟩
 ·repeat' (first|exact trivial|rfl|apply And.intro)
 ·repeat' (first|exact trivial|rfl|apply And.intro)
 ·repeat' (first|exact trivial|rfl|apply And.intro)
 ·rw[m0]
  repeat' (first|exact trivial|rfl|(simp only[Mq,Mr]<;>omega)|apply And.intro)
 rintro⟨i,W,ts,js,z⟩ ⟨j1,j2,j3,j4,j5,j6⟩;simp only at j1 j2 j3 j4 j5 j6⊢;have u1:=j5.1;have u2:=j5.2.2.1;have u3:=j5.2.2.2;apply aa<;>intro h
 ·replace h:=Xo h;have h:i<t.names.length:=by omega
  have o1:=uA ho hk h j5 (nm0 (t.vars.getD i default));have nx:=Em ho hk h j5 (nm0 (t.vars.getD i default)) ⟨13,1,[],[],[],t.pos⟩ ⟨15,0,[],[],[],t.pos⟩;have b1:=o1.here.1;have b2:=nx.1;have wn:=En (wN n) t i;obtain⟨k,hk'⟩:∃k,t.names.length-i=k+1:=⟨t.names.length-i-1,by omega⟩;have j6':=j6;rw[hk',fB]at j6';have hk2:t.names.length-(i+1)=k:=by omega
  rw[<-hk2]at j6';have dV:t.vars.getD i []=t.vars.getD i default:=rfl;simp only[dV]at j6';generalize aX n (t.parts.getD (i+1) default) (sp++[nm0 (t.vars.getD i default)]) z=y at *
  have i2:(y.1.length:Int)+((2:Nat):Int)-1=(y.1.length:Int)+1:=by omega
  simp only[Mq,l2]at b2;simp only[i2];refine⟨?_,⟨trivial,?_⟩,⟨by omega,by omega⟩,ai (by omega) (by omega),⟨by omega,by omega⟩,⟨?_,?_,?_,fun q hq=>by cases hq;exact o1⟩,?_,⟨trivial,?_⟩,ai (by omega) (by omega),(i+1,W+2 *(wN n (t.parts.getD (i+1) default)+1),ts++[(z.1.length:Int)],js++[(y.1.length:Int)+1],(y.1++[⟨13,1,[],[],[],t.pos⟩,⟨15,0,[],[],[],t.pos⟩],y.2)),⟨h,by simp only;omega,by simp only[Mq,Mr];omega,by simp only[Mq,Mr];omega,nx,j6'⟩,by simp only;omega,?_⟩
  all_goals repeat' (first|exact trivial|omega|rfl|(simp only[Mq,Mr,l2]<;>omega)|apply And.intro)
 ·have h:¬(i:Int)<(t.names.length:Int):=fun z=>h (Xd z);have h:i=t.names.length:=by omega
  subst h;rw[OV,fB]at j6;have mt:=ofm j6.symm;simp only[gE,Ob];rw[mt];have yl:((aX n (t.parts.getD 0 default) sp x).1.length:Int)<(z.1.length:Int):=by omega
  refine⟨⟨by omega,yl⟩,⟨?_,by omega⟩,⟨(0,setTo z.1 (aX n (t.parts.getD 0 default) sp x).1.length ts,z.2),⟨ME _,gE _ _ _,rfl,rfl⟩,?_⟩,?_⟩
  ·repeat' (first|exact trivial|rfl|apply And.intro)
  ·simp only[gE]
   repeat' (first|exact trivial|rfl|apply And.intro)
  rintro⟨k,U⟩ ⟨k1,k2,k3,k4⟩;simp only at k1 k2 k3 k4⊢;apply aa<;>intro h
  ·replace h:=Xo h;have h:k<js.length:=by omega
   obtain⟨g1,g2⟩:=u3 _ (H0 h);rw[CU h,setAll]at k4;rw[k2];refine⟨⟨by omega,by omega⟩,?_,⟨g1,g2⟩,⟨?_,by omega⟩,ai (by omega) (by omega),(k+1,(setN U.1 (js.getD k default) z.1.length,U.2)),⟨h,by rw[fm];exact k2,k3,k4⟩,by simp only;omega,?_⟩
   ·repeat' (first|exact trivial|rfl|apply And.intro)
   ·repeat' (first|exact trivial|rfl|apply And.intro)
   ·simp only[fm,k2]
    repeat' (first|exact trivial|omega|rfl|apply And.intro)
  ·have h:¬(k:Int)<(js.length:Int):=fun z=>h (Xd z);have e:js.drop k=[]:=NG (by omega);rw[e,setAll]at k4;obtain⟨U1,U2⟩:=U;simp only at k2 k3 k4;subst k3;rw[k4];simp only[mX,gE]
   repeat' (first|exact trivial|omega|rfl|apply And.intro)
end Go.AL.Seat
end
