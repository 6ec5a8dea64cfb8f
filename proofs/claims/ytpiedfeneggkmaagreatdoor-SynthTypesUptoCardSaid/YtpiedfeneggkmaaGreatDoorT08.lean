/- What the functions' conditions say, proved. The contracts of the functions. The layer: Go code as conditions, and that they are sound. Plain facts. No condition. -/
import Derived.Test.YtpiedfeneggkmaaGreatDoorT07
import Derived.LoopN
set_option linter.all false
set_option maxRecDepth 100000
section
open Go Go.AL Go.Pd
namespace Go.AL.Seat
theorem xj(n:Nat)(s:Shape)(hs:Wf (.st .shape) s)(hn:sz s<=n+1)(ho:allS bN s=true)(hb:n<=1000000)(h0:s.names≠[]) :
  (∃(x:Nat),x<=List.length s.parts/\(0:Int)=(↑x:Int)/\s=s/\s.kind=s.kind/\s.pkg=s.pkg/\s.name=s.name/\(aO s x).1=[]/\(aO s x).2=[]/\s=s/\(0:Int)=(0:Int)/\an UInt8=an UInt8/\an UInt8=an UInt8/\True)/\∀(x:Nat),x<=List.length s.parts->if decide ((↑x:Int)<(↑(List.length s.parts):Int))=true then((0:Int)<=(↑x:Int)/\(↑x:Int)<(↑(List.length s.parts):Int))/\(sz (List.getD s.parts (Int.toNat (↑x:Int)) (dfl (Ty.st SN.shape)))<=n/\allS bN (List.getD s.parts (Int.toNat (↑x:Int)) (dfl (Ty.st SN.shape)))=true)/\if decide ((↑(List.length s.names):Int)=(0:Int))=true then False else(∃(x_1:Nat),(x_1<=List.length (aO s (Int.toNat (↑x:Int))).1/\bL (aO s (Int.toNat (↑x:Int))).1 (List.getD s.names (Int.toNat (↑x:Int)) (dfl Ty.str))=x_1+bL (List.drop x_1 (aO s (Int.toNat (↑x:Int))).1) (List.getD s.names (Int.toNat (↑x:Int)) (dfl Ty.str)))/\(0:Int)=(↑x_1:Int)/\(↑x:Int)=(↑x:Int)/\s=s/\true=true/\false=false/\s.kind=s.kind/\s.pkg=s.pkg/\s.name=s.name/\(aO s x).1=(aO s x).1/\(aO s x).2=(aO s x).2/\s=s/\(0:Int)=(0:Int)/\an UInt8=an UInt8/\an UInt8=an UInt8/\sortedS (List.getD s.parts (Int.toNat (↑x:Int)) (dfl (Ty.st SN.shape)))=sortedS (List.getD s.parts (Int.toNat (↑x:Int)) (dfl (Ty.st SN.shape)))/\True)/\∀(x_1:Nat),x_1<=List.length (aO s (Int.toNat (↑x:Int))).1/\bL (aO s (Int.toNat (↑x:Int))).1 (List.getD s.names (Int.toNat (↑x:Int)) (dfl Ty.str))=x_1+bL (List.drop x_1 (aO s (Int.toNat (↑x:Int))).1) (List.getD s.names (Int.toNat (↑x:Int)) (dfl Ty.str))->if decide ((↑x_1:Int)<(↑(List.length (aO s x).1):Int))=true then((0:Int)<=(↑x_1:Int)/\(↑x_1:Int)<(↑(List.length (aO s x).1):Int))/\((0:Int)<=(↑x:Int)/\(↑x:Int)<(↑(List.length s.names):Int))/\if Op.bytesLess (List.getD (aO s x).1 (Int.toNat (↑x_1:Int)) (dfl Ty.str)) (List.getD s.names (Int.toNat (↑x:Int)) (dfl Ty.str))=true then inR IntKind.i64 ((↑x_1:Int)+(1:Int))/\∃(y:Nat),(y<=List.length (aO s (Int.toNat (↑x:Int))).1/\bL (aO s (Int.toNat (↑x:Int))).1 (List.getD s.names (Int.toNat (↑x:Int)) (dfl Ty.str))=y+bL (List.drop y (aO s (Int.toNat (↑x:Int))).1) (List.getD s.names (Int.toNat (↑x:Int)) (dfl Ty.str)))/\List.length (aO s (Int.toNat (↑x:Int))).1-y<List.length (aO s (Int.toNat (↑x:Int))).1-x_1/\(↑x_1:Int)+(1:Int)=(↑y:Int)/\(↑x:Int)=(↑x:Int)/\s=s/\true=true/\false=false/\s.kind=s.kind/\s.pkg=s.pkg/\s.name=s.name/\(aO s x).1=(aO s x).1/\(aO s x).2=(aO s x).2/\s=s/\(0:Int)=(0:Int)/\an UInt8=an UInt8/\an UInt8=an UInt8/\sortedS (List.getD s.parts (Int.toNat (↑x:Int)) (dfl (Ty.st SN.shape)))=sortedS (List.getD s.parts (Int.toNat (↑x:Int)) (dfl (Ty.st SN.shape)))/\True else((0:Int)<=(0:Int)/\(0:Int)<=(↑x_1:Int)/\(↑x_1:Int)<=(↑(List.length (aO s x).1):Int))/\(List.length ([]:List Str)=List.length ([]:List Str)/\(List.length ([]:List Str)+List.length (List.drop (Int.toNat (0:Int)) (List.take (Int.toNat (↑x_1:Int)) (aO s x).1))) *(16:Nat)<=(140737488355328:Nat))/\((0:Int)<=(↑x:Int)/\(↑x:Int)<(↑(List.length s.names):Int))/\(List.length ([]++List.drop (Int.toNat (0:Int)) (List.take (Int.toNat (↑x_1:Int)) (aO s x).1))=List.length ([]++List.drop (Int.toNat (0:Int)) (List.take (Int.toNat (↑x_1:Int)) (aO s x).1))/\(List.length ([]++List.drop (Int.toNat (0:Int)) (List.take (Int.toNat (↑x_1:Int)) (aO s x).1))+List.length [List.getD s.names (Int.toNat (↑x:Int)) (dfl Ty.str)]) *(16:Nat)<=(140737488355328:Nat))/\((0:Int)<=(↑x_1:Int)/\(↑x_1:Int)<=(↑(List.length (aO s x).1):Int)
  /\(↑(List.length (aO s x).1):Int)<=(↑(List.length (aO s x).1):Int))/\(List.length ([]++List.drop (Int.toNat (0:Int)) (List.take (Int.toNat (↑x_1:Int)) (aO s x).1)++[List.getD s.names (Int.toNat (↑x:Int)) (dfl Ty.str)])=List.length ([]++List.drop (Int.toNat (0:Int)) (List.take (Int.toNat (↑x_1:Int)) (aO s x).1)++[List.getD s.names (Int.toNat (↑x:Int)) (dfl Ty.str)])/\(List.length ([]++List.drop (Int.toNat (0:Int)) (List.take (Int.toNat (↑x_1:Int)) (aO s x).1)++[List.getD s.names (Int.toNat (↑x:Int)) (dfl Ty.str)])+List.length (List.drop (Int.toNat (↑x_1:Int)) (List.take (Int.toNat (↑(List.length (aO s x).1):Int)) (aO s x).1))) *(16:Nat)<=(140737488355328:Nat))/\((0:Int)<=(0:Int)/\(0:Int)<=(↑x_1:Int)/\(↑x_1:Int)<=(↑(List.length (aO s x).2):Int))/\(List.length ([]:List Shape)=List.length ([]:List Shape)/\(List.length ([]:List Shape)+List.length (List.drop (Int.toNat (0:Int)) (List.take (Int.toNat (↑x_1:Int)) (aO s x).2))) *(88:Nat)<=(140737488355328:Nat))/\(List.length ([]++List.drop (Int.toNat (0:Int)) (List.take (Int.toNat (↑x_1:Int)) (aO s x).2))=List.length ([]++List.drop (Int.toNat (0:Int)) (List.take (Int.toNat (↑x_1:Int)) (aO s x).2))/\(List.length ([]++List.drop (Int.toNat (0:Int)) (List.take (Int.toNat (↑x_1:Int)) (aO s x).2))+List.length [sortedS (List.getD s.parts (Int.toNat (↑x:Int)) (dfl (Ty.st SN.shape)))]) *(88:Nat)<=(140737488355328:Nat))/\((0:Int)<=(↑x_1:Int)/\(↑x_1:Int)<=(↑(List.length (aO s x).2):Int)/\(↑(List.length (aO s x).2):Int)<=(↑(List.length (aO s x).2):Int))/\(List.length ([]++List.drop (Int.toNat (0:Int)) (List.take (Int.toNat (↑x_1:Int)) (aO s x).2)++[sortedS (List.getD s.parts (Int.toNat (↑x:Int)) (dfl (Ty.st SN.shape)))])=List.length ([]++List.drop (Int.toNat (0:Int)) (List.take (Int.toNat (↑x_1:Int)) (aO s x).2)++[sortedS (List.getD s.parts (Int.toNat (↑x:Int)) (dfl (Ty.st SN.shape)))])/\(List.length ([]++List.drop (Int.toNat (0:Int)) (List.take (Int.toNat (↑x_1:Int)) (aO s x).2)++[sortedS (List.getD s.parts (Int.toNat (↑x:Int)) (dfl (Ty.st SN.shape)))])+List.length (List.drop (Int.toNat (↑x_1:Int)) (List.take (Int.toNat (↑(List.length (aO s x).2):Int)) (aO s x).2))) *(88:Nat)<=(140737488355328:Nat))/\inR IntKind.i64 ((↑x:Int)+(1:Int))/\∃(y:Nat),y<=List.length s.parts/\List.length s.parts-y<List.length s.parts-x/\(↑x:Int)+(1:Int)=(↑y:Int)/\s=s/\s.kind=s.kind/\s.pkg=s.pkg/\s.name=s.name/\[]++List.drop (Int.toNat (0:Int)) (List.take (Int.toNat (↑x_1:Int)) (aO s x).1)++[List.getD s.names (Int.toNat (↑x:Int)) (dfl Ty.str)]++List.drop (Int.toNat (↑x_1:Int)) (List.take (Int.toNat (↑(List.length (aO s x).1):Int)) (aO s x).1)=(aO s y).1/\[]++List.drop (Int.toNat (0:Int)) (List.take (Int.toNat (↑x_1:Int)) (aO s x).2)++[sortedS (List.getD s.parts (Int.toNat (↑x:Int)) (dfl (Ty.st SN.shape)))]++List.drop (Int.toNat (↑x_1:Int)) (List.take (Int.toNat (↑(List.length (aO s x).2):Int)) (aO s x).2)=(aO s y).2/\s=s/\(0:Int)=(0:Int)/\an UInt8=an UInt8/\an UInt8=an UInt8/\True else((0:Int)<=(0:Int)/\(0:Int)<=(↑x_1:Int)/\(↑x_1:Int)<=(↑(List.length (aO s x).1):Int))/\(List.length ([]:List Str)=List.length ([]:List Str)/\(List.length ([]:List Str)+List.length (List.drop (Int.toNat (0:Int)) (List.take (Int.toNat (↑x_1:Int)) (aO s x).1))) *(16:Nat)<=(140737488355328:Nat))/\((0:Int)<=(↑x:Int)/\(↑x:Int)<(↑(List.length s.names):Int))/\(List.length ([]++List.drop (Int.toNat (0:Int)) (List.take (Int.toNat (↑x_1:Int)) (aO s x).1))=List.length ([]++List.drop (Int.toNat (0:Int)) (List.take (Int.toNat (↑x_1:Int)) (aO s x).1))
  /\(List.length ([]++List.drop (Int.toNat (0:Int)) (List.take (Int.toNat (↑x_1:Int)) (aO s x).1))+List.length [List.getD s.names (Int.toNat (↑x:Int)) (dfl Ty.str)]) *(16:Nat)<=(140737488355328:Nat))/\((0:Int)<=(↑x_1:Int)/\(↑x_1:Int)<=(↑(List.length (aO s x).1):Int)/\(↑(List.length (aO s x).1):Int)<=(↑(List.length (aO s x).1):Int))/\(List.length ([]++List.drop (Int.toNat (0:Int)) (List.take (Int.toNat (↑x_1:Int)) (aO s x).1)++[List.getD s.names (Int.toNat (↑x:Int)) (dfl Ty.str)])=List.length ([]++List.drop (Int.toNat (0:Int)) (List.take (Int.toNat (↑x_1:Int)) (aO s x).1)++[List.getD s.names (Int.toNat (↑x:Int)) (dfl Ty.str)])/\(List.length ([]++List.drop (Int.toNat (0:Int)) (List.take (Int.toNat (↑x_1:Int)) (aO s x).1)++[List.getD s.names (Int.toNat (↑x:Int)) (dfl Ty.str)])+List.length (List.drop (Int.toNat (↑x_1:Int)) (List.take (Int.toNat (↑(List.length (aO s x).1):Int)) (aO s x).1))) *(16:Nat)<=(140737488355328:Nat))/\((0:Int)<=(0:Int)/\(0:Int)<=(↑x_1:Int)/\(↑x_1:Int)<=(↑(List.length (aO s x).2):Int))/\(List.length ([]:List Shape)=List.length ([]:List Shape)/\(List.length ([]:List Shape)+List.length (List.drop (Int.toNat (0:Int)) (List.take (Int.toNat (↑x_1:Int)) (aO s x).2))) *(88:Nat)<=(140737488355328:Nat))/\(List.length ([]++List.drop (Int.toNat (0:Int)) (List.take (Int.toNat (↑x_1:Int)) (aO s x).2))=List.length ([]++List.drop (Int.toNat (0:Int)) (List.take (Int.toNat (↑x_1:Int)) (aO s x).2))/\(List.length ([]++List.drop (Int.toNat (0:Int)) (List.take (Int.toNat (↑x_1:Int)) (aO s x).2))+List.length [sortedS (List.getD s.parts (Int.toNat (↑x:Int)) (dfl (Ty.st SN.shape)))]) *(88:Nat)<=(140737488355328:Nat))/\((0:Int)<=(↑x_1:Int)/\(↑x_1:Int)<=(↑(List.length (aO s x).2):Int)/\(↑(List.length (aO s x).2):Int)<=(↑(List.length (aO s x).2):Int))/\(List.length ([]++List.drop (Int.toNat (0:Int)) (List.take (Int.toNat (↑x_1:Int)) (aO s x).2)++[sortedS (List.getD s.parts (Int.toNat (↑x:Int)) (dfl (Ty.st SN.shape)))])=List.length ([]++List.drop (Int.toNat (0:Int)) (List.take (Int.toNat (↑x_1:Int)) (aO s x).2)++[sortedS (List.getD s.parts (Int.toNat (↑x:Int)) (dfl (Ty.st SN.shape)))])/\(List.length ([]++List.drop (Int.toNat (0:Int)) (List.take (Int.toNat (↑x_1:Int)) (aO s x).2)++[sortedS (List.getD s.parts (Int.toNat (↑x:Int)) (dfl (Ty.st SN.shape)))])+List.length (List.drop (Int.toNat (↑x_1:Int)) (List.take (Int.toNat (↑(List.length (aO s x).2):Int)) (aO s x).2))) *(88:Nat)<=(140737488355328:Nat))/\inR IntKind.i64 ((↑x:Int)+(1:Int))/\∃(y:Nat),y<=List.length s.parts/\List.length s.parts-y<List.length s.parts-x/\(↑x:Int)+(1:Int)=(↑y:Int)/\s=s/\s.kind=s.kind/\s.pkg=s.pkg/\s.name=s.name/\[]++List.drop (Int.toNat (0:Int)) (List.take (Int.toNat (↑x_1:Int)) (aO s x).1)++[List.getD s.names (Int.toNat (↑x:Int)) (dfl Ty.str)]++List.drop (Int.toNat (↑x_1:Int)) (List.take (Int.toNat (↑(List.length (aO s x).1):Int)) (aO s x).1)=(aO s y).1/\[]++List.drop (Int.toNat (0:Int)) (List.take (Int.toNat (↑x_1:Int)) (aO s x).2)++[sortedS (List.getD s.parts (Int.toNat (↑x:Int)) (dfl (Ty.st SN.shape)))]++List.drop (Int.toNat (↑x_1:Int)) (List.take (Int.toNat (↑(List.length (aO s x).2):Int)) (aO s x).2)=(aO s y).2/\s=s/\(0:Int)=(0:Int)/\an UInt8=an UInt8/\an UInt8=an UInt8/\True else True/\s.kind=(sortedS s).kind/\s.pkg=(sortedS s).pkg/\s.name=(sortedS s).name/\(aO s x).1=(sortedS s).names/\(aO s x).2=(sortedS s).parts/\True:=by
 have ln:=hs.parts.len;have hz:=eC s;have hll:=ix s.parts;have hor:bN s=true/\allL bN s.parts=true:=by rw[ep]at ho;simpa using ho
 have hl:s.names.length=s.parts.length/\s.names.Nodup:=by have:=hor.1;unfold bN at this;simpa[h0]using this
 simp only[Int.toNat_natCast,Int.toNat_zero,List.drop_zero,List.nil_append,List.length_nil,List.length_singleton,List.take_length,eq_self,true_and,and_true];refine⟨⟨0,Nat.zero_le _,rfl,rfl,rfl⟩,?_⟩;rintro k hk0;refine ab (fun h=>?_) (fun h=>?_)
 ·replace h:=Xo h;have hk:k<s.parts.length:=by omega
  have hm:=getD_mem s.parts k (dfl (.st .shape)) hk;have hm2:=db hm;refine⟨by omega,⟨by omega,cN hor.2 hm⟩,?_⟩;have hpos:=List.length_pos_iff.2 h0;rw[if_neg (fun e=>by have:=Xo e;omega)];obtain⟨la,lb⟩:=wc s hl.1 k hk0;have hs1:=nj s k hl.1 hk (dfl (.st .shape));refine⟨⟨0,⟨Nat.zero_le _,by simp⟩,rfl⟩,?_⟩;rintro j ⟨j1,j2⟩
  have out:bL (aO s k).1 (s.names.getD k (dfl Ty.str))=j->((0:Int)<=0/\(0:Int)<=j/\(j:Int)<=((aO s k).1.length:Int))/\(0+((aO s k).1.take j).length) *16<=140737488355328/\((0:Int)<=k/\(k:Int)<(s.names.length:Int))/\
    (((aO s k).1.take j).length+1) *16<=140737488355328/\((0:Int)<=j/\(j:Int)<=((aO s k).1.length:Int)/\((aO s k).1.length:Int)<=((aO s k).1.length:Int))/\
    (((aO s k).1.take j++[(s.names.getD k (dfl Ty.str))]).length+((aO s k).1.drop j).length) *16<=140737488355328/\((0:Int)<=0/\(0:Int)<=j/\(j:Int)<=((aO s k).2.length:Int))/\
    (0+((aO s k).2.take j).length) *88<=140737488355328/\(((aO s k).2.take j).length+1) *88<=140737488355328/\((0:Int)<=j/\(j:Int)<=((aO s k).2.length:Int)/\((aO s k).2.length:Int)<=((aO s k).2.length:Int))/\
    (((aO s k).2.take j++[(sortedS (s.parts.getD k (dfl (Ty.st SN.shape))))]).length+((aO s k).2.drop j).length) *88<=140737488355328/\inR IntKind.i64 ((k:Int)+1)/\
    ∃y:Nat,y<=s.parts.length/\s.parts.length-y<s.parts.length-k/\(k:Int)+1=(y:Int)/\(aO s k).1.take j++[(s.names.getD k (dfl Ty.str))]++(aO s k).1.drop j=(aO s y).1/\(aO s k).2.take j++[(sortedS (s.parts.getD k (dfl (Ty.st SN.shape))))]++(aO s k).2.drop j=(aO s y).2:=by
   intro hp;have hp':bL (aO s k).1 (s.names.getD k [])=j:=hp;have e1:((aO s k).1.take j).length=j:=by rw[List.length_take];omega
   have e2:((aO s k).1.drop j).length=(aO s k).1.length-j:=List.length_drop;have e3:((aO s k).2.take j).length=j:=by rw[List.length_take];omega
   have e4:((aO s k).2.drop j).length=(aO s k).2.length-j:=List.length_drop;refine⟨by omega,by omega,by omega,by omega,by omega,?_,by omega,by omega,by omega,by omega,?_,aL hk ln,k+1,by omega,by omega,by omega,?_,?_⟩
   ·rw[List.length_append,e1,e2,List.length_singleton];omega
   ·rw[List.length_append,e3,e4,List.length_singleton];omega
   ·rw[hs1,hp'];rfl
   ·rw[hs1,hp'];rfl
  refine ab (fun a=>?_) (fun a=>?_)
  ·replace a:=Xo a;have hj:j<(aO s k).1.length:=by omega
   rw[aA (aO s k).1 j (dfl .str) hj]at j2;simp only[bL]at j2;refine⟨by omega,by omega,ab (fun b=>?_) (fun b=>?_)⟩
   ·rw[if_pos b]at j2;exact⟨b8 (by omega) (by omega),j+1,⟨by omega,by omega⟩,by omega,by omega⟩
   ·rw[if_neg b]at j2;exact out (by omega)
  ·replace a:¬((j:Int)<((aO s k).1.length:Int)):=fun e=>a (Xd e);have e:j=(aO s k).1.length:=by omega
   have e0:(aO s k).1.drop j=[]:=by rw[e];exact List.drop_length
   rw[e0]at j2;simp only[bL]at j2;exact out (by omega)
 ·replace h:¬((k:Int)<(s.parts.length:Int)):=fun e=>h (Xd e);have e:k=s.parts.length:=by omega
  subst e;obtain⟨d1,d2⟩:=C9 s hl.1 hl.2 h0;refine⟨?_,?_,?_,d1,d2⟩<;>(obtain⟨k,p,m,ns,ps⟩:=s;rfl)
theorem zT(s:Shape)(m:Str)(hs:Wf (.st .shape) s)(ho:s.names=[]∨s.names.length=s.parts.length) :
  (∃(x:Nat),(x<=List.length s.names/\dS (List.drop x s.names) (List.drop x s.parts) m=aH s m)/\(0:Int)=(↑x:Int)/\s=s/\m=m/\s=s/\(0:Int)=(0:Int)/\an UInt8=an UInt8/\an UInt8=an UInt8/\True)/\∀(x:Nat),x<=List.length s.names/\dS (List.drop x s.names) (List.drop x s.parts) m=aH s m->if decide ((↑x:Int)<(↑(List.length s.names):Int))=true then((0:Int)<=(↑x:Int)/\(↑x:Int)<(↑(List.length s.names):Int))/\if decide (List.getD s.names (Int.toNat (↑x:Int)) (dfl Ty.str)=m)=true then((0:Int)<=(↑x:Int)/\(↑x:Int)<(↑(List.length s.parts):Int))/\True/\List.getD s.parts (Int.toNat (↑x:Int)) (dfl (Ty.st SN.shape))=Option.getD (aH s m) al/\true=Option.isSome (aH s m)/\True else inR IntKind.i64 ((↑x:Int)+(1:Int))/\∃(y:Nat),(y<=List.length s.names/\dS (List.drop y s.names) (List.drop y s.parts) m=aH s m)/\List.length s.names-y<List.length s.names-x/\(↑x:Int)+(1:Int)=(↑y:Int)/\s=s/\m=m/\s=s/\(0:Int)=(0:Int)/\an UInt8=an UInt8/\an UInt8=an UInt8/\True else True/\(0:Int)=(Option.getD (aH s m) al).kind/\[]=(Option.getD (aH s m) al).pkg/\[]=(Option.getD (aH s m) al).name/\(Option.getD (aH s m) al).names=[]/\(Option.getD (aH s m) al).parts=[]/\false=Option.isSome (aH s m)/\True:=by
 have ln:=hs.names.len;simp only[Int.toNat_natCast,eq_self,true_and,and_true];refine⟨⟨0,⟨Nat.zero_le _,by rw[List.drop_zero,List.drop_zero];rfl⟩,rfl⟩,?_⟩;rintro k ⟨h1,h2⟩;refine ab (fun h=>?_) (fun h=>?_)
 ·replace h:=Xo h;have hk:k<s.names.length:=by omega
  have hl:s.names.length=s.parts.length:=ho.resolve_left (fun e=>by rw[e]at hk;exact absurd hk (Nat.not_lt_zero _));rw[aA s.names k (dfl .str) hk,aA s.parts k (dfl (.st .shape)) (by omega),dS]at h2;refine⟨by omega,ab (fun c=>?_) (fun c=>?_)⟩
  ·rw[if_pos (Xo c)]at h2;rw[<-h2];exact⟨by omega,rfl,rfl⟩
  ·rw[if_neg (fun g=>c (Xd g))]at h2;exact⟨aL hk ln,k+1,⟨by omega,h2⟩,by omega,by omega⟩
 ·have e:k=s.names.length:=by have:¬((k:Int)<(s.names.length:Int)):=fun e=>h (Xd e);omega
  subst e;rw[List.drop_length,show ∀ps:List Shape,dS [] ps m=none from fun ps=>by cases ps<;>rfl]at h2;rw[<-h2];exact⟨rfl,rfl,rfl,rfl,rfl,rfl⟩
theorem Fb(n:Nat)(a b:Shape)(ha:Wf (.st .shape) a)(hb:Wf (.st .shape) b)(hn:sz a+sz b<=n+1)(oa:allS aj a=true)(ob:allS aj b=true) :
  if decide (a.kind=(4:Int))=true then True/\true=aD (n+(1:Nat)) a b/\True else if decide (b.kind=(4:Int))=true then True/\true=aD (n+(1:Nat)) a b/\True else if(!decide (a.kind=b.kind))=true then True/\false=aD (n+(1:Nat)) a b/\True else if(!decide (a.pkg=b.pkg))=true then True/\false=aD (n+(1:Nat)) a b/\True else if(!decide (a.name=b.name))=true then True/\false=aD (n+(1:Nat)) a b/\True else if decide (a.kind=(6:Int))=true then(∃(x:Nat),(x<=List.length b.names/\j0 (aD n) a (List.drop x b.names) (List.drop x b.parts)=aD (n+(1:Nat)) a b)/\(0:Int)=(↑x:Int)/\a=a/\b=b/\false=false/\false=false/\a.kind=a.kind/\true=true/\a=a/\b=b/\True)/\∀(x:Nat),x<=List.length b.names/\j0 (aD n) a (List.drop x b.names) (List.drop x b.parts)=aD (n+(1:Nat)) a b->if decide ((↑x:Int)<(↑(List.length b.names):Int))=true then((0:Int)<=(↑x:Int)/\(↑x:Int)<(↑(List.length b.names):Int))/\(a.names=[]∨List.length a.names=List.length a.parts)/\if(!Option.isSome (aH a (List.getD b.names (Int.toNat (↑x:Int)) (dfl Ty.str))))=true then True/\false=aD (n+(1:Nat)) a b/\True else((0:Int)<=(↑x:Int)/\(↑x:Int)<(↑(List.length b.parts):Int))/\(sz (Option.getD (aH a (List.getD b.names (Int.toNat (↑x:Int)) (dfl Ty.str))) al)+sz (List.getD b.parts (Int.toNat (↑x:Int)) (dfl (Ty.st SN.shape)))<=n/\allS aj (Option.getD (aH a (List.getD b.names (Int.toNat (↑x:Int)) (dfl Ty.str))) al)=true/\allS aj (List.getD b.parts (Int.toNat (↑x:Int)) (dfl (Ty.st SN.shape)))=true)/\if(!aD n (Option.getD (aH a (List.getD b.names (Int.toNat (↑x:Int)) (dfl Ty.str))) al) (List.getD b.parts (Int.toNat (↑x:Int)) (dfl (Ty.st SN.shape))))=true then True/\false=aD (n+(1:Nat)) a b/\True else inR IntKind.i64 ((↑x:Int)+(1:Int))/\∃(y:Nat),(y<=List.length b.names/\j0 (aD n) a (List.drop y b.names) (List.drop y b.parts)=aD (n+(1:Nat)) a b)/\List.length b.names-y<List.length b.names-x/\(↑x:Int)+(1:Int)=(↑y:Int)/\a=a/\b=b/\false=false/\false=false/\a.kind=a.kind/\true=true/\a=a/\b=b/\True else True/\true=aD (n+(1:Nat)) a b/\True else if decide (a.kind=(7:Int))=true then(∃(x:Nat),(x<=List.length a.names/\cz (aD n) true b (List.drop x a.names) (List.drop x a.parts)=aD (n+(1:Nat)) a b)/\(0:Int)=(↑x:Int)/\a=a/\b=b/\false=false/\false=false/\a.kind=a.kind/\false=false/\true=true/\a=a/\b=b/\True)/\∀(x:Nat),x<=List.length a.names/\cz (aD n) true b (List.drop x a.names) (List.drop x a.parts)=aD (n+(1:Nat)) a b->if decide ((↑x:Int)<(↑(List.length a.names):Int))=true then((0:Int)<=(↑x:Int)/\(↑x:Int)<(↑(List.length a.names):Int))/\(b.names=[]∨List.length b.names=List.length b.parts)/\if(!Option.isSome (aH b (List.getD a.names (Int.toNat (↑x:Int)) (dfl Ty.str))))=true then True/\false=aD (n+(1:Nat)) a b/\True else((0:Int)<=(↑x:Int)/\(↑x:Int)<(↑(List.length a.parts):Int))/\(sz (List.getD a.parts (Int.toNat (↑x:Int)) (dfl (Ty.st SN.shape)))+sz (Option.getD (aH b (List.getD a.names (Int.toNat (↑x:Int)) (dfl Ty.str))) al)<=n/\allS aj (List.getD a.parts (Int.toNat (↑x:Int)) (dfl (Ty.st SN.shape)))=true/\allS aj (Option.getD (aH b (List.getD a.names (Int.toNat (↑x:Int)) (dfl Ty.str))) al)=true)/\if(!aD n (List.getD a.parts (Int.toNat (↑x:Int)) (dfl (Ty.st SN.shape))) (Option.getD (aH b (List.getD a.names (Int.toNat (↑x:Int)) (dfl Ty.str))) al))=true then True/\false=aD (n+(1:Nat)) a b/\True else inR IntKind.i64 ((↑x:Int)+(1:Int))/\∃(y:Nat),(y<=List.length a.names
  /\cz (aD n) true b (List.drop y a.names) (List.drop y a.parts)=aD (n+(1:Nat)) a b)/\List.length a.names-y<List.length a.names-x/\(↑x:Int)+(1:Int)=(↑y:Int)/\a=a/\b=b/\false=false/\false=false/\a.kind=a.kind/\false=false/\true=true/\a=a/\b=b/\True else True/\true=aD (n+(1:Nat)) a b/\True else if decide (a.kind=(8:Int))=true then inR IntKind.i64 ((↑(List.length a.parts):Int)-(1:Int))/\inR IntKind.i64 ((↑(List.length a.parts):Int)-(1:Int)+(1:Int))/\if(!decide ((↑(List.length b.parts):Int)=(↑(List.length a.parts):Int)-(1:Int)+(1:Int)))=true then True/\false=aD (n+(1:Nat)) a b/\True else((0:Int)<=(↑(List.length a.parts):Int)-(1:Int)/\(↑(List.length a.parts):Int)-(1:Int)<(↑(List.length a.parts):Int))/\((0:Int)<=(↑(List.length a.parts):Int)-(1:Int)/\(↑(List.length a.parts):Int)-(1:Int)<(↑(List.length b.parts):Int))/\(sz (List.getD a.parts (Int.toNat ((↑(List.length a.parts):Int)-(1:Int))) (dfl (Ty.st SN.shape)))+sz (List.getD b.parts (Int.toNat ((↑(List.length a.parts):Int)-(1:Int))) (dfl (Ty.st SN.shape)))<=n/\allS aj (List.getD a.parts (Int.toNat ((↑(List.length a.parts):Int)-(1:Int))) (dfl (Ty.st SN.shape)))=true/\allS aj (List.getD b.parts (Int.toNat ((↑(List.length a.parts):Int)-(1:Int))) (dfl (Ty.st SN.shape)))=true)/\if(!aD n (List.getD a.parts (Int.toNat ((↑(List.length a.parts):Int)-(1:Int))) (dfl (Ty.st SN.shape))) (List.getD b.parts (Int.toNat ((↑(List.length a.parts):Int)-(1:Int))) (dfl (Ty.st SN.shape))))=true then True/\false=aD (n+(1:Nat)) a b/\True else(∃(x:Nat),(x+(1:Nat)<=List.length a.parts/\jG (aD n) (List.drop x a.parts) (List.drop x b.parts)=aD (n+(1:Nat)) a b)/\(0:Int)=(↑x:Int)/\a=a/\b=b/\false=false/\false=false/\a.kind=a.kind/\false=false/\false=false/\true=true/\(↑(List.length a.parts):Int)-(1:Int)=(↑(List.length a.parts):Int)-(1:Int)/\false=false/\a=a/\b=b/\True)/\∀(x:Nat),x+(1:Nat)<=List.length a.parts/\jG (aD n) (List.drop x a.parts) (List.drop x b.parts)=aD (n+(1:Nat)) a b->if decide ((↑x:Int)<(↑(List.length a.parts):Int)-(1:Int))=true then((0:Int)<=(↑x:Int)/\(↑x:Int)<(↑(List.length b.parts):Int))/\((0:Int)<=(↑x:Int)/\(↑x:Int)<(↑(List.length a.parts):Int))/\(sz (List.getD b.parts (Int.toNat (↑x:Int)) (dfl (Ty.st SN.shape)))+sz (List.getD a.parts (Int.toNat (↑x:Int)) (dfl (Ty.st SN.shape)))<=n/\allS aj (List.getD b.parts (Int.toNat (↑x:Int)) (dfl (Ty.st SN.shape)))=true/\allS aj (List.getD a.parts (Int.toNat (↑x:Int)) (dfl (Ty.st SN.shape)))=true)/\if(!aD n (List.getD b.parts (Int.toNat (↑x:Int)) (dfl (Ty.st SN.shape))) (List.getD a.parts (Int.toNat (↑x:Int)) (dfl (Ty.st SN.shape))))=true then True/\false=aD (n+(1:Nat)) a b/\True else inR IntKind.i64 ((↑x:Int)+(1:Int))/\∃(y:Nat),(y+(1:Nat)<=List.length a.parts/\jG (aD n) (List.drop y a.parts) (List.drop y b.parts)=aD (n+(1:Nat)) a b)/\List.length a.parts-y<List.length a.parts-x/\(↑x:Int)+(1:Int)=(↑y:Int)/\a=a/\b=b/\false=false/\false=false/\a.kind=a.kind/\false=false/\false=false/\true=true/\(↑(List.length a.parts):Int)-(1:Int)=(↑(List.length a.parts):Int)-(1:Int)/\false=false/\a=a/\b=b/\True else True/\true=aD (n+(1:Nat)) a b/\True else if decide (a.kind=(5:Int))=true then((0:Int)<=(0:Int)/\(0:Int)<(↑(List.length a.parts):Int))/\((0:Int)<=(0:Int)/\(0:Int)<(↑(List.length b.parts):Int))/\(sz (List.getD a.parts (Int.toNat (0:Int)) (dfl (Ty.st SN.shape)))+sz (List.getD b.parts (Int.toNat (0:Int)) (dfl (Ty.st SN.shape)))<=n
  /\allS aj (List.getD a.parts (Int.toNat (0:Int)) (dfl (Ty.st SN.shape)))=true/\allS aj (List.getD b.parts (Int.toNat (0:Int)) (dfl (Ty.st SN.shape)))=true)/\True/\aD n (List.getD a.parts (Int.toNat (0:Int)) (dfl (Ty.st SN.shape))) (List.getD b.parts (Int.toNat (0:Int)) (dfl (Ty.st SN.shape)))=aD (n+(1:Nat)) a b/\True else True/\true=aD (n+(1:Nat)) a b/\True:=by
 have bF:∀{x:Bool},(!x)=true->x=false:=fun{x} h=>by cases x with|false=>rfl|true=>cases h
 have bT:∀{x:Bool},¬(!x)=true->x=true:=fun{x} h=>by cases x with|true=>rfl|false=>exact absurd rfl h
 have la:=ha.parts.len;have lb:=hb.parts.len;have lna:=ha.names.len;have lnb:=hb.names.len;have za:=eC a;have zb:=eC b;have fa:=kP oa;have fb:=kP ob;have hD:=@Fa n a b fa.1 fb.1;have e0:Int.toNat 0=0:=rfl;simp only[e0,Int.toNat_natCast,eq_self,true_and,and_true];generalize aD (n+1) a b=R at hD⊢;have pq:∀{p q:Shape},p∈a.parts->q∈b.parts->sz p+sz q<=n/\allS aj p=true/\allS aj q=true:=fun{p q} hp hq=>by have h1:=db hp;have h2:=db hq;exact⟨by omega,cN fa.2 hp,cN fb.2 hq⟩
 have qp:∀{p q:Shape},p∈a.parts->q∈b.parts->sz q+sz p<=n/\allS aj q=true/\allS aj p=true:=fun hp hq=>by have h:=pq hp hq;exact⟨by omega,h.2.2,h.2.1⟩
 refine ab (fun h=>by rw[hD,if_pos (.inl (Xo h))]) (fun h4=>?_);refine ab (fun h=>by rw[hD,if_pos (.inr (Xo h))]) (fun h5=>?_);rw[if_neg (fun q=>q.elim (fun q=>h4 (Xd q)) (fun q=>h5 (Xd q)))]at hD;refine ab (fun h=>by rw[hD,if_neg (fun q=>ndF h q.1)]) (fun hk=>?_);refine ab (fun h=>by rw[hD,if_neg (fun q=>ndF h q.2.1)]) (fun hp=>?_);refine ab (fun h=>by rw[hD,if_neg (fun q=>ndF h q.2.2)]) (fun hm=>?_);have hk:=ndT hk;rw[if_pos ⟨hk,ndT hp,ndT hm⟩]at hD;refine ab (fun k6=>?_) (fun k6=>?_)
 ·rw[if_pos (Xo k6)]at hD;refine⟨⟨0,⟨Nat.zero_le _,by rw[List.drop_zero,List.drop_zero,hD]⟩,rfl⟩,?_⟩;rintro k ⟨h1,h2⟩;refine ab (fun h=>?_) (fun h=>?_)
  ·replace h:=Xo h;have hk':k<b.names.length:=by omega
   have nl:b.names.length=b.parts.length:=(fZ fb.1).resolve_left (fun e=>by rw[e]at hk';simp at hk');have hkp:k<b.parts.length:=by omega
   rw[aA b.names k (dfl .str) hk',aA b.parts k (dfl (.st .shape)) hkp]at h2;simp only[j0]at h2;refine⟨by omega,fZ fa.1,?_⟩;have m1:=getD_mem b.parts k (dfl (.st .shape)) hkp
   cases hq:aH a (b.names.getD k (dfl .str))with
   |none=>rw[hq]at h2;exact ab (fun _=>h2) (fun c=>absurd rfl c)
   |some x=>
    rw[hq]at h2;dsimp only at h2;simp only[Option.getD];have s:=pq (iX hq).2 m1;refine ab (fun c=>absurd c Bool.false_ne_true) (fun _=>⟨by omega,s,ab (fun c=>?_) (fun c=>?_)⟩)
    ·have c:aD n x (b.parts.getD k (dfl (.st .shape)))=false:=bF c;rw[<-h2,c];rfl
    ·have c:aD n x (b.parts.getD k (dfl (.st .shape)))=true:=bT c;exact⟨aL hk' lnb,k+1,⟨by omega,by rw[<-h2,c];rfl⟩,by omega,by omega⟩
  ·have e:k=b.names.length:=by have:¬((k:Int)<(b.names.length:Int)):=fun e=>h (Xd e);omega
   subst e;rw[List.drop_length]at h2;simp only[j0]at h2;exact h2
 rw[if_neg (fun q=>k6 (Xd q))]at hD;refine ab (fun k7=>?_) (fun k7=>?_)
 ·rw[if_pos (Xo k7)]at hD;refine⟨⟨0,⟨Nat.zero_le _,by rw[List.drop_zero,List.drop_zero,hD]⟩,rfl⟩,?_⟩;rintro k ⟨h1,h2⟩;refine ab (fun h=>?_) (fun h=>?_)
  ·replace h:=Xo h;have hk':k<a.names.length:=by omega
   have nl:a.names.length=a.parts.length:=(fZ fa.1).resolve_left (fun e=>by rw[e]at hk';simp at hk');have hkp:k<a.parts.length:=by omega
   rw[aA a.names k (dfl .str) hk',aA a.parts k (dfl (.st .shape)) hkp]at h2;simp only[cz]at h2;refine⟨by omega,fZ fb.1,?_⟩;have m1:=getD_mem a.parts k (dfl (.st .shape)) hkp
   cases hq:aH b (a.names.getD k (dfl .str))with
   |none=>rw[hq]at h2;exact ab (fun _=>h2) (fun c=>absurd rfl c)
   |some x=>
    rw[hq]at h2;dsimp only at h2;simp only[Option.getD];have s:=pq m1 (iX hq).2;refine ab (fun c=>absurd c Bool.false_ne_true) (fun _=>⟨by omega,s,ab (fun c=>?_) (fun c=>?_)⟩)
    ·have c:aD n (a.parts.getD k (dfl (.st .shape))) x=false:=bF c;rw[<-h2,c];rfl
    ·have c:aD n (a.parts.getD k (dfl (.st .shape))) x=true:=bT c;exact⟨aL hk' lna,k+1,⟨by omega,by rw[<-h2,c];rfl⟩,by omega,by omega⟩
  ·have e:k=a.names.length:=by have:¬((k:Int)<(a.names.length:Int)):=fun e=>h (Xd e);omega
   subst e;rw[List.drop_length]at h2;simp only[cz]at h2;exact h2
 rw[if_neg (fun q=>k7 (Xd q))]at hD;refine ab (fun k8=>?_) (fun k8=>?_)
 ·have k8:=Xo k8;have ne:0<a.parts.length:=List.length_pos_iff.2 (rn fa.1 k8);rw[if_pos k8]at hD;refine⟨b8 (by omega) (by omega),b8 (by omega) (by omega),ab (fun c=>?_) (fun c=>?_)⟩
  ·have c:=ndF c;rw[hD,Xf (show ¬b.parts.length=a.parts.length by omega)];rfl
  ·have c:=ndT c;have hl:b.parts.length=a.parts.length:=by omega
   have el:((a.parts.length:Int)-1).toNat=a.parts.length-1:=by omega
   rw[Xd hl,Bool.true_and,hl]at hD;rw[el];have m1:=getD_mem a.parts (a.parts.length-1) (dfl (.st .shape)) (by omega);have m2:=getD_mem b.parts (a.parts.length-1) (dfl (.st .shape)) (by omega);refine⟨by omega,by omega,pq m1 m2,ab (fun c=>?_) (fun c=>?_)⟩
   ·have c:aD n (a.parts.getD (a.parts.length-1) al) (b.parts.getD (a.parts.length-1) al)=false:=bF c;rw[hD,c];rfl
   ·have c:aD n (a.parts.getD (a.parts.length-1) al) (b.parts.getD (a.parts.length-1) al)=true:=bT c;rw[c,Bool.true_and]at hD;refine⟨⟨0,⟨by omega,by rw[List.drop_zero,List.drop_zero,hD]⟩,rfl⟩,?_⟩;rintro k ⟨h1,h2⟩;rw[aA a.parts k (dfl (.st .shape)) (by omega),aA b.parts k (dfl (.st .shape)) (by omega)]at h2;simp only[jG]at h2;refine ab (fun h=>?_) (fun h=>?_)
    ·have h:=Xo h;have ie:(a.parts.drop (k+1)).isEmpty=false:=by rw[List.isEmpty_eq_false_iff];intro e;have:=congrArg List.length e;rw[List.length_drop,List.length_nil]at this;omega
     rw[ie,Bool.false_or]at h2;have m1:=getD_mem a.parts k (dfl (.st .shape)) (by omega);have m2:=getD_mem b.parts k (dfl (.st .shape)) (by omega);refine⟨by omega,by omega,qp m1 m2,ab (fun c=>?_) (fun c=>?_)⟩
     ·have c:aD n (b.parts.getD k (dfl (.st .shape))) (a.parts.getD k (dfl (.st .shape)))=false:=bF c;rw[<-h2,c];rfl
     ·have c:aD n (b.parts.getD k (dfl (.st .shape))) (a.parts.getD k (dfl (.st .shape)))=true:=bT c;exact⟨aL (by omega) la,k+1,⟨by omega,by rw[<-h2,c];rfl⟩,by omega,by omega⟩
    ·have h:¬(k:Int)<(a.parts.length:Int)-1:=fun q=>h (Xd q);have ie:(a.parts.drop (k+1)).isEmpty=true:=by rw[List.isEmpty_iff];exact List.drop_eq_nil_of_le (by omega)
     rw[ie,Bool.true_or]at h2;exact h2
 rw[if_neg (fun q=>k8 (Xd q))]at hD;refine ab (fun k5=>?_) (fun k5=>?_)
 ·have k5:=Xo k5;rw[if_pos k5]at hD;have l1:=kU fa.1 k5;have l2:=kU fb.1 (by omega);exact⟨by omega,by omega,pq (getD_mem a.parts 0 _ (by omega)) (getD_mem b.parts 0 _ (by omega)),hD.symm⟩
 ·rw[if_neg (fun q=>k5 (Xd q))]at hD;exact hD.symm
theorem zU(a b:Shape)(ha:Wf (.st .shape) a)(hb:Wf (.st .shape) b) :
  if decide (aC a=(0:Int))=true then if decide (aC b=(0:Int))=true then(sz a+sz b<=(800:Nat)/\allS aj a=true/\allS aj b=true)/\True/\aD (800:Nat) a b=fc a b/\True else True/\false=fc a b/\True else True/\false=fc a b/\True:=by
 refine ab (fun h=>ab (fun g=>?_) (fun g=>?_)) (fun h=>?_)
 ·have c1:=bX (Xo h);have c2:=bX (Xo g);refine⟨⟨by omega,c1.2.2,c2.2.2⟩,trivial,?_,trivial⟩;unfold fc;rw[h,g];rfl
 ·refine⟨trivial,?_,trivial⟩;unfold fc;rw[Bool.eq_false_iff.2 g,Bool.and_false];rfl
 ·refine⟨trivial,?_,trivial⟩;unfold fc;rw[Bool.eq_false_iff.2 h];rfl
theorem zW(l:List Bndg)(o m:Str)(hl:Wf (.lst (.st .bind)) l) :
  inR IntKind.i64 ((↑(List.length l):Int)-(1:Int))/\(∃(x:Nat),(x<=List.length l/\az l o m=az (List.take x l) o m)/\(↑(List.length l):Int)-(1:Int)=(↑x:Int)-(1:Int)/\l=l/\o=o/\m=m/\(0:Int)=(0:Int)/\an UInt8=an UInt8/\an UInt8=an UInt8/\True)/\∀(x:Nat),x<=List.length l/\az l o m=az (List.take x l) o m->if decide ((0:Int)<=(↑x:Int)-(1:Int))=true then((0:Int)<=(↑x:Int)-(1:Int)/\(↑x:Int)-(1:Int)<(↑(List.length l):Int))/\if decide ((List.getD l (Int.toNat ((↑x:Int)-(1:Int))) (dfl (Ty.st SN.bind))).pkg=o)=true then((0:Int)<=(↑x:Int)-(1:Int)/\(↑x:Int)-(1:Int)<(↑(List.length l):Int))/\if decide ((List.getD l (Int.toNat ((↑x:Int)-(1:Int))) (dfl (Ty.st SN.bind))).name=m)=true then((0:Int)<=(↑x:Int)-(1:Int)/\(↑x:Int)-(1:Int)<(↑(List.length l):Int))/\True/\(List.getD l (Int.toNat ((↑x:Int)-(1:Int))) (dfl (Ty.st SN.bind))).shape=Option.getD (az l o m) al/\true=Option.isSome (az l o m)/\True else inR IntKind.i64 ((↑x:Int)-(1:Int)-(1:Int))/\∃(y:Nat),(y<=List.length l/\az l o m=az (List.take y l) o m)/\y<x/\(↑x:Int)-(1:Int)-(1:Int)=(↑y:Int)-(1:Int)/\l=l/\o=o/\m=m/\(0:Int)=(0:Int)/\an UInt8=an UInt8/\an UInt8=an UInt8/\True else inR IntKind.i64 ((↑x:Int)-(1:Int)-(1:Int))/\∃(y:Nat),(y<=List.length l/\az l o m=az (List.take y l) o m)/\y<x/\(↑x:Int)-(1:Int)-(1:Int)=(↑y:Int)-(1:Int)/\l=l/\o=o/\m=m/\(0:Int)=(0:Int)/\an UInt8=an UInt8/\an UInt8=an UInt8/\True else True/\(0:Int)=(Option.getD (az l o m) al).kind/\[]=(Option.getD (az l o m) al).pkg/\[]=(Option.getD (az l o m) al).name/\(Option.getD (az l o m) al).names=[]/\(Option.getD (az l o m) al).parts=[]/\false=Option.isSome (az l o m)/\True:=by
 have ln:=hl.len;simp only[eq_self,true_and,and_true];refine⟨b8 (by omega) (by omega),⟨l.length,⟨Nat.le_refl _,by rw[List.take_length]⟩,rfl⟩,?_⟩;rintro x ⟨h1,h2⟩;refine ab (fun h=>?_) (fun h=>?_)
 ·have h:=Xo h;obtain⟨k,rfl⟩:∃k,x=k+1:=⟨x-1,by omega⟩;have e1:(((k+1:Nat):Int)-1)=(k:Int):=by omega
  rw[og l o m (dfl (.st .bind)) (by omega)]at h2;simp only[e1,Int.toNat_natCast]
  have next:az l o m=az (l.take k) o m->inR IntKind.i64 ((k:Int)-1)/\∃(y:Nat),(y<=List.length l/\az l o m=az (List.take y l) o m)/\y<k+1/\(k:Int)-1=(y:Int)-1:=
   fun g=>⟨b8 (by omega) (by omega),k,⟨by omega,g⟩,by omega,rfl⟩
  refine⟨by omega,ab (fun c1=>?_) (fun c1=>?_)⟩
  ·have c1:=Xo c1;refine⟨by omega,ab (fun c2=>?_) (fun c2=>?_)⟩
   ·have c2:=Xo c2;rw[if_pos ⟨c1,c2⟩]at h2;rw[h2];exact⟨by omega,rfl,rfl⟩
   ·rw[if_neg (fun g=>c2 (Xd g.2))]at h2;exact next h2
  ·rw[if_neg (fun g=>c1 (Xd g.1))]at h2;exact next h2
 ·have h:¬(0:Int)<=(x:Int)-1:=fun e=>h (Xd e);obtain rfl:x=0:=by omega
  rw[h2];exact⟨rfl,rfl,rfl,rfl,rfl,rfl⟩
theorem Gs(n:Nat)(s:Shape)(l:List Bndg)(hs:Wf (.st .shape) s)(hl:Wf (.lst (.st .bind)) l)(hn:sz s<=n+1)(h4:n+1<=400) :
  if decide (s.kind=(9:Int))=true then True/\Option.getD (az l s.pkg s.name) al=Option.getD (fillS (az l) s) al/\Option.isSome (az l s.pkg s.name)=Option.isSome (fillS (az l) s)/\True else(∃(x:Nat×List Shape),(x.1<=List.length s.parts/\List.length x.2=x.1/\fillL (az l) s.parts=Option.map (fun(x_1:List Shape) ↦x.2++x_1) (fillL (az l) (List.drop x.1 s.parts)))/\(0:Int)=(↑x.1:Int)/\s=s/\l=l/\false=false/\s.kind=s.kind/\s.pkg=s.pkg/\s.name=s.name/\s.names=s.names/\x.2=[]/\List.length x.2=(0:Nat)/\s=s/\(0:Int)=(0:Int)/\an UInt8=an UInt8/\an UInt8=an UInt8/\True)/\∀(x:Nat×List Shape),x.1<=List.length s.parts/\List.length x.2=x.1/\fillL (az l) s.parts=Option.map (fun(x_1:List Shape) ↦x.2++x_1) (fillL (az l) (List.drop x.1 s.parts))->if decide ((↑x.1:Int)<(↑(List.length s.parts):Int))=true then((0:Int)<=(↑x.1:Int)/\(↑x.1:Int)<(↑(List.length s.parts):Int))/\(sz (List.getD s.parts (Int.toNat (↑x.1:Int)) (dfl (Ty.st SN.shape)))<=n/\n<=(400:Nat))/\if(!Option.isSome (fillS (az l) (List.getD s.parts (Int.toNat (↑x.1:Int)) (dfl (Ty.st SN.shape)))))=true then True/\(0:Int)=(Option.getD (fillS (az l) s) al).kind/\[]=(Option.getD (fillS (az l) s) al).pkg/\[]=(Option.getD (fillS (az l) s) al).name/\(Option.getD (fillS (az l) s) al).names=[]/\(Option.getD (fillS (az l) s) al).parts=[]/\false=Option.isSome (fillS (az l) s)/\True else(List.length x.2=List.length x.2/\(List.length x.2+List.length [Option.getD (fillS (az l) (List.getD s.parts (Int.toNat (↑x.1:Int)) (dfl (Ty.st SN.shape)))) al]) *(88:Nat)<=(140737488355328:Nat))/\inR IntKind.i64 ((↑x.1:Int)+(1:Int))/\∃(y:Nat×List Shape),(y.1<=List.length s.parts/\List.length y.2=y.1/\fillL (az l) s.parts=Option.map (fun(x:List Shape) ↦y.2++x) (fillL (az l) (List.drop y.1 s.parts)))/\List.length s.parts-y.1<List.length s.parts-x.1/\(↑x.1:Int)+(1:Int)=(↑y.1:Int)/\s=s/\l=l/\false=false/\s.kind=s.kind/\s.pkg=s.pkg/\s.name=s.name/\s.names=s.names/\x.2++[Option.getD (fillS (az l) (List.getD s.parts (Int.toNat (↑x.1:Int)) (dfl (Ty.st SN.shape)))) al]=y.2/\List.length (x.2++[Option.getD (fillS (az l) (List.getD s.parts (Int.toNat (↑x.1:Int)) (dfl (Ty.st SN.shape)))) al])=List.length y.2/\s=s/\(0:Int)=(0:Int)/\an UInt8=an UInt8/\an UInt8=an UInt8/\True else True/\s.kind=(Option.getD (fillS (az l) s) al).kind/\s.pkg=(Option.getD (fillS (az l) s) al).pkg/\s.name=(Option.getD (fillS (az l) s) al).name/\s.names=(Option.getD (fillS (az l) s) al).names/\x.2=(Option.getD (fillS (az l) s) al).parts/\true=Option.isSome (fillS (az l) s)/\True:=by
 have zs:=eC s;have ln:=hs.parts.len;have lz:=ix s.parts;simp only[Int.toNat_natCast,eq_self,true_and,and_true];refine ab (fun h9=>?_) (fun h9=>?_)
 ·simp only[decide_eq_true_eq]at h9;rw[iY,if_pos h9];exact⟨rfl,rfl⟩
 simp only[decide_eq_true_eq]at h9;have hf:fillS (az l) s=(fillL (az l) s.parts).map fun q=>⟨s.kind,s.pkg,s.name,s.names,q⟩:=by rw[iY,if_neg h9]
 refine⟨⟨(0,[]),⟨Nat.zero_le _,rfl,by simp⟩,rfl,rfl,rfl⟩,?_⟩;rintro⟨k,q⟩ ⟨h1,h2,h3⟩;dsimp only at h1 h2 h3⊢;refine ab (fun h=>?_) (fun h=>?_)
 ·replace h:=Xo h;have hk:k<s.parts.length:=by omega
  rw[aA s.parts k (dfl (.st .shape)) hk]at h3;simp only[fillL]at h3;have m1:=getD_mem s.parts k (dfl (.st .shape)) hk;have s1:=db m1;refine⟨by omega,⟨by omega,by omega⟩,?_⟩
  cases hx:fillS (az l) (s.parts.getD k (dfl (.st .shape)))with
  |none=>rw[hx]at h3;refine ab (fun c=>?_) (fun c=>absurd rfl c);rw[hf,h3];exact⟨rfl,rfl,rfl,rfl,rfl,rfl⟩
  |some x=>
   rw[hx]at h3;refine ab (fun c=>absurd c Bool.false_ne_true) (fun c=>?_);refine⟨by simp only[Option.getD,List.length_cons,List.length_nil];omega,aL hk ln,(k+1,q++[x]),⟨by omega,by simp[h2],?_⟩,by dsimp only;omega,by dsimp only;omega,rfl,rfl⟩;rw[h3]
   cases fillL (az l) (s.parts.drop (k+1))with
   |none=>rfl
   |some l=>simp
 ·replace h:¬((k:Int)<(s.parts.length:Int)):=fun e=>h (Xd e);have e:k=s.parts.length:=by omega
  subst e;rw[List.drop_length]at h3;simp only[fillL,Option.map,List.append_nil]at h3;rw[hf,h3];exact⟨rfl,rfl,rfl,rfl,rfl,rfl⟩
theorem D6(s:Shape)(hs:Wf (.st .shape) s) :
  if(!decide (aC s=(0:Int)))=true then True/\s=aM s/\True else(sz s<=(400:Nat)/\allS bN s=true)/\True/\sortedS s=aM s/\True:=by
 exact ab (fun h=>⟨trivial,by rw[aM,if_neg (ndF h)],trivial⟩) (fun h=>⟨⟨(bX (ndT h)).1,ki (ndT h)⟩,trivial,by rw[aM,if_pos (ndT h)],trivial⟩)
theorem s9(s:Shape)(l:List Bndg)(hs:Wf (.st .shape) s)(hl:Wf (.lst (.st .bind)) l) :
  if(!decide (aC s=(0:Int)))=true then True/\(0:Int)=(aq s l).1.kind/\[]=(aq s l).1.pkg/\[]=(aq s l).1.name/\(aq s l).1.names=[]/\(aq s l).1.parts=[]/\aC s=(aq s l).2/\True else(sz s<=(400:Nat)/\(400:Nat)<=(400:Nat))/\if(!Option.isSome (fillS (az l) s))=true then True/\(0:Int)=(aq s l).1.kind/\[]=(aq s l).1.pkg/\[]=(aq s l).1.name/\(aq s l).1.names=[]/\(aq s l).1.parts=[]/\(110:Int)=(aq s l).2/\True else if(!decide (aC (Option.getD (fillS (az l) s) al)=(0:Int)))=true then True/\(0:Int)=(aq s l).1.kind/\[]=(aq s l).1.pkg/\[]=(aq s l).1.name/\(aq s l).1.names=[]/\(aq s l).1.parts=[]/\aC (Option.getD (fillS (az l) s) al)=(aq s l).2/\True else True/\aM (Option.getD (fillS (az l) s) al)=(aq s l).1/\(0:Int)=(aq s l).2/\True:=by
 have e0:¬aC s=0->aq s l=(al,aC s):=fun h=>by unfold aq;rw[if_neg h]
 have e1:aC s=0->fillS (az l) s=none->aq s l=(al,110):=fun h g=>by unfold aq;rw[if_pos h,g]
 have e2:∀q,aC s=0->fillS (az l) s=some q->aq s l=if aC q=0 then(aM q,0)else(al,aC q):=fun q h g=>by unfold aq;rw[if_pos h,g]
 refine ab (fun h=>by rw[e0 (ndF h)];exact⟨trivial,rfl,rfl,rfl,rfl,rfl,rfl,trivial⟩) (fun h=>⟨⟨(bX (ndT h)).1,Nat.le_refl _⟩,?_⟩)
 cases hq:fillS (az l) s with
 |none=>rw[e1 (ndT h) hq];exact ab (fun _=>⟨trivial,rfl,rfl,rfl,rfl,rfl,rfl,trivial⟩) (fun g=>absurd rfl g)
 |some q=>
  rw[e2 q (ndT h) hq];refine ab (fun g=>absurd g Bool.false_ne_true) (fun _=>ab (fun g=>?_) (fun g=>?_))
  ·rw[if_neg (show ¬aC q=0 from ndF g)];exact⟨trivial,rfl,rfl,rfl,rfl,rfl,rfl,trivial⟩
  ·rw[if_pos (show aC q=0 from ndT g)];exact⟨trivial,rfl,rfl,trivial⟩
theorem Hh(e a:Int)  :
  True/\e=e/\a=a/\True:=by
 exact⟨trivial,rfl,rfl,trivial⟩
theorem zX(e:Envt)(b:Bndg)(he:Wf (.st .env) e)(ho:e.values.length<=1000000000) :
  (List.length ([]:List Bndg)=List.length ([]:List Bndg)/\(List.length ([]:List Bndg)+List.length e.values) *(120:Nat)<=(140737488355328:Nat))/\(List.length (([]:List Bndg)++e.values)=List.length (([]:List Bndg)++e.values)/\(List.length (([]:List Bndg)++e.values)+List.length [b]) *(120:Nat)<=(140737488355328:Nat))/\True/\e.self=(bk e [b]).self/\e.types=(bk e [b]).types/\([]:List Bndg)++e.values++[b]=e.values++[b]/\e.own=(bk e [b]).own/\True:=by
 exact⟨⟨rfl,by simp only[List.length_nil];omega⟩,⟨rfl,by simp only[List.nil_append,List.length_cons,List.length_nil];omega⟩,trivial,rfl,rfl,rfl,rfl,trivial⟩
theorem xk(n:Nat)(t:Trm)(e:Envt)(ht:Wf (.st .term) t)(he:Wf (.st .env) e)(hz:szT t<=n+1)(hf:allT ag t=true)(hv:e.values.length+4096 *szT t<=100000000) :
  (szT t<=n+(1:Nat)/\allT ag t=true/\List.length e.values+(4096:Nat) *szT t<=(100000000:Nat))/\if(!decide ((aB (aa n) t e).2.err=(0:Int)))=true then True/\(0:Int)=(aa (n+(1:Nat)) t e).1.kind/\[]=(aa (n+(1:Nat)) t e).1.pkg/\[]=(aa (n+(1:Nat)) t e).1.name/\(aa (n+(1:Nat)) t e).1.names=[]/\(aa (n+(1:Nat)) t e).1.parts=[]/\(aB (aa n) t e).2.err=(aa (n+(1:Nat)) t e).2.err/\(aB (aa n) t e).2.pos=(aa (n+(1:Nat)) t e).2.pos/\True else if(!decide (aC (aB (aa n) t e).1=(0:Int)))=true then True/\(0:Int)=(aa (n+(1:Nat)) t e).1.kind/\[]=(aa (n+(1:Nat)) t e).1.pkg/\[]=(aa (n+(1:Nat)) t e).1.name/\(aa (n+(1:Nat)) t e).1.names=[]/\(aa (n+(1:Nat)) t e).1.parts=[]/\aC (aB (aa n) t e).1=(aa (n+(1:Nat)) t e).2.err/\t.pos=(aa (n+(1:Nat)) t e).2.pos/\True else True/\aM (aB (aa n) t e).1=(aa (n+(1:Nat)) t e).1/\(0:Int)=(aa (n+(1:Nat)) t e).2.err/\(0:Int)=(aa (n+(1:Nat)) t e).2.pos/\True:=by
 rw[zS];generalize aB (aa n) t e=r;unfold ea;refine⟨⟨hz,hf,hv⟩,ab (fun h=>?_) (fun h=>ab (fun g=>?_) (fun g=>?_))⟩
 ·rw[if_neg (ndF h)];exact⟨trivial,rfl,rfl,rfl,rfl,rfl,rfl,rfl,trivial⟩
 ·rw[if_pos (ndT h),if_neg (ndF g)];exact⟨trivial,rfl,rfl,rfl,rfl,rfl,rfl,rfl,trivial⟩
 ·rw[if_pos (ndT h),if_pos (ndT g)];exact⟨trivial,rfl,rfl,rfl,trivial⟩
theorem zY(n:Nat)(t:Trm)(w:Shape)(e:Envt)(ht:Wf (.st .term) t)(hw:Wf (.st .shape) w)(he:Wf (.st .env) e)(hz:szT t<=n)(hf:allT ag t=true)(hv:e.values.length+4096 *szT t<=100000000) :
  (szT t<=n/\allT ag t=true/\List.length e.values+(4096:Nat) *szT t<=(100000000:Nat))/\if(!decide ((aa n t e).2.err=(0:Int)))=true then True/\(aa n t e).2.err=(au (aa n) t w e).err/\(aa n t e).2.pos=(au (aa n) t w e).pos/\True else if(!fc (aa n t e).1 w)=true then True/\(140:Int)=(au (aa n) t w e).err/\t.pos=(au (aa n) t w e).pos/\True else True/\(0:Int)=(au (aa n) t w e).err/\(0:Int)=(au (aa n) t w e).pos/\True:=by
 have hok:=@nf n t e;unfold au;refine⟨⟨hz,hf,hv⟩,ab (fun h=>?_) (fun h=>ab (fun g=>?_) (fun g=>?_))⟩
 ·rw[if_neg (fun q=>ndF h q.1)];exact⟨trivial,rfl,rfl,trivial⟩
 ·rw[if_pos ⟨ndT h,by simpa only[Bool.not_eq_true']using g⟩];exact⟨trivial,rfl,rfl,trivial⟩
 ·rw[if_neg (fun q=>g (by rw[q.2];rfl)),hok (ndT h)];exact⟨trivial,rfl,rfl,trivial⟩
theorem zZ(n:Nat)(t:Trm)(e:Envt)(ht:Wf (.st .term) t)(he:Wf (.st .env) e)(hp:0<t.parts.length)(hz:szT t<=n+1)(hf:allT ag t=true)(hv:e.values.length+4096 *szT t<=100000000) :
  ((0:Int)<=(0:Int)/\(0:Int)<(↑(List.length t.parts):Int))/\(szT (List.getD t.parts (Int.toNat (0:Int)) (dfl (Ty.st SN.term)))<=n/\allT ag (List.getD t.parts (Int.toNat (0:Int)) (dfl (Ty.st SN.term)))=true/\List.length e.values+(4096:Nat) *szT (List.getD t.parts (Int.toNat (0:Int)) (dfl (Ty.st SN.term)))<=(100000000:Nat))/\if(!decide ((aa n (List.getD t.parts (Int.toNat (0:Int)) (dfl (Ty.st SN.term))) e).2.err=(0:Int)))=true then True/\(aa n (List.getD t.parts (Int.toNat (0:Int)) (dfl (Ty.st SN.term))) e).1=(aR (aa n) t e).1/\(aa n (List.getD t.parts (Int.toNat (0:Int)) (dfl (Ty.st SN.term))) e).2.err=(aR (aa n) t e).2.err/\(aa n (List.getD t.parts (Int.toNat (0:Int)) (dfl (Ty.st SN.term))) e).2.pos=(aR (aa n) t e).2.pos/\True else if(!decide ((aa n (List.getD t.parts (Int.toNat (0:Int)) (dfl (Ty.st SN.term))) e).1.kind=(4:Int)))=true then if(!decide ((aa n (List.getD t.parts (Int.toNat (0:Int)) (dfl (Ty.st SN.term))) e).1.kind=(8:Int)))=true then True/\(aa n (List.getD t.parts (Int.toNat (0:Int)) (dfl (Ty.st SN.term))) e).1=(aR (aa n) t e).1/\(140:Int)=(aR (aa n) t e).2.err/\t.pos=(aR (aa n) t e).2.pos/\True else if(!decide ((↑(List.length (aa n (List.getD t.parts (Int.toNat (0:Int)) (dfl (Ty.st SN.term))) e).1.parts):Int)=(↑(List.length t.parts):Int)))=true then True/\(aa n (List.getD t.parts (Int.toNat (0:Int)) (dfl (Ty.st SN.term))) e).1=(aR (aa n) t e).1/\(140:Int)=(aR (aa n) t e).2.err/\t.pos=(aR (aa n) t e).2.pos/\True else(∃(x:Nat),(x+(1:Nat)<=List.length t.parts/\((aa n (List.getD t.parts (0:Nat) ao) e).1.kind=(4:Int)->b6 (aa n) e (ofK (4:Int)) (List.drop (1:Nat) t.parts)=b6 (aa n) e (ofK (4:Int)) (List.drop (x+(1:Nat)) t.parts))/\(¬(aa n (List.getD t.parts (0:Nat) ao) e).1.kind=(4:Int)->cv (aa n) e (List.drop (1:Nat) t.parts) (aa n (List.getD t.parts (0:Nat) ao) e).1.parts=cv (aa n) e (List.drop (x+(1:Nat)) t.parts) (List.drop x (aa n (List.getD t.parts (0:Nat) ao) e).1.parts)))/\(1:Int)=(↑x:Int)+(1:Int)/\t=t/\e=e/\false=false/\false=false/\t=t/\e=e/\(0:Int)=(0:Int)/\an UInt8=an UInt8/\an UInt8=an UInt8/\(0:Int)=(0:Int)/\(0:Int)=(0:Int)/\(aa n (List.getD t.parts (Int.toNat (0:Int)) (dfl (Ty.st SN.term))) e).1=(aa n (List.getD t.parts (Int.toNat (0:Int)) (dfl (Ty.st SN.term))) e).1/\(aa n (List.getD t.parts (Int.toNat (0:Int)) (dfl (Ty.st SN.term))) e).2.err=(aa n (List.getD t.parts (Int.toNat (0:Int)) (dfl (Ty.st SN.term))) e).2.err/\(aa n (List.getD t.parts (Int.toNat (0:Int)) (dfl (Ty.st SN.term))) e).2.pos=(aa n (List.getD t.parts (Int.toNat (0:Int)) (dfl (Ty.st SN.term))) e).2.pos/\True)/\∀(x:Nat),x+(1:Nat)<=List.length t.parts/\((aa n (List.getD t.parts (0:Nat) ao) e).1.kind=(4:Int)->b6 (aa n) e (ofK (4:Int)) (List.drop (1:Nat) t.parts)=b6 (aa n) e (ofK (4:Int)) (List.drop (x+(1:Nat)) t.parts))/\(¬(aa n (List.getD t.parts (0:Nat) ao) e).1.kind=(4:Int)->cv (aa n) e (List.drop (1:Nat) t.parts) (aa n (List.getD t.parts (0:Nat) ao) e).1.parts=cv (aa n) e (List.drop (x+(1:Nat)) t.parts) (List.drop x (aa n (List.getD t.parts (0:Nat) ao) e).1.parts))->if decide ((↑x:Int)+(1:Int)<(↑(List.length t.parts):Int))=true then if decide ((aa n (List.getD t.parts (Int.toNat (0:Int)) (dfl (Ty.st SN.term))) e).1.kind=(8:Int))=true then inR IntKind.i64 ((↑x:Int)+(1:Int)-(1:Int))/\((0:Int)<=(↑x:Int)+(1:Int)-(1:Int)
  /\(↑x:Int)+(1:Int)-(1:Int)<(↑(List.length (aa n (List.getD t.parts (Int.toNat (0:Int)) (dfl (Ty.st SN.term))) e).1.parts):Int))/\((0:Int)<=(↑x:Int)+(1:Int)/\(↑x:Int)+(1:Int)<(↑(List.length t.parts):Int))/\(szT (List.getD t.parts (Int.toNat ((↑x:Int)+(1:Int))) (dfl (Ty.st SN.term)))<=n/\allT ag (List.getD t.parts (Int.toNat ((↑x:Int)+(1:Int))) (dfl (Ty.st SN.term)))=true/\List.length e.values+(4096:Nat) *szT (List.getD t.parts (Int.toNat ((↑x:Int)+(1:Int))) (dfl (Ty.st SN.term)))<=(100000000:Nat))/\if(!decide ((au (aa n) (List.getD t.parts (Int.toNat ((↑x:Int)+(1:Int))) (dfl (Ty.st SN.term))) (List.getD (aa n (List.getD t.parts (Int.toNat (0:Int)) (dfl (Ty.st SN.term))) e).1.parts (Int.toNat ((↑x:Int)+(1:Int)-(1:Int))) (dfl (Ty.st SN.shape))) e).err=(0:Int)))=true then True/\(aa n (List.getD t.parts (Int.toNat (0:Int)) (dfl (Ty.st SN.term))) e).1=(aR (aa n) t e).1/\(au (aa n) (List.getD t.parts (Int.toNat ((↑x:Int)+(1:Int))) (dfl (Ty.st SN.term))) (List.getD (aa n (List.getD t.parts (Int.toNat (0:Int)) (dfl (Ty.st SN.term))) e).1.parts (Int.toNat ((↑x:Int)+(1:Int)-(1:Int))) (dfl (Ty.st SN.shape))) e).err=(aR (aa n) t e).2.err/\(au (aa n) (List.getD t.parts (Int.toNat ((↑x:Int)+(1:Int))) (dfl (Ty.st SN.term))) (List.getD (aa n (List.getD t.parts (Int.toNat (0:Int)) (dfl (Ty.st SN.term))) e).1.parts (Int.toNat ((↑x:Int)+(1:Int)-(1:Int))) (dfl (Ty.st SN.shape))) e).pos=(aR (aa n) t e).2.pos/\True else inR IntKind.i64 ((↑x:Int)+(1:Int)+(1:Int))/\∃(y:Nat),(y+(1:Nat)<=List.length t.parts/\((aa n (List.getD t.parts (0:Nat) ao) e).1.kind=(4:Int)->b6 (aa n) e (ofK (4:Int)) (List.drop (1:Nat) t.parts)=b6 (aa n) e (ofK (4:Int)) (List.drop (y+(1:Nat)) t.parts))/\(¬(aa n (List.getD t.parts (0:Nat) ao) e).1.kind=(4:Int)->cv (aa n) e (List.drop (1:Nat) t.parts) (aa n (List.getD t.parts (0:Nat) ao) e).1.parts=cv (aa n) e (List.drop (y+(1:Nat)) t.parts) (List.drop y (aa n (List.getD t.parts (0:Nat) ao) e).1.parts)))/\List.length t.parts-y<List.length t.parts-x/\(↑x:Int)+(1:Int)+(1:Int)=(↑y:Int)+(1:Int)/\t=t/\e=e/\false=false/\false=false/\t=t/\e=e/\(0:Int)=(0:Int)/\an UInt8=an UInt8/\an UInt8=an UInt8/\(0:Int)=(0:Int)/\(0:Int)=(0:Int)/\(aa n (List.getD t.parts (Int.toNat (0:Int)) (dfl (Ty.st SN.term))) e).1=(aa n (List.getD t.parts (Int.toNat (0:Int)) (dfl (Ty.st SN.term))) e).1/\(aa n (List.getD t.parts (Int.toNat (0:Int)) (dfl (Ty.st SN.term))) e).2.err=(aa n (List.getD t.parts (Int.toNat (0:Int)) (dfl (Ty.st SN.term))) e).2.err/\(aa n (List.getD t.parts (Int.toNat (0:Int)) (dfl (Ty.st SN.term))) e).2.pos=(aa n (List.getD t.parts (Int.toNat (0:Int)) (dfl (Ty.st SN.term))) e).2.pos/\True else((0:Int)<=(↑x:Int)+(1:Int)/\(↑x:Int)+(1:Int)<(↑(List.length t.parts):Int))/\(szT (List.getD t.parts (Int.toNat ((↑x:Int)+(1:Int))) (dfl (Ty.st SN.term)))<=n/\allT ag (List.getD t.parts (Int.toNat ((↑x:Int)+(1:Int))) (dfl (Ty.st SN.term)))=true/\List.length e.values+(4096:Nat) *szT (List.getD t.parts (Int.toNat ((↑x:Int)+(1:Int))) (dfl (Ty.st SN.term)))<=(100000000:Nat))/\if(!decide ((au (aa n) (List.getD t.parts (Int.toNat ((↑x:Int)+(1:Int))) (dfl (Ty.st SN.term))) {kind:=(4:Int),pkg:=[],name:=[],names:=[],parts:=[]:Shape} e).err=(0:Int)))=true then True/\(aa n (List.getD t.parts (Int.toNat (0:Int)) (dfl (Ty.st SN.term))) e).1=(aR (aa n) t e).1
  /\(au (aa n) (List.getD t.parts (Int.toNat ((↑x:Int)+(1:Int))) (dfl (Ty.st SN.term))) {kind:=(4:Int),pkg:=[],name:=[],names:=[],parts:=[]:Shape} e).err=(aR (aa n) t e).2.err/\(au (aa n) (List.getD t.parts (Int.toNat ((↑x:Int)+(1:Int))) (dfl (Ty.st SN.term))) {kind:=(4:Int),pkg:=[],name:=[],names:=[],parts:=[]:Shape} e).pos=(aR (aa n) t e).2.pos/\True else inR IntKind.i64 ((↑x:Int)+(1:Int)+(1:Int))/\∃(y:Nat),(y+(1:Nat)<=List.length t.parts/\((aa n (List.getD t.parts (0:Nat) ao) e).1.kind=(4:Int)->b6 (aa n) e (ofK (4:Int)) (List.drop (1:Nat) t.parts)=b6 (aa n) e (ofK (4:Int)) (List.drop (y+(1:Nat)) t.parts))/\(¬(aa n (List.getD t.parts (0:Nat) ao) e).1.kind=(4:Int)->cv (aa n) e (List.drop (1:Nat) t.parts) (aa n (List.getD t.parts (0:Nat) ao) e).1.parts=cv (aa n) e (List.drop (y+(1:Nat)) t.parts) (List.drop y (aa n (List.getD t.parts (0:Nat) ao) e).1.parts)))/\List.length t.parts-y<List.length t.parts-x/\(↑x:Int)+(1:Int)+(1:Int)=(↑y:Int)+(1:Int)/\t=t/\e=e/\false=false/\false=false/\t=t/\e=e/\(0:Int)=(0:Int)/\an UInt8=an UInt8/\an UInt8=an UInt8/\(0:Int)=(0:Int)/\(0:Int)=(0:Int)/\(aa n (List.getD t.parts (Int.toNat (0:Int)) (dfl (Ty.st SN.term))) e).1=(aa n (List.getD t.parts (Int.toNat (0:Int)) (dfl (Ty.st SN.term))) e).1/\(aa n (List.getD t.parts (Int.toNat (0:Int)) (dfl (Ty.st SN.term))) e).2.err=(aa n (List.getD t.parts (Int.toNat (0:Int)) (dfl (Ty.st SN.term))) e).2.err/\(aa n (List.getD t.parts (Int.toNat (0:Int)) (dfl (Ty.st SN.term))) e).2.pos=(aa n (List.getD t.parts (Int.toNat (0:Int)) (dfl (Ty.st SN.term))) e).2.pos/\True else if decide ((aa n (List.getD t.parts (Int.toNat (0:Int)) (dfl (Ty.st SN.term))) e).1.kind=(8:Int))=true then inR IntKind.i64 ((↑(List.length (aa n (List.getD t.parts (Int.toNat (0:Int)) (dfl (Ty.st SN.term))) e).1.parts):Int)-(1:Int))/\((0:Int)<=(↑(List.length (aa n (List.getD t.parts (Int.toNat (0:Int)) (dfl (Ty.st SN.term))) e).1.parts):Int)-(1:Int)/\(↑(List.length (aa n (List.getD t.parts (Int.toNat (0:Int)) (dfl (Ty.st SN.term))) e).1.parts):Int)-(1:Int)<(↑(List.length (aa n (List.getD t.parts (Int.toNat (0:Int)) (dfl (Ty.st SN.term))) e).1.parts):Int))/\True/\List.getD (aa n (List.getD t.parts (Int.toNat (0:Int)) (dfl (Ty.st SN.term))) e).1.parts (Int.toNat ((↑(List.length (aa n (List.getD t.parts (Int.toNat (0:Int)) (dfl (Ty.st SN.term))) e).1.parts):Int)-(1:Int))) (dfl (Ty.st SN.shape))=(aR (aa n) t e).1/\(0:Int)=(aR (aa n) t e).2.err/\(0:Int)=(aR (aa n) t e).2.pos/\True else True/\(aa n (List.getD t.parts (Int.toNat (0:Int)) (dfl (Ty.st SN.term))) e).1=(aR (aa n) t e).1/\(0:Int)=(aR (aa n) t e).2.err/\(0:Int)=(aR (aa n) t e).2.pos/\True else(∃(x:Nat),(x+(1:Nat)<=List.length t.parts/\((aa n (List.getD t.parts (0:Nat) ao) e).1.kind=(4:Int)->b6 (aa n) e (ofK (4:Int)) (List.drop (1:Nat) t.parts)=b6 (aa n) e (ofK (4:Int)) (List.drop (x+(1:Nat)) t.parts))/\(¬(aa n (List.getD t.parts (0:Nat) ao) e).1.kind=(4:Int)->cv (aa n) e (List.drop (1:Nat) t.parts) (aa n (List.getD t.parts (0:Nat) ao) e).1.parts=cv (aa n) e (List.drop (x+(1:Nat)) t.parts) (List.drop x (aa n (List.getD t.parts (0:Nat) ao) e).1.parts)))/\(1:Int)=(↑x:Int)+(1:Int)/\t=t/\e=e/\false=false/\false=false/\t=t/\e=e/\(0:Int)=(0:Int)/\an UInt8=an UInt8/\an UInt8=an UInt8/\(0:Int)=(0:Int)/\(0:Int)=(0:Int)
  /\(aa n (List.getD t.parts (Int.toNat (0:Int)) (dfl (Ty.st SN.term))) e).1=(aa n (List.getD t.parts (Int.toNat (0:Int)) (dfl (Ty.st SN.term))) e).1/\(aa n (List.getD t.parts (Int.toNat (0:Int)) (dfl (Ty.st SN.term))) e).2.err=(aa n (List.getD t.parts (Int.toNat (0:Int)) (dfl (Ty.st SN.term))) e).2.err/\(aa n (List.getD t.parts (Int.toNat (0:Int)) (dfl (Ty.st SN.term))) e).2.pos=(aa n (List.getD t.parts (Int.toNat (0:Int)) (dfl (Ty.st SN.term))) e).2.pos/\True)/\∀(x:Nat),x+(1:Nat)<=List.length t.parts/\((aa n (List.getD t.parts (0:Nat) ao) e).1.kind=(4:Int)->b6 (aa n) e (ofK (4:Int)) (List.drop (1:Nat) t.parts)=b6 (aa n) e (ofK (4:Int)) (List.drop (x+(1:Nat)) t.parts))/\(¬(aa n (List.getD t.parts (0:Nat) ao) e).1.kind=(4:Int)->cv (aa n) e (List.drop (1:Nat) t.parts) (aa n (List.getD t.parts (0:Nat) ao) e).1.parts=cv (aa n) e (List.drop (x+(1:Nat)) t.parts) (List.drop x (aa n (List.getD t.parts (0:Nat) ao) e).1.parts))->if decide ((↑x:Int)+(1:Int)<(↑(List.length t.parts):Int))=true then if decide ((aa n (List.getD t.parts (Int.toNat (0:Int)) (dfl (Ty.st SN.term))) e).1.kind=(8:Int))=true then inR IntKind.i64 ((↑x:Int)+(1:Int)-(1:Int))/\((0:Int)<=(↑x:Int)+(1:Int)-(1:Int)/\(↑x:Int)+(1:Int)-(1:Int)<(↑(List.length (aa n (List.getD t.parts (Int.toNat (0:Int)) (dfl (Ty.st SN.term))) e).1.parts):Int))/\((0:Int)<=(↑x:Int)+(1:Int)/\(↑x:Int)+(1:Int)<(↑(List.length t.parts):Int))/\(szT (List.getD t.parts (Int.toNat ((↑x:Int)+(1:Int))) (dfl (Ty.st SN.term)))<=n/\allT ag (List.getD t.parts (Int.toNat ((↑x:Int)+(1:Int))) (dfl (Ty.st SN.term)))=true/\List.length e.values+(4096:Nat) *szT (List.getD t.parts (Int.toNat ((↑x:Int)+(1:Int))) (dfl (Ty.st SN.term)))<=(100000000:Nat))/\if(!decide ((au (aa n) (List.getD t.parts (Int.toNat ((↑x:Int)+(1:Int))) (dfl (Ty.st SN.term))) (List.getD (aa n (List.getD t.parts (Int.toNat (0:Int)) (dfl (Ty.st SN.term))) e).1.parts (Int.toNat ((↑x:Int)+(1:Int)-(1:Int))) (dfl (Ty.st SN.shape))) e).err=(0:Int)))=true then True/\(aa n (List.getD t.parts (Int.toNat (0:Int)) (dfl (Ty.st SN.term))) e).1=(aR (aa n) t e).1/\(au (aa n) (List.getD t.parts (Int.toNat ((↑x:Int)+(1:Int))) (dfl (Ty.st SN.term))) (List.getD (aa n (List.getD t.parts (Int.toNat (0:Int)) (dfl (Ty.st SN.term))) e).1.parts (Int.toNat ((↑x:Int)+(1:Int)-(1:Int))) (dfl (Ty.st SN.shape))) e).err=(aR (aa n) t e).2.err/\(au (aa n) (List.getD t.parts (Int.toNat ((↑x:Int)+(1:Int))) (dfl (Ty.st SN.term))) (List.getD (aa n (List.getD t.parts (Int.toNat (0:Int)) (dfl (Ty.st SN.term))) e).1.parts (Int.toNat ((↑x:Int)+(1:Int)-(1:Int))) (dfl (Ty.st SN.shape))) e).pos=(aR (aa n) t e).2.pos/\True else inR IntKind.i64 ((↑x:Int)+(1:Int)+(1:Int))/\∃(y:Nat),(y+(1:Nat)<=List.length t.parts/\((aa n (List.getD t.parts (0:Nat) ao) e).1.kind=(4:Int)->b6 (aa n) e (ofK (4:Int)) (List.drop (1:Nat) t.parts)=b6 (aa n) e (ofK (4:Int)) (List.drop (y+(1:Nat)) t.parts))/\(¬(aa n (List.getD t.parts (0:Nat) ao) e).1.kind=(4:Int)->cv (aa n) e (List.drop (1:Nat) t.parts) (aa n (List.getD t.parts (0:Nat) ao) e).1.parts=cv (aa n) e (List.drop (y+(1:Nat)) t.parts) (List.drop y (aa n (List.getD t.parts (0:Nat) ao) e).1.parts)))/\List.length t.parts-y<List.length t.parts-x/\(↑x:Int)+(1:Int)+(1:Int)=(↑y:Int)+(1:Int)/\t=t/\e=e/\false=false/\false=false/\t=t/\e=e/\(0:Int)=(0:Int)/\an UInt8=an UInt8/\an UInt8=an UInt8/\(0:Int)=(0:Int)/\(0:Int)=(0:Int)
  /\(aa n (List.getD t.parts (Int.toNat (0:Int)) (dfl (Ty.st SN.term))) e).1=(aa n (List.getD t.parts (Int.toNat (0:Int)) (dfl (Ty.st SN.term))) e).1/\(aa n (List.getD t.parts (Int.toNat (0:Int)) (dfl (Ty.st SN.term))) e).2.err=(aa n (List.getD t.parts (Int.toNat (0:Int)) (dfl (Ty.st SN.term))) e).2.err/\(aa n (List.getD t.parts (Int.toNat (0:Int)) (dfl (Ty.st SN.term))) e).2.pos=(aa n (List.getD t.parts (Int.toNat (0:Int)) (dfl (Ty.st SN.term))) e).2.pos/\True else((0:Int)<=(↑x:Int)+(1:Int)/\(↑x:Int)+(1:Int)<(↑(List.length t.parts):Int))/\(szT (List.getD t.parts (Int.toNat ((↑x:Int)+(1:Int))) (dfl (Ty.st SN.term)))<=n/\allT ag (List.getD t.parts (Int.toNat ((↑x:Int)+(1:Int))) (dfl (Ty.st SN.term)))=true/\List.length e.values+(4096:Nat) *szT (List.getD t.parts (Int.toNat ((↑x:Int)+(1:Int))) (dfl (Ty.st SN.term)))<=(100000000:Nat))/\if(!decide ((au (aa n) (List.getD t.parts (Int.toNat ((↑x:Int)+(1:Int))) (dfl (Ty.st SN.term))) {kind:=(4:Int),pkg:=[],name:=[],names:=[],parts:=[]:Shape} e).err=(0:Int)))=true then True/\(aa n (List.getD t.parts (Int.toNat (0:Int)) (dfl (Ty.st SN.term))) e).1=(aR (aa n) t e).1/\(au (aa n) (List.getD t.parts (Int.toNat ((↑x:Int)+(1:Int))) (dfl (Ty.st SN.term))) {kind:=(4:Int),pkg:=[],name:=[],names:=[],parts:=[]:Shape} e).err=(aR (aa n) t e).2.err/\(au (aa n) (List.getD t.parts (Int.toNat ((↑x:Int)+(1:Int))) (dfl (Ty.st SN.term))) {kind:=(4:Int),pkg:=[],name:=[],names:=[],parts:=[]:Shape} e).pos=(aR (aa n) t e).2.pos/\True else inR IntKind.i64 ((↑x:Int)+(1:Int)+(1:Int))/\∃(y:Nat),(y+(1:Nat)<=List.length t.parts/\((aa n (List.getD t.parts (0:Nat) ao) e).1.kind=(4:Int)->b6 (aa n) e (ofK (4:Int)) (List.drop (1:Nat) t.parts)=b6 (aa n) e (ofK (4:Int)) (List.drop (y+(1:Nat)) t.parts))/\(¬(aa n (List.getD t.parts (0:Nat) ao) e).1.kind=(4:Int)->cv (aa n) e (List.drop (1:Nat) t.parts) (aa n (List.getD t.parts (0:Nat) ao) e).1.parts=cv (aa n) e (List.drop (y+(1:Nat)) t.parts) (List.drop y (aa n (List.getD t.parts (0:Nat) ao) e).1.parts)))/\List.length t.parts-y<List.length t.parts-x/\(↑x:Int)+(1:Int)+(1:Int)=(↑y:Int)+(1:Int)/\t=t/\e=e/\false=false/\false=false/\t=t/\e=e/\(0:Int)=(0:Int)/\an UInt8=an UInt8/\an UInt8=an UInt8/\(0:Int)=(0:Int)/\(0:Int)=(0:Int)/\(aa n (List.getD t.parts (Int.toNat (0:Int)) (dfl (Ty.st SN.term))) e).1=(aa n (List.getD t.parts (Int.toNat (0:Int)) (dfl (Ty.st SN.term))) e).1/\(aa n (List.getD t.parts (Int.toNat (0:Int)) (dfl (Ty.st SN.term))) e).2.err=(aa n (List.getD t.parts (Int.toNat (0:Int)) (dfl (Ty.st SN.term))) e).2.err/\(aa n (List.getD t.parts (Int.toNat (0:Int)) (dfl (Ty.st SN.term))) e).2.pos=(aa n (List.getD t.parts (Int.toNat (0:Int)) (dfl (Ty.st SN.term))) e).2.pos/\True else if decide ((aa n (List.getD t.parts (Int.toNat (0:Int)) (dfl (Ty.st SN.term))) e).1.kind=(8:Int))=true then inR IntKind.i64 ((↑(List.length (aa n (List.getD t.parts (Int.toNat (0:Int)) (dfl (Ty.st SN.term))) e).1.parts):Int)-(1:Int))/\((0:Int)<=(↑(List.length (aa n (List.getD t.parts (Int.toNat (0:Int)) (dfl (Ty.st SN.term))) e).1.parts):Int)-(1:Int)/\(↑(List.length (aa n (List.getD t.parts (Int.toNat (0:Int)) (dfl (Ty.st SN.term))) e).1.parts):Int)-(1:Int)<(↑(List.length (aa n (List.getD t.parts (Int.toNat (0:Int)) (dfl (Ty.st SN.term))) e).1.parts):Int))/\True
  /\List.getD (aa n (List.getD t.parts (Int.toNat (0:Int)) (dfl (Ty.st SN.term))) e).1.parts (Int.toNat ((↑(List.length (aa n (List.getD t.parts (Int.toNat (0:Int)) (dfl (Ty.st SN.term))) e).1.parts):Int)-(1:Int))) (dfl (Ty.st SN.shape))=(aR (aa n) t e).1/\(0:Int)=(aR (aa n) t e).2.err/\(0:Int)=(aR (aa n) t e).2.pos/\True else True/\(aa n (List.getD t.parts (Int.toNat (0:Int)) (dfl (Ty.st SN.term))) e).1=(aR (aa n) t e).1/\(0:Int)=(aR (aa n) t e).2.err/\(0:Int)=(aR (aa n) t e).2.pos/\True:=by
 have p0:=jw hz hf hv (dfl (.st .term)) hp (Nat.le_add_right _ _);have ln:=ht.term_parts.len;rw[show t.parts.getD (Int.toNat 0) (dfl (.st .term))=t.parts.getD 0 ao from rfl];have ex:∀k:Nat,((k:Int)+1).toNat=k+1:=fun k=>by omega
 have ey:∀k:Nat,((k:Int)+1-1).toNat=k:=fun k=>by omega
 have ez:∀k:Nat,(k:Int)+1-1=(k:Int):=fun k=>by omega
 simp only[ex,ey,ez,Int.toNat_natCast,eq_self,true_and,and_true];have hC0:¬(aa n (t.parts.getD 0 ao) e).2.err=0->aR (aa n) t e=aa n (t.parts.getD 0 ao) e:=fun h=>by simp only[aR,if_neg h]
 have hC4:(aa n (t.parts.getD 0 ao) e).2.err=0->(aa n (t.parts.getD 0 ao) e).1.kind=4->aR (aa n) t e=if(b6 (aa n) e (ofK 4) (t.parts.drop 1)).err=0 then((aa n (t.parts.getD 0 ao) e).1,cb)else((aa n (t.parts.getD 0 ao) e).1,b6 (aa n) e (ofK 4) (t.parts.drop 1)):=fun h k=>by simp only[aR,if_pos h,if_pos k]
 have hC8:(aa n (t.parts.getD 0 ao) e).2.err=0->¬(aa n (t.parts.getD 0 ao) e).1.kind=4->(aa n (t.parts.getD 0 ao) e).1.kind=8/\(aa n (t.parts.getD 0 ao) e).1.parts.length=t.parts.length->aR (aa n) t e=if(cv (aa n) e (t.parts.drop 1) (aa n (t.parts.getD 0 ao) e).1.parts).err=0 then((aa n (t.parts.getD 0 ao) e).1.parts.getD ((aa n (t.parts.getD 0 ao) e).1.parts.length-1) al,cb)else((aa n (t.parts.getD 0 ao) e).1,cv (aa n) e (t.parts.drop 1) (aa n (t.parts.getD 0 ao) e).1.parts):=fun h k g=>by simp only[aR,if_pos h,if_neg k,if_pos g]
 have hC9:(aa n (t.parts.getD 0 ao) e).2.err=0->¬(aa n (t.parts.getD 0 ao) e).1.kind=4->¬((aa n (t.parts.getD 0 ao) e).1.kind=8/\(aa n (t.parts.getD 0 ao) e).1.parts.length=t.parts.length)->aR (aa n) t e=((aa n (t.parts.getD 0 ao) e).1,⟨140,t.pos⟩):=fun h k g=>by simp only[aR,if_pos h,if_neg k,if_neg g]
 revert hC0 hC4 hC8 hC9;generalize aR (aa n) t e=R;generalize aa n (t.parts.getD 0 ao) e=r;intro hC0 hC4 hC8 hC9;refine⟨by omega,p0,ab (fun h=>?_) (fun h=>?_)⟩
 ·rw[hC0 (ndF h)];exact⟨rfl,rfl,rfl⟩
 have h:=ndT h;have nx:∀{k:Nat},k+1<t.parts.length->szT (t.parts.getD (k+1) (dfl (.st .term)))<=n/\allT ag (t.parts.getD (k+1) (dfl (.st .term)))=true/\e.values.length+4096 *szT (t.parts.getD (k+1) (dfl (.st .term)))<=100000000:=fun hk=>jw hz hf hv _ hk (Nat.le_add_right _ _);refine ab (fun k4=>?_) (fun k4=>?_)
 ·have k4:¬r.1.kind=4:=ndF k4;refine ab (fun k8=>?_) (fun k8=>ab (fun kl=>?_) (fun kl=>?_))
  ·rw[hC9 h k4 (fun q=>ndF k8 q.1)];exact⟨rfl,rfl,rfl⟩
  ·rw[hC9 h k4 (fun q=>ndF kl (by omega))];exact⟨rfl,rfl,rfl⟩
  have k8:r.1.kind=8:=ndT k8;have kl:r.1.parts.length=t.parts.length:=by have:=ndT kl;omega
  have hR:=hC8 h k4 ⟨k8,kl⟩;refine⟨⟨0,⟨by omega,fun _=>rfl,fun _=>by rw[List.drop_zero]⟩,rfl⟩,?_⟩;rintro k ⟨h1,h2,h3⟩;have h3:=h3 k4;refine ab (fun c=>?_) (fun c=>?_)
  ·have c:=Xo c;have hk:k+1<t.parts.length:=by omega
   rw[aA t.parts (k+1) (dfl (.st .term)) hk,aA r.1.parts k (dfl (.st .shape)) (by omega)]at h3;simp only[cv]at h3;refine ab (fun _=>?_) (fun q=>absurd (Xd k8) q);refine⟨b8 (by omega) (by omega),by omega,by omega,nx hk,ab (fun f=>?_) (fun f=>?_)⟩
   ·have f:=ndF f;rw[if_neg f]at h3;rw[hR,h3,if_neg f];exact⟨rfl,rfl,rfl⟩
   ·have f:=ndT f;rw[if_pos f]at h3;exact⟨b8 (by omega) (by omega),k+1,⟨by omega,fun q=>absurd q k4,fun _=>h3⟩,by omega,by omega⟩
  ·have c:¬((k:Int)+1<(t.parts.length:Int)):=fun q=>c (Xd q);have hk:k+1=t.parts.length:=by omega
   rw[hk,List.drop_length]at h3;simp only[cv]at h3;refine ab (fun _=>?_) (fun q=>absurd (Xd k8) q);have ei:((r.1.parts.length:Int)-1).toNat=r.1.parts.length-1:=by omega
   rw[hR,h3,ei];exact⟨b8 (by omega) (by omega),by omega,rfl,rfl,rfl⟩
 ·have k4:r.1.kind=4:=ndT k4;have k8:¬decide (r.1.kind=8)=true:=fun q=>by have:=Xo q;omega
  have hR:=hC4 h k4;refine⟨⟨0,⟨by omega,fun _=>rfl,fun _=>by rw[List.drop_zero]⟩,rfl⟩,?_⟩;rintro k ⟨h1,h2,h3⟩;have h2:=h2 k4;refine ab (fun c=>?_) (fun c=>?_)
  ·have c:=Xo c;have hk:k+1<t.parts.length:=by omega
   rw[aA t.parts (k+1) (dfl (.st .term)) hk]at h2;simp only[b6]at h2;refine ab (fun q=>absurd q k8) (fun _=>?_);refine⟨by omega,nx hk,ab (fun f=>?_) (fun f=>?_)⟩
   ·have f:¬(au (aa n) (t.parts.getD (k+1) (dfl (.st .term))) (ofK 4) e).err=0:=ndF f;rw[if_neg f]at h2;rw[hR,h2,if_neg f];exact⟨rfl,rfl,rfl⟩
   ·have f:(au (aa n) (t.parts.getD (k+1) (dfl (.st .term))) (ofK 4) e).err=0:=ndT f;rw[if_pos f]at h2;exact⟨b8 (by omega) (by omega),k+1,⟨by omega,fun _=>h2,fun q=>absurd k4 q⟩,by omega,by omega⟩
  ·have c:¬((k:Int)+1<(t.parts.length:Int)):=fun q=>c (Xd q);have hk:k+1=t.parts.length:=by omega
   rw[hk,List.drop_length]at h2;refine ab (fun q=>absurd q k8) (fun _=>?_);rw[hR,h2];exact⟨rfl,rfl,rfl⟩
theorem D7(n:Nat)(t:Trm)(e:Envt)(ht:Wf (.st .term) t)(he:Wf (.st .env) e)(hp:0<t.parts.length)(hz:szT t<=n+1)(hf:allT ag t=true)(hv:e.values.length+4096 *szT t<=100000000) :
  inR IntKind.i64 ((↑(List.length e.own):Int)-(1:Int))/\(∃(x:Nat),(x<=List.length e.own/\ck e.own t.name=ck (List.take x e.own) t.name)/\(↑(List.length e.own):Int)-(1:Int)=(↑x:Int)-(1:Int)/\t=t/\e=e/\t=t/\e=e/\(0:Int)=(0:Int)/\an UInt8=an UInt8/\an UInt8=an UInt8/\(0:Int)=(0:Int)/\(0:Int)=(0:Int)/\(10:Int)=(10:Int)/\e.self=e.self/\t.name=t.name/\True)/\∀(x:Nat),x<=List.length e.own/\ck e.own t.name=ck (List.take x e.own) t.name->if decide ((0:Int)<=(↑x:Int)-(1:Int))=true then((0:Int)<=(↑x:Int)-(1:Int)/\(↑x:Int)-(1:Int)<(↑(List.length e.own):Int))/\if(!decide ((List.getD e.own (Int.toNat ((↑x:Int)-(1:Int))) (dfl (Ty.st SN.bind))).name=t.name))=true then inR IntKind.i64 ((↑x:Int)-(1:Int)-(1:Int))/\∃(y:Nat),(y<=List.length e.own/\ck e.own t.name=ck (List.take y e.own) t.name)/\y<x/\(↑x:Int)-(1:Int)-(1:Int)=(↑y:Int)-(1:Int)/\t=t/\e=e/\t=t/\e=e/\(0:Int)=(0:Int)/\an UInt8=an UInt8/\an UInt8=an UInt8/\(0:Int)=(0:Int)/\(0:Int)=(0:Int)/\(10:Int)=(10:Int)/\e.self=e.self/\t.name=t.name/\True else if decide (t.kind=(16:Int))=true then((0:Int)<=(0:Int)/\(0:Int)<(↑(List.length t.parts):Int))/\((0:Int)<=(↑x:Int)-(1:Int)/\(↑x:Int)-(1:Int)<(↑(List.length e.own):Int))/\(szT (List.getD t.parts (Int.toNat (0:Int)) (dfl (Ty.st SN.term)))<=n/\allT ag (List.getD t.parts (Int.toNat (0:Int)) (dfl (Ty.st SN.term)))=true/\List.length e.values+(4096:Nat) *szT (List.getD t.parts (Int.toNat (0:Int)) (dfl (Ty.st SN.term)))<=(100000000:Nat))/\True/\(10:Int)=(cI (aa n) t e).1.kind/\e.self=(cI (aa n) t e).1.pkg/\t.name=(cI (aa n) t e).1.name/\(cI (aa n) t e).1.names=[]/\(cI (aa n) t e).1.parts=[]/\(au (aa n) (List.getD t.parts (Int.toNat (0:Int)) (dfl (Ty.st SN.term))) (List.getD e.own (Int.toNat ((↑x:Int)-(1:Int))) (dfl (Ty.st SN.bind))).shape e).err=(cI (aa n) t e).2.err/\(au (aa n) (List.getD t.parts (Int.toNat (0:Int)) (dfl (Ty.st SN.term))) (List.getD e.own (Int.toNat ((↑x:Int)-(1:Int))) (dfl (Ty.st SN.bind))).shape e).pos=(cI (aa n) t e).2.pos/\True else((0:Int)<=(↑x:Int)-(1:Int)/\(↑x:Int)-(1:Int)<(↑(List.length e.own):Int))/\((0:Int)<=(0:Int)/\(0:Int)<(↑(List.length t.parts):Int))/\(szT (List.getD t.parts (Int.toNat (0:Int)) (dfl (Ty.st SN.term)))<=n/\allT ag (List.getD t.parts (Int.toNat (0:Int)) (dfl (Ty.st SN.term)))=true/\List.length e.values+(4096:Nat) *szT (List.getD t.parts (Int.toNat (0:Int)) (dfl (Ty.st SN.term)))<=(100000000:Nat))/\True/\(List.getD e.own (Int.toNat ((↑x:Int)-(1:Int))) (dfl (Ty.st SN.bind))).shape=(cI (aa n) t e).1/\(au (aa n) (List.getD t.parts (Int.toNat (0:Int)) (dfl (Ty.st SN.term))) {kind:=(10:Int),pkg:=e.self,name:=t.name,names:=[],parts:=[]:Shape} e).err=(cI (aa n) t e).2.err/\(au (aa n) (List.getD t.parts (Int.toNat (0:Int)) (dfl (Ty.st SN.term))) {kind:=(10:Int),pkg:=e.self,name:=t.name,names:=[],parts:=[]:Shape} e).pos=(cI (aa n) t e).2.pos/\True else True/\(10:Int)=(cI (aa n) t e).1.kind/\e.self=(cI (aa n) t e).1.pkg/\t.name=(cI (aa n) t e).1.name/\(cI (aa n) t e).1.names=[]/\(cI (aa n) t e).1.parts=[]/\(110:Int)=(cI (aa n) t e).2.err/\t.pos=(cI (aa n) t e).2.pos/\True:=by
 have ln:e.own.length<=9223372036854775807:=he.env_own.len;have ob:=jw hz hf hv (dfl (.st .term)) hp (Nat.le_add_right _ _);have e0:Int.toNat 0=0:=rfl;simp only[e0,eq_self,true_and,and_true];refine⟨b8 (by omega) (by omega),⟨e.own.length,⟨Nat.le_refl _,by rw[List.take_length]⟩,rfl⟩,?_⟩;rintro x ⟨h1,h2⟩;refine ab (fun h=>?_) (fun h=>?_)
 ·have h:=Xo h;obtain⟨k,rfl⟩:∃k,x=k+1:=⟨x-1,by omega⟩;have e1:(((k+1:Nat):Int)-1)=(k:Int):=by omega
  rw[qB e.own t.name (dfl (.st .bind)) (by omega)]at h2;simp only[e1,Int.toNat_natCast];refine⟨by omega,ab (fun c=>?_) (fun c=>?_)⟩
  ·rw[if_neg (ndF c)]at h2;exact⟨b8 (by omega) (by omega),k,⟨by omega,h2⟩,by omega,rfl⟩
  ·rw[if_pos (ndT c)]at h2;rw[rr h2];refine ab (fun k16=>?_) (fun k16=>?_)
   ·rw[if_pos (Xo k16)];exact⟨by omega,by omega,ob,rfl,rfl,rfl,rfl,rfl,rfl,rfl⟩
   ·rw[if_neg (fun g=>k16 (Xd g))];exact⟨by omega,by omega,ob,rfl,rfl,rfl⟩
 ·have h:¬(0:Int)<=(x:Int)-1:=fun g=>h (Xd g);obtain rfl:x=0:=by omega
  rw[rq (show ck e.own t.name=none from h2)];exact⟨rfl,rfl,rfl,rfl,rfl,rfl,rfl⟩
end Go.AL.Seat
end
section
open Go Go.AL Go.Pd
namespace Go.AL.Seat
set_option maxHeartbeats 1000000
theorem xl(n:Nat)(t:Trm)(e:Envt)(ht:Wf (.st .term) t)(he:Wf (.st .env) e)(hk:t.kind=6∨t.kind=11∨t.kind=12∨t.kind=13∨t.kind=15)(hz:szT t<=n+1)(hf:allT ag t=true)(hv:e.values.length+4096 *szT t<=100000000) :
  (∃(x:Nat×List Shape),(x.1<=List.length t.shapes/\List.length x.2=x.1/\((ae e.types t.pos (List.drop x.1 t.shapes)).2.err=(0:Int)->ae e.types t.pos t.shapes=(x.2++(ae e.types t.pos (List.drop x.1 t.shapes)).1,cb))/\(¬(ae e.types t.pos (List.drop x.1 t.shapes)).2.err=(0:Int)->ae e.types t.pos t.shapes=ae e.types t.pos (List.drop x.1 t.shapes)))/\(0:Int)=(↑x.1:Int)/\x.2=[]/\t=t/\e=e/\List.length x.2=(0:Nat)/\t=t/\e=e/\(0:Int)=(0:Int)/\an UInt8=an UInt8/\an UInt8=an UInt8/\(0:Int)=(0:Int)/\(0:Int)=(0:Int)/\True)/\∀(x:Nat×List Shape),x.1<=List.length t.shapes/\List.length x.2=x.1/\((ae e.types t.pos (List.drop x.1 t.shapes)).2.err=(0:Int)->ae e.types t.pos t.shapes=(x.2++(ae e.types t.pos (List.drop x.1 t.shapes)).1,cb))/\(¬(ae e.types t.pos (List.drop x.1 t.shapes)).2.err=(0:Int)->ae e.types t.pos t.shapes=ae e.types t.pos (List.drop x.1 t.shapes))->if decide ((↑x.1:Int)<(↑(List.length t.shapes):Int))=true then((0:Int)<=(↑x.1:Int)/\(↑x.1:Int)<(↑(List.length t.shapes):Int))/\if(!decide ((aq (List.getD t.shapes (Int.toNat (↑x.1:Int)) (dfl (Ty.st SN.shape))) e.types).2=(0:Int)))=true then True/\(aq (List.getD t.shapes (Int.toNat (↑x.1:Int)) (dfl (Ty.st SN.shape))) e.types).1=(ar (aa n) t e).1/\(aq (List.getD t.shapes (Int.toNat (↑x.1:Int)) (dfl (Ty.st SN.shape))) e.types).2=(ar (aa n) t e).2.err/\t.pos=(ar (aa n) t e).2.pos/\True else(List.length x.2=List.length x.2/\(List.length x.2+List.length [(aq (List.getD t.shapes (Int.toNat (↑x.1:Int)) (dfl (Ty.st SN.shape))) e.types).1]) *(88:Nat)<=(140737488355328:Nat))/\inR IntKind.i64 ((↑x.1:Int)+(1:Int))/\∃(y:Nat×List Shape),(y.1<=List.length t.shapes/\List.length y.2=y.1/\((ae e.types t.pos (List.drop y.1 t.shapes)).2.err=(0:Int)->ae e.types t.pos t.shapes=(y.2++(ae e.types t.pos (List.drop y.1 t.shapes)).1,cb))/\(¬(ae e.types t.pos (List.drop y.1 t.shapes)).2.err=(0:Int)->ae e.types t.pos t.shapes=ae e.types t.pos (List.drop y.1 t.shapes)))/\List.length t.shapes-y.1<List.length t.shapes-x.1/\(↑x.1:Int)+(1:Int)=(↑y.1:Int)/\x.2++[(aq (List.getD t.shapes (Int.toNat (↑x.1:Int)) (dfl (Ty.st SN.shape))) e.types).1]=y.2/\t=t/\e=e/\List.length (x.2++[(aq (List.getD t.shapes (Int.toNat (↑x.1:Int)) (dfl (Ty.st SN.shape))) e.types).1])=List.length y.2/\t=t/\e=e/\(0:Int)=(0:Int)/\an UInt8=an UInt8/\an UInt8=an UInt8/\(0:Int)=(0:Int)/\(0:Int)=(0:Int)/\True else if decide (t.kind=(6:Int))=true then(∃(x_1:Nat×Envt),(x_1.1<=List.length t.names/\List.length x_1.2.values=List.length e.values+x_1.1/\bk x_1.2 (cD (List.drop x_1.1 t.names) (List.drop x_1.1 (ae e.types t.pos t.shapes).1))=bk e (cD t.names (ae e.types t.pos t.shapes).1))/\(0:Int)=(↑x_1.1:Int)/\(↑x.1:Int)=(↑x.1:Int)/\x.2=x.2/\t=t/\e=e/\false=false/\(↑(List.length t.names):Int)=(↑(List.length t.names):Int)/\t.kind=t.kind/\true=true/\e=x_1.2/\List.length x.2=List.length x.2/\t=t/\e=e/\(0:Int)=(0:Int)/\an UInt8=an UInt8/\an UInt8=an UInt8/\(0:Int)=(0:Int)/\(0:Int)=(0:Int)/\True)/\∀(x_1:Nat×Envt),x_1.1<=List.length t.names/\List.length x_1.2.values=List.length e.values+x_1.1
  /\bk x_1.2 (cD (List.drop x_1.1 t.names) (List.drop x_1.1 (ae e.types t.pos t.shapes).1))=bk e (cD t.names (ae e.types t.pos t.shapes).1)->if decide ((↑x_1.1:Int)<(↑(List.length t.names):Int))=true then((0:Int)<=(↑x_1.1:Int)/\(↑x_1.1:Int)<(↑(List.length t.names):Int))/\((0:Int)<=(↑x_1.1:Int)/\(↑x_1.1:Int)<(↑(List.length x.2):Int))/\List.length x_1.2.values<=(1000000000:Nat)/\inR IntKind.i64 ((↑x_1.1:Int)+(1:Int))/\∃(y:Nat×Envt),(y.1<=List.length t.names/\List.length y.2.values=List.length e.values+y.1/\bk y.2 (cD (List.drop y.1 t.names) (List.drop y.1 (ae e.types t.pos t.shapes).1))=bk e (cD t.names (ae e.types t.pos t.shapes).1))/\List.length t.names-y.1<List.length t.names-x_1.1/\(↑x_1.1:Int)+(1:Int)=(↑y.1:Int)/\(↑x.1:Int)=(↑x.1:Int)/\x.2=x.2/\t=t/\e=e/\false=false/\(↑(List.length t.names):Int)=(↑(List.length t.names):Int)/\t.kind=t.kind/\true=true/\bk x_1.2 [{pkg:=[],name:=List.getD t.names (Int.toNat (↑x_1.1:Int)) (dfl Ty.str),shape:=AL.Shape.mk ((List.getD x.2 (Int.toNat (↑x_1.1:Int)) (dfl (Ty.st SN.shape))).kind) ((List.getD x.2 (Int.toNat (↑x_1.1:Int)) (dfl (Ty.st SN.shape))).pkg) ((List.getD x.2 (Int.toNat (↑x_1.1:Int)) (dfl (Ty.st SN.shape))).name) ((List.getD x.2 (Int.toNat (↑x_1.1:Int)) (dfl (Ty.st SN.shape))).names) ((List.getD x.2 (Int.toNat (↑x_1.1:Int)) (dfl (Ty.st SN.shape))).parts):Bndg}]=y.2/\List.length x.2=List.length x.2/\t=t/\e=e/\(0:Int)=(0:Int)/\an UInt8=an UInt8/\an UInt8=an UInt8/\(0:Int)=(0:Int)/\(0:Int)=(0:Int)/\True else((0:Int)<=(0:Int)/\(0:Int)<(↑(List.length t.parts):Int))/\(szT (List.getD t.parts (Int.toNat (0:Int)) (dfl (Ty.st SN.term)))<=n/\allT ag (List.getD t.parts (Int.toNat (0:Int)) (dfl (Ty.st SN.term)))=true/\List.length x_1.2.values+(4096:Nat) *szT (List.getD t.parts (Int.toNat (0:Int)) (dfl (Ty.st SN.term)))<=(100000000:Nat))/\(List.length x.2=List.length x.2/\(List.length x.2+List.length [(aa n (List.getD t.parts (Int.toNat (0:Int)) (dfl (Ty.st SN.term))) x_1.2).1]) *(88:Nat)<=(140737488355328:Nat))/\True/\(8:Int)=(ar (aa n) t e).1.kind/\[]=(ar (aa n) t e).1.pkg/\[]=(ar (aa n) t e).1.name/\(ar (aa n) t e).1.names=[]/\x.2++[(aa n (List.getD t.parts (Int.toNat (0:Int)) (dfl (Ty.st SN.term))) x_1.2).1]=(ar (aa n) t e).1.parts/\(aa n (List.getD t.parts (Int.toNat (0:Int)) (dfl (Ty.st SN.term))) x_1.2).2.err=(ar (aa n) t e).2.err/\(aa n (List.getD t.parts (Int.toNat (0:Int)) (dfl (Ty.st SN.term))) x_1.2).2.pos=(ar (aa n) t e).2.pos/\True else if decide (t.kind=(11:Int))=true then(∃(x_1:Nat),(x_1<=List.length t.parts/\b6 (aa n) e (List.getD (ae e.types t.pos t.shapes).1 (0:Nat) al) (List.drop x_1 t.parts)=b6 (aa n) e (List.getD (ae e.types t.pos t.shapes).1 (0:Nat) al) t.parts)/\(0:Int)=(↑x_1:Int)/\(↑x.1:Int)=(↑x.1:Int)/\x.2=x.2/\t=t/\e=e/\false=false/\(↑(List.length t.names):Int)=(↑(List.length t.names):Int)/\t.kind=t.kind/\false=false/\true=true/\List.length x.2=List.length x.2/\t=t/\e=e/\(0:Int)=(0:Int)/\an UInt8=an UInt8/\an UInt8=an UInt8/\(0:Int)=(0:Int)/\(0:Int)=(0:Int)/\True)/\∀(x_1:Nat),x_1<=List.length t.parts/\b6 (aa n) e (List.getD (ae e.types t.pos t.shapes).1 (0:Nat) al) (List.drop x_1 t.parts)=b6 (aa n) e (List.getD (ae e.types t.pos t.shapes).1 (0:Nat) al) t.parts->if decide ((↑x_1:Int)<(↑(List.length t.parts):Int))=true then((0:Int)<=(↑x_1:Int)
  /\(↑x_1:Int)<(↑(List.length t.parts):Int))/\((0:Int)<=(0:Int)/\(0:Int)<(↑(List.length x.2):Int))/\(szT (List.getD t.parts (Int.toNat (↑x_1:Int)) (dfl (Ty.st SN.term)))<=n/\allT ag (List.getD t.parts (Int.toNat (↑x_1:Int)) (dfl (Ty.st SN.term)))=true/\List.length e.values+(4096:Nat) *szT (List.getD t.parts (Int.toNat (↑x_1:Int)) (dfl (Ty.st SN.term)))<=(100000000:Nat))/\if(!decide ((au (aa n) (List.getD t.parts (Int.toNat (↑x_1:Int)) (dfl (Ty.st SN.term))) (List.getD x.2 (Int.toNat (0:Int)) (dfl (Ty.st SN.shape))) e).err=(0:Int)))=true then((0:Int)<=(0:Int)/\(0:Int)<(↑(List.length x.2):Int))/\True/\List.getD x.2 (Int.toNat (0:Int)) (dfl (Ty.st SN.shape))=(ar (aa n) t e).1/\(au (aa n) (List.getD t.parts (Int.toNat (↑x_1:Int)) (dfl (Ty.st SN.term))) (List.getD x.2 (Int.toNat (0:Int)) (dfl (Ty.st SN.shape))) e).err=(ar (aa n) t e).2.err/\(au (aa n) (List.getD t.parts (Int.toNat (↑x_1:Int)) (dfl (Ty.st SN.term))) (List.getD x.2 (Int.toNat (0:Int)) (dfl (Ty.st SN.shape))) e).pos=(ar (aa n) t e).2.pos/\True else inR IntKind.i64 ((↑x_1:Int)+(1:Int))/\∃(y:Nat),(y<=List.length t.parts/\b6 (aa n) e (List.getD (ae e.types t.pos t.shapes).1 (0:Nat) al) (List.drop y t.parts)=b6 (aa n) e (List.getD (ae e.types t.pos t.shapes).1 (0:Nat) al) t.parts)/\List.length t.parts-y<List.length t.parts-x_1/\(↑x_1:Int)+(1:Int)=(↑y:Int)/\(↑x.1:Int)=(↑x.1:Int)/\x.2=x.2/\t=t/\e=e/\false=false/\(↑(List.length t.names):Int)=(↑(List.length t.names):Int)/\t.kind=t.kind/\false=false/\true=true/\List.length x.2=List.length x.2/\t=t/\e=e/\(0:Int)=(0:Int)/\an UInt8=an UInt8/\an UInt8=an UInt8/\(0:Int)=(0:Int)/\(0:Int)=(0:Int)/\True else if decide (t.kind=(11:Int))=true then True/\(5:Int)=(ar (aa n) t e).1.kind/\[]=(ar (aa n) t e).1.pkg/\[]=(ar (aa n) t e).1.name/\(ar (aa n) t e).1.names=[]/\x.2=(ar (aa n) t e).1.parts/\(0:Int)=(ar (aa n) t e).2.err/\(0:Int)=(ar (aa n) t e).2.pos/\True else((0:Int)<=(0:Int)/\(0:Int)<(↑(List.length x.2):Int))/\True/\List.getD x.2 (Int.toNat (0:Int)) (dfl (Ty.st SN.shape))=(ar (aa n) t e).1/\(0:Int)=(ar (aa n) t e).2.err/\(0:Int)=(ar (aa n) t e).2.pos/\True else(decide (t.kind=(15:Int))=(decide (t.kind=(11:Int))||decide (t.kind=(15:Int)))/\(↑x.1:Int)=(↑x.1:Int)/\x.2=x.2/\t=t/\e=e/\false=false/\(↑(List.length t.names):Int)=(↑(List.length t.names):Int)/\t.kind=t.kind/\false=false/\List.length x.2=List.length x.2/\t=t/\e=e/\(0:Int)=(0:Int)/\an UInt8=an UInt8/\an UInt8=an UInt8/\(0:Int)=(0:Int)/\(0:Int)=(0:Int)/\True)/\if(decide (t.kind=(11:Int))||decide (t.kind=(15:Int)))=true then(∃(x_1:Nat),(x_1<=List.length t.parts/\b6 (aa n) e (List.getD (ae e.types t.pos t.shapes).1 (0:Nat) al) (List.drop x_1 t.parts)=b6 (aa n) e (List.getD (ae e.types t.pos t.shapes).1 (0:Nat) al) t.parts)/\(0:Int)=(↑x_1:Int)/\true=true/\(↑x.1:Int)=(↑x.1:Int)/\x.2=x.2/\t=t/\e=e/\false=false/\(↑(List.length t.names):Int)=(↑(List.length t.names):Int)/\t.kind=t.kind/\false=false/\List.length x.2=List.length x.2/\t=t/\e=e/\(0:Int)=(0:Int)/\an UInt8=an UInt8/\an UInt8=an UInt8/\(0:Int)=(0:Int)/\(0:Int)=(0:Int)/\True)/\∀(x_1:Nat),x_1<=List.length t.parts
  /\b6 (aa n) e (List.getD (ae e.types t.pos t.shapes).1 (0:Nat) al) (List.drop x_1 t.parts)=b6 (aa n) e (List.getD (ae e.types t.pos t.shapes).1 (0:Nat) al) t.parts->if decide ((↑x_1:Int)<(↑(List.length t.parts):Int))=true then((0:Int)<=(↑x_1:Int)/\(↑x_1:Int)<(↑(List.length t.parts):Int))/\((0:Int)<=(0:Int)/\(0:Int)<(↑(List.length x.2):Int))/\(szT (List.getD t.parts (Int.toNat (↑x_1:Int)) (dfl (Ty.st SN.term)))<=n/\allT ag (List.getD t.parts (Int.toNat (↑x_1:Int)) (dfl (Ty.st SN.term)))=true/\List.length e.values+(4096:Nat) *szT (List.getD t.parts (Int.toNat (↑x_1:Int)) (dfl (Ty.st SN.term)))<=(100000000:Nat))/\if(!decide ((au (aa n) (List.getD t.parts (Int.toNat (↑x_1:Int)) (dfl (Ty.st SN.term))) (List.getD x.2 (Int.toNat (0:Int)) (dfl (Ty.st SN.shape))) e).err=(0:Int)))=true then((0:Int)<=(0:Int)/\(0:Int)<(↑(List.length x.2):Int))/\True/\List.getD x.2 (Int.toNat (0:Int)) (dfl (Ty.st SN.shape))=(ar (aa n) t e).1/\(au (aa n) (List.getD t.parts (Int.toNat (↑x_1:Int)) (dfl (Ty.st SN.term))) (List.getD x.2 (Int.toNat (0:Int)) (dfl (Ty.st SN.shape))) e).err=(ar (aa n) t e).2.err/\(au (aa n) (List.getD t.parts (Int.toNat (↑x_1:Int)) (dfl (Ty.st SN.term))) (List.getD x.2 (Int.toNat (0:Int)) (dfl (Ty.st SN.shape))) e).pos=(ar (aa n) t e).2.pos/\True else inR IntKind.i64 ((↑x_1:Int)+(1:Int))/\∃(y:Nat),(y<=List.length t.parts/\b6 (aa n) e (List.getD (ae e.types t.pos t.shapes).1 (0:Nat) al) (List.drop y t.parts)=b6 (aa n) e (List.getD (ae e.types t.pos t.shapes).1 (0:Nat) al) t.parts)/\List.length t.parts-y<List.length t.parts-x_1/\(↑x_1:Int)+(1:Int)=(↑y:Int)/\true=true/\(↑x.1:Int)=(↑x.1:Int)/\x.2=x.2/\t=t/\e=e/\false=false/\(↑(List.length t.names):Int)=(↑(List.length t.names):Int)/\t.kind=t.kind/\false=false/\List.length x.2=List.length x.2/\t=t/\e=e/\(0:Int)=(0:Int)/\an UInt8=an UInt8/\an UInt8=an UInt8/\(0:Int)=(0:Int)/\(0:Int)=(0:Int)/\True else if decide (t.kind=(11:Int))=true then True/\(5:Int)=(ar (aa n) t e).1.kind/\[]=(ar (aa n) t e).1.pkg/\[]=(ar (aa n) t e).1.name/\(ar (aa n) t e).1.names=[]/\x.2=(ar (aa n) t e).1.parts/\(0:Int)=(ar (aa n) t e).2.err/\(0:Int)=(ar (aa n) t e).2.pos/\True else((0:Int)<=(0:Int)/\(0:Int)<(↑(List.length x.2):Int))/\True/\List.getD x.2 (Int.toNat (0:Int)) (dfl (Ty.st SN.shape))=(ar (aa n) t e).1/\(0:Int)=(ar (aa n) t e).2.err/\(0:Int)=(ar (aa n) t e).2.pos/\True else if decide (t.kind=(12:Int))=true then((0:Int)<=(0:Int)/\(0:Int)<(↑(List.length t.parts):Int))/\(szT (List.getD t.parts (Int.toNat (0:Int)) (dfl (Ty.st SN.term)))<=n/\allT ag (List.getD t.parts (Int.toNat (0:Int)) (dfl (Ty.st SN.term)))=true/\List.length e.values+(4096:Nat) *szT (List.getD t.parts (Int.toNat (0:Int)) (dfl (Ty.st SN.term)))<=(100000000:Nat))/\(∃(x_1:Nat×Flt),((1:Nat)<=x_1.1/\x_1.1<=(3:Nat)/\(x_1.2.err=(0:Int)->x_1.2.pos=(0:Int))/\(ar (aa n) t e).2=if x_1.2.err=(0:Int)then b6 (aa n) e (List.getD (ae e.types t.pos t.shapes).1 (0:Nat) al) (List.drop x_1.1 t.parts)else x_1.2)/\(1:Int)=(↑x_1.1:Int)/\false=false/\(↑x.1:Int)=(↑x.1:Int)/\x.2=x.2/\t=t/\e=e/\false=false/\(↑(List.length t.names):Int)=(↑(List.length t.names):Int)/\t.kind=t.kind/\false=false/\true=true
  /\(au (aa n) (List.getD t.parts (Int.toNat (0:Int)) (dfl (Ty.st SN.term))) {kind:=(2:Int),pkg:=[],name:=[],names:=[],parts:=[]:Shape} e).err=x_1.2.err/\(au (aa n) (List.getD t.parts (Int.toNat (0:Int)) (dfl (Ty.st SN.term))) {kind:=(2:Int),pkg:=[],name:=[],names:=[],parts:=[]:Shape} e).pos=x_1.2.pos/\List.length x.2=List.length x.2/\t=t/\e=e/\(0:Int)=(0:Int)/\an UInt8=an UInt8/\an UInt8=an UInt8/\(0:Int)=(0:Int)/\(0:Int)=(0:Int)/\True)/\∀(x_1:Nat×Flt),((1:Nat)<=x_1.1/\x_1.1<=(3:Nat)/\(x_1.2.err=(0:Int)->x_1.2.pos=(0:Int))/\(ar (aa n) t e).2=if x_1.2.err=(0:Int)then b6 (aa n) e (List.getD (ae e.types t.pos t.shapes).1 (0:Nat) al) (List.drop x_1.1 t.parts)else x_1.2)->if decide ((↑x_1.1:Int)<(3:Int))=true then if decide (x_1.2.err=(0:Int))=true then((0:Int)<=(↑x_1.1:Int)/\(↑x_1.1:Int)<(↑(List.length t.parts):Int))/\((0:Int)<=(0:Int)/\(0:Int)<(↑(List.length x.2):Int))/\(szT (List.getD t.parts (Int.toNat (↑x_1.1:Int)) (dfl (Ty.st SN.term)))<=n/\allT ag (List.getD t.parts (Int.toNat (↑x_1.1:Int)) (dfl (Ty.st SN.term)))=true/\List.length e.values+(4096:Nat) *szT (List.getD t.parts (Int.toNat (↑x_1.1:Int)) (dfl (Ty.st SN.term)))<=(100000000:Nat))/\inR IntKind.i64 ((↑x_1.1:Int)+(1:Int))/\∃(y:Nat×Flt),((1:Nat)<=y.1/\y.1<=(3:Nat)/\(y.2.err=(0:Int)->y.2.pos=(0:Int))/\(ar (aa n) t e).2=if y.2.err=(0:Int)then b6 (aa n) e (List.getD (ae e.types t.pos t.shapes).1 (0:Nat) al) (List.drop y.1 t.parts)else y.2)/\(3:Nat)-y.1<(3:Nat)-x_1.1/\(↑x_1.1:Int)+(1:Int)=(↑y.1:Int)/\false=false/\(↑x.1:Int)=(↑x.1:Int)/\x.2=x.2/\t=t/\e=e/\false=false/\(↑(List.length t.names):Int)=(↑(List.length t.names):Int)/\t.kind=t.kind/\false=false/\true=true/\(au (aa n) (List.getD t.parts (Int.toNat (↑x_1.1:Int)) (dfl (Ty.st SN.term))) (List.getD x.2 (Int.toNat (0:Int)) (dfl (Ty.st SN.shape))) e).err=y.2.err/\(au (aa n) (List.getD t.parts (Int.toNat (↑x_1.1:Int)) (dfl (Ty.st SN.term))) (List.getD x.2 (Int.toNat (0:Int)) (dfl (Ty.st SN.shape))) e).pos=y.2.pos/\List.length x.2=List.length x.2/\t=t/\e=e/\(0:Int)=(0:Int)/\an UInt8=an UInt8/\an UInt8=an UInt8/\(0:Int)=(0:Int)/\(0:Int)=(0:Int)/\True else((0:Int)<=(0:Int)/\(0:Int)<(↑(List.length x.2):Int))/\True/\List.getD x.2 (Int.toNat (0:Int)) (dfl (Ty.st SN.shape))=(ar (aa n) t e).1/\x_1.2.err=(ar (aa n) t e).2.err/\x_1.2.pos=(ar (aa n) t e).2.pos/\True else((0:Int)<=(0:Int)/\(0:Int)<(↑(List.length x.2):Int))/\True/\List.getD x.2 (Int.toNat (0:Int)) (dfl (Ty.st SN.shape))=(ar (aa n) t e).1/\x_1.2.err=(ar (aa n) t e).2.err/\x_1.2.pos=(ar (aa n) t e).2.pos/\True else((0:Int)<=(0:Int)/\(0:Int)<(↑(List.length t.parts):Int))/\((0:Int)<=(0:Int)/\(0:Int)<=(↑(List.length t.names):Int)/\(↑(List.length t.names):Int)<=(↑(List.length x.2):Int))/\(szT (List.getD t.parts (Int.toNat (0:Int)) (dfl (Ty.st SN.term)))<=n/\allT ag (List.getD t.parts (Int.toNat (0:Int)) (dfl (Ty.st SN.term)))=true/\List.length e.values+(4096:Nat) *szT (List.getD t.parts (Int.toNat (0:Int)) (dfl (Ty.st SN.term)))<=(100000000:Nat))/\(∃(x_1:Nat×Flt),(x_1.1<=List.length t.names/\(x_1.2.err=(0:Int)->x_1.2.pos=(0:Int))/\(ar (aa n) t e).2=if x_1.2.err=(0:Int)
  then fe (aa n) e (List.getD (ae e.types t.pos t.shapes).1 (List.length (ae e.types t.pos t.shapes).1-(1:Nat)) al) (List.drop (x_1.1+(1:Nat)) t.parts) (List.drop x_1.1 t.vars) (List.drop x_1.1 (ae e.types t.pos t.shapes).1)else x_1.2)/\(0:Int)=(↑x_1.1:Int)/\false=false/\(↑x.1:Int)=(↑x.1:Int)/\x.2=x.2/\t=t/\e=e/\false=false/\(↑(List.length t.names):Int)=(↑(List.length t.names):Int)/\t.kind=t.kind/\false=false/\false=false/\(au (aa n) (List.getD t.parts (Int.toNat (0:Int)) (dfl (Ty.st SN.term))) {kind:=(7:Int),pkg:=[],name:=[],names:=t.names,parts:=List.drop (Int.toNat (0:Int)) (List.take (Int.toNat (↑(List.length t.names):Int)) x.2):Shape} e).err=x_1.2.err/\(au (aa n) (List.getD t.parts (Int.toNat (0:Int)) (dfl (Ty.st SN.term))) {kind:=(7:Int),pkg:=[],name:=[],names:=t.names,parts:=List.drop (Int.toNat (0:Int)) (List.take (Int.toNat (↑(List.length t.names):Int)) x.2):Shape} e).pos=x_1.2.pos/\List.length x.2=List.length x.2/\t=t/\e=e/\(0:Int)=(0:Int)/\an UInt8=an UInt8/\an UInt8=an UInt8/\(0:Int)=(0:Int)/\(0:Int)=(0:Int)/\True)/\∀(x_1:Nat×Flt),(x_1.1<=List.length t.names/\(x_1.2.err=(0:Int)->x_1.2.pos=(0:Int))/\(ar (aa n) t e).2=if x_1.2.err=(0:Int)then fe (aa n) e (List.getD (ae e.types t.pos t.shapes).1 (List.length (ae e.types t.pos t.shapes).1-(1:Nat)) al) (List.drop (x_1.1+(1:Nat)) t.parts) (List.drop x_1.1 t.vars) (List.drop x_1.1 (ae e.types t.pos t.shapes).1)else x_1.2)->if decide ((↑x_1.1:Int)<(↑(List.length t.names):Int))=true then if decide (x_1.2.err=(0:Int))=true then inR IntKind.i64 ((↑x_1.1:Int)+(1:Int))/\((0:Int)<=(↑x_1.1:Int)+(1:Int)/\(↑x_1.1:Int)+(1:Int)<(↑(List.length t.parts):Int))/\((0:Int)<=(↑(List.length t.names):Int)/\(↑(List.length t.names):Int)<(↑(List.length x.2):Int))/\((0:Int)<=(↑x_1.1:Int)/\(↑x_1.1:Int)<(↑(List.length t.vars):Int))/\((0:Int)<=(↑x_1.1:Int)/\(↑x_1.1:Int)<(↑(List.length x.2):Int))/\List.length e.values<=(1000000000:Nat)/\(szT (List.getD t.parts (Int.toNat ((↑x_1.1:Int)+(1:Int))) (dfl (Ty.st SN.term)))<=n/\allT ag (List.getD t.parts (Int.toNat ((↑x_1.1:Int)+(1:Int))) (dfl (Ty.st SN.term)))=true/\List.length (e.values++[{pkg:=[],name:=List.getD t.vars (Int.toNat (↑x_1.1:Int)) (dfl Ty.str),shape:=AL.Shape.mk ((List.getD x.2 (Int.toNat (↑x_1.1:Int)) (dfl (Ty.st SN.shape))).kind) ((List.getD x.2 (Int.toNat (↑x_1.1:Int)) (dfl (Ty.st SN.shape))).pkg) ((List.getD x.2 (Int.toNat (↑x_1.1:Int)) (dfl (Ty.st SN.shape))).name) ((List.getD x.2 (Int.toNat (↑x_1.1:Int)) (dfl (Ty.st SN.shape))).names) ((List.getD x.2 (Int.toNat (↑x_1.1:Int)) (dfl (Ty.st SN.shape))).parts):Bndg}])+(4096:Nat) *szT (List.getD t.parts (Int.toNat ((↑x_1.1:Int)+(1:Int))) (dfl (Ty.st SN.term)))<=(100000000:Nat))/\inR IntKind.i64 ((↑x_1.1:Int)+(1:Int))/\∃(y:Nat×Flt),(y.1<=List.length t.names/\(y.2.err=(0:Int)->y.2.pos=(0:Int))/\(ar (aa n) t e).2=if y.2.err=(0:Int)then fe (aa n) e (List.getD (ae e.types t.pos t.shapes).1 (List.length (ae e.types t.pos t.shapes).1-(1:Nat)) al) (List.drop (y.1+(1:Nat)) t.parts) (List.drop y.1 t.vars) (List.drop y.1 (ae e.types t.pos t.shapes).1)else y.2)/\List.length t.names-y.1<List.length t.names-x_1.1/\(↑x_1.1:Int)+(1:Int)=(↑y.1:Int)/\false=false/\(↑x.1:Int)=(↑x.1:Int)/\x.2=x.2/\t=t/\e=e/\false=false/\(↑(List.length t.names):Int)=(↑(List.length t.names):Int)/\t.kind=t.kind/\false=false/\false=false
  /\(au (aa n) (List.getD t.parts (Int.toNat ((↑x_1.1:Int)+(1:Int))) (dfl (Ty.st SN.term))) (List.getD x.2 (Int.toNat (↑(List.length t.names):Int)) (dfl (Ty.st SN.shape))) (bk e [{pkg:=[],name:=List.getD t.vars (Int.toNat (↑x_1.1:Int)) (dfl Ty.str),shape:=AL.Shape.mk ((List.getD x.2 (Int.toNat (↑x_1.1:Int)) (dfl (Ty.st SN.shape))).kind) ((List.getD x.2 (Int.toNat (↑x_1.1:Int)) (dfl (Ty.st SN.shape))).pkg) ((List.getD x.2 (Int.toNat (↑x_1.1:Int)) (dfl (Ty.st SN.shape))).name) ((List.getD x.2 (Int.toNat (↑x_1.1:Int)) (dfl (Ty.st SN.shape))).names) ((List.getD x.2 (Int.toNat (↑x_1.1:Int)) (dfl (Ty.st SN.shape))).parts):Bndg}])).err=y.2.err/\(au (aa n) (List.getD t.parts (Int.toNat ((↑x_1.1:Int)+(1:Int))) (dfl (Ty.st SN.term))) (List.getD x.2 (Int.toNat (↑(List.length t.names):Int)) (dfl (Ty.st SN.shape))) (bk e [{pkg:=[],name:=List.getD t.vars (Int.toNat (↑x_1.1:Int)) (dfl Ty.str),shape:=AL.Shape.mk ((List.getD x.2 (Int.toNat (↑x_1.1:Int)) (dfl (Ty.st SN.shape))).kind) ((List.getD x.2 (Int.toNat (↑x_1.1:Int)) (dfl (Ty.st SN.shape))).pkg) ((List.getD x.2 (Int.toNat (↑x_1.1:Int)) (dfl (Ty.st SN.shape))).name) ((List.getD x.2 (Int.toNat (↑x_1.1:Int)) (dfl (Ty.st SN.shape))).names) ((List.getD x.2 (Int.toNat (↑x_1.1:Int)) (dfl (Ty.st SN.shape))).parts):Bndg}])).pos=y.2.pos/\List.length x.2=List.length x.2/\t=t/\e=e/\(0:Int)=(0:Int)/\an UInt8=an UInt8/\an UInt8=an UInt8/\(0:Int)=(0:Int)/\(0:Int)=(0:Int)/\True else((0:Int)<=(↑(List.length t.names):Int)/\(↑(List.length t.names):Int)<(↑(List.length x.2):Int))/\True/\List.getD x.2 (Int.toNat (↑(List.length t.names):Int)) (dfl (Ty.st SN.shape))=(ar (aa n) t e).1/\x_1.2.err=(ar (aa n) t e).2.err/\x_1.2.pos=(ar (aa n) t e).2.pos/\True else((0:Int)<=(↑(List.length t.names):Int)/\(↑(List.length t.names):Int)<(↑(List.length x.2):Int))/\True/\List.getD x.2 (Int.toNat (↑(List.length t.names):Int)) (dfl (Ty.st SN.shape))=(ar (aa n) t e).1/\x_1.2.err=(ar (aa n) t e).2.err/\x_1.2.pos=(ar (aa n) t e).2.pos/\True:=by
 have rm:=oY hf;have ln:=ht.term_parts.len;have ps:=mo t;have et:∀s:Shape,AL.Shape.mk s.kind s.pkg s.name s.names s.parts=s:=fun s=>by cases s;rfl
 have e0:Int.toNat 0=0:=rfl;have ex:∀k:Nat,((k:Int)+1).toNat=k+1:=fun k=>by omega
 simp only[et,e0,ex,List.drop_zero,Int.toNat_natCast,eq_self,true_and,and_true]
 have hsh:t.shapes.length<=1000000:=by
  rcases hk with k|k|k|k|k
  ·have:=rm.k6 k;omega
  ·have:=rm.k11 k;omega
  ·have:=rm.k12 k;omega
  ·have:=rm.k13 k;omega
  ·have:=rm.k15 k;omega
 have hl:=@lI e.types t.pos t.shapes;have hok:=@kQ e.types t.pos t.shapes;have hA0:¬(ae e.types t.pos t.shapes).2.err=0->ar (aa n) t e=(al,(ae e.types t.pos t.shapes).2):=fun h=>by simp only[ar,if_neg h]
 have hA6:(ae e.types t.pos t.shapes).2.err=0->t.kind=6->ar (aa n) t e=(⟨8,[],[],[],(ae e.types t.pos t.shapes).1++[(aa n (t.parts.getD 0 ao) (bk e (cD t.names (ae e.types t.pos t.shapes).1))).1]⟩,(aa n (t.parts.getD 0 ao) (bk e (cD t.names (ae e.types t.pos t.shapes).1))).2):=fun h k=>by simp only[ar,if_pos h,if_pos k]
 have hA11:(ae e.types t.pos t.shapes).2.err=0->t.kind=11->ar (aa n) t e=if(b6 (aa n) e ((ae e.types t.pos t.shapes).1.getD 0 al) t.parts).err=0 then(⟨5,[],[],[],(ae e.types t.pos t.shapes).1⟩,cb)else((ae e.types t.pos t.shapes).1.getD 0 al,b6 (aa n) e ((ae e.types t.pos t.shapes).1.getD 0 al) t.parts):=fun h k=>by simp only[ar,if_pos h,if_neg (show ¬t.kind=6 by omega),if_pos k]
 have hA15:(ae e.types t.pos t.shapes).2.err=0->t.kind=15->ar (aa n) t e=((ae e.types t.pos t.shapes).1.getD 0 al,b6 (aa n) e ((ae e.types t.pos t.shapes).1.getD 0 al) t.parts):=fun h k=>by have l1:=AT ao (rm.k15 k).2;rw[show b6 (aa n) e ((ae e.types t.pos t.shapes).1.getD 0 al) t.parts=au (aa n) (t.parts.getD 0 ao) ((ae e.types t.pos t.shapes).1.getD 0 al) e from by rw[l1];exact td _];simp only[ar,if_pos h,if_neg (show ¬t.kind=6 by omega),if_neg (show ¬t.kind=11 by omega),if_pos k]
 have hA12:(ae e.types t.pos t.shapes).2.err=0->t.kind=12->ar (aa n) t e=((ae e.types t.pos t.shapes).1.getD 0 al,if(au (aa n) (t.parts.getD 0 ao) (ofK 2) e).err=0 then b6 (aa n) e ((ae e.types t.pos t.shapes).1.getD 0 al) (t.parts.drop 1)else au (aa n) (t.parts.getD 0 ao) (ofK 2) e):=fun h k=>by rw[D5 ao (rm.k12 k).2,b6,td];simp only[ar,if_pos h,if_neg (show ¬t.kind=6 by omega),if_neg (show ¬t.kind=11 by omega),if_neg (show ¬t.kind=15 by omega),if_pos k]
 have hA13:(ae e.types t.pos t.shapes).2.err=0->t.kind=13->ar (aa n) t e=((ae e.types t.pos t.shapes).1.getD ((ae e.types t.pos t.shapes).1.length-1) al,if(au (aa n) (t.parts.getD 0 ao) ⟨7,[],[],t.names,(ae e.types t.pos t.shapes).1.take ((ae e.types t.pos t.shapes).1.length-1)⟩ e).err=0 then fe (aa n) e ((ae e.types t.pos t.shapes).1.getD ((ae e.types t.pos t.shapes).1.length-1) al) (t.parts.drop 1) t.vars (ae e.types t.pos t.shapes).1 else au (aa n) (t.parts.getD 0 ao) ⟨7,[],[],t.names,(ae e.types t.pos t.shapes).1.take ((ae e.types t.pos t.shapes).1.length-1)⟩ e):=fun h k=>by simp only[ar,if_pos h,if_neg (show ¬t.kind=6 by omega),if_neg (show ¬t.kind=11 by omega),if_neg (show ¬t.kind=15 by omega),if_neg (show ¬t.kind=12 by omega)]
 refine⟨⟨(0,[]),⟨Nat.zero_le _,rfl,fun h=>?_,fun _=>by rw[List.drop_zero]⟩,rfl,rfl,rfl⟩,?_⟩
 ·dsimp only at h⊢;rw[List.drop_zero]at h⊢;rw[List.nil_append];exact kQ h
 revert hl hok hA0 hA6 hA11 hA15 hA12 hA13;generalize ar (aa n) t e=R;generalize ae e.types t.pos t.shapes=L;intro hl hok hA0 hA6 hA11 hA15 hA12 hA13;rintro⟨k,q⟩ ⟨h1,h2,h3,h4⟩;dsimp only at h1 h2 h3 h4⊢;refine ab (fun h=>?_) (fun h=>?_)
 ·replace h:=Xo h;have hk:k<t.shapes.length:=by omega
  rw[aA t.shapes k (dfl (.st .shape)) hk,ga]at h3 h4;refine⟨by omega,ab (fun c=>?_) (fun c=>?_)⟩
  ·have c:=ndF c;rw[if_neg c]at h4;have hL:=h4 c;rw[hA0 (by rw[hL];exact c),hL];exact⟨xh c,rfl,rfl⟩
  ·have c:=ndT c;rw[if_pos c]at h3 h4;refine⟨by simp only[List.length_cons,List.length_nil];omega,aL hk (by omega),(k+1,q++[_]),⟨by omega,by simp[h2],fun g=>?_,fun g=>?_⟩,by dsimp only;omega,by dsimp only;omega,rfl,rfl⟩
   ·dsimp only at g;rw[if_pos g]at h3;rw[h3 rfl];simp
   ·dsimp only at g;rw[if_neg g]at h4;rw[h4 g,<-qz g]
 have hL:L=(q,cb):=by
  have h:¬((k:Int)<(t.shapes.length:Int)):=fun e=>h (Xd e);have e:k=t.shapes.length:=by omega
  subst e;rw[List.drop_length]at h3;rw[h3 rfl];simp[ae]
 subst hL;have h0:(q,cb).2.err=0:=rfl;have hl:=hl h0;have hA6:=hA6 h0;have hA11:=hA11 h0;have hA12:=hA12 h0;have hA13:=hA13 h0;have hA15:=hA15 h0;dsimp only at hl hA6 hA11 hA12 hA13 hA15⊢;clear hA0 hok h3 h4;have nx:∀{j w:Nat},j<t.parts.length->w<=e.values.length+4096->szT (t.parts.getD j (dfl (.st .term)))<=n/\allT ag (t.parts.getD j (dfl (.st .term)))=true/\w+4096 *szT (t.parts.getD j (dfl (.st .term)))<=100000000:=fun hj hw=>jw hz hf hv _ hj hw;refine ab (fun k=>?_) (fun k6=>?_)
 ·have k:=Xo k;obtain⟨n1,n2,n3⟩:=rm.k6 k;refine⟨⟨(0,e),⟨Nat.zero_le _,rfl,by rw[List.drop_zero,List.drop_zero]⟩,rfl,rfl⟩,?_⟩;rintro⟨j,f⟩ ⟨h1,h2,h3⟩;dsimp only at h1 h2 h3⊢;refine ab (fun c=>?_) (fun c=>?_)
  ·have c:=Xo c;have hj:j<t.names.length:=by omega
   rw[aA t.names j (dfl .str) hj,aA q j (dfl (.st .shape)) (by omega)]at h3;simp only[cD]at h3;refine⟨by omega,by omega,by omega,b8 (by omega) (by omega),(j+1,_),⟨by dsimp only;omega,?_,?_⟩,by dsimp only;omega,by dsimp only;omega,rfl⟩
   ·dsimp only;rw[List.length_append,h2];simp only[List.length_cons,List.length_nil];omega
   ·show bk (bk f [kx (t.names.getD j (dfl .str)) (q.getD j (dfl (.st .shape)))]) _=_;rw[oh];exact h3
  ·have c:¬((j:Int)<(t.names.length:Int)):=fun q=>c (Xd q);have hj:j=t.names.length:=by omega
   have hf':f=bk e (cD t.names q):=by rw[hj,List.drop_length]at h3;simp only[cD]at h3;rw[sK]at h3;exact h3
   have ob:=nx (j:=0) (w:=f.values.length) (by omega) (by omega);rw[hA6 k];refine⟨by omega,ob,?_,rfl,rfl,rfl,rfl,?_,?_,?_⟩
   ·simp only[List.length_cons,List.length_nil];omega
   ·rw[hf'];rfl
   ·rw[hf'];rfl
   ·rw[hf'];rfl
 have k6:¬t.kind=6:=fun q=>k6 (Xd q);refine ab (fun k=>?_) (fun k11=>?_)
 ·have k:=Xo k;have n1:=rm.k11 k;have hR:=hA11 k;refine⟨⟨0,⟨Nat.zero_le _,by rw[List.drop_zero]⟩,rfl⟩,?_⟩;rintro j ⟨h1,h2⟩;refine ab (fun c=>?_) (fun c=>?_)
  ·have c:=Xo c;have hj:j<t.parts.length:=by omega
   rw[aA t.parts j (dfl (.st .term)) hj]at h2;simp only[b6]at h2;refine⟨by omega,by omega,nx hj (Nat.le_add_right _ _),ab (fun f=>?_) (fun f=>?_)⟩
   ·have f:¬(au (aa n) (t.parts.getD j (dfl (.st .term))) (q.getD 0 al) e).err=0:=ndF f;rw[if_neg f]at h2;rw[hR,<-h2,if_neg f];exact⟨by omega,rfl,rfl,rfl⟩
   ·have f:(au (aa n) (t.parts.getD j (dfl (.st .term))) (q.getD 0 al) e).err=0:=ndT f;rw[if_pos f]at h2;exact⟨aL hj ln,j+1,⟨by omega,h2⟩,by omega,by omega⟩
  ·have c:¬((j:Int)<(t.parts.length:Int)):=fun q=>c (Xd q);have hj:j=t.parts.length:=by omega
   rw[hj,List.drop_length]at h2;rw[hR,<-h2];exact ab (fun _=>⟨rfl,rfl,rfl,rfl,rfl,rfl,rfl⟩) (fun g=>absurd (Xd k) g)
 have k11:¬t.kind=11:=fun q=>k11 (Xd q);refine⟨by rw[Xf k11,Bool.false_or],ab (fun k=>?_) (fun k15=>?_)⟩
 ·have k:t.kind=15:=by rw[Xf k11,Bool.false_or]at k;exact Xo k
  obtain⟨n1,n2⟩:=rm.k15 k;have hR:=hA15 k;refine⟨⟨0,⟨Nat.zero_le _,by rw[List.drop_zero]⟩,rfl⟩,?_⟩;rintro j ⟨h1,h2⟩;refine ab (fun c=>?_) (fun c=>?_)
  ·have c:=Xo c;have hj:j<t.parts.length:=by omega
   rw[aA t.parts j (dfl (.st .term)) hj]at h2;simp only[b6]at h2;refine⟨by omega,by omega,nx hj (Nat.le_add_right _ _),ab (fun f=>?_) (fun f=>?_)⟩
   ·have f:¬(au (aa n) (t.parts.getD j (dfl (.st .term))) (q.getD 0 al) e).err=0:=ndF f;rw[if_neg f]at h2;rw[hR,<-h2];exact⟨by omega,rfl,rfl,rfl⟩
   ·have f:(au (aa n) (t.parts.getD j (dfl (.st .term))) (q.getD 0 al) e).err=0:=ndT f;rw[if_pos f]at h2;exact⟨aL hj ln,j+1,⟨by omega,h2⟩,by omega,by omega⟩
  ·have c:¬((j:Int)<(t.parts.length:Int)):=fun q=>c (Xd q);have hj:j=t.parts.length:=by omega
   rw[hj,List.drop_length]at h2;rw[hR,<-h2];exact ab (fun g=>absurd (Xo g) k11) (fun _=>⟨by omega,rfl,rfl,rfl⟩)
 have k15:¬t.kind=15:=fun q=>k15 (by rw[Xd q,Bool.or_true]);refine ab (fun k=>?_) (fun k12=>?_)
 ·have k:=Xo k;obtain⟨n1,n2⟩:=rm.k12 k;rw[hA12 k];refine⟨by omega,nx (by omega) (Nat.le_add_right _ _),⟨(1,au (aa n) (t.parts.getD 0 ao) (ofK 2) e),⟨Nat.le_refl _,by dsimp only;omega,fun g=>by rw[gK g];rfl,rfl⟩,rfl,rfl,rfl⟩,?_⟩;rintro⟨j,f⟩ ⟨h1,h2,h3,h4⟩;dsimp only at h1 h2 h3 h4⊢;have fin:(0<(q.length:Int))/\(f.err=0->3<=j->f=cb):=by refine⟨by omega,fun g gj=>?_⟩;obtain⟨a,b⟩:=f;have ha:a=0:=g;have hb:b=0:=h3 g;rw[ha,hb];rfl
  refine ab (fun c=>ab (fun g=>?_) (fun g=>?_)) (fun c=>?_)
  ·have c:=Xo c;have g:=Xo g;have hj:j<t.parts.length:=by omega
   rw[if_pos g,aA t.parts j (dfl (.st .term)) hj]at h4;simp only[b6]at h4;exact⟨by omega,by omega,nx hj (Nat.le_add_right _ _),b8 (by omega) (by omega),(j+1,au (aa n) (t.parts.getD j (dfl (.st .term))) (q.getD 0 al) e),⟨by dsimp only;omega,by dsimp only;omega,fun g=>by rw[gK g];rfl,h4⟩,by dsimp only;omega,by dsimp only;omega,rfl,rfl⟩
  ·rw[if_neg (fun q=>g (Xd q))]at h4;rw[h4];exact⟨by omega,rfl,rfl,rfl⟩
  ·have c:¬((j:Int)<3):=fun q=>c (Xd q);have hj:j=3:=by omega
   by_cases g:f.err=0
   ·rw[if_pos g,hj,show List.drop 3 t.parts=[]from List.drop_eq_nil_of_le (by omega),b6]at h4;rw[h4,fin.2 g (by omega)];exact⟨by omega,rfl,rfl,rfl⟩
   ·rw[if_neg g]at h4;rw[h4];exact⟨by omega,rfl,rfl,rfl⟩
 have k12:¬t.kind=12:=fun q=>k12 (Xd q);have k:t.kind=13:=by omega
 obtain⟨n1,n2,n3⟩:=rm.k13 k;have el:q.length-1=t.names.length:=by omega
 rw[el]at hA13⊢;rw[hA13 k];refine⟨by omega,by omega,nx (by omega) (Nat.le_add_right _ _),⟨(0,au (aa n) (t.parts.getD 0 ao) ⟨7,[],[],t.names,q.take t.names.length⟩ e),⟨Nat.zero_le _,fun g=>by rw[gK g];rfl,by dsimp only;rw[List.drop_zero,List.drop_zero]⟩,rfl,rfl,rfl⟩,?_⟩;rintro⟨j,f⟩ ⟨h1,h3,h4⟩;dsimp only at h1 h3 h4⊢;refine ab (fun c=>ab (fun g=>?_) (fun g=>?_)) (fun c=>?_)
 ·have c:=Xo c;have g:=Xo g;have hj:j+1<t.parts.length:=by omega
  rw[if_pos g,aA t.parts (j+1) (dfl (.st .term)) hj,aA t.vars j (dfl .str) (by omega),aA q j (dfl (.st .shape)) (by omega)]at h4;simp only[fe]at h4;have ob:=nx (j:=j+1) (w:=e.values.length+1) hj (by omega);refine⟨b8 (by omega) (by omega),by omega,by omega,by omega,by omega,by omega,?_,b8 (by omega) (by omega),(j+1,au (aa n) (t.parts.getD (j+1) (dfl (.st .term))) (q.getD t.names.length al) (bk e [kx (t.vars.getD j (dfl .str)) (q.getD j (dfl (.st .shape)))])),⟨by dsimp only;omega,fun g=>by rw[gK g];rfl,h4⟩,by dsimp only;omega,by dsimp only;omega,rfl,rfl⟩;rw[List.length_append];exact ob
 ·rw[if_neg (fun q=>g (Xd q))]at h4;rw[h4];exact⟨by omega,rfl,rfl,rfl⟩
 ·have c:¬((j:Int)<(t.names.length:Int)):=fun q=>c (Xd q);have hj:j=t.names.length:=by omega
  by_cases g:f.err=0
  ·rw[if_pos g,hj,show List.drop (t.names.length+1) t.parts=[]from List.drop_eq_nil_of_le (by omega)]at h4;simp only[fe]at h4;rw[h4];exact⟨by omega,rfl,g,h3 g⟩
  ·rw[if_neg g]at h4;rw[h4];exact⟨by omega,rfl,rfl,rfl⟩
theorem A2(n:Nat)(t:Trm)(e:Envt)(ht:Wf (.st .term) t)(he:Wf (.st .env) e)(hz:szT t<=n+1)(hf:allT ag t=true)(hv:e.values.length+4096 *szT t<=100000000) :
  if decide (t.kind=(1:Int))=true then True/\(1:Int)=(aB (aa n) t e).1.kind/\[]=(aB (aa n) t e).1.pkg/\[]=(aB (aa n) t e).1.name/\(aB (aa n) t e).1.names=[]/\(aB (aa n) t e).1.parts=[]/\(0:Int)=(aB (aa n) t e).2.err/\(0:Int)=(aB (aa n) t e).2.pos/\True else if decide (t.kind=(2:Int))=true then True/\(3:Int)=(aB (aa n) t e).1.kind/\[]=(aB (aa n) t e).1.pkg/\[]=(aB (aa n) t e).1.name/\(aB (aa n) t e).1.names=[]/\(aB (aa n) t e).1.parts=[]/\(0:Int)=(aB (aa n) t e).2.err/\(0:Int)=(aB (aa n) t e).2.pos/\True else if decide (t.kind=(3:Int))=true then True/\(2:Int)=(aB (aa n) t e).1.kind/\[]=(aB (aa n) t e).1.pkg/\[]=(aB (aa n) t e).1.name/\(aB (aa n) t e).1.names=[]/\(aB (aa n) t e).1.parts=[]/\(0:Int)=(aB (aa n) t e).2.err/\(0:Int)=(aB (aa n) t e).2.pos/\True else(decide (t.kind=(4:Int))=(decide (t.kind=(3:Int))||decide (t.kind=(4:Int)))/\t=t/\e=e/\t.kind=t.kind/\false=false/\false=false/\t=t/\e=e/\(0:Int)=(0:Int)/\an UInt8=an UInt8/\an UInt8=an UInt8/\(0:Int)=(0:Int)/\(0:Int)=(0:Int)/\(0:Int)=(0:Int)/\(0:Int)=(0:Int)/\True)/\if(decide (t.kind=(3:Int))||decide (t.kind=(4:Int)))=true then True/\(2:Int)=(aB (aa n) t e).1.kind/\[]=(aB (aa n) t e).1.pkg/\[]=(aB (aa n) t e).1.name/\(aB (aa n) t e).1.names=[]/\(aB (aa n) t e).1.parts=[]/\(0:Int)=(aB (aa n) t e).2.err/\(0:Int)=(aB (aa n) t e).2.pos/\True else if decide (t.kind=(5:Int))=true then if(!Option.isSome (az e.values t.pkg t.name))=true then True/\Option.getD (az e.values t.pkg t.name) al=(aB (aa n) t e).1/\(110:Int)=(aB (aa n) t e).2.err/\t.pos=(aB (aa n) t e).2.pos/\True else True/\Option.getD (az e.values t.pkg t.name) al=(aB (aa n) t e).1/\(0:Int)=(aB (aa n) t e).2.err/\(0:Int)=(aB (aa n) t e).2.pos/\True else if decide (t.kind=(8:Int))=true then if decide (t.kind=(10:Int))=true then(∃(x:Nat×List Shape),(x.1<=List.length t.parts/\List.length x.2=x.1/\aN (aa n) e t.parts=(x.2++(aN (aa n) e (List.drop x.1 t.parts)).1,(aN (aa n) e (List.drop x.1 t.parts)).2))/\(0:Int)=(↑x.1:Int)/\false=false/\t=t/\e=e/\t.kind=t.kind/\false=false/\false=false/\false=false/\true=true/\true=true/\((7:Int)=if t.kind=(10:Int)then(7:Int)else(6:Int))/\an UInt8=an UInt8/\an UInt8=an UInt8/\([t.name]=if t.kind=(10:Int)then[t.name]else t.names)/\x.2=[]/\List.length x.2=(0:Nat)/\t=t/\e=e/\(0:Int)=(0:Int)/\an UInt8=an UInt8/\an UInt8=an UInt8/\(0:Int)=(0:Int)/\(0:Int)=(0:Int)/\(0:Int)=(0:Int)/\(0:Int)=(0:Int)/\List.length [t.name]=List.length [t.name]/\True)/\∀(x:Nat×List Shape),x.1<=List.length t.parts/\List.length x.2=x.1/\aN (aa n) e t.parts=(x.2++(aN (aa n) e (List.drop x.1 t.parts)).1,(aN (aa n) e (List.drop x.1 t.parts)).2)->if decide ((↑x.1:Int)<(↑(List.length t.parts):Int))=true then((0:Int)<=(↑x.1:Int)/\(↑x.1:Int)<(↑(List.length t.parts):Int))/\(szT (List.getD t.parts (Int.toNat (↑x.1:Int)) (dfl (Ty.st SN.term)))<=n/\allT ag (List.getD t.parts (Int.toNat (↑x.1:Int)) (dfl (Ty.st SN.term)))=true/\List.length e.values+(4096:Nat) *szT (List.getD t.parts (Int.toNat (↑x.1:Int)) (dfl (Ty.st SN.term)))<=(100000000:Nat))
  /\if(!decide ((aa n (List.getD t.parts (Int.toNat (↑x.1:Int)) (dfl (Ty.st SN.term))) e).2.err=(0:Int)))=true then True/\(aa n (List.getD t.parts (Int.toNat (↑x.1:Int)) (dfl (Ty.st SN.term))) e).1=(aB (aa n) t e).1/\(aa n (List.getD t.parts (Int.toNat (↑x.1:Int)) (dfl (Ty.st SN.term))) e).2.err=(aB (aa n) t e).2.err/\(aa n (List.getD t.parts (Int.toNat (↑x.1:Int)) (dfl (Ty.st SN.term))) e).2.pos=(aB (aa n) t e).2.pos/\True else(List.length x.2=List.length x.2/\(List.length x.2+List.length [(aa n (List.getD t.parts (Int.toNat (↑x.1:Int)) (dfl (Ty.st SN.term))) e).1]) *(88:Nat)<=(140737488355328:Nat))/\inR IntKind.i64 ((↑x.1:Int)+(1:Int))/\∃(y:Nat×List Shape),(y.1<=List.length t.parts/\List.length y.2=y.1/\aN (aa n) e t.parts=(y.2++(aN (aa n) e (List.drop y.1 t.parts)).1,(aN (aa n) e (List.drop y.1 t.parts)).2))/\List.length t.parts-y.1<List.length t.parts-x.1/\(↑x.1:Int)+(1:Int)=(↑y.1:Int)/\false=false/\t=t/\e=e/\t.kind=t.kind/\false=false/\false=false/\false=false/\true=true/\true=true/\((if t.kind=(10:Int)then(7:Int)else(6:Int))=if t.kind=(10:Int)then(7:Int)else(6:Int))/\an UInt8=an UInt8/\an UInt8=an UInt8/\((if t.kind=(10:Int)then[t.name]else t.names)=if t.kind=(10:Int)then[t.name]else t.names)/\x.2++[(aa n (List.getD t.parts (Int.toNat (↑x.1:Int)) (dfl (Ty.st SN.term))) e).1]=y.2/\List.length (x.2++[(aa n (List.getD t.parts (Int.toNat (↑x.1:Int)) (dfl (Ty.st SN.term))) e).1])=List.length y.2/\t=t/\e=e/\(0:Int)=(0:Int)/\an UInt8=an UInt8/\an UInt8=an UInt8/\(0:Int)=(0:Int)/\(0:Int)=(0:Int)/\(0:Int)=(0:Int)/\(0:Int)=(0:Int)/\List.length [t.name]=List.length [t.name]/\True else True/\(if t.kind=(10:Int)then(7:Int)else(6:Int))=(aB (aa n) t e).1.kind/\[]=(aB (aa n) t e).1.pkg/\[]=(aB (aa n) t e).1.name/\(if t.kind=(10:Int)then[t.name]else t.names)=(aB (aa n) t e).1.names/\x.2=(aB (aa n) t e).1.parts/\(0:Int)=(aB (aa n) t e).2.err/\(0:Int)=(aB (aa n) t e).2.pos/\True else(∃(x:Nat×List Shape),(x.1<=List.length t.parts/\List.length x.2=x.1/\aN (aa n) e t.parts=(x.2++(aN (aa n) e (List.drop x.1 t.parts)).1,(aN (aa n) e (List.drop x.1 t.parts)).2))/\(0:Int)=(↑x.1:Int)/\false=false/\t=t/\e=e/\t.kind=t.kind/\false=false/\false=false/\false=false/\true=true/\false=false/\((6:Int)=if t.kind=(10:Int)then(7:Int)else(6:Int))/\an UInt8=an UInt8/\an UInt8=an UInt8/\(t.names=if t.kind=(10:Int)then[t.name]else t.names)/\x.2=[]/\List.length x.2=(0:Nat)/\t=t/\e=e/\(0:Int)=(0:Int)/\an UInt8=an UInt8/\an UInt8=an UInt8/\(0:Int)=(0:Int)/\(0:Int)=(0:Int)/\(0:Int)=(0:Int)/\(0:Int)=(0:Int)/\True)/\∀(x:Nat×List Shape),x.1<=List.length t.parts/\List.length x.2=x.1/\aN (aa n) e t.parts=(x.2++(aN (aa n) e (List.drop x.1 t.parts)).1,(aN (aa n) e (List.drop x.1 t.parts)).2)->if decide ((↑x.1:Int)<(↑(List.length t.parts):Int))=true then((0:Int)<=(↑x.1:Int)/\(↑x.1:Int)<(↑(List.length t.parts):Int))/\(szT (List.getD t.parts (Int.toNat (↑x.1:Int)) (dfl (Ty.st SN.term)))<=n/\allT ag (List.getD t.parts (Int.toNat (↑x.1:Int)) (dfl (Ty.st SN.term)))=true/\List.length e.values+(4096:Nat) *szT (List.getD t.parts (Int.toNat (↑x.1:Int)) (dfl (Ty.st SN.term)))<=(100000000:Nat))
  /\if(!decide ((aa n (List.getD t.parts (Int.toNat (↑x.1:Int)) (dfl (Ty.st SN.term))) e).2.err=(0:Int)))=true then True/\(aa n (List.getD t.parts (Int.toNat (↑x.1:Int)) (dfl (Ty.st SN.term))) e).1=(aB (aa n) t e).1/\(aa n (List.getD t.parts (Int.toNat (↑x.1:Int)) (dfl (Ty.st SN.term))) e).2.err=(aB (aa n) t e).2.err/\(aa n (List.getD t.parts (Int.toNat (↑x.1:Int)) (dfl (Ty.st SN.term))) e).2.pos=(aB (aa n) t e).2.pos/\True else(List.length x.2=List.length x.2/\(List.length x.2+List.length [(aa n (List.getD t.parts (Int.toNat (↑x.1:Int)) (dfl (Ty.st SN.term))) e).1]) *(88:Nat)<=(140737488355328:Nat))/\inR IntKind.i64 ((↑x.1:Int)+(1:Int))/\∃(y:Nat×List Shape),(y.1<=List.length t.parts/\List.length y.2=y.1/\aN (aa n) e t.parts=(y.2++(aN (aa n) e (List.drop y.1 t.parts)).1,(aN (aa n) e (List.drop y.1 t.parts)).2))/\List.length t.parts-y.1<List.length t.parts-x.1/\(↑x.1:Int)+(1:Int)=(↑y.1:Int)/\false=false/\t=t/\e=e/\t.kind=t.kind/\false=false/\false=false/\false=false/\true=true/\false=false/\((if t.kind=(10:Int)then(7:Int)else(6:Int))=if t.kind=(10:Int)then(7:Int)else(6:Int))/\an UInt8=an UInt8/\an UInt8=an UInt8/\((if t.kind=(10:Int)then[t.name]else t.names)=if t.kind=(10:Int)then[t.name]else t.names)/\x.2++[(aa n (List.getD t.parts (Int.toNat (↑x.1:Int)) (dfl (Ty.st SN.term))) e).1]=y.2/\List.length (x.2++[(aa n (List.getD t.parts (Int.toNat (↑x.1:Int)) (dfl (Ty.st SN.term))) e).1])=List.length y.2/\t=t/\e=e/\(0:Int)=(0:Int)/\an UInt8=an UInt8/\an UInt8=an UInt8/\(0:Int)=(0:Int)/\(0:Int)=(0:Int)/\(0:Int)=(0:Int)/\(0:Int)=(0:Int)/\True else True/\(if t.kind=(10:Int)then(7:Int)else(6:Int))=(aB (aa n) t e).1.kind/\[]=(aB (aa n) t e).1.pkg/\[]=(aB (aa n) t e).1.name/\(if t.kind=(10:Int)then[t.name]else t.names)=(aB (aa n) t e).1.names/\x.2=(aB (aa n) t e).1.parts/\(0:Int)=(aB (aa n) t e).2.err/\(0:Int)=(aB (aa n) t e).2.pos/\True else(decide (t.kind=(10:Int))=(decide (t.kind=(8:Int))||decide (t.kind=(10:Int)))/\false=false/\t=t/\e=e/\t.kind=t.kind/\false=false/\false=false/\false=false/\t=t/\e=e/\(0:Int)=(0:Int)/\an UInt8=an UInt8/\an UInt8=an UInt8/\(0:Int)=(0:Int)/\(0:Int)=(0:Int)/\(0:Int)=(0:Int)/\(0:Int)=(0:Int)/\True)/\if(decide (t.kind=(8:Int))||decide (t.kind=(10:Int)))=true then if decide (t.kind=(10:Int))=true then(∃(x:Nat×List Shape),(x.1<=List.length t.parts/\List.length x.2=x.1/\aN (aa n) e t.parts=(x.2++(aN (aa n) e (List.drop x.1 t.parts)).1,(aN (aa n) e (List.drop x.1 t.parts)).2))/\(0:Int)=(↑x.1:Int)/\true=true/\false=false/\t=t/\e=e/\t.kind=t.kind/\false=false/\false=false/\false=false/\true=true/\((7:Int)=if t.kind=(10:Int)then(7:Int)else(6:Int))/\an UInt8=an UInt8/\an UInt8=an UInt8/\([t.name]=if t.kind=(10:Int)then[t.name]else t.names)/\x.2=[]/\List.length x.2=(0:Nat)/\t=t/\e=e/\(0:Int)=(0:Int)/\an UInt8=an UInt8/\an UInt8=an UInt8/\(0:Int)=(0:Int)/\(0:Int)=(0:Int)/\(0:Int)=(0:Int)/\(0:Int)=(0:Int)/\List.length [t.name]=List.length [t.name]/\True)/\∀(x:Nat×List Shape),x.1<=List.length t.parts/\List.length x.2=x.1
  /\aN (aa n) e t.parts=(x.2++(aN (aa n) e (List.drop x.1 t.parts)).1,(aN (aa n) e (List.drop x.1 t.parts)).2)->if decide ((↑x.1:Int)<(↑(List.length t.parts):Int))=true then((0:Int)<=(↑x.1:Int)/\(↑x.1:Int)<(↑(List.length t.parts):Int))/\(szT (List.getD t.parts (Int.toNat (↑x.1:Int)) (dfl (Ty.st SN.term)))<=n/\allT ag (List.getD t.parts (Int.toNat (↑x.1:Int)) (dfl (Ty.st SN.term)))=true/\List.length e.values+(4096:Nat) *szT (List.getD t.parts (Int.toNat (↑x.1:Int)) (dfl (Ty.st SN.term)))<=(100000000:Nat))/\if(!decide ((aa n (List.getD t.parts (Int.toNat (↑x.1:Int)) (dfl (Ty.st SN.term))) e).2.err=(0:Int)))=true then True/\(aa n (List.getD t.parts (Int.toNat (↑x.1:Int)) (dfl (Ty.st SN.term))) e).1=(aB (aa n) t e).1/\(aa n (List.getD t.parts (Int.toNat (↑x.1:Int)) (dfl (Ty.st SN.term))) e).2.err=(aB (aa n) t e).2.err/\(aa n (List.getD t.parts (Int.toNat (↑x.1:Int)) (dfl (Ty.st SN.term))) e).2.pos=(aB (aa n) t e).2.pos/\True else(List.length x.2=List.length x.2/\(List.length x.2+List.length [(aa n (List.getD t.parts (Int.toNat (↑x.1:Int)) (dfl (Ty.st SN.term))) e).1]) *(88:Nat)<=(140737488355328:Nat))/\inR IntKind.i64 ((↑x.1:Int)+(1:Int))/\∃(y:Nat×List Shape),(y.1<=List.length t.parts/\List.length y.2=y.1/\aN (aa n) e t.parts=(y.2++(aN (aa n) e (List.drop y.1 t.parts)).1,(aN (aa n) e (List.drop y.1 t.parts)).2))/\List.length t.parts-y.1<List.length t.parts-x.1/\(↑x.1:Int)+(1:Int)=(↑y.1:Int)/\true=true/\false=false/\t=t/\e=e/\t.kind=t.kind/\false=false/\false=false/\false=false/\true=true/\((if t.kind=(10:Int)then(7:Int)else(6:Int))=if t.kind=(10:Int)then(7:Int)else(6:Int))/\an UInt8=an UInt8/\an UInt8=an UInt8/\((if t.kind=(10:Int)then[t.name]else t.names)=if t.kind=(10:Int)then[t.name]else t.names)/\x.2++[(aa n (List.getD t.parts (Int.toNat (↑x.1:Int)) (dfl (Ty.st SN.term))) e).1]=y.2/\List.length (x.2++[(aa n (List.getD t.parts (Int.toNat (↑x.1:Int)) (dfl (Ty.st SN.term))) e).1])=List.length y.2/\t=t/\e=e/\(0:Int)=(0:Int)/\an UInt8=an UInt8/\an UInt8=an UInt8/\(0:Int)=(0:Int)/\(0:Int)=(0:Int)/\(0:Int)=(0:Int)/\(0:Int)=(0:Int)/\List.length [t.name]=List.length [t.name]/\True else True/\(if t.kind=(10:Int)then(7:Int)else(6:Int))=(aB (aa n) t e).1.kind/\[]=(aB (aa n) t e).1.pkg/\[]=(aB (aa n) t e).1.name/\(if t.kind=(10:Int)then[t.name]else t.names)=(aB (aa n) t e).1.names/\x.2=(aB (aa n) t e).1.parts/\(0:Int)=(aB (aa n) t e).2.err/\(0:Int)=(aB (aa n) t e).2.pos/\True else(∃(x:Nat×List Shape),(x.1<=List.length t.parts/\List.length x.2=x.1/\aN (aa n) e t.parts=(x.2++(aN (aa n) e (List.drop x.1 t.parts)).1,(aN (aa n) e (List.drop x.1 t.parts)).2))/\(0:Int)=(↑x.1:Int)/\true=true/\false=false/\t=t/\e=e/\t.kind=t.kind/\false=false/\false=false/\false=false/\false=false/\((6:Int)=if t.kind=(10:Int)then(7:Int)else(6:Int))/\an UInt8=an UInt8/\an UInt8=an UInt8/\(t.names=if t.kind=(10:Int)then[t.name]else t.names)/\x.2=[]/\List.length x.2=(0:Nat)/\t=t/\e=e/\(0:Int)=(0:Int)/\an UInt8=an UInt8/\an UInt8=an UInt8/\(0:Int)=(0:Int)/\(0:Int)=(0:Int)/\(0:Int)=(0:Int)/\(0:Int)=(0:Int)/\True)/\∀(x:Nat×List Shape),x.1<=List.length t.parts/\List.length x.2=x.1
  /\aN (aa n) e t.parts=(x.2++(aN (aa n) e (List.drop x.1 t.parts)).1,(aN (aa n) e (List.drop x.1 t.parts)).2)->if decide ((↑x.1:Int)<(↑(List.length t.parts):Int))=true then((0:Int)<=(↑x.1:Int)/\(↑x.1:Int)<(↑(List.length t.parts):Int))/\(szT (List.getD t.parts (Int.toNat (↑x.1:Int)) (dfl (Ty.st SN.term)))<=n/\allT ag (List.getD t.parts (Int.toNat (↑x.1:Int)) (dfl (Ty.st SN.term)))=true/\List.length e.values+(4096:Nat) *szT (List.getD t.parts (Int.toNat (↑x.1:Int)) (dfl (Ty.st SN.term)))<=(100000000:Nat))/\if(!decide ((aa n (List.getD t.parts (Int.toNat (↑x.1:Int)) (dfl (Ty.st SN.term))) e).2.err=(0:Int)))=true then True/\(aa n (List.getD t.parts (Int.toNat (↑x.1:Int)) (dfl (Ty.st SN.term))) e).1=(aB (aa n) t e).1/\(aa n (List.getD t.parts (Int.toNat (↑x.1:Int)) (dfl (Ty.st SN.term))) e).2.err=(aB (aa n) t e).2.err/\(aa n (List.getD t.parts (Int.toNat (↑x.1:Int)) (dfl (Ty.st SN.term))) e).2.pos=(aB (aa n) t e).2.pos/\True else(List.length x.2=List.length x.2/\(List.length x.2+List.length [(aa n (List.getD t.parts (Int.toNat (↑x.1:Int)) (dfl (Ty.st SN.term))) e).1]) *(88:Nat)<=(140737488355328:Nat))/\inR IntKind.i64 ((↑x.1:Int)+(1:Int))/\∃(y:Nat×List Shape),(y.1<=List.length t.parts/\List.length y.2=y.1/\aN (aa n) e t.parts=(y.2++(aN (aa n) e (List.drop y.1 t.parts)).1,(aN (aa n) e (List.drop y.1 t.parts)).2))/\List.length t.parts-y.1<List.length t.parts-x.1/\(↑x.1:Int)+(1:Int)=(↑y.1:Int)/\true=true/\false=false/\t=t/\e=e/\t.kind=t.kind/\false=false/\false=false/\false=false/\false=false/\((if t.kind=(10:Int)then(7:Int)else(6:Int))=if t.kind=(10:Int)then(7:Int)else(6:Int))/\an UInt8=an UInt8/\an UInt8=an UInt8/\((if t.kind=(10:Int)then[t.name]else t.names)=if t.kind=(10:Int)then[t.name]else t.names)/\x.2++[(aa n (List.getD t.parts (Int.toNat (↑x.1:Int)) (dfl (Ty.st SN.term))) e).1]=y.2/\List.length (x.2++[(aa n (List.getD t.parts (Int.toNat (↑x.1:Int)) (dfl (Ty.st SN.term))) e).1])=List.length y.2/\t=t/\e=e/\(0:Int)=(0:Int)/\an UInt8=an UInt8/\an UInt8=an UInt8/\(0:Int)=(0:Int)/\(0:Int)=(0:Int)/\(0:Int)=(0:Int)/\(0:Int)=(0:Int)/\True else True/\(if t.kind=(10:Int)then(7:Int)else(6:Int))=(aB (aa n) t e).1.kind/\[]=(aB (aa n) t e).1.pkg/\[]=(aB (aa n) t e).1.name/\(if t.kind=(10:Int)then[t.name]else t.names)=(aB (aa n) t e).1.names/\x.2=(aB (aa n) t e).1.parts/\(0:Int)=(aB (aa n) t e).2.err/\(0:Int)=(aB (aa n) t e).2.pos/\True else if decide (t.kind=(7:Int))=true then((0:Nat)<List.length t.parts/\szT t<=n+(1:Nat)/\allT ag t=true/\List.length e.values+(4096:Nat) *szT t<=(100000000:Nat))/\True/\(aR (aa n) t e).1=(aB (aa n) t e).1/\(aR (aa n) t e).2.err=(aB (aa n) t e).2.err/\(aR (aa n) t e).2.pos=(aB (aa n) t e).2.pos/\True else if decide (t.kind=(9:Int))=true then((0:Int)<=(0:Int)/\(0:Int)<(↑(List.length t.parts):Int))/\(szT (List.getD t.parts (Int.toNat (0:Int)) (dfl (Ty.st SN.term)))<=n/\allT ag (List.getD t.parts (Int.toNat (0:Int)) (dfl (Ty.st SN.term)))=true/\List.length e.values+(4096:Nat) *szT (List.getD t.parts (Int.toNat (0:Int)) (dfl (Ty.st SN.term)))<=(100000000:Nat))/\if(!decide ((aa n (List.getD t.parts (Int.toNat (0:Int)) (dfl (Ty.st SN.term))) e).2.err=(0:Int)))=true then True
  /\(aa n (List.getD t.parts (Int.toNat (0:Int)) (dfl (Ty.st SN.term))) e).1=(aB (aa n) t e).1/\(aa n (List.getD t.parts (Int.toNat (0:Int)) (dfl (Ty.st SN.term))) e).2.err=(aB (aa n) t e).2.err/\(aa n (List.getD t.parts (Int.toNat (0:Int)) (dfl (Ty.st SN.term))) e).2.pos=(aB (aa n) t e).2.pos/\True else if decide ((aa n (List.getD t.parts (Int.toNat (0:Int)) (dfl (Ty.st SN.term))) e).1.kind=(4:Int))=true then True/\(aa n (List.getD t.parts (Int.toNat (0:Int)) (dfl (Ty.st SN.term))) e).1=(aB (aa n) t e).1/\(aa n (List.getD t.parts (Int.toNat (0:Int)) (dfl (Ty.st SN.term))) e).2.err=(aB (aa n) t e).2.err/\(aa n (List.getD t.parts (Int.toNat (0:Int)) (dfl (Ty.st SN.term))) e).2.pos=(aB (aa n) t e).2.pos/\True else((aa n (List.getD t.parts (Int.toNat (0:Int)) (dfl (Ty.st SN.term))) e).1.names=[]∨List.length (aa n (List.getD t.parts (Int.toNat (0:Int)) (dfl (Ty.st SN.term))) e).1.names=List.length (aa n (List.getD t.parts (Int.toNat (0:Int)) (dfl (Ty.st SN.term))) e).1.parts)/\if(!decide ((aa n (List.getD t.parts (Int.toNat (0:Int)) (dfl (Ty.st SN.term))) e).1.kind=(6:Int)))=true then True/\(aa n (List.getD t.parts (Int.toNat (0:Int)) (dfl (Ty.st SN.term))) e).1=(aB (aa n) t e).1/\(140:Int)=(aB (aa n) t e).2.err/\t.pos=(aB (aa n) t e).2.pos/\True else if(!Option.isSome (aH (aa n (List.getD t.parts (Int.toNat (0:Int)) (dfl (Ty.st SN.term))) e).1 t.name))=true then True/\(aa n (List.getD t.parts (Int.toNat (0:Int)) (dfl (Ty.st SN.term))) e).1=(aB (aa n) t e).1/\(140:Int)=(aB (aa n) t e).2.err/\t.pos=(aB (aa n) t e).2.pos/\True else True/\Option.getD (aH (aa n (List.getD t.parts (Int.toNat (0:Int)) (dfl (Ty.st SN.term))) e).1 t.name) al=(aB (aa n) t e).1/\(0:Int)=(aB (aa n) t e).2.err/\(0:Int)=(aB (aa n) t e).2.pos/\True else if decide (t.kind=(14:Int))=true then((0:Int)<=(0:Int)/\(0:Int)<(↑(List.length t.parts):Int))/\(szT (List.getD t.parts (Int.toNat (0:Int)) (dfl (Ty.st SN.term)))<=n/\allT ag (List.getD t.parts (Int.toNat (0:Int)) (dfl (Ty.st SN.term)))=true/\List.length e.values+(4096:Nat) *szT (List.getD t.parts (Int.toNat (0:Int)) (dfl (Ty.st SN.term)))<=(100000000:Nat))/\if(!decide ((aa n (List.getD t.parts (Int.toNat (0:Int)) (dfl (Ty.st SN.term))) e).2.err=(0:Int)))=true then True/\(aa n (List.getD t.parts (Int.toNat (0:Int)) (dfl (Ty.st SN.term))) e).1=(aB (aa n) t e).1/\(aa n (List.getD t.parts (Int.toNat (0:Int)) (dfl (Ty.st SN.term))) e).2.err=(aB (aa n) t e).2.err/\(aa n (List.getD t.parts (Int.toNat (0:Int)) (dfl (Ty.st SN.term))) e).2.pos=(aB (aa n) t e).2.pos/\True else((0:Int)<=(1:Int)/\(1:Int)<(↑(List.length t.parts):Int))/\List.length e.values<=(1000000000:Nat)/\(szT (List.getD t.parts (Int.toNat (1:Int)) (dfl (Ty.st SN.term)))<=n/\allT ag (List.getD t.parts (Int.toNat (1:Int)) (dfl (Ty.st SN.term)))=true/\List.length (e.values++[{pkg:=[],name:=t.name,shape:=AL.Shape.mk ((aa n (List.getD t.parts (Int.toNat (0:Int)) (dfl (Ty.st SN.term))) e).1.kind) ((aa n (List.getD t.parts (Int.toNat (0:Int)) (dfl (Ty.st SN.term))) e).1.pkg) ((aa n (List.getD t.parts (Int.toNat (0:Int)) (dfl (Ty.st SN.term))) e).1.name) ((aa n (List.getD t.parts (Int.toNat (0:Int)) (dfl (Ty.st SN.term))) e).1.names) ((aa n (List.getD t.parts (Int.toNat (0:Int)) (dfl (Ty.st SN.term))) e).1.parts):Bndg}])+(4096:Nat) *szT (List.getD t.parts (Int.toNat (1:Int)) (dfl (Ty.st SN.term)))<=(100000000:Nat))/\True
  /\(aa n (List.getD t.parts (Int.toNat (1:Int)) (dfl (Ty.st SN.term))) (bk e [{pkg:=[],name:=t.name,shape:=AL.Shape.mk ((aa n (List.getD t.parts (Int.toNat (0:Int)) (dfl (Ty.st SN.term))) e).1.kind) ((aa n (List.getD t.parts (Int.toNat (0:Int)) (dfl (Ty.st SN.term))) e).1.pkg) ((aa n (List.getD t.parts (Int.toNat (0:Int)) (dfl (Ty.st SN.term))) e).1.name) ((aa n (List.getD t.parts (Int.toNat (0:Int)) (dfl (Ty.st SN.term))) e).1.names) ((aa n (List.getD t.parts (Int.toNat (0:Int)) (dfl (Ty.st SN.term))) e).1.parts):Bndg}])).1=(aB (aa n) t e).1/\(aa n (List.getD t.parts (Int.toNat (1:Int)) (dfl (Ty.st SN.term))) (bk e [{pkg:=[],name:=t.name,shape:=AL.Shape.mk ((aa n (List.getD t.parts (Int.toNat (0:Int)) (dfl (Ty.st SN.term))) e).1.kind) ((aa n (List.getD t.parts (Int.toNat (0:Int)) (dfl (Ty.st SN.term))) e).1.pkg) ((aa n (List.getD t.parts (Int.toNat (0:Int)) (dfl (Ty.st SN.term))) e).1.name) ((aa n (List.getD t.parts (Int.toNat (0:Int)) (dfl (Ty.st SN.term))) e).1.names) ((aa n (List.getD t.parts (Int.toNat (0:Int)) (dfl (Ty.st SN.term))) e).1.parts):Bndg}])).2.err=(aB (aa n) t e).2.err/\(aa n (List.getD t.parts (Int.toNat (1:Int)) (dfl (Ty.st SN.term))) (bk e [{pkg:=[],name:=t.name,shape:=AL.Shape.mk ((aa n (List.getD t.parts (Int.toNat (0:Int)) (dfl (Ty.st SN.term))) e).1.kind) ((aa n (List.getD t.parts (Int.toNat (0:Int)) (dfl (Ty.st SN.term))) e).1.pkg) ((aa n (List.getD t.parts (Int.toNat (0:Int)) (dfl (Ty.st SN.term))) e).1.name) ((aa n (List.getD t.parts (Int.toNat (0:Int)) (dfl (Ty.st SN.term))) e).1.names) ((aa n (List.getD t.parts (Int.toNat (0:Int)) (dfl (Ty.st SN.term))) e).1.parts):Bndg}])).2.pos=(aB (aa n) t e).2.pos/\True else if decide (t.kind=(16:Int))=true then((0:Nat)<List.length t.parts/\szT t<=n+(1:Nat)/\allT ag t=true/\List.length e.values+(4096:Nat) *szT t<=(100000000:Nat))/\True/\(cI (aa n) t e).1=(aB (aa n) t e).1/\(cI (aa n) t e).2.err=(aB (aa n) t e).2.err/\(cI (aa n) t e).2.pos=(aB (aa n) t e).2.pos/\True else if decide (t.kind=(17:Int))=true then((0:Nat)<List.length t.parts/\szT t<=n+(1:Nat)/\allT ag t=true/\List.length e.values+(4096:Nat) *szT t<=(100000000:Nat))/\True/\(cI (aa n) t e).1=(aB (aa n) t e).1/\(cI (aa n) t e).2.err=(aB (aa n) t e).2.err/\(cI (aa n) t e).2.pos=(aB (aa n) t e).2.pos/\True else((t.kind=(6:Int)∨t.kind=(11:Int)∨t.kind=(12:Int)∨t.kind=(13:Int)∨t.kind=(15:Int))/\szT t<=n+(1:Nat)/\allT ag t=true/\List.length e.values+(4096:Nat) *szT t<=(100000000:Nat))/\True/\(ar (aa n) t e).1=(aB (aa n) t e).1/\(ar (aa n) t e).2.err=(aB (aa n) t e).2.err/\(ar (aa n) t e).2.pos=(aB (aa n) t e).2.pos/\True:=by
 have rm:=oY hf;have ln:=ht.term_parts.len;have ps:=mo t;have e0:Int.toNat 0=0:=rfl;have e1:Int.toNat 1=1:=rfl;have et:∀s:Shape,AL.Shape.mk s.kind s.pkg s.name s.names s.parts=s:=fun s=>by cases s;rfl
 simp only[e0,e1,et,Int.toNat_natCast,eq_self,true_and,and_true];have nx:∀{j w:Nat},j<t.parts.length->w<=e.values.length+4096->szT (t.parts.getD j (dfl (.st .term)))<=n/\allT ag (t.parts.getD j (dfl (.st .term)))=true/\w+4096 *szT (t.parts.getD j (dfl (.st .term)))<=100000000:=fun hj hw=>jw hz hf hv _ hj hw
 have hR:t.kind=8∨t.kind=10->aB (aa n) t e=if(aN (aa n) e t.parts).2.2.err=0 then(⟨if t.kind=10 then 7 else 6,[],[],if t.kind=10 then[t.name]else t.names,(aN (aa n) e t.parts).1⟩,cb)else(aN (aa n) e t.parts).2:=fun k=>by
  rcases k with k|k
  ·unfold aB ax;simp[k]
  ·have hk:aB (aa n) t e=(if(aa n (t.parts.getD 0 ao) e).2.err=0 then(⟨7,[],[],[t.name],[(aa n (t.parts.getD 0 ao) e).1]⟩,cb)else aa n (t.parts.getD 0 ao) e):=by unfold aB;simp[k]
   have hT:aN (aa n) e t.parts=aN (aa n) e [t.parts.getD 0 ao]:=by have:=AT ao (rm.k1 (by omega));exact congrArg (aN (aa n) e) this
   by_cases h:(aa n (t.parts.getD 0 ao) e).2.err=0
   ·have hv:aN (aa n) e [t.parts.getD 0 ao]=([(aa n (t.parts.getD 0 ao) e).1],(al,cb)):=by simp only[aN,if_pos h]
    simp only[hk,hT,hv,if_pos h,if_pos k];rfl
   ·have hv:aN (aa n) e [t.parts.getD 0 ao]=([],aa n (t.parts.getD 0 ao) e):=by simp only[aN,if_neg h]
    simp only[hk,hT,hv,if_neg h]
 refine ab (fun k=>?_) (fun k1=>?_)
 ·have k:=Xo k;rw[show aB (aa n) t e=(ofK 1,cb) by unfold aB ax;simp[k]];exact⟨rfl,rfl,rfl,rfl,rfl,rfl,rfl⟩
 have k1:¬t.kind=1:=fun q=>k1 (Xd q);refine ab (fun k=>?_) (fun k2=>?_)
 ·have k:=Xo k;rw[show aB (aa n) t e=(ofK 3,cb) by unfold aB ax;simp[k]];exact⟨rfl,rfl,rfl,rfl,rfl,rfl,rfl⟩
 have k2:¬t.kind=2:=fun q=>k2 (Xd q);refine ab (fun k=>?_) (fun k3=>?_)
 ·have k:=Xo k;rw[show aB (aa n) t e=(ofK 2,cb) by unfold aB ax;simp[k]];exact⟨rfl,rfl,rfl,rfl,rfl,rfl,rfl⟩
 have k3:¬t.kind=3:=fun q=>k3 (Xd q);refine⟨by rw[Xf k3,Bool.false_or],ab (fun k=>?_) (fun k4=>?_)⟩
 ·have k:t.kind=4:=by rw[Xf k3,Bool.false_or]at k;exact Xo k
  rw[show aB (aa n) t e=(ofK 2,cb) by unfold aB ax;simp[k]];exact⟨rfl,rfl,rfl,rfl,rfl,rfl,rfl⟩
 have k4:¬t.kind=4:=fun q=>k4 (by rw[Xd q,Bool.or_true]);refine ab (fun k=>?_) (fun k5=>?_)
 ·have k:=Xo k;have hK:aB (aa n) t e=((az e.values t.pkg t.name).getD al,if(az e.values t.pkg t.name).isSome=true then cb else⟨110,t.pos⟩):=by unfold aB;simp[k]
  rw[hK]
  cases az e.values t.pkg t.name with
  |none=>exact ab (fun _=>⟨rfl,rfl,rfl⟩) (fun q=>absurd rfl q)
  |some s=>exact ab (fun q=>absurd q Bool.false_ne_true) (fun _=>⟨rfl,rfl,rfl⟩)
 have k5:¬t.kind=5:=fun q=>k5 (Xd q);refine ab (fun k=>?_) (fun k8=>?_)
 ·have k:=Xo k;refine ab (fun k10=>?_) (fun _=>?_)
  ·have:=Xo k10;omega
  ·skip
   refine⟨⟨(0,[]),⟨Nat.zero_le _,rfl,by rw[List.drop_zero];rfl⟩,rfl,by rw[if_neg (by omega)],by rw[if_neg (by omega)],rfl,rfl⟩,?_⟩;rintro⟨j,q⟩ ⟨h1,h2,h3⟩;dsimp only at h1 h2 h3⊢;refine ab (fun c=>?_) (fun c=>?_)
   ·have c:=Xo c;have hj:j<t.parts.length:=by omega
    rw[aA t.parts j (dfl (.st .term)) hj]at h3;simp only[aN]at h3;refine⟨by omega,nx hj (Nat.le_add_right _ _),ab (fun f=>?_) (fun f=>?_)⟩
    ·have f:=ndF f;rw[if_neg f]at h3;rw[hR (.inl k),h3,if_neg (show ¬(q++[],aa n (t.parts.getD j (dfl (.st .term))) e).2.2.err=0 from f)];exact⟨rfl,rfl,rfl⟩
    ·have f:=ndT f;rw[if_pos f]at h3;refine⟨by simp only[List.length_cons,List.length_nil];omega,aL hj ln,(j+1,q++[_]),⟨by dsimp only;omega,by simp[h2],?_⟩,by dsimp only;omega,by dsimp only;omega,rfl,rfl⟩;dsimp only;rw[h3,List.append_assoc];rfl
   ·have c:¬((j:Int)<(t.parts.length:Int)):=fun q=>c (Xd q);have hj:j=t.parts.length:=by omega
    rw[hj,List.drop_length]at h3;simp only[aN,List.append_nil]at h3;rw[hR (.inl k),h3];exact⟨rfl,rfl,rfl,rfl,rfl,rfl,rfl⟩
 have k8:¬t.kind=8:=fun q=>k8 (Xd q);refine⟨by rw[Xf k8,Bool.false_or],ab (fun k=>?_) (fun k10=>?_)⟩
 ·have k:t.kind=10:=by rw[Xf k8,Bool.false_or]at k;exact Xo k
  refine ab (fun _=>?_) (fun q=>absurd (Xd k) q);refine⟨⟨(0,[]),⟨Nat.zero_le _,rfl,by rw[List.drop_zero];rfl⟩,rfl,by rw[if_pos k],by rw[if_pos k],rfl,rfl⟩,?_⟩;rintro⟨j,q⟩ ⟨h1,h2,h3⟩;dsimp only at h1 h2 h3⊢;refine ab (fun c=>?_) (fun c=>?_)
  ·have c:=Xo c;have hj:j<t.parts.length:=by omega
   rw[aA t.parts j (dfl (.st .term)) hj]at h3;simp only[aN]at h3;refine⟨by omega,nx hj (Nat.le_add_right _ _),ab (fun f=>?_) (fun f=>?_)⟩
   ·have f:=ndF f;rw[if_neg f]at h3;rw[hR (.inr k),h3,if_neg (show ¬(q++[],aa n (t.parts.getD j (dfl (.st .term))) e).2.2.err=0 from f)];exact⟨rfl,rfl,rfl⟩
   ·have f:=ndT f;rw[if_pos f]at h3;refine⟨by simp only[List.length_cons,List.length_nil];omega,aL hj ln,(j+1,q++[_]),⟨by dsimp only;omega,by simp[h2],?_⟩,by dsimp only;omega,by dsimp only;omega,rfl,rfl⟩;dsimp only;rw[h3,List.append_assoc];rfl
  ·have c:¬((j:Int)<(t.parts.length:Int)):=fun q=>c (Xd q);have hj:j=t.parts.length:=by omega
   rw[hj,List.drop_length]at h3;simp only[aN,List.append_nil]at h3;rw[hR (.inr k),h3];exact⟨rfl,rfl,rfl,rfl,rfl,rfl,rfl⟩
 have k10:¬t.kind=10:=fun q=>k10 (by rw[Xd q,Bool.or_true]);refine ab (fun k=>?_) (fun k7=>?_)
 ·have k:=Xo k;rw[show aB (aa n) t e=aR (aa n) t e by unfold aB ax;simp[k]];exact⟨⟨rm.k7 k,hz,hf,hv⟩,rfl,rfl,rfl⟩
 have k7:¬t.kind=7:=fun q=>k7 (Xd q);refine ab (fun k=>?_) (fun k9=>?_)
 ·have k:=Xo k;have hp:=rm.k1 (.inl k);have p0:=nx (j:=0) (w:=e.values.length) (by omega) (Nat.le_add_right _ _);have hn:=@sJ n (t.parts.getD 0 ao) e;have hK:aB (aa n) t e=cw (aa n) t e:=by unfold aB ax;simp[k]
  rw[hK,show t.parts.getD 0 (dfl (.st .term))=t.parts.getD 0 ao from rfl];unfold cw;revert hn;generalize aa n (t.parts.getD 0 ao) e=r;intro hn;dsimp only;refine⟨by omega,p0,ab (fun h=>?_) (fun h=>ab (fun h4=>?_) (fun h4=>⟨hn (ndT h),ab (fun h6=>?_) (fun h6=>ab (fun g=>?_) (fun g=>?_))⟩))⟩
  ·rw[if_neg (ndF h)];exact⟨rfl,rfl,rfl⟩
  ·rw[if_pos (ndT h),if_pos (Xo h4)];exact⟨rfl,rfl,rfl⟩
  ·rw[if_pos (ndT h),if_neg (fun q=>h4 (Xd q)),if_neg (fun q=>ndF h6 q.1)];exact⟨rfl,rfl,rfl⟩
  ·rw[if_pos (ndT h),if_neg (fun q=>h4 (Xd q)),if_neg (fun q=>by rw[q.2]at g;exact absurd g Bool.false_ne_true)];exact⟨rfl,rfl,rfl⟩
  ·have g:(aH r.1 t.name).isSome=true:=by
    cases hh:(aH r.1 t.name).isSome with
    |true=>rfl
    |false=>rw[hh]at g;exact absurd rfl g
   rw[if_pos (ndT h),if_neg (fun q=>h4 (Xd q)),if_pos ⟨ndT h6,g⟩];exact⟨rfl,rfl,rfl⟩
 have k9:¬t.kind=9:=fun q=>k9 (Xd q);refine ab (fun k=>?_) (fun k14=>?_)
 ·have k:=Xo k;rw[show aB (aa n) t e=(if(aa n (t.parts.getD 0 ao) e).2.err=0 then aa n (t.parts.getD 1 ao) (bk e [kx t.name (aa n (t.parts.getD 0 ao) e).1])else aa n (t.parts.getD 0 ao) e) by unfold aB ax;simp[k]];have:=rm.k14 k;refine⟨by omega,nx (by omega) (Nat.le_add_right _ _),ab (fun f=>?_) (fun f=>?_)⟩
  ·rw[if_neg (show ¬(aa n (t.parts.getD 0 ao) e).2.err=0 from ndF f)];exact⟨rfl,rfl,rfl⟩
  ·rw[if_pos (show(aa n (t.parts.getD 0 ao) e).2.err=0 from ndT f)];refine⟨by omega,by omega,?_,rfl,rfl,rfl⟩;rw[List.length_append];exact nx (by omega) (by simp)
 have k14:¬t.kind=14:=fun q=>k14 (Xd q);refine ab (fun k=>?_) (fun k16=>?_)
 ·have k:=Xo k;rw[show aB (aa n) t e=cI (aa n) t e by unfold aB ax;simp[k]];exact⟨⟨by have:=rm.k1 (by omega);omega,hz,hf,hv⟩,rfl,rfl,rfl⟩
 have k16:¬t.kind=16:=fun q=>k16 (Xd q);refine ab (fun k=>?_) (fun k17=>?_)
 ·have k:=Xo k;rw[show aB (aa n) t e=cI (aa n) t e by unfold aB ax;simp[k]];exact⟨⟨by have:=rm.k1 (by omega);omega,hz,hf,hv⟩,rfl,rfl,rfl⟩
 have k17:¬t.kind=17:=fun q=>k17 (Xd q);have ka:=rm.all;rw[show aB (aa n) t e=ar (aa n) t e by unfold aB ax;simp[k1,k2,k3,k4,k5,k7,k8,k9,k10,k14,k16,k17]];exact⟨⟨by omega,hz,hf,hv⟩,rfl,rfl,rfl⟩
end Go.AL.Seat
end
section
open Go Go.AL Go.Pd
namespace Go.AL.Seat
theorem A3(t:Trm)(e:Envt)(ht:Wf (.st .term) t)(he:Wf (.st .env) e)(ho:di t=true/\e.values.length<=1000000) :
  di t=true/\if(!decide (cC t=(0:Int)))=true then True/\(0:Int)=(bQ t e).1.kind/\[]=(bQ t e).1.pkg/\[]=(bQ t e).1.name/\(bQ t e).1.names=[]/\(bQ t e).1.parts=[]/\cC t=(bQ t e).2.err/\(0:Int)=(bQ t e).2.pos/\True else(szT t<=szT t/\allT ag t=true/\List.length e.values+(4096:Nat) *szT t<=(100000000:Nat))/\True/\(aa (szT t) t e).1=(bQ t e).1/\(aa (szT t) t e).2.err=(bQ t e).2.err/\(aa (szT t) t e).2.pos=(bQ t e).2.pos/\True:=by
 obtain⟨h1,h2⟩:=ho;refine⟨h1,ab (fun h=>?_) (fun h=>?_)⟩
 ·have h:=ndF h;rw[show bQ t e=(al,⟨cC t,0⟩) by unfold bQ;rw[if_neg h]];exact⟨trivial,rfl,rfl,rfl,rfl,rfl,rfl,rfl,trivial⟩
 ·have h:=ndT h;rw[show bQ t e=aa (szT t) t e by unfold bQ;rw[if_pos h]];have:=(qD h).1;exact⟨⟨Nat.le_refl _,qC h,by omega⟩,trivial,rfl,rfl,rfl,trivial⟩
theorem oL(G:Trm->Envt->Shape×Flt)(N:Nat)(t:Trm)(e:Envt)(ht:Wf (.st .term) t)(he:Wf (.st .env) e)(hf:cK t=true)(hs:di t=true)(hN:sz (G t e).1<=N) :
  if(!jv e)=true then True/\true=true/\True else if(!decide (dx t (300:Int)<=(300:Int)))=true then True/\true=true/\True else(cK t=true/\List.length e.values<=(1000000:Nat))/\(di t=true/\List.length e.values<=(1000000:Nat))/\sz (G t e).1<=N/\if eqS (G t e).1 (G t e).1=true then if(decide ((G t e).2.err=(G t e).2.err)&&(decide ((G t e).2.pos=(G t e).2.pos)&&true))=true then True/\true=true/\True else True/\false=true/\True else True/\false=true/\True:=by
 refine ab (fun _=>⟨trivial,rfl,trivial⟩) (fun h1=>ab (fun _=>⟨trivial,rfl,trivial⟩) (fun h2=>?_));have l1:=yS h1;exact⟨⟨hf,by omega⟩,⟨hs,by omega⟩,hN,ab (fun _=>ab (fun _=>⟨trivial,rfl,trivial⟩) (fun q=>absurd (G3 _ _) q)) (fun q=>absurd (eqS_refl _) q)⟩
end Go.AL.Seat
end
section
open Go Go.AL Go.Proofs Go.Shelf Go.Pd
namespace Go.AL.Seat
open Go.Proofs.Tryz
variable [Tabs]
variable [SeatLaid]
theorem rv(n:Nat)(s:AL.Shape)(hs:Wf (.st .shape) s)(hn:sz s<=n+1)(ho:allS bN s=true)(hb:n<=1000000)(h0:s.names=[])(hA:ak prog 90 (p1 (.st .shape) fun s=>⟨some (sz s<=n/\allS bN s=true),none,.st .shape (sortedS s),[]⟩)):aF prog 90 [.st .shape s] [] (.ret (.st .shape (sortedS s))):=
 g0 (sc (hA) sn) ⟨[(3,fun S0=>⟨Nat,fun k=>k<=s.parts.length,fun k=>[(4,.int .i64 k)],fun k=>[(3,.box (.agg [.int .i64 s.kind,.str s.pkg,.str s.name,.nils,.lst (.st .shape) ((s.parts.take k).map sortedS) (some 702)])),(702,.tail (.st .shape) k)],fun k=>s.parts.length-k⟩),(9,fun S0=>⟨Nat,fun j=>False,fun j=>[],fun j=>[],fun j=>j⟩)],[],[]⟩ func90 (xi n s hs hn ho hb h0)
theorem oz:aJ prog 90:=ee func90
theorem ry(n:Nat)(s:AL.Shape)(hs:Wf (.st .shape) s)(hn:sz s<=n+1)(ho:allS bN s=true)(hb:n<=1000000)(h0:s.names≠[])(hA:ak prog 90 (p1 (.st .shape) fun s=>⟨some (sz s<=n/\allS bN s=true),none,.st .shape (sortedS s),[]⟩)):aF prog 90 [.st .shape s] [] (.ret (.st .shape (sortedS s))):=
 g0 (sc (hA) sn) ⟨[(3,fun S0=>⟨Nat,fun k=>k<=s.parts.length,fun k=>[(4,.int .i64 k)],fun k=>[(3,.box (.agg [.int .i64 s.kind,.str s.pkg,.str s.name,.lst .str (aO s k).1 none,.lst (.st .shape) (aO s k).2 none]))],fun k=>s.parts.length-k⟩),(9,fun S0=>Dp S0 4 fun k0=>⟨Nat,fun j=>j<=(aO s k0.toNat).1.length/\bL (aO s k0.toNat).1 (s.names.getD k0.toNat (dfl .str))=j+bL ((aO s k0.toNat).1.drop j) (s.names.getD k0.toNat (dfl .str)),fun j=>[(6,.int .i64 j)],fun j=>[],fun j=>(aO s k0.toNat).1.length-j⟩)],[],[]⟩ func90 (xj n s hs hn ho hb h0)
theorem xm:∀n:Nat,n<=1000000->ak prog 90 (p1 (.st .shape) fun s=>⟨some (sz s<=n/\allS bN s=true),none,.st .shape (sortedS s),[]⟩):=by
 intro n
 induction n with
 |zero=>exact fun _=>bp oz fun a hs ho=>absurd (ho _ rfl).1 (by have:=dG a;omega)
 |succ n ih=>exact fun hb=>bp oz fun a hs ho=>(Classical.em (a.names=[])).elim (fun h=>rv n a hs (ho _ rfl).1 (ho _ rfl).2 (by omega) h (ih (by omega))) (fun h=>ry n a hs (ho _ rfl).1 (ho _ rfl).2 (by omega) h (ih (by omega)))
theorem oA:ak prog 84 (p2 (.st .shape) .str fun s m=>⟨some (s.names=[]∨s.names.length=s.parts.length),none,.tup [.st .shape ((aH s m).getD al),.bool (aH s m).isSome],[]⟩):=
 bR (ee func84) fun s m hs _ ho=>g0 sn ⟨[(2,fun S0=>⟨Nat,fun k=>k<=s.names.length/\dS (s.names.drop k) (s.parts.drop k) m=aH s m,fun k=>[(6,.int .i64 k)],fun _=>[],fun k=>s.names.length-k⟩)],[],[]⟩ func84 (zT s m hs (ho _ rfl))
theorem xn:aJ prog 255:=ee func255
theorem xo(n:Nat)(a b:Shape)(ha:Wf (.st .shape) a)(hb:Wf (.st .shape) b)(hn:sz a+sz b<=n+1)(oa:allS aj a=true)(ob:allS aj b=true)(hA:ak prog 255 (p2 (.st .shape) (.st .shape) fun a b=>⟨some (sz a+sz b<=n/\allS aj a=true/\allS aj b=true),none,.bool (aD (n) a b),[]⟩)):aF prog 255 [.st .shape a,.st .shape b] [] (⟨some (sz a+sz b<=n+1/\allS aj a=true/\allS aj b=true),none,.bool (aD (n+1) a b),[]⟩):=
 g0 (sc oA (sc (hA) sn)) ⟨[(8,fun S0=>⟨Nat,fun k=>k<=b.names.length/\j0 (aD n) a (b.names.drop k) (b.parts.drop k)=aD (n+1) a b,fun k=>[(5,.int .i64 k)],fun _=>[],fun k=>b.names.length-k⟩),(16,fun S0=>⟨Nat,fun k=>k<=a.names.length/\cz (aD n) true b (a.names.drop k) (a.parts.drop k)=aD (n+1) a b,fun k=>[(8,.int .i64 k)],fun _=>[],fun k=>a.names.length-k⟩),(27,fun S0=>⟨Nat,fun k=>k+1<=a.parts.length/\jG (aD n) (a.parts.drop k) (b.parts.drop k)=aD (n+1) a b,fun k=>[(12,.int .i64 k)],fun _=>[],fun k=>a.parts.length-k⟩)],[],[]⟩ func255 (Fb n a b ha hb hn oa ob)
theorem te:∀n:Nat,ak prog 255 (p2 (.st .shape) (.st .shape) fun a b=>⟨some (sz a+sz b<=n/\allS aj a=true/\allS aj b=true),none,.bool (aD (n) a b),[]⟩)
 |0=>bR xn fun a b _ _ ho=>absurd (dG a) (by have:=(ho _ rfl).1;omega)
 |n+1=>bR xn fun a b ha hb ho=>xo n a b ha hb (ho _ rfl).1 (ho _ rfl).2.1 (ho _ rfl).2.2 (te n)
theorem xp:ak prog 209 (p2 (.st .shape) (.st .shape) fun a b=>.ret (.bool (fc a b))):=
 bR (ee func209) fun a b ha hb _=>g0 (sc ij (sc (te 800) sn)) a0 func209 (zU a b ha hb)
theorem oB:ak prog 82 (p3 (.lst (.st .bind)) .str .str fun l o m=>.ret (.tup [.st .shape ((az l o m).getD al),.bool (az l o m).isSome])):=
 vG (ee func82) fun l o m hl _ _ _=>g0 sn ⟨[(2,fun S0=>⟨Nat,fun k=>k<=l.length/\az l o m=az (l.take k) o m,fun k=>[(8,.int .i64 ((k:Int)-1))],fun _=>[],fun k=>k⟩)],[],[]⟩ func82 (zW l o m hl)
theorem AU:aJ prog 210:=ee func210
theorem A4(n:Nat)(s:AL.Shape)(l:List Bndg)(hs:Wf (.st .shape) s)(hl:Wf (.lst (.st .bind)) l)(hn:sz s<=n+1)(h4:n+1<=400)(hA:ak prog 210 (p2 (.st .shape) (.lst (.st .bind)) fun s l=>⟨some (sz s<=n/\n<=400),none,.tup [.st .shape ((fillS (az l) s).getD al),.bool (fillS (az l) s).isSome],[]⟩)):aF prog 210 [.st .shape s,.lst (.st .bind) l none] [] (⟨some (sz s<=n+1/\n+1<=400),none,.tup [.st .shape ((fillS (az l) s).getD al),.bool (fillS (az l) s).isSome],[]⟩):=
 g0 (sc oB (sc (hA) sn)) ⟨[(5,fun S0=>⟨Nat×List AL.Shape,fun x=>x.1<=s.parts.length/\x.2.length=x.1/\fillL (az l) s.parts=(fillL (az l) (s.parts.drop x.1)).map (x.2++ ·),fun x=>[(7,.int .i64 x.1)],fun x=>[(6,.box (.agg [.int .i64 s.kind,.str s.pkg,.str s.name,.lst .str s.names none,.lst (.st .shape) x.2 (some 701)])),(701,.tail (.st .shape) x.2.length)],fun x=>s.parts.length-x.1⟩)],[],[]⟩ func210 (Gs n s l hs hl hn h4)
theorem xq:∀n:Nat,ak prog 210 (p2 (.st .shape) (.lst (.st .bind)) fun s l=>⟨some (sz s<=n/\n<=400),none,.tup [.st .shape ((fillS (az l) s).getD al),.bool (fillS (az l) s).isSome],[]⟩)
 |0=>bR AU fun s l _ _ ho=>absurd (dG s) (by have:=(ho _ rfl).1;omega)
 |n+1=>bR AU fun s l hs hl ho=>A4 n s l hs hl (ho _ rfl).1 (ho _ rfl).2 (xq n)
theorem rz:ak prog 52 (p1 (.st .shape) fun s=>.ret (.st .shape (aM s))):=
 bp (ee func52) fun s hs _=>g0 (sc ij (sc (xm 400 (by decide)) sn)) a0 func52 (D6 s hs)
theorem rA:ak prog 148 (p2 (.st .shape) (.lst (.st .bind)) fun s l=>.ret (.tup [.st .shape (aq s l).1,.int .i64 (aq s l).2])):=
 bR (ee func148) fun s l hs hl _=>g0 (sc ij (sc (xq 400) (sc rz sn))) a0 func148 (s9 s l hs hl)
theorem jA:ak prog 31 (p2 (.int .i64) (.int .i64) fun e a=>.ret (.agg [.int .i64 e,.int .i64 a])):=
 bR (ee func31) fun e a _ _ _=>g0 sn a0 func31 (Hh e a)
theorem oC:ak prog 85 (p2 (.st .env) (.st .bind) fun e b=>⟨some (e.values.length<=1000000000),none,.st .env (bk e [b]),[]⟩):=
 bR (ee func85) fun e b he _ ho=>g0 sn a0 func85 (zX e b he (ho _ rfl))
theorem oD:aJ prog 32:=ee func32
theorem rB(n:Nat)(t:Trm)(e:Envt)(ht:Wf (.st .term) t)(he:Wf (.st .env) e)(hz:szT t<=n+1)(hf:allT ag t=true)(hv:e.values.length+4096 *szT t<=100000000)(hP:ak prog 50 (p2 (.st .term) (.st .env) fun t e=>⟨some (szT t<=n+1/\allT ag t=true/\e.values.length+4096 *szT t<=100000000),none,.tup [.st .shape (aB (aa n) t e).1,.agg [.int .i64 (aB (aa n) t e).2.err,.int .i64 (aB (aa n) t e).2.pos]],[]⟩)):aF prog 32 [.st .term t,.st .env e] [] (⟨some (szT t<=n+1/\allT ag t=true/\e.values.length+4096 *szT t<=100000000),none,.tup [.st .shape (aa (n+1) t e).1,.agg [.int .i64 (aa (n+1) t e).2.err,.int .i64 (aa (n+1) t e).2.pos]],[]⟩):=
 g0 (sc (hP) (sc jA (sc ij (sc rz sn)))) a0 func32 (xk n t e ht he hz hf hv)
theorem A5:aJ prog 147:=ee func147
theorem sa(n:Nat)(t:Trm)(w:Shape)(e:Envt)(ht:Wf (.st .term) t)(hw:Wf (.st .shape) w)(he:Wf (.st .env) e)(hz:szT t<=n)(hf:allT ag t=true)(hv:e.values.length+4096 *szT t<=100000000)(hA:ak prog 32 (p2 (.st .term) (.st .env) fun t e=>⟨some (szT t<=n/\allT ag t=true/\e.values.length+4096 *szT t<=100000000),none,.tup [.st .shape (aa n t e).1,.agg [.int .i64 (aa n t e).2.err,.int .i64 (aa n t e).2.pos]],[]⟩)):aF prog 147 [.st .term t,.st .shape w,.st .env e] [] (⟨some (szT t<=n/\allT ag t=true/\e.values.length+4096 *szT t<=100000000),none,.agg [.int .i64 (au (aa n) t w e).err,.int .i64 (au (aa n) t w e).pos],[]⟩):=
 g0 (sc (hA) (sc xp (sc jA sn))) a0 func147 (zY n t w e ht hw he hz hf hv)
theorem xr(n:Nat)(hA:ak prog 32 (p2 (.st .term) (.st .env) fun t e=>⟨some (szT t<=n/\allT ag t=true/\e.values.length+4096 *szT t<=100000000),none,.tup [.st .shape (aa n t e).1,.agg [.int .i64 (aa n t e).2.err,.int .i64 (aa n t e).2.pos]],[]⟩)):ak prog 147 (p3 (.st .term) (.st .shape) (.st .env) fun t w e=>⟨some (szT t<=n/\allT ag t=true/\e.values.length+4096 *szT t<=100000000),none,.agg [.int .i64 (au (aa n) t w e).err,.int .i64 (au (aa n) t w e).pos],[]⟩):=
 vG A5 fun t w e ht hw he ho=>sa n t w e ht hw he (ho _ rfl).1 (ho _ rfl).2.1 (ho _ rfl).2.2 hA
theorem A6:aJ prog 83:=ee func83
theorem sb(n:Nat)(t:Trm)(e:Envt)(ht:Wf (.st .term) t)(he:Wf (.st .env) e)(hp:0<t.parts.length)(hz:szT t<=n+1)(hf:allT ag t=true)(hv:e.values.length+4096 *szT t<=100000000)(hA:ak prog 32 (p2 (.st .term) (.st .env) fun t e=>⟨some (szT t<=n/\allT ag t=true/\e.values.length+4096 *szT t<=100000000),none,.tup [.st .shape (aa n t e).1,.agg [.int .i64 (aa n t e).2.err,.int .i64 (aa n t e).2.pos]],[]⟩))(hF:ak prog 147 (p3 (.st .term) (.st .shape) (.st .env) fun t w e=>⟨some (szT t<=n/\allT ag t=true/\e.values.length+4096 *szT t<=100000000),none,.agg [.int .i64 (au (aa n) t w e).err,.int .i64 (au (aa n) t w e).pos],[]⟩)):aF prog 83 [.st .term t,.st .env e] [] (⟨some (0<t.parts.length/\szT t<=n+1/\allT ag t=true/\e.values.length+4096 *szT t<=100000000),none,.tup [.st .shape (aR (aa n) t e).1,.agg [.int .i64 (aR (aa n) t e).2.err,.int .i64 (aR (aa n) t e).2.pos]],[]⟩):=
 g0 (sc (hA) (sc (hF) (sc jA sn))) ⟨[(7,fun S0=>⟨Nat,fun k=>k+1<=t.parts.length/\((aa n (t.parts.getD 0 ao) e).1.kind=4->b6 (aa n) e (ofK 4) (t.parts.drop 1)=b6 (aa n) e (ofK 4) (t.parts.drop (k+1)))/\(¬(aa n (t.parts.getD 0 ao) e).1.kind=4->cv (aa n) e (t.parts.drop 1) (aa n (t.parts.getD 0 ao) e).1.parts=cv (aa n) e (t.parts.drop (k+1)) ((aa n (t.parts.getD 0 ao) e).1.parts.drop k)),fun k=>[(8,.int .i64 ((k:Int)+1))],fun _=>[],fun k=>t.parts.length-k⟩)],[],[]⟩ func83 (zZ n t e ht he hp hz hf hv)
theorem xt(n:Nat)(hA:ak prog 32 (p2 (.st .term) (.st .env) fun t e=>⟨some (szT t<=n/\allT ag t=true/\e.values.length+4096 *szT t<=100000000),none,.tup [.st .shape (aa n t e).1,.agg [.int .i64 (aa n t e).2.err,.int .i64 (aa n t e).2.pos]],[]⟩))(hF:ak prog 147 (p3 (.st .term) (.st .shape) (.st .env) fun t w e=>⟨some (szT t<=n/\allT ag t=true/\e.values.length+4096 *szT t<=100000000),none,.agg [.int .i64 (au (aa n) t w e).err,.int .i64 (au (aa n) t w e).pos],[]⟩)):ak prog 83 (p2 (.st .term) (.st .env) fun t e=>⟨some (0<t.parts.length/\szT t<=n+1/\allT ag t=true/\e.values.length+4096 *szT t<=100000000),none,.tup [.st .shape (aR (aa n) t e).1,.agg [.int .i64 (aR (aa n) t e).2.err,.int .i64 (aR (aa n) t e).2.pos]],[]⟩):=
 bR A6 fun t e ht he ho=>sb n t e ht he (ho _ rfl).1 (ho _ rfl).2.1 (ho _ rfl).2.2.1 (ho _ rfl).2.2.2 hA hF
theorem D8:aJ prog 86:=ee func86
theorem uL(n:Nat)(t:Trm)(e:Envt)(ht:Wf (.st .term) t)(he:Wf (.st .env) e)(hp:0<t.parts.length)(hz:szT t<=n+1)(hf:allT ag t=true)(hv:e.values.length+4096 *szT t<=100000000)(hF:ak prog 147 (p3 (.st .term) (.st .shape) (.st .env) fun t w e=>⟨some (szT t<=n/\allT ag t=true/\e.values.length+4096 *szT t<=100000000),none,.agg [.int .i64 (au (aa n) t w e).err,.int .i64 (au (aa n) t w e).pos],[]⟩)):aF prog 86 [.st .term t,.st .env e] [] (⟨some (0<t.parts.length/\szT t<=n+1/\allT ag t=true/\e.values.length+4096 *szT t<=100000000),none,.tup [.st .shape (cI (aa n) t e).1,.agg [.int .i64 (cI (aa n) t e).2.err,.int .i64 (cI (aa n) t e).2.pos]],[]⟩):=
 g0 (sc (hF) (sc jA sn)) ⟨[(3,fun S0=>⟨Nat,fun k=>k<=e.own.length/\ck e.own t.name=ck (e.own.take k) t.name,fun k=>[(7,.int .i64 ((k:Int)-1))],fun _=>[],fun k=>k⟩)],[],[]⟩ func86 (D7 n t e ht he hp hz hf hv)
theorem A7(n:Nat)(hF:ak prog 147 (p3 (.st .term) (.st .shape) (.st .env) fun t w e=>⟨some (szT t<=n/\allT ag t=true/\e.values.length+4096 *szT t<=100000000),none,.agg [.int .i64 (au (aa n) t w e).err,.int .i64 (au (aa n) t w e).pos],[]⟩)):ak prog 86 (p2 (.st .term) (.st .env) fun t e=>⟨some (0<t.parts.length/\szT t<=n+1/\allT ag t=true/\e.values.length+4096 *szT t<=100000000),none,.tup [.st .shape (cI (aa n) t e).1,.agg [.int .i64 (cI (aa n) t e).2.err,.int .i64 (cI (aa n) t e).2.pos]],[]⟩):=
 bR D8 fun t e ht he ho=>uL n t e ht he (ho _ rfl).1 (ho _ rfl).2.1 (ho _ rfl).2.2.1 (ho _ rfl).2.2.2 hF
theorem xu:aJ prog 87:=ee func87
theorem rC(n:Nat)(t:Trm)(e:Envt)(ht:Wf (.st .term) t)(he:Wf (.st .env) e)(hk:t.kind=6∨t.kind=11∨t.kind=12∨t.kind=13∨t.kind=15)(hz:szT t<=n+1)(hf:allT ag t=true)(hv:e.values.length+4096 *szT t<=100000000)(hA:ak prog 32 (p2 (.st .term) (.st .env) fun t e=>⟨some (szT t<=n/\allT ag t=true/\e.values.length+4096 *szT t<=100000000),none,.tup [.st .shape (aa n t e).1,.agg [.int .i64 (aa n t e).2.err,.int .i64 (aa n t e).2.pos]],[]⟩))(hF:ak prog 147 (p3 (.st .term) (.st .shape) (.st .env) fun t w e=>⟨some (szT t<=n/\allT ag t=true/\e.values.length+4096 *szT t<=100000000),none,.agg [.int .i64 (au (aa n) t w e).err,.int .i64 (au (aa n) t w e).pos],[]⟩)):aF prog 87 [.st .term t,.st .env e] [] (⟨some ((t.kind=6∨t.kind=11∨t.kind=12∨t.kind=13∨t.kind=15)/\szT t<=n+1/\allT ag t=true/\e.values.length+4096 *szT t<=100000000),none,.tup [.st .shape (ar (aa n) t e).1,.agg [.int .i64 (ar (aa n) t e).2.err,.int .i64 (ar (aa n) t e).2.pos]],[]⟩):=
 g0 (sc (hA) (sc (hF) (sc rA (sc jA (sc oC sn))))) ⟨[(3,fun S0=>⟨Nat×List AL.Shape,fun x=>x.1<=t.shapes.length/\x.2.length=x.1/\((ae e.types t.pos (t.shapes.drop x.1)).2.err=0->(ae e.types t.pos t.shapes)=(x.2++(ae e.types t.pos (t.shapes.drop x.1)).1,cb))/\(¬(ae e.types t.pos (t.shapes.drop x.1)).2.err=0->(ae e.types t.pos t.shapes)=ae e.types t.pos (t.shapes.drop x.1)),fun x=>[(7,.int .i64 x.1),(6,.lst (.st .shape) x.2 (some 701))],fun x=>[(701,.tail (.st .shape) x.2.length)],fun x=>t.shapes.length-x.1⟩),(14,fun S0=>⟨Nat×Envt,fun x=>x.1<=t.names.length/\x.2.values.length=e.values.length+x.1/\bk x.2 (cD (t.names.drop x.1) ((ae e.types t.pos t.shapes).1.drop x.1))=bk e (cD t.names (ae e.types t.pos t.shapes).1),fun x=>[(12,.int .i64 x.1)],fun x=>[(11,.box (.st .env x.2))],fun x=>t.names.length-x.1⟩),(22,fun S0=>⟨Nat,fun k=>k<=t.parts.length/\b6 (aa n) e ((ae e.types t.pos t.shapes).1.getD 0 al) (t.parts.drop k)=b6 (aa n) e ((ae e.types t.pos t.shapes).1.getD 0 al) t.parts,fun k=>[(15,.int .i64 k)],fun _=>[],fun k=>t.parts.length-k⟩),(33,fun S0=>⟨Nat×Flt,fun x=>1<=x.1/\x.1<=3/\(x.2.err=0->x.2.pos=0)/\(ar (aa n) t e).2=(if x.2.err=0 then b6 (aa n) e ((ae e.types t.pos t.shapes).1.getD 0 al) (t.parts.drop x.1)else x.2),fun x=>[(18,.int .i64 x.1)],fun x=>[(17,.box (.agg [.int .i64 x.2.err,.int .i64 x.2.pos]))],fun x=>3-x.1⟩),(39,fun S0=>⟨Nat×Flt,fun x=>x.1<=t.names.length/\(x.2.err=0->x.2.pos=0)/\(ar (aa n) t e).2=(if x.2.err=0 then fe (aa n) e ((ae e.types t.pos t.shapes).1.getD ((ae e.types t.pos t.shapes).1.length-1) al) (t.parts.drop (x.1+1)) (t.vars.drop x.1) ((ae e.types t.pos t.shapes).1.drop x.1)else x.2),fun x=>[(20,.int .i64 x.1)],fun x=>[(19,.box (.agg [.int .i64 x.2.err,.int .i64 x.2.pos]))],fun x=>t.names.length-x.1⟩)],[],[(20,fun S0=>⟨[(90,.bool (decide (t.kind=11)||decide (t.kind=15)))],[]⟩)]⟩ func87 (xl n t e ht he hk hz hf hv)
theorem uM(n:Nat)(hA:ak prog 32 (p2 (.st .term) (.st .env) fun t e=>⟨some (szT t<=n/\allT ag t=true/\e.values.length+4096 *szT t<=100000000),none,.tup [.st .shape (aa n t e).1,.agg [.int .i64 (aa n t e).2.err,.int .i64 (aa n t e).2.pos]],[]⟩))(hF:ak prog 147 (p3 (.st .term) (.st .shape) (.st .env) fun t w e=>⟨some (szT t<=n/\allT ag t=true/\e.values.length+4096 *szT t<=100000000),none,.agg [.int .i64 (au (aa n) t w e).err,.int .i64 (au (aa n) t w e).pos],[]⟩)):ak prog 87 (p2 (.st .term) (.st .env) fun t e=>⟨some ((t.kind=6∨t.kind=11∨t.kind=12∨t.kind=13∨t.kind=15)/\szT t<=n+1/\allT ag t=true/\e.values.length+4096 *szT t<=100000000),none,.tup [.st .shape (ar (aa n) t e).1,.agg [.int .i64 (ar (aa n) t e).2.err,.int .i64 (ar (aa n) t e).2.pos]],[]⟩):=
 bR xu fun t e ht he ho=>rC n t e ht he (ho _ rfl).1 (ho _ rfl).2.1 (ho _ rfl).2.2.1 (ho _ rfl).2.2.2 hA hF
theorem A8:aJ prog 50:=ee func50
theorem sd(n:Nat)(t:Trm)(e:Envt)(ht:Wf (.st .term) t)(he:Wf (.st .env) e)(hz:szT t<=n+1)(hf:allT ag t=true)(hv:e.values.length+4096 *szT t<=100000000)(hA:ak prog 32 (p2 (.st .term) (.st .env) fun t e=>⟨some (szT t<=n/\allT ag t=true/\e.values.length+4096 *szT t<=100000000),none,.tup [.st .shape (aa n t e).1,.agg [.int .i64 (aa n t e).2.err,.int .i64 (aa n t e).2.pos]],[]⟩))(hF:ak prog 147 (p3 (.st .term) (.st .shape) (.st .env) fun t w e=>⟨some (szT t<=n/\allT ag t=true/\e.values.length+4096 *szT t<=100000000),none,.agg [.int .i64 (au (aa n) t w e).err,.int .i64 (au (aa n) t w e).pos],[]⟩)):aF prog 50 [.st .term t,.st .env e] [] (⟨some (szT t<=n+1/\allT ag t=true/\e.values.length+4096 *szT t<=100000000),none,.tup [.st .shape (aB (aa n) t e).1,.agg [.int .i64 (aB (aa n) t e).2.err,.int .i64 (aB (aa n) t e).2.pos]],[]⟩):=
 g0 (sc (hA) (sc jA (sc oB (sc oA (sc oC (sc ((xt n hA hF)) (sc ((A7 n hF)) (sc ((uM n hA hF)) sn)))))))) ⟨[(21,fun S0=>⟨Nat×List AL.Shape,fun x=>x.1<=t.parts.length/\x.2.length=x.1/\aN (aa n) e t.parts=(x.2++(aN (aa n) e (t.parts.drop x.1)).1,(aN (aa n) e (t.parts.drop x.1)).2),fun x=>[(10,.int .i64 x.1)],fun x=>[(9,.box (.agg [.int .i64 (if t.kind=10 then 7 else 6),.str [],.str [],.lst .str (if t.kind=10 then[t.name]else t.names) none,.lst (.st .shape) x.2 (some 701)])),(701,.tail (.st .shape) x.2.length)],fun x=>t.parts.length-x.1⟩)],[],[(8,fun S0=>⟨[(30,.bool (decide (t.kind=3)||decide (t.kind=4)))],[]⟩),(16,fun S0=>⟨[(55,.bool (decide (t.kind=8)||decide (t.kind=10)))],[]⟩)]⟩ func50 (A2 n t e ht he hz hf hv)
theorem oE:∀n:Nat,ak prog 32 (p2 (.st .term) (.st .env) fun t e=>⟨some (szT t<=n/\allT ag t=true/\e.values.length+4096 *szT t<=100000000),none,.tup [.st .shape (aa n t e).1,.agg [.int .i64 (aa n t e).2.err,.int .i64 (aa n t e).2.pos]],[]⟩)
 |0=>bR oD fun t e ht he ho=>absurd (fw t) (by have:=(ho _ rfl).1;omega)
 |n+1=>
  have hA:=oE n;have hF:=xr n hA
  bR oD fun t e ht he ho=>rB n t e ht he (ho _ rfl).1 (ho _ rfl).2.1 (ho _ rfl).2.2 (bR A8 fun t e ht he ho=>sd n t e ht he (ho _ rfl).1 (ho _ rfl).2.1 (ho _ rfl).2.2 hA hF)
theorem xw:ak prog 13 (p2 (.st .term) (.st .env) fun t e=>⟨some (di t=true/\e.values.length<=1000000),none,.tup [.st .shape (bQ t e).1,.agg [.int .i64 (bQ t e).2.err,.int .i64 (bQ t e).2.pos]],[]⟩):=
 bR (ee func13) fun t e ht he ho=>g0 (sc zO (sc jA (sc ((oE (szT t))) sn))) a0 func13 (A3 t e ht he (ho _ rfl))
theorem lL(G:Trm->Envt->Shape×Flt)(N:Nat)(t:Trm)(e:Envt)(ht:Wf (.st .term) t)(he:Wf (.st .env) e)(hf:cK t=true)(hs:di t=true)(hN:sz (G t e).1<=N)(hG:ak prog 12 (p2 (.st .term) (.st .env) fun t e=>⟨some (cK t=true/\e.values.length<=1000000),none,.tup [.st .shape (G t e).1,.agg [.int .i64 (G t e).2.err,.int .i64 (G t e).2.pos]],[]⟩))(hR:ak prog 13 (p2 (.st .term) (.st .env) fun t e=>⟨some (di t=true/\e.values.length<=1000000),none,.tup [.st .shape (G t e).1,.agg [.int .i64 (G t e).2.err,.int .i64 (G t e).2.pos]],[]⟩))(hW:ak prog 11 (p0 (.ret (.bool true)))):aF prog 3 [.st .term t,.st .env e] [] (.ret (.bool true)):=
 g0 (sc wx (sc wW (sc (hW) (sc (hG) (sc (hR) (sc (zk N) sn)))))) a0 func3 (oL G N t e ht he hf hs hN)
end Go.AL.Seat
end
noncomputable section
namespace Go.AL
def evN{α:Type}(n:Nat)(k:Nat->α):α:=match n with|0=>k 0|m+1=>k (m+1)
def evI{α:Type}(n:Int)(k:Int->α):α:=match n with|.ofNat m=>evN m fun m=>k (.ofNat m)|.negSucc m=>evN m fun m=>k (.negSucc m)
def evL{α β:Type}:List β->(List β->α)->α
 |[],k=>k []
 |a::r,k=>evL r fun r=>k (a::r)
theorem iD{α:Type}(n:Nat)(k:Nat->α):evN n k=k n:=by cases n<;>rfl
theorem Fc{α:Type}(n:Int)(k:Int->α):evI n k=k n:=by cases n<;>(unfold evI;exact iD _ _)
theorem fL{α β:Type}:∀(l:List β)(k:List β->α),evL l k=k l
 |[],_=>rfl
 |a::r,k=>by rw[evL,fL r]
mutual
def evV{α:Type}:AV->(AV->α)->α
 |.int κ n,k=>evI n fun n=>k (.int κ n)
 |.bool true,k=>k (.bool true)
 |.bool false,k=>k (.bool false)
 |.str s,k=>evL s fun s=>k (.str s)
 |.lst τ xs none,k=>evL xs fun xs=>k (.lst τ xs none)
 |.lst τ xs (some i),k=>evL xs fun xs=>k (.lst τ xs (some i))
 |.row τ xs,k=>evL xs fun xs=>k (.row τ xs)
 |.arr i n w,k=>evN n fun n=>k (.arr i n w)
 |.aptr i n w o,k=>evN n fun n=>evN o fun o=>k (.aptr i n w o)
 |.cptr c,k=>evV c fun c=>k (.cptr c)
 |.agg cs,k=>evVs cs fun cs=>k (.agg cs)
 |.tup cs,k=>evVs cs fun cs=>k (.tup cs)
 |.fn f cs,k=>evVs cs fun cs=>k (.fn f cs)
 |.iface t a,k=>evV a fun a=>k (.iface t a)
 |.lstp τ xs i,k=>evL xs fun xs=>k (.lstp τ xs i)
 |.undef,k=>k .undef
 |.nils,k=>k .nils
 |.ptr i o,k=>k (.ptr i o)
 |.nilp,k=>k .nilp
 |.st n x,k=>k (.st n x)
 |.map i,k=>k (.map i)
 |.bptr i,k=>k (.bptr i)
 |.nilif,k=>k .nilif
 |.nilm,k=>k .nilm
 |.pt n x,k=>k (.pt n x)
 |.tptr τ n i,k=>k (.tptr τ n i)
def evVs{α:Type}:List AV->(List AV->α)->α
 |[],k=>k []
 |a::r,k=>evV a fun a=>evVs r fun r=>k (a::r)
end
mutual
theorem evV_eq{α:Type}:∀(a:AV)(k:AV->α),evV a k=k a
 |.int κ n,k=>by rw[evV,Fc]
 |.bool true,k=>rfl
 |.bool false,k=>rfl
 |.str s,k=>by rw[evV,fL]
 |.lst τ xs none,k=>by rw[evV,fL]
 |.lst τ xs (some i),k=>by rw[evV,fL]
 |.row τ xs,k=>by rw[evV,fL]
 |.arr i n w,k=>by rw[evV,iD]
 |.aptr i n w o,k=>by rw[evV,iD,iD]
 |.cptr c,k=>by rw[evV,evV_eq c]
 |.agg cs,k=>by rw[evV,evVs_eq cs]
 |.tup cs,k=>by rw[evV,evVs_eq cs]
 |.fn f cs,k=>by rw[evV,evVs_eq cs]
 |.iface t a,k=>by rw[evV,evV_eq a]
 |.lstp τ xs i,k=>by rw[evV,fL]
 |.undef,k=>rfl
 |.nils,k=>rfl
 |.ptr _ _,k=>rfl
 |.nilp,k=>rfl
 |.st _ _,k=>rfl
 |.map _,k=>rfl
 |.bptr _,k=>rfl
 |.nilif,k=>rfl
 |.nilm,k=>rfl
 |.pt _ _,k=>rfl
 |.tptr _ _ _,k=>rfl
theorem evVs_eq{α:Type}:∀(l:List AV)(k:List AV->α),evVs l k=k l
 |[],k=>rfl
 |a::r,k=>by rw[evVs,evV_eq a,evVs_eq r]
end
def evA{α:Type}(a:AV)(k:AV->α):α:=
 match a with
 |.int κ n=>evI n fun n=>k (.int κ n)
 |.bool b=>(match b with|true=>k (.bool true)|false=>k (.bool false))
 |.str s=>evL s fun s=>k (.str s)
 |.lst τ xs o=>evL xs fun xs=>(match o with|none=>k (.lst τ xs none)|some i=>k (.lst τ xs (some i)))
 |.row τ xs=>evL xs fun xs=>k (.row τ xs)
 |.arr i n w=>evN n fun n=>k (.arr i n w)
 |.aptr i n w o=>evN n fun n=>evN o fun o=>k (.aptr i n w o)
 |.ptr i o=>evN o fun o=>k (.ptr i o)
 |.cptr c=>evV c fun c=>k (.cptr c)
 |.agg cs=>evVs cs fun cs=>k (.agg cs)
 |.tup cs=>evVs cs fun cs=>k (.tup cs)
 |.fn f cs=>evVs cs fun cs=>k (.fn f cs)
 |.iface t a=>evV a fun a=>k (.iface t a)
 |.lstp τ xs i=>evL xs fun xs=>k (.lstp τ xs i)
 |a=>k a
theorem Hi{α:Type}(a:AV)(k:AV->α):evA a k=k a:=by
 unfold evA;split
 ·exact Fc _ _
 ·split<;>rfl
 ·exact fL _ _
 ·rw[fL];split<;>rfl
 ·exact fL _ _
 ·exact iD _ _
 ·rw[iD,iD]
 ·exact iD _ _
 ·exact evV_eq _ _
 ·exact evVs_eq _ _
 ·exact evVs_eq _ _
 ·exact evVs_eq _ _
 ·exact evV_eq _ _
 ·exact fL _ _
 ·rfl
def evO{α:Type}:SObj->(SObj->α)->α
 |.box c,k=>evV c fun c=>k (.box c)
 |.tail τ n,k=>evN n fun n=>k (.tail τ n)
 |.map κ τ m,k=>evL m fun m=>k (.map κ τ m)
 |.bld t u l,k=>evL l fun l=>k (.bld t u l)
 |.tailp τ n x,k=>evN n fun n=>k (.tailp τ n x)
theorem Hj{α:Type}(o:SObj)(k:SObj->α):evO o k=k o:=by
 cases o with
 |box c=>exact evV_eq _ _
 |tail τ n=>unfold evO;exact iD _ _
 |map κ τ m=>exact fL _ _
 |bld t u l=>exact fL _ _
 |tailp τ n x=>unfold evO;exact iD _ _
def evB{α:Type}:List (Nat×SObj)->(List (Nat×SObj)->α)->α
 |[],k=>k []
 |(i,o)::r,k=>evO o fun o=>evB r fun r=>k ((i,o)::r)
theorem uN{α:Type}:∀(l:List (Nat×SObj))(k:List (Nat×SObj)->α),evB l k=k l
 |[],k=>rfl
 |(i,o)::r,k=>by rw[evB,Hj,uN r]
def evS{α:Type}(s:St)(k:St->α):α:=evL s.t fun t=>evB s.b fun b=>k ⟨t,b⟩
theorem Fe{α:Type}(s:St)(k:St->α):evS s k=k s:=by rw[evS,fL,uN]
theorem D9{ob:Option DP}{q:Prop}(h:okO ob=true)(hq:q):sg ob q:=by
 cases ob with
 |none=>exact hq
 |some d=>exact⟨d.h h,hq⟩
def AW{α:Sort _}(ops:List Oper)(o:Oper)(T:Nat->AV)(bad:α)(on off:Unit->α):α:=
 match o.guard with
 |none=>on ()
 |some (j,want)=>
  match(nth ops j).bind (·.dst)with
  |none=>bad
  |some d=>
   match T d with
   |.bool true=>if want then on ()else off ()
   |.bool false=>if want then off ()else on ()
   |.tup []=>off ()
   |_=>bad
theorem A9{α:Type}{ops:List Oper}{o:Oper}{T:Nat->AV}{y:α}{on off:Unit->Option α}{on' off':Unit->Prop}(hon:on ()=some y->on' ())(hoff:off ()=some y->off' ())
 (h:AW ops o T none on off=some y):AW ops o T False on' off':=by
 unfold AW at h⊢
 cases hg:o.guard with
 |none=>simp only[hg]at h⊢;exact hon h
 |some p=>
  obtain⟨j,want⟩:=p;simp only[hg]at h⊢
  cases hd:(nth ops j).bind (·.dst)with
  |none=>simp only[hd]at h;cases h
  |some d=>
   simp only[hd]at h⊢;generalize T d=v at h⊢;split at h
   ·split at h
    ·rename_i hw;exact(if_pos hw).symm ▸ hon h
    ·rename_i hw;exact(if_neg hw).symm ▸ hoff h
   ·split at h
    ·rename_i hw;exact(if_pos hw).symm ▸ hoff h
    ·rename_i hw;exact(if_neg hw).symm ▸ hon h
   ·exact hoff h
   ·cases h
def gdB(ops:List Oper)(g:Bool)(i:Nat):Bool:=match g with|true=>fN ops i|false=>false
def Ff(ops:List Oper):Bool:=ops.any fun o=>o.guard.isSome
theorem Hk(ops:List Oper)(i:Nat):gdB ops (Ff ops) i=fN ops i:=by
 unfold gdB
 cases h:Ff ops with
 |true=>rfl
 |false=>
  show false=fN ops i;symm;unfold Ff at h;rw[List.any_eq_false]at h;unfold fN;rw[List.any_eq_false];intro o ho;have:=h o ho
  cases hg:o.guard with
  |none=>simp
  |some x=>rw[hg]at this;exact absurd rfl this
def xx(C:Cfg)(ops:List Oper)(g:Bool):List Oper->Nat->St->List dB->Option (St×List dB)
 |[],_,s,fs=>some (s,fs.reverse)
 |o::r,i,s,fs=>
  AW ops o (bq s.t) none
   (fun _=>
    match aP C o (bq s.t) (aG s.b)with
    |none=>none
    |some e=>
     match okO e.ob,dD C o (bq s.t) (aG s.b)with
     |true,none=>
      (match gdB ops g i,e.val with
      |true,.bool b=>(match b with
       |true=>xx C ops g r (i+1) ⟨oI s.t o.dst (.bool true),cJ s.b e.upd⟩ ((ba C o (bq s.t) (aG s.b),e.upd.map (·.1))::fs)
       |false=>xx C ops g r (i+1) ⟨oI s.t o.dst (.bool false),cJ s.b e.upd⟩ ((ba C o (bq s.t) (aG s.b),e.upd.map (·.1))::fs))
      |true,_=>none
      |false,v=>evA v fun v=>xx C ops g r (i+1) ⟨oI s.t o.dst v,cJ s.b e.upd⟩ ((ba C o (bq s.t) (aG s.b),e.upd.map (·.1))::fs))
     |_,_=>none)
   (fun _=>xx C ops g r (i+1) ⟨oI s.t o.dst (.tup []),s.b⟩ (([],[])::fs))
theorem AX{C:Cfg}{ops:List Oper}{draw:Bool}{kp:AV->St->Prop}{k:St->List dB->Prop}{s':St}{fs':List dB}(hk:k s' fs') :
  ∀(l:List Oper)(i:Nat)(s:St)(fs:List dB),xx C ops (Ff ops) l i s fs=some (s',fs')->bZ C ops draw kp l i s fs k
 |[],_,s,fs,h=>by simp only[xx,Xs,Prod.mk.injEq]at h;obtain⟨rfl,rfl⟩:=h;exact hk
 |o::r,i,s,fs,h=>by
  have ih:=AX (C:=C) (ops:=ops) (draw:=draw) (kp:=kp) hk r;rw[xx,Hk]at h
  refine A9 (on':=fun _=>
   match aP C o (bq s.t) (aG s.b)with
   |none=>False
   |some e=>
    sg e.ob
    (match dD C o (bq s.t) (aG s.b)with
    |none=>
     (match fN ops i,e.val with
     |true,.bool b=>
      sp b (bZ C ops draw kp r (i+1) (s.put o.dst {e with val:=.bool true}) ((ba C o (bq s.t) (aG s.b),e.upd.map (·.1))::fs) k)
       (bZ C ops draw kp r (i+1) (s.put o.dst {e with val:=.bool false}) ((ba C o (bq s.t) (aG s.b),e.upd.map (·.1))::fs) k)
     |true,_=>False
     |false,_=>bZ C ops draw kp r (i+1) (s.put o.dst e) ((ba C o (bq s.t) (aG s.b),e.upd.map (·.1))::fs) k)
    |some (b,pv,u)=>
     (match draw||fN ops i with
     |true=>False
     |false=>sp b (kp pv ⟨s.t,cJ s.b u⟩) (bZ C ops draw kp r (i+1) (s.put o.dst e) ((ba C o (bq s.t) (aG s.b),e.upd.map (·.1))::fs) k))))
   (off':=fun _=>bZ C ops draw kp r (i+1) ⟨oI s.t o.dst (.tup []),s.b⟩ (([],[])::fs) k) ?_ (fun h=>ih _ _ _ h) h
  intro h;split at h
  ·cases h
  ·rename_i e he;split at h
   ·rename_i ho hp;refine D9 ho ?_
    try simp only[hp]
    split at h
    ·rename_i b hg hv
     try simp only[hg,hv]
     split at h
     ·exact ih _ _ _ h
     ·exact ih _ _ _ h
    ·cases h
    ·rename_i v hg;simp only[Hi]at h
     try simp only[hg]
     exact ih _ _ _ h
   ·cases h
def Gt(ops:List Oper)(i j:Nat):Bool:=((tB ops).getD j 0).testBit i
def lr:Nat->List dB->List (Nat×dB)
 |_,[]=>[]
 |i,f::r=>match f with|([],[])=>lr (i+1) r|f=>(i,f)::lr (i+1) r
def nw(ops:List Oper):List (Nat×dB)->Bool
 |[]=>true
 | x::r=>r.all (fun p=>Gt ops x.1 p.1||gP x.2 p.2)&&nw ops r
def AY(ops:List Oper):Bool:=
 ((List.range ops.length).all fun j=>(List.range j).all fun i=>Gt ops i j||(match nth ops i,nth ops j with | some x,some y=>pn ops x y | _,_=>false))&&
 (ops.zipIdx.all fun(o,j)=>o.after.all fun e=>!Region.binds .any e||Nat.blt e.on j)
def Aa(ops:List Oper)(fs:List dB):Bool:=AY ops&&ff fs ops.length&&nw ops (lr 0 fs)
theorem rD{α:Type}:∀{l:List α} {i:Nat},i<l.length->∃x,nth l i=some x
 |a::_,0,_=>⟨a,rfl⟩
 |_::r,i+1,h=>rD (l:=r) (Nat.lt_of_succ_lt_succ h)
theorem tg:∀{fs:List dB} {i0 k:Nat} {f:dB},nth fs k=some f->f≠([],[])->(i0+k,f)∈lr i0 fs
 |g::r,i0,0,f,h,hf=>by
  cases h;unfold lr;split
  ·exact absurd rfl hf
  ·exact List.mem_cons_self ..
 |g::r,i0,k+1,f,h,hf=>by
  have ih:=tg (fs:=r) (i0:=i0+1) (k:=k) h hf;rw[show i0+(k+1)=i0+1+k by omega];unfold lr;split
  ·exact ih
  ·exact List.mem_cons_of_mem _ ih
theorem oF{ops:List Oper}:∀{fs:List dB} {i0 a b:Nat} {f g:dB},nw ops (lr i0 fs)=true->a<b->nth fs a=some f->nth fs b=some g->f≠([],[])->g≠([],[])->(Gt ops (i0+a) (i0+b)||gP f g)=true
 |x::r,i0,0,b+1,f,g,h,_,hf,hg,h1,h2=>by
  cases hf;have hm:=tg (fs:=r) (i0:=i0+1) (k:=b) hg h2;unfold lr at h;split at h
  ·exact absurd rfl h1
  ·unfold nw at h;rw[Bool.and_eq_true,List.all_eq_true]at h;have:=h.1 _ hm
   rwa [show i0+1+b=i0+(b+1) by omega]at this
 |x::r,i0,a+1,b+1,f,g,h,hab,hf,hg,h1,h2=>by
  have hr:nw ops (lr (i0+1) r)=true:=by
   unfold lr at h;split at h
   ·exact h
   ·unfold nw at h;rw[Bool.and_eq_true]at h;exact h.2
  have:=oF (fs:=r) (i0:=i0+1) (a:=a) (b:=b) hr (by omega) hf hg h1 h2
  rwa [show i0+1+a=i0+(a+1) by omega,show i0+1+b=i0+(b+1) by omega]at this
theorem Ab(g:dB):gP ([],[]) g=true:=by unfold gP uV;simp
theorem xy(f:dB):gP f ([],[])=true:=by unfold gP uV;simp
theorem mB{α:Type}:∀{l:List α} {n:Nat},ff l n=true->l.length=n
 |[],0,_=>rfl
 |_::r,n+1,h=>by rw[List.length_cons,mB (l:=r) h]
theorem Da{ops:List Oper}{fs:List dB}(h:Aa ops fs=true):eA ops fs=true:=by
 unfold Aa AY at h;simp only[Bool.and_eq_true,List.all_eq_true,List.mem_range]at h;obtain⟨⟨⟨h1,h2⟩,h3⟩,h4⟩:=h;have hl:=mB h3;unfold eA;rw[Bool.and_eq_true];refine⟨?_,by rw[List.all_eq_true];intro p hp;have:=h2 p hp;exact(by obtain⟨o,j⟩:=p;simpa using this)⟩;rw[List.all_eq_true];intro j hj;rw[List.all_eq_true];intro i hi;rw[List.mem_range]at hj hi;have k:=h1 j hj i hi;rw[Bool.or_eq_true]at k⊢;rcases k with k|k
 ·exact .inl k
 obtain⟨x,hx⟩:=rD (l:=ops) (i:=i) (by omega);obtain⟨y,hy⟩:=rD (l:=ops) (i:=j) hj;obtain⟨f,hf⟩:=rD (l:=fs) (i:=i) (by omega);obtain⟨g,hg⟩:=rD (l:=fs) (i:=j) (by omega);rw[hx,hy]at k;rw[hx,hy,hf,hg]
 have q:Gt ops i j=true∨gP f g=true:=by
  by_cases c1:f=([],[])
  ·rw[c1];exact .inr (Ab g)
  ·by_cases c2:g=([],[])
   ·rw[c2];exact .inr (xy f)
   ·have:=oF h4 hi hf hg c1 c2;rw[Nat.zero_add,Nat.zero_add,Bool.or_eq_true]at this;exact this
 rcases q with q|q
 ·exact .inl q
 ·exact .inr (by rw[Bool.and_eq_true];exact⟨k,q⟩)
end Go.AL
end
noncomputable section
namespace Go.AL
variable [Tabs]
def Fg:List (Nat×SObj)->Nat->Nat
 |[],m=>m *1000+998
 |(i,_)::r,m=>Fg r (match Nat.ble m (i/1000)with|true=>i/1000+1|false=>m)
def uO:List Nat->St->Option St
 |[],s=>some s
 |i::r,s=>(match FD i (Fg s.b 100) s with|some s=>uO r s|none=>none)
theorem mC{F:Fr}{a:Act}:∀(l:List Nat) {s s':St} {Ω:Om},Holds F s.abs a Ω->uO l s=some s'->∃Ω',Ω'.w=Ω.w/\Holds F s'.abs a Ω'
 |[],s,s',Ω,h,hr=>by cases hr;exact⟨Ω,rfl,h⟩
 |i::r,s,s',Ω,h,hr=>by
  unfold uO at hr;split at hr
  ·rename_i s1 h1;obtain⟨Ω1,e1,g1⟩:=qb h h1;obtain⟨Ω2,e2,g2⟩:=mC r g1 hr;exact⟨Ω2,e2.trans e1,g2⟩
  ·cases hr
def Ac(ops:List Oper)(s:St):Option St:=
 match enter ops s with
 |some s'=>some s'
 |none=>(match uO ((s.b.map (·.1)).filter fun i=>Ar (pr ops) (tC ops) i&&!bU i) s with|some s'=>enter ops s'|none=>none)
theorem uP{F:Fr}{ops:List Oper}{s s':St}{a:Act}{Ω:Om}(h:Holds F s.abs a Ω)(he:Ac ops s=some s'):∃Ω',Ω'.w=Ω.w/\Holds F s'.abs a Ω':=by
 unfold Ac at he;split at he
 ·rename_i s1 h1;cases he;exact jZ h h1
 ·split at he
  ·rename_i s1 h1;obtain⟨Ω1,e1,g1⟩:=mC _ h h1;obtain⟨Ω2,e2,g2⟩:=jZ g1 he;exact⟨Ω2,e2.trans e1,g2⟩
  ·cases he
end Go.AL
end
noncomputable section
namespace Go.AL
def Fh(k:Nat)(s:St):Option St:=
 match aG s.b k with
 |some (.tailp τ n x)=>
  if((s.t.flatMap (fun y=>lensV k y.2)++s.b.flatMap (fun y=>Gy k y.2)).all fun m=>Nat.beq m n)=true then
   some ⟨s.t.map fun y=>(y.1,finV k τ x y.2),(oH s.b k (.tail τ (n+1))).map fun y=>(y.1,B8 k τ x y.2)⟩else none
 |_=>some s
def AZ:List Nat->St->Option St
 |[],s=>some s
 |k::r,s=>(match Fh k s with|some s=>AZ r s|none=>none)
theorem th{n:Nat}{q:Prop}(hq:q):∀l:List Nat,(l.all fun m=>Nat.beq m n)=true->tD n l q
 |[],_=>hq
 |m::r,h=>by rw[List.all_cons,Bool.and_eq_true]at h;exact⟨Nat.eq_of_beq_eq_true h.1,th hq r h.2⟩
theorem Fi{k:Nat}{s s':St}{Q:St->Prop}(h:Fh k s=some s')(hq:Q s'):xO k s Q:=by
 unfold Fh at h;unfold xO;generalize hb:aG s.b k=b at h⊢
 cases b with
 |none=>cases h;exact hq
 |some o=>
  cases o with
  |tailp τ n x=>
   dsimp only at h⊢;split at h
   ·rename_i ha;cases h;exact th hq _ ha
   ·cases h
  |_=>cases h;exact hq
theorem xz{Q:St->Prop}{s':St}(hq:Q s'):∀(l:List Nat)(s:St),AZ l s=some s'->xP l s Q
 |[],s,h=>by cases h;exact hq
 |k::r,s,h=>by
  unfold AZ at h;split at h
  ·rename_i s1 h1;exact Fi h1 (xz hq r s1 h)
  ·cases h
def trimM(keep:Nat)(s:St):St:=⟨s.t.filter fun x=>Nat.beq (Nat.land (Nat.shiftRight keep x.1) 1) 1,s.b⟩
def Hl(C:Cfg)(keep:Nat)(ops:Array Oper)(draw:Bool)(s:St):Option St:=
 match xx C ops.toList (Ff ops.toList) ops.toList 0 s []with
 |none=>none
 |some (s,fs)=>
  match AZ (oR s.b) s with
  |none=>none
  |some s=>
   match draw with
   |false=>evS (trimM keep s) some
   |true=>(match Aa ops.toList fs with|true=>evS (trimM keep s) some|false=>none)
theorem Holds.trimM[Tabs]{F:Fr}{s:St}{a:Act}{Ω:Om}(h:Holds F s.abs a Ω)(keep:Nat):Holds F (trimM keep s).abs a Ω:=by
 refine⟨fun i=>?_,h.size,h.defers,h.slots,h.dom,h.inj,h.pubok,h.keep,h.frame⟩;have e:(AL.trimM keep s).abs.T i=if Nat.beq (Nat.land (Nat.shiftRight keep i) 1) 1=true then bq s.t i else .undef:=iu s.t (fun i=>Nat.beq (Nat.land (Nat.shiftRight keep i) 1) 1) i
 rw[e];split
 ·exact h.tmps i
 ·exact .undef _
theorem Ad[Tabs]{P:Program}{C:Cfg}{F:Fr}(hm:P.follows .mixedOrders=true)(hT:bz P C.tbl)(hS:cn P C.spec){keep:Nat}{id:Nat}{ops:Array Oper}{draw:Bool}{s s':St}{a:Act}{Ω:Om}
 (hdst:∀(o:Oper),o∈ops.toList->∀d,o.dst=some d->d<F.n)(h:Hl C keep ops draw s=some s')(hh:Holds F s.abs a Ω):(Code.region id ops draw).wp P (QL F fun y t=>y=.normal/\t=s') a Ω.w:=by
 have key:bZ C ops.toList draw (fun _ _=>False) ops.toList 0 s [] fun s2 fs=>GR s2 fun s3=>s'=trimM keep s3/\(draw=true->eA ops.toList fs=true):=by
  unfold Hl at h;split at h
  ·cases h
  ·rename_i s1 fs h1;refine AX ?_ _ _ _ _ h1;split at h
   ·cases h
   ·rename_i s2 h2;refine xz ?_ _ _ h2;split at h
    ·rw[Fe]at h;cases h;exact⟨rfl,fun q=>by cases q⟩
    ·split at h
     ·rename_i hi;rw[Fe]at h;cases h;exact⟨rfl,fun _=>Da hi⟩
     ·cases h
 refine lZ hm hT hS hdst key (fun hdr s2 fs hk=>let ⟨s3,h3⟩:=mX _ hk;h3.2 hdr) hh (fun s2 fs a' Ω' hk h'=>
   let ⟨s3,Ω3,g1,g2,g3⟩:=q9 h' hk
   ⟨.normal,trimM keep s3,Ω3,rfl,g1,g2.trimM keep,rfl,g3.1.symm⟩)
  (fun pv s2 a' Ω' v hk _ _=>hk.elim)
def B0(f:St->Option (SX×St)):Nat->St->Option (SX×St)
 |0,_=>none
 |n+1,s=>
  match f s with
  |some (.normal,s')=>B0 f n s'
  |r=>r
def j6(C:Cfg)(keep:Nat)(pubs:List (Nat×List Nat))(N:Nat):Code->St->Option (SX×St)
 |.skip,s=>some (.normal,s)
 |.seq a b,s=>
  (match j6 C keep pubs N a s with
  |some (.normal,s')=>j6 C keep pubs N b s'
  |r=>r)
 |.cond c a b,s=>
  (match opd (bq s.t) c with
  |.bool true=>j6 C keep pubs N a s
  |.bool false=>j6 C keep pubs N b s
  |_=>none)
 |.block id c,s=>
  (match j6 C keep pubs N c s with
  |some (.exit j,s')=>if j ==id then some (.normal,s')else some (.exit j,s')
  |r=>r)
 |.exit id,s=>some (.exit id,s)
 |.scope c,s=>j6 C keep pubs N c s
 |.label _,s=>some (.normal,s)
 |.ret,s=>some (.ret,s)
 |.region id ops draw,s=>
  (match mJ (uX pubs id) s with
  |none=>none
  |some s=>
   match Ac ops.toList s with
   |none=>none
   |some s=>
    match Hl C keep ops draw s with
    |some s=>some (.normal,s)
    |none=>none)
 |.loop c,s=>B0 (j6 C keep pubs N c) N s
 |_,_=>none
variable [Tabs]
variable {P:Program} {C:Cfg} {F:Fr}
theorem Ae(hm:P.follows .mixedOrders=true)(hT:bz P C.tbl)(hS:cn P C.spec)(keep:Nat)(pubs:List (Nat×List Nat))(N:Nat) :
  ∀(c:Code)(s:St)(x:SX)(s':St)(a:Act)(Ω:Om),j6 C keep pubs N c s=some (x,s')->bW F.n c=true->Holds F s.abs a Ω->c.wp P (QL F fun y t=>y=x/\t=s') a Ω.w:=by
 intro c
 induction c with
 |skip=>intro s x s' a Ω h _ hh;cases h;exact wp_skip ⟨.normal,s,Ω,rfl,rfl,hh,rfl,rfl⟩
 |region id ops draw=>
  intro s x s' a Ω h hd hh;unfold j6 at h;split at h
  ·cases h
  ·rename_i s0 h0;obtain⟨Ω0,e0,g0⟩:=jo _ hh h0;split at h
   ·cases h
   ·rename_i s1 h1;obtain⟨Ω1,e1,g1⟩:=uP g0 h1;have hdst:∀(o:Oper),o∈ops.toList->∀d,o.dst=some d->d<F.n:=by intro o ho d hod;simp only[bW,List.all_eq_true]at hd;have:=hd o ho;rw[hod]at this;simpa using this
    split at h
    ·rename_i s2 h2;cases h;rw[<-e0,<-e1];exact Ad hm hT hS hdst h2 g1
    ·cases h
 |seq x y ihx ihy=>
  intro s z s' a Ω h hd hh;simp only[bW,Bool.and_eq_true]at hd;unfold j6 at h
  cases h1:j6 C keep pubs N x s with
  |none=>rw[h1]at h;cases h
  |some r=>
   obtain⟨e1,s1⟩:=r;rw[h1]at h;refine wp_seq (wp_mono (ihx s e1 s1 a Ω h1 hd.1 hh) ?_);intro e a' w' hq;obtain⟨e2,s2,Ω',g1,g2,g3,g4,g5⟩:=hq;subst g2 g4 g5
   cases e2 with
   |normal=>cases g1;exact ihy _ z s' a' Ω' h hd.2 g3
   |exit id=>cases g1;cases h;exact⟨.exit id,_,Ω',rfl,rfl,g3,rfl,rfl⟩
   |ret=>cases g1;cases h;exact⟨.ret,_,Ω',rfl,rfl,g3,rfl,rfl⟩
   |pan pv=>obtain⟨v,rfl,hv⟩:=g1;cases h;exact⟨.pan pv,_,Ω',⟨v,rfl,hv⟩,rfl,g3,rfl,rfl⟩
 |cond c x y ihx ihy=>
  intro s z s' a Ω h hd hh;simp only[bW,Bool.and_eq_true]at hd;unfold j6 at h;have hv:=bG hh c;split at h
  ·rename_i hb;have hb':opd s.abs.T c=.bool true:=hb;rw[hb']at hv;exact wp_cond hv.bool_inv (ihx _ z s' a Ω h hd.1 hh)
  ·rename_i hb;have hb':opd s.abs.T c=.bool false:=hb;rw[hb']at hv;exact wp_cond hv.bool_inv (ihy _ z s' a Ω h hd.2 hh)
  ·cases h
 |block id c ih=>
  intro s z s' a Ω h hd hh;simp only[bW]at hd;unfold j6 at h
  cases h1:j6 C keep pubs N c s with
  |none=>rw[h1]at h;cases h
  |some r=>
   obtain⟨e1,s1⟩:=r;rw[h1]at h;refine wp_block (wp_mono (ih s e1 s1 a Ω h1 hd hh) ?_);intro e a' w' hq;obtain⟨e2,s2,Ω',g1,g2,g3,g4,g5⟩:=hq;subst g2 g4 g5
   cases e2 with
   |normal=>cases g1;cases h;exact⟨.normal,_,Ω',rfl,rfl,g3,rfl,rfl⟩
   |ret=>cases g1;cases h;exact⟨.ret,_,Ω',rfl,rfl,g3,rfl,rfl⟩
   |pan pv=>obtain⟨v,rfl,hv⟩:=g1;cases h;exact⟨.pan pv,_,Ω',⟨v,rfl,hv⟩,rfl,g3,rfl,rfl⟩
   |exit j=>
    cases g1;simp only[yt,Exit.inBlock];by_cases hj:j=id
    ·subst hj;simp only[beq_self_eq_true,if_true]at h;cases h;simp only[if_true];exact⟨.normal,_,Ω',rfl,rfl,g3,rfl,rfl⟩
    ·simp only[beq_iff_eq,hj,if_false]at h;cases h;rw[if_neg hj];exact⟨.exit j,_,Ω',rfl,rfl,g3,rfl,rfl⟩
 |loop c ih=>
  intro s z s' a Ω h hd hh;simp only[bW]at hd;unfold j6 at h;refine wp_loop_rounds N ?_
  have key:∀(n:Nat)(s:St)(a:Act)(Ω:Om),B0 (j6 C keep pubs N c) n s=some (z,s')->Holds F s.abs a Ω->Code.rounds P c (QL F fun y t=>y=z/\t=s') n a Ω.w:=by
   intro n
   induction n with
   |zero=>intro s a Ω h _;cases h
   |succ n ihn=>
    intro s a Ω h hh;rw[rounds_succ];unfold B0 at h
    cases h1:j6 C keep pubs N c s with
    |none=>rw[h1]at h;cases h
    |some r=>
     obtain⟨e1,s1⟩:=r;rw[h1]at h;refine wp_mono (ih s e1 s1 a Ω h1 hd hh) ?_;intro e a' w' hq;obtain⟨e2,s2,Ω',g1,g2,g3,g4,g5⟩:=hq;subst g2 g4 g5
     cases e2 with
     |normal=>cases g1;exact ihn _ a' Ω' h g3
     |exit id=>cases g1;cases h;exact⟨.exit id,_,Ω',rfl,rfl,g3,rfl,rfl⟩
     |ret=>cases g1;cases h;exact⟨.ret,_,Ω',rfl,rfl,g3,rfl,rfl⟩
     |pan pv=>obtain⟨v,rfl,hv⟩:=g1;cases h;exact⟨.pan pv,_,Ω',⟨v,rfl,hv⟩,rfl,g3,rfl,rfl⟩
  exact key N s a Ω h hh
 |exit id=>intro s x s' a Ω h _ hh;cases h;exact wp_exit ⟨.exit id,s,Ω,rfl,rfl,hh,rfl,rfl⟩
 |ret=>intro s x s' a Ω h _ hh;cases h;exact wp_ret ⟨.ret,s,Ω,rfl,rfl,hh,rfl,rfl⟩
 |rangeFunc g ps x y _ _=>intro s z s' a Ω h;cases h
 |scope c ih=>
  intro s z s' a Ω h hd hh;simp only[bW]at hd;unfold j6 at h;refine wp_scope_straight (wp_mono (ih s z s' a Ω h hd hh) ?_);intro e a' w' hq;obtain⟨e2,s2,Ω',h1,h2,h3,h4⟩:=hq
  cases e2 with
  |normal=>cases h1;exact⟨.normal,_,Ω',rfl,h2,h3,h4⟩
  |exit id=>cases h1;exact⟨.exit id,_,Ω',rfl,h2,h3,h4⟩
  |ret=>cases h1;exact⟨.ret,_,Ω',rfl,h2,h3,h4⟩
  |pan pv=>obtain⟨v,rfl,hv⟩:=h1;exact⟨.pan pv,_,Ω',⟨v,rfl,hv⟩,h2,h3,h4⟩
 |label l=>intro s x s' a Ω h _ hh;cases h;exact wp_label ⟨.normal,s,Ω,rfl,rfl,hh,rfl,rfl⟩
 |goto l=>intro s z s' a Ω h;cases h
 |refuse why=>intro s z s' a Ω h;cases h
end Go.AL
end
noncomputable section
namespace Go.AL
variable [Tabs]
mutual
def fineV:AV->Bool
 |.lstp _ _ _=>false
 |.tptr _ _ _=>false
 |.cptr c=>fineV c
 |.agg cs=>fineVs cs
 |.tup cs=>fineVs cs
 |.fn _ cs=>fineVs cs
 |.iface _ a=>fineV a
 |_=>true
def fineVs:List AV->Bool
 |[]=>true
 |a::r=>fineV a&&fineVs r
end
def GI:SObj->Bool
 |.box c=>fineV c
 |.tailp _ _ _=>false
 |_=>true
mutual
def strip:AV->AV
 |.lst τ xs _=>.lst τ xs none
 |.agg cs=>.agg (strips cs)
 |.tup cs=>.tup (strips cs)
 |a=>a
def strips:List AV->List AV
 |[]=>[]
 |a::r=>strip a::strips r
end
theorem lM(τ:Ty)(xs:List (den τ)):fR τ τ xs=some xs:=by simp[fR]
theorem Af(n:SN)(x:SD n):jH n n x=some x:=by simp[jH]
theorem Ag(n:SN)(x:Option (SD n)):nz n n x=some x:=by simp[nz]
theorem rE(a:AV):sh a a:=by cases a<;>trivial
mutual
theorem LeV_self(G:List Nat):∀a:AV,fineV a=true->LeV G a a
 |.undef,_=>cq (by simp[LeF])
 |.int k n,_=>cq (by simp[LeF])
 |.bool b,_=>cq (by simp[LeF])
 |.str s,_=>cq (by simp[LeF])
 |.lst τ xs o,_=>cq (by simp[LeF,lM])
 |.nils,_=>cq (by simp[LeF])
 |.ptr i o,_=>cq (by simp[LeF])
 |.nilp,_=>cq (by simp[LeF])
 |.pt n x,_=>cq (by simp[LeF,Ag])
 |.st n x,_=>cq (by simp[LeF,Af])
 |.row τ xs,_=>cq (by simp[LeF,lM])
 |.arr i n w,_=>cq (by simp[LeF])
 |.aptr i n w o,_=>cq (by simp[LeF])
 |.map i,_=>cq (by simp[LeF])
 |.bptr i,_=>cq (by simp[LeF])
 |.nilif,_=>cq (by simp[LeF])
 |.nilm,_=>cq (by simp[LeF])
 |.cptr c,h=>by simp only[fineV]at h;unfold LeV;exact⟨rE c,LeV_self G c h⟩
 |.agg cs,h=>by simp only[fineV]at h;unfold LeV;exact LeL_self G cs h
 |.tup cs,h=>by simp only[fineV]at h;unfold LeV;exact LeL_self G cs h
 |.fn f cs,h=>by simp only[fineV]at h;unfold LeV;exact⟨by simp,LeL_self G cs h⟩
 |.iface t a,h=>by simp only[fineV]at h;unfold LeV;exact⟨by simp,LeV_self G a h⟩
 |.lstp _ _ _,h=>by cases h
 |.tptr _ _ _,h=>by cases h
theorem LeL_self(G:List Nat):∀l:List AV,fineVs l=true->LeL G l l
 |[],_=>by unfold LeL;trivial
 |a::r,h=>by simp only[fineVs,Bool.and_eq_true]at h;unfold LeL;exact⟨LeV_self G a h.1,LeL_self G r h.2⟩
end
mutual
theorem LeV_strip(G:List Nat):∀a:AV,fineV a=true->LeV G a (strip a)
 |.lst τ xs o,_=>by unfold strip;exact cq (by simp[LeF,lM])
 |.agg cs,h=>by simp only[fineV]at h;unfold strip LeV;exact LeL_strip G cs h
 |.tup cs,h=>by simp only[fineV]at h;unfold strip LeV;exact LeL_strip G cs h
 |.undef,h=>LeV_self G _ h
 |.int k n,h=>LeV_self G _ h
 |.bool b,h=>LeV_self G _ h
 |.str s,h=>LeV_self G _ h
 |.nils,h=>LeV_self G _ h
 |.ptr i o,h=>LeV_self G _ h
 |.nilp,h=>LeV_self G _ h
 |.pt n x,h=>LeV_self G _ h
 |.st n x,h=>LeV_self G _ h
 |.row τ xs,h=>LeV_self G _ h
 |.arr i n w,h=>LeV_self G _ h
 |.aptr i n w o,h=>LeV_self G _ h
 |.map i,h=>LeV_self G _ h
 |.bptr i,h=>LeV_self G _ h
 |.nilif,h=>LeV_self G _ h
 |.nilm,h=>LeV_self G _ h
 |.cptr c,h=>LeV_self G _ h
 |.fn f cs,h=>LeV_self G _ h
 |.iface t a,h=>LeV_self G _ h
 |.lstp _ _ _,h=>by cases h
 |.tptr _ _ _,h=>by cases h
theorem LeL_strip(G:List Nat):∀l:List AV,fineVs l=true->LeL G l (strips l)
 |[],_=>by unfold strips LeL;trivial
 |a::r,h=>by simp only[fineVs,Bool.and_eq_true]at h;unfold strips LeL;exact⟨LeV_strip G a h.1,LeL_strip G r h.2⟩
end
theorem xA{G:List Nat}{s:St}:∀(l l':List AV)(k:Nat),LeL G l l'->(∀j,bq s.t (k+j)=l.getD j .undef)->LeT G s (dr k l')
 |[],[],k,_,_=>trivial
 |a::r,b::r',k,h,hg=>by
  unfold LeL at h;refine⟨?_,xA r r' (k+1) h.2 fun j=>?_⟩
  ·have:=hg 0;rw[Nat.add_zero]at this;rw[this];exact h.1
  ·have:=hg (j+1);rw[show k+1+j=k+(j+1) by omega,this];rfl
 |[],_::_,_,h,_=>by unfold LeL at h;exact h.elim
 |_::_,[],_,h,_=>by unfold LeL at h;exact h.elim
theorem kC{G:List Nat}{s:St}:∀l:List (Nat×SObj),(∀x∈l,aG s.b x.1=some x.2/\GI x.2=true)->LeB G s l
 |[],_=>trivial
 |(i,.box c)::r,h=>by obtain⟨h1,h2⟩:=h _ (List.mem_cons_self ..);refine⟨?_,kC r fun x hx=>h x (List.mem_cons_of_mem _ hx)⟩;simp only at h1;rw[h1];exact⟨rE c,LeV_self G c h2⟩
 |(i,.tail τ n)::r,h=>by obtain⟨h1,h2⟩:=h _ (List.mem_cons_self ..);refine⟨?_,kC r fun x hx=>h x (List.mem_cons_of_mem _ hx)⟩;simp only at h1;rw[h1];simp
 |(i,.map κ τ m)::r,h=>by obtain⟨h1,h2⟩:=h _ (List.mem_cons_self ..);refine⟨?_,kC r fun x hx=>h x (List.mem_cons_of_mem _ hx)⟩;simp only at h1;rw[h1];simp[As]
 |(i,.bld t u l)::r,h=>by obtain⟨h1,h2⟩:=h _ (List.mem_cons_self ..);refine⟨?_,kC r fun x hx=>h x (List.mem_cons_of_mem _ hx)⟩;simp only at h1;rw[h1];simp
 |(i,.tailp τ n x)::r,h=>by obtain⟨h1,h2⟩:=h _ (List.mem_cons_self ..);cases h2
end Go.AL
end
noncomputable section
namespace Go.AL
def oG(S:List (Nat×SObj))(x:Nat×SObj):Bool:=match aG S x.1 with|some o=>eqO o x.2|none=>false
def Fj:List AV->AV
 |[a]=>a
 |l=>.tup l
def Fk(s:St)(l:List AV):List (Nat×SObj):=
 s.b.filter fun x=>bU x.1||(iK (aG s.b) 64 (ids.idsL l++(aW s.b).filter bU) []).contains x.1
def Hm:Bool->List AV->List AV
 |true,l=>l
 |false,l=>strips l
def Fl(tok:Bool)(S:List (Nat×SObj))(s:St)(l:List AV):Option Ans:=
 evVs (Hm tok l) fun l'=>evB (Fk s l') fun kept=>
  match fineVs l&&(kept.all (fun x=>GI x.2))&&bw (aW s.b)&&(aW S).all (fun i=>(aW kept).contains i)&&
    (dP ((aW s.b).filter fun i=>!(aW kept).contains i) ⟨dr 0 l',kept⟩&&((aW s.b).filter fun i=>!(aW kept).contains i).all (fun i=>!bU i))with
  |true=>some ⟨none,none,Fj l',kept.filter fun x=>!oG S x⟩
  |false=>none
theorem oZ:∀{l:List (Nat×SObj)},bw (aW l)=true->∀{i:Nat} {o:SObj},(i,o)∈l->aG l i=some o
 |[],_,_,_,h=>by cases h
 |(j,u)::r,hd,i,o,h=>by
  simp only[aW,List.map_cons,bw,Bool.and_eq_true,Bool.not_eq_true',List.contains_eq_mem,decide_eq_false_iff_not]at hd;rcases List.mem_cons.1 h with e|e
  ·cases e;simp[bd,aX]
  ·have hne:¬j=i:=fun q=>hd.1 (List.mem_map.2 ⟨_,e,q.symm⟩);simp only[bd,aX,beq_iff_eq,hne,if_false];exact oZ hd.2 e
theorem gi(p:Nat×SObj->Bool):∀{l:List (Nat×SObj)},bw (aW l)=true->bw (aW (l.filter p))=true
 |[],_=>rfl
 |x::r,hd=>by
  simp only[aW,List.map_cons,bw,Bool.and_eq_true,Bool.not_eq_true',List.contains_eq_mem,decide_eq_false_iff_not]at hd;have ih:=gi p hd.2;rw[List.filter_cons];split
  ·simp only[aW,List.map_cons,bw,Bool.and_eq_true,Bool.not_eq_true',List.contains_eq_mem,decide_eq_false_iff_not];refine⟨fun h=>hd.1 ?_,ih⟩;obtain⟨y,hy,e⟩:=List.mem_map.1 h;exact List.mem_map.2 ⟨y,(List.mem_filter.1 hy).1,e⟩
  ·exact ih
variable [Tabs]
theorem Fm{l:List (Nat×SObj)}{i:Nat}(h:aG l i=none):i∉aW l:=iS l i h
theorem rF{l:List (Nat×SObj)}{i:Nat}(h:i∉aW l):aG l i=none:=by
 cases hb:aG l i with
 |none=>rfl
 |some o=>exact absurd (List.mem_map.2 ⟨(i,o),cY l i o hb,rfl⟩) h
theorem Gu{S kept:List (Nat×SObj)}(hd:bw (aW kept)=true)(hS:∀i∈aW S,i∈aW kept):aG (cJ S (kept.filter fun x=>!oG S x))=aG kept:=by
 funext i;have hdf:=gi (fun x=>!oG S x) hd;rw[ng _ S i hdf]
 cases hk:aG kept i with
 |some o=>
  have hm:=cY kept i o hk
  cases hs:oG S (i,o)with
  |false=>have:(i,o)∈kept.filter fun x=>!oG S x:=List.mem_filter.2 ⟨hm,by rw[hs];rfl⟩;rw[oZ hdf this];rfl
  |true=>
   have hn:aG (kept.filter fun x=>!oG S x) i=none:=by
    cases hb:aG (kept.filter fun x=>!oG S x) i with
    |none=>rfl
    |some o'=>have h1:=List.mem_filter.1 (cY _ i o' hb);have h2:=oZ hd h1.1;rw[hk]at h2;cases h2;have h3:=h1.2;rw[hs]at h3;cases h3
   rw[hn];unfold oG at hs;split at hs
   ·rename_i o' ho';simp only at ho' hs;rw[ho',Di hs];rfl
   ·cases hs
 |none=>
  have h1:i∉aW kept:=Fm hk;rw[rF (l:=S) fun h=>h1 (hS i h),rF fun h=>h1 ?_]
  ·rfl
  ·obtain⟨y,hy,e⟩:=List.mem_map.1 h;exact List.mem_map.2 ⟨y,(List.mem_filter.1 hy).1,e⟩
theorem rG{G:List Nat}:∀{l m:List AV},LeL G l m->l.length=m.length
 |[],[],_=>rfl
 |_::_,_::_,h=>by unfold LeL at h;rw[List.length_cons,List.length_cons,rG h.2]
 |[],_::_,h=>by unfold LeL at h;exact h.elim
 |_::_,[],h=>by unfold LeL at h;exact h.elim
theorem Db{tok:Bool}{S:List (Nat×SObj)}{s:St}{l:List AV}{A:Ans}(h:Fl tok S s l=some A) :
  A.ob=none/\A.pan=none/\∃l' kept,A.val=Fj l'/\l'.length=l.length/\LeS ⟨dr 0 l,s.b⟩ ⟨dr 0 l',kept⟩/\aG (cJ S A.upd)=aG kept:=by
 unfold Fl at h;rw[evVs_eq,uN]at h;split at h
 ·rename_i hc;cases h;simp only[Bool.and_eq_true,List.all_eq_true]at hc;obtain⟨⟨⟨⟨h1,h2⟩,h3⟩,h4⟩,h5,h6⟩:=hc;refine⟨rfl,rfl,Hm tok l,Fk s (Hm tok l),rfl,?_,⟨?_,?_,?_⟩,?_⟩
  ·cases tok with
   |true=>rfl
   |false=>exact(rG (LeL_strip [] l h1)).symm
  ·rw[if_pos]
   ·trivial
   ·rw[Bool.and_eq_true,List.all_eq_true];exact⟨h5,h6⟩
  ·refine xA l _ 0 ?_ fun j=>?_
   ·cases tok with
    |true=>exact LeL_self _ l h1
    |false=>exact LeL_strip _ l h1
   ·show bq (dr 0 l) (0+j)=_;rw[fK];simp
  ·refine kC _ fun x hx=>⟨?_,h2 x hx⟩;exact oZ h3 (List.mem_filter.1 hx).1
  ·refine Gu (gi _ h3) fun i hi=>?_;have:=h4 i hi
   rwa [List.contains_eq_mem,decide_eq_true_eq]at this
 ·cases h
structure FB where
 body:Code
 n:Nat
 res:List ResultVar
 keep:Nat
 pubs:List (Nat×List Nat)
 pend:Nat->Bool
 rows:Nat->Bool
 same:Nat->Bool
 tok:Bool
 ps:List (Option Ty)
def Fo:Option Ty->AV->AV
 |some (.st n),a=>(match arg (.st n) a with|some x=>.st n x|none=>a)
 |_,a=>a
def B1:List (Option Ty)->List AV->List AV
 |p::ps,a::r=>Fo p a::B1 ps r
 |_,l=>l
def Hn(C:Cfg)(N:Nat)(x:FB)(args:List AV)(S:List (Nat×SObj)):Option Ans:=
 evVs (B1 x.ps args) fun args=>evB S fun S=>
  match kZ args x.n&&(aW S).all bU with
  |false=>none
  |true=>
   match j6 C x.keep x.pubs N x.body ⟨dr 0 args,S⟩with
   |some (.normal,s)=>(match jD C.tbl s x.res with|some l=>Fl x.tok S s l|none=>none)
   |some (.ret,s)=>(match jD C.tbl s x.res with|some l=>Fl x.tok S s l|none=>none)
   |_=>none
variable {P:Program} {C:Cfg}
theorem Fp(p:Option Ty)(a:AV):Rd a (Fo p a):=by
 unfold Fo;split
 ·split
  ·rename_i x hx;exact Rd.arg hx
  ·exact Rd.refl a
 ·exact Rd.refl a
theorem xB:∀(ps:List (Option Ty))(l:List AV),RdL l (B1 ps l)
 |[],l=>RdL.refl l
 |p::ps,[]=>.nil
 |p::ps,a::r=>.cons (Fp p a) (xB ps r)
theorem runF_meets(hm:P.follows .mixedOrders=true)(hT:bz P C.tbl)(hS:cn P C.spec){N:Nat}{x:FB}{f:Nat}{fn:Func}(hf:P.funcs[f]?=some fn)(hb:fn.body=some x.body)(hn:fn.ntmps=x.n)(hr:fn.results.toList=x.res)
 (hd:bW x.n x.body=true){args:List AV}{S:List (Nat×SObj)}{A:Ans}(h:Hn C N x args S=some A):aF P f args S A:=by
 refine aF.args (xB x.ps args) ?_;intro w pub e vs hp ht hv hs hdom hinj;unfold Hn at h;rw[evVs_eq,uN]at h;split at h
 ·cases h
 ·rename_i hck;simp only[Bool.and_eq_true,List.all_eq_true]at hck;obtain⟨hck2,hck3⟩:=hck;have hlen:=dV _ _ hck2
  have hlent:∀id c,e id=some c->bU id=true:=by
   intro id c hc
   cases hg:aG S id with
   |none=>rw[hdom id hg]at hc;cases hc
   |some o=>exact hck3 id (List.mem_map.2 ⟨(id,o),cY _ _ _ hg,rfl⟩)
  have hrun:∃z s',j6 C x.keep x.pubs N x.body ⟨dr 0 (B1 x.ps args),S⟩=some (z,s')/\(match jD C.tbl s' x.res with|some l=>Fl x.tok S s' l|none=>none)=some A/\(z=.normal∨z=.ret):=by
   split at h
   ·rename_i s' hz;exact⟨_,s',hz,h,.inl rfl⟩
   ·rename_i s' hz;exact⟨_,s',hz,h,.inr rfl⟩
   ·cases h
  obtain⟨z,s',hz,he,hzz⟩:=hrun;refine calls_of_wp hf hb ?_;have hh:=jr (n:=fn.ntmps) hp ht hv (by rw[hn];exact hlen) hs hdom hinj hlent;rw[<-hn]at hd;refine wp_mono (Ae (F:=⟨w,pub,fn.ntmps,e,hlent,[],ht⟩) hm hT hS _ _ N x.body _ z s' _ _ hz hd hh) ?_;intro en a' w' hq;obtain⟨z2,s2,Ω',h1,h2,h3,h4,h5⟩:=hq;subst h2 h4 h5
  have hmap:∀us,(fn.results.toList.mapM (mY a'.tmps)).run P Ω'.w=.ok us Ω'.w->
    (results fn a'.tmps).run P Ω'.w=.ok (if h:us.toArray.size=1 then us.toArray[0]else .tuple us.toArray) Ω'.w:=by
   intro us hus;rw[lC,<-Array.toArray_toList (xs:=fn.results),List.mapM_toArray];simp only[Sem.run_bind,Sem.run_map,hus,Result.andThen_ok,Sem.run_pure]
  have main:a'.defers=[]/\∃v,(results fn a'.tmps).run P Ω'.w=.ok v Ω'.w/\∃pub' e',(∀b pv u,A.pan=some (b,pv,u)->b=false)/\V ⟨e',Ω'.w,pub'⟩ A.val v/\After w pub e (aG (cJ S A.upd)) Ω'.w pub' e':=by
   refine⟨h3.defers,?_⟩;split at he
   ·rename_i l hres;rw[<-hr]at hres;obtain⟨a1,a2,l',kept,a3,a4,a5,a6⟩:=Db he;obtain⟨us,k1,k2⟩:=eV hT h3 _ _ hres;obtain⟨Ω2,e2,hh2⟩:=dQ (s:=⟨dr 0 l,s2.b⟩) (h3.retmp k2) a5;rw[a3,a6];refine⟨_,hmap us k1,Ω2.pub,Ω2.e,fun b pv u q=>(by rw[a2]at q;cases q),?_,by rw[<-e2];exact gY hh2⟩
    have hval:∀(j:Nat) c v,l'[j]?=some c->us[j]?=some v->V ⟨Ω2.e,Ω'.w,Ω2.pub⟩ c v:=fun j c v hc hv=>by
     have:=hh2.tmps j;simp only[St.abs,fK,Nat.zero_le,if_true,Nat.sub_zero,List.getD_eq_getElem?_getD,hc,Option.getD_some]at this;have e3:(us.toArray++Array.replicate 0 undef).getD j undef=v:=by simp[Array.getD_eq_getD_getElem?,hv]
     rw[e3]at this;rw[<-e2];exact this
    have hlu:l'.length=us.length:=a4.trans k2.1;by_cases h1':us.toArray.size=1
    ·rw[dif_pos h1'];obtain⟨u,rfl⟩:=iU (l:=us) (by simpa using h1');obtain⟨c,rfl⟩:=iU (l:=l') (by rw[hlu];rfl);exact hval 0 c u rfl rfl
    ·rw[dif_neg h1']
     have:Fj l'=.tup l':=by
      match l',hlu with
      |[],_=>rfl
      |[c],q=>exact absurd (by simpa using q.symm) h1'
      |_::_::_,_=>rfl
     rw[this];exact .tup l' us hlu hval
   ·cases he
  rcases hzz with rfl|rfl
  ·cases h1;exact main
  ·cases h1;exact main
def B2:List (Nat×FB)->Nat->Option FB
 |[],_=>none
 |(j,x)::r,f=>if Nat.beq j f=true then some x else B2 r f
def aK(tbl:List (Nat×TR))(fn:Func)(keep:Nat)(pubs:List (Nat×List Nat))(pend rows same:Nat->Bool)(tok:Bool):FB:=
 ⟨fn.body.getD .skip,fn.ntmps,fn.results.toList,keep,pubs,pend,rows,same,tok,fn.params.toList.map fun t=>(aT tbl t).bind (·.ty)⟩
def fbok(fn:Func):Bool:=match fn.body with | none=>false | some c=>bW fn.ntmps c && !(fn.name == "runtime.NumGoroutine")
def ay(P:Program)(tab:List (Nat×FB)):Prop:=∀f x,B2 tab f=some x->
 ∃fn,P.funcs[f]?=some fn/\fn.body=some x.body/\fn.ntmps=x.n/\fn.results.toList=x.res/\bW x.n x.body=true/\(fn.name == "runtime.NumGoroutine")=false
theorem ay.nil:ay P []:=fun f x h=>by cases h
theorem ay.cons{tbl:List (Nat×TR)}{f:Nat}{fn:Func}{keep:Nat}{pubs:List (Nat×List Nat)}{pend rows same:Nat->Bool}{tok:Bool}{tab:List (Nat×FB)}(hf:P.funcs[f]?=some fn)(hc:fbok fn=true)(ht:ay P tab) :
  ay P ((f,aK tbl fn keep pubs pend rows same tok)::tab):=by
 intro g x h;unfold B2 at h;split at h
 ·rename_i hb;obtain rfl:=Nat.eq_of_beq_eq_true hb;cases h;unfold fbok at hc;split at hc
  ·cases hc
  ·rename_i c hb';simp only[Bool.and_eq_true,Bool.not_eq_true']at hc;exact⟨fn,hf,by simp[aK,hb'],rfl,rfl,by simpa[aK,hb']using hc.1,hc.2⟩
 ·exact ht g x h
def Dc(tbl:List (Nat×TR))(tab:List (Nat×FB))(keeps:Nat->Bool)(lends:Nat->List (Option Nat))(N:Nat)(base:Nat->List AV->List (Nat×SObj)->Option Ans) :
  Nat->Nat->List AV->List (Nat×SObj)->Option Ans
 |0,f,us,S=>base f us S
 |n+1,f,us,S=>
  match base f us S with
  |some A=>some A
  |none=>
  match B2 tab f with
  |none=>none
  |some x=>Hn ⟨tbl,Dc tbl tab keeps lends N base n,keeps,lends,x.pend,x.rows,x.same⟩ N x us S
theorem B3{tbl:List (Nat×TR)}{tab:List (Nat×FB)}{keeps:Nat->Bool}{lends:Nat->List (Option Nat)}{N:Nat}{base:Nat->List AV->List (Nat×SObj)->Option Ans}
 (hm:P.follows .mixedOrders=true)(hT:bz P tbl)(hB:cn P base)(ht:ay P tab):∀n:Nat,cn P (Dc tbl tab keeps lends N base n)
 |0=>hB
 |n+1=>by
  intro f args S A h ho hl;unfold Dc at h;split at h
  ·rename_i A' hb;cases h;exact hB f args S A hb ho hl
  split at h
  ·cases h
  ·rename_i x hx;obtain⟨fn,h1,h2,h3,h4,h5,h6⟩:=ht f x hx;exact⟨⟨fn,h1,by rw[h2];rfl,h6⟩,runF_meets hm hT (B3 hm hT hB ht n) h1 h2 h3 h4 h5 h⟩
theorem kV{tbl:List (Nat×TR)}{tab:List (Nat×FB)}{keeps:Nat->Bool}{lends:Nat->List (Option Nat)}{N n f:Nat}{base:Nat->List AV->List (Nat×SObj)->Option Ans}{args:List AV}{v:AV}{u:List (Nat×SObj)}
 (hm:P.follows .mixedOrders=true)(hT:bz P tbl)(hB:cn P base)(ht:ay P tab)(h:Dc tbl tab keeps lends N base n f args []=some ⟨none,none,v,u⟩):aF P f args [] ⟨none,none,v,u⟩:=
 (B3 hm hT hB ht n f args [] _ h (fun _ q=>by cases q) rfl).2
def tested(b:List AV->List (Nat×SObj)->Bool)(g:Pat):Pat:=fun args S=>match b args S,g args S with|true,some A=>some {A with ob:=none}|_,_=>none
theorem ak.tested{f:Nat}{g:Pat}{b:List AV->List (Nat×SObj)->Bool}(h:ak P f g)(hb:∀args S A q,b args S=true->g args S=some A->A.ob=some q->q):ak P f (tested b g):=by
 intro args S A hA ho hl;unfold AL.tested at hA;split at hA
 ·rename_i A' hbt hg;cases hA;exact h args S A' hg (fun q hq=>hb args S A' q hbt hg hq) hl
 ·cases hA
end Go.AL
end
noncomputable section
namespace Go.AL
variable [Tabs] {P:Program}
def q1(τ:Ty)(b:den τ->Bool)(F:den τ->AV):Pat
 |[a],[]=>(match arg τ a with|some x=>(match b x with|true=>some (.ret (F x))|false=>none)|none=>none)
 |_,_=>none
theorem GJ{f:Nat}{τ:Ty}{b:den τ->Bool}{F:den τ->AV}{O:den τ->Prop}(h:ak P f (p1 τ fun x=>⟨some (O x),none,F x,[]⟩))(hb:∀x,b x=true->O x):ak P f (q1 τ b F):=by
 intro args S A hA ho hl;unfold q1 at hA;split at hA
 ·rename_i a;split at hA
  ·rename_i x hx;split at hA
   ·rename_i ht;cases hA;have k:=h [a] [] ⟨some (O x),none,F x,[]⟩ (by simp[p1,hx]) (fun q hq=>by cases hq;exact hb x ht) hl;exact⟨k.1,k.2⟩
   ·cases hA
  ·cases hA
 ·cases hA
def q2(τ σ:Ty)(b:den τ->den σ->Bool)(F:den τ->den σ->AV):Pat
 |[a,c],[]=>(match arg τ a,arg σ c with|some x,some y=>(match b x y with|true=>some (.ret (F x y))|false=>none)|_,_=>none)
 |_,_=>none
theorem B4{f:Nat}{τ σ:Ty}{b:den τ->den σ->Bool}{F:den τ->den σ->AV}{O:den τ->den σ->Prop}(h:ak P f (p2 τ σ fun x y=>⟨some (O x y),none,F x y,[]⟩))(hb:∀x y,b x y=true->O x y):ak P f (q2 τ σ b F):=by
 intro args S A hA ho hl;unfold q2 at hA;split at hA
 ·rename_i a c;split at hA
  ·rename_i x y hx hy;split at hA
   ·rename_i ht;cases hA;have k:=h [a,c] [] ⟨some (O x y),none,F x y,[]⟩ (by simp[p2,hx,hy]) (fun q hq=>by cases hq;exact hb x y ht) hl;exact⟨k.1,k.2⟩
   ·cases hA
  ·cases hA
 ·cases hA
def xC(as0:List AV)(v:AV):Pat:=fun args S=>match eqVs as0 args,S with|true,[]=>some (.ret v)|_,_=>none
theorem uQ{f:Nat}{as0:List AV}{v:AV}(he:aJ P f)(h:aF P f as0 [] (.ret v)):ak P f (xC as0 v):=by
 intro args S A hA ho hl;unfold xC at hA;split at hA
 ·rename_i heq;cases hA;rw[<-eqVs_ok _ _ heq];exact⟨he,h⟩
 ·cases hA
def t1(τ:Ty)(b:den τ->Bool):List AV->List (Nat×SObj)->Bool
 |[a],_=>(match arg τ a with|some x=>b x|none=>false)
 |_,_=>false
theorem HI{f:Nat}{τ:Ty}{b:den τ->Bool}{F:den τ->Ans}(h:ak P f (p1 τ F))(hb:∀x q,b x=true->(F x).ob=some q->q):ak P f (tested (t1 τ b) (p1 τ F)):=by
 refine h.tested fun args S A q ht hg ho=>?_;unfold p1 at hg;split at hg
 ·rename_i a;split at hg
  ·rename_i x hx;cases hg;refine hb x q ?_ ho;simpa[t1,hx]using ht
  ·cases hg
 ·cases hg
def B5:List AV->List (Nat×SObj)->Bool
 |_,[(_,.box (.lst .str zs _))]=>decide (zs.length *16<=140737488355328)
 |_,_=>false
theorem Ah{f gv:Nat}(h:ak P f (eJ gv)):ak P f (tested B5 (eJ gv)):=by
 refine h.tested fun args S A q hb hg ho=>?_;unfold eJ at hg;split at hg
 ·split at hg
  ·cases hg;cases ho;exact Xo hb
  ·cases hg
 ·cases hg
def xD:List AV->List (Nat×SObj)->Bool
 |[.arr _ n _],[(_,.box (.row .str ss))]=>decide (n=ss.length)
 |_,_=>false
theorem xE{f:Nat}(h:ak P f eK):ak P f (tested xD eK):=by
 refine h.tested fun args S A q hb hg ho=>?_;unfold eK at hg;split at hg
 ·cases hg;cases ho;exact Xo hb
 ·cases hg
def kW:List Str->Bool
 |[]=>true
 |x::r=>!r.contains x&&kW r
theorem mD:∀{l:List Str},kW l=true->l.Nodup
 |[],_=>List.nodup_nil
 |x::r,h=>by unfold kW at h;rw[Bool.and_eq_true,Bool.not_eq_true']at h;refine List.nodup_cons.2 ⟨fun q=>?_,mD h.2⟩;have:=h.1;rw[List.contains_eq_mem,decide_eq_false_iff_not]at this;exact this q
def ny:List AV->List (Nat×SObj)->Bool
 |[.arr _ n _,_],[(_,.box (.row (.int .i64) xs)),(_,.box (.st .shape s))]=>
  decide (n=xs.length)&&!xs.isEmpty&&(xs.all fun x=>decide (0<=(x:Int))&&decide ((x:Int)<s.names.length))&&kW s.names&&decide (xs.length<4611686018427387904)
 |_,_=>false
theorem uR{f gc:Nat}(h:ak P f (dY gc)):ak P f (tested ny (dY gc)):=by
 refine h.tested fun args S A q hb hg ho=>?_;unfold dY at hg;split at hg
 ·split at hg
  ·cases hg;cases ho;unfold ny at hb;simp only[Bool.and_eq_true,decide_eq_true_eq,Bool.not_eq_true',List.all_eq_true]at hb;obtain⟨⟨⟨⟨h1,h2⟩,h3⟩,h4⟩,h5⟩:=hb;exact⟨h1,(fun e=>by rw[e]at h2;cases h2),h3,mD h4,h5⟩
  ·cases hg
 ·cases hg
end Go.AL
end
noncomputable section
namespace Go.AL.Seat
open Go Go.AL Go.Proofs Go.Shelf Go.Pd
variable [Tabs]
def Ho(t:Str):Bool:=!t.isEmpty&&decide (t.length<=15)&&t.all fun c=>decide (48<=c.toNat)&&decide (c.toNat<=57)
theorem Gv{t:Str}(h:Ho t=true):nU t:=by unfold Ho at h;simp only[Bool.and_eq_true,Bool.not_eq_true',decide_eq_true_eq,List.all_eq_true]at h;exact⟨fun e=>(by rw[e]at h;exact absurd h.1.1 (by decide)),h.1.2,h.2⟩
def Fq:List (Nat×Pat):=
 [(186,p1 .str fun s=>.ret (.tup [.int .i32 ((ju s).1:Int),.int .i64 ((ju s).2:Int)])),
  (199,p2 .str (.int .u8) fun a c=>.ret (.int .i64 (DV a c))),
  (129,q2 .str .str (fun _ b=>decide (b=qh)) fun a _=>.str (qi a)),
  (194,q2 .str .str (fun a b=>decide (b=[45])&&decide (a.length<4294967281)) fun a _=>.tup [.str (iC a),.str (lG a),.bool (mZ a)]),
  (195,q2 .str .str (fun a b=>decide (b=[46])&&decide (a.length<4294967281)) fun a _=>.lst .str (splitB 46 a) none),
  (201,q2 .str .str (fun _ b=>decide (b.length=1)) fun a b=>.bool (decide (b.getD 0 0∈a))),
  (197,q1 .str Ho fun t=>.tup [.int .i64 (lk t),.nilif]),
  (64,q1 (.lst .str) (fun l=>decide (l.length *16<=140737488355328)) fun l=>.lst .str l none),
  (34,tested (t1 (.lst (.st .bind)) fun l=>decide (l.length *120<=140737488355328)) (p1 (.lst (.st .bind)) fun l=>⟨some (l.length *120<=140737488355328),none,.lst (.st .bind) l (some 5),[(5,.tail (.st .bind) l.length)]⟩)),
  (167,tested B5 (eJ 226)),
  (169,tested xD eK),
  (61,tested ny (dY 62)),
  (59,p1 (.st .shape) fun s=>.ret (.tup [.int .i64 (if sz s<=400 then(sz s:Int)else 401),.int .i64 (if sz s<=400 then deepS s 1 else 0),.bool (decide (sz s<=400))]))]
theorem mE[SeatLaid]:cn Tryz.prog (iw Fq):=
 sc qt (sc rX (sc (B4 E3 fun _ _ h=>Xo h)
  (sc (B4 FZ fun _ _ h=>by rw[Bool.and_eq_true]at h;exact⟨Xo h.1,Xo h.2⟩)
  (sc (B4 BN fun _ _ h=>by rw[Bool.and_eq_true]at h;exact⟨Xo h.1,Xo h.2⟩)
  (sc (B4 ug fun _ _ h=>Xo h) (sc (GJ E2 fun _ h=>Gv h)
  (sc (GJ nh fun _ h=>Xo h) (sc (HI qK fun _ q h e=>by cases e;exact Xo h)
  (sc (Ah lH) (sc (xE kr) (sc (uR mu) (sc sL sn))))))))))))
end Go.AL.Seat
end
noncomputable section
namespace Go.AL.Seat
open Go Go.AL Go.Proofs
set_option maxRecDepth 1000000
variable [Tabs]
def GK(f:Nat):List (Option Nat):=if Nat.beq f 67||Nat.beq f 68 then[some 2]else[]
def GL(f:Nat):Bool:=false
def Ai:List (Nat×FB):=(11,aK tbl Tryz.f11 383 [] (fun _=>false) (fun _=>false) (fun d=>Nat.beq d 25||Nat.beq d 27) false)::(18,aK tbl Tryz.f18 15 [] (fun _=>false) (fun _=>false) (fun _=>false) false)::(19,aK tbl Tryz.f19 4159 [] (fun _=>false) (fun _=>false) (fun _=>false) false)::(28,aK tbl Tryz.f28 4362109181 [] (fun _=>false) (fun _=>false) (fun _=>false) false)::(12,aK tbl Tryz.f12 1151 [] (fun _=>false) (fun _=>false) (fun _=>false) false)::(35,aK tbl Tryz.f35 1965 [] (fun _=>false) (fun _=>false) (fun d=>Nat.beq d 16) false)::(36,aK tbl Tryz.f36 4362109181 [] (fun _=>false) (fun _=>false) (fun _=>false) false)::(46,aK tbl Tryz.f46 77975715369647181664879229 [] (fun _=>false) (fun _=>false) (fun _=>false) false)::(47,aK tbl Tryz.f47 9016029707634675 [] (fun _=>false) (fun _=>false) (fun _=>false) false)::(48,aK tbl Tryz.f48 531 [] (fun _=>false) (fun _=>false) (fun _=>false) false)::(21,aK tbl Tryz.f21 74783 [] (fun _=>false) (fun _=>false) (fun _=>false) false)::(29,aK tbl Tryz.f29 19 [] (fun _=>false) (fun _=>false) (fun _=>false) false)::(30,aK tbl Tryz.f30 270664191 [] (fun _=>false) (fun _=>false) (fun _=>false) false)::(53,aK tbl Tryz.f53 5 [] (fun _=>false) (fun _=>false) (fun _=>false) false)::(54,aK tbl Tryz.f54 562984380336637 [] (fun _=>false) (fun _=>false) (fun _=>false) false)::(55,aK tbl Tryz.f55 1074004979 [] (fun _=>false) (fun _=>false) (fun _=>false) false)::(56,aK tbl Tryz.f56 531 [] (fun _=>false) (fun _=>false) (fun _=>false) false)::(67,aK tbl Tryz.f67 65555 [] (fun _=>false) (fun _=>false) (fun _=>false) false)::(68,aK tbl Tryz.f68 4294967347 [] (fun _=>false) (fun _=>false) (fun _=>false) false)::(69,aK tbl Tryz.f69 5 [] (fun _=>false) (fun _=>false) (fun _=>false) false)::(70,aK tbl Tryz.f70 8388935 [] (fun _=>false) (fun _=>false) (fun _=>false) false)::(71,aK tbl Tryz.f71 87112288527988523651034566703108870643455 [] (fun _=>false) (fun _=>false) (fun d=>Nat.beq d 21) false)::(72,aK tbl Tryz.f72 33816627 [] (fun _=>false) (fun _=>false) (fun _=>false) false)::(73,aK tbl Tryz.f73 5 [] (fun _=>false) (fun _=>false) (fun _=>false) false)::(74,aK tbl Tryz.f74 268439557 [] (fun _=>false) (fun _=>false) (fun _=>false) false)::(75,aK tbl Tryz.f75 81129648086015544455969055506495 [] (fun _=>false) (fun _=>false) (fun _=>false) false)::(76,aK tbl Tryz.f76 263 [] (fun _=>false) (fun _=>false) (fun _=>false) false)::(37,aK tbl Tryz.f37 2223863 [] (fun _=>false) (fun _=>false) (fun _=>false) false)::(38,aK tbl Tryz.f38 7 [] (fun _=>false) (fun _=>false) (fun _=>false) false)::(49,aK tbl Tryz.f49 89203661441933403568762194417536241417190911 [] (fun _=>false) (fun _=>false) (fun d=>Nat.beq d 49||Nat.beq d 106||Nat.beq d 124||Nat.beq d 142||Nat.beq d 143) false)::(39,aK tbl Tryz.f39 299063 [] (fun _=>false) (fun _=>false) (fun _=>false) false)::(24,aK tbl Tryz.f24 39 [] (fun _=>false) (fun _=>false) (fun _=>false) false)::(91,aK tbl Tryz.f91 37852736853667689267293 [] (fun _=>false) (fun _=>false) (fun _=>false) false)::(92,aK tbl Tryz.f92 5487058363987403117567667136273109224445 [] (fun _=>false) (fun _=>false) (fun _=>false) false)::(93,aK tbl Tryz.f93 139315 [] (fun _=>false) (fun _=>false) (fun _=>false) false)::(94,aK tbl Tryz.f94 17827827 [] (fun _=>false) (fun _=>false) (fun _=>false) false)::(95,aK tbl Tryz.f95 19 [] (fun _=>false) (fun _=>false) (fun _=>false) false)::(120,aK tbl Tryz.f120 549890048253 [] (fun _=>false) (fun _=>false) (fun _=>false) false)::(121,aK tbl Tryz.f121 71 [] (fun _=>false) (fun _=>false) (fun _=>false) false)::(122,aK tbl Tryz.f122 79 [] (fun _=>false) (fun _=>false) (fun _=>false) false)::(123,aK tbl Tryz.f123 5 [] (fun _=>false) (fun _=>false) (fun _=>false) false)::(124,aK tbl Tryz.f124 5 [] (fun _=>false) (fun _=>false) (fun _=>false) false)::(125,aK tbl Tryz.f125 5 [] (fun _=>false) (fun _=>false) (fun _=>false) false)::(126,aK tbl Tryz.f126 29 [] (fun _=>false) (fun _=>false) (fun _=>false) false)::(100,aK tbl Tryz.f100 5 [] (fun _=>false) (fun _=>false) (fun _=>false) false)::(103,aK tbl Tryz.f103 5 [] (fun _=>false) (fun _=>false) (fun _=>false) false)::(127,aK tbl Tryz.f127 5 [] (fun _=>false) (fun _=>false) (fun _=>false) false)::(128,aK tbl Tryz.f128 5 [] (fun _=>false) (fun _=>false) (fun _=>false) false)::(130,aK tbl Tryz.f130 151115799509488183025661 [] (fun _=>false) (fun _=>false) (fun _=>false) false)::(131,aK tbl Tryz.f131 618970019647202533975261693 [] (fun _=>false) (fun _=>false) (fun _=>false) false)::(132,aK tbl Tryz.f132 29 [] (fun _=>false) (fun _=>false) (fun _=>false) false)::(133,aK tbl Tryz.f133 3 [] (fun d=>Nat.beq d 8) (fun _=>false) (fun _=>false) false)::(134,aK tbl Tryz.f134 7 [] (fun d=>Nat.beq d 15) (fun _=>false) (fun _=>false) false)::(137,aK tbl Tryz.f137 275 [] (fun _=>false) (fun _=>false) (fun _=>false) false)::(135,aK tbl Tryz.f135 131 [] (fun _=>false) (fun _=>false) (fun _=>false) false)::(139,aK tbl Tryz.f139 7 [] (fun _=>false) (fun _=>false) (fun _=>false) false)::(138,aK tbl Tryz.f138 271375 [] (fun _=>false) (fun _=>false) (fun _=>false) false)::(141,aK tbl Tryz.f141 32819 [] (fun _=>false) (fun _=>false) (fun _=>false) false)::(142,aK tbl Tryz.f142 15 [] (fun _=>false) (fun _=>false) (fun _=>false) false)::(143,aK tbl Tryz.f143 17180524607 [] (fun _=>false) (fun _=>false) (fun _=>false) false)::(57,aK tbl Tryz.f57 3537148372723500476506894142080440715070649430595550180525943565456506895 [] (fun _=>false) (fun _=>false) (fun _=>false) false)::(58,aK tbl Tryz.f58 27 [] (fun _=>false) (fun _=>false) (fun _=>false) false)::(77,aK tbl Tryz.f77 2147492295 [] (fun _=>false) (fun _=>false) (fun _=>false) false)::(78,aK tbl Tryz.f78 160562833849755950391295 [] (fun _=>false) (fun _=>false) (fun d=>Nat.beq d 19||Nat.beq d 49) false)::(79,aK tbl Tryz.f79 549789368831 [] (fun _=>false) (fun _=>false) (fun d=>Nat.beq d 15||Nat.beq d 43) false)::(16,aK tbl Tryz.f16 23 [] (fun _=>false) (fun _=>false) (fun _=>false) false)::(80,aK tbl Tryz.f80 36031000339288063 [] (fun _=>false) (fun _=>false) (fun d=>Nat.beq d 45||Nat.beq d 65) false)::(81,aK tbl Tryz.f81 102844040580930233559092546268346994287008189083989802508869631 [] (fun _=>false) (fun _=>false) (fun d=>Nat.beq d 55||Nat.beq d 63||Nat.beq d 86||Nat.beq d 111||Nat.beq d 118||Nat.beq d 120||Nat.beq d 136||Nat.beq d 155||Nat.beq d 167||Nat.beq d 202||Nat.beq d 203) false)::(40,aK tbl Tryz.f40 2159703 [] (fun _=>false) (fun _=>false) (fun _=>false) false)::(60,aK tbl Tryz.f60 10141204803006463002229839257615 [] (fun _=>false) (fun _=>false) (fun _=>false) false)::(42,aK tbl Tryz.f42 36219466547391 [] (fun _=>false) (fun _=>false) (fun _=>false) false)::(150,aK tbl Tryz.f150 9223376984926589309 [] (fun _=>false) (fun _=>false) (fun _=>false) false)::(151,aK tbl Tryz.f151 5 [] (fun _=>false) (fun _=>false) (fun _=>false) false)::(152,aK tbl Tryz.f152 5 [] (fun _=>false) (fun _=>false) (fun _=>false) false)::(153,aK tbl Tryz.f153 2147483661 [] (fun _=>false) (fun _=>false) (fun _=>false) false)::(154,aK tbl Tryz.f154 5 [] (fun _=>false) (fun _=>false) (fun _=>false) false)::(116,aK tbl Tryz.f116 5 [] (fun _=>false) (fun _=>false) (fun _=>false) false)::(119,aK tbl Tryz.f119 5 [] (fun _=>false) (fun _=>false) (fun _=>false) false)::(155,aK tbl Tryz.f155 5 [] (fun _=>false) (fun _=>false) (fun _=>false) false)::(156,aK tbl Tryz.f156 5070641086539181312813312250877 [] (fun _=>false) (fun d=>Nat.beq d 14) (fun _=>false) false)::(157,aK tbl Tryz.f157 16525 [] (fun _=>false) (fun _=>false) (fun _=>false) false)::(158,aK tbl Tryz.f158 19968563638923261082878717 [] (fun _=>false) (fun _=>false) (fun _=>false) false)::(159,aK tbl Tryz.f159 5 [] (fun _=>false) (fun _=>false) (fun _=>false) false)::(160,aK tbl Tryz.f160 5075558997068629606245683707891 [] (fun _=>false) (fun _=>false) (fun _=>false) false)::(51,aK tbl Tryz.f51 2343 [] (fun _=>false) (fun _=>false) (fun _=>false) false)::(161,aK tbl Tryz.f161 33043 [] (fun _=>false) (fun _=>false) (fun _=>false) false)::(166,aK tbl Tryz.f166 552075315 [] (fun _=>false) (fun _=>false) (fun _=>false) false)::(196,aK tbl Tryz.f196 5 [] (fun _=>false) (fun _=>false) (fun _=>false) false)::(198,aK tbl Tryz.f198 9316337836119 [] (fun _=>false) (fun _=>false) (fun _=>false) false)::(200,aK tbl Tryz.f200 5 [] (fun _=>false) (fun _=>false) (fun _=>false) false)::(136,aK tbl Tryz.f136 2228285 [] (fun _=>false) (fun _=>false) (fun _=>false) false)::(203,aK tbl Tryz.f203 51 [] (fun _=>false) (fun _=>false) (fun _=>false) false)::(140,aK tbl Tryz.f140 65587 [] (fun _=>false) (fun _=>false) (fun _=>false) false)::(205,aK tbl Tryz.f205 23945973599159813139139346461134680183357916012085311 [] (fun _=>false) (fun _=>false) (fun _=>false) false)::(206,aK tbl Tryz.f206 3 [] (fun d=>Nat.beq d 8) (fun _=>false) (fun _=>false) false)::(96,aK tbl Tryz.f96 7 [] (fun _=>false) (fun _=>false) (fun _=>false) false)::(97,aK tbl Tryz.f97 27 [] (fun _=>false) (fun _=>false) (fun _=>false) false)::(98,aK tbl Tryz.f98 7 [] (fun _=>false) (fun _=>false) (fun _=>false) false)::(99,aK tbl Tryz.f99 2098133 [] (fun _=>false) (fun _=>false) (fun _=>false) false)::(101,aK tbl Tryz.f101 13 [] (fun _=>false) (fun _=>false) (fun _=>false) false)::(102,aK tbl Tryz.f102 27 [] (fun _=>false) (fun _=>false) (fun _=>false) false)::(105,aK tbl Tryz.f105 15 [] (fun _=>false) (fun _=>false) (fun _=>false) false)::(104,aK tbl Tryz.f104 19 [] (fun _=>false) (fun _=>false) (fun _=>false) false)::(144,aK tbl Tryz.f144 8389119 [] (fun _=>false) (fun _=>false) (fun _=>false) false)::(145,aK tbl Tryz.f145 66483 [] (fun _=>false) (fun _=>false) (fun _=>false) false)::(146,aK tbl Tryz.f146 67172223 [] (fun _=>false) (fun _=>false) (fun _=>false) true)::(109,aK tbl Tryz.f109 4444215 [] (fun _=>false) (fun _=>false) (fun _=>false) false)::(110,aK tbl Tryz.f110 5 [] (fun _=>false) (fun _=>false) (fun _=>false) false)::(62,aK tbl Tryz.f62 39 [] (fun _=>false) (fun _=>false) (fun d=>Nat.beq d 16) false)::(212,aK tbl Tryz.f212 5 [] (fun _=>false) (fun _=>false) (fun _=>false) false)::(213,aK tbl Tryz.f213 8389645 [] (fun _=>false) (fun _=>false) (fun _=>false) false)::(214,aK tbl Tryz.f214 131635 [] (fun _=>false) (fun _=>false) (fun _=>false) false)::(215,aK tbl Tryz.f215 8388767 [] (fun _=>false) (fun _=>false) (fun _=>false) false)::(216,aK tbl Tryz.f216 2097779 [] (fun _=>false) (fun _=>false) (fun _=>false) false)::(217,aK tbl Tryz.f217 4295 [] (fun _=>false) (fun _=>false) (fun _=>false) false)::(218,aK tbl Tryz.f218 66503 [] (fun _=>false) (fun _=>false) (fun _=>false) false)::(219,aK tbl Tryz.f219 199 [] (fun _=>false) (fun _=>false) (fun _=>false) false)::(220,aK tbl Tryz.f220 316931992907069184984647990303 [] (fun _=>false) (fun _=>false) (fun _=>false) false)::(221,aK tbl Tryz.f221 73796001086816403443 [] (fun _=>false) (fun _=>false) (fun _=>false) false)::(33,aK tbl Tryz.f33 65655 [] (fun _=>false) (fun _=>false) (fun _=>false) false)::(88,aK tbl Tryz.f88 2098239 [] (fun _=>false) (fun _=>false) (fun _=>false) false)::(89,aK tbl Tryz.f89 1050703 [] (fun _=>false) (fun _=>false) (fun _=>false) false)::(241,aK tbl Tryz.f241 18014398524686365 [] (fun _=>false) (fun _=>false) (fun _=>false) false)::(202,aK tbl Tryz.f202 324677087359430077278579446644799 [] (fun d=>Nat.beq d 129) (fun _=>false) (fun _=>false) false)::(204,aK tbl Tryz.f204 19 [] (fun _=>false) (fun _=>false) (fun _=>false) false)::(248,aK tbl Tryz.f248 3 [] (fun d=>Nat.beq d 23) (fun _=>false) (fun _=>false) false)::(249,aK tbl Tryz.f249 13 [] (fun _=>false) (fun _=>false) (fun _=>false) false)::(163,aK tbl Tryz.f163 15 [] (fun _=>false) (fun _=>false) (fun _=>false) false)::(162,aK tbl Tryz.f162 19 [] (fun _=>false) (fun _=>false) (fun _=>false) false)::(164,aK tbl Tryz.f164 7 [] (fun _=>false) (fun _=>false) (fun _=>false) false)::(168,aK tbl Tryz.f168 7 [] (fun _=>false) (fun _=>false) (fun _=>false) false)::(171,aK tbl Tryz.f171 11 [] (fun _=>false) (fun _=>false) (fun _=>false) false)::(170,aK tbl Tryz.f170 19 [] (fun _=>false) (fun _=>false) (fun _=>false) false)::(172,aK tbl Tryz.f172 66483 [] (fun _=>false) (fun _=>false) (fun _=>false) false)::(207,aK tbl Tryz.f207 31 [] (fun _=>false) (fun _=>false) (fun d=>Nat.beq d 7||Nat.beq d 9||Nat.beq d 12) false)::(208,aK tbl Tryz.f208 553657335 [] (fun _=>false) (fun _=>false) (fun d=>Nat.beq d 19||Nat.beq d 20) false)::(63,aK tbl Tryz.f63 19 [] (fun _=>false) (fun _=>false) (fun _=>false) false)::(256,aK tbl Tryz.f256 72341542915801119 [] (fun _=>false) (fun _=>false) (fun _=>false) false)::(257,aK tbl Tryz.f257 4125 [] (fun _=>false) (fun _=>false) (fun _=>false) false)::(258,aK tbl Tryz.f258 68987920327 [] (fun _=>false) (fun _=>false) (fun _=>false) false)::(149,aK tbl Tryz.f149 2557586548459967842939230490655 [] (fun _=>false) (fun _=>false) (fun _=>false) false)::(244,aK tbl Tryz.f244 7 [] (fun d=>Nat.beq d 21) (fun _=>false) (fun _=>false) false)::(246,aK tbl Tryz.f246 149971 [] (fun _=>false) (fun _=>false) (fun _=>false) false)::(247,aK tbl Tryz.f247 3 [] (fun d=>Nat.beq d 8) (fun _=>false) (fun _=>false) false)::(222,aK tbl Tryz.f222 66483 [] (fun _=>false) (fun _=>false) (fun _=>false) false)::(226,aK tbl Tryz.f226 16883 [] (fun _=>false) (fun _=>false) (fun _=>false) false)::(227,aK tbl Tryz.f227 66483 [] (fun _=>false) (fun _=>false) (fun _=>false) false)::(250,aK tbl Tryz.f250 31 [] (fun _=>false) (fun _=>false) (fun _=>false) false)::(251,aK tbl Tryz.f251 1 [] (fun _=>false) (fun _=>false) (fun _=>false) false)::(252,aK tbl Tryz.f252 179799758744771528110887069003277459880165367 [] (fun _=>false) (fun _=>false) (fun d=>Nat.beq d 71||Nat.beq d 87||Nat.beq d 98||Nat.beq d 103) false)::(254,aK tbl Tryz.f254 3885 [] (fun _=>false) (fun _=>false) (fun _=>false) false)::(253,aK tbl Tryz.f253 2203049797495 [] (fun _=>false) (fun _=>false) (fun _=>false) false)::(113,aK tbl Tryz.f113 19 [] (fun _=>false) (fun _=>false) (fun _=>false) false)::(278,aK tbl Tryz.f278 33309 [] (fun _=>false) (fun _=>false) (fun _=>false) false)::(279,aK tbl Tryz.f279 36028797018964541 [] (fun _=>false) (fun _=>false) (fun _=>false) false)::(211,aK tbl Tryz.f211 4297327731 [] (fun _=>false) (fun _=>false) (fun _=>false) false)::(245,aK tbl Tryz.f245 5 [] (fun _=>false) (fun _=>false) (fun _=>false) false)::(273,aK tbl Tryz.f273 79 [] (fun _=>false) (fun _=>false) (fun _=>false) false)::(274,aK tbl Tryz.f274 2103 [] (fun _=>false) (fun _=>false) (fun _=>false) false)::(275,aK tbl Tryz.f275 11 [] (fun _=>false) (fun _=>false) (fun _=>false) false)::(277,aK tbl Tryz.f277 1079 [] (fun _=>false) (fun _=>false) (fun _=>false) false)::(276,aK tbl Tryz.f276 251 [] (fun _=>false) (fun _=>false) (fun _=>false) false)::(299,aK tbl Tryz.f299 524429 [] (fun _=>false) (fun _=>false) (fun _=>false) false)::[]
theorem kX:ay Tryz.prog Ai:=ay.cons Tryz.func11 (by kernel_rfl) (ay.cons Tryz.func18 (by kernel_rfl) (ay.cons Tryz.func19 (by kernel_rfl) (ay.cons Tryz.func28 (by kernel_rfl) (ay.cons Tryz.func12 (by kernel_rfl) (ay.cons Tryz.func35 (by kernel_rfl) (ay.cons Tryz.func36 (by kernel_rfl) (ay.cons Tryz.func46 (by kernel_rfl) (ay.cons Tryz.func47 (by kernel_rfl) (ay.cons Tryz.func48 (by kernel_rfl) (ay.cons Tryz.func21 (by kernel_rfl) (ay.cons Tryz.func29 (by kernel_rfl) (ay.cons Tryz.func30 (by kernel_rfl) (ay.cons Tryz.func53 (by kernel_rfl) (ay.cons Tryz.func54 (by kernel_rfl) (ay.cons Tryz.func55 (by kernel_rfl) (ay.cons Tryz.func56 (by kernel_rfl) (ay.cons Tryz.func67 (by kernel_rfl) (ay.cons Tryz.func68 (by kernel_rfl) (ay.cons Tryz.func69 (by kernel_rfl) (ay.cons Tryz.func70 (by kernel_rfl) (ay.cons Tryz.func71 (by kernel_rfl) (ay.cons Tryz.func72 (by kernel_rfl) (ay.cons Tryz.func73 (by kernel_rfl) (ay.cons Tryz.func74 (by kernel_rfl) (ay.cons Tryz.func75 (by kernel_rfl) (ay.cons Tryz.func76 (by kernel_rfl) (ay.cons Tryz.func37 (by kernel_rfl) (ay.cons Tryz.func38 (by kernel_rfl) (ay.cons Tryz.func49 (by kernel_rfl) (ay.cons Tryz.func39 (by kernel_rfl) (ay.cons Tryz.func24 (by kernel_rfl) (ay.cons Tryz.func91 (by kernel_rfl) (ay.cons Tryz.func92 (by kernel_rfl) (ay.cons Tryz.func93 (by kernel_rfl) (ay.cons Tryz.func94 (by kernel_rfl) (ay.cons Tryz.func95 (by kernel_rfl) (ay.cons Tryz.func120 (by kernel_rfl) (ay.cons Tryz.func121 (by kernel_rfl) (ay.cons Tryz.func122 (by kernel_rfl) (ay.cons Tryz.func123 (by kernel_rfl) (ay.cons Tryz.func124 (by kernel_rfl) (ay.cons Tryz.func125 (by kernel_rfl) (ay.cons Tryz.func126 (by kernel_rfl) (ay.cons Tryz.func100 (by kernel_rfl) (ay.cons Tryz.func103 (by kernel_rfl) (ay.cons Tryz.func127 (by kernel_rfl) (ay.cons Tryz.func128 (by kernel_rfl) (ay.cons Tryz.func130 (by kernel_rfl) (ay.cons Tryz.func131 (by kernel_rfl) (ay.cons Tryz.func132 (by kernel_rfl) (ay.cons Tryz.func133 (by kernel_rfl) (ay.cons Tryz.func134 (by kernel_rfl) (ay.cons Tryz.func137 (by kernel_rfl) (ay.cons Tryz.func135 (by kernel_rfl) (ay.cons Tryz.func139 (by kernel_rfl) (ay.cons Tryz.func138 (by kernel_rfl) (ay.cons Tryz.func141 (by kernel_rfl) (ay.cons Tryz.func142 (by kernel_rfl) (ay.cons Tryz.func143 (by kernel_rfl) (ay.cons Tryz.func57 (by kernel_rfl) (ay.cons Tryz.func58 (by kernel_rfl) (ay.cons Tryz.func77 (by kernel_rfl) (ay.cons Tryz.func78 (by kernel_rfl) (ay.cons Tryz.func79 (by kernel_rfl) (ay.cons Tryz.func16 (by kernel_rfl) (ay.cons Tryz.func80 (by kernel_rfl) (ay.cons Tryz.func81 (by kernel_rfl) (ay.cons Tryz.func40 (by kernel_rfl) (ay.cons Tryz.func60 (by kernel_rfl) (ay.cons Tryz.func42 (by kernel_rfl) (ay.cons Tryz.func150 (by kernel_rfl) (ay.cons Tryz.func151 (by kernel_rfl) (ay.cons Tryz.func152 (by kernel_rfl) (ay.cons Tryz.func153 (by kernel_rfl) (ay.cons Tryz.func154 (by kernel_rfl) (ay.cons Tryz.func116 (by kernel_rfl) (ay.cons Tryz.func119 (by kernel_rfl) (ay.cons Tryz.func155 (by kernel_rfl) (ay.cons Tryz.func156 (by kernel_rfl) (ay.cons Tryz.func157 (by kernel_rfl) (ay.cons Tryz.func158 (by kernel_rfl) (ay.cons Tryz.func159 (by kernel_rfl) (ay.cons Tryz.func160 (by kernel_rfl) (ay.cons Tryz.func51 (by kernel_rfl) (ay.cons Tryz.func161 (by kernel_rfl) (ay.cons Tryz.func166 (by kernel_rfl) (ay.cons Tryz.func196 (by kernel_rfl) (ay.cons Tryz.func198 (by kernel_rfl) (ay.cons Tryz.func200 (by kernel_rfl) (ay.cons Tryz.func136 (by kernel_rfl) (ay.cons Tryz.func203 (by kernel_rfl) (ay.cons Tryz.func140 (by kernel_rfl) (ay.cons Tryz.func205 (by kernel_rfl) (ay.cons Tryz.func206 (by kernel_rfl) (ay.cons Tryz.func96 (by kernel_rfl) (ay.cons Tryz.func97 (by kernel_rfl) (ay.cons Tryz.func98 (by kernel_rfl) (ay.cons Tryz.func99 (by kernel_rfl) (ay.cons Tryz.func101 (by kernel_rfl) (ay.cons Tryz.func102 (by kernel_rfl) (ay.cons Tryz.func105 (by kernel_rfl) (ay.cons Tryz.func104 (by kernel_rfl) (ay.cons Tryz.func144 (by kernel_rfl) (ay.cons Tryz.func145 (by kernel_rfl) (ay.cons Tryz.func146 (by kernel_rfl) (ay.cons Tryz.func109 (by kernel_rfl) (ay.cons Tryz.func110 (by kernel_rfl) (ay.cons Tryz.func62 (by kernel_rfl) (ay.cons Tryz.func212 (by kernel_rfl) (ay.cons Tryz.func213 (by kernel_rfl) (ay.cons Tryz.func214 (by kernel_rfl) (ay.cons Tryz.func215 (by kernel_rfl) (ay.cons Tryz.func216 (by kernel_rfl) (ay.cons Tryz.func217 (by kernel_rfl) (ay.cons Tryz.func218 (by kernel_rfl) (ay.cons Tryz.func219 (by kernel_rfl) (ay.cons Tryz.func220 (by kernel_rfl) (ay.cons Tryz.func221 (by kernel_rfl) (ay.cons Tryz.func33 (by kernel_rfl) (ay.cons Tryz.func88 (by kernel_rfl) (ay.cons Tryz.func89 (by kernel_rfl) (ay.cons Tryz.func241 (by kernel_rfl) (ay.cons Tryz.func202 (by kernel_rfl) (ay.cons Tryz.func204 (by kernel_rfl) (ay.cons Tryz.func248 (by kernel_rfl) (ay.cons Tryz.func249 (by kernel_rfl) (ay.cons Tryz.func163 (by kernel_rfl) (ay.cons Tryz.func162 (by kernel_rfl) (ay.cons Tryz.func164 (by kernel_rfl) (ay.cons Tryz.func168 (by kernel_rfl) (ay.cons Tryz.func171 (by kernel_rfl) (ay.cons Tryz.func170 (by kernel_rfl) (ay.cons Tryz.func172 (by kernel_rfl) (ay.cons Tryz.func207 (by kernel_rfl) (ay.cons Tryz.func208 (by kernel_rfl) (ay.cons Tryz.func63 (by kernel_rfl) (ay.cons Tryz.func256 (by kernel_rfl) (ay.cons Tryz.func257 (by kernel_rfl) (ay.cons Tryz.func258 (by kernel_rfl) (ay.cons Tryz.func149 (by kernel_rfl) (ay.cons Tryz.func244 (by kernel_rfl) (ay.cons Tryz.func246 (by kernel_rfl) (ay.cons Tryz.func247 (by kernel_rfl) (ay.cons Tryz.func222 (by kernel_rfl) (ay.cons Tryz.func226 (by kernel_rfl) (ay.cons Tryz.func227 (by kernel_rfl) (ay.cons Tryz.func250 (by kernel_rfl) (ay.cons Tryz.func251 (by kernel_rfl) (ay.cons Tryz.func252 (by kernel_rfl) (ay.cons Tryz.func254 (by kernel_rfl) (ay.cons Tryz.func253 (by kernel_rfl) (ay.cons Tryz.func113 (by kernel_rfl) (ay.cons Tryz.func278 (by kernel_rfl) (ay.cons Tryz.func279 (by kernel_rfl) (ay.cons Tryz.func211 (by kernel_rfl) (ay.cons Tryz.func245 (by kernel_rfl) (ay.cons Tryz.func273 (by kernel_rfl) (ay.cons Tryz.func274 (by kernel_rfl) (ay.cons Tryz.func275 (by kernel_rfl) (ay.cons Tryz.func277 (by kernel_rfl) (ay.cons Tryz.func276 (by kernel_rfl) (ay.cons Tryz.func299 (by kernel_rfl) (ay.nil)))))))))))))))))))))))))))))))))))))))))))))))))))))))))))))))))))))))))))))))))))))))))))))))))))))))))))))))))))))))))))))))))))))))))))))))))))))))))))))))))))
abbrev Hp:=Dc tbl Ai GL GK 5000 (iw Fq) 100
end Go.AL.Seat
end
noncomputable section
namespace Go.AL.Seat
open Go Go.AL Go.Proofs Go.Pd
set_option maxRecDepth 1000000
def Hq:Str:=[40,102,117,110,32,40,120,58,32,73,110,116,41,32,45,62,32,123,97,32,61,32,120,125,41,40,49,41,46,97]
def Hr:Str:=[97,100,100,40,49,44,32,116,114,117,101,41]
def Hs:AV:=(.tup [(.agg [(.int .i64 9),(.str []),(.str [97]),(.int .i64 0),.nils,.nils,.nils,(.lst (.st .term) [⟨7,[],[],0,[],[],[],[⟨6,[],[],0,[[120]],[],[⟨1,[],[],[],[]⟩],[⟨8,[],[],0,[[97]],[],[],[⟨5,[],[120],0,[],[],[],[],22⟩],17⟩],1⟩,⟨1,[],[],1,[],[],[],[],26⟩],0⟩] none),(.int .i64 0)]),(.agg [(.int .i64 0),(.int .i64 0)])])
def Ht:AV:=(.tup [(.agg [(.int .i64 7),(.str []),(.str []),(.int .i64 0),.nils,.nils,.nils,(.lst (.st .term) [⟨5,[],[97,100,100],0,[],[],[],[],0⟩,⟨1,[],[],1,[],[],[],[],4⟩,⟨3,[],[],0,[],[],[],[],7⟩] none),(.int .i64 0)]),(.agg [(.int .i64 0),(.int .i64 0)])])
def Fs:List Bndg:=[⟨[],[97,100,100],⟨8,[],[],[],[⟨1,[],[],[],[]⟩,⟨1,[],[],[],[]⟩,⟨1,[],[],[],[]⟩]⟩⟩,⟨[],[115,117,98],⟨8,[],[],[],[⟨1,[],[],[],[]⟩,⟨1,[],[],[],[]⟩,⟨1,[],[],[],[]⟩]⟩⟩,⟨[],[109,117,108],⟨8,[],[],[],[⟨1,[],[],[],[]⟩,⟨1,[],[],[],[]⟩,⟨1,[],[],[],[]⟩]⟩⟩,⟨[],[108,101,115,115],⟨8,[],[],[],[⟨1,[],[],[],[]⟩,⟨1,[],[],[],[]⟩,⟨2,[],[],[],[]⟩]⟩⟩,⟨[],[115,97,109,101],⟨8,[],[],[],[⟨1,[],[],[],[]⟩,⟨1,[],[],[],[]⟩,⟨2,[],[],[],[]⟩]⟩⟩,⟨[],[110,111,116],⟨8,[],[],[],[⟨2,[],[],[],[]⟩,⟨2,[],[],[],[]⟩]⟩⟩,⟨[],[98,111,116,104],⟨8,[],[],[],[⟨2,[],[],[],[]⟩,⟨2,[],[],[],[]⟩,⟨2,[],[],[],[]⟩]⟩⟩,⟨[],[99,97,116],⟨8,[],[],[],[⟨3,[],[],[],[]⟩,⟨3,[],[],[],[]⟩,⟨3,[],[],[],[]⟩]⟩⟩,⟨[],[115,105,122,101],⟨8,[],[],[],[⟨3,[],[],[],[]⟩,⟨1,[],[],[],[]⟩]⟩⟩,⟨[],[115,104,111,119],⟨8,[],[],[],[⟨1,[],[],[],[]⟩,⟨3,[],[],[],[]⟩]⟩⟩]
variable [Tabs] [SeatLaid]
theorem run1:aF Tryz.prog 28 [.str Hq] [] (.ret Hs):=kV (n:=100) mixed qJ mE kX (by kernel_rfl:Hp 28 [.str Hq] []=some ⟨none,none,Hs,[]⟩)
theorem run2:aF Tryz.prog 28 [.str Hr] [] (.ret Ht):=kV (n:=100) mixed qJ mE kX (by kernel_rfl:Hp 28 [.str Hr] []=some ⟨none,none,Ht,[]⟩)
theorem run3:aF Tryz.prog 18 [] [] (.ret (.lst (.st .bind) Fs none)):=kV (n:=100) mixed qJ mE kX (by kernel_rfl:Hp 18 [] []=some ⟨none,none,.lst (.st .bind) Fs none,[]⟩)
def GM:List (Nat×Pat):=(28,xC [.str Hq] Hs)::(28,xC [.str Hr] Ht)::(18,xC [] (.lst (.st .bind) Fs none))::Fq
theorem Ft:cn Tryz.prog (iw GM):=sc (uQ (ee Tryz.func28) run1) (sc (uQ (ee Tryz.func28) run2) (sc (uQ (ee Tryz.func18) run3) mE))
abbrev HJ:=Dc tbl Ai GL GK 5000 (iw GM) 100
end Go.AL.Seat
end
noncomputable section
namespace Go.AL.Seat
open Go Go.AL Go.Proofs Go.Pd
set_option maxRecDepth 1000000
variable [Tabs] [SeatLaid]
theorem run5:aF Tryz.prog 11 [] [] (.ret (.bool true)):=kV (n:=100) mixed qJ Ft kX (by kernel_rfl:HJ 11 [] []=some ⟨none,none,.bool true,[]⟩)
theorem xF:ak Tryz.prog 11 (p0 (.ret (.bool true))):=GH (ee Tryz.func11) run5
end Go.AL.Seat
end
