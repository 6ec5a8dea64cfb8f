/- What the functions' conditions say, proved. Plain facts. No condition. -/
import Derived.Test.YtgackciebknbeaaGreatDoorT05
set_option linter.all false
set_option maxRecDepth 100000
section
open Go Go.AL Go.Pd
namespace Go.AL.Seat
theorem FH (n:Nat) (l:List Trm) (p:Plc) (st mo:Int) (hl:Wf (.lst (.st .term)) l) (hp:Wf (.st .plc) p) (ho:(ay (fun x=>ab mo n x p) l st).isSome=true) :
  ((0:Int)<=(↑(List.length l):Int)/\(↑(List.length l):Int) *(↑(104:Nat):Int)<=(140737488355328:Int))/\(∃(x:Nat × List Thg × Int),(x.1<=List.length l/\List.length x.2.1=x.1/\ig (fun (y:Trm) ↦ab mo n y p) (List.drop x.1 l) x.2.1 x.2.2=ay (fun (y:Trm) ↦ab mo n y p) l st)/\(0:Int)=(↑x.1:Int)/\[]=x.2.1/\l=l/\p=p/\(↑(List.length l):Int)=(↑(List.length l):Int)/\(0:Nat)=List.length x.2.1/\st=x.2.2/\mo=mo/\p=p/\True)/\∀(x:Nat × List Thg × Int),x.1<=List.length l/\List.length x.2.1=x.1/\ig (fun (y:Trm) ↦ab mo n y p) (List.drop x.1 l) x.2.1 x.2.2=ay (fun (y:Trm) ↦ab mo n y p) l st→if decide ((↑x.1:Int) < (↑(List.length l):Int))=true then ((0:Int)<=(↑x.1:Int)/\(↑x.1:Int) < (↑(List.length l):Int))/\(Option.isSome (some (List.getD l (Int.toNat (↑x.1:Int)) (dfl (Ty.st SN.term))))=true/\Option.isSome (ab mo n (List.getD l (Int.toNat (↑x.1:Int)) (dfl (Ty.st SN.term))) p x.2.2)=true)/\if (!decide ((ah (ab mo n (List.getD l (Int.toNat (↑x.1:Int)) (dfl (Ty.st SN.term))) p x.2.2)).f.err=(0:Int)))=true then (!decide ((ct (ay (fun (y:Trm) ↦ab mo n y p) l st)).f.err=(0:Int)))=true/\(ah (ab mo n (List.getD l (Int.toNat (↑x.1:Int)) (dfl (Ty.st SN.term))) p x.2.2)).f.err=(ct (ay (fun (y:Trm) ↦ab mo n y p) l st)).f.err/\(ah (ab mo n (List.getD l (Int.toNat (↑x.1:Int)) (dfl (Ty.st SN.term))) p x.2.2)).f.pos=(ct (ay (fun (y:Trm) ↦ab mo n y p) l st)).f.pos/\(ah (ab mo n (List.getD l (Int.toNat (↑x.1:Int)) (dfl (Ty.st SN.term))) p x.2.2)).st=(ct (ay (fun (y:Trm) ↦ab mo n y p) l st)).st/\mo=mo/\True else (List.length x.2.1=List.length x.2.1/\(List.length x.2.1+List.length [(ah (ab mo n (List.getD l (Int.toNat (↑x.1:Int)) (dfl (Ty.st SN.term))) p x.2.2)).v]) *(104:Nat)<=(140737488355328:Nat))/\inR IntKind.i64 ((↑x.1:Int)+(1:Int))/\∃(y:Nat × List Thg × Int),(y.1<=List.length l/\List.length y.2.1=y.1/\ig (fun (y:Trm) ↦ab mo n y p) (List.drop y.1 l) y.2.1 y.2.2=ay (fun (y:Trm) ↦ab mo n y p) l st)/\List.length l - y.1 < List.length l - x.1/\(↑x.1:Int)+(1:Int)=(↑y.1:Int)/\x.2.1++[(ah (ab mo n (List.getD l (Int.toNat (↑x.1:Int)) (dfl (Ty.st SN.term))) p x.2.2)).v]=y.2.1/\l=l/\p=p/\(↑(List.length l):Int)=(↑(List.length l):Int)/\List.length (x.2.1++[(ah (ab mo n (List.getD l (Int.toNat (↑x.1:Int)) (dfl (Ty.st SN.term))) p x.2.2)).v])=List.length y.2.1/\(ah (ab mo n (List.getD l (Int.toNat (↑x.1:Int)) (dfl (Ty.st SN.term))) p x.2.2)).st=y.2.2/\mo=mo/\p=p/\True else (!decide ((ct (ay (fun (y:Trm) ↦ab mo n y p) l st)).f.err=(0:Int)))=false/\x.2.1=(ct (ay (fun (y:Trm) ↦ab mo n y p) l st)).vs/\x.2.2=(ct (ay (fun (y:Trm) ↦ab mo n y p) l st)).st/\mo=mo/\True:=by
 have ln:=hl.len
 obtain ⟨e,he⟩:=Option.isSome_iff_exists.1 ho
 have hb:l.length<=1000000:=by
  unfold ay at he
  split at he
  ·cases he
  ·omega
 have hp0:ig (fun x=>ab mo n x p) l [] st=some e:=by
  unfold ay at he
  rw [if_neg (by omega)] at he
  exact he
 simp only [he,ct,Int.toNat_natCast]
 refine ⟨⟨by omega,by omega⟩,⟨(0,[],st),⟨Nat.zero_le _,rfl,by rw [List.drop_zero];exact hp0⟩,(by repeat' (first | exact trivial | rfl | apply And.intro))⟩,?_⟩
 rintro ⟨k,out,s'⟩ ⟨h1,h2,h3⟩
 simp only at h1 h2 h3 ⊢
 refine aa (fun h=>?_) (fun h=>?_)
 ·have hk:k < l.length:=by have:=Xo h;omega
  rw [aO l k (dfl (Ty.st SN.term)) hk] at h3
  simp only [ig] at h3
  obtain ⟨v,hv⟩:∃v,ab mo n (l.getD k (dfl (Ty.st SN.term))) p s'=some v:=by
   cases q:ab mo n (l.getD k (dfl (Ty.st SN.term))) p s' with
   | none=>rw [q] at h3;cases h3
   | some v=>exact ⟨v,rfl⟩
  ·rw [hv] at h3
   simp only at h3
   simp only [hv,ah]
   refine ⟨⟨by omega,by omega⟩,⟨rfl,rfl⟩,aa (fun hc=>?_) (fun hc=>?_)⟩
   ·have hc':¬v.f.err=0:=by simpa using hc
    rw [if_neg hc'] at h3
    cases h3
    exact ⟨hc,(by repeat' (first | exact trivial | rfl | apply And.intro))⟩
   ·have hc':v.f.err=0:=by simpa using hc
    rw [if_pos hc'] at h3
    refine ⟨⟨trivial,by simp only [List.length_singleton];omega⟩,b6 hk ln,(k+1,out++[v.v],v.st),⟨by omega,by simp [h2],h3⟩,by simp only;omega,by simp only;omega,(by repeat' (first | exact trivial | rfl | apply And.intro))⟩
 ·have e1:k=l.length:=by have q:¬_:=fun q=>h (Xd q);omega
  subst e1
  rw [List.drop_length] at h3
  simp only [ig] at h3
  cases h3
  exact (by repeat' (first | exact trivial | rfl | apply And.intro))
theorem Ec (n:Nat) (t:Trm) (l:List Thg) (st mo:Int) (ht:Wf (.st .term) t) (hl:Wf (.lst (.st .thing)) l) (ho:(bC (ab mo n) mo t.pos l st).isSome=true) :
  ((0:Int)<=(0:Int)/\(0:Int) < (↑(List.length l):Int))/\if Dk l=true then Option.isSome (some t)=true/\(!decide ((ah (bC (ab mo n) mo t.pos l st)).f.err=(0:Int)))=true/\(291:Int)=(ah (bC (ab mo n) mo t.pos l st)).f.err/\t.pos=(ah (bC (ab mo n) mo t.pos l st)).f.pos/\st=(ah (bC (ab mo n) mo t.pos l st)).st/\mo=mo/\True else oa l=true/\inR IntKind.i64 ((↑(List.length l):Int) - (1:Int))/\if (!decide (Fnc.args (fcn l)=(↑(List.length l):Int) - (1:Int)))=true then Option.isSome (some t)=true/\(!decide ((ah (bC (ab mo n) mo t.pos l st)).f.err=(0:Int)))=true/\(291:Int)=(ah (bC (ab mo n) mo t.pos l st)).f.err/\t.pos=(ah (bC (ab mo n) mo t.pos l st)).f.pos/\st=(ah (bC (ab mo n) mo t.pos l st)).st/\mo=mo/\True else if decide (st=mo)=true then Option.isSome (some t)=true/\(!decide ((ah (bC (ab mo n) mo t.pos l st)).f.err=(0:Int)))=true/\(292:Int)=(ah (bC (ab mo n) mo t.pos l st)).f.err/\t.pos=(ah (bC (ab mo n) mo t.pos l st)).f.pos/\st=(ah (bC (ab mo n) mo t.pos l st)).st/\mo=mo/\True else inR IntKind.i64 (st+(1:Int))/\oa l=true/\if Option.isNone (Fnc.body (fcn l))=true then oa l=true/\((0:Int)<=(1:Int)/\(1:Int)<=(↑(List.length l):Int)/\(↑(List.length l):Int)<=(↑(List.length l):Int))/\Option.isSome (some t)=true/\Option.isSome (an (Fnc.basic (fcn l)) (List.drop (Int.toNat (1:Int)) (List.take (Int.toNat (↑(List.length l):Int)) l)) t.pos)=true/\if (!decide ((ah (an (Fnc.basic (fcn l)) (List.drop (Int.toNat (1:Int)) (List.take (Int.toNat (↑(List.length l):Int)) l)) t.pos)).f.err=(0:Int)))=true then (!decide ((ah (bC (ab mo n) mo t.pos l st)).f.err=(0:Int)))=true/\(ah (an (Fnc.basic (fcn l)) (List.drop (Int.toNat (1:Int)) (List.take (Int.toNat (↑(List.length l):Int)) l)) t.pos)).f.err=(ah (bC (ab mo n) mo t.pos l st)).f.err/\(ah (an (Fnc.basic (fcn l)) (List.drop (Int.toNat (1:Int)) (List.take (Int.toNat (↑(List.length l):Int)) l)) t.pos)).f.pos=(ah (bC (ab mo n) mo t.pos l st)).f.pos/\st+(1:Int)=(ah (bC (ab mo n) mo t.pos l st)).st/\mo=mo/\True else (!decide ((ah (bC (ab mo n) mo t.pos l st)).f.err=(0:Int)))=false/\(ah (an (Fnc.basic (fcn l)) (List.drop (Int.toNat (1:Int)) (List.take (Int.toNat (↑(List.length l):Int)) l)) t.pos)).v=(ah (bC (ab mo n) mo t.pos l st)).v/\st+(1:Int)=(ah (bC (ab mo n) mo t.pos l st)).st/\mo=mo/\True else oa l=true/\oa l=true/\(∃(x:Nat × Option Scp),(x.1<=List.length (Fnc.names (fcn l))/\dj x.2 (List.drop x.1 (Fnc.names (fcn l))) (List.drop (x.1+(1:Nat)) l)=dj (Fnc.scp (fcn l)) (Fnc.names (fcn l)) (List.drop (1:Nat) l))/\(0:Int)=(↑x.1:Int)/\some t=some t/\l=l/\Thg.fn (List.getD l (Int.toNat (0:Int)) (dfl (Ty.st SN.thing)))=Thg.fn (List.getD l (Int.toNat (0:Int)) (dfl (Ty.st SN.thing)))/\false=false/\false=false/\false=false/\Fnc.names (fcn l)=Fnc.names (fcn l)/\(↑(List.length (Fnc.names (fcn l))):Int)=(↑(List.length (Fnc.names (fcn l))):Int)/\Fnc.scp (fcn l)=x.2/\Fnc.self (fcn l)=Fnc.self (fcn l)/\st+(1:Int)=st+(1:Int)/\mo=mo/\(0:Int)=(0:Int)/\(0:Int)=(0:Int)/\cH UInt8=cH UInt8/\cH UInt8=cH UInt8/\True)/\∀(x:Nat × Option Scp),x.1<=List.length (Fnc.names (fcn l))/\dj x.2 (List.drop x.1 (Fnc.names (fcn l))) (List.drop (x.1+(1:Nat)) l)=dj (Fnc.scp (fcn l)) (Fnc.names (fcn l)) (List.drop (1:Nat) l)→if decide ((↑x.1:Int) < (↑(List.length (Fnc.names (fcn l))):Int))=true then ((0:Int)<=(↑x.1:Int)/\(↑x.1:Int) < (↑(List.length (Fnc.names (fcn l))):Int))/\inR IntKind.i64 ((↑x.1:Int)+(1:Int))/\((0:Int)<=(↑x.1:Int)+(1:Int)
  /\(↑x.1:Int)+(1:Int) < (↑(List.length l):Int))/\inR IntKind.i64 ((↑x.1:Int)+(1:Int))/\∃(y:Nat × Option Scp),(y.1<=List.length (Fnc.names (fcn l))/\dj y.2 (List.drop y.1 (Fnc.names (fcn l))) (List.drop (y.1+(1:Nat)) l)=dj (Fnc.scp (fcn l)) (Fnc.names (fcn l)) (List.drop (1:Nat) l))/\List.length (Fnc.names (fcn l)) - y.1 < List.length (Fnc.names (fcn l)) - x.1/\(↑x.1:Int)+(1:Int)=(↑y.1:Int)/\some t=some t/\l=l/\Thg.fn (List.getD l (Int.toNat (0:Int)) (dfl (Ty.st SN.thing)))=Thg.fn (List.getD l (Int.toNat (0:Int)) (dfl (Ty.st SN.thing)))/\false=false/\false=false/\false=false/\Fnc.names (fcn l)=Fnc.names (fcn l)/\(↑(List.length (Fnc.names (fcn l))):Int)=(↑(List.length (Fnc.names (fcn l))):Int)/\cM x.2 [] (List.getD (Fnc.names (fcn l)) (Int.toNat (↑x.1:Int)) (dfl Ty.str)) (List.getD l (Int.toNat ((↑x.1:Int)+(1:Int))) (dfl (Ty.st SN.thing)))=y.2/\Fnc.self (fcn l)=Fnc.self (fcn l)/\st+(1:Int)=st+(1:Int)/\mo=mo/\(0:Int)=(0:Int)/\(0:Int)=(0:Int)/\cH UInt8=cH UInt8/\cH UInt8=cH UInt8/\True else oa l=true/\(Option.isSome (Fnc.body (fcn l))=true/\Option.isSome (ab mo n (Option.getD (Fnc.body (fcn l)) default) {scp:=x.2,self:=Fnc.self (fcn l):Plc} (st+(1:Int)))=true)/\if (!decide ((ah (ab mo n (Option.getD (Fnc.body (fcn l)) default) {scp:=x.2,self:=Fnc.self (fcn l):Plc} (st+(1:Int)))).f.err=(0:Int)))=true then (!decide ((ah (bC (ab mo n) mo t.pos l st)).f.err=(0:Int)))=true/\(ah (ab mo n (Option.getD (Fnc.body (fcn l)) default) {scp:=x.2,self:=Fnc.self (fcn l):Plc} (st+(1:Int)))).f.err=(ah (bC (ab mo n) mo t.pos l st)).f.err/\(ah (ab mo n (Option.getD (Fnc.body (fcn l)) default) {scp:=x.2,self:=Fnc.self (fcn l):Plc} (st+(1:Int)))).f.pos=(ah (bC (ab mo n) mo t.pos l st)).f.pos/\(ah (ab mo n (Option.getD (Fnc.body (fcn l)) default) {scp:=x.2,self:=Fnc.self (fcn l):Plc} (st+(1:Int)))).st=(ah (bC (ab mo n) mo t.pos l st)).st/\mo=mo/\True else (!decide ((ah (bC (ab mo n) mo t.pos l st)).f.err=(0:Int)))=false/\(ah (ab mo n (Option.getD (Fnc.body (fcn l)) default) {scp:=x.2,self:=Fnc.self (fcn l):Plc} (st+(1:Int)))).v=(ah (bC (ab mo n) mo t.pos l st)).v/\(ah (ab mo n (Option.getD (Fnc.body (fcn l)) default) {scp:=x.2,self:=Fnc.self (fcn l):Plc} (st+(1:Int)))).st=(ah (bC (ab mo n) mo t.pos l st)).st/\mo=mo/\True:=by
 have ln:=hl.len
 obtain ⟨e,he⟩:=Option.isSome_iff_exists.1 ho
 have e1:List.drop (Int.toNat (1:Int)) (List.take (Int.toNat (l.length:Int)) l)=l.drop 1:=by simp
 simp only [he,cv,e1]
 unfold bC at he
 split at he
 ·cases he
 rename_i h0
 have hst:mv mo st:=by
  by_cases q:mv mo st
  ·exact q
  ·exact absurd (.inl q) h0
 obtain ⟨s0,s1,s2⟩:=hst
 have hlen:0 < l.length:=by
  rcases Nat.eq_zero_or_pos l.length with q | q
  ·exact absurd (.inr (.inl q)) h0
  ·exact q
 have hbig:l.length<=1000000:=by
  rcases Nat.lt_or_ge 1000000 l.length with q | q
  ·exact absurd (.inr (.inr q)) h0
  ·exact q
 refine ⟨⟨by omega,by omega⟩,aa (fun hf=>?_) (fun hf=>?_)⟩
 ·rw [if_neg (fun q=>by rw [GF hf] at q;exact absurd q.1 (by decide))] at he
  cases dz he
  exact (by repeat' (first | exact trivial | rfl | apply And.intro))
 have hF:=GG hf
 refine ⟨hF,bc (by omega) (by omega),aa (fun hc=>?_) (fun hc=>?_)⟩
 ·rw [if_neg (fun q=>fN hc q.2)] at he
  cases dz he
  exact (by repeat' (first | exact trivial | rfl | apply And.intro))
 rw [if_pos ⟨hF,fO hc⟩] at he
 refine aa (fun hs=>?_) (fun hs=>?_)
 ·rw [if_pos (Xo hs)] at he
  cases dz he
  exact (by repeat' (first | exact trivial | rfl | apply And.intro))
 have hs':¬st=mo:=fun q=>hs (Xd q)
 rw [if_neg hs'] at he
 unfold qj at he
 refine ⟨bc (by omega) (by omega),hF,aa (fun hb=>?_) (fun hb=>?_)⟩
 ·have hb:(fcn l).body=none:=by simpa using hb
  rw [hb] at he
  simp only at he
  obtain ⟨v,hv⟩:=dW (r:=an (fcn l).basic (l.drop 1) t.pos) (fun q=>by rw [q] at he;cases he)
  rw [hv] at he
  cases he
  simp only [hv,cv]
  refine ⟨hF,⟨by omega,by omega,by omega⟩,rfl,rfl,aa (fun q=>?_) (fun q=>?_)⟩
  ·exact ⟨q,(by repeat' (first | exact trivial | rfl | apply And.intro))⟩
  ·exact ⟨by simpa using q,(by repeat' (first | exact trivial | rfl | apply And.intro))⟩
 obtain ⟨b,hb⟩:=dW (r:=(fcn l).body) (fun q=>hb (by rw [q];rfl))
 rw [hb] at he
 simp only at he
 obtain ⟨sc,hsc⟩:=dW (r:=dj (fcn l).scp (fcn l).names (l.drop 1)) (fun q=>by rw [q] at he;cases he)
 rw [hsc] at he
 simp only at he
 simp only [hsc,Int.toNat_natCast]
 refine ⟨hF,hF,⟨(0,(fcn l).scp),⟨Nat.zero_le _,by rw [List.drop_zero];exact hsc⟩,(by repeat' (first | exact trivial | rfl | apply And.intro))⟩,?_⟩
 rintro ⟨k,s'⟩ ⟨h1,h2⟩
 simp only at h1 h2 ⊢
 have hkl:∀k s',dj s' ((fcn l).names.drop k) (l.drop (k+1))=some sc→k < (fcn l).names.length→k+1 < l.length/\dj (cM s' [] ((fcn l).names.getD k (dfl Ty.str)) (l.getD (k+1) (dfl (Ty.st SN.thing)))) ((fcn l).names.drop (k+1)) (l.drop (k+2))=some sc:=by
  intro k s' h hk
  rw [aO (fcn l).names k (dfl Ty.str) hk] at h
  have hl2:k+1 < l.length:=by
   rcases Nat.lt_or_ge (k+1) l.length with q | q
   ·exact q
   ·rw [List.drop_of_length_le q] at h;cases h
  refine ⟨hl2,?_⟩
  rw [aO l (k+1) (dfl (Ty.st SN.thing)) hl2] at h
  exact h
 refine aa (fun h=>?_) (fun h=>?_)
 ·have hk:k < (fcn l).names.length:=by have:=Xo h;omega
  obtain ⟨g1,g2⟩:=hkl k s' h2 hk
  have e2:Int.toNat ((k:Int)+1)=k+1:=by omega
  simp only [e2]
  exact ⟨⟨by omega,by omega⟩,bc (by omega) (by omega),⟨by omega,by omega⟩,bc (by omega) (by omega),(k+1,cM s' [] ((fcn l).names.getD k (dfl Ty.str)) (l.getD (k+1) (dfl (Ty.st SN.thing)))),⟨by simp only;omega,g2⟩,by simp only;omega,by simp only;omega,(by repeat' (first | exact trivial | rfl | apply And.intro))⟩
 ·have e1:k=(fcn l).names.length:=by have q:¬_:=fun q=>h (Xd q);omega
  subst e1
  rw [List.drop_length] at h2
  have h2:s'=sc:=Option.some.inj h2
  subst h2
  have hb2:Option.getD (some b) default=b:=rfl
  simp only [hb,hb2,he,cv]
  exact ⟨hF,⟨rfl,rfl⟩,aa (fun q=>⟨q,(by repeat' (first | exact trivial | rfl | apply And.intro))⟩) (fun q=>⟨by simpa using q,(by repeat' (first | exact trivial | rfl | apply And.intro))⟩)⟩
theorem yC (n:Nat) (t:Trm) (p:Plc) (st mo:Int) (ht:Wf (.st .term) t) (hp:Wf (.st .plc) p) (ho:(au (ab mo n) t p st).isSome=true) :
  Option.isSome (some t)=true/\((0:Int)<=(0:Int)/\(0:Int) < (↑(List.length t.parts):Int))/\(Option.isSome (some (List.getD t.parts (Int.toNat (0:Int)) (dfl (Ty.st SN.term))))=true/\Option.isSome (ab mo n (List.getD t.parts (Int.toNat (0:Int)) (dfl (Ty.st SN.term))) p st)=true)/\if (!decide ((ah (ab mo n (List.getD t.parts (Int.toNat (0:Int)) (dfl (Ty.st SN.term))) p st)).f.err=(0:Int)))=true then (!decide ((ah (au (ab mo n) t p st)).f.err=(0:Int)))=true/\(ah (ab mo n (List.getD t.parts (Int.toNat (0:Int)) (dfl (Ty.st SN.term))) p st)).f.err=(ah (au (ab mo n) t p st)).f.err/\(ah (ab mo n (List.getD t.parts (Int.toNat (0:Int)) (dfl (Ty.st SN.term))) p st)).f.pos=(ah (au (ab mo n) t p st)).f.pos/\(ah (ab mo n (List.getD t.parts (Int.toNat (0:Int)) (dfl (Ty.st SN.term))) p st)).st=(ah (au (ab mo n) t p st)).st/\mo=mo/\True else Option.isSome (some t)=true/\if decide (t.kind=(9:Int))=true then Option.isSome (some t)=true/\if (!decide (Thg.kind (ah (ab mo n (List.getD t.parts (Int.toNat (0:Int)) (dfl (Ty.st SN.term))) p st)).v=(5:Int)))=true then Option.isSome (some t)=true/\(!decide ((ah (au (ab mo n) t p st)).f.err=(0:Int)))=true/\(291:Int)=(ah (au (ab mo n) t p st)).f.err/\t.pos=(ah (au (ab mo n) t p st)).f.pos/\(ah (ab mo n (List.getD t.parts (Int.toNat (0:Int)) (dfl (Ty.st SN.term))) p st)).st=(ah (au (ab mo n) t p st)).st/\mo=mo/\True else if decide (bh (Thg.names (ah (ab mo n (List.getD t.parts (Int.toNat (0:Int)) (dfl (Ty.st SN.term))) p st)).v) t.name (0:Int) < (0:Int))=true then Option.isSome (some t)=true/\(!decide ((ah (au (ab mo n) t p st)).f.err=(0:Int)))=true/\(291:Int)=(ah (au (ab mo n) t p st)).f.err/\t.pos=(ah (au (ab mo n) t p st)).f.pos/\(ah (ab mo n (List.getD t.parts (Int.toNat (0:Int)) (dfl (Ty.st SN.term))) p st)).st=(ah (au (ab mo n) t p st)).st/\mo=mo/\True else ((0:Int)<=bh (Thg.names (ah (ab mo n (List.getD t.parts (Int.toNat (0:Int)) (dfl (Ty.st SN.term))) p st)).v) t.name (0:Int)/\bh (Thg.names (ah (ab mo n (List.getD t.parts (Int.toNat (0:Int)) (dfl (Ty.st SN.term))) p st)).v) t.name (0:Int) < (↑(List.length (Thg.parts (ah (ab mo n (List.getD t.parts (Int.toNat (0:Int)) (dfl (Ty.st SN.term))) p st)).v)):Int))/\(!decide ((ah (au (ab mo n) t p st)).f.err=(0:Int)))=false/\List.getD (Thg.parts (ah (ab mo n (List.getD t.parts (Int.toNat (0:Int)) (dfl (Ty.st SN.term))) p st)).v) (Int.toNat (bh (Thg.names (ah (ab mo n (List.getD t.parts (Int.toNat (0:Int)) (dfl (Ty.st SN.term))) p st)).v) t.name (0:Int))) (dfl (Ty.st SN.thing))=(ah (au (ab mo n) t p st)).v/\(ah (ab mo n (List.getD t.parts (Int.toNat (0:Int)) (dfl (Ty.st SN.term))) p st)).st=(ah (au (ab mo n) t p st)).st/\mo=mo/\True else if decide (t.kind=(12:Int))=true then if (!decide (Thg.kind (ah (ab mo n (List.getD t.parts (Int.toNat (0:Int)) (dfl (Ty.st SN.term))) p st)).v=(3:Int)))=true then Option.isSome (some t)=true/\(!decide ((ah (au (ab mo n) t p st)).f.err=(0:Int)))=true/\(291:Int)=(ah (au (ab mo n) t p st)).f.err/\t.pos=(ah (au (ab mo n) t p st)).f.pos/\(ah (ab mo n (List.getD t.parts (Int.toNat (0:Int)) (dfl (Ty.st SN.term))) p st)).st=(ah (au (ab mo n) t p st)).st/\mo=mo/\True else Option.isSome (some t)=true/\inR IntKind.i64 ((2:Int) - Thg.n (ah (ab mo n (List.getD t.parts (Int.toNat (0:Int)) (dfl (Ty.st SN.term))) p st)).v)/\((0:Int)<=(2:Int) - Thg.n (ah (ab mo n (List.getD t.parts (Int.toNat (0:Int)) (dfl (Ty.st SN.term))) p st)).v
  /\(2:Int) - Thg.n (ah (ab mo n (List.getD t.parts (Int.toNat (0:Int)) (dfl (Ty.st SN.term))) p st)).v < (↑(List.length t.parts):Int))/\(Option.isSome (some (List.getD t.parts (Int.toNat ((2:Int) - Thg.n (ah (ab mo n (List.getD t.parts (Int.toNat (0:Int)) (dfl (Ty.st SN.term))) p st)).v)) (dfl (Ty.st SN.term))))=true/\Option.isSome (ab mo n (List.getD t.parts (Int.toNat ((2:Int) - Thg.n (ah (ab mo n (List.getD t.parts (Int.toNat (0:Int)) (dfl (Ty.st SN.term))) p st)).v)) (dfl (Ty.st SN.term))) p (ah (ab mo n (List.getD t.parts (Int.toNat (0:Int)) (dfl (Ty.st SN.term))) p st)).st)=true)/\if (!decide ((ah (ab mo n (List.getD t.parts (Int.toNat ((2:Int) - Thg.n (ah (ab mo n (List.getD t.parts (Int.toNat (0:Int)) (dfl (Ty.st SN.term))) p st)).v)) (dfl (Ty.st SN.term))) p (ah (ab mo n (List.getD t.parts (Int.toNat (0:Int)) (dfl (Ty.st SN.term))) p st)).st)).f.err=(0:Int)))=true then (!decide ((ah (au (ab mo n) t p st)).f.err=(0:Int)))=true/\(ah (ab mo n (List.getD t.parts (Int.toNat ((2:Int) - Thg.n (ah (ab mo n (List.getD t.parts (Int.toNat (0:Int)) (dfl (Ty.st SN.term))) p st)).v)) (dfl (Ty.st SN.term))) p (ah (ab mo n (List.getD t.parts (Int.toNat (0:Int)) (dfl (Ty.st SN.term))) p st)).st)).f.err=(ah (au (ab mo n) t p st)).f.err/\(ah (ab mo n (List.getD t.parts (Int.toNat ((2:Int) - Thg.n (ah (ab mo n (List.getD t.parts (Int.toNat (0:Int)) (dfl (Ty.st SN.term))) p st)).v)) (dfl (Ty.st SN.term))) p (ah (ab mo n (List.getD t.parts (Int.toNat (0:Int)) (dfl (Ty.st SN.term))) p st)).st)).f.pos=(ah (au (ab mo n) t p st)).f.pos/\(ah (ab mo n (List.getD t.parts (Int.toNat ((2:Int) - Thg.n (ah (ab mo n (List.getD t.parts (Int.toNat (0:Int)) (dfl (Ty.st SN.term))) p st)).v)) (dfl (Ty.st SN.term))) p (ah (ab mo n (List.getD t.parts (Int.toNat (0:Int)) (dfl (Ty.st SN.term))) p st)).st)).st=(ah (au (ab mo n) t p st)).st/\mo=mo/\True else (!decide ((ah (au (ab mo n) t p st)).f.err=(0:Int)))=false/\(ah (ab mo n (List.getD t.parts (Int.toNat ((2:Int) - Thg.n (ah (ab mo n (List.getD t.parts (Int.toNat (0:Int)) (dfl (Ty.st SN.term))) p st)).v)) (dfl (Ty.st SN.term))) p (ah (ab mo n (List.getD t.parts (Int.toNat (0:Int)) (dfl (Ty.st SN.term))) p st)).st)).v=(ah (au (ab mo n) t p st)).v/\(ah (ab mo n (List.getD t.parts (Int.toNat ((2:Int) - Thg.n (ah (ab mo n (List.getD t.parts (Int.toNat (0:Int)) (dfl (Ty.st SN.term))) p st)).v)) (dfl (Ty.st SN.term))) p (ah (ab mo n (List.getD t.parts (Int.toNat (0:Int)) (dfl (Ty.st SN.term))) p st)).st)).st=(ah (au (ab mo n) t p st)).st/\mo=mo/\True else if decide (t.kind=(13:Int))=true then Option.isSome (some t)=true/\if (!decide (Thg.kind (ah (ab mo n (List.getD t.parts (Int.toNat (0:Int)) (dfl (Ty.st SN.term))) p st)).v=(6:Int)))=true then Option.isSome (some t)=true/\(!decide ((ah (au (ab mo n) t p st)).f.err=(0:Int)))=true/\(291:Int)=(ah (au (ab mo n) t p st)).f.err/\t.pos=(ah (au (ab mo n) t p st)).f.pos/\(ah (ab mo n (List.getD t.parts (Int.toNat (0:Int)) (dfl (Ty.st SN.term))) p st)).st=(ah (au (ab mo n) t p st)).st/\mo=mo/\True else if decide (bh t.names (Thg.text (ah (ab mo n (List.getD t.parts (Int.toNat (0:Int)) (dfl (Ty.st SN.term))) p st)).v) (0:Int) < (0:Int))=true then Option.isSome (some t)=true/\(!decide ((ah (au (ab mo n) t p st)).f.err=(0:Int)))=true/\(291:Int)=(ah (au (ab mo n) t p st)).f.err/\t.pos=(ah (au (ab mo n) t p st)).f.pos/\(ah (ab mo n (List.getD t.parts (Int.toNat (0:Int)) (dfl (Ty.st SN.term))) p st)).st=(ah (au (ab mo n) t p st)).st/\mo=mo/\True else Option.isSome (some t)=true
  /\inR IntKind.i64 (bh t.names (Thg.text (ah (ab mo n (List.getD t.parts (Int.toNat (0:Int)) (dfl (Ty.st SN.term))) p st)).v) (0:Int)+(1:Int))/\((0:Int)<=bh t.names (Thg.text (ah (ab mo n (List.getD t.parts (Int.toNat (0:Int)) (dfl (Ty.st SN.term))) p st)).v) (0:Int)+(1:Int)/\bh t.names (Thg.text (ah (ab mo n (List.getD t.parts (Int.toNat (0:Int)) (dfl (Ty.st SN.term))) p st)).v) (0:Int)+(1:Int) < (↑(List.length t.parts):Int))/\Option.isSome (some t)=true/\((0:Int)<=bh t.names (Thg.text (ah (ab mo n (List.getD t.parts (Int.toNat (0:Int)) (dfl (Ty.st SN.term))) p st)).v) (0:Int)/\bh t.names (Thg.text (ah (ab mo n (List.getD t.parts (Int.toNat (0:Int)) (dfl (Ty.st SN.term))) p st)).v) (0:Int) < (↑(List.length t.vars):Int))/\((0:Int)<=(0:Int)/\(0:Int) < (↑(List.length (Thg.parts (ah (ab mo n (List.getD t.parts (Int.toNat (0:Int)) (dfl (Ty.st SN.term))) p st)).v)):Int))/\(Option.isSome (some (List.getD t.parts (Int.toNat (bh t.names (Thg.text (ah (ab mo n (List.getD t.parts (Int.toNat (0:Int)) (dfl (Ty.st SN.term))) p st)).v) (0:Int)+(1:Int))) (dfl (Ty.st SN.term))))=true/\Option.isSome (ab mo n (List.getD t.parts (Int.toNat (bh t.names (Thg.text (ah (ab mo n (List.getD t.parts (Int.toNat (0:Int)) (dfl (Ty.st SN.term))) p st)).v) (0:Int)+(1:Int))) (dfl (Ty.st SN.term))) {scp:=cM p.scp [] (List.getD t.vars (Int.toNat (bh t.names (Thg.text (ah (ab mo n (List.getD t.parts (Int.toNat (0:Int)) (dfl (Ty.st SN.term))) p st)).v) (0:Int))) (dfl Ty.str)) (List.getD (Thg.parts (ah (ab mo n (List.getD t.parts (Int.toNat (0:Int)) (dfl (Ty.st SN.term))) p st)).v) (Int.toNat (0:Int)) (dfl (Ty.st SN.thing))),self:=p.self:Plc} (ah (ab mo n (List.getD t.parts (Int.toNat (0:Int)) (dfl (Ty.st SN.term))) p st)).st)=true)/\if (!decide ((ah (ab mo n (List.getD t.parts (Int.toNat (bh t.names (Thg.text (ah (ab mo n (List.getD t.parts (Int.toNat (0:Int)) (dfl (Ty.st SN.term))) p st)).v) (0:Int)+(1:Int))) (dfl (Ty.st SN.term))) {scp:=cM p.scp [] (List.getD t.vars (Int.toNat (bh t.names (Thg.text (ah (ab mo n (List.getD t.parts (Int.toNat (0:Int)) (dfl (Ty.st SN.term))) p st)).v) (0:Int))) (dfl Ty.str)) (List.getD (Thg.parts (ah (ab mo n (List.getD t.parts (Int.toNat (0:Int)) (dfl (Ty.st SN.term))) p st)).v) (Int.toNat (0:Int)) (dfl (Ty.st SN.thing))),self:=p.self:Plc} (ah (ab mo n (List.getD t.parts (Int.toNat (0:Int)) (dfl (Ty.st SN.term))) p st)).st)).f.err=(0:Int)))=true then (!decide ((ah (au (ab mo n) t p st)).f.err=(0:Int)))=true/\(ah (ab mo n (List.getD t.parts (Int.toNat (bh t.names (Thg.text (ah (ab mo n (List.getD t.parts (Int.toNat (0:Int)) (dfl (Ty.st SN.term))) p st)).v) (0:Int)+(1:Int))) (dfl (Ty.st SN.term))) {scp:=cM p.scp [] (List.getD t.vars (Int.toNat (bh t.names (Thg.text (ah (ab mo n (List.getD t.parts (Int.toNat (0:Int)) (dfl (Ty.st SN.term))) p st)).v) (0:Int))) (dfl Ty.str)) (List.getD (Thg.parts (ah (ab mo n (List.getD t.parts (Int.toNat (0:Int)) (dfl (Ty.st SN.term))) p st)).v) (Int.toNat (0:Int)) (dfl (Ty.st SN.thing))),self:=p.self:Plc} (ah (ab mo n (List.getD t.parts (Int.toNat (0:Int)) (dfl (Ty.st SN.term))) p st)).st)).f.err=(ah (au (ab mo n) t p st)).f.err
  /\(ah (ab mo n (List.getD t.parts (Int.toNat (bh t.names (Thg.text (ah (ab mo n (List.getD t.parts (Int.toNat (0:Int)) (dfl (Ty.st SN.term))) p st)).v) (0:Int)+(1:Int))) (dfl (Ty.st SN.term))) {scp:=cM p.scp [] (List.getD t.vars (Int.toNat (bh t.names (Thg.text (ah (ab mo n (List.getD t.parts (Int.toNat (0:Int)) (dfl (Ty.st SN.term))) p st)).v) (0:Int))) (dfl Ty.str)) (List.getD (Thg.parts (ah (ab mo n (List.getD t.parts (Int.toNat (0:Int)) (dfl (Ty.st SN.term))) p st)).v) (Int.toNat (0:Int)) (dfl (Ty.st SN.thing))),self:=p.self:Plc} (ah (ab mo n (List.getD t.parts (Int.toNat (0:Int)) (dfl (Ty.st SN.term))) p st)).st)).f.pos=(ah (au (ab mo n) t p st)).f.pos/\(ah (ab mo n (List.getD t.parts (Int.toNat (bh t.names (Thg.text (ah (ab mo n (List.getD t.parts (Int.toNat (0:Int)) (dfl (Ty.st SN.term))) p st)).v) (0:Int)+(1:Int))) (dfl (Ty.st SN.term))) {scp:=cM p.scp [] (List.getD t.vars (Int.toNat (bh t.names (Thg.text (ah (ab mo n (List.getD t.parts (Int.toNat (0:Int)) (dfl (Ty.st SN.term))) p st)).v) (0:Int))) (dfl Ty.str)) (List.getD (Thg.parts (ah (ab mo n (List.getD t.parts (Int.toNat (0:Int)) (dfl (Ty.st SN.term))) p st)).v) (Int.toNat (0:Int)) (dfl (Ty.st SN.thing))),self:=p.self:Plc} (ah (ab mo n (List.getD t.parts (Int.toNat (0:Int)) (dfl (Ty.st SN.term))) p st)).st)).st=(ah (au (ab mo n) t p st)).st/\mo=mo/\True else (!decide ((ah (au (ab mo n) t p st)).f.err=(0:Int)))=false/\(ah (ab mo n (List.getD t.parts (Int.toNat (bh t.names (Thg.text (ah (ab mo n (List.getD t.parts (Int.toNat (0:Int)) (dfl (Ty.st SN.term))) p st)).v) (0:Int)+(1:Int))) (dfl (Ty.st SN.term))) {scp:=cM p.scp [] (List.getD t.vars (Int.toNat (bh t.names (Thg.text (ah (ab mo n (List.getD t.parts (Int.toNat (0:Int)) (dfl (Ty.st SN.term))) p st)).v) (0:Int))) (dfl Ty.str)) (List.getD (Thg.parts (ah (ab mo n (List.getD t.parts (Int.toNat (0:Int)) (dfl (Ty.st SN.term))) p st)).v) (Int.toNat (0:Int)) (dfl (Ty.st SN.thing))),self:=p.self:Plc} (ah (ab mo n (List.getD t.parts (Int.toNat (0:Int)) (dfl (Ty.st SN.term))) p st)).st)).v=(ah (au (ab mo n) t p st)).v/\(ah (ab mo n (List.getD t.parts (Int.toNat (bh t.names (Thg.text (ah (ab mo n (List.getD t.parts (Int.toNat (0:Int)) (dfl (Ty.st SN.term))) p st)).v) (0:Int)+(1:Int))) (dfl (Ty.st SN.term))) {scp:=cM p.scp [] (List.getD t.vars (Int.toNat (bh t.names (Thg.text (ah (ab mo n (List.getD t.parts (Int.toNat (0:Int)) (dfl (Ty.st SN.term))) p st)).v) (0:Int))) (dfl Ty.str)) (List.getD (Thg.parts (ah (ab mo n (List.getD t.parts (Int.toNat (0:Int)) (dfl (Ty.st SN.term))) p st)).v) (Int.toNat (0:Int)) (dfl (Ty.st SN.thing))),self:=p.self:Plc} (ah (ab mo n (List.getD t.parts (Int.toNat (0:Int)) (dfl (Ty.st SN.term))) p st)).st)).st=(ah (au (ab mo n) t p st)).st/\mo=mo/\True else if (!decide (Thg.kind (ah (ab mo n (List.getD t.parts (Int.toNat (0:Int)) (dfl (Ty.st SN.term))) p st)).v=(7:Int)))=true then Option.isSome (some t)=true/\(!decide ((ah (au (ab mo n) t p st)).f.err=(0:Int)))=true/\(291:Int)=(ah (au (ab mo n) t p st)).f.err/\t.pos=(ah (au (ab mo n) t p st)).f.pos/\(ah (ab mo n (List.getD t.parts (Int.toNat (0:Int)) (dfl (Ty.st SN.term))) p st)).st=(ah (au (ab mo n) t p st)).st/\mo=mo/\True else if (!decide (Thg.pkg (ah (ab mo n (List.getD t.parts (Int.toNat (0:Int)) (dfl (Ty.st SN.term))) p st)).v=p.self))=true then Option.isSome (some t)=true/\(!decide ((ah (au (ab mo n) t p st)).f.err=(0:Int)))=true/\(291:Int)=(ah (au (ab mo n) t p st)).f.err/\t.pos=(ah (au (ab mo n) t p st)).f.pos
  /\(ah (ab mo n (List.getD t.parts (Int.toNat (0:Int)) (dfl (Ty.st SN.term))) p st)).st=(ah (au (ab mo n) t p st)).st/\mo=mo/\True else Option.isSome (some t)=true/\if (!decide (Thg.text (ah (ab mo n (List.getD t.parts (Int.toNat (0:Int)) (dfl (Ty.st SN.term))) p st)).v=t.name))=true then Option.isSome (some t)=true/\(!decide ((ah (au (ab mo n) t p st)).f.err=(0:Int)))=true/\(291:Int)=(ah (au (ab mo n) t p st)).f.err/\t.pos=(ah (au (ab mo n) t p st)).f.pos/\(ah (ab mo n (List.getD t.parts (Int.toNat (0:Int)) (dfl (Ty.st SN.term))) p st)).st=(ah (au (ab mo n) t p st)).st/\mo=mo/\True else ((0:Int)<=(0:Int)/\(0:Int) < (↑(List.length (Thg.parts (ah (ab mo n (List.getD t.parts (Int.toNat (0:Int)) (dfl (Ty.st SN.term))) p st)).v)):Int))/\(!decide ((ah (au (ab mo n) t p st)).f.err=(0:Int)))=false/\List.getD (Thg.parts (ah (ab mo n (List.getD t.parts (Int.toNat (0:Int)) (dfl (Ty.st SN.term))) p st)).v) (Int.toNat (0:Int)) (dfl (Ty.st SN.thing))=(ah (au (ab mo n) t p st)).v/\(ah (ab mo n (List.getD t.parts (Int.toNat (0:Int)) (dfl (Ty.st SN.term))) p st)).st=(ah (au (ab mo n) t p st)).st/\mo=mo/\True:=by
 have lp:=(Wf.term_parts ht).len
 obtain ⟨e,he⟩:=Option.isSome_iff_exists.1 ho
 simp only [he,cv]
 unfold au fR at he
 split at he
 ·cases he
 rename_i hl
 obtain ⟨x,hx⟩:=dW (r:=ab mo n (kl t 0) p st) (fun q=>by rw [q] at he;cases he)
 rw [hx] at he
 simp only [o9] at he
 have hx':ab mo n (List.getD t.parts (Int.toNat (0:Int)) (dfl (Ty.st SN.term))) p st=some x:=hx
 simp only [hx',cv]
 refine ⟨rfl,⟨by omega,by omega⟩,⟨rfl,rfl⟩,aa (fun hc=>?_) (fun hc=>?_)⟩
 ·rw [if_neg (fN hc)] at he
  cases he
  exact ⟨hc,(by repeat' (first | exact trivial | rfl | apply And.intro))⟩
 rw [if_pos (fO hc)] at he
 unfold qk at he
 refine ⟨rfl,aa (fun hk=>?_) (fun hk=>?_)⟩
 ·rw [if_pos (Xo hk)] at he
  unfold tF at he
  refine ⟨rfl,aa (fun h1=>?_) (fun h1=>?_)⟩
  ·rw [if_neg (fun q=>fN h1 q.1)] at he
   cases dz he
   exact (by repeat' (first | exact trivial | rfl | apply And.intro))
  refine aa (fun h2=>?_) (fun h2=>?_)
  ·have h2:=Xo h2
   rw [if_neg (fun q=>by have:=q.2;omega)] at he
   cases dz he
   exact (by repeat' (first | exact trivial | rfl | apply And.intro))
  have h2:¬bh x.v.names t.name 0 < 0:=fun q=>h2 (Xd q)
  rw [if_pos ⟨fO h1,by omega⟩] at he
  split at he
  ·cases he
  cases di he
  exact ⟨⟨by omega,by omega⟩,(by repeat' (first | exact trivial | rfl | apply And.intro))⟩
 rw [if_neg (fun q=>hk (Xd q))] at he
 refine aa (fun hk=>?_) (fun hk=>?_)
 ·rw [if_pos (Xo hk)] at he
  unfold ifE at he
  refine aa (fun h1=>?_) (fun h1=>?_)
  ·rw [if_neg (fN h1)] at he
   cases dz he
   exact (by repeat' (first | exact trivial | rfl | apply And.intro))
  rw [if_pos (fO h1)] at he
  split at he
  case isFalse=>cases he
  rename_i h2
  unfold fR at he
  split at he
  ·cases he
  have he':ab mo n (List.getD t.parts (Int.toNat (2 - x.v.n)) (dfl (Ty.st SN.term))) p x.st=some e:=he
  simp only [he',cv]
  exact ⟨rfl,bc (by omega) (by omega),⟨by omega,by omega⟩,⟨rfl,rfl⟩,aa (fun q=>⟨q,(by repeat' (first | exact trivial | rfl | apply And.intro))⟩) (fun q=>⟨by simpa using q,(by repeat' (first | exact trivial | rfl | apply And.intro))⟩)⟩
 rw [if_neg (fun q=>hk (Xd q))] at he
 refine aa (fun hk=>?_) (fun hk=>?_)
 ·rw [if_pos (Xo hk)] at he
  unfold tH at he
  refine ⟨rfl,aa (fun h1=>?_) (fun h1=>?_)⟩
  ·rw [if_neg (fun q=>fN h1 q.1)] at he
   cases dz he
   exact (by repeat' (first | exact trivial | rfl | apply And.intro))
  refine aa (fun h2=>?_) (fun h2=>?_)
  ·have h2:=Xo h2
   rw [if_neg (fun q=>by have:=q.2;omega)] at he
   cases dz he
   exact (by repeat' (first | exact trivial | rfl | apply And.intro))
  have h2:¬bh t.names x.v.text 0 < 0:=fun q=>h2 (Xd q)
  rw [if_pos ⟨fO h1,by omega⟩] at he
  unfold tG at he
  split at he
  ·cases he
  rename_i h3
  unfold fR at he
  split at he
  ·cases he
  have e2:Int.toNat (bh t.names x.v.text 0+1)=(bh t.names x.v.text 0).toNat+1:=by omega
  have he':ab mo n (List.getD t.parts ((bh t.names x.v.text 0).toNat+1) (dfl (Ty.st SN.term))) ⟨cM p.scp [] (List.getD t.vars (bh t.names x.v.text 0).toNat (dfl Ty.str)) (List.getD x.v.parts (Int.toNat (0:Int)) (dfl (Ty.st SN.thing))),p.self⟩ x.st=some e:=he
  simp only [e2,he',cv]
  exact ⟨rfl,bc (by omega) (by omega),⟨by omega,by omega⟩,rfl,⟨by omega,by omega⟩,⟨by omega,by omega⟩,⟨rfl,rfl⟩,aa (fun q=>⟨q,(by repeat' (first | exact trivial | rfl | apply And.intro))⟩) (fun q=>⟨by simpa using q,(by repeat' (first | exact trivial | rfl | apply And.intro))⟩)⟩
 rw [if_neg (fun q=>hk (Xd q))] at he
 unfold Fj at he
 refine aa (fun h1=>?_) (fun h1=>?_)
 ·rw [if_neg (fun q=>fN h1 q.1)] at he
  cases dz he
  exact (by repeat' (first | exact trivial | rfl | apply And.intro))
 refine aa (fun h2=>?_) (fun h2=>?_)
 ·rw [if_neg (fun q=>fN h2 q.2.1)] at he
  cases dz he
  exact (by repeat' (first | exact trivial | rfl | apply And.intro))
 refine ⟨rfl,aa (fun h3=>?_) (fun h3=>?_)⟩
 ·rw [if_neg (fun q=>fN h3 q.2.2)] at he
  cases dz he
  exact (by repeat' (first | exact trivial | rfl | apply And.intro))
 rw [if_pos ⟨fO h1,fO h2,fO h3⟩] at he
 split at he
 ·cases he
 cases di he
 exact ⟨⟨by omega,by omega⟩,(by repeat' (first | exact trivial | rfl | apply And.intro))⟩
theorem Ed (n:Nat) (t:Trm) (p:Plc) (st mo:Int) (ht:Wf (.st .term) t) (hp:Wf (.st .plc) p) (ho:(ab mo (n+1) t p st).isSome=true) :
  Option.isSome (some t)=true/\if decide (t.kind=(1:Int))=true then Option.isSome (some t)=true/\(!decide ((ah (ab mo (n+(1:Nat)) t p st)).f.err=(0:Int)))=false/\(1:Int)=Thg.kind (ah (ab mo (n+(1:Nat)) t p st)).v/\t.n=Thg.n (ah (ab mo (n+(1:Nat)) t p st)).v/\[]=Thg.pkg (ah (ab mo (n+(1:Nat)) t p st)).v/\[]=Thg.text (ah (ab mo (n+(1:Nat)) t p st)).v/\Thg.names (ah (ab mo (n+(1:Nat)) t p st)).v=[]/\Thg.parts (ah (ab mo (n+(1:Nat)) t p st)).v=[]/\Thg.fn (ah (ab mo (n+(1:Nat)) t p st)).v=none/\st=(ah (ab mo (n+(1:Nat)) t p st)).st/\mo=mo/\True else if decide (t.kind=(2:Int))=true then Option.isSome (some t)=true/\(!decide ((ah (ab mo (n+(1:Nat)) t p st)).f.err=(0:Int)))=false/\(2:Int)=Thg.kind (ah (ab mo (n+(1:Nat)) t p st)).v/\(0:Int)=Thg.n (ah (ab mo (n+(1:Nat)) t p st)).v/\[]=Thg.pkg (ah (ab mo (n+(1:Nat)) t p st)).v/\t.name=Thg.text (ah (ab mo (n+(1:Nat)) t p st)).v/\Thg.names (ah (ab mo (n+(1:Nat)) t p st)).v=[]/\Thg.parts (ah (ab mo (n+(1:Nat)) t p st)).v=[]/\Thg.fn (ah (ab mo (n+(1:Nat)) t p st)).v=none/\st=(ah (ab mo (n+(1:Nat)) t p st)).st/\mo=mo/\True else if decide (t.kind=(3:Int))=true then Option.isSome (some t)=true/\(!decide ((ah (ab mo (n+(1:Nat)) t p st)).f.err=(0:Int)))=false/\kW (decide (t.kind=(3:Int)))=(ah (ab mo (n+(1:Nat)) t p st)).v/\st=(ah (ab mo (n+(1:Nat)) t p st)).st/\mo=mo/\True else if decide (t.kind=(4:Int))=true then Option.isSome (some t)=true/\(!decide ((ah (ab mo (n+(1:Nat)) t p st)).f.err=(0:Int)))=false/\kW (decide (t.kind=(3:Int)))=(ah (ab mo (n+(1:Nat)) t p st)).v/\st=(ah (ab mo (n+(1:Nat)) t p st)).st/\mo=mo/\True else if decide (t.kind=(5:Int))=true then Option.isSome (some t)=true/\Option.isSome (some t)=true/\if Option.isNone (findF p.scp t.pkg t.name)=true then Option.isSome (some t)=true/\(!decide ((ah (ab mo (n+(1:Nat)) t p st)).f.err=(0:Int)))=true/\(110:Int)=(ah (ab mo (n+(1:Nat)) t p st)).f.err/\t.pos=(ah (ab mo (n+(1:Nat)) t p st)).f.pos/\st=(ah (ab mo (n+(1:Nat)) t p st)).st/\mo=mo/\True else Option.isSome (findF p.scp t.pkg t.name)=true/\(!decide ((ah (ab mo (n+(1:Nat)) t p st)).f.err=(0:Int)))=false/\Scp.what (Option.getD (findF p.scp t.pkg t.name) (dfl (Ty.st SN.scope)))=(ah (ab mo (n+(1:Nat)) t p st)).v/\st=(ah (ab mo (n+(1:Nat)) t p st)).st/\mo=mo/\True else if decide (t.kind=(6:Int))=true then Option.isSome (some t)=true/\Option.isSome (some t)=true/\((0:Int)<=(0:Int)/\(0:Int) < (↑(List.length t.parts):Int))/\Option.isSome (some t)=true/\(!decide ((ah (ab mo (n+(1:Nat)) t p st)).f.err=(0:Int)))=false/\(8:Int)=Thg.kind (ah (ab mo (n+(1:Nat)) t p st)).v/\(0:Int)=Thg.n (ah (ab mo (n+(1:Nat)) t p st)).v/\[]=Thg.pkg (ah (ab mo (n+(1:Nat)) t p st)).v/\[]=Thg.text (ah (ab mo (n+(1:Nat)) t p st)).v/\Thg.names (ah (ab mo (n+(1:Nat)) t p st)).v=[]/\Thg.parts (ah (ab mo (n+(1:Nat)) t p st)).v=[]/\some (Fnc.mk p.scp p.self t.names (some (List.getD t.parts (Int.toNat (0:Int)) (dfl (Ty.st SN.term)))) [] (↑(List.length t.names):Int))=Thg.fn (ah (ab mo (n+(1:Nat)) t p st)).v/\st=(ah (ab mo (n+(1:Nat)) t p st)).st/\mo=mo/\True else if decide (t.kind=(7:Int))=true then Option.isSome (some t)=true/\Option.isSome (ay (fun (x:Trm) ↦ab mo n x p) t.parts st)=true/\if (!decide ((ct (ay (fun (x:Trm) ↦ab mo n x p) t.parts st)).f.err=(0:Int)))=true then (!decide ((ah (ab mo (n+(1:Nat)) t p st)).f.err=(0:Int)))=true
  /\(ct (ay (fun (x:Trm) ↦ab mo n x p) t.parts st)).f.err=(ah (ab mo (n+(1:Nat)) t p st)).f.err/\(ct (ay (fun (x:Trm) ↦ab mo n x p) t.parts st)).f.pos=(ah (ab mo (n+(1:Nat)) t p st)).f.pos/\(ct (ay (fun (x:Trm) ↦ab mo n x p) t.parts st)).st=(ah (ab mo (n+(1:Nat)) t p st)).st/\mo=mo/\True else Option.isSome (bC (ab mo n) mo t.pos (ct (ay (fun (x:Trm) ↦ab mo n x p) t.parts st)).vs (ct (ay (fun (x:Trm) ↦ab mo n x p) t.parts st)).st)=true/\if (!decide ((ah (bC (ab mo n) mo t.pos (ct (ay (fun (x:Trm) ↦ab mo n x p) t.parts st)).vs (ct (ay (fun (x:Trm) ↦ab mo n x p) t.parts st)).st)).f.err=(0:Int)))=true then (!decide ((ah (ab mo (n+(1:Nat)) t p st)).f.err=(0:Int)))=true/\(ah (bC (ab mo n) mo t.pos (ct (ay (fun (x:Trm) ↦ab mo n x p) t.parts st)).vs (ct (ay (fun (x:Trm) ↦ab mo n x p) t.parts st)).st)).f.err=(ah (ab mo (n+(1:Nat)) t p st)).f.err/\(ah (bC (ab mo n) mo t.pos (ct (ay (fun (x:Trm) ↦ab mo n x p) t.parts st)).vs (ct (ay (fun (x:Trm) ↦ab mo n x p) t.parts st)).st)).f.pos=(ah (ab mo (n+(1:Nat)) t p st)).f.pos/\(ah (bC (ab mo n) mo t.pos (ct (ay (fun (x:Trm) ↦ab mo n x p) t.parts st)).vs (ct (ay (fun (x:Trm) ↦ab mo n x p) t.parts st)).st)).st=(ah (ab mo (n+(1:Nat)) t p st)).st/\mo=mo/\True else (!decide ((ah (ab mo (n+(1:Nat)) t p st)).f.err=(0:Int)))=false/\(ah (bC (ab mo n) mo t.pos (ct (ay (fun (x:Trm) ↦ab mo n x p) t.parts st)).vs (ct (ay (fun (x:Trm) ↦ab mo n x p) t.parts st)).st)).v=(ah (ab mo (n+(1:Nat)) t p st)).v/\(ah (bC (ab mo n) mo t.pos (ct (ay (fun (x:Trm) ↦ab mo n x p) t.parts st)).vs (ct (ay (fun (x:Trm) ↦ab mo n x p) t.parts st)).st)).st=(ah (ab mo (n+(1:Nat)) t p st)).st/\mo=mo/\True else if decide (t.kind=(8:Int))=true then Option.isSome (some t)=true/\Option.isSome (some t)=true/\Option.isSome (ay (fun (x:Trm) ↦ab mo n x p) t.parts st)=true/\if (!decide ((ct (ay (fun (x:Trm) ↦ab mo n x p) t.parts st)).f.err=(0:Int)))=true then (!decide ((ah (ab mo (n+(1:Nat)) t p st)).f.err=(0:Int)))=true/\(ct (ay (fun (x:Trm) ↦ab mo n x p) t.parts st)).f.err=(ah (ab mo (n+(1:Nat)) t p st)).f.err/\(ct (ay (fun (x:Trm) ↦ab mo n x p) t.parts st)).f.pos=(ah (ab mo (n+(1:Nat)) t p st)).f.pos/\(ct (ay (fun (x:Trm) ↦ab mo n x p) t.parts st)).st=(ah (ab mo (n+(1:Nat)) t p st)).st/\mo=mo/\True else (!decide ((ah (ab mo (n+(1:Nat)) t p st)).f.err=(0:Int)))=false/\(5:Int)=Thg.kind (ah (ab mo (n+(1:Nat)) t p st)).v/\(0:Int)=Thg.n (ah (ab mo (n+(1:Nat)) t p st)).v/\[]=Thg.pkg (ah (ab mo (n+(1:Nat)) t p st)).v/\[]=Thg.text (ah (ab mo (n+(1:Nat)) t p st)).v/\t.names=Thg.names (ah (ab mo (n+(1:Nat)) t p st)).v/\(ct (ay (fun (x:Trm) ↦ab mo n x p) t.parts st)).vs=Thg.parts (ah (ab mo (n+(1:Nat)) t p st)).v/\Thg.fn (ah (ab mo (n+(1:Nat)) t p st)).v=none/\(ct (ay (fun (x:Trm) ↦ab mo n x p) t.parts st)).st=(ah (ab mo (n+(1:Nat)) t p st)).st/\mo=mo/\True else if decide (t.kind=(10:Int))=true then Option.isSome (some t)=true/\Option.isSome (some t)=true/\Option.isSome (ay (fun (x:Trm) ↦ab mo n x p) t.parts st)=true/\if (!decide ((ct (ay (fun (x:Trm) ↦ab mo n x p) t.parts st)).f.err=(0:Int)))=true then (!decide ((ah (ab mo (n+(1:Nat)) t p st)).f.err=(0:Int)))=true/\(ct (ay (fun (x:Trm) ↦ab mo n x p) t.parts st)).f.err=(ah (ab mo (n+(1:Nat)) t p st)).f.err
  /\(ct (ay (fun (x:Trm) ↦ab mo n x p) t.parts st)).f.pos=(ah (ab mo (n+(1:Nat)) t p st)).f.pos/\(ct (ay (fun (x:Trm) ↦ab mo n x p) t.parts st)).st=(ah (ab mo (n+(1:Nat)) t p st)).st/\mo=mo/\True else (!decide ((ah (ab mo (n+(1:Nat)) t p st)).f.err=(0:Int)))=false/\(6:Int)=Thg.kind (ah (ab mo (n+(1:Nat)) t p st)).v/\(0:Int)=Thg.n (ah (ab mo (n+(1:Nat)) t p st)).v/\[]=Thg.pkg (ah (ab mo (n+(1:Nat)) t p st)).v/\t.name=Thg.text (ah (ab mo (n+(1:Nat)) t p st)).v/\Thg.names (ah (ab mo (n+(1:Nat)) t p st)).v=[]/\(ct (ay (fun (x:Trm) ↦ab mo n x p) t.parts st)).vs=Thg.parts (ah (ab mo (n+(1:Nat)) t p st)).v/\Thg.fn (ah (ab mo (n+(1:Nat)) t p st)).v=none/\(ct (ay (fun (x:Trm) ↦ab mo n x p) t.parts st)).st=(ah (ab mo (n+(1:Nat)) t p st)).st/\mo=mo/\True else if decide (t.kind=(11:Int))=true then Option.isSome (some t)=true/\Option.isSome (ay (fun (x:Trm) ↦ab mo n x p) t.parts st)=true/\if (!decide ((ct (ay (fun (x:Trm) ↦ab mo n x p) t.parts st)).f.err=(0:Int)))=true then (!decide ((ah (ab mo (n+(1:Nat)) t p st)).f.err=(0:Int)))=true/\(ct (ay (fun (x:Trm) ↦ab mo n x p) t.parts st)).f.err=(ah (ab mo (n+(1:Nat)) t p st)).f.err/\(ct (ay (fun (x:Trm) ↦ab mo n x p) t.parts st)).f.pos=(ah (ab mo (n+(1:Nat)) t p st)).f.pos/\(ct (ay (fun (x:Trm) ↦ab mo n x p) t.parts st)).st=(ah (ab mo (n+(1:Nat)) t p st)).st/\mo=mo/\True else (!decide ((ah (ab mo (n+(1:Nat)) t p st)).f.err=(0:Int)))=false/\(4:Int)=Thg.kind (ah (ab mo (n+(1:Nat)) t p st)).v/\(0:Int)=Thg.n (ah (ab mo (n+(1:Nat)) t p st)).v/\[]=Thg.pkg (ah (ab mo (n+(1:Nat)) t p st)).v/\[]=Thg.text (ah (ab mo (n+(1:Nat)) t p st)).v/\Thg.names (ah (ab mo (n+(1:Nat)) t p st)).v=[]/\(ct (ay (fun (x:Trm) ↦ab mo n x p) t.parts st)).vs=Thg.parts (ah (ab mo (n+(1:Nat)) t p st)).v/\Thg.fn (ah (ab mo (n+(1:Nat)) t p st)).v=none/\(ct (ay (fun (x:Trm) ↦ab mo n x p) t.parts st)).st=(ah (ab mo (n+(1:Nat)) t p st)).st/\mo=mo/\True else if decide (t.kind=(15:Int))=true then Option.isSome (some t)=true/\((0:Int)<=(0:Int)/\(0:Int) < (↑(List.length t.parts):Int))/\(Option.isSome (some (List.getD t.parts (Int.toNat (0:Int)) (dfl (Ty.st SN.term))))=true/\Option.isSome (ab mo n (List.getD t.parts (Int.toNat (0:Int)) (dfl (Ty.st SN.term))) p st)=true)/\if (!decide ((ah (ab mo n (List.getD t.parts (Int.toNat (0:Int)) (dfl (Ty.st SN.term))) p st)).f.err=(0:Int)))=true then (!decide ((ah (ab mo (n+(1:Nat)) t p st)).f.err=(0:Int)))=true/\(ah (ab mo n (List.getD t.parts (Int.toNat (0:Int)) (dfl (Ty.st SN.term))) p st)).f.err=(ah (ab mo (n+(1:Nat)) t p st)).f.err/\(ah (ab mo n (List.getD t.parts (Int.toNat (0:Int)) (dfl (Ty.st SN.term))) p st)).f.pos=(ah (ab mo (n+(1:Nat)) t p st)).f.pos/\(ah (ab mo n (List.getD t.parts (Int.toNat (0:Int)) (dfl (Ty.st SN.term))) p st)).st=(ah (ab mo (n+(1:Nat)) t p st)).st/\mo=mo/\True else (!decide ((ah (ab mo (n+(1:Nat)) t p st)).f.err=(0:Int)))=false/\(ah (ab mo n (List.getD t.parts (Int.toNat (0:Int)) (dfl (Ty.st SN.term))) p st)).v=(ah (ab mo (n+(1:Nat)) t p st)).v/\(ah (ab mo n (List.getD t.parts (Int.toNat (0:Int)) (dfl (Ty.st SN.term))) p st)).st=(ah (ab mo (n+(1:Nat)) t p st)).st/\mo=mo/\True else if decide (t.kind=(16:Int))=true then Option.isSome (some t)=true/\Option.isSome (some t)=true/\Option.isSome (ay (fun (x:Trm) ↦ab mo n x p) t.parts st)=true
  /\if (!decide ((ct (ay (fun (x:Trm) ↦ab mo n x p) t.parts st)).f.err=(0:Int)))=true then (!decide ((ah (ab mo (n+(1:Nat)) t p st)).f.err=(0:Int)))=true/\(ct (ay (fun (x:Trm) ↦ab mo n x p) t.parts st)).f.err=(ah (ab mo (n+(1:Nat)) t p st)).f.err/\(ct (ay (fun (x:Trm) ↦ab mo n x p) t.parts st)).f.pos=(ah (ab mo (n+(1:Nat)) t p st)).f.pos/\(ct (ay (fun (x:Trm) ↦ab mo n x p) t.parts st)).st=(ah (ab mo (n+(1:Nat)) t p st)).st/\mo=mo/\True else (!decide ((ah (ab mo (n+(1:Nat)) t p st)).f.err=(0:Int)))=false/\(7:Int)=Thg.kind (ah (ab mo (n+(1:Nat)) t p st)).v/\(0:Int)=Thg.n (ah (ab mo (n+(1:Nat)) t p st)).v/\p.self=Thg.pkg (ah (ab mo (n+(1:Nat)) t p st)).v/\t.name=Thg.text (ah (ab mo (n+(1:Nat)) t p st)).v/\Thg.names (ah (ab mo (n+(1:Nat)) t p st)).v=[]/\(ct (ay (fun (x:Trm) ↦ab mo n x p) t.parts st)).vs=Thg.parts (ah (ab mo (n+(1:Nat)) t p st)).v/\Thg.fn (ah (ab mo (n+(1:Nat)) t p st)).v=none/\(ct (ay (fun (x:Trm) ↦ab mo n x p) t.parts st)).st=(ah (ab mo (n+(1:Nat)) t p st)).st/\mo=mo/\True else if decide (t.kind=(14:Int))=true then Option.isSome (some t)=true/\((0:Int)<=(0:Int)/\(0:Int) < (↑(List.length t.parts):Int))/\(Option.isSome (some (List.getD t.parts (Int.toNat (0:Int)) (dfl (Ty.st SN.term))))=true/\Option.isSome (ab mo n (List.getD t.parts (Int.toNat (0:Int)) (dfl (Ty.st SN.term))) p st)=true)/\if (!decide ((ah (ab mo n (List.getD t.parts (Int.toNat (0:Int)) (dfl (Ty.st SN.term))) p st)).f.err=(0:Int)))=true then (!decide ((ah (ab mo (n+(1:Nat)) t p st)).f.err=(0:Int)))=true/\(ah (ab mo n (List.getD t.parts (Int.toNat (0:Int)) (dfl (Ty.st SN.term))) p st)).f.err=(ah (ab mo (n+(1:Nat)) t p st)).f.err/\(ah (ab mo n (List.getD t.parts (Int.toNat (0:Int)) (dfl (Ty.st SN.term))) p st)).f.pos=(ah (ab mo (n+(1:Nat)) t p st)).f.pos/\(ah (ab mo n (List.getD t.parts (Int.toNat (0:Int)) (dfl (Ty.st SN.term))) p st)).st=(ah (ab mo (n+(1:Nat)) t p st)).st/\mo=mo/\True else Option.isSome (some t)=true/\((0:Int)<=(1:Int)/\(1:Int) < (↑(List.length t.parts):Int))/\Option.isSome (some t)=true/\(Option.isSome (some (List.getD t.parts (Int.toNat (1:Int)) (dfl (Ty.st SN.term))))=true/\Option.isSome (ab mo n (List.getD t.parts (Int.toNat (1:Int)) (dfl (Ty.st SN.term))) {scp:=cM p.scp [] t.name (ah (ab mo n (List.getD t.parts (Int.toNat (0:Int)) (dfl (Ty.st SN.term))) p st)).v,self:=p.self:Plc} (ah (ab mo n (List.getD t.parts (Int.toNat (0:Int)) (dfl (Ty.st SN.term))) p st)).st)=true)/\if (!decide ((ah (ab mo n (List.getD t.parts (Int.toNat (1:Int)) (dfl (Ty.st SN.term))) {scp:=cM p.scp [] t.name (ah (ab mo n (List.getD t.parts (Int.toNat (0:Int)) (dfl (Ty.st SN.term))) p st)).v,self:=p.self:Plc} (ah (ab mo n (List.getD t.parts (Int.toNat (0:Int)) (dfl (Ty.st SN.term))) p st)).st)).f.err=(0:Int)))=true then (!decide ((ah (ab mo (n+(1:Nat)) t p st)).f.err=(0:Int)))=true/\(ah (ab mo n (List.getD t.parts (Int.toNat (1:Int)) (dfl (Ty.st SN.term))) {scp:=cM p.scp [] t.name (ah (ab mo n (List.getD t.parts (Int.toNat (0:Int)) (dfl (Ty.st SN.term))) p st)).v,self:=p.self:Plc} (ah (ab mo n (List.getD t.parts (Int.toNat (0:Int)) (dfl (Ty.st SN.term))) p st)).st)).f.err=(ah (ab mo (n+(1:Nat)) t p st)).f.err
  /\(ah (ab mo n (List.getD t.parts (Int.toNat (1:Int)) (dfl (Ty.st SN.term))) {scp:=cM p.scp [] t.name (ah (ab mo n (List.getD t.parts (Int.toNat (0:Int)) (dfl (Ty.st SN.term))) p st)).v,self:=p.self:Plc} (ah (ab mo n (List.getD t.parts (Int.toNat (0:Int)) (dfl (Ty.st SN.term))) p st)).st)).f.pos=(ah (ab mo (n+(1:Nat)) t p st)).f.pos/\(ah (ab mo n (List.getD t.parts (Int.toNat (1:Int)) (dfl (Ty.st SN.term))) {scp:=cM p.scp [] t.name (ah (ab mo n (List.getD t.parts (Int.toNat (0:Int)) (dfl (Ty.st SN.term))) p st)).v,self:=p.self:Plc} (ah (ab mo n (List.getD t.parts (Int.toNat (0:Int)) (dfl (Ty.st SN.term))) p st)).st)).st=(ah (ab mo (n+(1:Nat)) t p st)).st/\mo=mo/\True else (!decide ((ah (ab mo (n+(1:Nat)) t p st)).f.err=(0:Int)))=false/\(ah (ab mo n (List.getD t.parts (Int.toNat (1:Int)) (dfl (Ty.st SN.term))) {scp:=cM p.scp [] t.name (ah (ab mo n (List.getD t.parts (Int.toNat (0:Int)) (dfl (Ty.st SN.term))) p st)).v,self:=p.self:Plc} (ah (ab mo n (List.getD t.parts (Int.toNat (0:Int)) (dfl (Ty.st SN.term))) p st)).st)).v=(ah (ab mo (n+(1:Nat)) t p st)).v/\(ah (ab mo n (List.getD t.parts (Int.toNat (1:Int)) (dfl (Ty.st SN.term))) {scp:=cM p.scp [] t.name (ah (ab mo n (List.getD t.parts (Int.toNat (0:Int)) (dfl (Ty.st SN.term))) p st)).v,self:=p.self:Plc} (ah (ab mo n (List.getD t.parts (Int.toNat (0:Int)) (dfl (Ty.st SN.term))) p st)).st)).st=(ah (ab mo (n+(1:Nat)) t p st)).st/\mo=mo/\True else (Option.isSome (some t)=true/\Option.isSome (au (ab mo n) t p st)=true)/\if (!decide ((ah (au (ab mo n) t p st)).f.err=(0:Int)))=true then (!decide ((ah (ab mo (n+(1:Nat)) t p st)).f.err=(0:Int)))=true/\(ah (au (ab mo n) t p st)).f.err=(ah (ab mo (n+(1:Nat)) t p st)).f.err/\(ah (au (ab mo n) t p st)).f.pos=(ah (ab mo (n+(1:Nat)) t p st)).f.pos/\(ah (au (ab mo n) t p st)).st=(ah (ab mo (n+(1:Nat)) t p st)).st/\mo=mo/\True else (!decide ((ah (ab mo (n+(1:Nat)) t p st)).f.err=(0:Int)))=false/\(ah (au (ab mo n) t p st)).v=(ah (ab mo (n+(1:Nat)) t p st)).v/\(ah (au (ab mo n) t p st)).st=(ah (ab mo (n+(1:Nat)) t p st)).st/\mo=mo/\True:=by
 have lp:=(Wf.term_parts ht).len
 obtain ⟨e,he⟩:=Option.isSome_iff_exists.1 ho
 simp only [he,cv]
 simp only [ab] at he
 split at he
 case isFalse=>cases he
 unfold ql at he
 refine ⟨rfl,?_⟩
 refine aa (fun hk=>?_) (fun hk=>?_)
 ·rw [if_pos (Xo hk)] at he
  cases di he
  exact (by repeat' (first | exact trivial | rfl | apply And.intro))
 rw [if_neg (fun q=>hk (Xd q))] at he
 refine aa (fun hk=>?_) (fun hk=>?_)
 ·rw [if_pos (Xo hk)] at he
  cases di he
  exact (by repeat' (first | exact trivial | rfl | apply And.intro))
 rw [if_neg (fun q=>hk (Xd q))] at he
 have h34:t.kind=3∨t.kind=4→okE (kW (decide (t.kind=3))) st=some e:=fun q=>by rw [if_pos q] at he;exact he
 refine aa (fun hk=>?_) (fun hk=>?_)
 ·cases di (h34 (.inl (Xo hk)))
  exact (by repeat' (first | exact trivial | rfl | apply And.intro))
 refine aa (fun hk'=>?_) (fun hk'=>?_)
 ·cases di (h34 (.inr (Xo hk')))
  exact (by repeat' (first | exact trivial | rfl | apply And.intro))
 rw [if_neg (fun q=>q.elim (fun q=>hk (Xd q)) (fun q=>hk' (Xd q)))] at he
 clear h34 hk hk'
 refine aa (fun hk=>?_) (fun hk=>?_)
 ·rw [if_pos (Xo hk)] at he
  unfold B5 Dl at he
  refine ⟨rfl,rfl,aa (fun h=>?_) (fun h=>?_)⟩
  ·rw [if_neg (by cases q:findF p.scp t.pkg t.name <;> simp_all)] at he
   cases dz he
   exact (by repeat' (first | exact trivial | rfl | apply And.intro))
  ·have h:(findF p.scp t.pkg t.name).isSome=true:=by cases q:findF p.scp t.pkg t.name <;> simp_all
   rw [if_pos h] at he
   cases di he
   exact ⟨h,(by repeat' (first | exact trivial | rfl | apply And.intro))⟩
 rw [if_neg (fun q=>hk (Xd q))] at he
 refine aa (fun hk=>?_) (fun hk=>?_)
 ·rw [if_pos (Xo hk)] at he
  unfold funE fR at he
  split at he
  ·cases he
  cases di he
  exact ⟨rfl,rfl,⟨by omega,by omega⟩,(by repeat' (first | exact trivial | rfl | apply And.intro))⟩
 rw [if_neg (fun q=>hk (Xd q))] at he
 refine aa (fun hk=>?_) (fun hk=>?_)
 ·rw [if_pos (Xo hk)] at he
  obtain ⟨y,hy⟩:=dW (r:=ay (fun x=>ab mo n x p) t.parts st) (fun q=>by rw [q] at he;cases he)
  rw [hy] at he
  simp only [ki] at he
  simp only [hy,iL]
  refine ⟨rfl,rfl,aa (fun hc=>?_) (fun hc=>?_)⟩
  ·rw [if_neg (fN hc)] at he
   cases he
   exact ⟨hc,(by repeat' (first | exact trivial | rfl | apply And.intro))⟩
  rw [if_pos (fO hc)] at he
  simp only [he,cv]
  exact ⟨rfl,aa (fun q=>⟨q,(by repeat' (first | exact trivial | rfl | apply And.intro))⟩) (fun q=>⟨by simpa using q,(by repeat' (first | exact trivial | rfl | apply And.intro))⟩)⟩
 rw [if_neg (fun q=>hk (Xd q))] at he
 refine aa (fun hk=>?_) (fun hk=>?_)
 ·rw [if_pos (Xo hk)] at he
  obtain ⟨y,hy⟩:=dW (r:=ay (fun x=>ab mo n x p) t.parts st) (fun q=>by rw [q] at he;cases he)
  rw [hy] at he
  simp only [ki] at he
  simp only [hy,iL]
  refine ⟨rfl,rfl,rfl,aa (fun hc=>?_) (fun hc=>?_)⟩
  ·rw [if_neg (fN hc)] at he
   cases he
   exact ⟨hc,(by repeat' (first | exact trivial | rfl | apply And.intro))⟩
  rw [if_pos (fO hc)] at he
  cases di he
  exact (by repeat' (first | exact trivial | rfl | apply And.intro))
 rw [if_neg (fun q=>hk (Xd q))] at he
 refine aa (fun hk=>?_) (fun hk=>?_)
 ·rw [if_pos (Xo hk)] at he
  obtain ⟨y,hy⟩:=dW (r:=ay (fun x=>ab mo n x p) t.parts st) (fun q=>by rw [q] at he;cases he)
  rw [hy] at he
  simp only [ki] at he
  simp only [hy,iL]
  refine ⟨rfl,rfl,rfl,aa (fun hc=>?_) (fun hc=>?_)⟩
  ·rw [if_neg (fN hc)] at he
   cases he
   exact ⟨hc,(by repeat' (first | exact trivial | rfl | apply And.intro))⟩
  rw [if_pos (fO hc)] at he
  cases di he
  exact (by repeat' (first | exact trivial | rfl | apply And.intro))
 rw [if_neg (fun q=>hk (Xd q))] at he
 refine aa (fun hk=>?_) (fun hk=>?_)
 ·rw [if_pos (Xo hk)] at he
  obtain ⟨y,hy⟩:=dW (r:=ay (fun x=>ab mo n x p) t.parts st) (fun q=>by rw [q] at he;cases he)
  rw [hy] at he
  simp only [ki] at he
  simp only [hy,iL]
  refine ⟨rfl,rfl,aa (fun hc=>?_) (fun hc=>?_)⟩
  ·rw [if_neg (fN hc)] at he
   cases he
   exact ⟨hc,(by repeat' (first | exact trivial | rfl | apply And.intro))⟩
  rw [if_pos (fO hc)] at he
  cases di he
  exact (by repeat' (first | exact trivial | rfl | apply And.intro))
 rw [if_neg (fun q=>hk (Xd q))] at he
 refine aa (fun hk=>?_) (fun hk=>?_)
 ·rw [if_pos (Xo hk)] at he
  unfold G2 fR at he
  split at he
  ·cases he
  have he':ab mo n (List.getD t.parts (Int.toNat (0:Int)) (dfl (Ty.st SN.term))) p st=some e:=he
  simp only [he',cv]
  exact ⟨rfl,⟨by omega,by omega⟩,⟨rfl,rfl⟩,aa (fun q=>⟨q,(by repeat' (first | exact trivial | rfl | apply And.intro))⟩) (fun q=>⟨by simpa using q,(by repeat' (first | exact trivial | rfl | apply And.intro))⟩)⟩
 rw [if_neg (fun q=>hk (Xd q))] at he
 refine aa (fun hk=>?_) (fun hk=>?_)
 ·rw [if_pos (Xo hk)] at he
  obtain ⟨y,hy⟩:=dW (r:=ay (fun x=>ab mo n x p) t.parts st) (fun q=>by rw [q] at he;cases he)
  rw [hy] at he
  simp only [ki] at he
  simp only [hy,iL]
  refine ⟨rfl,rfl,rfl,aa (fun hc=>?_) (fun hc=>?_)⟩
  ·rw [if_neg (fN hc)] at he
   cases he
   exact ⟨hc,(by repeat' (first | exact trivial | rfl | apply And.intro))⟩
  rw [if_pos (fO hc)] at he
  cases di he
  exact (by repeat' (first | exact trivial | rfl | apply And.intro))
 rw [if_neg (fun q=>hk (Xd q))] at he
 refine aa (fun hk=>?_) (fun hk=>?_)
 ·rw [if_pos (Xo hk)] at he
  unfold letE fR at he
  split at he
  ·cases he
  obtain ⟨x,hx⟩:=dW (r:=ab mo n (kl t 0) p st) (fun q=>by rw [q] at he;cases he)
  rw [hx] at he
  simp only [o9] at he
  have hx':ab mo n (List.getD t.parts (Int.toNat (0:Int)) (dfl (Ty.st SN.term))) p st=some x:=hx
  simp only [hx',cv]
  refine ⟨rfl,⟨by omega,by omega⟩,⟨rfl,rfl⟩,aa (fun hc=>?_) (fun hc=>?_)⟩
  ·rw [if_neg (fN hc)] at he
   cases he
   exact ⟨hc,(by repeat' (first | exact trivial | rfl | apply And.intro))⟩
  rw [if_pos (fO hc)] at he
  have he':ab mo n (List.getD t.parts (Int.toNat (1:Int)) (dfl (Ty.st SN.term))) ⟨cM p.scp [] t.name x.v,p.self⟩ x.st=some e:=he
  simp only [he',cv]
  exact ⟨rfl,⟨by omega,by omega⟩,rfl,⟨rfl,rfl⟩,aa (fun q=>⟨q,(by repeat' (first | exact trivial | rfl | apply And.intro))⟩) (fun q=>⟨by simpa using q,(by repeat' (first | exact trivial | rfl | apply And.intro))⟩)⟩
 rw [if_neg (fun q=>hk (Xd q))] at he
 simp only [he,cv]
 exact ⟨⟨rfl,rfl⟩,aa (fun q=>⟨q,(by repeat' (first | exact trivial | rfl | apply And.intro))⟩) (fun q=>⟨by simpa using q,(by repeat' (first | exact trivial | rfl | apply And.intro))⟩)⟩
theorem BD   :
  (∃(x:Nat),x<=(7:Nat)/\(0:Int)=(↑x:Int)/\List.foldl (dO (2:Int)) none (List.take x two)=none/\[[(97:UInt8),(100:UInt8),(100:UInt8)],[(115:UInt8),(117:UInt8),(98:UInt8)],[(109:UInt8),(117:UInt8),(108:UInt8)],[(108:UInt8),(101:UInt8),(115:UInt8),(115:UInt8)],[(115:UInt8),(97:UInt8),(109:UInt8),(101:UInt8)],[(98:UInt8),(111:UInt8),(116:UInt8),(104:UInt8)],[(99:UInt8),(97:UInt8),(116:UInt8)]]=[[(97:UInt8),(100:UInt8),(100:UInt8)],[(115:UInt8),(117:UInt8),(98:UInt8)],[(109:UInt8),(117:UInt8),(108:UInt8)],[(108:UInt8),(101:UInt8),(115:UInt8),(115:UInt8)],[(115:UInt8),(97:UInt8),(109:UInt8),(101:UInt8)],[(98:UInt8),(111:UInt8),(116:UInt8),(104:UInt8)],[(99:UInt8),(97:UInt8),(116:UInt8)]]/\(↑(List.length [[(97:UInt8),(100:UInt8),(100:UInt8)],[(115:UInt8),(117:UInt8),(98:UInt8)],[(109:UInt8),(117:UInt8),(108:UInt8)],[(108:UInt8),(101:UInt8),(115:UInt8),(115:UInt8)],[(115:UInt8),(97:UInt8),(109:UInt8),(101:UInt8)],[(98:UInt8),(111:UInt8),(116:UInt8),(104:UInt8)],[(99:UInt8),(97:UInt8),(116:UInt8)]]):Int)=(↑(List.length [[(97:UInt8),(100:UInt8),(100:UInt8)],[(115:UInt8),(117:UInt8),(98:UInt8)],[(109:UInt8),(117:UInt8),(108:UInt8)],[(108:UInt8),(101:UInt8),(115:UInt8),(115:UInt8)],[(115:UInt8),(97:UInt8),(109:UInt8),(101:UInt8)],[(98:UInt8),(111:UInt8),(116:UInt8),(104:UInt8)],[(99:UInt8),(97:UInt8),(116:UInt8)]]):Int)/\List.length [[(97:UInt8),(100:UInt8),(100:UInt8)],[(115:UInt8),(117:UInt8),(98:UInt8)],[(109:UInt8),(117:UInt8),(108:UInt8)],[(108:UInt8),(101:UInt8),(115:UInt8),(115:UInt8)],[(115:UInt8),(97:UInt8),(109:UInt8),(101:UInt8)],[(98:UInt8),(111:UInt8),(116:UInt8),(104:UInt8)],[(99:UInt8),(97:UInt8),(116:UInt8)]]=List.length [[(97:UInt8),(100:UInt8),(100:UInt8)],[(115:UInt8),(117:UInt8),(98:UInt8)],[(109:UInt8),(117:UInt8),(108:UInt8)],[(108:UInt8),(101:UInt8),(115:UInt8),(115:UInt8)],[(115:UInt8),(97:UInt8),(109:UInt8),(101:UInt8)],[(98:UInt8),(111:UInt8),(116:UInt8),(104:UInt8)],[(99:UInt8),(97:UInt8),(116:UInt8)]]/\True)/\∀(x:Nat),x<=(7:Nat)→if decide ((↑x:Int) < (↑(List.length [[(97:UInt8),(100:UInt8),(100:UInt8)],[(115:UInt8),(117:UInt8),(98:UInt8)],[(109:UInt8),(117:UInt8),(108:UInt8)],[(108:UInt8),(101:UInt8),(115:UInt8),(115:UInt8)],[(115:UInt8),(97:UInt8),(109:UInt8),(101:UInt8)],[(98:UInt8),(111:UInt8),(116:UInt8),(104:UInt8)],[(99:UInt8),(97:UInt8),(116:UInt8)]]):Int))=true then ((0:Int)<=(↑x:Int)/\(↑x:Int) < (↑(List.length [[(97:UInt8),(100:UInt8),(100:UInt8)],[(115:UInt8),(117:UInt8),(98:UInt8)],[(109:UInt8),(117:UInt8),(108:UInt8)],[(108:UInt8),(101:UInt8),(115:UInt8),(115:UInt8)],[(115:UInt8),(97:UInt8),(109:UInt8),(101:UInt8)],[(98:UInt8),(111:UInt8),(116:UInt8),(104:UInt8)],[(99:UInt8),(97:UInt8),(116:UInt8)]]):Int))/\inR IntKind.i64 ((↑x:Int)+(1:Int))/\∃(y:Nat),y<=(7:Nat)/\(7:Nat) - y < (7:Nat) - x/\(↑x:Int)+(1:Int)=(↑y:Int)
  /\cM (List.foldl (dO (2:Int)) none (List.take x two)) [] (List.getD [[(97:UInt8),(100:UInt8),(100:UInt8)],[(115:UInt8),(117:UInt8),(98:UInt8)],[(109:UInt8),(117:UInt8),(108:UInt8)],[(108:UInt8),(101:UInt8),(115:UInt8),(115:UInt8)],[(115:UInt8),(97:UInt8),(109:UInt8),(101:UInt8)],[(98:UInt8),(111:UInt8),(116:UInt8),(104:UInt8)],[(99:UInt8),(97:UInt8),(116:UInt8)]] (Int.toNat (↑x:Int)) (dfl Ty.str)) (Thg.mk (8:Int) (0:Int) [] [] [] [] (some (Fnc.mk none [] [] none (List.getD [[(97:UInt8),(100:UInt8),(100:UInt8)],[(115:UInt8),(117:UInt8),(98:UInt8)],[(109:UInt8),(117:UInt8),(108:UInt8)],[(108:UInt8),(101:UInt8),(115:UInt8),(115:UInt8)],[(115:UInt8),(97:UInt8),(109:UInt8),(101:UInt8)],[(98:UInt8),(111:UInt8),(116:UInt8),(104:UInt8)],[(99:UInt8),(97:UInt8),(116:UInt8)]] (Int.toNat (↑x:Int)) (dfl Ty.str)) (2:Int))))=List.foldl (dO (2:Int)) none (List.take y two)/\[[(97:UInt8),(100:UInt8),(100:UInt8)],[(115:UInt8),(117:UInt8),(98:UInt8)],[(109:UInt8),(117:UInt8),(108:UInt8)],[(108:UInt8),(101:UInt8),(115:UInt8),(115:UInt8)],[(115:UInt8),(97:UInt8),(109:UInt8),(101:UInt8)],[(98:UInt8),(111:UInt8),(116:UInt8),(104:UInt8)],[(99:UInt8),(97:UInt8),(116:UInt8)]]=[[(97:UInt8),(100:UInt8),(100:UInt8)],[(115:UInt8),(117:UInt8),(98:UInt8)],[(109:UInt8),(117:UInt8),(108:UInt8)],[(108:UInt8),(101:UInt8),(115:UInt8),(115:UInt8)],[(115:UInt8),(97:UInt8),(109:UInt8),(101:UInt8)],[(98:UInt8),(111:UInt8),(116:UInt8),(104:UInt8)],[(99:UInt8),(97:UInt8),(116:UInt8)]]/\(↑(List.length [[(97:UInt8),(100:UInt8),(100:UInt8)],[(115:UInt8),(117:UInt8),(98:UInt8)],[(109:UInt8),(117:UInt8),(108:UInt8)],[(108:UInt8),(101:UInt8),(115:UInt8),(115:UInt8)],[(115:UInt8),(97:UInt8),(109:UInt8),(101:UInt8)],[(98:UInt8),(111:UInt8),(116:UInt8),(104:UInt8)],[(99:UInt8),(97:UInt8),(116:UInt8)]]):Int)=(↑(List.length [[(97:UInt8),(100:UInt8),(100:UInt8)],[(115:UInt8),(117:UInt8),(98:UInt8)],[(109:UInt8),(117:UInt8),(108:UInt8)],[(108:UInt8),(101:UInt8),(115:UInt8),(115:UInt8)],[(115:UInt8),(97:UInt8),(109:UInt8),(101:UInt8)],[(98:UInt8),(111:UInt8),(116:UInt8),(104:UInt8)],[(99:UInt8),(97:UInt8),(116:UInt8)]]):Int)/\List.length [[(97:UInt8),(100:UInt8),(100:UInt8)],[(115:UInt8),(117:UInt8),(98:UInt8)],[(109:UInt8),(117:UInt8),(108:UInt8)],[(108:UInt8),(101:UInt8),(115:UInt8),(115:UInt8)],[(115:UInt8),(97:UInt8),(109:UInt8),(101:UInt8)],[(98:UInt8),(111:UInt8),(116:UInt8),(104:UInt8)],[(99:UInt8),(97:UInt8),(116:UInt8)]]=List.length [[(97:UInt8),(100:UInt8),(100:UInt8)],[(115:UInt8),(117:UInt8),(98:UInt8)],[(109:UInt8),(117:UInt8),(108:UInt8)],[(108:UInt8),(101:UInt8),(115:UInt8),(115:UInt8)],[(115:UInt8),(97:UInt8),(109:UInt8),(101:UInt8)],[(98:UInt8),(111:UInt8),(116:UInt8),(104:UInt8)],[(99:UInt8),(97:UInt8),(116:UInt8)]]/\True else (∃(x_1:Nat),x_1<=(3:Nat)/\(0:Int)=(↑x_1:Int)/\List.foldl (dO (2:Int)) none (List.take x two)=List.foldl (dO (1:Int)) (List.foldl (dO (2:Int)) none two) (List.take x_1 ie)/\(↑x:Int)=(↑x:Int)
  /\[[(97:UInt8),(100:UInt8),(100:UInt8)],[(115:UInt8),(117:UInt8),(98:UInt8)],[(109:UInt8),(117:UInt8),(108:UInt8)],[(108:UInt8),(101:UInt8),(115:UInt8),(115:UInt8)],[(115:UInt8),(97:UInt8),(109:UInt8),(101:UInt8)],[(98:UInt8),(111:UInt8),(116:UInt8),(104:UInt8)],[(99:UInt8),(97:UInt8),(116:UInt8)]]=[[(97:UInt8),(100:UInt8),(100:UInt8)],[(115:UInt8),(117:UInt8),(98:UInt8)],[(109:UInt8),(117:UInt8),(108:UInt8)],[(108:UInt8),(101:UInt8),(115:UInt8),(115:UInt8)],[(115:UInt8),(97:UInt8),(109:UInt8),(101:UInt8)],[(98:UInt8),(111:UInt8),(116:UInt8),(104:UInt8)],[(99:UInt8),(97:UInt8),(116:UInt8)]]/\(↑(List.length [[(97:UInt8),(100:UInt8),(100:UInt8)],[(115:UInt8),(117:UInt8),(98:UInt8)],[(109:UInt8),(117:UInt8),(108:UInt8)],[(108:UInt8),(101:UInt8),(115:UInt8),(115:UInt8)],[(115:UInt8),(97:UInt8),(109:UInt8),(101:UInt8)],[(98:UInt8),(111:UInt8),(116:UInt8),(104:UInt8)],[(99:UInt8),(97:UInt8),(116:UInt8)]]):Int)=(↑(List.length [[(97:UInt8),(100:UInt8),(100:UInt8)],[(115:UInt8),(117:UInt8),(98:UInt8)],[(109:UInt8),(117:UInt8),(108:UInt8)],[(108:UInt8),(101:UInt8),(115:UInt8),(115:UInt8)],[(115:UInt8),(97:UInt8),(109:UInt8),(101:UInt8)],[(98:UInt8),(111:UInt8),(116:UInt8),(104:UInt8)],[(99:UInt8),(97:UInt8),(116:UInt8)]]):Int)/\false=false/\[[(110:UInt8),(111:UInt8),(116:UInt8)],[(115:UInt8),(105:UInt8),(122:UInt8),(101:UInt8)],[(115:UInt8),(104:UInt8),(111:UInt8),(119:UInt8)]]=[[(110:UInt8),(111:UInt8),(116:UInt8)],[(115:UInt8),(105:UInt8),(122:UInt8),(101:UInt8)],[(115:UInt8),(104:UInt8),(111:UInt8),(119:UInt8)]]/\(↑(List.length [[(110:UInt8),(111:UInt8),(116:UInt8)],[(115:UInt8),(105:UInt8),(122:UInt8),(101:UInt8)],[(115:UInt8),(104:UInt8),(111:UInt8),(119:UInt8)]]):Int)=(↑(List.length [[(110:UInt8),(111:UInt8),(116:UInt8)],[(115:UInt8),(105:UInt8),(122:UInt8),(101:UInt8)],[(115:UInt8),(104:UInt8),(111:UInt8),(119:UInt8)]]):Int)/\List.length [[(97:UInt8),(100:UInt8),(100:UInt8)],[(115:UInt8),(117:UInt8),(98:UInt8)],[(109:UInt8),(117:UInt8),(108:UInt8)],[(108:UInt8),(101:UInt8),(115:UInt8),(115:UInt8)],[(115:UInt8),(97:UInt8),(109:UInt8),(101:UInt8)],[(98:UInt8),(111:UInt8),(116:UInt8),(104:UInt8)],[(99:UInt8),(97:UInt8),(116:UInt8)]]=List.length [[(97:UInt8),(100:UInt8),(100:UInt8)],[(115:UInt8),(117:UInt8),(98:UInt8)],[(109:UInt8),(117:UInt8),(108:UInt8)],[(108:UInt8),(101:UInt8),(115:UInt8),(115:UInt8)],[(115:UInt8),(97:UInt8),(109:UInt8),(101:UInt8)],[(98:UInt8),(111:UInt8),(116:UInt8),(104:UInt8)],[(99:UInt8),(97:UInt8),(116:UInt8)]]/\List.length [[(110:UInt8),(111:UInt8),(116:UInt8)],[(115:UInt8),(105:UInt8),(122:UInt8),(101:UInt8)],[(115:UInt8),(104:UInt8),(111:UInt8),(119:UInt8)]]=List.length [[(110:UInt8),(111:UInt8),(116:UInt8)],[(115:UInt8),(105:UInt8),(122:UInt8),(101:UInt8)],[(115:UInt8),(104:UInt8),(111:UInt8),(119:UInt8)]]/\True)/\∀(x_1:Nat),x_1<=(3:Nat)→if decide ((↑x_1:Int) < (↑(List.length [[(110:UInt8),(111:UInt8),(116:UInt8)],[(115:UInt8),(105:UInt8),(122:UInt8),(101:UInt8)],[(115:UInt8),(104:UInt8),(111:UInt8),(119:UInt8)]]):Int))=true then ((0:Int)<=(↑x_1:Int)/\(↑x_1:Int) < (↑(List.length [[(110:UInt8),(111:UInt8),(116:UInt8)],[(115:UInt8),(105:UInt8),(122:UInt8),(101:UInt8)],[(115:UInt8),(104:UInt8),(111:UInt8),(119:UInt8)]]):Int))/\inR IntKind.i64 ((↑x_1:Int)+(1:Int))
  /\∃(y:Nat),y<=(3:Nat)/\(3:Nat) - y < (3:Nat) - x_1/\(↑x_1:Int)+(1:Int)=(↑y:Int)/\cM (List.foldl (dO (1:Int)) (List.foldl (dO (2:Int)) none two) (List.take x_1 ie)) [] (List.getD [[(110:UInt8),(111:UInt8),(116:UInt8)],[(115:UInt8),(105:UInt8),(122:UInt8),(101:UInt8)],[(115:UInt8),(104:UInt8),(111:UInt8),(119:UInt8)]] (Int.toNat (↑x_1:Int)) (dfl Ty.str)) (Thg.mk (8:Int) (0:Int) [] [] [] [] (some (Fnc.mk none [] [] none (List.getD [[(110:UInt8),(111:UInt8),(116:UInt8)],[(115:UInt8),(105:UInt8),(122:UInt8),(101:UInt8)],[(115:UInt8),(104:UInt8),(111:UInt8),(119:UInt8)]] (Int.toNat (↑x_1:Int)) (dfl Ty.str)) (1:Int))))=List.foldl (dO (1:Int)) (List.foldl (dO (2:Int)) none two) (List.take y ie)/\(↑x:Int)=(↑x:Int)/\[[(97:UInt8),(100:UInt8),(100:UInt8)],[(115:UInt8),(117:UInt8),(98:UInt8)],[(109:UInt8),(117:UInt8),(108:UInt8)],[(108:UInt8),(101:UInt8),(115:UInt8),(115:UInt8)],[(115:UInt8),(97:UInt8),(109:UInt8),(101:UInt8)],[(98:UInt8),(111:UInt8),(116:UInt8),(104:UInt8)],[(99:UInt8),(97:UInt8),(116:UInt8)]]=[[(97:UInt8),(100:UInt8),(100:UInt8)],[(115:UInt8),(117:UInt8),(98:UInt8)],[(109:UInt8),(117:UInt8),(108:UInt8)],[(108:UInt8),(101:UInt8),(115:UInt8),(115:UInt8)],[(115:UInt8),(97:UInt8),(109:UInt8),(101:UInt8)],[(98:UInt8),(111:UInt8),(116:UInt8),(104:UInt8)],[(99:UInt8),(97:UInt8),(116:UInt8)]]/\(↑(List.length [[(97:UInt8),(100:UInt8),(100:UInt8)],[(115:UInt8),(117:UInt8),(98:UInt8)],[(109:UInt8),(117:UInt8),(108:UInt8)],[(108:UInt8),(101:UInt8),(115:UInt8),(115:UInt8)],[(115:UInt8),(97:UInt8),(109:UInt8),(101:UInt8)],[(98:UInt8),(111:UInt8),(116:UInt8),(104:UInt8)],[(99:UInt8),(97:UInt8),(116:UInt8)]]):Int)=(↑(List.length [[(97:UInt8),(100:UInt8),(100:UInt8)],[(115:UInt8),(117:UInt8),(98:UInt8)],[(109:UInt8),(117:UInt8),(108:UInt8)],[(108:UInt8),(101:UInt8),(115:UInt8),(115:UInt8)],[(115:UInt8),(97:UInt8),(109:UInt8),(101:UInt8)],[(98:UInt8),(111:UInt8),(116:UInt8),(104:UInt8)],[(99:UInt8),(97:UInt8),(116:UInt8)]]):Int)/\false=false/\[[(110:UInt8),(111:UInt8),(116:UInt8)],[(115:UInt8),(105:UInt8),(122:UInt8),(101:UInt8)],[(115:UInt8),(104:UInt8),(111:UInt8),(119:UInt8)]]=[[(110:UInt8),(111:UInt8),(116:UInt8)],[(115:UInt8),(105:UInt8),(122:UInt8),(101:UInt8)],[(115:UInt8),(104:UInt8),(111:UInt8),(119:UInt8)]]/\(↑(List.length [[(110:UInt8),(111:UInt8),(116:UInt8)],[(115:UInt8),(105:UInt8),(122:UInt8),(101:UInt8)],[(115:UInt8),(104:UInt8),(111:UInt8),(119:UInt8)]]):Int)=(↑(List.length [[(110:UInt8),(111:UInt8),(116:UInt8)],[(115:UInt8),(105:UInt8),(122:UInt8),(101:UInt8)],[(115:UInt8),(104:UInt8),(111:UInt8),(119:UInt8)]]):Int)/\List.length [[(97:UInt8),(100:UInt8),(100:UInt8)],[(115:UInt8),(117:UInt8),(98:UInt8)],[(109:UInt8),(117:UInt8),(108:UInt8)],[(108:UInt8),(101:UInt8),(115:UInt8),(115:UInt8)],[(115:UInt8),(97:UInt8),(109:UInt8),(101:UInt8)],[(98:UInt8),(111:UInt8),(116:UInt8),(104:UInt8)],[(99:UInt8),(97:UInt8),(116:UInt8)]]=List.length [[(97:UInt8),(100:UInt8),(100:UInt8)],[(115:UInt8),(117:UInt8),(98:UInt8)],[(109:UInt8),(117:UInt8),(108:UInt8)],[(108:UInt8),(101:UInt8),(115:UInt8),(115:UInt8)],[(115:UInt8),(97:UInt8),(109:UInt8),(101:UInt8)],[(98:UInt8),(111:UInt8),(116:UInt8),(104:UInt8)],[(99:UInt8),(97:UInt8),(116:UInt8)]]
  /\List.length [[(110:UInt8),(111:UInt8),(116:UInt8)],[(115:UInt8),(105:UInt8),(122:UInt8),(101:UInt8)],[(115:UInt8),(104:UInt8),(111:UInt8),(119:UInt8)]]=List.length [[(110:UInt8),(111:UInt8),(116:UInt8)],[(115:UInt8),(105:UInt8),(122:UInt8),(101:UInt8)],[(115:UInt8),(104:UInt8),(111:UInt8),(119:UInt8)]]/\True else True/\List.foldl (dO (1:Int)) (List.foldl (dO (2:Int)) none two) (List.take x_1 ie)=bR/\True:=by
 have suc:∀(k:Int) (l:List Str) (s:Option Scp) (x:Nat),x < l.length→cM (List.foldl (dO k) s (List.take x l)) [] (l.getD x []) (Thg.mk 8 0 [] [] [] [] (some (Fnc.mk none [] [] none (l.getD x []) k)))=List.foldl (dO k) s (List.take (x+1) l):=by
  intro k l
  induction l with
  | nil=>intro s x h;cases h
  | cons a r ih=>
   intro s x h
   cases x with
   | zero=>rfl
   | succ x=>exact ih (dO k s a) x (by simpa using h)
 rw [show ([[97,100,100],[115,117,98],[109,117,108],[108,101,115,115],[115,97,109,101],[98,111,116,104],[99,97,116]]:List Str)=two from rfl,show ([[110,111,116],[115,105,122,101],[115,104,111,119]]:List Str)=ie from rfl]
 refine ⟨⟨0,by omega,rfl,rfl,(by repeat' (first | exact trivial | rfl | apply And.intro))⟩,?_⟩
 intro x hx
 refine aa (fun h=>?_) (fun h=>?_)
 ·have h:x < two.length:=by have:=Xo h;omega
  exact ⟨⟨by omega,by omega⟩,bc (by omega) (by have:two.length=7:=rfl;omega),x+1,(show x+1<=two.length from h),by have:two.length=7:=rfl;omega,rfl,suc 2 two none x h,(by repeat' (first | exact trivial | rfl | apply And.intro))⟩
 ·have e:x=7:=by
   have h:¬x < two.length:=fun q=>h (Xd (by omega))
   have:two.length=7:=rfl
   omega
  subst e
  refine ⟨⟨0,by omega,rfl,rfl,(by repeat' (first | exact trivial | rfl | apply And.intro))⟩,?_⟩
  intro y hy
  refine aa (fun h=>?_) (fun h=>?_)
  ·have h:y < ie.length:=by have:=Xo h;omega
   exact ⟨⟨by omega,by omega⟩,bc (by omega) (by have:ie.length=3:=rfl;omega),y+1,(show y+1<=ie.length from h),by have:ie.length=3:=rfl;omega,rfl,suc 1 ie _ y h,(by repeat' (first | exact trivial | rfl | apply And.intro))⟩
  ·have e:y=3:=by
    have h:¬y < ie.length:=fun q=>h (Xd (by omega))
    have:ie.length=3:=rfl
    omega
   subst e
   exact ⟨trivial,rfl,trivial⟩
theorem FI (n:Nat) (x:Thg) (r:Int) (hx:Wf (.st .thing) x) (ho:(aX (n+1) x r).isSome=true) :
  inR IntKind.i64 (r - (1:Int))/\if decide (r - (1:Int) < (0:Int))=true then True/\(0:Int)=(dm (aX (n+(1:Nat)) x r)).v.kind/\(0:Int)=(dm (aX (n+(1:Nat)) x r)).v.n/\[]=(dm (aX (n+(1:Nat)) x r)).v.pkg/\[]=(dm (aX (n+(1:Nat)) x r)).v.text/\(dm (aX (n+(1:Nat)) x r)).v.names=[]/\(dm (aX (n+(1:Nat)) x r)).v.parts=[]/\false=(dm (aX (n+(1:Nat)) x r)).ok/\r - (1:Int)=(dm (aX (n+(1:Nat)) x r)).room/\True else List.length (Thg.names x) *(16:Nat)<=(140737488355328:Nat)/\(if Option.isSome (Thg.fn x)=true then Option.isSome (Thg.fn x)=true/\x=x/\false=false/\false=false/\Thg.kind x=Thg.kind x/\Fnc.args (Option.getD (Thg.fn x) (dfl (Ty.st SN.func)))=fnN x/\Thg.pkg x=Thg.pkg x/\Thg.text x=Thg.text x/\Thg.names x=Thg.names x/\r - (1:Int)=r - (1:Int)/\x=x/\(0:Int)=(0:Int)/\(0:Int)=(0:Int)/\cH UInt8=cH UInt8/\cH UInt8=cH UInt8/\True else x=x/\false=false/\false=false/\Thg.kind x=Thg.kind x/\Thg.n x=fnN x/\Thg.pkg x=Thg.pkg x/\Thg.text x=Thg.text x/\Thg.names x=Thg.names x/\r - (1:Int)=r - (1:Int)/\x=x/\(0:Int)=(0:Int)/\(0:Int)=(0:Int)/\cH UInt8=cH UInt8/\cH UInt8=cH UInt8/\True)/\(∃(x_1:Nat × List Vlu × Int),(x_1.1<=List.length (Thg.parts x)/\List.length x_1.2.1=x_1.1/\gK (aX n) (List.drop x_1.1 (Thg.parts x)) x_1.2.1 x_1.2.2=gK (aX n) (Thg.parts x) [] (r - (1:Int)))/\(0:Int)=(↑x_1.1:Int)/\x=x/\false=false/\Thg.parts x=Thg.parts x/\(↑(List.length (Thg.parts x)):Int)=(↑(List.length (Thg.parts x)):Int)/\Thg.kind x=Thg.kind x/\fnN x=fnN x/\Thg.pkg x=Thg.pkg x/\Thg.text x=Thg.text x/\Thg.names x=Thg.names x/\x_1.2.1=[]/\List.length x_1.2.1=(0:Nat)/\r - (1:Int)=x_1.2.2/\x=x/\(0:Int)=(0:Int)/\(0:Int)=(0:Int)/\cH UInt8=cH UInt8/\cH UInt8=cH UInt8/\True)/\∀(x_1:Nat × List Vlu × Int),x_1.1<=List.length (Thg.parts x)/\List.length x_1.2.1=x_1.1/\gK (aX n) (List.drop x_1.1 (Thg.parts x)) x_1.2.1 x_1.2.2=gK (aX n) (Thg.parts x) [] (r - (1:Int))→if decide ((↑x_1.1:Int) < (↑(List.length (Thg.parts x)):Int))=true then ((0:Int)<=(↑x_1.1:Int)/\(↑x_1.1:Int) < (↑(List.length (Thg.parts x)):Int))/\Option.isSome (aX n (List.getD (Thg.parts x) (Int.toNat (↑x_1.1:Int)) (dfl (Ty.st SN.thing))) x_1.2.2)=true/\if (!(dm (aX n (List.getD (Thg.parts x) (Int.toNat (↑x_1.1:Int)) (dfl (Ty.st SN.thing))) x_1.2.2)).ok)=true then True/\(0:Int)=(dm (aX (n+(1:Nat)) x r)).v.kind/\(0:Int)=(dm (aX (n+(1:Nat)) x r)).v.n/\[]=(dm (aX (n+(1:Nat)) x r)).v.pkg/\[]=(dm (aX (n+(1:Nat)) x r)).v.text/\(dm (aX (n+(1:Nat)) x r)).v.names=[]/\(dm (aX (n+(1:Nat)) x r)).v.parts=[]/\false=(dm (aX (n+(1:Nat)) x r)).ok/\(dm (aX n (List.getD (Thg.parts x) (Int.toNat (↑x_1.1:Int)) (dfl (Ty.st SN.thing))) x_1.2.2)).room=(dm (aX (n+(1:Nat)) x r)).room/\True else (List.length x_1.2.1=List.length x_1.2.1/\(List.length x_1.2.1+List.length [(dm (aX n (List.getD (Thg.parts x) (Int.toNat (↑x_1.1:Int)) (dfl (Ty.st SN.thing))) x_1.2.2)).v]) *(96:Nat)<=(140737488355328:Nat))/\inR IntKind.i64 ((↑x_1.1:Int)+(1:Int))/\∃(y:Nat × List Vlu × Int),(y.1<=List.length (Thg.parts x)/\List.length y.2.1=y.1/\gK (aX n) (List.drop y.1 (Thg.parts x)) y.2.1 y.2.2=gK (aX n) (Thg.parts x) [] (r - (1:Int)))/\List.length (Thg.parts x) - y.1 < List.length (Thg.parts x) - x_1.1/\(↑x_1.1:Int)+(1:Int)=(↑y.1:Int)/\x=x/\false=false/\Thg.parts x=Thg.parts x/\(↑(List.length (Thg.parts x)):Int)=(↑(List.length (Thg.parts x)):Int)
  /\Thg.kind x=Thg.kind x/\fnN x=fnN x/\Thg.pkg x=Thg.pkg x/\Thg.text x=Thg.text x/\Thg.names x=Thg.names x/\x_1.2.1++[(dm (aX n (List.getD (Thg.parts x) (Int.toNat (↑x_1.1:Int)) (dfl (Ty.st SN.thing))) x_1.2.2)).v]=y.2.1/\List.length (x_1.2.1++[(dm (aX n (List.getD (Thg.parts x) (Int.toNat (↑x_1.1:Int)) (dfl (Ty.st SN.thing))) x_1.2.2)).v])=List.length y.2.1/\(dm (aX n (List.getD (Thg.parts x) (Int.toNat (↑x_1.1:Int)) (dfl (Ty.st SN.thing))) x_1.2.2)).room=y.2.2/\x=x/\(0:Int)=(0:Int)/\(0:Int)=(0:Int)/\cH UInt8=cH UInt8/\cH UInt8=cH UInt8/\True else True/\Thg.kind x=(dm (aX (n+(1:Nat)) x r)).v.kind/\fnN x=(dm (aX (n+(1:Nat)) x r)).v.n/\Thg.pkg x=(dm (aX (n+(1:Nat)) x r)).v.pkg/\Thg.text x=(dm (aX (n+(1:Nat)) x r)).v.text/\Thg.names x=(dm (aX (n+(1:Nat)) x r)).v.names/\x_1.2.1=(dm (aX (n+(1:Nat)) x r)).v.parts/\true=(dm (aX (n+(1:Nat)) x r)).ok/\x_1.2.2=(dm (aX (n+(1:Nat)) x r)).room/\True:=by
 have ln:=(Wf.thing_parts hx).len
 obtain ⟨e,he⟩:=Option.isSome_iff_exists.1 ho
 simp only [he,ng]
 simp only [aX] at he
 split at he
 ·cases he
 rename_i hr
 have hr:qn r:=by
  by_cases q:qn r
  ·exact q
  ·exact absurd q hr
 obtain ⟨r0,r1⟩:=hr
 refine ⟨bc (by omega) (by omega),aa (fun h=>?_) (fun h=>?_)⟩
 ·rw [if_pos (Xo h)] at he
  cases he
  exact (by repeat' (first | exact trivial | rfl | apply And.intro))
 rw [if_neg (fun q=>h (Xd q))] at he
 split at he
 ·cases he
 rename_i hb
 obtain ⟨w,hw⟩:=dW (r:=gK (aX n) x.parts [] (r - 1)) (fun q=>by rw [q] at he;cases he)
 rw [hw] at he
 have he:e=endT x w:=(Option.some.inj he).symm
 subst he
 simp only [hw,Int.toNat_natCast]
 refine ⟨by omega,aa (fun hf=>?_) (fun hf=>?_),⟨(0,[],r - 1),⟨Nat.zero_le _,rfl,by rw [List.drop_zero];exact hw⟩,(by repeat' (first | exact trivial | rfl | apply And.intro))⟩,?_⟩
 ·have e1:Fnc.args (Option.getD x.fn (dfl (Ty.st SN.func)))=fnN x:=(if_pos hf).symm
  refine ⟨hf,?_⟩
  repeat' (first | exact trivial | rfl | exact e1 | apply And.intro)
 ·have e1:x.n=fnN x:=(if_neg hf).symm
  repeat' (first | exact trivial | rfl | exact e1 | apply And.intro)
 rintro ⟨k,out,s'⟩ ⟨h1,h2,h3⟩
 simp only at h1 h2 h3 ⊢
 refine aa (fun h=>?_) (fun h=>?_)
 ·have hk:k < x.parts.length:=by have:=Xo h;omega
  rw [aO x.parts k (dfl (Ty.st SN.thing)) hk] at h3
  simp only [gK] at h3
  obtain ⟨v,hv⟩:∃v,aX n (x.parts.getD k (dfl (Ty.st SN.thing))) s'=some v:=by
   cases q:aX n (x.parts.getD k (dfl (Ty.st SN.thing))) s' with
   | none=>rw [q] at h3;cases h3
   | some v=>exact ⟨v,rfl⟩
  rw [hv] at h3
  simp only at h3
  simp only [hv,ng]
  refine ⟨⟨by omega,by omega⟩,rfl,aa (fun hc=>?_) (fun hc=>?_)⟩
  ·have hc':v.ok=false:=by simpa using hc
   rw [if_neg (by rw [hc'];decide)] at h3
   cases h3
   exact (by repeat' (first | exact trivial | rfl | apply And.intro))
  ·have hc':v.ok=true:=by simpa using hc
   rw [if_pos hc'] at h3
   refine ⟨⟨trivial,by simp only [List.length_singleton];omega⟩,b6 hk ln,(k+1,out++[v.v],v.room),⟨by omega,by simp [h2],h3⟩,by simp only;omega,by simp only;omega,(by repeat' (first | exact trivial | rfl | apply And.intro))⟩
 ·have e1:k=x.parts.length:=by have q:¬_:=fun q=>h (Xd q);omega
  subst e1
  rw [List.drop_length] at h3
  simp only [gK] at h3
  cases h3
  exact (by repeat' (first | exact trivial | rfl | apply And.intro))
theorem BE (m:Nat) (x:Thg) (a:Int) (hx:Wf (.st .thing) x) (ho:(ck m x a).isSome=true) :
  Option.isSome (aX m x (2000:Int))=true/\if (!(dm (aX m x (2000:Int))).ok)=true then (!decide ((kn (ck m x a)).f.err=(0:Int)))=true/\(3:Int)=(kn (ck m x a)).f.err/\a=(kn (ck m x a)).f.pos/\True else cI (dm (aX m x (2000:Int))).v=true/\if (!decide (oc (dm (aX m x (2000:Int))).v=(0:Int)))=true then (!decide ((kn (ck m x a)).f.err=(0:Int)))=true/\oc (dm (aX m x (2000:Int))).v=(kn (ck m x a)).f.err/\a=(kn (ck m x a)).f.pos/\True else (!decide ((kn (ck m x a)).f.err=(0:Int)))=false/\(dm (aX m x (2000:Int))).v=(kn (ck m x a)).v/\True:=by
 obtain ⟨e,he⟩:=Option.isSome_iff_exists.1 ho
 simp only [he,rZ]
 unfold ck at he
 obtain ⟨t,ht⟩:=dW (r:=aX m x 2000) (fun q=>by rw [q] at he;cases he)
 rw [ht] at he
 simp only at he
 simp only [ht,ng]
 refine ⟨rfl,aa (fun h=>?_) (fun h=>?_)⟩
 ·have h:t.ok=false:=by simpa using h
  rw [if_neg (by rw [h];decide)] at he
  cases he
  exact (by repeat' (first | exact trivial | rfl | apply And.intro))
 have h:t.ok=true:=by simpa using h
 rw [if_pos h] at he
 split at he
 case isFalse=>cases he
 rename_i hf
 refine ⟨hf,aa (fun hc=>?_) (fun hc=>?_)⟩
 ·rw [if_neg (fN hc)] at he
  cases he
  exact ⟨by simpa using fN hc,(by repeat' (first | exact trivial | rfl | apply And.intro))⟩
 ·rw [if_pos (fO hc)] at he
  cases he
  exact (by repeat' (first | exact trivial | rfl | apply And.intro))
theorem FJ (n m:Nat) (t:Trm) (mo:Int) (ht:Wf (.st .term) t) (ho:(bM n m t mo).isSome=true) :
  (Option.isSome (some t)=true/\Option.isSome (ab mo n t {scp:=bR,self:=[]:Plc} (0:Int))=true)/\if (!decide ((ah (ab mo n t {scp:=bR,self:=[]:Plc} (0:Int))).f.err=(0:Int)))=true then (!decide ((aM (bM n m t mo)).f.err=(0:Int)))=true/\(ah (ab mo n t {scp:=bR,self:=[]:Plc} (0:Int))).f.err=(aM (bM n m t mo)).f.err/\(ah (ab mo n t {scp:=bR,self:=[]:Plc} (0:Int))).f.pos=(aM (bM n m t mo)).f.pos/\(0:Int)=(0:Int)/\(0:Int)=(0:Int)/\cH UInt8=cH UInt8/\cH UInt8=cH UInt8/\(ah (ab mo n t {scp:=bR,self:=[]:Plc} (0:Int))).st=(aM (bM n m t mo)).st/\mo=mo/\True else Option.isSome (ck m (ah (ab mo n t {scp:=bR,self:=[]:Plc} (0:Int))).v t.pos)=true/\if (!decide ((kn (ck m (ah (ab mo n t {scp:=bR,self:=[]:Plc} (0:Int))).v t.pos)).f.err=(0:Int)))=true then (!decide ((aM (bM n m t mo)).f.err=(0:Int)))=true/\(kn (ck m (ah (ab mo n t {scp:=bR,self:=[]:Plc} (0:Int))).v t.pos)).f.err=(aM (bM n m t mo)).f.err/\(kn (ck m (ah (ab mo n t {scp:=bR,self:=[]:Plc} (0:Int))).v t.pos)).f.pos=(aM (bM n m t mo)).f.pos/\(0:Int)=(0:Int)/\(0:Int)=(0:Int)/\cH UInt8=cH UInt8/\cH UInt8=cH UInt8/\(ah (ab mo n t {scp:=bR,self:=[]:Plc} (0:Int))).st=(aM (bM n m t mo)).st/\mo=mo/\True else (!decide ((aM (bM n m t mo)).f.err=(0:Int)))=false/\(kn (ck m (ah (ab mo n t {scp:=bR,self:=[]:Plc} (0:Int))).v t.pos)).v=(aM (bM n m t mo)).v/\(ah (ab mo n t {scp:=bR,self:=[]:Plc} (0:Int))).st=(aM (bM n m t mo)).st/\mo=mo/\True:=by
 obtain ⟨r,hr⟩:=Option.isSome_iff_exists.1 ho
 simp only [hr,kN]
 unfold bM at hr
 obtain ⟨e,he,h2⟩:=Option.bind_eq_some_iff.1 hr
 have he':ab mo n t {scp:=bR,self:=[]:Plc} 0=some e:=he
 simp only [he',cv]
 unfold lL at h2
 refine ⟨⟨rfl,rfl⟩,aa (fun hc=>?_) (fun hc=>?_)⟩
 ·rw [if_neg (fN hc)] at h2
  cases h2
  exact ⟨hc,(by repeat' (first | exact trivial | rfl | apply And.intro))⟩
 rw [if_pos (fO hc)] at h2
 obtain ⟨s,hs,rfl⟩:=Option.map_eq_some_iff.1 h2
 simp only [hs,rZ]
 refine ⟨rfl,aa (fun hq=>?_) (fun hq=>?_)⟩
 ·rw [show swR e.st s=⟨dH,e.st,s.f⟩ from if_neg (fN hq)]
  exact ⟨hq,(by repeat' (first | exact trivial | rfl | apply And.intro))⟩
 ·rw [show swR e.st s=⟨s.v,e.st,⟨0,0⟩⟩ from if_pos (fO hq)]
  exact (by repeat' (first | exact trivial | rfl | apply And.intro))
theorem BF (n m:Nat) (t:Trm) (mo:Int) (ht:Wf (.st .term) t) (ho:(bM n m t mo).isSome=true) :
  Option.isSome (bM n m t mo)=true/\if (!decide ((aM (bM n m t mo)).f.err=(0:Int)))=true then (aM (bM n m t mo)).f.err=(aM (bM n m t mo)).f.err/\(aM (bM n m t mo)).f.pos=(aM (bM n m t mo)).f.pos/\(0:Int)=(aM (bM n m t mo)).v.kind/\(0:Int)=(aM (bM n m t mo)).v.n/\[]=(aM (bM n m t mo)).v.pkg/\[]=(aM (bM n m t mo)).v.text/\(aM (bM n m t mo)).v.names=[]/\(aM (bM n m t mo)).v.parts=[]/\(aM (bM n m t mo)).st=(aM (bM n m t mo)).st/\mo=mo/\True else (0:Int)=(aM (bM n m t mo)).f.err/\(0:Int)=(aM (bM n m t mo)).f.pos/\(aM (bM n m t mo)).v=(aM (bM n m t mo)).v/\(aM (bM n m t mo)).st=(aM (bM n m t mo)).st/\mo=mo/\True:=by
 obtain ⟨r,hr⟩:=Option.isSome_iff_exists.1 ho
 simp only [hr,kN]
 refine ⟨rfl,aa (fun hc=>?_) (fun hc=>?_)⟩
 ·rw [Hh hr (fN hc)]
  exact (by repeat' (first | exact trivial | rfl | apply And.intro))
 ·rw [GN hr (fO hc)]
  exact (by repeat' (first | exact trivial | rfl | apply And.intro))
theorem GQ (n m:Nat) (t:Trm) (k:Int) (ht:Wf (.st .term) t) (hk:Wf (.int .i64) k) (hf:bF t=true) (ho:(aY n m t k).isSome=true) :
  bF t=true/\if (!decide (bw t=(0:Int)))=true then True/\(0:Int)=(aM (aY n m t k)).v.kind/\(0:Int)=(aM (aY n m t k)).v.n/\[]=(aM (aY n m t k)).v.pkg/\[]=(aM (aY n m t k)).v.text/\(aM (aY n m t k)).v.names=[]/\(aM (aY n m t k)).v.parts=[]/\(0:Int)=(aM (aY n m t k)).st/\bw t=(aM (aY n m t k)).f.err/\(0:Int)=(aM (aY n m t k)).f.pos/\True else if decide (k < (0:Int))=true then True/\(0:Int)=(aM (aY n m t k)).v.kind/\(0:Int)=(aM (aY n m t k)).v.n/\[]=(aM (aY n m t k)).v.pkg/\[]=(aM (aY n m t k)).v.text/\(aM (aY n m t k)).v.names=[]/\(aM (aY n m t k)).v.parts=[]/\(0:Int)=(aM (aY n m t k)).st/\(2:Int)=(aM (aY n m t k)).f.err/\(0:Int)=(aM (aY n m t k)).f.pos/\True else if decide ((2000:Int) < k)=true then True/\(0:Int)=(aM (aY n m t k)).v.kind/\(0:Int)=(aM (aY n m t k)).v.n/\[]=(aM (aY n m t k)).v.pkg/\[]=(aM (aY n m t k)).v.text/\(aM (aY n m t k)).v.names=[]/\(aM (aY n m t k)).v.parts=[]/\(0:Int)=(aM (aY n m t k)).st/\(2:Int)=(aM (aY n m t k)).f.err/\(0:Int)=(aM (aY n m t k)).f.pos/\True else Option.isSome (bM n m t k)=true/\if (!decide ((aM (bM n m t k)).f.err=(0:Int)))=true then True/\(0:Int)=(aM (aY n m t k)).v.kind/\(0:Int)=(aM (aY n m t k)).v.n/\[]=(aM (aY n m t k)).v.pkg/\[]=(aM (aY n m t k)).v.text/\(aM (aY n m t k)).v.names=[]/\(aM (aY n m t k)).v.parts=[]/\(0:Int)=(aM (aY n m t k)).st/\(aM (bM n m t k)).f=(aM (aY n m t k)).f/\True else True/\(aM (bM n m t k)).v=(aM (aY n m t k)).v/\(aM (bM n m t k)).st=(aM (aY n m t k)).st/\(0:Int)=(aM (aY n m t k)).f.err/\(0:Int)=(aM (aY n m t k)).f.pos/\True:=by
 obtain ⟨r,hr⟩:=Option.isSome_iff_exists.1 ho
 simp only [hr,kN]
 unfold aY at hr
 refine ⟨hf,aa (fun hc=>?_) (fun hc=>?_)⟩
 ·rw [if_pos (fN hc)] at hr
  cases hr
  exact (by repeat' (first | exact trivial | rfl | apply And.intro))
 rw [if_neg (fun q=>q (fO hc))] at hr
 refine aa (fun h1=>?_) (fun h1=>?_)
 ·rw [if_pos (Or.inl (Xo h1))] at hr
  cases hr
  exact (by repeat' (first | exact trivial | rfl | apply And.intro))
 refine aa (fun h2=>?_) (fun h2=>?_)
 ·rw [if_pos (Or.inr (Xo h2))] at hr
  cases hr
  exact (by repeat' (first | exact trivial | rfl | apply And.intro))
 rw [if_neg (fun q=>q.elim (fun q=>h1 (Xd q)) (fun q=>h2 (Xd q)))] at hr
 obtain ⟨w,hw,rfl⟩:=Option.map_eq_some_iff.1 hr
 simp only [hw,kN]
 refine ⟨rfl,aa (fun hc=>?_) (fun hc=>?_)⟩
 ·rw [show kX w=⟨dH,0,w.f⟩ from if_neg (fN hc)]
  exact (by repeat' (first | exact trivial | rfl | apply And.intro))
 ·rw [show kX w=⟨w.v,w.st,⟨0,0⟩⟩ from if_pos (fO hc)]
  exact (by repeat' (first | exact trivial | rfl | apply And.intro))
theorem yD (n:Nat) (a:Vlu) (ha:Wf (.st .val) a) (hz:szV a<=n+1) :
  if (!decide (a.kind=a.kind))=true then True/\false=true/\True else if (!decide (a.n=a.n))=true then True/\false=true/\True else if (!decide (a.pkg=a.pkg))=true then True/\false=true/\True else if (!decide (a.text=a.text))=true then True/\false=true/\True else if (!decide ((↑(List.length a.names):Int)=(↑(List.length a.names):Int)))=true then True/\false=true/\True else if (!decide ((↑(List.length a.parts):Int)=(↑(List.length a.parts):Int)))=true then True/\false=true/\True else (∃(x:Nat),x<=List.length a.names/\(0:Int)=(↑x:Int)/\a=a/\a=a/\false=false/\a=a/\a=a/\True)/\∀(x:Nat),x<=List.length a.names→if decide ((↑x:Int) < (↑(List.length a.names):Int))=true then ((0:Int)<=(↑x:Int)/\(↑x:Int) < (↑(List.length a.names):Int))/\((0:Int)<=(↑x:Int)/\(↑x:Int) < (↑(List.length a.names):Int))/\if (!decide (List.getD a.names (Int.toNat (↑x:Int)) (dfl Ty.str)=List.getD a.names (Int.toNat (↑x:Int)) (dfl Ty.str)))=true then True/\false=true/\True else inR IntKind.i64 ((↑x:Int)+(1:Int))/\∃(y:Nat),y<=List.length a.names/\List.length a.names - y < List.length a.names - x/\(↑x:Int)+(1:Int)=(↑y:Int)/\a=a/\a=a/\false=false/\a=a/\a=a/\True else (∃(x_1:Nat),x_1<=List.length a.parts/\(0:Int)=(↑x_1:Int)/\(↑x:Int)=(↑x:Int)/\a=a/\a=a/\false=false/\false=false/\a=a/\a=a/\True)/\∀(x_1:Nat),x_1<=List.length a.parts→if decide ((↑x_1:Int) < (↑(List.length a.parts):Int))=true then ((0:Int)<=(↑x_1:Int)/\(↑x_1:Int) < (↑(List.length a.parts):Int))/\((0:Int)<=(↑x_1:Int)/\(↑x_1:Int) < (↑(List.length a.parts):Int))/\(List.getD a.parts (Int.toNat (↑x_1:Int)) (dfl (Ty.st SN.val))=List.getD a.parts (Int.toNat (↑x_1:Int)) (dfl (Ty.st SN.val))/\szV (List.getD a.parts (Int.toNat (↑x_1:Int)) (dfl (Ty.st SN.val)))<=n)/\inR IntKind.i64 ((↑x_1:Int)+(1:Int))/\∃(y:Nat),y<=List.length a.parts/\List.length a.parts - y < List.length a.parts - x_1/\(↑x_1:Int)+(1:Int)=(↑y:Int)/\(↑x:Int)=(↑x:Int)/\a=a/\a=a/\false=false/\false=false/\a=a/\a=a/\True else True/\true=true/\True:=by
 have ln:=ha.val_names.len
 have lp:=ha.val_parts.len
 have hz':=tI a
 iterate 6 refine aa (fun h=>absurd rfl (fN h)) (fun _=>?_)
 refine ⟨⟨0,Nat.zero_le _,rfl,(by repeat' (first | exact trivial | rfl | apply And.intro))⟩,?_⟩
 intro x hx
 refine aa (fun h=>?_) (fun h=>?_)
 ·have hx':x < a.names.length:=by have:=Xo h;omega
  exact ⟨⟨by omega,by omega⟩,⟨by omega,by omega⟩,aa (fun q=>absurd rfl (fN q)) (fun _=>⟨b6 hx' ln,x+1,by omega,by omega,by omega,(by repeat' (first | exact trivial | rfl | apply And.intro))⟩)⟩
 ·refine ⟨⟨0,Nat.zero_le _,rfl,(by repeat' (first | exact trivial | rfl | apply And.intro))⟩,?_⟩
  intro y hy
  refine aa (fun h=>?_) (fun h=>(by repeat' (first | exact trivial | rfl | apply And.intro)))
  have hy':y < a.parts.length:=by have:=Xo h;omega
  have hm:=oC (bX a.parts y (dfl (.st .val)) hy')
  simp only [Int.toNat_natCast]
  exact ⟨⟨by omega,by omega⟩,⟨by omega,by omega⟩,⟨by trivial,by omega⟩,b6 hy' lp,y+1,by omega,by omega,by omega,(by repeat' (first | exact trivial | rfl | apply And.intro))⟩
theorem ri (n m:Nat) (t:Trm) (nm:Str) (k:Int) (ht:Wf (.st .term) t) (hm:Wf .str nm) (hk:Wf (.int .i64) k) (h1:bO (kY nm t)=true) (h2:bO (gL t)=true) (f0:bF t=true) (f1:bF (kY nm t)=true) (f2:bF (gL t)=true) (hq:0<=k→k < 2000→bw (kY nm t)=0→bw (gL t)=0→xZ n m t nm k) :
  (szT t<=szT t/\(0:Int)<=(400:Int)/\(400:Int)<=(1000000:Int))/\if decide ((400:Int) < db t (400:Int))=true then True/\true=true/\True else if decide (k < (0:Int))=true then True/\true=true/\True else if decide ((2000:Int)<=k)=true then True/\true=true/\True else bO {kind:=(14:Int),pkg:=[],name:=nm,n:=(0:Int),names:=[],vars:=[],shapes:=[],parts:=[t,{kind:=(5:Int),pkg:=[],name:=nm,n:=(0:Int),names:=[],vars:=[],shapes:=[],parts:=[],pos:=(0:Int):Trm}],pos:=t.pos:Trm}=true/\if (!decide (bw {kind:=(14:Int),pkg:=[],name:=nm,n:=(0:Int),names:=[],vars:=[],shapes:=[],parts:=[t,{kind:=(5:Int),pkg:=[],name:=nm,n:=(0:Int),names:=[],vars:=[],shapes:=[],parts:=[],pos:=(0:Int):Trm}],pos:=t.pos:Trm}=(0:Int)))=true then True/\true=true/\True else bO {kind:=(7:Int),pkg:=[],name:=[],n:=(0:Int),names:=[],vars:=[],shapes:=[],parts:=[{kind:=(6:Int),pkg:=[],name:=[],n:=(0:Int),names:=[],vars:=[],shapes:=[],parts:=[t],pos:=(0:Int):Trm}],pos:=t.pos:Trm}=true/\if (!decide (bw {kind:=(7:Int),pkg:=[],name:=[],n:=(0:Int),names:=[],vars:=[],shapes:=[],parts:=[{kind:=(6:Int),pkg:=[],name:=[],n:=(0:Int),names:=[],vars:=[],shapes:=[],parts:=[t],pos:=(0:Int):Trm}],pos:=t.pos:Trm}=(0:Int)))=true then True/\true=true/\True else (bF t=true/\Option.isSome (aY n m t k)=true)/\(bF {kind:=(14:Int),pkg:=[],name:=nm,n:=(0:Int),names:=[],vars:=[],shapes:=[],parts:=[t,{kind:=(5:Int),pkg:=[],name:=nm,n:=(0:Int),names:=[],vars:=[],shapes:=[],parts:=[],pos:=(0:Int):Trm}],pos:=t.pos:Trm}=true/\Option.isSome (aY n m {kind:=(14:Int),pkg:=[],name:=nm,n:=(0:Int),names:=[],vars:=[],shapes:=[],parts:=[t,{kind:=(5:Int),pkg:=[],name:=nm,n:=(0:Int),names:=[],vars:=[],shapes:=[],parts:=[],pos:=(0:Int):Trm}],pos:=t.pos:Trm} k)=true)/\inR IntKind.i64 (k+(1:Int))/\(bF {kind:=(7:Int),pkg:=[],name:=[],n:=(0:Int),names:=[],vars:=[],shapes:=[],parts:=[{kind:=(6:Int),pkg:=[],name:=[],n:=(0:Int),names:=[],vars:=[],shapes:=[],parts:=[t],pos:=(0:Int):Trm}],pos:=t.pos:Trm}=true/\Option.isSome (aY n m {kind:=(7:Int),pkg:=[],name:=[],n:=(0:Int),names:=[],vars:=[],shapes:=[],parts:=[{kind:=(6:Int),pkg:=[],name:=[],n:=(0:Int),names:=[],vars:=[],shapes:=[],parts:=[t],pos:=(0:Int):Trm}],pos:=t.pos:Trm} (k+(1:Int)))=true)/\((aM (aY n m t k)).v=(aM (aY n m {kind:=(14:Int),pkg:=[],name:=nm,n:=(0:Int),names:=[],vars:=[],shapes:=[],parts:=[t,{kind:=(5:Int),pkg:=[],name:=nm,n:=(0:Int),names:=[],vars:=[],shapes:=[],parts:=[],pos:=(0:Int):Trm}],pos:=t.pos:Trm} k)).v/\szV (aM (aY n m t k)).v<=(2000:Nat))/\if decide ((aM (aY n m t k)).st=(aM (aY n m {kind:=(14:Int),pkg:=[],name:=nm,n:=(0:Int),names:=[],vars:=[],shapes:=[],parts:=[t,{kind:=(5:Int),pkg:=[],name:=nm,n:=(0:Int),names:=[],vars:=[],shapes:=[],parts:=[],pos:=(0:Int):Trm}],pos:=t.pos:Trm} k)).st)=true
  then if (decide ((aM (aY n m t k)).f.err=(aM (aY n m {kind:=(14:Int),pkg:=[],name:=nm,n:=(0:Int),names:=[],vars:=[],shapes:=[],parts:=[t,{kind:=(5:Int),pkg:=[],name:=nm,n:=(0:Int),names:=[],vars:=[],shapes:=[],parts:=[],pos:=(0:Int):Trm}],pos:=t.pos:Trm} k)).f.err) && (decide ((aM (aY n m t k)).f.pos=(aM (aY n m {kind:=(14:Int),pkg:=[],name:=nm,n:=(0:Int),names:=[],vars:=[],shapes:=[],parts:=[t,{kind:=(5:Int),pkg:=[],name:=nm,n:=(0:Int),names:=[],vars:=[],shapes:=[],parts:=[],pos:=(0:Int):Trm}],pos:=t.pos:Trm} k)).f.pos) && true))=true then ((aM (aY n m t k)).v=(aM (aY n m {kind:=(7:Int),pkg:=[],name:=[],n:=(0:Int),names:=[],vars:=[],shapes:=[],parts:=[{kind:=(6:Int),pkg:=[],name:=[],n:=(0:Int),names:=[],vars:=[],shapes:=[],parts:=[t],pos:=(0:Int):Trm}],pos:=t.pos:Trm} (k+(1:Int)))).v/\szV (aM (aY n m t k)).v<=(2000:Nat))/\if (decide ((aM (aY n m t k)).f.err=(aM (aY n m {kind:=(7:Int),pkg:=[],name:=[],n:=(0:Int),names:=[],vars:=[],shapes:=[],parts:=[{kind:=(6:Int),pkg:=[],name:=[],n:=(0:Int),names:=[],vars:=[],shapes:=[],parts:=[t],pos:=(0:Int):Trm}],pos:=t.pos:Trm} (k+(1:Int)))).f.err) && (decide ((aM (aY n m t k)).f.pos=(aM (aY n m {kind:=(7:Int),pkg:=[],name:=[],n:=(0:Int),names:=[],vars:=[],shapes:=[],parts:=[{kind:=(6:Int),pkg:=[],name:=[],n:=(0:Int),names:=[],vars:=[],shapes:=[],parts:=[t],pos:=(0:Int):Trm}],pos:=t.pos:Trm} (k+(1:Int)))).f.pos) && true))=true then if (!decide ((aM (aY n m t k)).f.err=(0:Int)))=true then True/\true=true/\True else inR IntKind.i64 ((aM (aY n m t k)).st+(1:Int))/\if decide ((aM (aY n m {kind:=(7:Int),pkg:=[],name:=[],n:=(0:Int),names:=[],vars:=[],shapes:=[],parts:=[{kind:=(6:Int),pkg:=[],name:=[],n:=(0:Int),names:=[],vars:=[],shapes:=[],parts:=[t],pos:=(0:Int):Trm}],pos:=t.pos:Trm} (k+(1:Int)))).st=(aM (aY n m t k)).st+(1:Int))=true then True/\true=true/\True else True/\false=true/\True else True/\false=true/\True else True/\false=true/\True else True/\false=true/\True:=by
 rw [show (⟨14,[],nm,0,[],[],[],[t,⟨5,[],nm,0,[],[],[],[],0⟩],t.pos⟩:Trm)=kY nm t from rfl,show (⟨7,[],[],0,[],[],[],[⟨6,[],[],0,[],[],[],[t],0⟩],t.pos⟩:Trm)=gL t from rfl]
 refine ⟨⟨Nat.le_refl _,by decide,by decide⟩,aa (fun _=>(by repeat' (first | exact trivial | rfl | apply And.intro))) (fun c0=>aa (fun _=>(by repeat' (first | exact trivial | rfl | apply And.intro))) (fun c1=>aa (fun _=>(by repeat' (first | exact trivial | rfl | apply And.intro))) (fun c2=>⟨h1,aa (fun _=>(by repeat' (first | exact trivial | rfl | apply And.intro))) (fun c3=>⟨h2,aa (fun _=>(by repeat' (first | exact trivial | rfl | apply And.intro))) (fun c4=>?_)⟩)⟩)))⟩
 have k0:¬k < 0:=fun q=>c1 (Xd q)
 have k1:¬2000<=k:=fun q=>c2 (Xd q)
 obtain ⟨r,s,hr,hl,hc,ev,ef,es,hz,s0,s1⟩:=hq (by omega) (by omega) (fO c3) (fO c4)
 rw [show aM (aY n m t k)=r by rw [hr];rfl,show aM (aY n m (kY nm t) k)=r by rw [hl];rfl,show aM (aY n m (gL t) (k+1))=s by rw [hc];rfl,hr,hl,hc,ev,ef]
 refine ⟨⟨f0,rfl⟩,⟨f1,rfl⟩,bc (by omega) (by omega),⟨f2,rfl⟩,⟨rfl,hz⟩,aa (fun _=>?_) (fun q=>absurd (Xd rfl) q)⟩
 refine aa (fun _=>?_) (fun q=>absurd (by simp) q)
 refine ⟨⟨rfl,hz⟩,aa (fun _=>?_) (fun q=>absurd (by simp) q)⟩
 refine aa (fun _=>(by repeat' (first | exact trivial | rfl | apply And.intro))) (fun q=>?_)
 exact ⟨bc (by omega) (by omega),aa (fun _=>(by repeat' (first | exact trivial | rfl | apply And.intro))) (fun q'=>absurd (Xd (es (fO q))) q')⟩
end Go.AL.Seat
end
section
open Go Go.AL Go.Proofs Go.Shelf Go.Pd
namespace Go.AL.Seat
variable [Tabs]
def nn:Nat→Bool:=fun _=>false
def cf (k:Nat→Bool) (l:Nat→List (Option Nat)) (p r m:Nat→Bool) (s:Nat→List AV→List (Nat × SObj)→Option Ans):Cfg:=⟨tbl,s,k,l,p,r,m⟩
def a0:An:=⟨[],[],[]⟩
theorem g1 (k:Nat→Bool) (l:Nat→List (Option Nat)) (p r m:Nat→Bool) {s:Nat→List AV→List (Nat × SObj)→Option Ans} (hS:bJ Tryz.prog s) (a:An) {f:Nat} {fn:Func} (hf:Tryz.prog.funcs[f]?=some fn)
  {args:List AV} {S:List (Nat × SObj)} {A:Ans} {Q:Prop} (q:Q) (h:fwp (cf k l p r m s) a fn args S A=Q:=by kernel_rfl):aw Tryz.prog f args S A:=CI (C:=cf k l p r m s) mixed vv hS hf q h
theorem g0 {s:Nat→List AV→List (Nat × SObj)→Option Ans} (hS:bJ Tryz.prog s) (a:An) {f:Nat} {fn:Func} (hf:Tryz.prog.funcs[f]?=some fn)
  {args:List AV} {S:List (Nat × SObj)} {A:Ans} {Q:Prop} (q:Q) (h:fwp (cf nn (fun _=>[]) nn nn nn s) a fn args S A=Q:=by kernel_rfl):aw Tryz.prog f args S A:=CI (C:=cf nn (fun _=>[]) nn nn nn s) mixed vv hS hf q h
theorem sc {f:Nat} {g:Pat} {l:List (Nat × Pat)} (h:aj Tryz.prog f g) (hl:bJ Tryz.prog (dL l)):bJ Tryz.prog (dL ((f,g) ::l)):=jk h hl
theorem sn:bJ Tryz.prog (dL []):=kJ
theorem ee {f:Nat} {fn:Func} (h:Tryz.prog.funcs[f]?=some fn) (e:(fn.body.isNone || (fn.name == "runtime.NumGoroutine"))=false:=by kernel_rfl):ax Tryz.prog f:=ax.mk' h e
variable [SeatLaid] [SeatPow]
theorem ni:aj Tryz.prog 68 (p1 (.int .u8) fun c=>.ret (.bool (bS c))):=
 ba (ee Tryz.func68) fun c _ _=>g0 sn a0 Tryz.func68 (DF c)
theorem nj:aj Tryz.prog 69 (p1 (.int .u8) fun c=>.ret (.bool (bY c))):=
 ba (ee Tryz.func69) fun c _ _=>g0 sn a0 Tryz.func69 (DG c)
theorem BG:aj Tryz.prog 74 (p1 (.int .u8) fun c=>.ret (.bool (eQ c))):=
 ba (ee Tryz.func74) fun c _ _=>g0 sn a0 Tryz.func74 (DH c)
theorem vR:aj Tryz.prog 70 (p1 (.int .u8) fun c=>.ret (.bool (dy c))):=
 ba (ee Tryz.func70) fun c _ _=>g0 (sc ni (sc nj (sc BG sn))) a0 Tryz.func70 (Fs c)
theorem yE:aj Tryz.prog 112 (pf .str 68 fun s=>.ret (.bool (bZ bS s))):=
 lg (ee Tryz.func112) fun s hs _=>g0 (sc ni (sc nj (sc vR sn))) ⟨[(4,fun S0=>⟨Nat,fun k=>k<=s.length/\bZ bS s=(s.drop k).all fun c=>dy (bI c),fun k=>[(22,.int .i64 k)],fun _=>[],fun k=>s.length - k⟩)],[],[]⟩ Tryz.func112 (Be s hs)
theorem yF:aj Tryz.prog 112 (pf .str 69 fun s=>.ret (.bool (bZ bY s))):=
 lg (ee Tryz.func112) fun s hs _=>g0 (sc ni (sc nj (sc vR sn))) ⟨[(4,fun S0=>⟨Nat,fun k=>k<=s.length/\bZ bY s=(s.drop k).all fun c=>dy (bI c),fun k=>[(22,.int .i64 k)],fun _=>[],fun k=>s.length - k⟩)],[],[]⟩ Tryz.func112 (Bf s hs)
theorem Ee:aj Tryz.prog 71 (p1 .str fun s=>.ret (.bool (cY s))):=
 ba (ee Tryz.func71) fun s _ _=>g0 sn a0 Tryz.func71 (Ft s)
theorem gQ:aj Tryz.prog 72 (p1 .str fun s=>.ret (.bool (al s))):=
 ba (ee Tryz.func72) fun s _ _=>g0 (sc yE (sc Ee sn)) a0 Tryz.func72 (Fu s)
theorem kS:aj Tryz.prog 73 (p1 .str fun s=>.ret (.bool (aD s))):=
 ba (ee Tryz.func73) fun s _ _=>g0 (sc yF sn) a0 Tryz.func73 (DI s)
theorem yG:aj Tryz.prog 62 (p2 (.lst .str) .str fun a v=>.ret (.int .i64 (bh a v 0))):=
 dM (ee Tryz.func62) fun a v ha _ _=>g0 sn ⟨[(2,fun S0=>⟨Nat,fun k=>k<=a.length/\bh a v 0=bh (a.drop k) v k,fun k=>[(8,.int .i64 k)],fun _=>[],fun k=>a.length - k⟩)],[],[]⟩ Tryz.func62 (Bg a v ha)
theorem BH:aj Tryz.prog 202 (p1 .str fun s=>.ret (.bool (gF s))):=
 ba (ee Tryz.func202) fun s _ _=>g0 sn a0 Tryz.func202 (DJ s)
theorem lM:aj Tryz.prog 145 (p1 (.lst .str) fun a=>⟨none,none,.fn 180 [.ptr 1 0],[(1,.box (.lst .str a none))]⟩):=
 ba (ee Tryz.func145) fun a _ _=>g0 sn a0 Tryz.func145 (Bh a)
theorem BI:aj Tryz.prog 201 (p1 (.st .shape) fun s=>⟨some (s.parts.length *16<=140737488355328),none,.bool (cW s),[]⟩):=
 ba (ee Tryz.func201) fun s hs ho=>g0 (sc gQ (sc lM (sc (lG) (sc (kd) sn)))) ⟨[(4,fun S0=>⟨Nat,fun k=>k<=s.names.length/\s.names.length=s.parts.length/\cW s=(((s.names.drop k).all al) && decide s.names.Nodup),fun k=>[(16,.int .i64 k)],fun _=>[],fun k=>s.names.length - k⟩)],[],[]⟩ Tryz.func201 (DK s hs (ho _ rfl))
theorem Ef:aj Tryz.prog 170 (p1 (.st .shape) fun s=>⟨some (s.parts.length *16<=140737488355328),none,.bool (ak s),[]⟩):=
 ba (ee Tryz.func170) fun s hs ho=>g0 (sc BI (sc kS (sc gQ (sc BH sn)))) a0 Tryz.func170 (Fv s hs (ho _ rfl))
theorem qw:ax Tryz.prog 169:=ee Tryz.func169
theorem rl (n:Nat) (s:AL.Shape) (hs:Wf (.st .shape) s) (hn:sz s<=n+1) (hb:n<=1000000) (hA:aj Tryz.prog 169 (pf (.st .shape) 170 fun s=>⟨some (sz s<=n),none,.bool (allS ak s),[]⟩)):aw Tryz.prog 169 [.st .shape s,.fn 170 []] [] (.ret (.bool (allS ak s))):=
 g0 (sc Ef (sc (hA) sn)) ⟨[(4,fun S0=>⟨Nat,fun k=>k<=s.parts.length/\allS ak s=allL ak (s.parts.drop k),fun k=>[(14,.int .i64 k)],fun _=>[],fun k=>s.parts.length - k⟩)],[],[]⟩ Tryz.func169 (yj n s hs hn hb)
theorem vS:∀n:Nat,n<=1000000→aj Tryz.prog 169 (pf (.st .shape) 170 fun s=>⟨some (sz s<=n),none,.bool (allS ak s),[]⟩):=by
 intro n
 induction n with
 | zero=>exact fun _=>lg qw fun a hs ho=>absurd (ho _ rfl) (by have:=ib a;omega)
 | succ n ih=>exact fun hb=>lg qw fun a hs ho=>rl n a hs (ho _ rfl) (by omega) (ih (by omega))
theorem Eg:aj Tryz.prog 200 (tu 222):=
 xB (ee Tryz.func200) fun c hc=>g0 sn a0 Tryz.func200 (Fw c hc)
theorem A1:ax Tryz.prog 199:=ee Tryz.func199
theorem yH (n:Nat) (s:AL.Shape) (l c:Int) (hs:Wf (.st .shape) s) (hn:sz s<=n+1) (hc:0<=c/\c<=400/\1<=l/\l<=c+1) (hA:aj Tryz.prog 199 (oy 222 200 n)):aw Tryz.prog 199 [.st .shape s,.int .i64 l,.fn 200 [.ptr 900 0]] [(900,.box (.int .i64 c))] (CN 222 s l c (sz s<=n+1)):=
 g0 (sc Eg (sc (hA) sn)) ⟨[(4,fun S0=>⟨Nat × Int,fun x=>x.1<=s.parts.length/\c+1+(szL (s.parts.take x.1):Int)<=400/\deepL (s.parts.drop x.1) (l+1) x.2=deepS s l,fun x=>[(7,.int .i64 x.2),(16,.int .i64 x.1)],fun x=>[(900,.box (.int .i64 (c+1+(szL (s.parts.take x.1):Int))))],fun x=>s.parts.length - x.1⟩)],[],[]⟩ Tryz.func199 (Fx n s l c hs hn hc)
theorem Eh:∀n:Nat,aj Tryz.prog 199 (oy 222 200 n):=by
 intro n
 induction n with
 | zero=>exact pP A1 fun s l c hs hn hc=>absurd hn (by have:=ib s;omega)
 | succ n ih=>exact pP A1 fun s l c hs hn hc=>yH n s l c hs hn hc ih
theorem vT (s:AL.Shape) (hs:Wf (.st .shape) s) :aw Tryz.prog 168 [.st .shape s] [] (.ret (.tup [.int .i64 (if sz s<=400 then (sz s:Int) else 401),.int .i64 (if sz s<=400 then deepS s 1 else 0),.bool (decide (sz s<=400))])):=
 fwpR_sound (C:=⟨tbl,_,fun _=>false,fun _=>[],fun _=>false,fun _=>false,fun _=>false⟩) (ann:=⟨[],[],[]⟩) (annC:=⟨[],[],[]⟩) mixed vv (jk (Eh (sz s)) (kJ)) Tryz.func168 Tryz.func198 (enters_of Tryz.func198 (by kernel_rfl) rfl) (@Eq.mpr _ _ (by kernel_rfl) (DL s hs))
theorem BJ:aj Tryz.prog 168 (p1 (.st .shape) fun s=>.ret (.tup [.int .i64 (if sz s<=400 then (sz s:Int) else 401),.int .i64 (if sz s<=400 then deepS s 1 else 0),.bool (decide (sz s<=400))])):=
 ba (ee Tryz.func168) fun s hs _=>vT s hs
theorem s9:aj Tryz.prog 129 (p1 (.st .shape) fun s=>.ret (.int .i64 (cb s))):=
 ba (ee Tryz.func129) fun s _ _=>g0 (sc (BJ) (sc (vS 400 (by decide)) sn)) a0 Tryz.func129 (DM s)
theorem A2:ax Tryz.prog 134:=ee Tryz.func134
theorem yI (n:Nat) (s:AL.Shape) (m:Int) (hs:Wf (.st .shape) s) (ho:sz s<=n+1/\0<=m/\m<=1000000) (hA:aj Tryz.prog 134 (p2 (.st .shape) (.int .i64) fun s m=>⟨some (sz s<=n/\0<=m/\m<=1000000),none,.int .i64 (sizeF s m),[]⟩)):aw Tryz.prog 134 [.st .shape s,.int .i64 m] [] (.ret (.int .i64 (sizeF s m))):=
 g0 (sc (hA) sn) ⟨[(3,fun S0=>⟨Nat × Int,fun x=>x.1<=s.parts.length/\1<=x.2/\x.2<=m+1/\sizeL (s.parts.drop x.1) x.2 m=sizeF s m,fun x=>[(5,.int .i64 x.2),(6,.int .i64 x.1)],fun _=>[],fun x=>s.parts.length - x.1⟩)],[],[]⟩ Tryz.func134 (Fy n s m hs ho)
theorem Ei:∀n:Nat,aj Tryz.prog 134 (p2 (.st .shape) (.int .i64) fun s m=>⟨some (sz s<=n/\0<=m/\m<=1000000),none,.int .i64 (sizeF s m),[]⟩):=by
 intro n
 induction n with
 | zero=>exact dM A2 fun a m _ _ ho=>absurd (ho _ rfl).1 (by have:=ib a;omega)
 | succ n ih=>exact dM A2 fun a m ha _ ho=>yI n a m ha (ho _ rfl) ih
theorem qx:aj Tryz.prog 93 (p1 (.int .u8) fun c=>.ret (.bool (bS c))):=
 ba (ee Tryz.func93) fun c _ _=>g0 sn a0 Tryz.func93 (Bi c)
theorem qy:aj Tryz.prog 97 (p1 (.int .u8) fun c=>.ret (.bool (bY c))):=
 ba (ee Tryz.func97) fun c _ _=>g0 sn a0 Tryz.func97 (Bj c)
theorem yJ:aj Tryz.prog 137 (p1 (.int .u8) fun c=>.ret (.bool (eQ c))):=
 ba (ee Tryz.func137) fun c _ _=>g0 sn a0 Tryz.func137 (Bk c)
theorem sa:aj Tryz.prog 94 (p1 .str fun s=>.ret (.int .i64 (cG s:Int))):=
 ba (ee Tryz.func94) fun s hs _=>g0 (sc qx (sc qy (sc yJ sn))) ⟨[(2,fun S0=>⟨Nat,fun k=>k<=s.length/\cG s=k+cG (s.drop k),fun k=>[(3,.int .i64 k)],fun _=>[],fun k=>s.length - k⟩)],[],[]⟩ Tryz.func94 (DN s hs)
theorem BK:aj Tryz.prog 138 (p2 .str (.lst .str) fun s l=>.ret (.bool (decide (s∈l)))):=
 dM (ee Tryz.func138) fun s l _ hl _=>g0 sn ⟨[(2,fun S0=>⟨Nat,fun k=>k<=l.length/\decide (s∈l)=decide (s∈l.drop k),fun k=>[(5,.int .i64 k)],fun _=>[],fun k=>l.length - k⟩)],[],[]⟩ Tryz.func138 (DO s l hl)
theorem BL:aj Tryz.prog 95 (p1 .str fun s=>.ret (.bool (cY s))):=
 ba (ee Tryz.func95) fun s _ _=>g0 (sc BK sn) a0 Tryz.func95 (DQ s)
theorem kT:aj Tryz.prog 55 (p1 .str fun s=>.ret (.bool (al s))):=
 ba (ee Tryz.func55) fun s _ _=>g0 (sc qx (sc sa (sc BL sn))) a0 Tryz.func55 (DR s)
theorem qz:aj Tryz.prog 58 (p1 .str fun s=>.ret (.bool (aD s))):=
 ba (ee Tryz.func58) fun s _ _=>g0 (sc qy (sc sa sn)) a0 Tryz.func58 (Bl s)
theorem yK:aj Tryz.prog 203 (p2 (.lst .str) (.int .i64) fun ns n=>.ret (.bool (eU ns n))):=
 dM (ee Tryz.func203) fun ns n hl _ _=>g0 (sc kT sn) ⟨[(2,fun S0=>⟨Nat,fun k=>k<=ns.length/\(ns.take k).all al=true/\(ns.take k).Nodup,fun k=>[(5,.int .i64 k)],fun _=>[],fun k=>ns.length - k⟩),(7,fun S0=>FW S0 5 fun k0=>⟨Nat,fun j=>(j:Int)<=k0/\(ns.getD k0.toNat (dfl .str))∉ns.take j,fun j=>[(6,.int .i64 j)],fun _=>[],fun j=>k0.toNat - j⟩)],[],[]⟩ Tryz.func203 (Bm ns n hl)
theorem BM:aj Tryz.prog 173 (p1 (.st .shape) fun s=>.ret (.bool (ak s))):=
 ba (ee Tryz.func173) fun s hs _=>g0 (sc yK (sc qz (sc kT sn))) a0 Tryz.func173 (DS s hs)
theorem vU:ax Tryz.prog 136:=ee Tryz.func136
theorem vV (n:Nat) (s:AL.Shape) (hs:Wf (.st .shape) s) (hn:sz s<=n+1) (hA:aj Tryz.prog 136 (p1 (.st .shape) fun s=>⟨some (sz s<=n),none,.bool (allS ak s),[]⟩)):aw Tryz.prog 136 [.st .shape s] [] (.ret (.bool (allS ak s))):=
 g0 (sc BM (sc (hA) sn)) ⟨[(4,fun S0=>⟨Nat,fun k=>k<=s.parts.length/\allS ak s=allL ak (s.parts.drop k),fun k=>[(3,.int .i64 k)],fun _=>[],fun k=>s.parts.length - k⟩)],[],[]⟩ Tryz.func136 (DT n s hs hn)
theorem BN:∀n:Nat,aj Tryz.prog 136 (p1 (.st .shape) fun s=>⟨some (sz s<=n),none,.bool (allS ak s),[]⟩):=by
 intro n
 induction n with
 | zero=>exact ba vU fun a _ ho=>absurd (ho _ rfl) (by have:=ib a;omega)
 | succ n ih=>exact ba vU fun a hs ho=>vV n a hs (ho _ rfl) ih
theorem A3:ax Tryz.prog 135:=ee Tryz.func135
theorem yL (n:Nat) (s:AL.Shape) (hs:Wf (.st .shape) s) (hn:sz s<=n+1) (hb:n<=1000000) (hA:aj Tryz.prog 135 (p1 (.st .shape) fun s=>⟨some (sz s<=n),none,.int .i64 (deepF s:Int),[]⟩)):aw Tryz.prog 135 [.st .shape s] [] (.ret (.int .i64 (deepF s:Int))):=
 g0 (sc (hA) sn) ⟨[(3,fun S0=>⟨Nat × Int,fun x=>x.1<=s.parts.length/\0<=x.2/\max x.2 (maxDeep (s.parts.drop x.1):Int)=maxDeep s.parts,fun x=>[(3,.int .i64 x.2),(4,.int .i64 x.1)],fun _=>[],fun x=>s.parts.length - x.1⟩)],[],[]⟩ Tryz.func135 (Fz n s hs hn hb)
theorem Ej:∀n:Nat,n<=1000000→aj Tryz.prog 135 (p1 (.st .shape) fun s=>⟨some (sz s<=n),none,.int .i64 (deepF s:Int),[]⟩):=by
 intro n
 induction n with
 | zero=>exact fun _=>ba A3 fun a _ ho=>absurd (ho _ rfl) (by have:=ib a;omega)
 | succ n ih=>exact fun hb=>ba A3 fun a hs ho=>yL n a hs (ho _ rfl) (by omega) (ih (by omega))
theorem yM:aj Tryz.prog 91 (p1 (.st .shape) fun s=>.ret (.int .i64 (cb s))):=
 ba (ee Tryz.func91) fun s hs _=>g0 (sc (Ei (sz s)) (sc (Ej 400 (by decide)) (sc (BN 400) sn))) a0 Tryz.func91 (Bn s hs)
theorem BO:aj Tryz.prog 174 (p1 (.int .i64) fun p=>.ret (.bool (dF p))):=
 ba (ee Tryz.func174) fun p _ _=>g0 sn a0 Tryz.func174 (DU p)
theorem BP:aj Tryz.prog 175 (p1 (.int .i64) fun p=>⟨some (0<=p/\p<=1114111),none,.str (cK p),[]⟩):=
 ba (ee Tryz.func175) fun p _ ho=>g0 sn a0 Tryz.func175 (DV p (ho _ rfl))
theorem BQ:aj Tryz.prog 139 (p1 .str fun s=>.ret (.tup [.int .i64 (cr s).1,.int .i64 (cr s).2])):=
 ba (ee Tryz.func139) fun s hs _=>g0 (sc BO (sc BP sn)) ⟨[(16,fun S0=>⟨Nat,fun k=>1<=k/\k<=bq s/\(k=1→-300<=aN s k/\aN s k<=300)/\(k=2→-20000<=aN s k/\aN s k<=20000)/\(k=3→-1300000<=aN s k/\aN s k<=1300000)/\(k=4→-90000000<=aN s k/\aN s k<=90000000),fun k=>[(6,.int .i64 k),(5,.int .i64 (aN s k))],fun _=>[],fun k=>bq s - k⟩)],[],[(100013,fun S0=>⟨[(4,.int .i64 (bq s:Int)),(5,.int .i64 (eY s))],[]⟩)]⟩ Tryz.func139 (DW s hs)
theorem sb:ax Tryz.prog 28:=ee Tryz.func28
theorem tN (n:Nat) (t:Trm) (m:Int) (hs:Wf (.st .term) t) (hz:szT t<=n+1) (h0:0<=m) (h1:m<=1000000) (hA:aj Tryz.prog 28 (p2 (.st .term) (.int .i64) fun t m=>⟨some (szT t<=n/\0<=m/\m<=1000000),none,.tup [.int .i64 (countT t m).1,.int .i64 (countT t m).2],[]⟩)):aw Tryz.prog 28 [.st .term t,.int .i64 m] [] (⟨some (szT t<=n+1/\0<=m/\m<=1000000),none,.tup [.int .i64 (countT t m).1,.int .i64 (countT t m).2],[]⟩):=
 g0 (sc (hA) sn) ⟨[(3,fun S0=>⟨Nat × Int × Int,fun y=>y.1<=t.parts.length/\1<=y.2.1/\y.2.1<=m+1/\0<=y.2.2/\y.2.2+1<=y.2.1/\countL (t.parts.drop y.1) m y.2.1 y.2.2=countL t.parts m 1 0,fun y=>[(6,.int .i64 y.2.1),(7,.int .i64 y.2.2),(15,.int .i64 y.1)],fun _=>[],fun y=>t.parts.length - y.1⟩)],[],[]⟩ Tryz.func28 (Bp n t m hs hz h0 h1)
theorem qA:∀n:Nat,aj Tryz.prog 28 (p2 (.st .term) (.int .i64) fun t m=>⟨some (szT t<=n/\0<=m/\m<=1000000),none,.tup [.int .i64 (countT t m).1,.int .i64 (countT t m).2],[]⟩)
 | 0=>dM sb fun t m hs _ ho=>absurd (ho _ rfl).1 (by have:=fA t;omega)
 | n+1=>dM sb fun t m hs _ ho=>tN n t m hs (ho _ rfl).1 (ho _ rfl).2.1 (ho _ rfl).2.2 (qA n)
theorem vW:aj Tryz.prog 148 (pcl .str 72 fun x=>⟨none,none,.bool (!al x),[]⟩):=
 mZ (ee Tryz.func148) fun x _ ho=>g0 (sc gQ sn) a0 Tryz.func148 (yk x)
theorem vX:aj Tryz.prog 181 (pfc (.lst .str) 148 72 fun l=>⟨none,none,.int .i64 (b8 al l 0),[]⟩):=
 fL (ee Tryz.func181) fun l hl ho=>g0 (sc vW sn) ⟨[(2,fun S0=>⟨Nat,fun k=>k<=l.length/\b8 al (l.drop k) k=b8 al l 0,fun k=>[(8,.int .i64 k)],fun _=>[],fun k=>l.length - k⟩)],[],[]⟩ Tryz.func181 (yl l hl)
theorem vY:aj Tryz.prog 147 (pfc (.lst .str) 148 72 fun l=>⟨none,none,.bool (!l.all al),[]⟩):=
 fL (ee Tryz.func147) fun l _ ho=>g0 (sc vX sn) a0 Tryz.func147 (ym l)
theorem sd:aj Tryz.prog 103 (pf (.lst .str) 72 fun l=>⟨none,none,.bool (l.all al),[]⟩):=
 lg (ee Tryz.func103) fun l _ ho=>g0 (sc vY sn) a0 Tryz.func103 (DX l)
theorem BR:aj Tryz.prog 102 (p1 (.lst .str) fun l=>⟨some (l.length *16<=140737488355328),none,.bool (l.all al && decide l.Nodup),[]⟩):=
 ba (ee Tryz.func102) fun l _ ho=>g0 (sc lM (sc (lG) (sc sd (sc (kd) sn)))) a0 Tryz.func102 (DY l (ho _ rfl))
theorem yN:ax Tryz.prog 141:=ee Tryz.func141
theorem rm (n:Nat) (x:Shape)  (ho:sz x<=n) (hA:aj Tryz.prog 142 (p1 (.st .shape) fun s=>⟨some (sz s<=n),none,.bool (allS aL s),[]⟩)):aw Tryz.prog 141 [.st .shape x,.ptr 900 0] [(900,.box (.fn 142 []))] (⟨some (sz x<=n),none,.bool (!(allS aL) x),[]⟩):=
 g0 (sc (hA) sn) a0 Tryz.func141 (yn n x ho)
theorem vZ (n:Nat) (hA:aj Tryz.prog 142 (p1 (.st .shape) fun s=>⟨some (sz s<=n),none,.bool (allS aL s),[]⟩)):aj Tryz.prog 141 (pcl (.st .shape) 142 fun x=>⟨some (sz x<=n),none,.bool (!(allS aL) x),[]⟩):=
 mZ yN fun x _ ho=>rm n x (ho _ rfl) hA
theorem yO:ax Tryz.prog 176:=ee Tryz.func176
theorem rn (n:Nat) (l:List AL.Shape)  (hl:Wf (.lst (.st .shape)) l) (ho:∀x∈l,sz x<=n) (hA:aj Tryz.prog 142 (p1 (.st .shape) fun s=>⟨some (sz s<=n),none,.bool (allS aL s),[]⟩)):aw Tryz.prog 176 [.lst (.st .shape) l none,.fn 141 [.ptr 900 0]] [(900,.box (.fn 142 []))] (⟨some (∀x∈l,sz x<=n),none,.int .i64 (b8 (allS aL) l 0),[]⟩):=
 g0 (sc ((vZ n hA)) sn) ⟨[(2,fun S0=>⟨Nat,fun k=>k<=l.length/\b8 (allS aL) (l.drop k) k=b8 (allS aL) l 0,fun k=>[(8,.int .i64 k)],fun _=>[],fun k=>l.length - k⟩)],[],[]⟩ Tryz.func176 (yo n l hl ho)
theorem w8 (n:Nat) (hA:aj Tryz.prog 142 (p1 (.st .shape) fun s=>⟨some (sz s<=n),none,.bool (allS aL s),[]⟩)):aj Tryz.prog 176 (pfc (.lst (.st .shape)) 141 142 fun l=>⟨some (∀x∈l,sz x<=n),none,.int .i64 (b8 (allS aL) l 0),[]⟩):=
 fL yO fun l hl ho=>rn n l hl (ho _ rfl) hA
theorem yP:ax Tryz.prog 140:=ee Tryz.func140
theorem rq (n:Nat) (l:List AL.Shape)  (ho:∀x∈l,sz x<=n) (hA:aj Tryz.prog 142 (p1 (.st .shape) fun s=>⟨some (sz s<=n),none,.bool (allS aL s),[]⟩)):aw Tryz.prog 140 [.lst (.st .shape) l none,.fn 141 [.ptr 900 0]] [(900,.box (.fn 142 []))] (⟨some (∀x∈l,sz x<=n),none,.bool (!l.all (allS aL)),[]⟩):=
 g0 (sc ((w8 n hA)) sn) a0 Tryz.func140 (yp n l ho)
theorem w9 (n:Nat) (hA:aj Tryz.prog 142 (p1 (.st .shape) fun s=>⟨some (sz s<=n),none,.bool (allS aL s),[]⟩)):aj Tryz.prog 140 (pfc (.lst (.st .shape)) 141 142 fun l=>⟨some (∀x∈l,sz x<=n),none,.bool (!l.all (allS aL)),[]⟩):=
 fL yP fun l _ ho=>rq n l (ho _ rfl) hA
theorem Ek:ax Tryz.prog 99:=ee Tryz.func99
theorem wa (n:Nat) (l:List AL.Shape)  (ho:∀x∈l,sz x<=n) (hA:aj Tryz.prog 142 (p1 (.st .shape) fun s=>⟨some (sz s<=n),none,.bool (allS aL s),[]⟩)):aw Tryz.prog 99 [.lst (.st .shape) l none,.fn 142 []] [] (⟨some (∀x∈l,sz x<=n),none,.bool (l.all (allS aL)),[]⟩):=
 g0 (sc ((w9 n hA)) sn) a0 Tryz.func99 (DZ n l ho)
theorem BS (n:Nat) (hA:aj Tryz.prog 142 (p1 (.st .shape) fun s=>⟨some (sz s<=n),none,.bool (allS aL s),[]⟩)):aj Tryz.prog 99 (pf (.lst (.st .shape)) 142 fun l=>⟨some (∀x∈l,sz x<=n),none,.bool (l.all (allS aL)),[]⟩):=
 lg Ek fun l _ ho=>wa n l (ho _ rfl) hA
theorem A4:ax Tryz.prog 142:=ee Tryz.func142
theorem yQ (n:Nat) (s:AL.Shape) (ho:sz s<=n+1) (hE:aj Tryz.prog 99 (pf (.lst (.st .shape)) 142 fun l=>⟨some (∀x∈l,sz x<=n),none,.bool (l.all (allS aL)),[]⟩)):aw Tryz.prog 142 [.st .shape s] [] (⟨some (sz s<=n+1),none,.bool (allS aL s),[]⟩):=
 g0 (sc (hE) sn) a0 Tryz.func142 (FA n s ho)
theorem wb:∀n:Nat,aj Tryz.prog 142 (p1 (.st .shape) fun s=>⟨some (sz s<=n),none,.bool (allS aL s),[]⟩)
 | 0=>ba A4 fun s _ ho=>absurd (ho _ rfl) (by have:=ib s;omega)
 | n+1=>ba A4 fun s _ ho=>yQ n s (ho _ rfl) (BS n (wb n))
theorem yR:aj Tryz.prog 100 (p1 (.st .shape) fun s=>.ret (.bool (decide (cb s=0) && allS aL s))):=
 ba (ee Tryz.func100) fun s _ _=>g0 (sc s9 (sc (wb 400) sn)) a0 Tryz.func100 (Bq s)
theorem FK:aj Tryz.prog 98 (p1 (.st .term) fun t=>.ret (.agg [.int .i64 (t.names.length:Int),.int .i64 (t.vars.length:Int),.int .i64 (t.shapes.length:Int),.int .i64 (t.parts.length:Int)])):=
 ba (ee Tryz.func98) fun t _ _=>g0 sn a0 Tryz.func98 (GP t)
theorem BT:aj Tryz.prog 101 (p1 .str fun s=>.ret (.bool (fI s))):=
 ba (ee Tryz.func101) fun s hs _=>g0 (sc (AR) sn) ⟨[(2,fun S0=>⟨Nat,fun k=>k<=s.length/\(s.all cn)=(s.drop k).all cn,fun k=>[(8,.int .i64 k)],fun _=>[],fun k=>s.length - k⟩)],[],[]⟩ Tryz.func101 (E0 s hs)
theorem tO:aj Tryz.prog 141 (pcl (.st .shape) 100 fun x=>⟨none,none,.bool (!bj x),[]⟩):=
 mZ (ee Tryz.func141) fun x _ ho=>g0 (sc yR sn) a0 Tryz.func141 (vL x)
theorem tP:aj Tryz.prog 176 (pfc (.lst (.st .shape)) 141 100 fun l=>⟨none,none,.int .i64 (b8 bj l 0),[]⟩):=
 fL (ee Tryz.func176) fun l hl ho=>g0 (sc tO sn) ⟨[(2,fun S0=>⟨Nat,fun k=>k<=l.length/\b8 bj (l.drop k) k=b8 bj l 0,fun k=>[(8,.int .i64 k)],fun _=>[],fun k=>l.length - k⟩)],[],[]⟩ Tryz.func176 (vM l hl)
theorem tQ:aj Tryz.prog 140 (pfc (.lst (.st .shape)) 141 100 fun l=>⟨none,none,.bool (!l.all bj),[]⟩):=
 fL (ee Tryz.func140) fun l _ ho=>g0 (sc tP sn) a0 Tryz.func140 (vN l)
theorem yS:aj Tryz.prog 99 (pf (.lst (.st .shape)) 100 fun l=>⟨none,none,.bool (l.all bj),[]⟩):=
 lg (ee Tryz.func99) fun l _ ho=>g0 (sc tQ sn) a0 Tryz.func99 (Br l)
theorem BU:aj Tryz.prog 59 (p1 (.st .term) fun t=>⟨some (t.names.length<=8796093022208),none,.bool (ai t),[]⟩):=
 ba (ee Tryz.func59) fun t ht ho=>g0 (sc FK (sc yS (sc BT (sc gQ (sc BR (sc sd (sc kS sn))))))) ⟨[],[],[(2,fun S0=>⟨[(34,.bool (!eD t))],[]⟩)]⟩ Tryz.func59 (E1 t ht (ho _ rfl))
theorem wc:ax Tryz.prog 105:=ee Tryz.func105
theorem qB (n:Nat) (x:Trm)  (ho:szT x<=n/\bF x=true) (hA:aj Tryz.prog 29 (p1 (.st .term) fun t=>⟨some (szT t<=n/\bF t=true),none,.bool (allT ai t),[]⟩)):aw Tryz.prog 105 [.st .term x,.ptr 900 0] [(900,.box (.fn 29 []))] (⟨some (szT x<=n/\bF x=true),none,.bool (!(allT ai) x),[]⟩):=
 g0 (sc (hA) sn) a0 Tryz.func105 (vO n x ho)
theorem tR (n:Nat) (hA:aj Tryz.prog 29 (p1 (.st .term) fun t=>⟨some (szT t<=n/\bF t=true),none,.bool (allT ai t),[]⟩)):aj Tryz.prog 105 (pcl (.st .term) 29 fun x=>⟨some (szT x<=n/\bF x=true),none,.bool (!(allT ai) x),[]⟩):=
 mZ wc fun x _ ho=>qB n x (ho _ rfl) hA
theorem we:ax Tryz.prog 149:=ee Tryz.func149
theorem qC (n:Nat) (l:List Trm)  (hl:Wf (.lst (.st .term)) l) (ho:∀x∈l,szT x<=n/\bF x=true) (hA:aj Tryz.prog 29 (p1 (.st .term) fun t=>⟨some (szT t<=n/\bF t=true),none,.bool (allT ai t),[]⟩)):aw Tryz.prog 149 [.lst (.st .term) l none,.fn 105 [.ptr 900 0]] [(900,.box (.fn 29 []))] (⟨some (∀x∈l,szT x<=n/\bF x=true),none,.int .i64 (b8 (allT ai) l 0),[]⟩):=
 g0 (sc ((tR n hA)) sn) ⟨[(2,fun S0=>⟨Nat,fun k=>k<=l.length/\b8 (allT ai) (l.drop k) k=b8 (allT ai) l 0,fun k=>[(8,.int .i64 k)],fun _=>[],fun k=>l.length - k⟩)],[],[]⟩ Tryz.func149 (vP n l hl ho)
theorem tS (n:Nat) (hA:aj Tryz.prog 29 (p1 (.st .term) fun t=>⟨some (szT t<=n/\bF t=true),none,.bool (allT ai t),[]⟩)):aj Tryz.prog 149 (pfc (.lst (.st .term)) 105 29 fun l=>⟨some (∀x∈l,szT x<=n/\bF x=true),none,.int .i64 (b8 (allT ai) l 0),[]⟩):=
 fL we fun l hl ho=>qC n l hl (ho _ rfl) hA
theorem wg:ax Tryz.prog 104:=ee Tryz.func104
theorem qD (n:Nat) (l:List Trm)  (ho:∀x∈l,szT x<=n/\bF x=true) (hA:aj Tryz.prog 29 (p1 (.st .term) fun t=>⟨some (szT t<=n/\bF t=true),none,.bool (allT ai t),[]⟩)):aw Tryz.prog 104 [.lst (.st .term) l none,.fn 105 [.ptr 900 0]] [(900,.box (.fn 29 []))] (⟨some (∀x∈l,szT x<=n/\bF x=true),none,.bool (!l.all (allT ai)),[]⟩):=
 g0 (sc ((tS n hA)) sn) a0 Tryz.func104 (vQ n l ho)
theorem tT (n:Nat) (hA:aj Tryz.prog 29 (p1 (.st .term) fun t=>⟨some (szT t<=n/\bF t=true),none,.bool (allT ai t),[]⟩)):aj Tryz.prog 104 (pfc (.lst (.st .term)) 105 29 fun l=>⟨some (∀x∈l,szT x<=n/\bF x=true),none,.bool (!l.all (allT ai)),[]⟩):=
 fL wg fun l _ ho=>qD n l (ho _ rfl) hA
theorem BV:ax Tryz.prog 60:=ee Tryz.func60
theorem tU (n:Nat) (l:List Trm)  (ho:∀x∈l,szT x<=n/\bF x=true) (hA:aj Tryz.prog 29 (p1 (.st .term) fun t=>⟨some (szT t<=n/\bF t=true),none,.bool (allT ai t),[]⟩)):aw Tryz.prog 60 [.lst (.st .term) l none,.fn 29 []] [] (⟨some (∀x∈l,szT x<=n/\bF x=true),none,.bool (l.all (allT ai)),[]⟩):=
 g0 (sc ((tT n hA)) sn) a0 Tryz.func60 (Bt n l ho)
theorem yT (n:Nat) (hA:aj Tryz.prog 29 (p1 (.st .term) fun t=>⟨some (szT t<=n/\bF t=true),none,.bool (allT ai t),[]⟩)):aj Tryz.prog 60 (pf (.lst (.st .term)) 29 fun l=>⟨some (∀x∈l,szT x<=n/\bF x=true),none,.bool (l.all (allT ai)),[]⟩):=
 lg BV fun l _ ho=>tU n l (ho _ rfl) hA
theorem se:ax Tryz.prog 29:=ee Tryz.func29
theorem tV (n:Nat) (t:Trm) (ho:szT t<=n+1/\bF t=true) (hE:aj Tryz.prog 60 (pf (.lst (.st .term)) 29 fun l=>⟨some (∀x∈l,szT x<=n/\bF x=true),none,.bool (l.all (allT ai)),[]⟩)):aw Tryz.prog 29 [.st .term t] [] (⟨some (szT t<=n+1/\bF t=true),none,.bool (allT ai t),[]⟩):=
 g0 (sc BU (sc (hE) sn)) a0 Tryz.func29 (Bu n t ho)
theorem qE:∀n:Nat,aj Tryz.prog 29 (p1 (.st .term) fun t=>⟨some (szT t<=n/\bF t=true),none,.bool (allT ai t),[]⟩)
 | 0=>ba se fun t _ ho=>absurd (ho _ rfl).1 (by have:=fA t;omega)
 | n+1=>ba se fun t _ ho=>tV n t (ho _ rfl) (yT n (qE n))
theorem tW (x:Trm) (ho:bF x=true) :aw Tryz.prog 15 [.st .term x] [] (⟨some (bF x=true),none,.int .i64 (bw x),[]⟩):=
 g0 (sc (qA (szT x)) (sc (qE (szT x)) sn)) a0 Tryz.func15 (Bv x ho)
theorem qF:aj Tryz.prog 15 (p1 (.st .term) fun t=>⟨some (bF t=true),none,.int .i64 (bw t),[]⟩):=
 ba (ee Tryz.func15) fun t _ ho=>tW t (ho _ rfl)
theorem yU:aj Tryz.prog 53 (p2 (.lst .str) .bool fun ns b=>.ret (.bool (dG ns b))):=
 dM (ee Tryz.func53) fun ns b hl _ _=>g0 (sc kT sn) ⟨[(2,fun S0=>⟨Nat,fun k=>k<=ns.length/\(ns.take k).all al=true/\(b=true→(ns.take k).Nodup),fun k=>[(5,.int .i64 k)],fun _=>[],fun k=>ns.length - k⟩),(7,fun S0=>FW S0 5 fun k0=>⟨Nat,fun j=>(j:Int)<=k0/\(b=true→(ns.getD k0.toNat (dfl .str))∉ns.take j)/\(b=false→j=0),fun j=>[(6,.int .i64 j)],fun _=>[],fun j=>k0.toNat - j⟩)],[],[]⟩ Tryz.func53 (Bw ns b hl)
theorem qG:ax Tryz.prog 92:=ee Tryz.func92
theorem rr (n:Nat) (s:AL.Shape) (hs:Wf (.st .shape) s) (hn:sz s<=n+1) (hA:aj Tryz.prog 92 (p1 (.st .shape) fun s=>⟨some (sz s<=n),none,.bool (!allS aL s),[]⟩)):aw Tryz.prog 92 [.st .shape s] [] (.ret (.bool (!allS aL s))):=
 g0 (sc (hA) sn) ⟨[(2,fun S0=>⟨Nat,fun k=>k<=s.parts.length/\allS aL s=(aL s && allL aL (s.parts.drop k)),fun k=>[(3,.int .i64 k)],fun _=>[],fun k=>s.parts.length - k⟩)],[],[]⟩ Tryz.func92 (yq n s hs hn)
theorem wh:∀n:Nat,aj Tryz.prog 92 (p1 (.st .shape) fun s=>⟨some (sz s<=n),none,.bool (!allS aL s),[]⟩):=by
 intro n
 induction n with
 | zero=>exact ba qG fun a _ ho=>absurd (ho _ rfl) (by have:=ib a;omega)
 | succ n ih=>exact ba qG fun a hs ho=>rr n a hs (ho _ rfl) ih
theorem wi:aj Tryz.prog 54 (p1 (.lst (.st .shape)) fun l=>.ret (.bool (l.all bj))):=
 ba (ee Tryz.func54) fun l hl _=>g0 (sc yM (sc (wh 400) sn)) ⟨[(2,fun S0=>⟨Nat,fun k=>k<=l.length/\l.all bj=(l.drop k).all bj,fun k=>[(3,.int .i64 k)],fun _=>[],fun k=>l.length - k⟩)],[],[]⟩ Tryz.func54 (yr l hl)
theorem yV:aj Tryz.prog 56 (p5 (.st .term) (.int .i64) (.int .i64) (.int .i64) (.int .i64) fun t n v s p=>.ret (.bool (aK t n v s p))):=
 Hd (ee Tryz.func56) fun t n v s p _ _ _ _=>g0 sn a0 Tryz.func56 (Bx t n v s p)
theorem wj:aj Tryz.prog 96 (p1 .str fun s=>⟨some (s.length<=2000000),none,.tup [.lst (.int .i64) (ed s).1 none,.st .fault (ed s).2],[]⟩):=
 ba (ee Tryz.func96) fun s hs ho=>g0 (sc BQ sn) ⟨[(3,fun S0=>⟨Nat × Nat × List Int,fun y=>y.2.1<=s.length/\s.length - y.2.1 < y.1/\y.2.2.length<=y.2.1/\jn s y.1 y.2.1 y.2.2=ed s,fun y=>[(5,.int .i64 (y.2.1:Int)),(4,.lst (.int .i64) y.2.2 (some 701))],fun y=>[(701,.tail (.int .i64) y.2.2.length)],fun y=>s.length - y.2.1⟩)],[],[]⟩ Tryz.func96 (yt s hs (ho _ rfl))
theorem BW:aj Tryz.prog 57 (p1 .str fun s=>⟨some (s.length<=2000000),none,.bool (fI s),[]⟩):=
 ba (ee Tryz.func57) fun s hs ho=>g0 (sc wj sn) ⟨[(2,fun S0=>⟨Nat,fun k=>k<=s.length/\s.all cn=(s.drop k).all cn,fun k=>[(3,.int .i64 k)],fun _=>[],fun k=>s.length - k⟩)],[],[]⟩ Tryz.func57 (E2 s hs (ho _ rfl))
theorem BX:aj Tryz.prog 27 (p1 (.st .term) fun t=>⟨some (t.name.length<=2000000/\t.names.length<=2000000),none,.bool (ai t),[]⟩):=
 ba (ee Tryz.func27) fun t ht ho=>g0 (sc yU (sc wi (sc kT (sc qz (sc yV (sc BW sn)))))) a0 Tryz.func27 (E3 t ht (ho _ rfl))
theorem sf:ax Tryz.prog 14:=ee Tryz.func14
theorem tX (n:Nat) (t:Trm) (ht:Wf (.st .term) t) (hn:szT t<=n+1) (ho:bO t=true) (hA:aj Tryz.prog 14 (p1 (.st .term) fun t=>⟨some (szT t<=n/\bO t=true),none,.bool (allT ai t),[]⟩)):aw Tryz.prog 14 [.st .term t] [] (.ret (.bool (allT ai t))):=
 g0 (sc BX (sc (hA) sn)) ⟨[(4,fun S0=>⟨Nat,fun k=>k<=t.parts.length/\allT ai t=allTL ai (t.parts.drop k),fun k=>[(3,.int .i64 k)],fun _=>[],fun k=>t.parts.length - k⟩)],[],[]⟩ Tryz.func14 (By n t ht hn ho)
theorem yW:∀n:Nat,aj Tryz.prog 14 (p1 (.st .term) fun t=>⟨some (szT t<=n/\bO t=true),none,.bool (allT ai t),[]⟩):=by
 intro n
 induction n with
 | zero=>exact ba sf fun a _ ho=>absurd (ho _ rfl).1 (by have:=fA a;omega)
 | succ n ih=>exact ba sf fun a hs ho=>tX n a hs (ho _ rfl).1 (ho _ rfl).2 ih
theorem wk:ax Tryz.prog 5:=ee Tryz.func5
theorem wm (n:Nat) (s:Trm) (m:Int) (hs:Wf (.st .term) s) (ho:szT s<=n+1/\0<=m/\m<=1000000) (hA:aj Tryz.prog 5 (p2 (.st .term) (.int .i64) fun s m=>⟨some (szT s<=n/\0<=m/\m<=1000000),none,.int .i64 (db s m),[]⟩)):aw Tryz.prog 5 [.st .term s,.int .i64 m] [] (.ret (.int .i64 (db s m))):=
 g0 (sc (hA) sn) ⟨[(3,fun S0=>⟨Nat × Int,fun x=>x.1<=s.parts.length/\1<=x.2/\x.2<=m+1/\sizeTL (s.parts.drop x.1) x.2 m=db s m,fun x=>[(5,.int .i64 x.2),(6,.int .i64 x.1)],fun _=>[],fun x=>s.parts.length - x.1⟩)],[],[]⟩ Tryz.func5 (E4 n s m hs ho)
theorem sg:∀n:Nat,aj Tryz.prog 5 (p2 (.st .term) (.int .i64) fun s m=>⟨some (szT s<=n/\0<=m/\m<=1000000),none,.int .i64 (db s m),[]⟩):=by
 intro n
 induction n with
 | zero=>exact dM wk fun a m _ _ ho=>absurd (ho _ rfl).1 (by have:=fA a;omega)
 | succ n ih=>exact dM wk fun a m ha _ ho=>wm n a m ha (ho _ rfl) ih
theorem wo:ax Tryz.prog 13:=ee Tryz.func13
theorem wq (n:Nat) (s:Trm) (hs:Wf (.st .term) s) (hn:szT s<=n+1) (hb:n<=1000000) (hA:aj Tryz.prog 13 (p1 (.st .term) fun s=>⟨some (szT s<=n),none,.int .i64 (deepT s:Int),[]⟩)):aw Tryz.prog 13 [.st .term s] [] (.ret (.int .i64 (deepT s:Int))):=
 g0 (sc (hA) sn) ⟨[(3,fun S0=>⟨Nat × Int,fun x=>x.1<=s.parts.length/\0<=x.2/\max x.2 (maxDT (s.parts.drop x.1):Int)=maxDT s.parts,fun x=>[(3,.int .i64 x.2),(4,.int .i64 x.1)],fun _=>[],fun x=>s.parts.length - x.1⟩)],[],[]⟩ Tryz.func13 (E5 n s hs hn hb)
theorem BY:∀n:Nat,n<=1000000→aj Tryz.prog 13 (p1 (.st .term) fun s=>⟨some (szT s<=n),none,.int .i64 (deepT s:Int),[]⟩):=by
 intro n
 induction n with
 | zero=>exact fun _=>ba wo fun a _ ho=>absurd (ho _ rfl) (by have:=fA a;omega)
 | succ n ih=>exact fun hb=>ba wo fun a hs ho=>wq n a hs (ho _ rfl) (by omega) (ih (by omega))
theorem yX:aj Tryz.prog 7 (p1 (.st .term) fun s=>⟨some (bO s=true),none,.int .i64 (bw s),[]⟩):=
 ba (ee Tryz.func7) fun s hs ho=>g0 (sc (sg (szT s)) (sc (BY 4096 (by decide)) (sc (yW 4096) sn))) a0 Tryz.func7 (Bz s hs (ho _ rfl))
theorem wu:ax Tryz.prog 42:=ee Tryz.func42
theorem wv (n:Nat) (v:Vlu) (l c:Int) (hs:Wf (.st .val) v) (hn:szV v<=n+1) (hc:0<=c/\c<=2000/\1<=l/\l<=c+1) (hA:aj Tryz.prog 42 (mw 96 n)):aw Tryz.prog 42 [.st .val v,.int .i64 l,.ptr 900 0] [(900,.box (.int .i64 c))] (xY 96 v l c (szV v<=n+1)):=
 g0 (sc (hA) sn) ⟨[(6,fun S0=>⟨Nat × Int,fun x=>x.1<=v.parts.length/\c+1+(szVL (v.parts.take x.1):Int)<=2000/\deepVL (v.parts.drop x.1) (l+1) x.2=deepV v l,fun x=>[(7,.int .i64 x.2),(25,.int .i64 x.1)],fun x=>[(900,.box (.int .i64 (c+1+(szVL (v.parts.take x.1):Int))))],fun x=>v.parts.length - x.1⟩)],[],[]⟩ Tryz.func42 (E6 n v l c hs hn hc)
theorem lu:∀n:Nat,aj Tryz.prog 42 (mw 96 n)
 | 0=>nW wu fun v l c hs hn hc=>absurd hn (by have:=oB v;omega)
 | n+1=>nW wu fun v l c hs hn hc=>wv n v l c hs hn hc (lu n)
theorem tY (v:Vlu) (hs:Wf (.st .val) v) :aw Tryz.prog 23 [.st .val v] [] (.ret (.tup [.int .i64 (if szV v<=2000 then (szV v:Int) else 2001),.int .i64 (if szV v<=2000 then deepV v 1 else 0),.bool (decide (szV v<=2000))])):=
 fwpR_sound (C:=⟨tbl,_,fun _=>false,fun _=>[],fun _=>false,fun _=>false,fun _=>false⟩) (ann:=⟨[],[],[]⟩) (annC:=⟨[],[],[]⟩) mixed vv (jk (lu (szV v)) (kJ)) Tryz.func23 Tryz.func41 (enters_of Tryz.func41 (by kernel_rfl) rfl) (@Eq.mpr _ _ (by kernel_rfl) (BA v hs))
theorem yY:aj Tryz.prog 23 (p1 (.st .val) fun v=>.ret (.tup [.int .i64 (if szV v<=2000 then (szV v:Int) else 2001),.int .i64 (if szV v<=2000 then deepV v 1 else 0),.bool (decide (szV v<=2000))])):=
 ba (ee Tryz.func23) fun v hs _=>tY v hs
theorem wx:aj Tryz.prog 186 (pcl .str 72 fun x=>⟨none,none,.bool (!al x),[]⟩):=
 mZ (ee Tryz.func186) fun x _ ho=>g0 (sc gQ sn) a0 Tryz.func186 (yu x)
theorem wy:aj Tryz.prog 181 (pfc (.lst .str) 186 72 fun l=>⟨none,none,.int .i64 (b8 al l 0),[]⟩):=
 fL (ee Tryz.func181) fun l hl ho=>g0 (sc wx sn) ⟨[(2,fun S0=>⟨Nat,fun k=>k<=l.length/\b8 al (l.drop k) k=b8 al l 0,fun k=>[(8,.int .i64 k)],fun _=>[],fun k=>l.length - k⟩)],[],[]⟩ Tryz.func181 (yw l hl)
theorem wz:aj Tryz.prog 147 (pfc (.lst .str) 186 72 fun l=>⟨none,none,.bool (!l.all al),[]⟩):=
 fL (ee Tryz.func147) fun l _ ho=>g0 (sc wy sn) a0 Tryz.func147 (yx l)
theorem BZ:aj Tryz.prog 151 (pf (.lst .str) 72 fun l=>⟨none,none,.bool (l.all al),[]⟩):=
 lg (ee Tryz.func151) fun l _ ho=>g0 (sc wz sn) a0 Tryz.func151 (E7 l)
theorem yZ:aj Tryz.prog 108 (p1 (.lst .str) fun l=>⟨some (l.length *16<=140737488355328),none,.bool (dR l),[]⟩):=
 ba (ee Tryz.func108) fun l _ ho=>g0 (sc lM (sc (lG) (sc BZ (sc (kd) sn)))) a0 Tryz.func108 (BB l (ho _ rfl))
theorem C0:aj Tryz.prog 63 (p1 (.st .val) fun v=>⟨some (v.names.length *16<=140737488355328),none,.bool (ao v),[]⟩):=
 ba (ee Tryz.func63) fun v hs ho=>g0 (sc yZ (sc gQ (sc kS sn))) a0 Tryz.func63 (E8 v hs (ho _ rfl))
theorem z6:ax Tryz.prog 110:=ee Tryz.func110
theorem ru (n:Nat) (x:Vlu)  (ho:szV x<=n/\cI x=true) (hA:aj Tryz.prog 39 (p1 (.st .val) fun v=>⟨some (szV v<=n/\cI v=true),none,.bool (allV ao v),[]⟩)):aw Tryz.prog 110 [.st .val x,.ptr 900 0] [(900,.box (.fn 39 []))] (⟨some (szV x<=n/\cI x=true),none,.bool (!(allV ao) x),[]⟩):=
 g0 (sc (hA) sn) a0 Tryz.func110 (yy n x ho)
theorem wA (n:Nat) (hA:aj Tryz.prog 39 (p1 (.st .val) fun v=>⟨some (szV v<=n/\cI v=true),none,.bool (allV ao v),[]⟩)):aj Tryz.prog 110 (pcl (.st .val) 39 fun x=>⟨some (szV x<=n/\cI x=true),none,.bool (!(allV ao) x),[]⟩):=
 mZ z6 fun x _ ho=>ru n x (ho _ rfl) hA
theorem z7:ax Tryz.prog 152:=ee Tryz.func152
theorem rv (n:Nat) (l:List Vlu)  (hl:Wf (.lst (.st .val)) l) (ho:∀x∈l,szV x<=n/\cI x=true) (hA:aj Tryz.prog 39 (p1 (.st .val) fun v=>⟨some (szV v<=n/\cI v=true),none,.bool (allV ao v),[]⟩)):aw Tryz.prog 152 [.lst (.st .val) l none,.fn 110 [.ptr 900 0]] [(900,.box (.fn 39 []))] (⟨some (∀x∈l,szV x<=n/\cI x=true),none,.int .i64 (b8 (allV ao) l 0),[]⟩):=
 g0 (sc ((wA n hA)) sn) ⟨[(2,fun S0=>⟨Nat,fun k=>k<=l.length/\b8 (allV ao) (l.drop k) k=b8 (allV ao) l 0,fun k=>[(8,.int .i64 k)],fun _=>[],fun k=>l.length - k⟩)],[],[]⟩ Tryz.func152 (yz n l hl ho)
theorem wB (n:Nat) (hA:aj Tryz.prog 39 (p1 (.st .val) fun v=>⟨some (szV v<=n/\cI v=true),none,.bool (allV ao v),[]⟩)):aj Tryz.prog 152 (pfc (.lst (.st .val)) 110 39 fun l=>⟨some (∀x∈l,szV x<=n/\cI x=true),none,.int .i64 (b8 (allV ao) l 0),[]⟩):=
 fL z7 fun l hl ho=>rv n l hl (ho _ rfl) hA
theorem z8:ax Tryz.prog 109:=ee Tryz.func109
theorem ry (n:Nat) (l:List Vlu)  (ho:∀x∈l,szV x<=n/\cI x=true) (hA:aj Tryz.prog 39 (p1 (.st .val) fun v=>⟨some (szV v<=n/\cI v=true),none,.bool (allV ao v),[]⟩)):aw Tryz.prog 109 [.lst (.st .val) l none,.fn 110 [.ptr 900 0]] [(900,.box (.fn 39 []))] (⟨some (∀x∈l,szV x<=n/\cI x=true),none,.bool (!l.all (allV ao)),[]⟩):=
 g0 (sc ((wB n hA)) sn) a0 Tryz.func109 (yA n l ho)
theorem wC (n:Nat) (hA:aj Tryz.prog 39 (p1 (.st .val) fun v=>⟨some (szV v<=n/\cI v=true),none,.bool (allV ao v),[]⟩)):aj Tryz.prog 109 (pfc (.lst (.st .val)) 110 39 fun l=>⟨some (∀x∈l,szV x<=n/\cI x=true),none,.bool (!l.all (allV ao)),[]⟩):=
 fL z8 fun l _ ho=>ry n l (ho _ rfl) hA
theorem El:ax Tryz.prog 64:=ee Tryz.func64
theorem wD (n:Nat) (l:List Vlu)  (ho:∀x∈l,szV x<=n/\cI x=true) (hA:aj Tryz.prog 39 (p1 (.st .val) fun v=>⟨some (szV v<=n/\cI v=true),none,.bool (allV ao v),[]⟩)):aw Tryz.prog 64 [.lst (.st .val) l none,.fn 39 []] [] (⟨some (∀x∈l,szV x<=n/\cI x=true),none,.bool (l.all (allV ao)),[]⟩):=
 g0 (sc ((wC n hA)) sn) a0 Tryz.func64 (E9 n l ho)
theorem C1 (n:Nat) (hA:aj Tryz.prog 39 (p1 (.st .val) fun v=>⟨some (szV v<=n/\cI v=true),none,.bool (allV ao v),[]⟩)):aj Tryz.prog 64 (pf (.lst (.st .val)) 39 fun l=>⟨some (∀x∈l,szV x<=n/\cI x=true),none,.bool (l.all (allV ao)),[]⟩):=
 lg El fun l _ ho=>wD n l (ho _ rfl) hA
theorem qH:ax Tryz.prog 39:=ee Tryz.func39
theorem rz (n:Nat) (v:Vlu) (hs:Wf (.st .val) v) (ho:szV v<=n+1/\cI v=true) (hE:aj Tryz.prog 64 (pf (.lst (.st .val)) 39 fun l=>⟨some (∀x∈l,szV x<=n/\cI x=true),none,.bool (l.all (allV ao)),[]⟩)):aw Tryz.prog 39 [.st .val v] [] (⟨some (szV v<=n+1/\cI v=true),none,.bool (allV ao v),[]⟩):=
 g0 (sc C0 (sc (hE) sn)) a0 Tryz.func39 (yB n v hs ho)
theorem jy:∀n:Nat,aj Tryz.prog 39 (p1 (.st .val) fun v=>⟨some (szV v<=n/\cI v=true),none,.bool (allV ao v),[]⟩)
 | 0=>ba qH fun v _ ho=>absurd (ho _ rfl).1 (by have:=oB v;omega)
 | n+1=>ba qH fun v hs ho=>rz n v hs (ho _ rfl) (C1 n (jy n))
theorem za:aj Tryz.prog 21 (p1 (.st .val) fun v=>⟨some (cI v=true),none,.int .i64 (oc v),[]⟩):=
 ba (ee Tryz.func21) fun v hs ho=>g0 (sc yY (sc (jy 2000) sn)) a0 Tryz.func21 (BC v hs (ho _ rfl))
theorem mz:aj Tryz.prog 37 (p4 (.pt .scope) .str .str (.st .thing) fun s o n w=>.ret (.pt .scope (cM s o n w))):=
 Hc (ee Tryz.func37) fun s o n w hs ho hn _=>g1 nn (fun _=>[]) nn (fun d=>Nat.beq d 14) nn sn a0 Tryz.func37 (FC s o n w hs ho hn)
theorem Em:aj Tryz.prog 34 (p3 (.pt .scope) .str .str fun s o n=>.ret (.pt .scope (findF s o n))):=
 CH (ee Tryz.func34) fun s o n hs ho hn _=>g0 sn ⟨[(1,fun S0=>⟨Option Scp,fun x=>findF x o n=findF s o n,fun x=>[(0,.pt .scope x)],fun _=>[],fun x=>tC x⟩)],[],[]⟩ Tryz.func34 (FD s o n hs ho hn)
theorem sh:aj Tryz.prog 33 (p1 .bool fun b=>.ret (.st .thing (kW b))):=
 ba (ee Tryz.func33) fun b _ _=>g0 sn a0 Tryz.func33 (Ea b)
theorem iQ:aj Tryz.prog 32 (p2 (.int .i64) (.int .i64) fun e a=>⟨none,some (true,.iface 77 (.agg [.int .i64 e,.int .i64 a]),[]),.tup [],[]⟩):=
 dM (ee Tryz.func32) fun e a _ _ _=>g0 sn a0 Tryz.func32 (FE e a)
theorem En:aj Tryz.prog 106 (p3 (.int .i64) (.lst (.st .thing)) (.int .i64) fun k l a=>⟨none,some (!dx k l,.iface 77 (.agg [.int .i64 291,.int .i64 a]),[]),.tup [],[]⟩):=
 CH (ee Tryz.func106) fun k l a _ hl _ _=>g0 (sc iQ sn) ⟨[(1,fun S0=>⟨Nat,fun i=>i<=l.length/\dx k (l.take i)=true,fun i=>[(10,.int .i64 i)],fun _=>[],fun i=>l.length - i⟩)],[],[]⟩ Tryz.func106 (FF k l a hl)
theorem C2:aj Tryz.prog 61 (p3 .str (.lst (.st .thing)) (.int .i64) fun nm l a=>bsA 77 ((an nm l a).isSome=true) (ah (an nm l a))):=
 CH (ee Tryz.func61) fun nm l a hnm hl ha ho=>g1 nn (fun _=>[]) nn (fun d=>Nat.beq d 32 || Nat.beq d 98 || Nat.beq d 104 || Nat.beq d 110) nn (sc iQ (sc En (sc sh (sc (rf) sn)))) a0 Tryz.func61 (Eb nm l a hnm hl ha (ho _ rfl))
theorem FL:ax Tryz.prog 36:=ee Tryz.func36
theorem zb (n:Nat) (l:List Trm) (p:Plc) (st mo:Int) (hl:Wf (.lst (.st .term)) l) (hp:Wf (.st .plc) p) (ho:(ay (fun x=>ab mo n x p) l st).isSome=true) (hE:aj Tryz.prog 19 (pE (.pt .term) fun t p st mo=>lK 77 mo (t.isSome=true/\(ab mo n (t.getD default) p st).isSome=true) (ah (ab mo n (t.getD default) p st)))):aw Tryz.prog 36 [.ptr 900 0,.lst (.st .term) l none,.st .plc p] (B6 st mo) (evLA 77 mo ((ay (fun x=>ab mo n x p) l st).isSome=true) (ct (ay (fun x=>ab mo n x p) l st))):=
 g0 (sc (hE) sn) ⟨[(3,fun S0=>⟨Nat × List Thg × Int,fun x=>x.1<=l.length/\x.2.1.length=x.1/\ig (fun y=>ab mo n y p) (l.drop x.1) x.2.1 x.2.2=ay (fun x=>ab mo n x p) l st,fun x=>[(14,.int .i64 x.1),(7,.lst (.st .thing) x.2.1 (some 11))],fun x=>[(11,.tail (.st .thing) x.2.1.length),(900,.box (.agg [.int .i64 x.2.2,.int .i64 mo]))],fun x=>l.length - x.1⟩)],[],[]⟩ Tryz.func36 (FH n l p st mo hl hp ho)
theorem Eo (n:Nat) (hE:aj Tryz.prog 19 (pE (.pt .term) fun t p st mo=>lK 77 mo (t.isSome=true/\(ab mo n (t.getD default) p st).isSome=true) (ah (ab mo n (t.getD default) p st)))):aj Tryz.prog 36 (pE (.lst (.st .term)) fun l p st mo=>evLA 77 mo ((ay (fun x=>ab mo n x p) l st).isSome=true) (ct (ay (fun x=>ab mo n x p) l st))):=
 zS FL fun l p st mo hl hp ho=>zb n l p st mo hl hp (ho _ rfl) hE
theorem Ep:ax Tryz.prog 35:=ee Tryz.func35
theorem wE (n:Nat) (t:Trm) (l:List Thg) (st mo:Int) (ht:Wf (.st .term) t) (hl:Wf (.lst (.st .thing)) l) (ho:(bC (ab mo n) mo t.pos l st).isSome=true) (hE:aj Tryz.prog 19 (pE (.pt .term) fun t p st mo=>lK 77 mo (t.isSome=true/\(ab mo n (t.getD default) p st).isSome=true) (ah (ab mo n (t.getD default) p st)))):aw Tryz.prog 35 [.ptr 900 0,.pt .term (some t),.lst (.st .thing) l none] (B6 st mo) (lK 77 mo ((bC (ab mo n) mo t.pos l st).isSome=true) (ah (bC (ab mo n) mo t.pos l st))):=
 g0 (sc (hE) (sc iQ (sc C2 (sc (mz) sn)))) ⟨[(11,fun S0=>⟨Nat × Option Scp,fun x=>x.1<=(fcn l).names.length/\dj x.2 ((fcn l).names.drop x.1) (l.drop (x.1+1))=dj (fcn l).scp (fcn l).names (l.drop 1),fun x=>[(78,.int .i64 x.1)],fun x=>[(8,.box (.agg [.pt .scope x.2,.str (fcn l).self]))],fun x=>(fcn l).names.length - x.1⟩)],[],[]⟩ Tryz.func35 (Ec n t l st mo ht hl ho)
theorem C3 (n:Nat) (hE:aj Tryz.prog 19 (pE (.pt .term) fun t p st mo=>lK 77 mo (t.isSome=true/\(ab mo n (t.getD default) p st).isSome=true) (ah (ab mo n (t.getD default) p st)))):aj Tryz.prog 35 (pEc fun t l st mo=>lK 77 mo ((bC (ab mo n) mo t.pos l st).isSome=true) (ah (bC (ab mo n) mo t.pos l st))):=
 GH Ep fun t l st mo ht hl ho=>wE n t l st mo ht hl (ho _ rfl) hE
theorem zc:ax Tryz.prog 38:=ee Tryz.func38
theorem rA (n:Nat) (t:Trm) (p:Plc) (st mo:Int) (ht:Wf (.st .term) t) (hp:Wf (.st .plc) p) (ho:(au (ab mo n) t p st).isSome=true) (hE:aj Tryz.prog 19 (pE (.pt .term) fun t p st mo=>lK 77 mo (t.isSome=true/\(ab mo n (t.getD default) p st).isSome=true) (ah (ab mo n (t.getD default) p st)))):aw Tryz.prog 38 [.ptr 900 0,.pt .term (some t),.st .plc p] (B6 st mo) (lK 77 mo ((au (ab mo n) t p st).isSome=true) (ah (au (ab mo n) t p st))):=
 g0 (sc (hE) (sc iQ (sc (yG) (sc (mz) sn)))) a0 Tryz.func38 (yC n t p st mo ht hp ho)
theorem wF (n:Nat) (hE:aj Tryz.prog 19 (pE (.pt .term) fun t p st mo=>lK 77 mo (t.isSome=true/\(ab mo n (t.getD default) p st).isSome=true) (ah (ab mo n (t.getD default) p st)))):aj Tryz.prog 38 (pE (.pt .term) fun t p st mo=>lK 77 mo (t.isSome=true/\(au (ab mo n) (t.getD default) p st).isSome=true) (ah (au (ab mo n) (t.getD default) p st))):=
 zS zc fun t p st mo ht hp ho=>by
  obtain ⟨h1,h2⟩:=ho _ rfl
  obtain ⟨x,rfl⟩:=Option.isSome_iff_exists.1 h1
  exact rA n x p st mo (Wf.pt ht) hp h2 hE
theorem wG:ax Tryz.prog 19:=ee Tryz.func19
theorem wH (n:Nat) (t:Trm) (p:Plc) (st mo:Int) (ht:Wf (.st .term) t) (hp:Wf (.st .plc) p) (ho:(ab mo (n+1) t p st).isSome=true) (hE:aj Tryz.prog 19 (pE (.pt .term) fun t p st mo=>lK 77 mo (t.isSome=true/\(ab mo n (t.getD default) p st).isSome=true) (ah (ab mo n (t.getD default) p st)))):aw Tryz.prog 19 [.ptr 900 0,.pt .term (some t),.st .plc p] (B6 st mo) (lK 77 mo ((ab mo (n+1) t p st).isSome=true) (ah (ab mo (n+1) t p st))):=
 g1 nn (fun _=>[]) nn (fun d=>Nat.beq d 78) nn (sc (hE) (sc iQ (sc sh (sc Em (sc (mz) (sc (Eo n hE) (sc (C3 n hE) (sc (wF n hE) sn)))))))) a0 Tryz.func19 (Ed n t p st mo ht hp ho)
theorem nk:∀n:Nat,aj Tryz.prog 19 (pE (.pt .term) fun t p st mo=>lK 77 mo (t.isSome=true/\(ab mo n (t.getD default) p st).isSome=true) (ah (ab mo n (t.getD default) p st)))
 | 0=>zS wG fun t p st mo ht hp ho=>absurd (ho _ rfl).2 (by show ¬(none:Option Ev).isSome=true;decide)
 | n+1=>zS wG fun t p st mo ht hp ho=>by
  obtain ⟨h1,h2⟩:=ho _ rfl
  obtain ⟨x,rfl⟩:=Option.isSome_iff_exists.1 h1
  exact wH n x p st mo (Wf.pt ht) hp h2 (nk n)
theorem zd:aj Tryz.prog 20 (p0 (.ret (.pt .scope bR))):=
 G3 (ee Tryz.func20) (g1 nn (fun _=>[]) nn (fun d=>Nat.beq d 16 || Nat.beq d 30) nn (sc (mz) sn) ⟨[(3,fun S0=>⟨Nat,fun k=>k<=7,fun k=>[(8,.int .i64 k),(1,.pt .scope ((two.take k).foldl (dO 2) none))],fun _=>[],fun k=>7 - k⟩),(8,fun S0=>⟨Nat,fun k=>k<=3,fun k=>[(22,.int .i64 k),(1,.pt .scope ((ie.take k).foldl (dO 1) (two.foldl (dO 2) none)))],fun _=>[],fun k=>3 - k⟩)],[],[]⟩ Tryz.func20 (BD))
theorem A5:ax Tryz.prog 31:=ee Tryz.func31
theorem ze (n:Nat) (x:Thg) (r:Int) (hx:Wf (.st .thing) x) (ho:(aX (n+1) x r).isSome=true) (hA:aj Tryz.prog 31 (kO n)):aw Tryz.prog 31 [.st .thing x,.ptr 900 0] [(900,.box (.int .i64 r))] (Dn ((aX (n+1) x r).isSome=true) (dm (aX (n+1) x r))):=
 g0 (sc (B3) (sc (hA) sn)) ⟨[(8,fun S0=>⟨Nat × List Vlu × Int,fun y=>y.1<=x.parts.length/\y.2.1.length=y.1/\gK (aX n) (x.parts.drop y.1) y.2.1 y.2.2=gK (aX n) x.parts [] (r - 1),fun y=>[(45,.int .i64 y.1)],fun y=>[(6,.box (.agg [.int .i64 x.kind,.int .i64 (fnN x),.str x.pkg,.str x.text,.lst .str x.names none,.lst (.st .val) y.2.1 (some 701)])),(701,.tail (.st .val) y.2.1.length),(900,.box (.int .i64 y.2.2))],fun y=>x.parts.length - y.1⟩)],[],[(100007,fun S0=>⟨[],[(6,.box (.agg [.int .i64 x.kind,.int .i64 (fnN x),.str x.pkg,.str x.text,.lst .str x.names none,.nils]))]⟩)]⟩ Tryz.func31 (FI n x r hx ho)
theorem qI:∀n:Nat,aj Tryz.prog 31 (kO n)
 | 0=>qo A5 fun x r hx ho=>by cases ho
 | n+1=>qo A5 fun x r hx ho=>ze n x r hx ho (qI n)
theorem C4:ax Tryz.prog 18:=ee Tryz.func18
theorem tZ (m:Nat) (x:Thg) (a:Int) (hx:Wf (.st .thing) x) (ho:(ck m x a).isSome=true) (hA:aj Tryz.prog 31 (kO m)):aw Tryz.prog 18 [.st .thing x,.int .i64 a] [] (swA 77 ((ck m x a).isSome=true) (kn (ck m x a))):=
 g0 (sc (hA) (sc (za) (sc iQ sn))) a0 Tryz.func18 (BE m x a hx ho)
theorem qJ (m:Nat) (hA:aj Tryz.prog 31 (kO m)):aj Tryz.prog 18 (p2 (.st .thing) (.int .i64) fun x a=>swA 77 ((ck m x a).isSome=true) (kn (ck m x a))):=
 dM C4 fun x a hx _ ho=>tZ m x a hx (ho _ rfl) hA
theorem FM:ax Tryz.prog 17:=ee Tryz.func17
theorem zf (n m:Nat) (t:Trm) (mo:Int) (ht:Wf (.st .term) t) (ho:(bM n m t mo).isSome=true) (hE:aj Tryz.prog 19 (pE (.pt .term) fun t p st mo=>lK 77 mo (t.isSome=true/\(ab mo n (t.getD default) p st).isSome=true) (ah (ab mo n (t.getD default) p st)))) (hS:aj Tryz.prog 18 (p2 (.st .thing) (.int .i64) fun x a=>swA 77 ((ck m x a).isSome=true) (kn (ck m x a)))):aw Tryz.prog 17 [.ptr 900 0,.cptr (.st .term t),.ptr 901 0] (rnS 0 mo) (GL 77 mo ((bM n m t mo).isSome=true) (aM (bM n m t mo))):=
 g0 (sc (zd) (sc (hE) (sc (hS) sn))) a0 Tryz.func17 (FJ n m t mo ht ho)
theorem wI (n m:Nat) (hE:aj Tryz.prog 19 (pE (.pt .term) fun t p st mo=>lK 77 mo (t.isSome=true/\(ab mo n (t.getD default) p st).isSome=true) (ah (ab mo n (t.getD default) p st)))) (hS:aj Tryz.prog 18 (p2 (.st .thing) (.int .i64) fun x a=>swA 77 ((ck m x a).isSome=true) (kn (ck m x a)))):aj Tryz.prog 17 (vD 77 n m):=
 Dp FM fun t mo ht ho=>zf n m t mo ht ho hE hS
theorem C5:ax Tryz.prog 16:=ee Tryz.func16
theorem u9 (n m:Nat) (t:Trm) (mo:Int) (ht:Wf (.st .term) t) (ho:(bM n m t mo).isSome=true) (hA:aj Tryz.prog 17 (vD 77 n m)):aw Tryz.prog 16 [.fn 17 [.ptr 900 0,.cptr (.st .term t),.ptr 901 0]] (rnS 0 mo) (GM mo ((bM n m t mo).isSome=true) (aM (bM n m t mo))):=
 fwpR_sound (C:=⟨tbl,_,fun _=>false,fun _=>[],fun _=>false,fun _=>false,fun _=>false⟩) (ann:=⟨[],[],[]⟩) (annC:=⟨[],[],[]⟩) mixed vv (jk (hA) (kJ)) Tryz.func16 Tryz.func30 (enters_of Tryz.func30 (by kernel_rfl) rfl) (@Eq.mpr _ _ (by kernel_rfl) (BF n m t mo ht ho))
theorem qK (n m:Nat) (hA:aj Tryz.prog 17 (vD 77 n m)):aj Tryz.prog 16 (Dq 17 n m):=
 Fk C5 fun t mo ht ho=>u9 n m t mo ht ho hA
theorem GR:ax Tryz.prog 8:=ee Tryz.func8
theorem si (n m:Nat) (t:Trm) (k:Int) (ht:Wf (.st .term) t) (hk:Wf (.int .i64) k) (hf:bF t=true) (ho:(aY n m t k).isSome=true) (hC:aj Tryz.prog 16 (Dq 17 n m)):aw Tryz.prog 8 [.st .term t,.int .i64 k] [] (⟨some (bF t=true/\(aY n m t k).isSome=true),none,.tup [.st .val (aM (aY n m t k)).v,.int .i64 (aM (aY n m t k)).st,.st .fault (aM (aY n m t k)).f],[]⟩):=
 g0 (sc (qF) (sc (hC) sn)) ⟨[],[(8,[2])],[]⟩ Tryz.func8 (GQ n m t k ht hk hf ho)
theorem FN (n m:Nat) (hC:aj Tryz.prog 16 (Dq 17 n m)):aj Tryz.prog 8 (p2 (.st .term) (.int .i64) fun t k=>⟨some (bF t=true/\(aY n m t k).isSome=true),none,.tup [.st .val (aM (aY n m t k)).v,.int .i64 (aM (aY n m t k)).st,.st .fault (aM (aY n m t k)).f],[]⟩):=
 dM GR fun t k ht hk ho=>si n m t k ht hk (ho _ rfl).1 (ho _ rfl).2 hC
theorem qL:ax Tryz.prog 9:=ee Tryz.func9
theorem rB (n:Nat) (a:Vlu) (ha:Wf (.st .val) a) (hz:szV a<=n+1) (hA:aj Tryz.prog 9 (p2 (.st .val) (.st .val) fun a b=>⟨some (a=b/\szV a<=n),none,.bool true,[]⟩)):aw Tryz.prog 9 [.st .val a,.st .val a] [] (.ret (.bool true)):=
 g0 (sc (hA) sn) ⟨[(4,fun S0=>⟨Nat,fun k=>k<=a.names.length,fun k=>[(5,.int .i64 k)],fun _=>[],fun k=>a.names.length - k⟩),(9,fun S0=>⟨Nat,fun k=>k<=a.parts.length,fun k=>[(6,.int .i64 k)],fun _=>[],fun k=>a.parts.length - k⟩)],[],[]⟩ Tryz.func9 (yD n a ha hz)
theorem jz:∀n:Nat,aj Tryz.prog 9 (p2 (.st .val) (.st .val) fun a b=>⟨some (a=b/\szV a<=n),none,.bool true,[]⟩)
 | 0=>dM qL fun a b _ _ ho=>absurd (ho _ rfl).2 (by have:=oB a;omega)
 | n+1=>dM qL fun a b ha _ ho=>by
  obtain ⟨rfl,h⟩:=ho _ rfl
  exact rB n a ha h (jz n)
theorem nr (n m:Nat) (t:Trm) (nm:Str) (k:Int) (ht:Wf (.st .term) t) (hm:Wf .str nm) (hk:Wf (.int .i64) k) (h1:bO (kY nm t)=true) (h2:bO (gL t)=true) (f0:bF t=true) (f1:bF (kY nm t)=true) (f2:bF (gL t)=true) (hq:0<=k→k < 2000→bw (kY nm t)=0→bw (gL t)=0→xZ n m t nm k) (hR:aj Tryz.prog 8 (p2 (.st .term) (.int .i64) fun t k=>⟨some (bF t=true/\(aY n m t k).isSome=true),none,.tup [.st .val (aM (aY n m t k)).v,.int .i64 (aM (aY n m t k)).st,.st .fault (aM (aY n m t k)).f],[]⟩)) (hW:aj Tryz.prog 6 (p0 (.ret (.bool true)))):aw Tryz.prog 3 [.st .term t,.str nm,.int .i64 k] [] (.ret (.bool true)):=
 g0 (sc (hW) (sc (sg (szT t)) (sc yX (sc (hR) (sc (jz 2000) sn))))) a0 Tryz.func3 (ri n m t nm k ht hm hk h1 h2 f0 f1 f2 hq)
end Go.AL.Seat
end
noncomputable section
namespace Go.AL.Seat
open Go Go.AL Go.Proofs Go.Shelf Go.Pd
variable [Tabs]
def GS (t:Str):Bool:=!t.isEmpty && decide (t.length<=15) && t.all fun c=>decide (48<=c.toNat) && decide (c.toNat<=57)
theorem FO {t:Str} (h:GS t=true):rR t:=by
 unfold GS at h
 simp only [Bool.and_eq_true,Bool.not_eq_true',decide_eq_true_eq,List.all_eq_true] at h
 exact ⟨fun e=>(by rw [e] at h;exact absurd h.1.1 (by decide)),h.1.2,h.2⟩
def qM:List (Nat × Pat):=
 [(111,p1 .str fun s=>.ret (.tup [.int .i32 ((jl s).1:Int),.int .i64 ((jl s).2:Int)])),
  (125,p2 .str (.int .u8) fun a c=>.ret (.int .i64 (CQ a c))),
  (76,q2 .str .str (fun _ b=>decide (b=pQ)) fun a _=>.str (pR a)),
  (120,q2 .str .str (fun a b=>decide (b=[45]) && decide (a.length < 4294967281)) fun a _=>.tup [.str (ic a),.str (lH a),.bool (n5 a)]),
  (121,q2 .str .str (fun a b=>decide (b=[46]) && decide (a.length < 4294967281)) fun a _=>.lst .str (splitB 46 a) none),
  (127,q2 .str .str (fun _ b=>decide (b.length=1)) fun a b=>.bool (decide (b.getD 0 0∈a))),
  (123,q1 .str GS fun t=>.tup [.int .i64 (lk t),.nilif]),
  (72,p1 .str fun s=>.ret (.bool (al s))),(73,p1 .str fun s=>.ret (.bool (aD s))),
  (129,p1 (.st .shape) fun s=>.ret (.int .i64 (cb s))),
  (15,q1 (.st .term) bF fun t=>.int .i64 (bw t))]
theorem iR [SeatLaid] [SeatPow]:bJ Tryz.prog (dL qM):=
 sc q8 (sc rh (sc (vu CX fun _ _ h=>Xo h)
  (sc (vu F3 fun _ _ h=>by rw [Bool.and_eq_true] at h;exact ⟨Xo h.1,Xo h.2⟩)
  (sc (vu AQ fun _ _ h=>by rw [Bool.and_eq_true] at h;exact ⟨Xo h.1,Xo h.2⟩)
  (sc (vu tx fun _ _ h=>Xo h) (sc (G1 CP fun _ h=>FO h)
  (sc gQ (sc kS (sc s9 (sc (G1 qF fun _ h=>h) sn))))))))))
end Go.AL.Seat
end
noncomputable section
namespace Go.AL.Seat
open Go Go.AL Go.Proofs
variable [Tabs]
def bd:List (Nat × TR):=[(3,r2),(9,r9),(26,⟨.strct false [(0,3),(1,9),(2,9),(3,3),(4,22),(5,22),(6,23),(7,24),(8,3)],9,152,[.int .i64 0,.str [],.str [],.int .i64 0,.nils,.nils,.nils,.nils,.int .i64 0],some (.st .term)⟩),(115,⟨.strct false [(0,113)],4,48,[.nils,.int .i64 0,.int .i64 0,.int .i64 0],some (.st .par)⟩),(110,⟨.ptr 115,1,8,[.nilp],none⟩),(5,r5),(109,⟨.strct true [(0,3),(1,9),(2,3)],3,32,[.int .i64 0,.str [],.int .i64 0],some (.st .token)⟩),(35,⟨.strct true [(0,33),(1,3)],2,16,[.int .i64 0,.int .i64 0],some (.st .fault)⟩),(93,⟨.strct false [(0,3),(1,9),(2,9),(3,22),(4,23)],5,88,[.int .i64 0,.str [],.str [],.nils,.nils],some (.st .shape)⟩),(103,Fg),(22,⟨.slice 9,1,24,[.nils],some (.lst .str)⟩),(101,Ff),(23,⟨.slice 93,1,24,[.nils],some (.lst (.st .shape))⟩),(24,⟨.slice 26,1,24,[.nils],some (.lst (.st .term))⟩),(113,⟨.strct false [(0,68),(1,3),(2,35)],4,48,[.nils,.int .i64 0,.int .i64 0,.int .i64 0],some (.st .par)⟩),(33,r2),(68,⟨.slice 109,1,24,[.nils],some (.lst (.st .token))⟩),(134,⟨.strct true [(0,3),(1,3),(2,3),(3,9)],4,40,[.int .i64 0,.int .i64 0,.int .i64 0,.str []],some (.st .version)⟩),(4,⟨.bool,1,1,[.bool false],some .bool⟩),(99,⟨.ptr 103,1,8,[.nilp],none⟩),(1,r1),(140,r1),(127,⟨.slice 3,1,24,[.nils],some (.lst (.int .i64))⟩),(169,⟨.arr 3 3,3,24,[.int .i64 0,.int .i64 0,.int .i64 0],none⟩),(175,⟨.slice 5,1,24,[.nils],some (.lst (.int .u8))⟩),(21,r21),(92,⟨.strct false [(0,3),(1,9),(2,9),(3,22),(4,23)],5,88,[.int .i64 0,.str [],.str [],.nils,.nils],none⟩),(133,⟨.strct true [(0,3),(1,3),(2,3),(3,9)],4,40,[.int .i64 0,.int .i64 0,.int .i64 0,.str []],none⟩),(112,⟨.strct false [(0,68),(1,3),(2,35)],4,48,[.nils,.int .i64 0,.int .i64 0,.int .i64 0],none⟩),(114,⟨.strct false [(0,113)],4,48,[.nils,.int .i64 0,.int .i64 0,.int .i64 0],none⟩),(108,⟨.strct true [(0,3),(1,9),(2,3)],3,32,[.int .i64 0,.str [],.int .i64 0],none⟩),(102,Fg),(100,Ff),(34,⟨.strct true [(0,33),(1,3)],2,16,[.int .i64 0,.int .i64 0],none⟩),(25,⟨.strct false [(0,3),(1,9),(2,9),(3,3),(4,22),(5,22),(6,23),(7,24),(8,3)],9,152,[.int .i64 0,.str [],.str [],.int .i64 0,.nils,.nils,.nils,.nils,.int .i64 0],none⟩)]
theorem iS:aU Tryz.prog bd:=.cons tk (.cons tk (.cons tk (.cons tk (.cons tk (.cons tk (.cons tk (.cons tk (.cons tk (.cons tk (.cons tk (.cons tk (.cons tk (.cons tk (.cons tk (.cons tk (.cons tk (.cons tk (.cons tk (.cons tk (.cons tk (.cons tk (.cons tk (.cons tk (.cons tk (.cons tk (.cons tk (.cons tk (.cons tk (.cons tk (.cons tk (.cons tk (.cons tk (.cons tk (.cons tk (.nil)))))))))))))))))))))))))))))))))))
end Go.AL.Seat
end
noncomputable section
namespace Go.AL.Seat
open Go Go.AL Go.Proofs
set_option maxRecDepth 1000000
variable [Tabs]
def nt (f:Nat):List (Option Nat):=if Nat.beq f 43 || Nat.beq f 44 then [some 2] else []
def nu (f:Nat):Bool:=false
def gR:List (Nat × FB):=(12,cd bd Tryz.f12 4362109181 [] (fun _=>false) (fun _=>false) (fun _=>false) false) ::(24,cd bd Tryz.f24 77975715369647181664879229 [] (fun _=>false) (fun _=>false) (fun _=>false) false) ::(25,cd bd Tryz.f25 9016029707634675 [] (fun _=>false) (fun _=>false) (fun _=>false) false) ::(26,cd bd Tryz.f26 531 [] (fun _=>false) (fun _=>false) (fun _=>false) false) ::(43,cd bd Tryz.f43 65555 [] (fun _=>false) (fun _=>false) (fun _=>false) false) ::(44,cd bd Tryz.f44 4294967347 [] (fun _=>false) (fun _=>false) (fun _=>false) false) ::(45,cd bd Tryz.f45 5 [] (fun _=>false) (fun _=>false) (fun _=>false) false) ::(46,cd bd Tryz.f46 8388935 [] (fun _=>false) (fun _=>false) (fun _=>false) false) ::(47,cd bd Tryz.f47 87112288527988523651034566703108870643455 [] (fun _=>false) (fun _=>false) (fun d=>Nat.beq d 21) false) ::(48,cd bd Tryz.f48 33816627 [] (fun _=>false) (fun _=>false) (fun _=>false) false) ::(49,cd bd Tryz.f49 5 [] (fun _=>false) (fun _=>false) (fun _=>false) false) ::(50,cd bd Tryz.f50 268439557 [] (fun _=>false) (fun _=>false) (fun _=>false) false) ::(51,cd bd Tryz.f51 81129648086015544455969055506495 [] (fun _=>false) (fun _=>false) (fun _=>false) false) ::(52,cd bd Tryz.f52 263 [] (fun _=>false) (fun _=>false) (fun _=>false) false) ::(65,cd bd Tryz.f65 549890048253 [] (fun _=>false) (fun _=>false) (fun _=>false) false) ::(66,cd bd Tryz.f66 71 [] (fun _=>false) (fun _=>false) (fun _=>false) false) ::(67,cd bd Tryz.f67 79 [] (fun _=>false) (fun _=>false) (fun _=>false) false) ::(68,cd bd Tryz.f68 5 [] (fun _=>false) (fun _=>false) (fun _=>false) false) ::(69,cd bd Tryz.f69 5 [] (fun _=>false) (fun _=>false) (fun _=>false) false) ::(70,cd bd Tryz.f70 5 [] (fun _=>false) (fun _=>false) (fun _=>false) false) ::(71,cd bd Tryz.f71 29 [] (fun _=>false) (fun _=>false) (fun _=>false) false) ::(74,cd bd Tryz.f74 5 [] (fun _=>false) (fun _=>false) (fun _=>false) false) ::(75,cd bd Tryz.f75 5 [] (fun _=>false) (fun _=>false) (fun _=>false) false) ::(77,cd bd Tryz.f77 151115799509488183025661 [] (fun _=>false) (fun _=>false) (fun _=>false) false) ::(78,cd bd Tryz.f78 618970019647202533975261693 [] (fun _=>false) (fun _=>false) (fun _=>false) false) ::(79,cd bd Tryz.f79 29 [] (fun _=>false) (fun _=>false) (fun _=>false) false) ::(80,cd bd Tryz.f80 3 [] (fun d=>Nat.beq d 8) (fun _=>false) (fun _=>false) false) ::(81,cd bd Tryz.f81 7 [] (fun d=>Nat.beq d 15) (fun _=>false) (fun _=>false) false) ::(84,cd bd Tryz.f84 275 [] (fun _=>false) (fun _=>false) (fun _=>false) false) ::(82,cd bd Tryz.f82 131 [] (fun _=>false) (fun _=>false) (fun _=>false) false) ::(86,cd bd Tryz.f86 7 [] (fun _=>false) (fun _=>false) (fun _=>false) false) ::(85,cd bd Tryz.f85 271375 [] (fun _=>false) (fun _=>false) (fun _=>false) false) ::(88,cd bd Tryz.f88 32819 [] (fun _=>false) (fun _=>false) (fun _=>false) false) ::(89,cd bd Tryz.f89 15 [] (fun _=>false) (fun _=>false) (fun _=>false) false) ::(90,cd bd Tryz.f90 17180524607 [] (fun _=>false) (fun _=>false) (fun _=>false) false) ::(122,cd bd Tryz.f122 5 [] (fun _=>false) (fun _=>false) (fun _=>false) false) ::(124,cd bd Tryz.f124 9316337836119 [] (fun _=>false) (fun _=>false) (fun _=>false) false) ::(126,cd bd Tryz.f126 5 [] (fun _=>false) (fun _=>false) (fun _=>false) false) ::(83,cd bd Tryz.f83 2228285 [] (fun _=>false) (fun _=>false) (fun _=>false) false) ::(130,cd bd Tryz.f130 51 [] (fun _=>false) (fun _=>false) (fun _=>false) false) ::(87,cd bd Tryz.f87 65587 [] (fun _=>false) (fun _=>false) (fun _=>false) false) ::(132,cd bd Tryz.f132 23945973599159813139139346461134680183357916012085311 [] (fun _=>false) (fun _=>false) (fun _=>false) false) ::(133,cd bd Tryz.f133 3 [] (fun d=>Nat.beq d 8) (fun _=>false) (fun _=>false) false) ::(161,cd bd Tryz.f161 18014398524686365 [] (fun _=>false) (fun _=>false) (fun _=>false) false) ::(128,cd bd Tryz.f128 324677087359430077278579446644799 [] (fun d=>Nat.beq d 129) (fun _=>false) (fun _=>false) false) ::(131,cd bd Tryz.f131 19 [] (fun _=>false) (fun _=>false) (fun _=>false) false) ::(171,cd bd Tryz.f171 3 [] (fun d=>Nat.beq d 23) (fun _=>false) (fun _=>false) false) ::(172,cd bd Tryz.f172 13 [] (fun _=>false) (fun _=>false) (fun _=>false) false) ::(164,cd bd Tryz.f164 7 [] (fun d=>Nat.beq d 21) (fun _=>false) (fun _=>false) false) ::(166,cd bd Tryz.f166 149971 [] (fun _=>false) (fun _=>false) (fun _=>false) false) ::(167,cd bd Tryz.f167 3 [] (fun d=>Nat.beq d 8) (fun _=>false) (fun _=>false) false) ::(62,cd bd Tryz.f62 66483 [] (fun _=>false) (fun _=>false) (fun _=>false) false) ::(165,cd bd Tryz.f165 5 [] (fun _=>false) (fun _=>false) (fun _=>false) false) ::[]
theorem eE:aV Tryz.prog gR:=aV.cons Tryz.func12 (by kernel_rfl) (aV.cons Tryz.func24 (by kernel_rfl) (aV.cons Tryz.func25 (by kernel_rfl) (aV.cons Tryz.func26 (by kernel_rfl) (aV.cons Tryz.func43 (by kernel_rfl) (aV.cons Tryz.func44 (by kernel_rfl) (aV.cons Tryz.func45 (by kernel_rfl) (aV.cons Tryz.func46 (by kernel_rfl) (aV.cons Tryz.func47 (by kernel_rfl) (aV.cons Tryz.func48 (by kernel_rfl) (aV.cons Tryz.func49 (by kernel_rfl) (aV.cons Tryz.func50 (by kernel_rfl) (aV.cons Tryz.func51 (by kernel_rfl) (aV.cons Tryz.func52 (by kernel_rfl) (aV.cons Tryz.func65 (by kernel_rfl) (aV.cons Tryz.func66 (by kernel_rfl) (aV.cons Tryz.func67 (by kernel_rfl) (aV.cons Tryz.func68 (by kernel_rfl) (aV.cons Tryz.func69 (by kernel_rfl) (aV.cons Tryz.func70 (by kernel_rfl) (aV.cons Tryz.func71 (by kernel_rfl) (aV.cons Tryz.func74 (by kernel_rfl) (aV.cons Tryz.func75 (by kernel_rfl) (aV.cons Tryz.func77 (by kernel_rfl) (aV.cons Tryz.func78 (by kernel_rfl) (aV.cons Tryz.func79 (by kernel_rfl) (aV.cons Tryz.func80 (by kernel_rfl) (aV.cons Tryz.func81 (by kernel_rfl) (aV.cons Tryz.func84 (by kernel_rfl) (aV.cons Tryz.func82 (by kernel_rfl) (aV.cons Tryz.func86 (by kernel_rfl) (aV.cons Tryz.func85 (by kernel_rfl) (aV.cons Tryz.func88 (by kernel_rfl) (aV.cons Tryz.func89 (by kernel_rfl) (aV.cons Tryz.func90 (by kernel_rfl) (aV.cons Tryz.func122 (by kernel_rfl) (aV.cons Tryz.func124 (by kernel_rfl) (aV.cons Tryz.func126 (by kernel_rfl) (aV.cons Tryz.func83 (by kernel_rfl) (aV.cons Tryz.func130 (by kernel_rfl) (aV.cons Tryz.func87 (by kernel_rfl) (aV.cons Tryz.func132 (by kernel_rfl) (aV.cons Tryz.func133 (by kernel_rfl) (aV.cons Tryz.func161 (by kernel_rfl) (aV.cons Tryz.func128 (by kernel_rfl) (aV.cons Tryz.func131 (by kernel_rfl) (aV.cons Tryz.func171 (by kernel_rfl) (aV.cons Tryz.func172 (by kernel_rfl) (aV.cons Tryz.func164 (by kernel_rfl) (aV.cons Tryz.func166 (by kernel_rfl) (aV.cons Tryz.func167 (by kernel_rfl) (aV.cons Tryz.func62 (by kernel_rfl) (aV.cons Tryz.func165 (by kernel_rfl) (aV.nil)))))))))))))))))))))))))))))))))))))))))))))))))))))
end Go.AL.Seat
end
noncomputable section
namespace Go.AL.Seat
open Go Go.AL Go.Proofs Go.Pd
set_option maxRecDepth 1000000
def aw1:Str:=[108,101,116,32,120,32,61,32,50,32,105,110,32,97,100,100,40,120,44,32,51,41]
def GU:AV:=.tup [.lst (.st .token) [⟨5,[108,101,116],0⟩,⟨1,[120],4⟩,⟨6,[61],6⟩,⟨3,[50],8⟩,⟨5,[105,110],10⟩,⟨1,[97,100,100],13⟩,⟨6,[40],16⟩,⟨1,[120],17⟩,⟨6,[44],18⟩,⟨3,[51],20⟩,⟨6,[41],21⟩,⟨0,[],22⟩] none,.agg [.int .i64 0,.int .i64 0]]
def aw2:Str:=[49,40,50,41]
def GV:AV:=.tup [.lst (.st .token) [⟨3,[49],0⟩,⟨6,[40],1⟩,⟨3,[50],2⟩,⟨6,[41],3⟩,⟨0,[],4⟩] none,.agg [.int .i64 0,.int .i64 0]]
variable [Tabs] [SeatLaid] [SeatPow]
theorem Hi:aw Tryz.prog 24 [.str aw1] [] (.ret GU):=fv (n:=100) mixed iS iR eE (by kernel_rfl:qi bd gR nu nt 5000 (dL qM) 100 24 [.str aw1] []=some ⟨none,none,GU,[]⟩)
theorem Hj:aw Tryz.prog 24 [.str aw2] [] (.ret GV):=fv (n:=100) mixed iS iR eE (by kernel_rfl:qi bd gR nu nt 5000 (dL qM) 100 24 [.str aw2] []=some ⟨none,none,GV,[]⟩)
end Go.AL.Seat
end
noncomputable section
namespace Go.AL.Seat
open Go Go.AL Go.Proofs Go.Pd
set_option maxRecDepth 1000000
def aw3:Str:=[40,102,117,110,32,40,120,58,32,65,110,121,41,32,45,62,32,120,40,120,41,41,40,102,117,110,32,40,120,58,32,65,110,121,41,32,45,62,32,120,40,120,41,41]
def GW:AV:=.tup [.lst (.st .token) [⟨6,[40],0⟩,⟨5,[102,117,110],1⟩,⟨6,[40],5⟩,⟨1,[120],6⟩,⟨6,[58],7⟩,⟨2,[65,110,121],9⟩,⟨6,[41],12⟩,⟨6,[45,62],14⟩,⟨1,[120],17⟩,⟨6,[40],18⟩,⟨1,[120],19⟩,⟨6,[41],20⟩,⟨6,[41],21⟩,⟨6,[40],22⟩,⟨5,[102,117,110],23⟩,⟨6,[40],27⟩,⟨1,[120],28⟩,⟨6,[58],29⟩,⟨2,[65,110,121],31⟩,⟨6,[41],34⟩,⟨6,[45,62],36⟩,⟨1,[120],39⟩,⟨6,[40],40⟩,⟨1,[120],41⟩,⟨6,[41],42⟩,⟨6,[41],43⟩,⟨0,[],44⟩] none,.agg [.int .i64 0,.int .i64 0]]
variable [Tabs] [SeatLaid] [SeatPow]
theorem Hk:aw Tryz.prog 24 [.str aw3] [] (.ret GW):=fv (n:=100) mixed iS iR eE (by kernel_rfl:qi bd gR nu nt 5000 (dL qM) 100 24 [.str aw3] []=some ⟨none,none,GW,[]⟩)
end Go.AL.Seat
end
noncomputable section
namespace Go.AL.Seat
open Go Go.AL Go.Proofs Go.Pd
set_option maxRecDepth 1000000
def FP (s:Str) (p:Int):Trm:=⟨5,[],s,0,[],[],[],[],p⟩
def FQ (n p:Int):Trm:=⟨1,[],[],n,[],[],[],[],p⟩
def tfun (a b c:Int):Trm:=⟨6,[],[],0,[[120]],[],[⟨4,[],[],[],[]⟩],[⟨7,[],[],0,[],[],[],[FP [120] b,FP [120] c],b⟩],a⟩
def Er:Trm:=⟨14,[],[120],0,[],[],[],[FQ 2 8,⟨7,[],[],0,[],[],[],[FP [97,100,100] 13,FP [120] 17,FQ 3 20],13⟩],0⟩
def Es:Trm:=⟨7,[],[],0,[],[],[],[FQ 1 0,FQ 2 2],0⟩
def Et:Trm:=⟨7,[],[],0,[],[],[],[tfun 1 17 19,tfun 23 39 41],0⟩
def awA (t:Trm):AV:=.tup [.agg [.int .i64 t.kind,.str t.pkg,.str t.name,.int .i64 t.n,.nils,.nils,.nils,.lst (.st .term) t.parts none,.int .i64 t.pos],.agg [.int .i64 0,.int .i64 0]]
variable [Tabs] [SeatLaid] [SeatPow]
def Eu:List (Nat × Pat):=(24,nV [.str aw1] GU) ::qM
theorem C6:bJ Tryz.prog (dL Eu):=sc (kM (ee Tryz.func24) Hi) iR
theorem Hl:aw Tryz.prog 12 [.str aw1] [] (.ret (awA Er)):=fv (n:=100) mixed iS C6 eE (by kernel_rfl:qi bd gR nu nt 5000 (dL Eu) 100 12 [.str aw1] []=some ⟨none,none,awA Er,[]⟩)
end Go.AL.Seat
end
noncomputable section
namespace Go.AL.Seat
open Go Go.AL Go.Proofs Go.Pd
set_option maxRecDepth 1000000
variable [Tabs] [SeatLaid] [SeatPow]
def Ew:List (Nat × Pat):=(24,nV [.str aw2] GV) ::qM
theorem C7:bJ Tryz.prog (dL Ew):=sc (kM (ee Tryz.func24) Hj) iR
theorem Hm:aw Tryz.prog 12 [.str aw2] [] (.ret (awA Es)):=fv (n:=100) mixed iS C7 eE (by kernel_rfl:qi bd gR nu nt 5000 (dL Ew) 100 12 [.str aw2] []=some ⟨none,none,awA Es,[]⟩)
end Go.AL.Seat
end
noncomputable section
namespace Go.AL.Seat
open Go Go.AL Go.Proofs Go.Pd
set_option maxRecDepth 1000000
variable [Tabs] [SeatLaid] [SeatPow]
def Ex:List (Nat × Pat):=(24,nV [.str aw3] GW) ::qM
theorem C8:bJ Tryz.prog (dL Ex):=sc (kM (ee Tryz.func24) Hk) iR
theorem Hn:aw Tryz.prog 12 [.str aw3] [] (.ret (awA Et)):=fv (n:=100) mixed iS C8 eE (by kernel_rfl:qi bd gR nu nt 5000 (dL Ex) 100 12 [.str aw3] []=some ⟨none,none,awA Et,[]⟩)
end Go.AL.Seat
end
noncomputable section
namespace Go.AL.Seat
open Go Go.AL Go.Proofs Go.Pd
set_option maxRecDepth 1000000
mutual
theorem eqT_snd:∀{a b:Trm},eqT a b true=true→a=b
 | ⟨k,g,q,z,ns,vs,ss,ps,pp⟩,⟨k',g',q',z',ns',vs',ss',ps',pp'⟩,h=>by
  simp only [eqT,Bool.and_eq_true,decide_eq_true_eq,Bool.not_true,Bool.false_or] at h
  obtain ⟨⟨⟨⟨⟨⟨⟨⟨rfl,rfl⟩,rfl⟩,rfl⟩,rfl⟩,rfl⟩,rfl⟩,h1⟩,h2⟩:=h
  rw [eqL_eq h1,eqTL_snd h2]
theorem eqTL_snd:∀{a b:List Trm},eqTL a b true=true→a=b
 | [],[],_=>rfl
 | [],_ ::_,h=>by simp [eqTL] at h
 | _ ::_,[],h=>by simp [eqTL] at h
 | a ::r,b ::s,h=>by
  simp only [eqTL,Bool.and_eq_true] at h
  rw [eqT_snd h.1,eqTL_snd h.2]
end
def awR1:Rn:=⟨⟨1,5,[],[],[],[]⟩,1,⟨0,0⟩⟩
def awR2:Rn:=⟨dH,0,⟨291,0⟩⟩
def awR3:Rn:=⟨dH,0,⟨292,39⟩⟩
theorem Ho:aY 60 60 Er 5=some awR1:=by kernel_rfl
theorem Hp:aY 60 60 Es 5=some awR2:=by kernel_rfl
theorem Hq:aY 60 60 Et 9=some awR3:=by kernel_rfl
variable [Tabs] [SeatLaid] [SeatPow]
def runV (r:Rn):AV:=.tup [.st .val r.v,.int .i64 r.st,.st .fault r.f]
theorem wJ (n m:Nat):aj Tryz.prog 8 (p2 (.st .term) (.int .i64) fun t k=>⟨some (bF t=true/\(aY n m t k).isSome=true),none,.tup [.st .val (aM (aY n m t k)).v,.int .i64 (aM (aY n m t k)).st,.st .fault (aM (aY n m t k)).f],[]⟩):=
 FN n m (qK n m (wI n m (nk n) (qJ m (qI m))))
def A6 (u:Trm) (s:Int) (r:Rn):Pat:=q2 (.st .term) (.int .i64) (fun t k=>eqT t u true && decide (k=s)) fun _ _=>runV r
theorem ua {u:Trm} {s:Int} {r:Rn} (hf:bF u=true) (h:aY 60 60 u s=some r):aj Tryz.prog 8 (A6 u s r):=
 vu (O:=fun t k=>t=u/\k=s) (dM (ee Tryz.func8) fun t k ht hk ho=>by
  obtain ⟨rfl,rfl⟩:=ho _ rfl
  have q:=si 60 60 t k ht hk hf (by rw [h];rfl) (qK 60 60 (wI 60 60 (nk 60) (qJ 60 (qI 60))))
  rw [h] at q
  exact q) fun t k q=>by
  rw [Bool.and_eq_true] at q
  exact ⟨eqT_snd q.1,Xo q.2⟩
end Go.AL.Seat
end
noncomputable section
namespace Go.AL.Seat
open Go Go.AL Go.Proofs
variable [Tabs]
def Ey:List (Nat × TR):=[(35,⟨.strct true [(0,33),(1,3)],2,16,[.int .i64 0,.int .i64 0],some (.st .fault)⟩),(33,r2),(3,r2),(26,⟨.strct false [(0,3),(1,9),(2,9),(3,3),(4,22),(5,22),(6,23),(7,24),(8,3)],9,152,[.int .i64 0,.str [],.str [],.int .i64 0,.nils,.nils,.nils,.nils,.int .i64 0],some (.st .term)⟩),(32,⟨.strct false [(0,3),(1,2),(2,9),(3,9),(4,22),(5,30)],6,96,[.int .i64 0,.int .i64 0,.str [],.str [],.nils,.nils],some (.st .val)⟩),(9,r9),(2,r2),(22,⟨.slice 9,1,24,[.nils],some (.lst .str)⟩),(23,⟨.slice 93,1,24,[.nils],some (.lst (.st .shape))⟩),(31,⟨.strct false [(0,3),(1,2),(2,9),(3,9),(4,22),(5,30)],6,96,[.int .i64 0,.int .i64 0,.str [],.str [],.nils,.nils],none⟩),(30,⟨.slice 32,1,24,[.nils],some (.lst (.st .val))⟩),(34,⟨.strct true [(0,33),(1,3)],2,16,[.int .i64 0,.int .i64 0],none⟩),(25,⟨.strct false [(0,3),(1,9),(2,9),(3,3),(4,22),(5,22),(6,23),(7,24),(8,3)],9,152,[.int .i64 0,.str [],.str [],.int .i64 0,.nils,.nils,.nils,.nils,.int .i64 0],none⟩),(24,⟨.slice 26,1,24,[.nils],some (.lst (.st .term))⟩),(93,⟨.strct false [(0,3),(1,9),(2,9),(3,22),(4,23)],5,88,[.int .i64 0,.str [],.str [],.nils,.nils],some (.st .shape)⟩),(92,⟨.strct false [(0,3),(1,9),(2,9),(3,22),(4,23)],5,88,[.int .i64 0,.str [],.str [],.nils,.nils],none⟩)]
theorem Ez:aU Tryz.prog Ey:=.cons tk (.cons tk (.cons tk (.cons tk (.cons tk (.cons tk (.cons tk (.cons tk (.cons tk (.cons tk (.cons tk (.cons tk (.cons tk (.cons tk (.cons tk (.cons tk (.nil))))))))))))))))
end Go.AL.Seat
end
noncomputable section
namespace Go.AL.Seat
open Go Go.AL Go.Proofs
set_option maxRecDepth 1000000
variable [Tabs]
def GX (f:Nat):List (Option Nat):=[]
def GY (f:Nat):Bool:=false
def wK:List (Nat × FB):=(6,cd Ey Tryz.f6 40191 [] (fun _=>false) (fun _=>false) (fun _=>false) false) ::[]
theorem wL:aV Tryz.prog wK:=aV.cons Tryz.func6 (by kernel_rfl) (aV.nil)
end Go.AL.Seat
end
noncomputable section
namespace Go.AL.Seat
open Go Go.AL Go.Proofs Go.Pd
set_option maxRecDepth 1000000
variable [Tabs] [SeatLaid] [SeatPow]
def G4:List (Nat × Pat):=[(12,nV [.str aw1] (awA Er)),(12,nV [.str aw2] (awA Es)),(12,nV [.str aw3] (awA Et)),(8,A6 Er 5 awR1),(8,A6 Es 5 awR2),(8,A6 Et 9 awR3)]
theorem EA:bJ Tryz.prog (dL G4):=sc (kM (ee Tryz.func12) Hl) (sc (kM (ee Tryz.func12) Hm) (sc (kM (ee Tryz.func12) Hn) (sc (ua rfl Ho) (sc (ua rfl Hp) (sc (ua rfl Hq) sn)))))
theorem wM:aj Tryz.prog 6 (p0 (.ret (.bool true))):=
 G3 (ee Tryz.func6) (fv (n:=2) mixed Ez EA wL (by kernel_rfl:qi Ey wK GY GX 50 (dL G4) 2 6 [] []=some ⟨none,none,.bool true,[]⟩))
end Go.AL.Seat
end
noncomputable section
namespace Go.AL.Seat
open Go Go.AL Go.Proofs Go.Pd
variable [Tabs] [SeatLaid] [SeatPow]
theorem kU {t:Trm} (hn:t.name.length<=2000000) (hm:t.names.length<=2000000) (hp:∀x∈t.parts,bO x=true):bO t=true:=by
 unfold bO at hp ⊢
 rw [allT_eq,Bool.and_eq_true,Bool.and_eq_true,decide_eq_true_eq,decide_eq_true_eq,allTL_all,List.all_eq_true]
 exact ⟨⟨hn,hm⟩,hp⟩
theorem oE {t:Trm} (hm:t.names.length<=8796093022208) (hp:∀x∈t.parts,bF x=true):bF t=true:=by
 unfold bF at hp ⊢
 rw [allT_eq,Bool.and_eq_true,decide_eq_true_eq,allTL_all,List.all_eq_true]
 exact ⟨hm,hp⟩
theorem zg {t:Trm} {nm:Str} {k:Int} (ht:Wf (.st .term) t) (hm:Wf .str nm) (hk:Wf (.int .i64) k) (hf:bF t=true) (hs:bO t=true) (hn:nm.length<=1048576):aw Tryz.prog 3 [.st .term t,.str nm,.int .i64 k] [] (.ret (.bool true)):=by
 have s1:bO (B7 nm)=true:=kU (show nm.length<=2000000 by omega) (Nat.zero_le _) (fun x hx=>by cases hx)
 have s2:bO (kY nm t)=true:=kU (show nm.length<=2000000 by omega) (Nat.zero_le _) fun x hx=>by
  rcases List.mem_cons.1 hx with rfl | hx
  ·exact hs
  ·obtain rfl:=List.mem_singleton.1 hx;exact s1
 have s3:bO (gL t)=true:=kU (Nat.zero_le _) (Nat.zero_le _) fun x hx=>by
  obtain rfl:=List.mem_singleton.1 hx
  exact kU (Nat.zero_le _) (Nat.zero_le _) fun x hx=>by
   obtain rfl:=List.mem_singleton.1 hx;exact hs
 have f1:bF (kY nm t)=true:=oE (Nat.zero_le _) fun x hx=>by
  rcases List.mem_cons.1 hx with rfl | hx
  ·exact hf
  ·obtain rfl:=List.mem_singleton.1 hx;exact oE (Nat.zero_le _) (fun x hx=>by cases hx)
 have f2:bF (gL t)=true:=oE (Nat.zero_le _) fun x hx=>by
  obtain rfl:=List.mem_singleton.1 hx
  exact oE (Nat.zero_le _) fun x hx=>by
   obtain rfl:=List.mem_singleton.1 hx;exact hf
 exact nr (gZ (szT t)+1) 2001 t nm k ht hm hk s2 s3 hf f1 f2 (fun h0 h1 hl hc=>by
  have:=qv hl
  have hz:szT (kY nm t)=szT t+1+1:=by rw [gG];rfl
  exact Fq (by omega) hs h0 h1 hl hc) (wJ _ _) wM
end Go.AL.Seat
end
section
namespace Go.Proofs.YtgackciebknbeaaGreatDoor.JEvalLets
open Go.AL Go.AL.Seat Go.Pd Go.ChangeShapes Go.WideShapes Go.RowKit Go.Proofs.YtgackciebknbeaaGreatDoor.Join
set_option maxRecDepth 1000000
theorem par:Tryz.f3.params=#[26,9,3]:=by kernel_rfl
theorem res:Tryz.f3.resultTypes=#[4]:=by kernel_rfl
theorem spec {H:Type} (ds:List (DataW H)) (hd:ds.length=3):Rows.evalLetsSpec.fn H ds={results:=[.lit (.bool true)],args:=ds}:=by
 match ds,hd with
 | [d0,d1,d2],_=>rfl
theorem EB (H:Type) (enc:TypeId × Value→H) (W:World) (base:Nat) (args:Array Value) (ds gs:List (DataW H)) (before:List MemPlace)
  (hval:∀(j:Nat) t v,Tryz.f3.params[j]?=some t→args[j]?=some v→Value.okWide Tryz.prog W .any base t v)
  (hW:DataW.Whole enc Tryz.prog Tryz.f3.params.toList Rows.evalLetsSpec.vars false W args.toList ds gs before) (hku:Rows.uptoSmall H (ds++gs)=true) (hL:laidMet Tryz.prog laid W) (hsh:W.ShapedOpen Tryz.prog) :
  Calls Tryz.prog 3 args W fun e W'=>∃v,e=.returned v/\Rows.evalLetsSpec.post enc Tryz.prog Tryz.f3 false true false false W args v W':=by
 letI:Tabs:=k9 W
 haveI:SeatLaid:=CY hL hsh
 haveI:SeatPow:=F6 hL
 have hW':=hW
 obtain ⟨p,q,hA,hV,_,_,_⟩:=hW
 rw [par] at hA hval
 obtain ⟨v0,vs0,d0,ds0,p0,q0,hargs0,rfl,rfl,h0,r0⟩:=trodAll_cons hA
 obtain ⟨v1,vs1,d1,ds1,p1,q1,hargs1,rfl,rfl,h1,r1⟩:=trodAll_cons r0
 obtain ⟨v2,vs2,d2,ds2,p2,q2,hargs2,rfl,rfl,h2,r2⟩:=trodAll_cons r1
 obtain ⟨rfl,rfl,rfl⟩:=trodAll_nil r2
 subst hargs1
 subst hargs2
 obtain rfl:args=#[v0,v1,v2]:=by
  have:=congrArg List.toArray hargs0
  simpa using this
 obtain ⟨x0,hx0,hq0⟩:=AU (rV Tryz.prog) Gr (hval 0 26 v0 rfl rfl) h0 (vm hku (by simp))
 obtain ⟨x1,hx1,hq1⟩:=F9 undS (hval 1 9 v1 rfl rfl) h1 (vm hku (by simp))
 obtain ⟨x2,hx2⟩:=CK undI (hval 2 3 v2 rfl rfl) h2
 refine (AF (zg ⟨_,_,hx0⟩ ⟨_,_,hx1⟩ ⟨_,_,hx2⟩ (lI _ _ (Nat.le_refl _) hq0).1 (lI _ _ (Nat.le_refl _) hq0).2 hq1) (fun b o v h=>h.2) (fun b x h=>h.2) (VL.cons hx0 (VL.cons hx1 (VL.cons hx2 .nil)))).mono fun e W' ⟨he,hb⟩=>?_
 subst he
 refine ⟨_,rfl,CJ (tb:=4) F4 (fun t ht=>?_) rfl (fun ds hd=>spec ds ?_) res undB hW' hb⟩
 ·rw [par] at ht
  have ht:t∈[26,9,3]:=ht
  simp only [List.mem_cons,List.not_mem_nil,or_false] at ht
  rcases ht with rfl | rfl | rfl
  ·exact ⟨He,Nat.lt_trans (by decide) db⟩
  ·exact ⟨H8,Nat.lt_trans (by decide) db⟩
  ·exact ⟨H7,Nat.lt_trans (by decide) db⟩
 ·rw [par] at hd
  exact hd
theorem reads (os:Os) {H:Type} (enc:TypeId × Value→H):(DataW.whole enc Tryz.prog ((kL os).forCall (fun _ _=>0) ⟨#[],#[.agg #[.int .i64 0,.string ⟨#[]⟩,.string ⟨#[]⟩,.int .i64 0,.slice none 0 0,.slice none 0 0,.slice none 0 0,.slice none 0 0,.int .i64 0],.string ⟨#[]⟩,.int .i64 0],[]⟩).memory Tryz.f3.params.toList Rows.evalLetsSpec.vars false [Value.agg #[.int .i64 0,.string ⟨#[]⟩,.string ⟨#[]⟩,.int .i64 0,.slice none 0 0,.slice none 0 0,.slice none 0 0,.slice none 0 0,.int .i64 0],Value.string ⟨#[]⟩,Value.int .i64 0] 8).map (fun x=>(x.1,x.2.1))=some ([.agg [.lit (.int .i64 0),.lit (.string []),.lit (.string []),.lit (.int .i64 0),.nil,.nil,.nil,.nil,.lit (.int .i64 0)],.lit (.string []),.lit (.int .i64 0)],[]):=by kernel_rfl
theorem GZ (os:Os) (started:os.Started) (H:Type) (enc:TypeId × Value→H) (F:Stop.Interp) :
  ReturnsInHanded {} Tryz.checked os 3 .any ((Rows.OpenSpec.upto Rows.evalLetsSpec).preRow enc Tryz.prog Tryz.f3 Rows.evalLetsUptoRow.domain false Rows.evalLetsUptoRow.laid) (((Rows.OpenSpec.upto Rows.evalLetsSpec).at F).post enc Tryz.prog Tryz.f3 false true false false):=by
 obtain ⟨⟨y1,y2,y3⟩,hx,hy⟩:=Option.map_eq_some_iff.1 (reads os enc)
 simp only [Prod.mk.injEq] at hy
 obtain ⟨rfl,rfl⟩:=hy
 refine returnsInHanded_of_row (C:=Tryz.checked) (s:=Rows.OpenSpec.upto Rows.evalLetsSpec) own started (by kernel_rfl) Tryz.func3
  (witness_row_atRef (enc:=enc) (C:=Tryz.checked) false (kL os) #[.agg #[.int .i64 0,.string ⟨#[]⟩,.string ⟨#[]⟩,.int .i64 0,.slice none 0 0,.slice none 0 0,.slice none 0 0,.slice none 0 0,.int .i64 0],.string ⟨#[]⟩,.int .i64 0] rfl (by kernel_rfl) (by kernel_rfl) (by kernel_rfl)
   (OpenSpec.preRow_of_cond 8 hx (by kernel_rfl) (fun k hk=>by cases hk;kernel_rfl) (by kernel_rfl) (CZ os _))) ?_
 intro W base args ds gs before hval hW _ hku _ hL hsh _
 exact EB H enc W base args ds gs before hval hW (hku _ rfl) hL hsh
theorem c1:(Rows.evalLetsUptoRow.inPlace ==Tryz.prog.inPlace 3)=true:=by kernel_rfl
theorem c2:(Rows.evalLetsUptoRow.unfollowed ==Tryz.prog.unfollowed 3)=true:=by kernel_rfl
theorem c3:(Rows.evalLetsUptoRow.recurses ==Tryz.prog.recurses 3)=true:=by kernel_rfl
theorem c4:(Rows.evalLetsUptoRow.named ==Tryz.prog.varsNamed 3)=true:=by kernel_rfl
theorem H0:joinedFacts Tryz.prog 3 Tryz.f3 (Rows.OpenSpec.upto Rows.evalLetsSpec).bare Rows.evalLetsUptoRow=true:=by
 unfold joinedFacts
 rw [c1,c2,c3,c4]
 kernel_rfl
theorem said:Rows.EvalLetsUptoSaid:=
 OpenClaim.holds_of_cond 3 Tryz.f3 rfl rfl rfl rfl rfl rfl rfl ⟨rfl,rfl,rfl,rfl,rfl⟩ rfl rfl rfl rfl rfl (by kernel_rfl) Tryz.func3 H0
  (Xo (by kernel_rfl)) (by unfold Func.isWrapper;first | (rw [if_pos (by decide+kernel)];kernel_rfl) | (rw [if_neg (by decide+kernel)];exact ⟨rfl,rfl⟩))
  (fun os started H enc _ F=>by rw [OpenClaim.pre_eq_preRow];exact GZ os started H enc F)
theorem dP (f:FuncId) (fn:Func) (hf:Tryz.pinned.checked.prog.funcNamed "pandect/pandectlaw30.EvalLets"=some f) (hfn:Tryz.pinned.checked.prog.funcs[f]?=some fn) :
  true=Tryz.pinned.checked.prog.looks []/\∀(j:Nat) t,fn.params[j]?=some t→Tryz.pinned.checked.prog.wantsStandIn t=false:=by
 obtain rfl:f=3:=Option.some.inj ((show Tryz.prog.funcNamed "pandect/pandectlaw30.EvalLets"=some 3 by kernel_rfl).symm.trans hf) |>.symm
 obtain rfl:fn=Tryz.f3:=(Option.some.inj (Tryz.func3.symm.trans hfn)).symm
 refine ⟨by kernel_rfl,fun j t ht=>?_⟩
 rw [par] at ht
 have ht:=Array.mem_of_getElem? ht
 simp only [List.mem_toArray,List.mem_cons,List.not_mem_nil,or_false] at ht
 rcases ht with rfl | rfl | rfl
 ·exact (show Tryz.prog.wantsStandIn 26=false by kernel_rfl)
 ·exact (show Tryz.prog.wantsStandIn 9=false by kernel_rfl)
 ·exact (show Tryz.prog.wantsStandIn 3=false by kernel_rfl)
theorem card:Rows.EvalLetsUptoCardSaid:=
 Claim7.holds_tied_plain_at .later [] _ _ _ _ said (fun _ h=>by cases h) (by kernel_rfl) (fun _ h=>by cases h) evalLetsUpto_row_tie rfl ⟨rfl,rfl⟩ (by kernel_rfl) rfl dP (by kernel_rfl)
end Go.Proofs.YtgackciebknbeaaGreatDoor.JEvalLets
end
