/- Plain facts. No condition. -/
import Derived.Test.YtpiedfeneggkmaaGreatDoorT04
import Derived.KernelRfl
import Derived.Sort.Walk0
set_option linter.all false
set_option maxRecDepth 100000
section
namespace Go.Proofs.YtpiedfeneggkmaaGreatDoor.Join
open Go.AL Go.AL.Seat Go.ChangeShapes Go.WideShapes Go.RowKit Go.Lib Go.Shelf
set_option maxRecDepth 1000000
theorem Ff:TermAt Tryz.prog 26:=⟨_,_,_,_,_,_,_,_,_,9,34,Tryz.underlying26,by kernel_rfl,⟨rfl,rfl,rfl,rfl,rfl,rfl,rfl,rfl,rfl⟩,⟨by kernel_rfl,by kernel_rfl,by kernel_rfl,by kernel_rfl,by kernel_rfl,by kernel_rfl,by kernel_rfl,by kernel_rfl,by kernel_rfl⟩,
 ⟨by kernel_rfl,by kernel_rfl,by kernel_rfl,by kernel_rfl,by kernel_rfl,by kernel_rfl,by kernel_rfl,by kernel_rfl,by kernel_rfl⟩,⟨by kernel_rfl,by kernel_rfl,by kernel_rfl⟩,yN⟩
theorem FN:Tryz.prog.readableRec 26=true:=by kernel_rfl
end Go.Proofs.YtpiedfeneggkmaaGreatDoor.Join
end
section
namespace Go.Pd
open Go.AL
variable {l:List Tokn} {R:PS→Trm × PS}
end Go.Pd
namespace Go.Pd
open Go.AL
structure TokG (t:Tokn):Prop where
 kind:¬t.kind=0
 name:t.kind=1→ay t.text=true
 upper:t.kind=2→aQ t.text=true
 num:t.kind=3→mO t.text
 pos:0<=t.pos
end Go.Pd
namespace Go.Pd
open Go.AL
end Go.Pd
end
section
namespace Go.Pd
open Go.AL
mutual
def sizeF:Shape→Int→Int
 | ⟨_,_,_,_,ps⟩,m=>sizeL ps 1 m
def sizeL:List Shape→Int→Int→Int
 | [],n,_=>n
 | p ::r,n,m=>if n<=m then sizeL r (n+sizeF p (m - n)) m else n
end
mutual
theorem sizeF_bd:∀(s:Shape) (m:Int),0<=m→1<=sizeF s m/\sizeF s m<=m+1
 | ⟨_,_,_,_,ps⟩,m,h=>by
  simp only [sizeF]
  exact sizeL_bd ps 1 m (by omega) (by omega)
theorem sizeL_bd:∀(l:List Shape) (n m:Int),1<=n→n<=m+1→1<=sizeL l n m/\sizeL l n m<=m+1
 | [],n,m,h1,h2=>by simp only [sizeL];omega
 | p ::r,n,m,h1,h2=>by
  simp only [sizeL]
  split
  ·have:=sizeF_bd p (m - n) (by omega)
   exact sizeL_bd r _ m (by omega) (by omega)
  ·omega
end
def cH:Str→Nat
 | []=>0
 | b ::r=>if dD (bI b)=true then cH r+1 else 0
theorem qJ:∀s:Str,(cH s=s.length↔(s.all fun c=>dD (bI c))=true)
 | []=>by simp [cH]
 | b ::r=>by
  simp only [cH,List.length_cons,List.all_cons,Bool.and_eq_true]
  by_cases h:dD (bI b)=true
  ·rw [if_pos h,←qJ r]
   constructor
   ·intro e;exact ⟨h,by omega⟩
   ·rintro ⟨_,e⟩;omega
  ·rw [if_neg h]
   constructor
   ·intro e;omega
   ·rintro ⟨e,_⟩;exact absurd e h
theorem mT (first:Int→Bool) (s:Str):bW first s=(!decide (s=[]) && decide (s.length<=24) && first (bI (s.getD 0 0)) && decide (cH s=s.length)):=by
 unfold bW
 congr 1
 rw [Bool.eq_iff_iff,decide_eq_true_eq]
 exact (qJ s).symm
def eZ (ns:List Str) (n:Int):Bool:=decide ((ns.length:Int)=n) && ns.all ay && decide ns.Nodup
mutual
def deepF:Shape→Nat
 | ⟨_,_,_,_,ps⟩=>maxDeep ps+1
def maxDeep:List Shape→Nat
 | []=>0
 | p ::r=>max (deepF p) (maxDeep r)
end
mutual
theorem deepS_F:∀(s:Shape) (l:Int),deepS s l=l+deepF s - 1
 | ⟨_,_,_,_,ps⟩,l=>by
  simp only [deepS,deepF]
  rw [deepL_F ps (l+1) l (by omega)]
  omega
theorem deepL_F:∀(ps:List Shape) (m d:Int),m - 1<=d→deepL ps m d=max d (m+maxDeep ps - 1)
 | [],m,d,h=>by simp only [deepL,maxDeep];omega
 | p ::r,m,d,h=>by
  simp only [deepL,maxDeep]
  rw [deepL_F r m _ (by omega),deepS_F p m]
  omega
end
mutual
theorem deepF_sz:∀s:Shape,deepF s<=sz s
 | ⟨_,_,_,_,ps⟩=>by
  have:=maxDeep_sz ps
  simp only [deepF,sz]
  omega
theorem maxDeep_sz:∀l:List Shape,maxDeep l<=szL l
 | []=>Nat.le_refl _
 | p ::r=>by
  have:=deepF_sz p
  have:=maxDeep_sz r
  simp only [maxDeep,szL]
  omega
end
mutual
theorem sizeF_eq:∀(s:Shape) (m:Int),0<=m→sizeF s m=min (sz s:Int) (m+1)
 | ⟨_,_,_,_,ps⟩,m,h=>by
  simp only [sizeF,sz]
  rw [sizeL_eq ps 1 m (by omega)]
  omega
theorem sizeL_eq:∀(l:List Shape) (n m:Int),n<=m+1→sizeL l n m=min (n+szL l) (m+1)
 | [],n,m,h=>by simp only [sizeL,szL];omega
 | p ::r,n,m,h=>by
  simp only [sizeL,szL]
  have:=dT p
  split
  ·rw [sizeF_eq p (m - n) (by omega),sizeL_eq r _ m (by omega)]
   omega
  ·omega
end
theorem Fg (s:Shape):aA s=if 400 < sizeF s 400 then 3 else if 40 < (deepF s:Int) then 91 else if allS aj s=true then 0 else 70:=by
 unfold aA
 rw [sizeF_eq s 400 (by omega),deepS_F]
 have e:(1:Int)+deepF s - 1=deepF s:=by omega
 rw [e]
 by_cases h:400 < sz s
 ·rw [if_pos h,if_pos (show (400:Int) < min (sz s:Int) (400+1) by omega)]
 ·rw [if_neg h,if_neg (show ¬(400:Int) < min (sz s:Int) (400+1) by omega)]
end Go.Pd
end
section
namespace Go.Pd
open Go.AL
theorem EL {K V:Type} [DecidableEq K]:∀(m:List (K × V)) (k k':K) (v:V),df (dZ m k v) k'=if k'=k then some v else df m k'
 | [],k,k',v=>by simp [dZ,df]
 | (a,u) ::r,k,k',v=>by
  simp only [dZ]
  by_cases h:k=a
  ·subst h
   rw [if_pos rfl]
   by_cases h':k'=k <;> simp [df,h']
  ·rw [if_neg h]
   simp only [df,EL r k k' v]
   by_cases h1:k'=a
   ·subst h1
    simp [Ne.symm h]
   ·simp [h1]
def j0:List Str→List Shape→Str→Option Shape
 | n ::r,p ::q,name=>if n=name then some p else j0 r q name
 | _,_,_=>none
def bc (s:Shape) (name:Str):Option Shape:=j0 s.names s.parts name
theorem pb:∀{ns:List Str} {ps:List Shape} {n:Str} {p:Shape},j0 ns ps n=some p→p∈ps
 | [],ps,n,p,h=>by cases ps <;> simp [j0] at h
 | a ::r,[],n,p,h=>by simp [j0] at h
 | a ::r,b ::q,n,p,h=>by
  simp only [j0] at h
  split at h
  ·simp at h;subst h;simp
  ·exact List.mem_cons_of_mem _ (pb h)
theorem nF {f:Shape→Bool} {s:Shape} (h:allS f s=true):f s=true/\allL f s.parts=true:=by
 rw [fD,Bool.and_eq_true] at h
 exact h
end Go.Pd
end
section
namespace Go.Pd
open Go.AL
def p0 (A:Ans):Pat
 | [],[]=>some A
 | _,_=>none
theorem EM [Tabs] {P:Program} {f:Nat} {A:Ans} (he:aD P f) (h:ax P f [] [] A):ak P f (p0 A):=by
 intro args S A' hA _ _
 unfold p0 at hA
 split at hA
 ·simp only [Xs] at hA
  subst hA
  exact ⟨he,h⟩
 ·cases hA
end Go.Pd
end
section
namespace Go.Pd
open Go.AL
mutual
theorem eqS_refl:∀a:Shape,eqS a a=true
 | ⟨k,p,n,ns,ps⟩=>by simp [eqS,eqL_refl ps]
theorem eqL_refl:∀a:List Shape,eqL a a=true
 | []=>rfl
 | a ::r=>by simp [eqL,eqS_refl a,eqL_refl r]
end
end Go.Pd
end
section
namespace Go.Pd
open Go.AL
def mU:List Bndg→Bool
 | []=>true
 | b ::r=>if 800 < sizeF b.shape 800 then false else mU r
def gK (l:List Bndg):Bool:=if 60 < (l.length:Int) then false else mU l
def j6 (e:Envt):Bool:=gK e.types && gK e.values && gK e.own
theorem Co {l:List Bndg} (h:gK l=true):l.length<=60:=by
 unfold gK at h
 split at h
 ·cases h
 ·omega
def bO (env:Envt) (b:List Bndg):Envt:=⟨env.self,env.types,env.values++b,env.own⟩
def szB:List Bndg→Nat
 | []=>0
 | b ::r=>sz b.shape+szB r
theorem Cp:∀(l:List Bndg),∀x∈l,sz x.shape<=szB l
 | [],x,h=>by cases h
 | b ::r,x,h=>by
  rcases List.mem_cons.1 h with rfl | h
  ·rw [szB];omega
  ·have:=Cp r x h;rw [szB];omega
end Go.Pd
end
noncomputable section
namespace Go.Pd
open Go.AL
def dR (F:Shape→Shape→Bool) (must:Bool) (b:Shape):List Str→List Shape→Bool
 | m ::r,p ::q=>(match bc b m with | none=>!must | some x=>F p x) && dR F must b r q
 | _,_=>true
def jd (F:Shape→Shape→Bool) (fn:Bool):List Shape→List Shape→Bool
 | p ::r,q ::s=>(if (fn && !r.isEmpty)=true then F q p else F p q) && jd F fn r s
 | _,_=>true
def b8:Nat→Shape→Shape→Bool
 | 0,_,_=>false
 | n+1,a,b=>decide (a.kind=4) || decide (b.kind=4) ||
   (decide (a.kind=b.kind) && decide (a.pkg=b.pkg) && decide (a.name=b.name) &&
    (if a.kind=6 then dR (b8 n) false b a.names a.parts && b.names.all (fun m=>(bc a m).isSome)
    else if a.kind=7 then dR (b8 n) true b a.names a.parts
    else decide (a.parts.length=b.parts.length) && jd (b8 n) (decide (a.kind=8)) a.parts b.parts))
def je (a b:Shape):Bool:=decide (aA a=0) && decide (aA b=0) && b8 800 a b
theorem lx {s:Shape} (h:aj s=true):s.names=[]∨s.names.length=s.parts.length:=by
 unfold aj ct at h
 simp only at h
 repeat' split at h
 all_goals simp only [Bool.and_eq_true,decide_eq_true_eq,List.all_eq_true,Bool.false_eq_true] at h
 all_goals first
  | exact .inl h.1.2
  | exact .inr h.2.1.1.2
  | exact .inr h.2.1.1
  | skip
theorem A5 {o:Shape} {m:Str} {x:Shape} (h:bc o m=some x):True/\x∈o.parts:=⟨trivial,pb h⟩
theorem pc (m:Str) (d:Shape):∀(ns:List Str) (ps:List Shape) (k:Nat),ns.length=ps.length→
  (bX ns m (k:Int)=-1/\j0 ns ps m=none)∨∃j,j < ns.length/\bX ns m (k:Int)=((k+j:Nat):Int)/\j0 ns ps m=some (ps.getD j d)
 | [],ps,k,_=>.inl ⟨rfl,by cases ps <;> rfl⟩
 | a ::r,p ::q,k,h=>by
  simp only [bX,j0]
  by_cases e:a=m
  ·rw [if_pos e,if_pos e]
   exact .inr ⟨0,by simp,by simp,rfl⟩
  ·rw [if_neg e,if_neg e]
   have:=pc m d r q (k+1) (by simpa using h)
   rw [show ((k:Int)+1)=((k+1:Nat):Int) by omega]
   rcases this with h1 | ⟨j,h1,h2,h3⟩
   ·exact .inl h1
   ·exact .inr ⟨j+1,by simp;omega,by rw [h2];omega,by rw [h3];rfl⟩
theorem qK {s:Shape} (m:Str) (d:Shape) (h:s.names=[]∨s.names.length=s.parts.length):(¬0<=bX s.names m 0/\bc s m=none)∨(0<=bX s.names m 0/\bX s.names m 0 < (s.parts.length:Int)/\bc s m=some (s.parts.getD (bX s.names m 0).toNat d)):=by
 unfold bc
 rcases h with e | e
 ·rw [e]
  exact .inl ⟨by simp [bX],by cases s.parts <;> rfl⟩
 ·rcases pc m d s.names s.parts 0 e with ⟨h1,h2⟩ | ⟨j,h1,h2,h3⟩
  ·have h1:bX s.names m 0=-1:=h1
   exact .inl ⟨by omega,h2⟩
  ·have h2:bX s.names m 0=((0+j:Nat):Int):=h2
   refine .inr ⟨by omega,by omega,?_⟩
   rw [h2,h3,Int.toNat_natCast,Nat.zero_add]
theorem Cq {s:Shape} (m:Str) (d:Shape) (h:aj s=true):(¬0<=bX s.names m 0/\bc s m=none)∨(0<=bX s.names m 0/\bX s.names m 0 < (s.parts.length:Int)/\bc s m=some (s.parts.getD (bX s.names m 0).toNat d)):=qK m d (lx h)
theorem Cr {s:Shape} (h:aA s=0):(b6 s).names=[]∨(b6 s).names.length=(b6 s).parts.length:=by
 unfold b6
 rw [if_pos h]
 obtain ⟨k,p,n,ns,ps⟩:=s
 by_cases e:ns=[]
 ·exact .inl (by rw [sortedS,if_pos e])
 ·exact .inr (by rw [sortedS];simp [e])
def so (g:Nat) (F:Shape→Shape→Ans):Pat:=fun args S=>
 match args,S with
 | [.ptr 900 0,a,b],[(900,.box (.agg [.fn f []]))]=>
  (match Nat.beq f g,arg (.st .shape) a,arg (.st .shape) b with
  | true,some x,some y=>some (F x y)
  | _,_,_=>none)
 | _,_=>none
theorem qL [Tabs] {P:Program} {f g:Nat} {F:Shape→Shape→Ans} (he:aD P f) (h:∀a b,Wf (.st .shape) a→Wf (.st .shape) b→(∀q,(F a b).ob=some q→q)→ax P f [.ptr 900 0,.st .shape a,.st .shape b] [(900,.box (.agg [.fn g []]))] (F a b)) :
  ak P f (so g F):=by
 intro args S A hA ho _
 unfold so at hA
 split at hA
 ·split at hA
  ·rename_i x y hb hx hy
   simp only [Xs] at hA
   subst hA
   have e:=Nat.eq_of_beq_eq_true hb
   subst e
   exact ⟨he,ax.args (.cons (Rd.refl _) (.cons (Rd.arg hx) (.cons (Rd.arg hy) .nil))) (ax.wf fun hw=>h _ _ hw.cons.2.cons.1 hw.cons.2.cons.2.cons.1 ho)⟩
  ·cases hA
 ·cases hA
def ly (g:Nat) (F:List Str→Shape→Ans):Pat:=fun args S=>
 match args,S with
 | [a,.fn f [.ptr 900 0]],[(900,.box (.st .shape s))]=>(match Nat.beq f g,arg (.lst .str) a with | true,some x=>some (F x s) | _,_=>none)
 | _,_=>none
theorem mV [Tabs] {P:Program} {f g:Nat} {F:List Str→Shape→Ans} (he:aD P f) (h:∀a s,Wf (.lst .str) a→(∀q,(F a s).ob=some q→q)→ax P f [.lst .str a none,.fn g [.ptr 900 0]] [(900,.box (.st .shape s))] (F a s)) :
  ak P f (ly g F):=by
 intro args S A hA ho _
 unfold ly at hA
 split at hA
 ·split at hA
  ·rename_i x hb hx
   simp only [Xs] at hA
   subst hA
   have e:=Nat.eq_of_beq_eq_true hb
   subst e
   exact ⟨he,ax.args (.cons (Rd.arg hx) (.cons (Rd.refl _) .nil)) (ax.wf fun hw=>h _ _ hw.one ho)⟩
  ·cases hA
 ·cases hA
def wR (F:Str→Shape→Ans):Pat:=fun args S=>
 match args,S with
 | [a,.ptr 900 0],[(900,.box (.st .shape s))]=>(match arg .str a with | some x=>some (F x s) | _=>none)
 | _,_=>none
theorem A6 [Tabs] {P:Program} {f:Nat} {F:Str→Shape→Ans} (he:aD P f) (h:∀a s,(∀q,(F a s).ob=some q→q)→ax P f [.str a,.ptr 900 0] [(900,.box (.st .shape s))] (F a s)) :
  ak P f (wR F):=by
 intro args S A hA ho _
 unfold wR at hA
 split at hA
 ·split at hA
  ·rename_i x hx
   simp only [Xs] at hA
   subst hA
   exact ⟨he,ax.args (.cons (Rd.arg hx) (.cons (Rd.refl _) .nil)) (h _ _ ho)⟩
  ·cases hA
 ·cases hA
end Go.Pd
end
noncomputable section
namespace Go.Pd
open Go.AL
def bg:List Bndg→Str→Str→Option Shape
 | [],_,_=>none
 | b ::r,o,m=>match bg r o m with
  | some s=>some s
  | none=>if b.pkg=o/\b.name=m then some b.shape else none
def mW (l:List Bndg) (m:List (Nam × Shape)):List (Nam × Shape):=l.foldl (fun m b=>dZ m ⟨b.pkg,b.name⟩ b.shape) m
def gU (l:List Bndg):List (Nam × Shape):=mW l []
def bj (m:List (Nam × Shape)) (o n:Str):Option Shape:=df m ⟨o,n⟩
theorem yP (k:Nam):∀(l:List Bndg) (m:List (Nam × Shape)),df (mW l m) k=match bg l k.pkg k.name with | some s=>some s | none=>df m k
 | [],m=>rfl
 | b ::r,m=>by
  rw [mW,List.foldl_cons,←mW,yP k r,bg]
  cases bg r k.pkg k.name with
  | some s=>rfl
  | none=>
   rw [EL]
   by_cases h:b.pkg=k.pkg/\b.name=k.name
   ·rw [if_pos h,if_pos (show k=⟨b.pkg,b.name⟩ by cases k;simp at h;rw [h.1,h.2])]
   ·rw [if_neg h,if_neg (fun e=>h (by rw [e];exact ⟨rfl,rfl⟩))]
theorem ud (l:List Bndg):bj (gU l)=bg l:=by
 funext o n
 unfold bj gU
 rw [yP]
 show (match bg l o n with | some s=>some s | none=>none)=_
 cases bg l o n <;> rfl
mutual
def fillS (g:Str→Str→Option Shape):Shape→Option Shape
 | ⟨k,o,m,ns,ps⟩=>if k=9 then g o m else (fillL g ps).map fun q=>⟨k,o,m,ns,q⟩
def fillL (g:Str→Str→Option Shape):List Shape→Option (List Shape)
 | []=>some []
 | p ::r=>match fillS g p with
  | none=>none
  | some q=>(fillL g r).map fun l=>q ::l
end
theorem lA (g:Str→Str→Option Shape) (s:Shape):fillS g s=if s.kind=9 then g s.pkg s.name else (fillL g s.parts).map fun q=>⟨s.kind,s.pkg,s.name,s.names,q⟩:=by cases s;rw [fillS]
def au (s:Shape) (l:List Bndg):Shape × Int:=
 if aA s=0 then
  match fillS (bg l) s with
  | none=>(aq,110)
  | some q=>if aA q=0 then (b6 q,0) else (aq,aA q)
 else (aq,aA s)
def wS (A:Option (List (Nam × Shape))→Nam→Shape→Ans):Pat:=fun args S=>
 match args,S with
 | [.ptr 900 0,k,v],(900,.box a) ::r=>
  (match arg (.st .nm) k,arg (.st .shape) v with
  | some k,some v=>(match a,r with
   | .agg [.nilm],[]=>some (A none k v)
   | .map 901,[(901,.map (.st .nm) (.st .shape) m)]=>some (A (some m) k v)
   | _,_=>none)
  | _,_=>none)
 | _,_=>none
theorem A7 [Tabs] {P:Program} {f:Nat} {A:Option (List (Nam × Shape))→Nam→Shape→Ans} (he:aD P f)
  (h0:∀k v,ax P f [.ptr 900 0,.st .nm k,.st .shape v] [(900,.box (.agg [.nilm]))] (A none k v))
  (h1:∀m k v,ax P f [.ptr 900 0,.st .nm k,.st .shape v] [(900,.box (.map 901)),(901,.map (.st .nm) (.st .shape) m)] (A (some m) k v)):ak P f (wS A):=by
 intro args S B hB ho _
 unfold wS at hB
 split at hB
 ·split at hB
  ·rename_i k v hk hv
   split at hB
   ·cases hB
    exact ⟨he,ax.args (.cons (Rd.refl _) (.cons (Rd.arg hk) (.cons (Rd.arg hv) .nil))) (h0 _ _)⟩
   ·cases hB
    exact ⟨he,ax.args (.cons (Rd.refl _) (.cons (Rd.arg hk) (.cons (Rd.arg hv) .nil))) (h1 _ _ _)⟩
   ·cases hB
  ·cases hB
 ·cases hB
def wT (A:Option (List (Nam × Shape))→Nam→Ans):Pat:=fun args S=>
 match args,S with
 | [.ptr 900 0,k],(900,.box a) ::r=>
  (match arg (.st .nm) k with
  | some k=>(match a,r with
   | .agg [.nilm],[]=>some (A none k)
   | .map 901,[(901,.map (.st .nm) (.st .shape) m)]=>some (A (some m) k)
   | _,_=>none)
  | _=>none)
 | _,_=>none
theorem A8 [Tabs] {P:Program} {f:Nat} {A:Option (List (Nam × Shape))→Nam→Ans} (he:aD P f)
  (h0:∀k,ax P f [.ptr 900 0,.st .nm k] [(900,.box (.agg [.nilm]))] (A none k))
  (h1:∀m k,ax P f [.ptr 900 0,.st .nm k] [(900,.box (.map 901)),(901,.map (.st .nm) (.st .shape) m)] (A (some m) k)):ak P f (wT A):=by
 intro args S B hB ho _
 unfold wT at hB
 split at hB
 ·split at hB
  ·rename_i k hk
   split at hB
   ·cases hB
    exact ⟨he,ax.args (.cons (Rd.refl _) (.cons (Rd.arg hk) .nil)) (h0 _)⟩
   ·cases hB
    exact ⟨he,ax.args (.cons (Rd.refl _) (.cons (Rd.arg hk) .nil)) (h1 _ _)⟩
   ·cases hB
  ·cases hB
 ·cases hB
def lB (A:Option (List (Nam × Shape))→Shape→Ans):Pat:=fun args S=>
 match args,S with
 | [s,.ptr 900 0],(900,.box a) ::r=>
  (match arg (.st .shape) s with
  | some s=>(match a,r with
   | .agg [.nilm],[]=>some (A none s)
   | .map 901,[(901,.map (.st .nm) (.st .shape) m)]=>some (A (some m) s)
   | _,_=>none)
  | _=>none)
 | _,_=>none
theorem pd [Tabs] {P:Program} {f:Nat} {A:Option (List (Nam × Shape))→Shape→Ans} (he:aD P f)
  (h0:∀s,Wf (.st .shape) s→(∀q,(A none s).ob=some q→q)→ax P f [.st .shape s,.ptr 900 0] [(900,.box (.agg [.nilm]))] (A none s))
  (h1:∀m s,Wf (.st .shape) s→(∀q,(A (some m) s).ob=some q→q)→ax P f [.st .shape s,.ptr 900 0] [(900,.box (.map 901)),(901,.map (.st .nm) (.st .shape) m)] (A (some m) s)):ak P f (lB A):=by
 intro args S B hB ho _
 unfold lB at hB
 split at hB
 ·split at hB
  ·rename_i k hk
   split at hB
   ·cases hB
    exact ⟨he,ax.args (.cons (Rd.arg hk) (.cons (Rd.refl _) .nil)) (ax.wf fun hw=>h0 _ hw.cons.1 ho)⟩
   ·cases hB
    exact ⟨he,ax.args (.cons (Rd.arg hk) (.cons (Rd.refl _) .nil)) (ax.wf fun hw=>h1 _ _ hw.cons.1 ho)⟩
   ·cases hB
  ·cases hB
 ·cases hB
def pe (A0:Ans) (A1:Bndg→List Bndg→Ans):Pat:=fun args S=>
 match args,S with
 | [a],[]=>(match arg (.lst (.st .bind)) a with | some []=>some A0 | some (b ::r)=>some (A1 b r) | none=>none)
 | _,_=>none
theorem ue [Tabs] {P:Program} {f:Nat} {A0:Ans} {A1:Bndg→List Bndg→Ans} (he:aD P f)
  (h0:ax P f [.lst (.st .bind) [] none] [] A0) (h1:∀b r,Wf (.lst (.st .bind)) (b ::r)→ax P f [.lst (.st .bind) (b ::r) none] [] (A1 b r)):ak P f (pe A0 A1):=by
 intro args S B hB ho _
 unfold pe at hB
 split at hB
 ·split at hB
  ·rename_i hk
   cases hB
   exact ⟨he,ax.args (.cons (Rd.arg hk) .nil) h0⟩
  ·rename_i b r hk
   cases hB
   exact ⟨he,ax.args (.cons (Rd.arg hk) .nil) (ax.wf fun hw=>h1 _ _ hw.one)⟩
  ·cases hB
 ·cases hB
end Go.Pd
end
section
namespace Go.Pd
open Go.AL
def ofK (k:Int):Shape:=⟨k,[],[],[],[]⟩
theorem mX (b:Bndg) (o m:Str):∀l:List Bndg,bg (l++[b]) o m=if b.pkg=o/\b.name=m then some b.shape else bg l o m
 | []=>rfl
 | x ::r=>by
  rw [List.cons_append,bg,mX b o m r,bg]
  by_cases h:b.pkg=o/\b.name=m
  ·rw [if_pos h,if_pos h]
  ·rw [if_neg h,if_neg h]
theorem uf (l:List Bndg) (o m:Str) (d:Bndg) {k:Nat} (h:k < l.length):bg (l.take (k+1)) o m=if (l.getD k d).pkg=o/\(l.getD k d).name=m then some (l.getD k d).shape else bg (l.take k) o m:=by
 have e:l.take (k+1)=l.take k++[l.getD k d]:=by rw [List.take_succ];simp [List.getD_eq_getElem?_getD,h]
 rw [e,mX]
def nG (o m:Str):Shape:=⟨10,o,m,[],[]⟩
def mY (m:Str) (s:Shape):Bndg:=⟨[],m,s⟩
def di:Flt:=⟨0,0⟩
def az (T:Trm→Envt→Shape × Flt) (p:Trm) (want:Shape) (env:Envt):Flt:=
 if (T p env).2.err=0/\je (T p env).1 want=false then ⟨140,p.pos⟩ else (T p env).2
def dL (T:Trm→Envt→Shape × Flt) (env:Envt):List Trm→List Shape→Flt
 | p ::r,w ::q=>if (az T p w env).err=0 then dL T env r q else az T p w env
 | _,_=>di
def cC (T:Trm→Envt→Shape × Flt) (env:Envt) (w:Shape):List Trm→Flt
 | p ::r=>if (az T p w env).err=0 then cC T env w r else az T p w env
 | []=>di
def ae (l:List Bndg) (at_:Int):List Shape→List Shape × Flt
 | []=>([],di)
 | s ::r=>if (au s l).2=0 then (if (ae l at_ r).2.err=0 then ((au s l).1 ::(ae l at_ r).1,di) else ([],(ae l at_ r).2)) else ([],⟨(au s l).2,at_⟩)
def cb (T:Trm→Envt→Shape × Flt) (env:Envt):List Trm→List Shape × (Shape × Flt)
 | []=>([],(aq,di))
 | p ::r=>if (T p env).2.err=0 then ((T p env).1 ::(cb T env r).1,(cb T env r).2) else ([],T p env)
def bP (T:Trm→Envt→Shape × Flt) (t:Trm) (env:Envt):Shape × Flt:=
 let r:=T (t.parts.getD 0 aC) env
 if r.2.err=0 then
  if r.1.kind=4 then
   (if (cC T env (ofK 4) (t.parts.drop 1)).err=0 then (r.1,di) else (r.1,cC T env (ofK 4) (t.parts.drop 1)))
  else if r.1.kind=8/\r.1.parts.length=t.parts.length then
   (if (dL T env (t.parts.drop 1) r.1.parts).err=0 then (r.1.parts.getD (r.1.parts.length - 1) aq,di) else (r.1,dL T env (t.parts.drop 1) r.1.parts))
  else (r.1,⟨140,t.pos⟩)
 else r
def bR (T:Trm→Envt→Shape × Flt) (t:Trm) (env:Envt):Shape × Flt:=
 let r:=T (t.parts.getD 0 aC) env
 if r.2.err=0 then
  if r.1.kind=4 then r
  else if r.1.kind=6/\(bc r.1 t.name).isSome=true then ((bc r.1 t.name).getD aq,di)
  else (r.1,⟨140,t.pos⟩)
 else r
def da (l:List Bndg) (m:Str):Option Shape:=match l with
 | []=>none
 | b ::r=>match da r m with
  | some s=>some s
  | none=>if b.name=m then some b.shape else none
def cJ (T:Trm→Envt→Shape × Flt) (t:Trm) (env:Envt):Shape × Flt:=
 match da env.own t.name with
 | none=>(aq,⟨110,t.pos⟩)
 | some s=>if t.kind=17 then (b6 s,az T (t.parts.getD 0 aC) (nG env.self t.name) env) else (nG env.self t.name,az T (t.parts.getD 0 aC) (b6 s) env)
def fc (T:Trm→Envt→Shape × Flt) (env:Envt) (w:Shape):List Trm→List Str→List Shape→Flt
 | p ::r,v ::vs,s ::ss=>if (az T p w (bO env [mY v s])).err=0 then fc T env w r vs ss else az T p w (bO env [mY v s])
 | _,_,_=>di
def eo:List Str→List Shape→List Bndg
 | m ::r,s ::q=>mY m s ::eo r q
 | _,_=>[]
def aG (T:Trm→Envt→Shape × Flt) (t:Trm) (env:Envt):Shape × Flt:=
 let l:=ae env.types t.pos t.shapes
 if l.2.err=0 then
  if t.kind=6 then
   let r:=T (t.parts.getD 0 aC) (bO env (eo t.names l.1))
   (⟨8,[],[],[],l.1++[r.1]⟩,r.2)
  else if t.kind=11 then
   (if (cC T env (l.1.getD 0 aq) t.parts).err=0 then (⟨5,[],[],[],l.1⟩,di) else (l.1.getD 0 aq,cC T env (l.1.getD 0 aq) t.parts))
  else if t.kind=15 then (l.1.getD 0 aq,az T (t.parts.getD 0 aC) (l.1.getD 0 aq) env)
  else if t.kind=12 then
   (l.1.getD 0 aq,
    if (az T (t.parts.getD 0 aC) (ofK 2) env).err=0 then
     (if (az T (t.parts.getD 1 aC) (l.1.getD 0 aq) env).err=0 then az T (t.parts.getD 2 aC) (l.1.getD 0 aq) env else az T (t.parts.getD 1 aC) (l.1.getD 0 aq) env)
    else az T (t.parts.getD 0 aC) (ofK 2) env)
  else
   (l.1.getD (l.1.length - 1) aq,
    if (az T (t.parts.getD 0 aC) ⟨7,[],[],t.names,l.1.take (l.1.length - 1)⟩ env).err=0 then fc T env (l.1.getD (l.1.length - 1) aq) (t.parts.drop 1) t.vars l.1
    else az T (t.parts.getD 0 aC) ⟨7,[],[],t.names,l.1.take (l.1.length - 1)⟩ env)
 else (aq,l.2)
def ao (T:Trm→Envt→Shape × Flt) (t:Trm) (env:Envt):Shape × Flt:=
 if t.kind=1 then (ofK 1,di)
 else if t.kind=2 then (ofK 3,di)
 else if t.kind=3∨t.kind=4 then (ofK 2,di)
 else if t.kind=5 then
  match bg env.values t.pkg t.name with
  | some s=>(b6 s,di)
  | none=>(aq,⟨110,t.pos⟩)
 else if t.kind=7 then bP T t env
 else if t.kind=8 then
  (if (cb T env t.parts).2.2.err=0 then (⟨6,[],[],t.names,(cb T env t.parts).1⟩,di) else (cb T env t.parts).2)
 else if t.kind=9 then bR T t env
 else if t.kind=10 then (⟨7,[],[],[t.name],[(T (t.parts.getD 0 aC) env).1]⟩,(T (t.parts.getD 0 aC) env).2)
 else if t.kind=14 then
  (if (T (t.parts.getD 0 aC) env).2.err=0 then T (t.parts.getD 1 aC) (bO env [mY t.name (T (t.parts.getD 0 aC) env).1]) else T (t.parts.getD 0 aC) env)
 else if t.kind=16∨t.kind=17 then cJ T t env
 else aG T t env
def fP (t:Trm) (r:Shape × Flt):Shape × Flt:=
 if r.2.err=0 then (if aA r.1=0 then (b6 r.1,di) else (aq,⟨aA r.1,t.pos⟩)) else (aq,r.2)
def aa:Nat→Trm→Envt→Shape × Flt
 | 0,_,_=>(aq,di)
 | n+1,t,env=>fP t (ao (aa n) t env)
def cD (t:Trm) (env:Envt):Shape × Flt:=if ba t=0 then aa (szT t) t env else (aq,⟨ba t,0⟩)
theorem A9 {n:Nat} {t:Trm} {e:Envt} (h:(aa n t e).2.err=0):(aa n t e).1.names=[]∨(aa n t e).1.names.length=(aa n t e).1.parts.length:=by
 cases n with
 | zero=>exact .inl rfl
 | succ n=>
  rw [show aa (n+1) t e=fP t (ao (aa n) t e) from rfl] at h ⊢
  revert h
  generalize ao (aa n) t e=r
  intro h
  unfold fP at h ⊢
  by_cases h1:r.2.err=0
  ·rw [if_pos h1] at h ⊢
   by_cases h2:aA r.1=0
   ·rw [if_pos h2];exact Cr h2
   ·rw [if_neg h2] at h;exact absurd h h2
  ·rw [if_neg h1] at h;exact absurd h h1
theorem pg {t:Trm} {n j:Nat} (d:Trm) (hz:szT t<=n+1) (hf:allT ag t=true) (hj:j < t.parts.length) :
  szT (t.parts.getD j d)<=n/\allT ag (t.parts.getD j d)=true/\szT (t.parts.getD j d)+1<=szT t:=by
 have m:=AL.getD_mem t.parts j d hj
 have h1:=eX m
 have h2:=ek t
 rw [allT_eq,Bool.and_eq_true,allTL_all,List.all_eq_true] at hf
 exact ⟨by omega,hf.2 _ m,by omega⟩
theorem eG (l:List Bndg) (a:Int) (s:Shape) (r:List Shape):ae l a (s ::r)=if (au s l).2=0 then (if (ae l a r).2.err=0 then ((au s l).1 ::(ae l a r).1,di) else ([],(ae l a r).2)) else ([],⟨(au s l).2,a⟩):=rfl
theorem qM {l:List Bndg} {a:Int}:∀{s:List Shape},(ae l a s).2.err=0→ae l a s=((ae l a s).1,di)
 | [],_=>rfl
 | s ::r,h=>by
  rw [eG] at h ⊢
  by_cases h1:(au s l).2=0
  ·rw [if_pos h1] at h ⊢
   by_cases h2:(ae l a r).2.err=0
   ·rw [if_pos h2]
   ·rw [if_neg h2] at h;exact absurd h h2
  ·rw [if_neg h1] at h;exact absurd h h1
theorem wU {l:List Bndg} {a:Int}:∀{s:List Shape},¬(ae l a s).2.err=0→ae l a s=([],(ae l a s).2)
 | [],h=>absurd rfl h
 | s ::r,h=>by
  rw [eG] at h ⊢
  by_cases h1:(au s l).2=0
  ·rw [if_pos h1] at h ⊢
   by_cases h2:(ae l a r).2.err=0
   ·rw [if_pos h2] at h;exact absurd rfl h
   ·rw [if_neg h2]
  ·rw [if_neg h1]
theorem ph (b:Bndg) (m:Str):∀l:List Bndg,da (l++[b]) m=if b.name=m then some b.shape else da l m
 | []=>rfl
 | x ::r=>by
  rw [List.cons_append,da,ph b m r,da]
  by_cases h:b.name=m
  ·rw [if_pos h,if_pos h]
  ·rw [if_neg h,if_neg h]
theorem wV (l:List Bndg) (m:Str) (d:Bndg) {k:Nat} (h:k < l.length):da (l.take (k+1)) m=if (l.getD k d).name=m then some (l.getD k d).shape else da (l.take k) m:=by
 have e:l.take (k+1)=l.take k++[l.getD k d]:=by rw [List.take_succ];simp [List.getD_eq_getElem?_getD,h]
 rw [e,ph]
theorem kc {T:Trm→Envt→Shape × Flt} {t:Trm} {env:Envt} (h:da env.own t.name=none):cJ T t env=(aq,⟨110,t.pos⟩):=by unfold cJ;rw [h]
theorem kd {T:Trm→Envt→Shape × Flt} {t:Trm} {env:Envt} {s:Shape} (h:da env.own t.name=some s):cJ T t env=if t.kind=17 then (b6 s,az T (t.parts.getD 0 aC) (nG env.self t.name) env) else (nG env.self t.name,az T (t.parts.getD 0 aC) (b6 s) env):=by unfold cJ;rw [h]
theorem Aa (e:Envt):bO e []=e:=by
 cases e
 unfold bO
 rw [List.append_nil]
theorem ug (e:Envt) (l r:List Bndg):bO (bO e l) r=bO e (l++r):=by
 unfold bO
 rw [List.append_assoc]
theorem pj {l:List Bndg} {a:Int}:∀{ss:List Shape},(ae l a ss).2.err=0→(ae l a ss).1.length=ss.length
 | [],_=>rfl
 | s ::r,h=>by
  rw [eG] at h ⊢
  by_cases h1:(au s l).2=0
  ·rw [if_pos h1] at h ⊢
   by_cases h2:(ae l a r).2.err=0
   ·rw [if_pos h2,List.length_cons,List.length_cons,pj h2]
   ·rw [if_neg h2] at h;exact absurd h h2
  ·rw [if_neg h1] at h;exact absurd h h1
theorem Ab {n:Nat} {t:Trm} {e:Envt} (h:(aa n t e).2.err=0):(aa n t e).2=di:=by
 cases n with
 | zero=>rfl
 | succ n=>
  rw [show aa (n+1) t e=fP t (ao (aa n) t e) from rfl] at h ⊢
  revert h
  generalize ao (aa n) t e=r
  intro h
  unfold fP at h ⊢
  by_cases h1:r.2.err=0
  ·rw [if_pos h1] at h ⊢
   by_cases h2:aA r.1=0
   ·rw [if_pos h2]
   ·rw [if_neg h2] at h;exact absurd h h2
  ·rw [if_neg h1] at h;exact absurd h h1
theorem Ac {n:Nat} {t:Trm} {w:Shape} {e:Envt} (h:(az (aa n) t w e).err=0):az (aa n) t w e=di:=by
 unfold az at h ⊢
 by_cases c:(aa n t e).2.err=0/\je (aa n t e).1 w=false
 ·rw [if_pos c] at h;exact absurd (show (140:Int)=0 from h) (by decide)
 ·rw [if_neg c] at h ⊢;exact Ab h
theorem Ad {c:Prop} [Decidable c] {a b:Bool} {P:Prop} (h:(if c then a else b)=true) (f:c→a=true→P) (g:¬c→b=true→P):P:=by
 by_cases k:c
 ·rw [if_pos k] at h;exact f k h
 ·rw [if_neg k] at h;exact g k h
structure RoomR (t:Trm):Prop where
 k6:t.kind=6→t.names.length<=4096/\t.shapes.length=t.names.length/\t.parts.length=1
 k7:t.kind=7→0 < t.parts.length
 k1:t.kind=9∨t.kind=10∨t.kind=16∨t.kind=17→t.parts.length=1
 k11:t.kind=11→t.shapes.length=1
 k12:t.kind=12→t.shapes.length=1/\t.parts.length=3
 k13:t.kind=13→t.vars.length=t.names.length/\t.shapes.length=t.names.length+1/\t.parts.length=t.names.length+1
 k14:t.kind=14→t.parts.length=2
 k15:t.kind=15→t.shapes.length=1/\t.parts.length=1
 all:1<=t.kind/\t.kind<=17
theorem yQ {t:Trm} (h:allT ag t=true):RoomR t:=by
 rw [allT_eq,Bool.and_eq_true] at h
 have h:=h.1
 unfold ag at h
 rw [Bool.and_eq_true] at h
 have hb:=h.2
 unfold gT dE at hb
 repeat' (refine Ad hb (fun hk hb=>?_) (fun hk hb=>?_))
 all_goals simp only [Bool.and_eq_true,decide_eq_true_eq,Bool.false_eq_true] at hb
 all_goals (refine ⟨?_,?_,?_,?_,?_,?_,?_,?_,?_⟩ <;> intros <;> (repeat' apply And.intro) <;> omega)
theorem uh (t:Trm):t.parts.length+1<=szT t:=by
 have h1:∀l:List Trm,l.length<=szTL l:=by
  intro l
  induction l with
  | nil=>exact Nat.zero_le _
  | cons a r ih=>rw [szTL];have:=du a;simp;omega
 have:=h1 t.parts
 have:=ek t
 omega
theorem sq {t:Trm} {n v:Nat} (hz:szT t<=n+1) (hf:allT ag t=true) (hv:v+4096 *szT t<=100000000) {j w:Nat} (d:Trm) (hj:j < t.parts.length) (hw:w<=v+4096) :
  szT (t.parts.getD j d)<=n/\allT ag (t.parts.getD j d)=true/\w+4096 *szT (t.parts.getD j d)<=100000000:=by
 have h:=pg d hz hf hj
 exact ⟨h.1,h.2.1,by omega⟩
theorem ndF {p:Prop} [Decidable p] (h:(!decide p)=true):¬p:=by simpa using h
theorem ndT {p:Prop} [Decidable p] (h:¬(!decide p)=true):p:=by simpa using h
end Go.Pd
end
section
namespace Go.Pd
open Go.AL
section Agree
variable {T U:Trm→Envt→Shape × Flt} {R:Envt→Envt→Prop} {Q:Trm→Prop}
variable (hT:∀p,Q p→∀e f,R e f→T p e=U p f) (hW:∀e f l,R e f→R (bO e l) (bO f l))
include hT
include hW
end Agree
structure Alike (b:Bndg) (e f:Envt):Prop where
 types:e.types=f.types
 own:e.own=f.own
 self:e.self=f.self
 vals:∀o m,¬(o=b.pkg/\m=b.name)→bg e.values o m=bg f.values o m
end Go.Pd
end
section
namespace Go.Pd
open Go.AL
abbrev SR3:=Shape × Int × Flt
abbrev TR3:=Trm × Int × Flt
end Go.Pd
end
section
namespace Go.Pd
open Go.AL
abbrev st (l:List Tokn) (a:Int):PS:=⟨l,a,0,0⟩
variable {l:List Tokn}
section
variable {l:List Tokn} {R:PS→Shape × PS} {R':Int→SR3}
end
end Go.Pd
end
section
namespace Go.AL
variable [Tabs]
section
variable {P:Program}
def p4 (τ σ ρ μ:Ty) (F:den τ→den σ→den ρ→den μ→Ans):Pat
 | [a,b,c,d],[]=>(match arg τ a,arg σ b,arg ρ c,arg μ d with | some a,some b,some c,some d=>some (F a b c d) | _,_,_,_=>none)
 | _,_=>none
def p5 (τ σ ρ μ ν:Ty) (F:den τ→den σ→den ρ→den μ→den ν→Ans):Pat
 | [a,b,c,d,e],[]=>(match arg τ a,arg σ b,arg ρ c,arg μ d,arg ν e with | some a,some b,some c,some d,some e=>some (F a b c d e) | _,_,_,_,_=>none)
 | _,_=>none
theorem FO {f:Nat} {τ σ ρ μ ν:Ty} {F:den τ→den σ→den ρ→den μ→den ν→Ans} (he:aD P f)
  (h:∀x y z u v,Wf τ x→Wf σ y→Wf ρ z→(∀q,(F x y z u v).ob=some q→q)→ax P f [inj τ x,inj σ y,inj ρ z,inj μ u,inj ν v] [] (F x y z u v)):ak P f (p5 τ σ ρ μ ν F):=by
 intro args S A hA ho _
 unfold p5 at hA
 split at hA
 ·split at hA
  ·rename_i x y z u v hx hy hz hu hv
   simp at hA
   subst hA
   exact ⟨he,ax.args (.cons (Rd.arg hx) (.cons (Rd.arg hy) (.cons (Rd.arg hz) (.cons (Rd.arg hu) (.cons (Rd.arg hv) .nil))))) (ax.wf fun hw=>h x y z u v hw.one hw.two hw.three ho)⟩
  ·cases hA
 ·cases hA
end
end Go.AL
end
section
namespace Go.Pd
open Go.AL
def dM (p:Int):Bool:=decide (0<=p) && decide (p<=1114111) && (decide (p < 55296) || decide (57343 < p))
def iz (n:Int):UInt8:=UInt8.ofNat n.toNat
def cK (p:Int):Str:=
 if p < 128 then [iz p]
 else if p < 2048 then [iz (192+p / 64),iz (128+p % 64)]
 else if p < 65536 then [iz (224+p / 4096),iz (128+p / 64 % 64),iz (128+p % 64)]
 else [iz (240+p / 262144),iz (128+p / 4096 % 64),iz (128+p / 64 % 64),iz (128+p % 64)]
def bC (s:Str):Nat:=if 240<=bI (s.getD 0 0) then 4 else if 224<=bI (s.getD 0 0) then 3 else if 192<=bI (s.getD 0 0) then 2 else 1
def fe (s:Str):Int:=if 240<=bI (s.getD 0 0) then bI (s.getD 0 0) - 240 else if 224<=bI (s.getD 0 0) then bI (s.getD 0 0) - 224 else if 192<=bI (s.getD 0 0) then bI (s.getD 0 0) - 192 else bI (s.getD 0 0)
def aV (s:Str):Nat→Int
 | 0=>fe s
 | 1=>fe s
 | k+2=>aV s (k+1) *64+bI (s.getD (k+1) 0) - 128
def cn (s:Str):Int × Int:=
 if s=[] then (0,0) else if s.length < bC s then (0,0)
 else if dM (aV s (bC s))=true/\cK (aV s (bC s))=s.take (bC s) then (aV s (bC s),bC s) else (0,0)
end Go.Pd
end
section
namespace Go.Pd
open Go.AL
theorem dX {n:Int} {b:UInt8} (h0:0<=n) (h1:n<=255):iz n=b↔n=bI b:=by
 unfold iz bI
 constructor
 ·intro e
  rw [←e,UInt8.toNat_ofNat']
  have:n.toNat % 2 ^ 8=n.toNat:=Nat.mod_eq_of_lt (by omega)
  rw [this]
  omega
 ·intro e
  rw [e,Int.toNat_natCast]
  exact UInt8.ofNat_toNat
theorem Cs {p:Int} (h:0<=p) (a:UInt8):cK p=[a]↔p < 128/\p=bI a:=by
 unfold cK
 split
 ·simp only [List.cons.injEq,and_true]
  rw [dX h (by omega)]
  omega
 ·refine ⟨fun e=>?_,fun e=>by omega⟩
  revert e
  split <;> (try split) <;> simp
theorem Ct {p:Int} (h:0<=p) (a b:UInt8):cK p=[a,b]↔128<=p/\p < 2048/\192+p / 64=bI a/\128+p % 64=bI b:=by
 unfold cK
 split
 ·refine ⟨fun e=>?_,fun e=>by omega⟩
  simp at e
 split
 ·simp only [List.cons.injEq,and_true]
  rw [dX (by omega) (by omega),dX (by omega) (by omega)]
  omega
 ·refine ⟨fun e=>?_,fun e=>by omega⟩
  revert e
  split <;> simp
theorem Cu {p:Int} (h:0<=p) (a b c:UInt8):cK p=[a,b,c]↔2048<=p/\p < 65536/\224+p / 4096=bI a/\128+p / 64 % 64=bI b/\128+p % 64=bI c:=by
 unfold cK
 split
 ·refine ⟨fun e=>?_,fun e=>by omega⟩
  simp at e
 split
 ·refine ⟨fun e=>?_,fun e=>by omega⟩
  simp at e
 split
 ·simp only [List.cons.injEq,and_true]
  rw [dX (by omega) (by omega),dX (by omega) (by omega),dX (by omega) (by omega)]
  omega
 ·refine ⟨fun e=>?_,fun e=>by omega⟩
  simp at e
theorem Cv {p:Int} (h:0<=p) (hp:p<=1114111) (a b c d:UInt8):cK p=[a,b,c,d]↔65536<=p/\240+p / 262144=bI a/\128+p / 4096 % 64=bI b/\128+p / 64 % 64=bI c/\128+p % 64=bI d:=by
 unfold cK
 split
 ·refine ⟨fun e=>?_,fun e=>by omega⟩
  simp at e
 split
 ·refine ⟨fun e=>?_,fun e=>by omega⟩
  simp at e
 split
 ·refine ⟨fun e=>?_,fun e=>by omega⟩
  simp at e
 ·simp only [List.cons.injEq,and_true]
  rw [dX (by omega) (by omega),dX (by omega) (by omega),dX (by omega) (by omega),dX (by omega) (by omega)]
  omega
theorem j7 (p:Int):dM p=true↔0<=p/\p<=1114111/\(p < 55296∨57343 < p):=by
 unfold dM
 simp only [Bool.and_eq_true,Bool.or_eq_true,decide_eq_true_eq,and_assoc]
theorem ui (s:Str):(cn s).2=(gJ s:Int):=by
 match s with
 | []=>rfl
 | b ::r=>
  rw [Ce]
  have hb:=UInt8.toNat_lt b
  have e0:bI ((b ::r).getD 0 0)=(b.toNat:Int):=rfl
  unfold cn
  rw [if_neg (List.cons_ne_nil _ _)]
  by_cases c4:240<=(b.toNat:Int)
  ·have hL:bC (b ::r)=4:=by unfold bC;rw [e0,if_pos c4]
   rw [hL]
   match r with
   | []=>rw [if_pos (by simp)];unfold jI;simp only [List.length_nil];(repeat' split) <;> first | rfl | omega
   | [c1]=>rw [if_pos (by simp)];unfold jI;simp only [List.length_cons,List.length_nil];(repeat' split) <;> first | rfl | omega
   | [c1,c2]=>rw [if_pos (by simp)];unfold jI;simp only [List.length_cons,List.length_nil];(repeat' split) <;> first | rfl | omega
   | c1 ::c2 ::c3 ::r=>
    have h1:=UInt8.toNat_lt c1
    have h2:=UInt8.toNat_lt c2
    have h3:=UInt8.toNat_lt c3
    have hf:aV (b ::c1 ::c2 ::c3 ::r) 4=((((b.toNat:Int) - 240) *64+c1.toNat - 128) *64+c2.toNat - 128) *64+c3.toNat - 128:=by
     have:fe (b ::c1 ::c2 ::c3 ::r)=(b.toNat:Int) - 240:=by unfold fe;rw [show bI ((b ::c1 ::c2 ::c3 ::r).getD 0 0)=(b.toNat:Int) from rfl,if_pos c4]
     unfold aV aV aV aV
     rw [this]
     rfl
    rw [if_neg (by simp),hf]
    have ht:(b ::c1 ::c2 ::c3 ::r).take 4=[b,c1,c2,c3]:=rfl
    rw [ht]
    generalize hp:((((b.toNat:Int) - 240) *64+c1.toNat - 128) *64+c2.toNat - 128) *64+c3.toNat - 128=p
    have key:(dM p=true/\cK p=[b,c1,c2,c3])↔(0<=p/\p<=1114111/\(p < 55296∨57343 < p))/\(65536<=p/\240+p / 262144=(b.toNat:Int)/\128+p / 4096 % 64=(c1.toNat:Int)/\128+p / 64 % 64=(c2.toNat:Int)/\128+p % 64=(c3.toNat:Int)):=by
     rw [j7]
     exact and_congr_right fun e=>Cv e.1 e.2.1 _ _ _ _
    unfold jI
    simp only [List.length_cons,List.getD_cons_zero,List.getD_cons_succ]
    rw [show p / 4096=p / 64 / 64 by omega,show p / 262144=p / 64 / 64 / 64 by omega] at key
    generalize hu:p / 64=u at key
    generalize hv:u / 64=v at key
    generalize hw:v / 64=w at key
    split
    ·next h=>
     have h:=key.1 h
     have x0:b.toNat / 8=30/\c1.toNat / 64=2/\c2.toNat / 64=2/\c3.toNat / 64=2:=by omega
     have x1:b.toNat % 8 *262144+c1.toNat % 64 *4096+c2.toNat % 64 *64+c3.toNat % 64=p.toNat:=by omega
     rw [x1,if_neg (by omega),if_neg (by omega),if_neg (by omega),if_pos ⟨x0.1,⟨by omega,x0.2.1⟩,⟨by omega,x0.2.2.1⟩,by omega,x0.2.2.2⟩,if_pos (by omega)]
    ·next h=>
     by_cases x0:b.toNat / 8=30/\c1.toNat / 64=2/\c2.toNat / 64=2/\c3.toNat / 64=2
     ·have x1:((b.toNat % 8 *262144+c1.toNat % 64 *4096+c2.toNat % 64 *64+c3.toNat % 64:Nat):Int)=p:=by omega
      have x2:¬((b.toNat % 8 *262144+c1.toNat % 64 *4096+c2.toNat % 64 *64+c3.toNat % 64)≥65536/\((b.toNat % 8 *262144+c1.toNat % 64 *4096+c2.toNat % 64 *64+c3.toNat % 64) < 55296∨57344<=(b.toNat % 8 *262144+c1.toNat % 64 *4096+c2.toNat % 64 *64+c3.toNat % 64)/\(b.toNat % 8 *262144+c1.toNat % 64 *4096+c2.toNat % 64 *64+c3.toNat % 64)<=1114111)):=fun e=>h (key.2 ⟨by omega,by omega⟩)
      rw [if_neg (by omega),if_neg (by omega),if_neg (by omega),if_pos ⟨x0.1,⟨by omega,x0.2.1⟩,⟨by omega,x0.2.2.1⟩,by omega,x0.2.2.2⟩,if_neg x2]
      rfl
     ·rw [if_neg (by omega),if_neg (by omega),if_neg (by omega),if_neg (fun e=>x0 ⟨e.1,e.2.1.2,e.2.2.1.2,e.2.2.2.2⟩)]
      rfl
  by_cases c3:224<=(b.toNat:Int)
  ·have hL:bC (b ::r)=3:=by unfold bC;rw [e0,if_neg c4,if_pos c3]
   rw [hL]
   match r with
   | []=>rw [if_pos (by simp)];unfold jI;simp only [List.length_nil];(repeat' split) <;> first | rfl | omega
   | [c1]=>rw [if_pos (by simp)];unfold jI;simp only [List.length_cons,List.length_nil];(repeat' split) <;> first | rfl | omega
   | c1 ::c2 ::r=>
    have h1:=UInt8.toNat_lt c1
    have h2:=UInt8.toNat_lt c2
    have hf:aV (b ::c1 ::c2 ::r) 3=(((b.toNat:Int) - 224) *64+c1.toNat - 128) *64+c2.toNat - 128:=by
     have:fe (b ::c1 ::c2 ::r)=(b.toNat:Int) - 224:=by unfold fe;rw [show bI ((b ::c1 ::c2 ::r).getD 0 0)=(b.toNat:Int) from rfl,if_neg c4,if_pos c3]
     unfold aV aV aV
     rw [this]
     rfl
    rw [if_neg (by simp),hf]
    have ht:(b ::c1 ::c2 ::r).take 3=[b,c1,c2]:=rfl
    rw [ht]
    generalize hp:(((b.toNat:Int) - 224) *64+c1.toNat - 128) *64+c2.toNat - 128=p
    have key:(dM p=true/\cK p=[b,c1,c2])↔(0<=p/\p<=1114111/\(p < 55296∨57343 < p))/\(2048<=p/\p < 65536/\224+p / 4096=(b.toNat:Int)/\128+p / 64 % 64=(c1.toNat:Int)/\128+p % 64=(c2.toNat:Int)):=by
     rw [j7]
     exact and_congr_right fun e=>Cu e.1 _ _ _
    unfold jI
    simp only [List.length_cons,List.getD_cons_zero,List.getD_cons_succ]
    rw [show p / 4096=p / 64 / 64 by omega] at key
    generalize hu:p / 64=u at key
    generalize hv:u / 64=v at key
    split
    ·next h=>
     have h:=key.1 h
     have x0:b.toNat / 16=14/\c1.toNat / 64=2/\c2.toNat / 64=2:=by omega
     have x1:b.toNat % 16 *4096+c1.toNat % 64 *64+c2.toNat % 64=p.toNat:=by omega
     rw [x1,if_neg (by omega),if_neg (by omega),if_pos ⟨x0.1,⟨by omega,x0.2.1⟩,by omega,x0.2.2⟩,if_pos (by omega)]
    ·next h=>
     by_cases x0:b.toNat / 16=14/\c1.toNat / 64=2/\c2.toNat / 64=2
     ·have x1:((b.toNat % 16 *4096+c1.toNat % 64 *64+c2.toNat % 64:Nat):Int)=p:=by omega
      have x2:¬((b.toNat % 16 *4096+c1.toNat % 64 *64+c2.toNat % 64)≥2048/\((b.toNat % 16 *4096+c1.toNat % 64 *64+c2.toNat % 64) < 55296∨57344<=(b.toNat % 16 *4096+c1.toNat % 64 *64+c2.toNat % 64)/\(b.toNat % 16 *4096+c1.toNat % 64 *64+c2.toNat % 64)<=1114111)):=fun e=>h (key.2 ⟨by omega,by omega⟩)
      rw [if_neg (by omega),if_neg (by omega),if_pos ⟨x0.1,⟨by omega,x0.2.1⟩,by omega,x0.2.2⟩,if_neg x2]
      rfl
     ·rw [if_neg (by omega),if_neg (by omega),if_neg (fun e=>x0 ⟨e.1,e.2.1.2,e.2.2.2⟩),if_neg (by omega)]
      rfl
  by_cases c2:192<=(b.toNat:Int)
  ·have hL:bC (b ::r)=2:=by unfold bC;rw [e0,if_neg c4,if_neg c3,if_pos c2]
   rw [hL]
   match r with
   | []=>rw [if_pos (by simp)];unfold jI;simp only [List.length_nil];(repeat' split) <;> first | rfl | omega
   | c1 ::r=>
    have h1:=UInt8.toNat_lt c1
    have hf:aV (b ::c1 ::r) 2=((b.toNat:Int) - 192) *64+c1.toNat - 128:=by
     have:fe (b ::c1 ::r)=(b.toNat:Int) - 192:=by unfold fe;rw [show bI ((b ::c1 ::r).getD 0 0)=(b.toNat:Int) from rfl,if_neg c4,if_neg c3,if_pos c2]
     unfold aV aV
     rw [this]
     rfl
    rw [if_neg (by simp),hf]
    have ht:(b ::c1 ::r).take 2=[b,c1]:=rfl
    rw [ht]
    generalize hp:((b.toNat:Int) - 192) *64+c1.toNat - 128=p
    have key:(dM p=true/\cK p=[b,c1])↔(0<=p/\p<=1114111/\(p < 55296∨57343 < p))/\(128<=p/\p < 2048/\192+p / 64=(b.toNat:Int)/\128+p % 64=(c1.toNat:Int)):=by
     rw [j7]
     exact and_congr_right fun e=>Ct e.1 _ _
    unfold jI
    simp only [List.length_cons,List.getD_cons_zero,List.getD_cons_succ]
    generalize hu:p / 64=u at key
    split
    ·next h=>
     have h:=key.1 h
     have x0:b.toNat / 32=6/\c1.toNat / 64=2:=by omega
     have x1:b.toNat % 32 *64+c1.toNat % 64=p.toNat:=by omega
     rw [x1,if_neg (by omega),if_pos ⟨x0.1,by omega,x0.2⟩,if_pos (by omega)]
    ·next h=>
     by_cases x0:b.toNat / 32=6/\c1.toNat / 64=2
     ·have x1:((b.toNat % 32 *64+c1.toNat % 64:Nat):Int)=p:=by omega
      generalize b.toNat % 32 *64+c1.toNat % 64=q at x1 ⊢
      have x2:¬(q≥128):=fun e=>h (key.2 ⟨by omega,by omega⟩)
      rw [if_neg (by omega),if_pos ⟨x0.1,by omega,x0.2⟩,if_neg x2]
      rfl
     ·rw [if_neg (by omega),if_neg (fun e=>x0 ⟨e.1,e.2.2⟩),if_neg (by omega),if_neg (by omega)]
      rfl
  ·have hL:bC (b ::r)=1:=by unfold bC;rw [e0,if_neg c4,if_neg c3,if_neg c2]
   rw [hL,if_neg (by simp)]
   have hf:aV (b ::r) 1=(b.toNat:Int):=by
    unfold aV fe
    rw [e0,if_neg c4,if_neg c3,if_neg c2]
   rw [hf]
   have ht:(b ::r).take 1=[b]:=rfl
   rw [ht]
   have key:(dM (b.toNat:Int)=true/\cK (b.toNat:Int)=[b])↔(b.toNat:Int) < 128:=by
    rw [j7,Cs (by omega)]
    constructor
    ·exact fun e=>e.2.1
    ·exact fun e=>⟨by omega,e,rfl⟩
   by_cases h:b.toNat < 128
   ·rw [if_pos (key.2 (by omega))];unfold jI;rw [if_pos h]
   ·rw [if_neg (fun e=>h (by have:=key.1 e;omega))];unfold jI;rw [if_neg h,if_neg (by omega),if_neg (by omega),if_neg (by omega)];rfl
theorem E8 (s:Str):gJ s<=s.length:=by
 by_cases h:s=[]
 ·subst h;exact Nat.le_refl _
 by_cases e:gJ s=0
 ·omega
 obtain ⟨_,h2,_,_,h5⟩:=oW h
 have:=h2 e
 omega
theorem yR {s:Str} {n:Nat} (h:n<=s.length):n+gJ (s.drop n)<=s.length:=by
 have:=E8 (s.drop n)
 rw [List.length_drop] at this
 omega
end Go.Pd
end
section
namespace Go.Pd
open Go.AL
mutual
def cW:Trm→Int→Int
 | ⟨_,_,_,_,_,_,_,ps,_⟩,m=>sizeTL ps 1 m
def sizeTL:List Trm→Int→Int→Int
 | [],n,_=>n
 | p ::r,n,m=>if n<=m then sizeTL r (n+cW p (m - n)) m else n
end
mutual
def deepT:Trm→Nat
 | ⟨_,_,_,_,_,_,_,ps,_⟩=>maxDT ps+1
def maxDT:List Trm→Nat
 | []=>0
 | p ::r=>max (deepT p) (maxDT r)
end
mutual
theorem sizeT_bd:∀(s:Trm) (m:Int),0<=m→1<=cW s m/\cW s m<=m+1
 | ⟨_,_,_,_,_,_,_,ps,_⟩,m,h=>by
  simp only [cW]
  exact sizeTL_bd ps 1 m (by omega) (by omega)
theorem sizeTL_bd:∀(l:List Trm) (n m:Int),1<=n→n<=m+1→1<=sizeTL l n m/\sizeTL l n m<=m+1
 | [],n,m,h1,h2=>by simp only [sizeTL];omega
 | p ::r,n,m,h1,h2=>by
  simp only [sizeTL]
  split
  ·have:=sizeT_bd p (m - n) (by omega)
   exact sizeTL_bd r _ m (by omega) (by omega)
  ·omega
end
mutual
theorem deepT_sz:∀s:Trm,deepT s<=szT s
 | ⟨_,_,_,_,_,_,_,ps,_⟩=>by
  have:=maxDT_sz ps
  simp only [deepT,szT]
  omega
theorem maxDT_sz:∀l:List Trm,maxDT l<=szTL l
 | []=>Nat.le_refl _
 | p ::r=>by
  have:=deepT_sz p
  have:=maxDT_sz r
  simp only [maxDT,szTL]
  omega
end
mutual
theorem sizeT_eq:∀(s:Trm) (m:Int),0<=m→cW s m=min (szT s:Int) (m+1)
 | ⟨_,_,_,_,_,_,_,ps,_⟩,m,h=>by
  simp only [cW,szT]
  rw [sizeTL_eq ps 1 m (by omega)]
  omega
theorem sizeTL_eq:∀(l:List Trm) (n m:Int),n<=m+1→sizeTL l n m=min (n+szTL l) (m+1)
 | [],n,m,h=>by simp only [sizeTL,szTL];omega
 | p ::r,n,m,h=>by
  simp only [sizeTL,szTL]
  have:=du p
  split
  ·rw [sizeT_eq p (m - n) (by omega),sizeTL_eq r _ m (by omega)]
   omega
  ·omega
end
mutual
theorem countT_size:∀(s:Trm) (m:Int),0<=m→(countT s m).1=min (szT s:Int) (m+1)
 | ⟨_,_,_,_,_,_,_,ps,_⟩,m,h=>by
  simp only [countT,szT]
  rw [countL_size ps m 1 0 (by omega)]
  omega
theorem countL_size:∀(l:List Trm) (m n d:Int),n<=m+1→(countL l m n d).1=min (n+szTL l) (m+1)
 | [],m,n,d,h=>by simp only [countL,szTL];omega
 | p ::r,m,n,d,h=>by
  simp only [countL,szTL]
  have:=du p
  split
  ·show n=_;omega
  ·rw [countL_size r m _ _ (by rw [countT_size p (m - n) (by omega)];omega),countT_size p (m - n) (by omega)]
   omega
end
mutual
theorem countT_deep:∀(s:Trm) (m:Int),(szT s:Int)<=m→(countT s m).2=deepT s
 | ⟨_,_,_,_,_,_,_,ps,_⟩,m,h=>by
  simp only [szT] at h
  simp only [countT,deepT]
  rw [countL_deep ps m 1 0 (by omega) (by omega)]
  omega
theorem countL_deep:∀(l:List Trm) (m n d:Int),n+szTL l<=m→0<=d→(countL l m n d).2=max d (maxDT l)
 | [],m,n,d,h,h0=>by simp only [countL,maxDT];omega
 | p ::r,m,n,d,h,h0=>by
  simp only [szTL] at h
  simp only [countL,maxDT]
  rw [if_neg (by omega)]
  have e1:(countT p (m - n)).1=szT p:=by rw [countT_size p (m - n) (by omega)];omega
  rw [countL_deep r m _ _ (by rw [e1];omega) (by omega),countT_deep p (m - n) (by omega)]
  omega
end
theorem wW (t:Trm):ba t=if 4096 < cW t 4096 then 3 else if 40 < (deepT t:Int) then 91 else if allT ag t=true then 0 else 80:=by
 unfold ba
 rw [countT_size t 4096 (by omega),sizeT_eq t 4096 (by omega)]
 by_cases h:(4096:Int) < min (szT t:Int) (4096+1)
 ·rw [if_pos h,if_pos h]
 ·rw [if_neg h,if_neg h,countT_deep t 4096 (by omega)]
def dN (ns:List Str) (b:Bool):Bool:=ns.all ay && (!b || decide ns.Nodup)
def aS (t:Trm) (n v s p:Int):Bool:=decide ((t.names.length:Int)=n) && decide ((t.vars.length:Int)=v) && decide ((t.shapes.length:Int)=s) && decide ((t.parts.length:Int)=p)
def j8 (s:Str):Nat→Nat→List Int→List Int × Flt
 | 0,_,acc=>(acc,⟨0,0⟩)
 | f+1,i,acc=>if i < s.length then (if gJ (s.drop i)=0 then ([],⟨30,i⟩) else j8 s f (i+gJ (s.drop i)) (acc++[(cn (s.drop i)).1])) else (acc,⟨0,0⟩)
def ep (s:Str):List Int × Flt:=j8 s (s.length+1) 0 []
end Go.Pd
end
section
namespace Go.Pd
open Go.AL
mutual
def bareT:Trm→Trm
 | ⟨k,g,n,z,ns,vs,ss,ps,_⟩=>⟨k,g,n,z,ns,vs,ss,bareTL ps,0⟩
def bareTL:List Trm→List Trm
 | []=>[]
 | p ::r=>bareT p ::bareTL r
end
mutual
theorem countT_bare:∀(t:Trm) (m:Int),countT (bareT t) m=countT t m
 | ⟨_,_,_,_,_,_,_,ps,_⟩,m=>by rw [bareT,countT,countT,countL_bare ps]
theorem countL_bare:∀(l:List Trm) (m n d:Int),countL (bareTL l) m n d=countL l m n d
 | [],_,_,_=>by rw [bareTL]
 | p ::r,m,n,d=>by rw [bareTL,countL,countL,countT_bare p,countL_bare r]
end
theorem pk {t:Trm} (ht:ba t=0):allT ag t=true:=by
 unfold ba at ht
 by_cases a:4096 < (countT t 4096).1
 ·rw [if_pos a] at ht;exact absurd ht (by decide)
 rw [if_neg a] at ht
 by_cases b:40 < (countT t 4096).2
 ·rw [if_pos b] at ht;exact absurd ht (by decide)
 rw [if_neg b] at ht
 by_cases c:allT ag t=true
 ·exact c
 ·rw [if_neg c] at ht;exact absurd ht (by decide)
def nk (s:Shape):Bool:=decide (s.names.length<=1000000)
def su (t:Trm):Bool:=decide (t.names.length<=1000000) && decide (t.vars.length<=1000000) && decide (t.parts.length<=1000000) && decide (szL t.shapes<=1000000000) && allL nk t.shapes
theorem kQ {t:Trm}:su t=true↔t.names.length<=1000000/\t.vars.length<=1000000/\t.parts.length<=1000000/\szL t.shapes<=1000000000/\allL nk t.shapes=true:=by
 unfold su;simp only [Bool.and_eq_true,decide_eq_true_eq,and_assoc]
def gX (t:Trm):Bool:=allT su t
theorem ke (t:Trm):bareT t=⟨t.kind,t.pkg,t.name,t.n,t.names,t.vars,t.shapes,bareTL t.parts,0⟩:=by cases t;rw [bareT]
theorem fw:∀l:List Trm,bareTL l=l.map bareT
 | []=>rfl
 | p ::r=>by rw [List.map_cons,←fw r];rw [bareTL]
theorem pn {f g:Trm→Bool}:∀(n:Nat) (t:Trm),szT t<=n→(∀x,szT x<=n→f x=true→g x=true)→allT f t=true→allT g t=true
 | 0,t,h,_,_=>by have:=du t;omega
 | n+1,t,h,k,ha=>by
  rw [allT_eq,Bool.and_eq_true,allTL_all,List.all_eq_true] at ha ⊢
  refine ⟨k t h ha.1,fun x hx=>?_⟩
  have h1:=eX hx
  have h2:=ek t
  exact pn n x (by omega) (fun y hy=>k y (by omega)) (ha.2 x hx)
theorem uj {f g:Shape→Bool}:∀(n:Nat) (t:Shape),sz t<=n→(∀x,sz x<=n→f x=true→g x=true)→allS f t=true→allS g t=true
 | 0,t,h,_,_=>by have:=dT t;omega
 | n+1,t,h,k,ha=>by
  rw [fD,Bool.and_eq_true,jF,List.all_eq_true] at ha ⊢
  refine ⟨k t h ha.1,fun x hx=>?_⟩
  have h1:=dr hx
  have h2:=fK t
  exact uj n x (by omega) (fun y hy=>k y (by omega)) (ha.2 x hx)
theorem uk {s:Shape} (h:aj s=true):s.names.length<=s.parts.length:=by
 unfold aj at h
 simp only at h
 repeat' split at h
 all_goals simp [ct] at h
 all_goals simp_all
theorem um {s:Shape} (h:bf s=true):allS nk s=true:=by
 unfold bf at h
 rw [Bool.and_eq_true,decide_eq_true_eq] at h
 have hc:=h.1
 unfold aA at hc
 split at hc
 ·exact absurd hc (by decide)
 rename_i h1
 split at hc
 ·exact absurd hc (by decide)
 split at hc
 ·rename_i h3
  refine uj 400 s (by omega) (fun x hx hf=>?_) h3
  have:=uk hf
  have:=iX x.parts
  have:=fK x
  unfold nk
  rw [Xd (by omega)]
 ·exact absurd hc (by decide)
theorem wX {s:Shape} (h:bf s=true):sz s<=400:=by
 unfold bf at h
 rw [Bool.and_eq_true,decide_eq_true_eq] at h
 have hc:=h.1
 unfold aA at hc
 split at hc
 ·exact absurd hc (by decide)
 ·omega
theorem wY {t:Trm} (hn:szT t<=4096) (h:ag t=true):su t=true:=by
 have hl:t.parts.length<=4096:=by
  have h1:∀l:List Trm,l.length<=szTL l:=by
   intro l
   induction l with
   | nil=>exact Nat.zero_le _
   | cons a r ih=>rw [szTL];have:=du a;simp;omega
  have:=h1 t.parts
  have:=ek t
  omega
 unfold ag at h
 rw [Bool.and_eq_true] at h
 obtain ⟨h1,h2⟩:=h
 have hs:allL nk t.shapes=true:=by
  unfold dK at h1
  rw [Bool.and_eq_true,List.all_eq_true] at h1
  rw [jF,List.all_eq_true]
  exact fun x hx=>um (h1.2 x hx)
 have hb:t.names.length<=4096/\t.vars.length<=4096/\t.shapes.length<=4097:=by
  have rm:∀{n v s p:Nat},dE t n v s p=true→t.names.length=n/\t.vars.length=v/\t.shapes.length=s/\t.parts.length=p:=fun h=>by
   unfold dE at h
   simp only [Bool.and_eq_true,decide_eq_true_eq] at h
   exact ⟨h.1.1.1,h.1.1.2,h.1.2,h.2⟩
  have sp:∀{c:Prop} [Decidable c] {a b:Bool} {X:Prop},(if c then a else b)=true→(a=true→X)→(b=true→X)→X:=fun {c} _ {a b X} h h1 h2=>by
   by_cases k:c
   ·rw [if_pos k] at h;exact h1 h
   ·rw [if_neg k] at h;exact h2 h
  unfold gT at h2
  have fin:∀{b:Bool} {n v s p:Nat},(n<=4096/\v<=4096/\s<=4097)→(b && dE t n v s p)=true→t.names.length<=4096/\t.vars.length<=4096/\t.shapes.length<=4097:=fun k h=>by
   rw [Bool.and_eq_true] at h
   have:=rm h.2
   omega
  have z0:(0:Nat)<=4096/\0<=4096/\0<=4097:=by decide
  have z1:(0:Nat)<=4096/\0<=4096/\1<=4097:=by decide
  refine sp h2 (fin z0) (fun h2=>sp h2 (fin z0) (fun h2=>sp h2 (fin z0) (fun h2=>sp h2 (fin z0) (fun h2=>sp h2 (fun h=>?_) (fun h2=>sp h2 (fin z0) (fun h2=>sp h2 (fun h=>?_) (fun h2=>sp h2 (fin z0) (fun h2=>sp h2 (fin z1) (fun h2=>sp h2 (fin z1) (fun h2=>sp h2 (fun h=>?_) (fun h2=>sp h2 (fin z0) (fun h2=>sp h2 (fin z1) (fun h2=>sp h2 (fin z0) (fun h=>by cases h))))))))))))))
  ·have h':=h
   simp only [Bool.and_eq_true,decide_eq_true_eq] at h'
   exact fin (by omega) h
  ·have r:=rm (by rw [Bool.and_eq_true] at h;exact h.2)
   omega
  ·have r:=rm (by rw [Bool.and_eq_true] at h;exact h.2)
   omega
 have hz:szL t.shapes<=t.shapes.length *400:=by
  unfold dK at h1
  rw [Bool.and_eq_true,List.all_eq_true] at h1
  have h1:=h1.2
  generalize t.shapes=l at h1
  induction l with
  | nil=>exact Nat.zero_le _
  | cons a r ih=>
   have:=ih fun x hx=>h1 x (List.mem_cons_of_mem _ hx)
   have ha:=wX (h1 a List.mem_cons_self)
   rw [szL,List.length_cons]
   omega
 exact kQ.2 ⟨by omega,by omega,by omega,by omega,hs⟩
theorem mZ {t:Trm} (h:ba t=0):gX t=true/\bL t=true:=by
 unfold ba at h
 split at h
 ·exact absurd h (by decide)
 rename_i h1
 split at h
 ·exact absurd h (by decide)
 split at h
 ·rename_i h3
  have hz:szT t<=4096:=by
   rw [countT_size t 4096 (by omega)] at h1
   omega
  have sm:gX t=true:=pn 4096 t hz (fun x hx hf=>wY hx hf) h3
  refine ⟨sm,pn 4096 t hz (fun x hx hf=>?_) sm⟩
  exact Xd (Nat.le_trans (kQ.1 hf).1 (by decide))
 ·exact absurd h (by decide)
theorem wZ {t:Trm} (h:ba t=0):szT t<=4096/\deepT t<=40:=by
 unfold ba at h
 by_cases a:4096 < (countT t 4096).1
 ·rw [if_pos a] at h;exact absurd h (by decide)
 rw [if_neg a] at h
 rw [countT_size t 4096 (by omega)] at a
 by_cases b:40 < (countT t 4096).2
 ·rw [if_pos b] at h;exact absurd h (by decide)
 rw [countT_deep t 4096 (by omega)] at b
 omega
theorem uo:∀(n:Nat) (t:Trm),szT t<=n→szT (bareT t)=szT t
 | 0,t,h=>by have:=du t;omega
 | n+1,t,h=>by
  have hl:∀l:List Trm,szTL l<=n→szTL (l.map bareT)=szTL l:=by
   intro l
   induction l with
   | nil=>intro _;rfl
   | cons a r ih=>intro h;rw [szTL] at h;rw [List.map_cons,szTL,szTL,uo n a (by omega),ih (by omega)]
  have he:=ek t
  rw [ek (bareT t),ke,fw,he,hl _ (by omega)]
theorem x9 {t:Trm} (h:ag t=true):ag (bareT t)=true:=by
 rw [ke,fw]
 unfold ag dK gT dE at h ⊢
 simp only [List.length_map]
 simp only [Bool.and_eq_true,decide_eq_true_eq] at h ⊢
 exact ⟨⟨⟨⟨Int.le_refl _,h.1.1.1.2⟩,h.1.1.2⟩,h.1.2⟩,h.2⟩
theorem qN:∀(n:Nat) (t:Trm),szT t<=n→allT ag t=true→allT ag (bareT t)=true
 | 0,t,h,_=>by have:=du t;omega
 | n+1,t,h,ha=>by
  rw [allT_eq,Bool.and_eq_true,allTL_all,List.all_eq_true] at ha ⊢
  refine ⟨x9 ha.1,fun x hx=>?_⟩
  rw [ke,fw] at hx
  obtain ⟨y,hy,rfl⟩:=List.mem_map.1 hx
  have h1:=eX hy
  have h2:=ek t
  exact qN n y (by omega) (ha.2 y hy)
theorem n5 {t:Trm} (h:ba t=0):ba (bareT t)=0:=by
 have hf:=qN _ t (Nat.le_refl _) (pk h)
 unfold ba at h ⊢
 rw [countT_bare]
 by_cases a:4096 < (countT t 4096).1
 ·rw [if_pos a] at h;exact absurd h (by decide)
 rw [if_neg a] at h ⊢
 by_cases b:40 < (countT t 4096).2
 ·rw [if_pos b] at h;exact absurd h (by decide)
 rw [if_neg b,if_pos hf]
def lC (f:Flt):Flt:=⟨f.err,0⟩
def fQ (r:Shape × Flt):Shape × Flt:=(r.1,lC r.2)
section Bare
variable {T:Trm→Envt→Shape × Flt} (hT:∀p e,T (bareT p) e=fQ (T p e))
include hT
theorem fx (p:Trm) (w:Shape) (e:Envt):az T (bareT p) w e=lC (az T p w e):=by
 unfold az
 rw [hT]
 by_cases h:(T p e).2.err=0/\je (T p e).1 w=false
 ·rw [if_pos h,if_pos (show (fQ (T p e)).2.err=0/\je (fQ (T p e)).1 w=false from h),ke];rfl
 ·rw [if_neg h,if_neg (show ¬((fQ (T p e)).2.err=0/\je (fQ (T p e)).1 w=false) from h)];rfl
theorem kR (e:Envt) (w:Shape):∀ps:List Trm,cC T e w (ps.map bareT)=lC (cC T e w ps)
 | []=>rfl
 | p ::r=>by
  rw [List.map_cons]
  simp only [cC]
  rw [fx hT,kR e w r,apply_ite lC]
  rfl
theorem po (e:Envt):∀(ps:List Trm) (ws:List Shape),dL T e (ps.map bareT) ws=lC (dL T e ps ws)
 | [],_=>by simp only [dL,List.map_nil];rfl
 | _ ::_,[]=>by simp only [dL,List.map_cons];rfl
 | p ::r,w ::q=>by
  rw [List.map_cons]
  simp only [dL]
  rw [fx hT,po e r q,apply_ite lC]
  rfl
theorem pq (e:Envt) (w:Shape):∀(ps:List Trm) (vs:List Str) (ss:List Shape),fc T e w (ps.map bareT) vs ss=lC (fc T e w ps vs ss)
 | [],_,_=>by simp only [fc,List.map_nil];rfl
 | _ ::_,[],_=>by simp only [fc,List.map_cons];rfl
 | _ ::_,_ ::_,[]=>by simp only [fc,List.map_cons];rfl
 | p ::r,v ::vs,s ::ss=>by
  rw [List.map_cons]
  simp only [fc]
  rw [fx hT,pq e w r vs ss,apply_ite lC]
  rfl
theorem n9 (e:Envt):∀ps:List Trm,cb T e (ps.map bareT)=((cb T e ps).1,fQ (cb T e ps).2)
 | []=>rfl
 | p ::r=>by
  rw [List.map_cons]
  simp only [cb]
  rw [hT,n9 e r]
  by_cases h:(T p e).2.err=0
  ·rw [if_pos h,if_pos (show (fQ (T p e)).2.err=0 from h)];rfl
  ·rw [if_neg h,if_neg (show ¬(fQ (T p e)).2.err=0 from h)]
end Bare
theorem pr (l:List Bndg) (a b:Int):∀s:List Shape,ae l b s=((ae l a s).1,⟨(ae l a s).2.err,if (ae l a s).2.err=0 then 0 else b⟩)
 | []=>rfl
 | s ::r=>by
  rw [eG,eG]
  by_cases h:(au s l).2=0
  ·rw [if_pos h,if_pos h]
   have ih:=pr l a b r
   by_cases g:(ae l a r).2.err=0
   ·rw [if_pos g,ih,if_pos (show (⟨(ae l a r).2.err,_⟩:Flt).err=0 from g)];rfl
   ·rw [if_neg g,ih,if_neg (show ¬(⟨(ae l a r).2.err,_⟩:Flt).err=0 from g),if_neg g]
  ·rw [if_neg h,if_neg h,if_neg h]
theorem uq (l:List Bndg) (a:Int) (s:List Shape):ae l 0 s=((ae l a s).1,lC (ae l a s).2):=by
 rw [pr l a 0 s]
 unfold lC
 congr 2
 split <;> rfl
theorem gq (t:Trm):(bareT t).kind=t.kind/\(bareT t).pkg=t.pkg/\(bareT t).name=t.name/\(bareT t).names=t.names/\(bareT t).vars=t.vars/\(bareT t).shapes=t.shapes/\(bareT t).parts=t.parts.map bareT/\(bareT t).pos=0:=by
 rw [ke,fw];exact ⟨rfl,rfl,rfl,rfl,rfl,rfl,rfl,rfl⟩
theorem iA (l:List Trm) (j:Nat):(l.map bareT).getD j aC=bareT (l.getD j aC):=by
 rw [List.getD_eq_getElem?_getD,List.getD_eq_getElem?_getD,List.getElem?_map]
 cases l[j]? <;> rfl
section Bare2
variable {T:Trm→Envt→Shape × Flt} (hT:∀p e,T (bareT p) e=fQ (T p e))
include hT
theorem xa (t:Trm) (e:Envt):bP T (bareT t) e=fQ (bP T t e):=by
 obtain ⟨e1,e2,e3,e4,e5,e6,e7,e8⟩:=gq t
 unfold bP
 simp only [e7,e8,iA,hT,←List.map_drop,kR hT,po hT,List.length_map]
 generalize T (t.parts.getD 0 aC) e=r
 generalize cC T e (ofK 4) (t.parts.drop 1)=x
 rw [show (fQ r).1=r.1 from rfl]
 generalize dL T e (t.parts.drop 1) r.1.parts=y
 simp only [apply_ite fQ]
 rfl
theorem ur (t:Trm) (e:Envt):bR T (bareT t) e=fQ (bR T t e):=by
 obtain ⟨e1,e2,e3,e4,e5,e6,e7,e8⟩:=gq t
 unfold bR
 simp only [e3,e7,e8,iA,hT]
 generalize T (t.parts.getD 0 aC) e=r
 simp only [apply_ite fQ]
 rfl
theorem Ae (t:Trm) (e:Envt):cJ T (bareT t) e=fQ (cJ T t e):=by
 obtain ⟨e1,e2,e3,e4,e5,e6,e7,e8⟩:=gq t
 cases g:da e.own t.name with
 | none=>rw [kc g,kc (by rw [e3];exact g),e8];rfl
 | some s=>
  rw [kd g,kd (by rw [e3];exact g),e1,e3,e7,iA,fx hT,fx hT,apply_ite fQ]
  rfl
theorem uu (t:Trm) (e:Envt):aG T (bareT t) e=fQ (aG T t e):=by
 obtain ⟨e1,e2,e3,e4,e5,e6,e7,e8⟩:=gq t
 unfold aG
 simp only [e1,e4,e5,e6,e7,e8,iA,←List.map_drop,kR hT,fx hT,pq hT,uq e.types t.pos t.shapes,hT]
 generalize ae e.types t.pos t.shapes=l
 simp only [apply_ite fQ]
 refine ite_congr rfl (fun _=>?_) (fun _=>rfl)
 refine ite_congr rfl (fun _=>rfl) (fun _=>?_)
 refine ite_congr rfl (fun _=>rfl) (fun _=>?_)
 refine ite_congr rfl (fun _=>rfl) (fun _=>?_)
 refine ite_congr rfl (fun _=>?_) (fun _=>?_)
 ·show (_,_)=(_,lC _)
  simp only [apply_ite lC]
  rfl
 ·show (_,_)=(_,lC _)
  simp only [apply_ite lC]
  rfl
theorem uv (t:Trm) (e:Envt):ao T (bareT t) e=fQ (ao T t e):=by
 obtain ⟨e1,e2,e3,e4,e5,e6,e7,e8⟩:=gq t
 unfold ao
 simp only [xa hT,ur hT,Ae hT,uu hT,e1,e2,e3,e4,e7,e8,iA,hT,n9 hT]
 generalize cb T e t.parts=l
 generalize T (t.parts.getD 0 aC) e=r
 simp only [apply_ite fQ]
 refine ite_congr rfl (fun _=>rfl) fun _=>ite_congr rfl (fun _=>rfl) fun _=>ite_congr rfl (fun _=>rfl) fun _=>ite_congr rfl (fun _=>?_) fun _=>ite_congr rfl (fun _=>rfl) fun _=>ite_congr rfl (fun _=>rfl) fun _=>rfl
 cases bg e.values t.pkg t.name <;> rfl
end Bare2
theorem uw (t:Trm) (r:Shape × Flt):fP (bareT t) (fQ r)=fQ (fP t r):=by
 unfold fP
 rw [(gq t).2.2.2.2.2.2.2]
 simp only [apply_ite fQ]
 rfl
theorem pw:∀(n:Nat) (t:Trm) (e:Envt),aa n (bareT t) e=fQ (aa n t e)
 | 0,_,_=>rfl
 | n+1,t,e=>by
  show fP (bareT t) (ao (aa n) (bareT t) e)=fQ (fP t (ao (aa n) t e))
  rw [uv (pw n),uw]
theorem uz {t:Trm} (h:ba t=0) (e:Envt):cD (bareT t) e=((cD t e).1,⟨(cD t e).2.err,0⟩):=by
 unfold cD
 rw [if_pos h,if_pos (n5 h),uo _ t (Nat.le_refl _),pw]
 rfl
end Go.Pd
end
section
namespace Go.Pd
open Go.AL
def E9 (s:Shape):Bool:=!decide (s.kind=9)
structure ClE (e:Envt):Prop where
 types:∀b∈e.types,allS E9 b.shape=true
 values:∀b∈e.values,allS E9 b.shape=true
 own:∀b∈e.own,allS E9 b.shape=true
section
variable {T:Trm→Envt→Shape × Flt} (hT:∀p e,ClE e→(T p e).2.err=0→allS E9 (T p e).1=true)
include hT
end
end Go.Pd
end
section
namespace Go.Pd
open Go.AL
theorem px:∀(f:Nat) (s:Str) (i:Nat) (acc:List Int),s.length - i < f→i<=s.length→((j8 s f i acc).2.err=0↔jJ s i=none)
 | 0,s,i,acc,h,_=>absurd h (Nat.not_lt_zero _)
 | f+1,s,i,acc,h,hi=>by
  rw [j8]
  by_cases k:i < s.length
  ·rw [if_pos k]
   by_cases b:gJ (s.drop i)=0
   ·rw [if_pos b,zW k b]
    simp
   ·rw [if_neg b,wN k b]
    have:=yR (s:=s) (n:=i) hi
    exact px f s _ _ (by omega) this
  ·rw [if_neg k,zU (by omega)]
   simp
theorem py (s:Str):(ep s).2.err=0↔jH s=none:=by
 rw [←wM]
 exact px _ s 0 [] (by omega) (Nat.zero_le _)
theorem xb {s:Str} (h:s.all bZ=true):decide ((ep s).2.err=0)=fL s:=by
 unfold fL
 rw [h,Bool.true_and]
 cases e:jH s with
 | none=>rw [Xd ((py s).2 e)];rfl
 | some k=>rw [Xf (fun q=>by have:=(py s).1 q;rw [e] at this;cases this)];rfl
theorem Af {c:Prop} [Decidable c] {a b:Bool} {P:Prop} (h:(if c then a else b)=true) (f:a=true→P) (g:b=true→P):P:=by
 by_cases k:c
 ·rw [if_pos k] at h;exact f h
 ·rw [if_neg k] at h;exact g h
theorem pz {t:Trm} (h:gT t=true):jL t.names=true/\t.vars.all ay=true:=by
 unfold gT dE at h
 repeat' (refine Af h (fun h=>?_) (fun h=>?_))
 all_goals simp only [Bool.and_eq_true,decide_eq_true_eq,Bool.false_eq_true] at h
 all_goals refine ⟨?_,?_⟩
 all_goals first
  | exact h.1.2 | exact h.1.1.2
  | (have e1:=List.eq_nil_of_length_eq_zero (l:=t.vars) (by omega);rw [e1];rfl)
  | (have e1:=List.eq_nil_of_length_eq_zero (l:=t.names) (by omega);rw [e1];rfl)
  | exact h.elim
theorem xc {t:Trm} (h:dN t.names true=false):ag t=false:=by
 rw [Bool.eq_false_iff]
 intro e
 unfold ag at e
 rw [Bool.and_eq_true] at e
 have:=(pz e.2).1
 unfold jL at this
 unfold dN at h
 simp at this h
 exact h this.1 this.2
theorem Ag {t:Trm} (h:dN t.vars false=false):ag t=false:=by
 rw [Bool.eq_false_iff]
 intro e
 unfold ag at e
 rw [Bool.and_eq_true] at e
 have:=(pz e.2).2
 unfold dN at h
 rw [this] at h
 simp at h
def dw (t:Trm):Bool:=allT (fun x=>decide (x.name.length<=2000000) && decide (x.names.length<=2000000)) t
theorem xe {t x:Trm} (h:dw t=true) (hx:x∈t.parts):dw x=true:=by
 unfold dw at h ⊢
 rw [allT_eq,Bool.and_eq_true,allTL_all] at h
 exact List.all_eq_true.1 h.2 x hx
theorem xf {t:Trm} (h:dw t=true):t.name.length<=2000000/\t.names.length<=2000000:=by
 unfold dw at h
 rw [allT_eq,Bool.and_eq_true,Bool.and_eq_true,decide_eq_true_eq,decide_eq_true_eq] at h
 exact h.1
end Go.Pd
end
section
namespace Go.Pd
open Go.AL
end Go.Pd
namespace Go.Pd
open Go.AL
theorem xg {e:Envt} (h:¬(!j6 e)=true):e.values.length<=60:=by
 have h:j6 e=true:=by simpa using h
 unfold j6 at h
 simp only [Bool.and_eq_true] at h
 exact Co h.1.2
end Go.Pd
end
