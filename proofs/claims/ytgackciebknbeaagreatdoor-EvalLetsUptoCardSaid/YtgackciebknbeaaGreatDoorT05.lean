/- Plain facts. What the functions' conditions say, proved. No condition. -/
import Derived.Test.YtgackciebknbeaaGreatDoorT04
import Derived.KernelRfl
import Derived.Sort.Walk0
set_option linter.all false
set_option maxRecDepth 100000
noncomputable section
namespace Go.Pd
open Go Go.AL
mutual
def szV:Vlu→Nat
 | ⟨_,_,_,_,_,ps⟩=>szVL ps+1
def szVL:List Vlu→Nat
 | []=>0
 | p ::r=>szV p+szVL r
end
mutual
def allV (f:Vlu→Bool):Vlu→Bool
 | ⟨k,z,g,x,ns,ps⟩=>f ⟨k,z,g,x,ns,ps⟩ && allVL f ps
def allVL (f:Vlu→Bool):List Vlu→Bool
 | []=>true
 | p ::r=>allV f p && allVL f r
end
mutual
def deepV:Vlu→Int→Int
 | ⟨_,_,_,_,_,ps⟩,l=>deepVL ps (l+1) l
def deepVL:List Vlu→Int→Int→Int
 | [],_,d=>d
 | p ::r,l,d=>deepVL r l (max d (deepV p l))
end
theorem tI (a:Vlu):szV a=szVL a.parts+1:=by cases a;rfl
theorem oB (a:Vlu):0 < szV a:=by rw [tI];omega
theorem oC:∀{l:List Vlu} {a:Vlu},a∈l→szV a<=szVL l
 | b ::r,a,h=>by
  simp only [szVL]
  rcases List.mem_cons.1 h with rfl | h
  ·omega
  ·have:=oC h;omega
theorem km:∀(l:List Vlu) (k:Nat) (d:Vlu),k < l.length→szVL (l.take (k+1))=szVL (l.take k)+szV (l.getD k d)
 | a ::r,0,d,_=>by simp [szVL]
 | a ::r,k+1,d,h=>by
  have:=km r k d (by simpa using h)
  simp only [List.take_succ_cons,szVL,List.getD_cons_succ] at this ⊢
  omega
theorem tJ (l:List Vlu) (k:Nat):szVL (l.take k)<=szVL l:=by
 induction l generalizing k with
 | nil=>simp [szVL]
 | cons a r ih=>
  cases k with
  | zero=>simp [szVL]
  | succ k=>have:=ih k;simp only [List.take_succ_cons,szVL];omega
theorem tK (f:Vlu→Bool) (v:Vlu):allV f v=(f v && v.parts.all (allV f)):=by
 have e:∀l:List Vlu,allVL f l=l.all (allV f):=by
  intro l
  induction l with
  | nil=>rfl
  | cons a r ih=>rw [List.all_cons,←ih];rfl
 cases v with
 | mk k z g x ns ps=>show (f _ && allVL f ps)=_;rw [e]
def xY (t:Nat) (v:Vlu) (l c:Int) (q:Prop):Ans:=
 ⟨some (q/\0<=c/\c<=2000/\1<=l/\l<=c+1),some (decide (2000 < c+(szV v:Int)),.iface t (.agg []),[(900,.box (.int .i64 2001))]),.int .i64 (deepV v l),[(900,.box (.int .i64 (c+(szV v:Int))))]⟩
def mw (t:Nat) (n:Nat):Pat:=fun args S=>
 match args,S with
 | [a,.int .i64 l,.ptr 900 0],[(900,.box (.int .i64 c))]=>(match arg (.st .val) a with | some v=>some (xY t v l c (szV v<=n)) | none=>none)
 | _,_=>none
theorem nW [Tabs] {P:Program} {f t n:Nat} (he:ax P f) (h:∀v l c,Wf (.st .val) v→szV v<=n→(0<=c/\c<=2000/\1<=l/\l<=c+1)→aw P f [.st .val v,.int .i64 l,.ptr 900 0] [(900,.box (.int .i64 c))] (xY t v l c (szV v<=n))) :
  aj P f (mw t n):=by
 intro args S A hA ho _
 unfold mw at hA
 split at hA
 ·split at hA
  ·rename_i v hv
   simp only [Xs] at hA
   subst hA
   obtain ⟨h1,h2⟩:=ho _ rfl
   exact ⟨he,aw.args (.cons (Rd.arg hv) (.cons (Rd.refl _) (.cons (Rd.refl _) .nil))) (aw.wf fun hw=>h _ _ _ hw.one h1 h2)⟩
  ·cases hA
 ·cases hA
def vC (v:Vlu):Bool:=decide (v.pkg=[]) && decide (v.text=[]) && decide (v.names.length=0)
def qm (v:Vlu):Bool:=decide (v.parts.length=0)
def ao (v:Vlu):Bool:=
 if v.kind=1 then vC v && qm v
 else if v.kind=2 then decide (v.pkg=[]) && decide (v.n=0) && decide (v.names.length=0) && qm v
 else if v.kind=3 then vC v && qm v && (decide (v.n=0) || decide (v.n=1))
 else if v.kind=4 then vC v && decide (v.n=0)
 else if v.kind=5 then decide (v.pkg=[]) && decide (v.text=[]) && decide (v.n=0) && dR v.names && decide (v.names.length=v.parts.length)
 else if v.kind=6 then decide (v.pkg=[]) && decide (v.n=0) && decide (v.names.length=0) && al v.text && decide (v.parts.length=1)
 else if v.kind=7 then al v.pkg && aD v.text && decide (v.n=0) && decide (v.names.length=0) && decide (v.parts.length=1)
 else if v.kind=8 then vC v && qm v && decide (0<=v.n) && decide (v.n<=1000)
 else false
def cI (v:Vlu):Bool:=allV (fun x=>decide (x.names.length<=8796093022208)) v
def oc (v:Vlu):Int:=if 2000 < szV v then 3 else if 40 < deepV v 1 then 91 else if allV ao v=true then 0 else 290
def dH:Vlu:=⟨0,0,[],[],[],[]⟩
structure Td where
 ok:Bool
 v:Vlu
 room:Int
structure TdL where
 ok:Bool
 vs:List Vlu
 room:Int
def GI:Td:=⟨false,dH,0⟩
def dm (r:Option Td):Td:=match r with | none=>GI | some t=>t
theorem ng (t:Td):dm (some t)=t:=rfl
def fnN (x:Thg):Int:=if x.fn.isSome=true then (x.fn.getD default).args else x.n
def Dm (x:Thg) (ps:List Vlu):Vlu:=⟨x.kind,fnN x,x.pkg,x.text,x.names,ps⟩
def gK (td:Thg→Int→Option Td):List Thg→List Vlu→Int→Option TdL
 | [],out,r=>some ⟨true,out,r⟩
 | x ::l,out,r=>
  match td x r with
  | none=>none
  | some t=>if t.ok=true then gK td l (out++[t.v]) t.room else some ⟨false,[],t.room⟩
def qn (r:Int):Prop:=0<=r/\r<=1000000
instance (r:Int):Decidable (qn r):=inferInstanceAs (Decidable (_/\_))
def endT (x:Thg) (t:TdL):Td:=⟨t.ok,if t.ok=true then Dm x t.vs else dH,t.room⟩
def aX:Nat→Thg→Int→Option Td
 | 0,_,_=>none
 | n+1,x,r=>
  if ¬qn r then none
  else if r - 1 < 0 then some ⟨false,dH,r - 1⟩
  else if 8796093022208 < x.names.length∨1000000 < x.parts.length then none
  else (gK (aX n) x.parts [] (r - 1)).map (endT x)
structure Sw where
 f:Flt
 v:Vlu
def GJ:Sw:=⟨⟨0,0⟩,dH⟩
def kn (r:Option Sw):Sw:=match r with | none=>GJ | some t=>t
theorem rZ (t:Sw):kn (some t)=t:=rfl
def ck (m:Nat) (x:Thg) (a:Int):Option Sw:=
 match aX m x 2000 with
 | none=>none
 | some t=>
  if t.ok=true then (if cI t.v=true then (if oc t.v=0 then some ⟨⟨0,0⟩,t.v⟩ else some ⟨⟨oc t.v,a⟩,dH⟩) else none)
  else some ⟨⟨3,a⟩,dH⟩
structure Rn where
 v:Vlu
 st:Int
 f:Flt
def GK:Rn:=⟨dH,0,⟨0,0⟩⟩
def aM (r:Option Rn):Rn:=match r with | none=>GK | some t=>t
theorem kN (t:Rn):aM (some t)=t:=rfl
def nh:Plc:=⟨bR,[]⟩
def swR (st:Int) (s:Sw):Rn:=if s.f.err=0 then ⟨s.v,st,⟨0,0⟩⟩ else ⟨dH,st,s.f⟩
def lL (m:Nat) (a:Int) (e:Ev):Option Rn:=if e.f.err=0 then (ck m e.v a).map (swR e.st) else some ⟨dH,e.st,e.f⟩
def bM (n m:Nat) (t:Trm) (k:Int):Option Rn:=(ab k n t nh 0).bind (lL m t.pos)
def kX (r:Rn):Rn:=if r.f.err=0 then ⟨r.v,r.st,⟨0,0⟩⟩ else ⟨dH,0,r.f⟩
def aY (n m:Nat) (t:Trm) (k:Int):Option Rn:=
 if ¬bw t=0 then some ⟨dH,0,⟨bw t,0⟩⟩
 else if k < 0∨2000 < k then some ⟨dH,0,⟨2,0⟩⟩
 else (bM n m t k).map kX
def Dn (q:Prop) (t:Td):Ans:=⟨some q,none,.tup [.st .val t.v,.bool t.ok],[(900,.box (.int .i64 t.room))]⟩
def kO (n:Nat):Pat:=fun args S=>
 match args,S with
 | [a,.ptr 900 0],[(900,.box (.int .i64 r))]=>(match arg (.st .thing) a with | some x=>some (Dn ((aX n x r).isSome=true) (dm (aX n x r))) | none=>none)
 | _,_=>none
theorem qo [Tabs] {P:Program} {f n:Nat} (he:ax P f) (h:∀x r,Wf (.st .thing) x→(aX n x r).isSome=true→aw P f [.st .thing x,.ptr 900 0] [(900,.box (.int .i64 r))] (Dn ((aX n x r).isSome=true) (dm (aX n x r)))) :
  aj P f (kO n):=by
 intro args S A hA ho _
 unfold kO at hA
 split at hA
 ·split at hA
  ·rename_i x hx
   simp only [Xs] at hA
   subst hA
   exact ⟨he,aw.args (.cons (Rd.arg hx) (.cons (Rd.refl _) .nil)) (aw.wf fun hw=>h _ _ hw.one (ho _ rfl))⟩
  ·cases hA
 ·cases hA
def swA (t:Nat) (q:Prop) (s:Sw):Ans:=⟨some q,some (!decide (s.f.err=0),.iface t (.agg [.int .i64 s.f.err,.int .i64 s.f.pos]),[]),.st .val s.v,[]⟩
def Hf:AV:=.agg [.int .i64 0,.int .i64 0,.str [],.str [],.nils,.nils]
def rnS (st mo:Int):List (Nat × SObj):=[(900,.box (.ptr 902 0)),(901,.box Hf),(902,.box (.agg [.int .i64 st,.int .i64 mo]))]
def GL (t:Nat) (mo:Int) (q:Prop) (r:Rn):Ans:=
 ⟨some q,some (!decide (r.f.err=0),.iface t (.agg [.int .i64 r.f.err,.int .i64 r.f.pos]),[(902,.box (.agg [.int .i64 r.st,.int .i64 mo]))]),.tup [],
  [(901,.box (.st .val r.v)),(902,.box (.agg [.int .i64 r.st,.int .i64 mo]))]⟩
def GM (mo:Int) (q:Prop) (r:Rn):Ans:=⟨some q,none,.st .fault r.f,[(901,.box (.st .val r.v)),(902,.box (.agg [.int .i64 r.st,.int .i64 mo]))]⟩
theorem zT [Tabs] {n:SN} {c:AV} {x:SD n} (h:arg (.st n) c=some x):Rd (.cptr c) (.cptr (.st n x)):=by
 intro Ω v hv
 have hr:=mI (.st n) h
 cases hv with
 | cptr _ b off vals h1 h2=>
  have key:∀(j:Nat) (d:AV),(cells (.st n) x)[j]?=some d→∃c',(ae c)[j]?=some c'/\Rd c' d:=fun j d hd=>by
   have hlt:j < (ae c).length:=by
    rw [hr.1]
    rcases Nat.lt_or_ge j (cells (.st n) x).length with q | q
    ·exact q
    ·rw [List.getElem?_eq_none q] at hd;cases hd
   exact ⟨_,List.getElem?_eq_getElem hlt,hr.2 j _ d (List.getElem?_eq_getElem hlt) hd⟩
  refine .cptr _ b off vals (fun j d hd=>?_) (fun j d hd=>?_)
  ·obtain ⟨c',hc,_⟩:=key j d hd
   exact h1 j c' hc
  ·obtain ⟨c',hc,r⟩:=key j d hd
   exact r _ _ (h2 j c' hc)
theorem zU [Tabs] {n:SN} {x:SD n} (h:∃Ω v,V Ω (.cptr (.st n x)) v):Wf (.st n) x:=by
 obtain ⟨Ω,v,h⟩:=h
 exact Wf.pt ⟨Ω,v,.ptSome _ _ _ h⟩
theorem Hg [Tabs] (g:Nat) {cs ds:List AV} (h:RdL cs ds):Rd (.fn g cs) (.fn g ds):=by
 intro Ω v hv
 obtain ⟨vs,rfl,h1⟩:=V.fn_inv hv
 have:=h1.rd h
 exact .fn g ds vs this.1 this.2
def vD (t n m:Nat):Pat:=fun args S=>
 match args,S with
 | [.ptr 900 0,.cptr b,.ptr 901 0],[(900,.box (.ptr 902 0)),(901,.box (.agg [.int .i64 0,.int .i64 0,.str [],.str [],.nils,.nils])),(902,.box (.agg [.int .i64 0,.int .i64 mo]))]=>
  (match arg (.st .term) b with | some x=>some (GL t mo ((bM n m x mo).isSome=true) (aM (bM n m x mo))) | none=>none)
 | _,_=>none
theorem Dp [Tabs] {P:Program} {f t n m:Nat} (he:ax P f) (h:∀x mo,Wf (.st .term) x→(bM n m x mo).isSome=true→aw P f [.ptr 900 0,.cptr (.st .term x),.ptr 901 0] (rnS 0 mo) (GL t mo ((bM n m x mo).isSome=true) (aM (bM n m x mo)))) :
  aj P f (vD t n m):=by
 intro args S A hA ho _
 unfold vD at hA
 split at hA
 ·split at hA
  ·rename_i x hx
   simp only [Xs] at hA
   subst hA
   exact ⟨he,aw.args (.cons (Rd.refl _) (.cons (zT hx) (.cons (Rd.refl _) .nil))) (aw.wf fun hw=>h _ _ (zU hw.cons.2.cons.1) (ho _ rfl))⟩
  ·cases hA
 ·cases hA
def Dq (g n m:Nat):Pat:=fun args S=>
 match args,S with
 | [.fn g' [.ptr 900 0,.cptr b,.ptr 901 0]],[(900,.box (.ptr 902 0)),(901,.box (.agg [.int .i64 0,.int .i64 0,.str [],.str [],.nils,.nils])),(902,.box (.agg [.int .i64 0,.int .i64 mo]))]=>
  (match Nat.beq g' g,arg (.st .term) b with | true,some x=>some (GM mo ((bM n m x mo).isSome=true) (aM (bM n m x mo))) | _,_=>none)
 | _,_=>none
theorem Fk [Tabs] {P:Program} {f g n m:Nat} (he:ax P f) (h:∀x mo,Wf (.st .term) x→(bM n m x mo).isSome=true→aw P f [.fn g [.ptr 900 0,.cptr (.st .term x),.ptr 901 0]] (rnS 0 mo) (GM mo ((bM n m x mo).isSome=true) (aM (bM n m x mo)))) :
  aj P f (Dq g n m):=by
 intro args S A hA ho _
 unfold Dq at hA
 split at hA
 ·split at hA
  ·rename_i x hg hx
   simp only [Xs] at hA
   subst hA
   have e:=Nat.eq_of_beq_eq_true hg
   subst e
   exact ⟨he,aw.args (.cons (Hg _ (.cons (Rd.refl _) (.cons (zT hx) (.cons (Rd.refl _) .nil)))) .nil) (aw.wf fun hw=>h _ _ (by
    obtain ⟨Ω,v,hv⟩:=hw.cons.1
    obtain ⟨vs,rfl,h1⟩:=V.fn_inv hv
    exact zU (WfL.cons (WfL.cons ⟨Ω,vs,h1⟩).2).1) (ho _ rfl))⟩
  ·cases hA
 ·cases hA
theorem Hh {n m:Nat} {t:Trm} {k:Int} {r:Rn} (h:bM n m t k=some r) (hf:¬r.f.err=0):r.v=dH:=by
 unfold bM at h
 obtain ⟨e,he,h⟩:=Option.bind_eq_some_iff.1 h
 unfold lL at h
 split at h
 ·obtain ⟨s,hs,rfl⟩:=Option.map_eq_some_iff.1 h
  unfold swR at hf ⊢
  split
  ·rename_i q;rw [if_pos q] at hf;exact absurd rfl hf
  ·rfl
 ·cases h;rfl
theorem GN {n m:Nat} {t:Trm} {k:Int} {r:Rn} (h:bM n m t k=some r) (hf:r.f.err=0):r.f=⟨0,0⟩:=by
 unfold bM at h
 obtain ⟨e,he,h⟩:=Option.bind_eq_some_iff.1 h
 unfold lL at h
 split at h
 ·obtain ⟨s,hs,rfl⟩:=Option.map_eq_some_iff.1 h
  unfold swR at hf ⊢
  split
  ·rfl
  ·rename_i q;rw [if_neg q] at hf;exact absurd hf q
 ·rename_i q;cases h;exact absurd hf q
end Go.Pd
end
section
namespace Go.Pd
open Go Go.AL
def B7 (m:Str):Trm:=⟨5,[],m,0,[],[],[],[],0⟩
def kY (m:Str) (t:Trm):Trm:=⟨14,[],m,0,[],[],[],[t,B7 m],t.pos⟩
def Fl (t:Trm):Trm:=⟨6,[],[],0,[],[],[],[t],0⟩
def gL (t:Trm):Trm:=⟨7,[],[],0,[],[],[],[Fl t],t.pos⟩
def xZ (n m:Nat) (t:Trm) (nm:Str) (k:Int):Prop:=
 ∃r s,aY n m t k=some r/\aY n m (kY nm t) k=some r/\aY n m (gL t) (k+1)=some s/\s.v=r.v/\s.f=r.f/\(r.f.err=0→s.st=r.st+1)/\szV r.v<=2000/\0<=r.st/\r.st<=2000
end Go.Pd
end
section
namespace Go.Pd
open Go Go.AL
def shE (d:Int) (e:Ev):Ev:=⟨e.f,e.v,e.st+d⟩
def shL (d:Int) (e:EvL):EvL:=⟨e.f,e.vs,e.st+d⟩
def Bes (d mo st:Int) (r q:Option Ev):Prop:=∀e,r=some e→q=some (shE d e)/\st<=e.st/\e.st<=mo
def GO (d mo st:Int) (r q:Option EvL):Prop:=∀e,r=some e→q=some (shL d e)/\st<=e.st/\e.st<=mo
def y9 (d mo:Int) (ev ew:EvT):Prop:=∀t p st,Bes d mo st (ev t p st) (ew t p (st+d))
variable {d mo st:Int}
theorem gM {v:Thg} (h:st<=mo):Bes d mo st (okE v st) (okE v (st+d)):=by
 intro e he
 cases di he
 exact ⟨rfl,Int.le_refl _,h⟩
theorem jo {x a:Int} (h:st<=mo):Bes d mo st (mu x a st) (mu x a (st+d)):=by
 intro e he
 cases dz he
 exact ⟨rfl,Int.le_refl _,h⟩
theorem gN {q:Option Ev}:Bes d mo st none q:=fun e he=>by cases he
theorem bK {c:Prop} [Decidable c] {a b a2 b2:Option Ev} (h1:c→Bes d mo st a a2) (h2:¬c→Bes d mo st b b2):Bes d mo st (if c then a else b) (if c then a2 else b2):=by
 by_cases h:c
 ·rw [if_pos h,if_pos h];exact h1 h
 ·rw [if_neg h,if_neg h];exact h2 h
theorem iM {t:Trm} {i:Nat} {a b:Option Ev} (h:Bes d mo st a b):Bes d mo st (fR t i a) (fR t i b):=bK (fun _=>gN) (fun _=>h)
theorem zW {r q:Option Ev} {k j:Thg→Int→Option Ev} (h:Bes d mo st r q) (hk:∀v s,st<=s→s<=mo→Bes d mo s (k v s) (j v (s+d))):Bes d mo st (o9 r k) (o9 q j):=by
 intro e he
 cases r with
 | none=>cases he
 | some x=>
  obtain ⟨rfl,h1,h2⟩:=h x rfl
  have q1:o9 (some x) k=if x.f.err=0 then k x.v x.st else some ⟨x.f,jw,x.st⟩:=rfl
  have q2:o9 (some (shE d x)) j=if x.f.err=0 then j x.v (x.st+d) else some ⟨x.f,jw,x.st+d⟩:=rfl
  rw [q1] at he
  rw [q2]
  by_cases c:x.f.err=0
  ·rw [if_pos c] at he ⊢
   obtain ⟨g1,g2,g3⟩:=hk x.v x.st h1 h2 e he
   exact ⟨g1,by omega,g3⟩
  ·rw [if_neg c] at he ⊢
   cases he
   exact ⟨rfl,h1,h2⟩
theorem ko {r q:Option EvL} {k j:List Thg→Int→Option Ev} (h:GO d mo st r q) (hk:∀v s,st<=s→s<=mo→Bes d mo s (k v s) (j v (s+d))):Bes d mo st (ki r k) (ki q j):=by
 intro e he
 cases r with
 | none=>cases he
 | some x=>
  obtain ⟨rfl,h1,h2⟩:=h x rfl
  have q1:ki (some x) k=if x.f.err=0 then k x.vs x.st else some ⟨x.f,jw,x.st⟩:=rfl
  have q2:ki (some (shL d x)) j=if x.f.err=0 then j x.vs (x.st+d) else some ⟨x.f,jw,x.st+d⟩:=rfl
  rw [q1] at he
  rw [q2]
  by_cases c:x.f.err=0
  ·rw [if_pos c] at he ⊢
   obtain ⟨g1,g2,g3⟩:=hk x.vs x.st h1 h2 e he
   exact ⟨g1,by omega,g3⟩
  ·rw [if_neg c] at he ⊢
   cases he
   exact ⟨rfl,h1,h2⟩
theorem s5 {ev:Trm→Int→Option Ev} {t:Trm} {r:List Trm} {out:List Thg} {e:Ev} (h:ev t st=some e):ig ev (t ::r) out st=if e.f.err=0 then ig ev r (out++[e.v]) e.st else some ⟨e.f,[],e.st⟩:=by
 simp only [ig,h]
theorem zX {ev ew:EvT} (h:y9 d mo ev ew) (p:Plc):∀(l:List Trm) (out:List Thg) (st:Int),st<=mo→GO d mo st (ig (fun x=>ev x p) l out st) (ig (fun x=>ew x p) l out (st+d))
 | [],out,st,hs=>by
  intro e he
  simp only [ig,Xs] at he ⊢
  subst he
  exact ⟨rfl,Int.le_refl _,hs⟩
 | t ::r,out,st,hs=>by
  intro e he
  cases hx:ev t p st with
  | none=>simp only [ig,hx] at he;cases he
  | some x=>
   obtain ⟨g,h1,h2⟩:=h t p st x hx
   rw [s5 (ev:=fun x=>ev x p) hx] at he
   have q2:ig (fun x=>ew x p) (t ::r) out (st+d)=if x.f.err=0 then ig (fun x=>ew x p) r (out++[x.v]) (x.st+d) else some ⟨x.f,[],x.st+d⟩:=s5 (ev:=fun x=>ew x p) g
   rw [q2]
   by_cases c:x.f.err=0
   ·rw [if_pos c] at he ⊢
    obtain ⟨g1,g2,g3⟩:=zX h p r _ x.st h2 e he
    exact ⟨g1,by omega,g3⟩
   ·rw [if_neg c] at he ⊢
    cases he
    exact ⟨rfl,h1,h2⟩
theorem iN {ev ew:EvT} (h:y9 d mo ev ew) (p:Plc) (l:List Trm) (hs:st<=mo):GO d mo st (ay (fun x=>ev x p) l st) (ay (fun x=>ew x p) l (st+d)):=by
 unfold ay
 by_cases c:1000000 < l.length
 ·rw [if_pos c];intro e he;cases he
 ·rw [if_neg c,if_neg c];exact zX h p l [] st hs
theorem yb {r:Option Ev} (h:st<=mo):Bes d mo st (tE r st) (tE r (st+d)):=by
 intro e he
 cases r with
 | none=>cases he
 | some x=>cases he;exact ⟨rfl,Int.le_refl _,h⟩
theorem Dr {ev ew:EvT} (h:y9 d mo ev ew) (f:Fnc) (l:List Thg) (a:Int) (hs:st<=mo):Bes d mo st (qj ev f l a st) (qj ew f l a (st+d)):=by
 unfold qj
 cases f.body with
 | none=>exact yb hs
 | some b=>
  cases dj f.scp f.names l with
  | none=>exact gN
  | some s=>exact h _ _ _
theorem Bes.le {r q:Option Ev} {s:Int} (h:Bes d mo s r q) (hs:st<=s):Bes d mo st r q:=fun e he=>by
 obtain ⟨g1,g2,g3⟩:=h e he
 exact ⟨g1,by omega,g3⟩
theorem Ds {ev ew:EvT} (h:y9 d mo ev ew) (hd:0<=d) (hm:mo+d<=1000000) (a:Int) (l:List Thg):Bes d mo st (bC ev mo a l st) (bC ew (mo+d) a l (st+d)):=by
 unfold bC
 by_cases c:¬mv mo st∨l.length=0∨1000000 < l.length
 ·rw [if_pos c];exact gN
 have c1:mv mo st:=Classical.byContradiction fun q=>c (.inl q)
 have hs:st<=mo:=c1.2.1
 have c2:¬(¬mv (mo+d) (st+d)∨l.length=0∨1000000 < l.length):=by
  rintro (q | q)
  ·exact q ⟨by have:=c1.1;omega,by omega,hm⟩
  ·exact c (.inr q)
 rw [if_neg c,if_neg c2]
 refine bK (fun _=>?_) (fun _=>jo hs)
 by_cases q:st=mo
 ·rw [if_pos q,if_pos (by omega)];exact jo hs
 ·rw [if_neg q,if_neg (by omega),show st+d+1=st+1+d by omega]
  exact (Dr h _ _ _ (by omega)).le (by omega)
theorem Dt {ev ew:EvT} (h:y9 d mo ev ew) (t:Trm) (p:Plc) (x:Thg) (hs:st<=mo):Bes d mo st (qk ev t p x st) (qk ew t p x (st+d)):=by
 unfold qk
 refine bK (fun _=>?_) (fun _=>bK (fun _=>?_) (fun _=>bK (fun _=>?_) (fun _=>?_)))
 ·unfold tF
  exact bK (fun _=>bK (fun _=>gN) (fun _=>gM hs)) (fun _=>jo hs)
 ·unfold ifE
  exact bK (fun _=>bK (fun _=>iM (h _ _ _)) (fun _=>gN)) (fun _=>jo hs)
 ·unfold tH tG
  exact bK (fun _=>bK (fun _=>gN) (fun _=>iM (h _ _ _))) (fun _=>jo hs)
 ·unfold Fj
  exact bK (fun _=>bK (fun _=>gN) (fun _=>gM hs)) (fun _=>jo hs)
theorem Du {ev ew:EvT} (h:y9 d mo ev ew) (hd:0<=d) (hm:mo+d<=1000000) (t:Trm) (p:Plc) (hs:st<=mo):Bes d mo st (ql ev mo t p st) (ql ew (mo+d) t p (st+d)):=by
 unfold ql
 refine bK (fun _=>gM hs) (fun _=>?_)
 refine bK (fun _=>gM hs) (fun _=>?_)
 refine bK (fun _=>gM hs) (fun _=>?_)
 refine bK (fun _=>?_) (fun _=>?_)
 ·unfold B5 Dl
  exact bK (fun _=>gM hs) (fun _=>jo hs)
 refine bK (fun _=>iM (gM hs)) (fun _=>?_)
 refine bK (fun _=>ko (iN h p _ hs) (fun v s _ _=>Ds h hd hm _ _)) (fun _=>?_)
 refine bK (fun _=>ko (iN h p _ hs) (fun v s _ q=>gM q)) (fun _=>?_)
 refine bK (fun _=>ko (iN h p _ hs) (fun v s _ q=>gM q)) (fun _=>?_)
 refine bK (fun _=>ko (iN h p _ hs) (fun v s _ q=>gM q)) (fun _=>?_)
 refine bK (fun _=>iM (h _ _ _)) (fun _=>?_)
 refine bK (fun _=>ko (iN h p _ hs) (fun v s _ q=>gM q)) (fun _=>?_)
 refine bK (fun _=>iM (zW (h _ _ _) fun v s _ _=>h _ _ _)) (fun _=>?_)
 exact iM (zW (h _ _ _) fun v s _ q=>Dt h t p v q)
theorem qp (hd:0<=d) (hm:mo+d<=1000000):∀(n m:Nat),n<=m→y9 d mo (ab mo n) (ab (mo+d) m)
 | 0,_,_=>fun t p st e he=>by cases he
 | n+1,m,hnm=>by
  intro t p st e he
  obtain ⟨m,rfl⟩:∃k,m=k+1:=⟨m - 1,by omega⟩
  have ih:=qp hd hm n m (by omega)
  simp only [ab] at he ⊢
  split at he
  case isFalse=>cases he
  rename_i c
  rw [if_pos (show mv (mo+d) (st+d) from ⟨by have:=c.1;omega,by have:=c.2.1;omega,hm⟩)]
  exact Du ih hd hm t p c.2.1 e he
theorem s6 (hm:mo<=1000000) {n m:Nat} (h:n<=m) {t:Trm} {p:Plc} {e:Ev} (he:ab mo n t p st=some e):ab mo m t p st=some e/\st<=e.st/\e.st<=mo:=by
 have:=qp (d:=0) (mo:=mo) (Int.le_refl _) (by omega) n m h t p st e he
 simp only [shE,Int.add_zero] at this
 exact this
theorem ye (hm:mo+1<=1000000) {n m:Nat} (h:n<=m) {t:Trm} {p:Plc} {e:Ev} (he:ab mo n t p st=some e):ab (mo+1) m t p (st+1)=some (shE 1 e):=
 (qp (d:=1) (mo:=mo) (by decide) hm n m h t p st e he).1
end Go.Pd
end
section
namespace Go.Pd
open Go Go.AL
theorem Dv (u:Nat) (h:u < 18446744073709551616):Go.Lib.nDigits u<=20:=by
 rcases Nat.eq_zero_or_pos u with rfl | h1
 ·rw [Go.Lib.nDigits_small (by omega)];omega
 ·have:=Go.Lib.numDigits_eq u h1 h
  split at this <;> omega
theorem yf (n:Int) (h0:-9223372036854775808<=n) (h1:n<=9223372036854775807):(Go.Lib.itoa n).length<=21:=by
 unfold Go.Lib.itoa
 split
 ·rw [List.length_cons,Go.Lib.decDigits_length]
  have:=Dv n.natAbs (by omega)
  omega
 ·rw [Go.Lib.decDigits_length]
  have:=Dv n.toNat (by omega)
  omega
theorem Fm (n:Int):vB n=if 9223372036854775808<=n % 18446744073709551616 then n % 18446744073709551616 - 18446744073709551616 else n % 18446744073709551616:=by
 unfold vB IntKind.wrap
 simp [IntKind.bits,IntKind.signed]
theorem kP (n:Int):-9223372036854775808<=vB n/\vB n<=9223372036854775807:=by
 rw [Fm]
 split <;> omega
def OkX (S:Nat) (t:Trm):Prop:=szT t<=S/\allT ai t=true/\bO t=true
theorem OkX.part {S:Nat} {t x:Trm} (h:OkX S t) (hx:x∈t.parts):OkX S x/\szT x < szT t:=by
 have h1:=fV hx
 have h2:=gG t
 have h3:=h.2.1
 rw [allT_eq,Bool.and_eq_true,allTL_all] at h3
 exact ⟨⟨by have:=h.1;omega,List.all_eq_true.1 h3.2 x hx,qc h.2.2 hx⟩,by omega⟩
theorem vE:∀l:List Trm,l.length<=szTL l
 | []=>Nat.zero_le _
 | p ::r=>by
  have:=vE r
  have:=fA p
  rw [szTL,List.length_cons]
  omega
structure HeadH (x:Thg):Prop where
 lo:-9223372036854775808<=x.n
 hi:x.n<=9223372036854775807
 txt:x.text.length<=2000000
 nms:x.names.length<=2000000
 pts:x.parts.length<=1000000
 tru:x.kind=3→x.n=0∨x.n=1
 rcd:x.kind=5→x.names.length=x.parts.length
 one:x.kind=6∨x.kind=7→x.parts.length=1
mutual
inductive OkH (S:Nat):Thg→Prop
 | mk (x:Thg) (h:HeadH x) (hp:∀y∈x.parts,OkH S y) (hf:∀f,x.fn=some f→OkF S f):OkH S x
inductive OkF (S:Nat):Fnc→Prop
 | mk (f:Fnc) (hs:OkS S f.scp) (hb:(∃b,f.body=some b/\OkX S b/\f.args=(f.names.length:Int))∨(f.body=none/\((f.args=2/\f.basic∈two)∨(f.args=1/\f.basic∈ie)))):OkF S f
inductive OkS (S:Nat):Option Scp→Prop
 | nil:OkS S none
 | bnd (s:Scp) (hw:OkH S s.what) (hr:OkS S s.rest):OkS S (some s)
end
variable {S:Nat}
theorem OkH.head {x:Thg} (h:OkH S x):HeadH x:=by cases h;assumption
theorem OkH.parts {x y:Thg} (h:OkH S x) (hy:y∈x.parts):OkH S y:=by
 cases h with
 | mk _ _ hp _=>exact hp y hy
theorem OkH.fn {x:Thg} {f:Fnc} (h:OkH S x) (hf:x.fn=some f):OkF S f:=by
 cases h with
 | mk _ _ _ q=>exact q f hf
theorem OkS.what {s:Scp} (h:OkS S (some s)):OkH S s.what:=by cases h;assumption
theorem OkS.rest {s:Scp} (h:OkS S (some s)):OkS S s.rest:=by cases h;assumption
theorem my:OkH S jw:=.mk _ ⟨by decide,by decide,by decide,by decide,by decide,by decide,by decide,by decide⟩ (fun y hy=>by cases hy) (fun f hf=>by cases hf)
theorem qq {n:Int} (h0:-9223372036854775808<=n) (h1:n<=9223372036854775807):OkH S (xW n):=
 .mk _ ⟨h0,h1,Nat.zero_le _,Nat.zero_le _,Nat.zero_le _,fun h=>absurd (show (1:Int)=3 from h) (by decide),fun h=>absurd (show (1:Int)=5 from h) (by decide),fun h=>absurd (show (1:Int)=6∨(1:Int)=7 from h) (by decide)⟩ (fun y hy=>by cases hy) (fun f hf=>by cases hf)
theorem yg {s:Str} (h:s.length<=2000000):OkH S (Fh s):=
 .mk _ ⟨by show (-9223372036854775808:Int)<=0;decide,by show (0:Int)<=9223372036854775807;decide,h,Nat.zero_le _,Nat.zero_le _,fun h=>absurd (show (2:Int)=3 from h) (by decide),fun h=>absurd (show (2:Int)=5 from h) (by decide),fun h=>absurd (show (2:Int)=6∨(2:Int)=7 from h) (by decide)⟩ (fun y hy=>by cases hy) (fun f hf=>by cases hf)
theorem tL (b:Bool):OkH S (kW b):=by
 cases b <;> exact .mk _ ⟨by decide,by decide,by decide,by decide,by decide,by decide,by decide,by decide⟩ (fun y hy=>by cases hy) (fun f hf=>by cases hf)
theorem Dw {f:Fnc} (h:OkF S f):OkH S (B4 f):=
 .mk _ ⟨by show (-9223372036854775808:Int)<=0;decide,by show (0:Int)<=9223372036854775807;decide,Nat.zero_le _,Nat.zero_le _,Nat.zero_le _,fun h=>absurd (show (8:Int)=3 from h) (by decide),fun h=>absurd (show (8:Int)=5 from h) (by decide),fun h=>absurd (show (8:Int)=6∨(8:Int)=7 from h) (by decide)⟩ (fun y hy=>by cases hy) (fun g hg=>by cases hg;exact h)
theorem tM {k:Int} {o x:Str} {ns:List Str} {l:List Thg} (hx:x.length<=2000000) (hn:ns.length<=2000000) (hl:l.length<=1000000) (h3:k≠3) (h5:k=5→ns.length=l.length) (h6:k=6∨k=7→l.length=1) (ha:∀y∈l,OkH S y):OkH S (Dj k o x ns l):=
 .mk _ ⟨by show (-9223372036854775808:Int)<=0;decide,by show (0:Int)<=9223372036854775807;decide,hx,hn,hl,fun h=>absurd h h3,h5,h6⟩ ha (fun g hg=>by cases hg)
theorem oD {s:Option Scp} {o n:Str} {w:Thg} (hs:OkS S s) (hw:OkH S w):OkS S (cM s o n w):=.bnd _ hw hs
theorem Dx {k:Int} {s:Option Scp} {n:Str} (hs:OkS S s) (h:(k=2/\n∈two)∨(k=1/\n∈ie)):OkS S (dO k s n):=oD hs (Dw (.mk _ .nil (.inr ⟨rfl,h⟩)))
theorem B8:OkS S bR:=by
 have key:∀(k:Int) (l:List Str) (s:Option Scp),OkS S s→(∀n∈l,(k=2/\n∈two)∨(k=1/\n∈ie))→OkS S (l.foldl (dO k) s):=by
  intro k l
  induction l with
  | nil=>intro s hs _;exact hs
  | cons a r ih=>intro s hs h;exact ih _ (Dx hs (h a (by simp))) fun n hn=>h n (by simp [hn])
 exact key 1 ie _ (key 2 two _ .nil fun n hn=>.inl ⟨rfl,hn⟩) fun n hn=>.inr ⟨rfl,hn⟩
theorem zY:∀{s:Option Scp} {o m:Str} {q:Scp},OkS S s→findF s o m=some q→OkH S q.what
 | none,_,_,_,_,h=>by rw [findF] at h;cases h
 | some ⟨p,n,w,r⟩,o,m,q,hs,h=>by
  rw [gJ] at h
  split at h
  ·cases h;exact hs.what
  ·exact zY (s:=r) hs.rest h
theorem kQ {l:List Thg} (h:∀y∈l,OkH S y) (i:Nat):OkH S (l.getD i default):=by
 rw [List.getD_eq_getElem?_getD]
 cases q:l[i]? with
 | none=>exact my
 | some y=>exact h y (List.mem_of_getElem? q)
theorem qt:∀{ns:List Str} {l:List Thg} {s:Option Scp},ns.length=l.length→OkS S s→(∀y∈l,OkH S y)→∃u,dj s ns l=some u/\OkS S u
 | [],[],s,_,hs,_=>⟨s,rfl,hs⟩
 | n ::ns,x ::xs,s,h,hs,hl=>qt (ns:=ns) (l:=xs) (by simpa using h) (oD hs (hl x (by simp))) fun y hy=>hl y (by simp [hy])
def Dy (S:Nat) (r:Option Ev):Prop:=∃e,r=some e/\(e.f.err=0→OkH S e.v)
theorem kR {v:Thg} {st:Int} (h:OkH S v):Dy S (okE v st):=⟨_,rfl,fun _=>h⟩
theorem vF {x a st:Int}:Dy S (mu x a st):=⟨_,rfl,fun _=>my⟩
theorem iO {k:Int} {l:List Thg} {a:Int} {r:Option Ev} (h:dx k l=true→Dy S r):Dy S (jx k l a r):=by
 unfold jx
 split
 ·exact h (by assumption)
 ·exact vF
theorem B9 {nm:Str} {l:List Thg} {a:Int} (h:(l.length=2/\nm∈two)∨(l.length=1/\nm∈ie)) (hl:∀x∈l,OkH S x):Dy S (an nm l a):=by
 have hne:¬l=[]:=by rintro rfl;rcases h with ⟨q,_⟩ | ⟨q,_⟩ <;> cases q
 have h2:nm∉ie→¬l.length < 2:=by
  intro q
  rcases h with ⟨e,_⟩ | ⟨_,e⟩
  ·omega
  ·exact absurd e q
 have i0:=(kQ hl 0).head
 unfold an
 rw [if_neg hne]
 split
 ·exact iO fun _=>kR (tL _)
 rename_i c1
 split
 ·rename_i c;subst c
  exact iO fun _=>by rw [if_neg (h2 (by decide))];exact kR (tL _)
 split
 ·rename_i c;subst c
  refine iO fun _=>?_
  rw [if_neg (h2 (by decide))]
  unfold GC
  have t0':(tH0 l).length<=2000000:=i0.txt
  have t1':(tH1 l).length<=2000000:=(kQ hl 1).head.txt
  rw [if_neg (by omega)]
  split
  ·exact vF
  ·exact kR (yg (by rw [List.length_append];omega))
 split
 ·have t0':(tH0 l).length<=2000000:=i0.txt
  exact iO fun _=>kR (qq (by omega) (by omega))
 rename_i c4
 refine iO fun _=>?_
 unfold GD
 have n0':-9223372036854775808<=nH0 l/\nH0 l<=9223372036854775807:=⟨i0.lo,i0.hi⟩
 split
 ·have:=yf (nH0 l) n0'.1 n0'.2
  rw [if_neg (by omega)]
  exact kR (yg (by omega))
 rename_i c5
 rw [if_neg (h2 (by
  intro q
  simp only [ie,List.mem_cons,List.not_mem_nil,or_false] at q
  rcases q with q | q | q
  ·exact c1 q
  ·exact c4 q
  ·exact c5 q))]
 refine kR ?_
 split
 ·exact qq (kP _).1 (kP _).2
 split
 ·exact qq (kP _).1 (kP _).2
 split
 ·exact qq (kP _).1 (kP _).2
 split <;> exact tL _
def gO (S:Nat) (mo st:Int) (r:Option Ev):Prop:=∃e,r=some e/\st<=e.st/\e.st<=mo/\(e.f.err=0→OkH S e.v)
def Fo (S:Nat) (mo st:Int) (k:Nat) (r:Option EvL):Prop:=∃e,r=some e/\st<=e.st/\e.st<=mo/\(e.f.err=0→e.vs.length=k/\∀y∈e.vs,OkH S y)
variable {mo st:Int}
theorem gP {v:Thg} (hs:st<=mo) (h:OkH S v):gO S mo st (okE v st):=⟨_,rfl,Int.le_refl _,hs,fun _=>h⟩
theorem jq {x a:Int} (hs:st<=mo):gO S mo st (mu x a st):=⟨_,rfl,Int.le_refl _,hs,fun _=>my⟩
theorem gO.le {s:Int} {r:Option Ev} (h:gO S mo s r) (hs:st<=s):gO S mo st r:=by
 obtain ⟨e,h1,h2,h3⟩:=h
 exact ⟨e,h1,by omega,h3⟩
theorem zZ {r:Option Ev} {k:Thg→Int→Option Ev} (h:gO S mo st r) (hk:∀v s,st<=s→s<=mo→OkH S v→gO S mo s (k v s)):gO S mo st (o9 r k):=by
 obtain ⟨e,rfl,h1,h2,h3⟩:=h
 simp only [o9]
 split
 ·rename_i c;exact (hk _ _ h1 h2 (h3 c)).le h1
 ·exact ⟨_,rfl,h1,h2,fun _=>my⟩
theorem kq {r:Option EvL} {n:Nat} {k:List Thg→Int→Option Ev} (h:Fo S mo st n r) (hk:∀v s,st<=s→s<=mo→v.length=n→(∀y∈v,OkH S y)→gO S mo s (k v s)):gO S mo st (ki r k):=by
 obtain ⟨e,rfl,h1,h2,h3⟩:=h
 simp only [ki]
 split
 ·rename_i c;exact (hk _ _ h1 h2 (h3 c).1 (h3 c).2).le h1
 ·exact ⟨_,rfl,h1,h2,fun _=>my⟩
theorem A0 {ev:Trm→Int→Option Ev}:∀(l:List Trm) (out:List Thg) (st:Int),st<=mo→(∀t∈l,∀s,st<=s→s<=mo→gO S mo s (ev t s))→(∀y∈out,OkH S y)→Fo S mo st (out.length+l.length) (ig ev l out st)
 | [],out,st,hs,_,ho=>⟨_,rfl,Int.le_refl _,hs,fun _=>⟨rfl,ho⟩⟩
 | t ::r,out,st,hs,h,ho=>by
  obtain ⟨e,he,h1,h2,h3⟩:=h t (by simp) st (Int.le_refl _) hs
  simp only [ig,he]
  split
  ·rename_i c
   obtain ⟨w,hw,g1,g2,g3⟩:=A0 r (out++[e.v]) e.st h2 (fun x hx s q=>h x (by simp [hx]) s (by omega)) (by
    intro y hy
    rcases List.mem_append.1 hy with q | q
    ·exact ho y q
    ·rw [List.mem_singleton] at q;subst q;exact h3 c)
   refine ⟨w,hw,by omega,g2,fun q=>⟨?_,(g3 q).2⟩⟩
   rw [(g3 q).1]
   simp only [List.length_append,List.length_cons,List.length_nil]
   omega
  ·rename_i c
   exact ⟨_,rfl,h1,h2,fun q=>absurd q c⟩
theorem Ba {ev:Trm→Int→Option Ev} {l:List Trm} (hs:st<=mo) (hl:l.length<=1000000) (h:∀t∈l,∀s,st<=s→s<=mo→gO S mo s (ev t s)):Fo S mo st l.length (ay ev l st):=by
 unfold ay
 rw [if_neg (by omega)]
 have:=A0 (S:=S) (mo:=mo) l [] st hs h (fun y hy=>by cases hy)
 simpa using this
theorem iP {t:Trm} {i:Nat} {r:Option Ev} (hi:i < t.parts.length) (h:gO S mo st r):gO S mo st (fR t i r):=by
 unfold fR
 rw [if_neg (by omega)]
 exact h
theorem s7:∀{l:List Str} {v:Str} {i:Int},0<=i→0<=bh l v i→i<=bh l v i/\bh l v i < i+l.length
 | [],v,i,_,h=>by simp [bh] at h
 | a ::r,v,i,hi,h=>by
  simp only [bh] at h ⊢
  split
  ·simp only [List.length_cons];omega
  ·rename_i c
   rw [if_neg c] at h
   have:=s7 (l:=r) (v:=v) (i:=i+1) (by omega) h
   simp only [List.length_cons]
   omega
theorem vG {l:List Str} {v:Str} (h:0<=bh l v 0):(bh l v 0).toNat < l.length:=by
 have:=s7 (l:=l) (v:=v) (i:=0) (by decide) h
 omega
theorem fw {t:Trm} {i:Nat} (h:i < t.parts.length):kl t i∈t.parts:=by
 unfold kl
 rw [List.getD_eq_getElem?_getD,List.getElem?_eq_getElem h]
 exact List.getElem_mem h
theorem vH {t:Trm} {n v s p:Nat} (h:dN t n v s p=true):t.names.length=n/\t.vars.length=v/\t.parts.length=p:=by
 unfold dN at h
 simp only [Bool.and_eq_true,decide_eq_true_eq] at h
 exact ⟨h.1.1.1,h.1.1.2,h.2⟩
structure Kinds (t:Trm):Prop where
 i1:t.kind=1→0<=t.n/\t.n<=999999999999999
 i6:t.kind=6→t.parts.length=1
 i7:t.kind=7→0 < t.parts.length
 i8:t.kind=8→t.names.length=t.parts.length
 i10:t.kind=10→t.parts.length=1
 i12:t.kind=12→t.parts.length=3
 i13:t.kind=13→t.vars.length=t.names.length/\t.parts.length=t.names.length+1
 i14:t.kind=14→t.parts.length=2
 i15:t.kind=15→t.parts.length=1
 i16:t.kind=16→t.parts.length=1
 els:t.kind≠1→t.kind≠2→¬(t.kind=3∨t.kind=4)→t.kind≠5→t.kind≠6→t.kind≠7→t.kind≠8→t.kind≠10→t.kind≠11→0 < t.parts.length
theorem Dz {t:Trm} (h:gY t=true):Kinds t:=by
 constructor
 all_goals intro hk
 case els=>
  intro k2 k3 k5 k6 k7 k8 k10 k11
  unfold gY at h
  rw [if_neg hk,if_neg k2,if_neg k3,if_neg k5,if_neg k6,if_neg k7,if_neg k8] at h
  have key:∀{b:Bool} {n v s p:Nat},0 < p→(b && dN t n v s p)=true→0 < t.parts.length:=fun hp q=>by
   rw [Bool.and_eq_true] at q
   have:=(vH q.2).2.2
   omega
  by_cases d9:t.kind=9∨t.kind=10
  ·rw [if_pos d9] at h;exact key (by decide) h
  rw [if_neg d9,if_neg k11] at h
  by_cases d12:t.kind=12
  ·rw [if_pos d12] at h;exact key (by decide) h
  rw [if_neg d12] at h
  by_cases d13:t.kind=13
  ·rw [if_pos d13] at h;exact key (by omega) h
  rw [if_neg d13] at h
  by_cases d14:t.kind=14
  ·rw [if_pos d14] at h;exact key (by decide) h
  rw [if_neg d14] at h
  by_cases d15:t.kind=15
  ·rw [if_pos d15] at h;exact key (by decide) h
  rw [if_neg d15] at h
  by_cases d16:t.kind=16∨t.kind=17
  ·rw [if_pos d16] at h;exact key (by decide) h
  rw [if_neg d16] at h
  cases h
 all_goals
  unfold gY at h
  simp only [hk,Int.reduceEq,or_self,or_false,or_true,↓reduceIte,Bool.and_eq_true,decide_eq_true_eq] at h
  have hr:=vH h.2
  omega
theorem DA {ev:EvT} {t:Trm} {p:Plc} {x:Thg} (hs:st<=mo) (hk:Kinds t) (h9:0 < t.parts.length) (hx:OkH S x) (hp:OkS S p.scp) (h:∀y∈t.parts,∀q:Plc,OkS S q.scp→gO S mo st (ev y q st)):gO S mo st (qk ev t p x st):=by
 unfold qk
 split
 ·unfold tF
  split
  ·rename_i c
   have h1:=hx.head.rcd c.1
   have h2:=vG (v:=t.name) (l:=x.names) c.2
   rw [if_neg (by omega)]
   exact gP hs (kQ (fun y hy=>hx.parts hy) _)
  ·exact jq hs
 split
 ·rename_i c
  unfold ifE
  split
  ·rename_i c3
   rw [if_pos (hx.head.tru c3)]
   have h3:=hk.i12 c
   have hlt:(2 - x.n).toNat < t.parts.length:=by rcases hx.head.tru c3 with q | q <;> omega
   exact iP hlt (h _ (fw hlt) _ hp)
  ·exact jq hs
 split
 ·rename_i c
  unfold tH
  split
  ·rename_i c6
   obtain ⟨g1,g2⟩:=hk.i13 c
   have h2:=vG (v:=x.text) (l:=t.names) c6.2
   have h1:=hx.head.one (.inl c6.1)
   unfold tG
   rw [if_neg (by omega)]
   have hlt:(bh t.names x.text 0).toNat+1 < t.parts.length:=by omega
   exact iP hlt (h _ (fw hlt) _ (oD hp (kQ (fun y hy=>hx.parts hy) _)))
  ·exact jq hs
 ·unfold Fj
  split
  ·rename_i c
   have h1:=hx.head.one (.inr c.1)
   rw [if_neg (by omega)]
   exact gP hs (kQ (fun y hy=>hx.parts hy) _)
  ·exact jq hs
theorem DB {ev:EvT} {a:Int} {l:List Thg} (h0:0<=st) (hs:st<=mo) (hm:mo<=1000000) (hn:0 < l.length) (hl:l.length<=1000000) (ha:∀y∈l,OkH S y) (h:∀b,OkX S b→∀q:Plc,OkS S q.scp→st+1<=mo→gO S mo (st+1) (ev b q (st+1))):gO S mo st (bC ev mo a l st):=by
 unfold bC
 rw [if_neg (show ¬(¬mv mo st∨l.length=0∨1000000 < l.length) from fun q=>q.elim (fun q=>q ⟨h0,hs,hm⟩) (by omega))]
 split
 ·rename_i c
  split
  ·exact jq hs
  rename_i c2
  refine gO.le (s:=st+1) ?_ (by omega)
  have hf:OkF S (fcn l):=by
   have h1:=c.1
   unfold oa at h1
   obtain ⟨f,hf⟩:=Option.isSome_iff_exists.1 h1
   have:fcn l=f:=by unfold fcn;rw [hf];rfl
   rw [this]
   exact (kQ ha 0).fn hf
  have hd:(l.drop 1).length=l.length - 1:=List.length_drop
  have hda:∀y∈l.drop 1,OkH S y:=fun y hy=>ha y (List.mem_of_mem_drop hy)
  cases hf with
  | mk _ hsc hb=>
   rcases hb with ⟨b,e1,e2,e3⟩ | ⟨e1,e2⟩
   ·unfold qj
    rw [e1]
    obtain ⟨u,hu,ho⟩:=qt (S:=S) (ns:=(fcn l).names) (l:=l.drop 1) (s:=(fcn l).scp) (by have:=c.2;rw [e3] at this;omega) hsc hda
    simp only [hu]
    exact h b e2 _ ho (by omega)
   ·unfold qj
    rw [e1]
    have:=c.2
    obtain ⟨e,he,hh⟩:=B9 (S:=S) (nm:=(fcn l).basic) (l:=l.drop 1) (a:=a) (by
     rcases e2 with ⟨q1,q2⟩ | ⟨q1,q2⟩
     ·exact .inl ⟨by omega,q2⟩
     ·exact .inr ⟨by omega,q2⟩) hda
    simp only [he,tE]
    exact ⟨_,rfl,Int.le_refl _,by show st+1<=mo;omega,hh⟩
 ·exact jq hs
theorem vI (hS:S<=1000000) (hm:mo<=1000000):∀(n:Nat) (t:Trm) (p:Plc) (st:Int),0<=st→st<=mo→OkX S t→OkS S p.scp→(mo - st).toNat *(S+2)+szT t<=n→gO S mo st (ab mo n t p st)
 | 0,t,p,st,_,_,_,_,h=>absurd h (by have:=fA t;omega)
 | n+1,t,p,st,h0,hs,hx,hp,hn=>by
  have hz:=gG t
  have hS':=hx.1
  have hl:t.parts.length<=1000000:=by have:=vE t.parts;omega
  have ih:=vI hS hm n
  have rec':∀y∈t.parts,∀q:Plc,OkS S q.scp→∀s,st<=s→s<=mo→gO S mo s (ab mo n y q s):=fun y hy q hq s g1 g2=>by
   obtain ⟨k1,k2⟩:=hx.part hy
   have:=Nat.mul_le_mul_right (S+2) (show (mo - s).toNat<=(mo - st).toNat by omega)
   exact ih y q s (by omega) g2 k1 hq (by omega)
  have recB:∀b,OkX S b→∀q:Plc,OkS S q.scp→∀s,st < s→s<=mo→gO S mo s (ab mo n b q s):=fun b hb q hq s g1 g2=>by
   have:=Nat.mul_le_mul_right (S+2) (show (mo - s).toNat+1<=(mo - st).toNat by omega)
   rw [Nat.add_mul,Nat.one_mul] at this
   have:=hb.1
   exact ih b q s (by omega) g2 hb hq (by omega)
  have hfit:=hx.2.1
  rw [allT_eq,Bool.and_eq_true] at hfit
  have hfit:=hfit.1
  unfold ai at hfit
  rw [Bool.and_eq_true] at hfit
  have hk:=Dz hfit.2
  have hnm:=qd hx.2.2
  have hpts:Fo S mo st t.parts.length (ay (fun x=>ab mo n x p) t.parts st):=Ba hs hl fun y hy s g1 g2=>rec' y hy p hp s g1 g2
  simp only [ab]
  rw [if_pos (show mv mo st from ⟨h0,hs,hm⟩)]
  unfold ql
  by_cases c1:t.kind=1
  ·have c:=c1
   rw [if_pos c1]
   have:=hk.i1 c
   exact gP hs (qq (by omega) (by omega))
  rw [if_neg c1]
  by_cases c2:t.kind=2
  ·rw [if_pos c2]
   exact gP hs (yg hnm.1)
  rw [if_neg c2]
  by_cases c3:t.kind=3∨t.kind=4
  ·rw [if_pos c3]
   exact gP hs (tL _)
  rw [if_neg c3]
  by_cases c5:t.kind=5
  ·rw [if_pos c5]
   unfold B5 Dl
   split
   ·rename_i c
    obtain ⟨q,hq⟩:=Option.isSome_iff_exists.1 c
    rw [hq]
    exact gP hs (zY hp hq)
   ·exact jq hs
  rw [if_neg c5]
  by_cases c6:t.kind=6
  ·have c:=c6
   rw [if_pos c6]
   have:=hk.i6 c
   exact iP (by omega) (gP hs (Dw (.mk _ hp (.inl ⟨_,rfl,(hx.part (fw (by omega))).1,rfl⟩))))
  rw [if_neg c6]
  by_cases c7:t.kind=7
  ·have c:=c7
   rw [if_pos c7]
   have:=hk.i7 c
   exact kq hpts fun v s g1 g2 g3 g4=>DB (by omega) g2 hm (by omega) (by omega) g4 fun b hb q hq g5=>recB b hb q hq _ (by omega) g5
  rw [if_neg c7]
  by_cases c8:t.kind=8
  ·have c:=c8
   rw [if_pos c8]
   have:=hk.i8 c
   exact kq hpts fun v s g1 g2 g3 g4=>gP g2 (tM (Nat.zero_le _) hnm.2 (by omega) (by decide) (fun _=>by omega) (fun q=>absurd q (by decide)) g4)
  rw [if_neg c8]
  by_cases c10:t.kind=10
  ·have c:=c10
   rw [if_pos c10]
   have:=hk.i10 c
   exact kq hpts fun v s g1 g2 g3 g4=>gP g2 (tM hnm.1 (Nat.zero_le _) (by omega) (by decide) (fun q=>absurd q (by decide)) (fun q=>by omega) g4)
  rw [if_neg c10]
  by_cases c11:t.kind=11
  ·rw [if_pos c11]
   exact kq hpts fun v s g1 g2 g3 g4=>gP g2 (tM (Nat.zero_le _) (Nat.zero_le _) (by omega) (by decide) (fun q=>absurd q (by decide)) (fun q=>absurd q (by decide)) g4)
  rw [if_neg c11]
  by_cases c15:t.kind=15
  ·have c:=c15
   rw [if_pos c15]
   have:=hk.i15 c
   exact iP (by omega) (rec' _ (fw (by omega)) p hp st (Int.le_refl _) hs)
  rw [if_neg c15]
  by_cases c16:t.kind=16
  ·have c:=c16
   rw [if_pos c16]
   have:=hk.i16 c
   exact kq hpts fun v s g1 g2 g3 g4=>gP g2 (tM hnm.1 (Nat.zero_le _) (by omega) (by decide) (fun q=>absurd q (by decide)) (fun q=>by omega) g4)
  rw [if_neg c16]
  by_cases c14:t.kind=14
  ·have c:=c14
   rw [if_pos c14]
   have:=hk.i14 c
   exact iP (by omega) (zZ (rec' _ (fw (by omega)) p hp st (Int.le_refl _) hs) fun v s g1 g2 g3=>rec' _ (fw (by omega)) _ (oD hp g3) s g1 g2)
  rw [if_neg c14]
  have h9:=hk.els c1 c2 c3 c5 c6 c7 c8 c10 c11
  exact iP h9 (zZ (rec' _ (fw h9) p hp st (Int.le_refl _) hs) fun v s g1 g2 g3=>DA g2 hk h9 g3 hp fun y hy q hq=>rec' y hy q hq s g1 g2)
end Go.Pd
end
section
namespace Go.Pd
open Go.AL
theorem qu {t:Trm} (ht:bw t=0):allT ai t=true:=by
 unfold bw at ht
 by_cases a:4096 < (countT t 4096).1
 ·rw [if_pos a] at ht;exact absurd ht (by decide)
 rw [if_neg a] at ht
 by_cases b:40 < (countT t 4096).2
 ·rw [if_pos b] at ht;exact absurd ht (by decide)
 rw [if_neg b] at ht
 by_cases c:allT ai t=true
 ·exact c
 ·rw [if_neg c] at ht;exact absurd ht (by decide)
theorem qv {t:Trm} (h:bw t=0):szT t<=4096/\deepT t<=40:=by
 unfold bw at h
 by_cases a:4096 < (countT t 4096).1
 ·rw [if_pos a] at h;exact absurd h (by decide)
 rw [if_neg a] at h
 rw [countT_size t 4096 (by omega)] at a
 by_cases b:40 < (countT t 4096).2
 ·rw [if_pos b] at h;exact absurd h (by decide)
 rw [countT_deep t 4096 (by omega)] at b
 omega
theorem s8 {p:Trm}:∀{l:List Trm},p∈l→deepT p<=maxDT l
 | a ::r,h=>by
  rw [maxDT]
  rcases List.mem_cons.1 h with rfl | h
  ·omega
  ·have:=s8 h;omega
theorem yh {t p:Trm} (h:bw t=0) (hp:p∈t.parts):bw p=0:=by
 have hs:=qv h
 have hf:=qu h
 rw [allT_eq,Bool.and_eq_true,allTL_all,List.all_eq_true] at hf
 have h1:=fV hp
 have h2:=gG t
 have h3:=s8 hp
 have h4:deepT t=maxDT t.parts+1:=by cases t;rw [deepT]
 unfold bw
 rw [countT_size p 4096 (by omega),countT_deep p 4096 (by omega),if_neg (by omega),if_neg (by omega),if_pos (hf.2 p hp)]
end Go.Pd
end
section
namespace Go.Pd
open Go Go.AL
variable {S:Nat}
theorem DC {x:Thg} {ps:List Vlu} (hn:x.names.length<=8796093022208) (h:∀v∈ps,cI v=true):cI (Dm x ps)=true:=by
 unfold cI
 rw [tK,Bool.and_eq_true,List.all_eq_true]
 exact ⟨Xd hn,h⟩
theorem vJ {td:Thg→Int→Option Td}:∀(l:List Thg) (out:List Vlu) (r:Int),0<=r→
  (∀x∈l,∀s,0<=s→s<=r→∃t,td x s=some t/\t.room < s/\(t.ok=true→0<=t.room/\cI t.v=true))→(∀v∈out,cI v=true)→
  ∃t,gK td l out r=some t/\t.room<=r/\(t.ok=true→0<=t.room/\∀v∈t.vs,cI v=true)
 | [],out,r,hr,_,ho=>⟨_,rfl,Int.le_refl _,fun _=>⟨hr,ho⟩⟩
 | x ::l,out,r,hr,h,ho=>by
  obtain ⟨t,ht,h1,h2⟩:=h x (by simp) r hr (Int.le_refl _)
  simp only [gK,ht]
  by_cases c:t.ok=true
  ·rw [if_pos c]
   obtain ⟨h3,h4⟩:=h2 c
   obtain ⟨w,hw,g1,g2⟩:=vJ l (out++[t.v]) t.room h3 (fun y hy s q1 q2=>h y (by simp [hy]) s q1 (by omega)) (by
    intro v hv
    rcases List.mem_append.1 hv with q | q
    ·exact ho v q
    ·rw [List.mem_singleton] at q;subst q;exact h4)
   exact ⟨w,hw,by omega,g2⟩
  ·rw [if_neg c]
   exact ⟨_,rfl,by show t.room<=r;omega,fun q=>by cases q⟩
theorem vK:∀(m:Nat) (x:Thg) (r:Int),OkH S x→0<=r→r<=1000000→r.toNat < m→∃t,aX m x r=some t/\t.room < r/\(t.ok=true→0<=t.room/\cI t.v=true)
 | 0,_,_,_,_,_,h=>absurd h (Nat.not_lt_zero _)
 | m+1,x,r,hx,h0,h1,hm=>by
  have hh:=hx.head
  have hn:=hh.nms
  have hp:=hh.pts
  simp only [aX]
  rw [if_neg (show ¬¬qn r from fun q=>q ⟨h0,h1⟩)]
  by_cases c:r - 1 < 0
  ·rw [if_pos c]
   exact ⟨_,rfl,by show r - 1 < r;omega,fun q=>by cases q⟩
  rw [if_neg c,if_neg (by omega)]
  obtain ⟨w,hw,g1,g2⟩:=vJ (td:=aX m) x.parts [] (r - 1) (by omega) (fun y hy s q1 q2=>vK m y s (hx.parts hy) q1 (by omega) (by omega)) (fun v hv=>by cases hv)
  rw [hw]
  refine ⟨_,rfl,by show w.room < r;omega,fun q=>?_⟩
  have q:w.ok=true:=q
  obtain ⟨g3,g4⟩:=g2 q
  refine ⟨g3,?_⟩
  show cI (if w.ok=true then Dm x w.vs else dH)=true
  rw [if_pos q]
  exact DC (by omega) g4
theorem Bb {m:Nat} {x:Thg} {a:Int} (hx:OkH S x) (hm:2000 < m):∃s,ck m x a=some s/\szV s.v<=2000:=by
 obtain ⟨t,ht,h1,h2⟩:=vK m x 2000 hx (by decide) (by decide) (show (2000:Int).toNat < m from hm)
 unfold ck
 rw [ht]
 simp only
 by_cases c:t.ok=true
 ·rw [if_pos c,if_pos (h2 c).2]
  by_cases d:oc t.v=0
  ·rw [if_pos d]
   refine ⟨_,rfl,?_⟩
   unfold oc at d
   by_cases e:2000 < szV t.v
   ·rw [if_pos e] at d;cases d
   ·exact Nat.not_lt.1 e
  ·rw [if_neg d];exact ⟨_,rfl,by show szV dH<=2000;decide⟩
 ·rw [if_neg c];exact ⟨_,rfl,by show szV dH<=2000;decide⟩
theorem yi {t:Trm} {k:Int} (hc:bw t=0) (h0:0<=k) (h1:k<=2000) (n m:Nat):aY n m t k=(bM n m t k).map kX:=by
 unfold aY
 rw [if_neg (by omega),if_neg (by omega)]
def gZ (S:Nat):Nat:=2001 *(S+2)+S+2
theorem Bc (hS:S<=100000) {t:Trm} {k:Int} (hx:OkX S t) (h0:0<=k) (h1:k<=2000) {n:Nat} (hn:gZ S<=n):gO S k 0 (ab k n t nh 0):=by
 unfold gZ at hn
 have:=Nat.mul_le_mul_right (S+2) (show (k - 0).toNat<=2001 by omega)
 have:=hx.1
 exact vI (by omega) (by omega) n t nh 0 (Int.le_refl _) h0 hx B8 (by omega)
theorem DD {e:Ev} {m:Nat} {a:Int} (he:e.f.err=0→OkH S e.v) (hm:2000 < m):∃r,lL m a e=some r/\szV r.v<=2000/\r.st=e.st:=by
 unfold lL
 by_cases c:e.f.err=0
 ·rw [if_pos c]
  obtain ⟨s,hs,hz⟩:=Bb (a:=a) (he c) hm
  rw [hs]
  refine ⟨_,rfl,?_,?_⟩
  ·unfold swR
   split
   ·exact hz
   ·show szV dH<=2000;decide
  ·unfold swR
   split <;> rfl
 ·rw [if_neg c];exact ⟨_,rfl,by show szV dH<=2000;decide,rfl⟩
theorem Fp (m:Nat) (a:Int) (e:Ev) (d:Int):lL m a (shE d e)=(lL m a e).map fun r=>⟨r.v,r.st+d,r.f⟩:=by
 unfold lL shE
 simp only
 by_cases c:e.f.err=0
 ·rw [if_pos c,if_pos c]
  cases ck m e.v a with
  | none=>rfl
  | some s=>
   simp only [Option.map_some,Xs]
   unfold swR
   split <;> rfl
 ·rw [if_neg c,if_neg c];rfl
theorem DE {nm:Str} {t:Trm} {k:Int} {n:Nat} {e:Ev} (hk:k<=1000000) (he:ab k (n+1) t nh 0=some e) :
  ∃d,ab k (n+2) (kY nm t) nh 0=some d/\∀m a,lL m a d=lL m a e:=by
 obtain ⟨_,h1,h2⟩:=s6 hk (Nat.le_refl _) he
 have e1:ab k (n+2) (kY nm t) nh 0=o9 (ab k (n+1) t nh 0) fun v st=>ab k (n+1) (B7 nm) ⟨cM bR [] nm v,[]⟩ st:=by
  rw [ab,if_pos (show mv k 0 from ⟨Int.le_refl _,by omega,hk⟩)]
  rfl
 rw [e1,he]
 simp only [o9]
 by_cases c:e.f.err=0
 ·rw [if_pos c,ab,if_pos (show mv k e.st from ⟨h1,h2,hk⟩)]
  refine ⟨⟨⟨0,0⟩,e.v,e.st⟩,?_,fun m a=>?_⟩
  ·show B5 (B7 nm) _ e.st=_
   unfold B5 Dl
   rw [show findF (cM bR [] nm e.v) (B7 nm).pkg (B7 nm).name=some ⟨[],nm,e.v,bR⟩ from by
    show findF (some ⟨[],nm,e.v,bR⟩) [] nm=_
    rw [gJ,if_pos ⟨rfl,rfl⟩]]
   rfl
  ·unfold lL
   rw [if_pos c,if_pos rfl]
 ·rw [if_neg c]
  refine ⟨_,rfl,fun m a=>?_⟩
  unfold lL
  rw [if_neg c,if_neg c]
theorem Bd {t:Trm} {k:Int} {n:Nat} {e:Ev} (h0:0<=k) (hk:k+1<=1000000) (he:ab k (n+1) t nh 0=some e) :
  ab (k+1) (n+2) (gL t) nh 0=some (shE 1 e):=by
 have h:=ye hk (Nat.le_refl _) he
 have ok0:mv (k+1) 0:=⟨Int.le_refl _,by omega,hk⟩
 rw [ab,if_pos ok0]
 have e1:ql (ab (k+1) (n+1)) (k+1) (gL t) nh 0=ki (ay (fun x=>ab (k+1) (n+1) x nh) [Fl t] 0) (bC (ab (k+1) (n+1)) (k+1) t.pos):=rfl
 have e2:ab (k+1) (n+1) (Fl t) nh 0=okE (B4 ⟨bR,[],[],some t,[],0⟩) 0:=by
  rw [ab,if_pos ok0]
  rfl
 have e3:ay (fun x=>ab (k+1) (n+1) x nh) [Fl t] 0=some ⟨⟨0,0⟩,[B4 ⟨bR,[],[],some t,[],0⟩],0⟩:=by
  unfold ay
  rw [if_neg (by simp)]
  simp only [ig,e2,okE]
  rfl
 rw [e1,e3]
 show (if (0:Int)=0 then bC (ab (k+1) (n+1)) (k+1) t.pos [B4 ⟨bR,[],[],some t,[],0⟩] 0 else some ⟨⟨0,0⟩,jw,0⟩)=_
 rw [if_pos rfl]
 unfold bC
 rw [if_neg (fun q=>q.elim (fun q=>q ok0) (by simp)),if_pos ⟨rfl,rfl⟩,if_neg (by omega)]
 exact h
theorem Fq {t:Trm} {nm:Str} {k:Int} (hS:szT t<=100000) (hs:bO t=true) (h0:0<=k) (h1:k < 2000) (hl:bw (kY nm t)=0) (hc:bw (gL t)=0) :
  xZ (gZ (szT t)+1) 2001 t nm k:=by
 have ht:bw t=0:=yh hl (.head _)
 have hx:OkX (szT t) t:=⟨Nat.le_refl _,qu ht,hs⟩
 have hp:2<=gZ (szT t):=by unfold gZ;omega
 obtain ⟨e,he,g1,g2,g3⟩:=Bc hS hx h0 (by omega) (n:=gZ (szT t) - 1+1) (by omega)
 have hn:gZ (szT t)+1=gZ (szT t) - 1+2:=by omega
 obtain ⟨r,hr,hz,hst⟩:=DD (a:=t.pos) g3 (show 2000 < 2001 by decide)
 have he2:=(s6 (by omega) (show gZ (szT t) - 1+1<=gZ (szT t) - 1+2 by omega) he).1
 obtain ⟨d,hd,hd2⟩:=DE (nm:=nm) (by omega) he
 have hcall:=Bd h0 (by omega) he
 have r1:aY (gZ (szT t)+1) 2001 t k=some (kX r):=by
  rw [yi ht h0 (by omega),hn]
  unfold bM
  rw [he2,Option.bind_some,hr];rfl
 have r2:aY (gZ (szT t)+1) 2001 (kY nm t) k=some (kX r):=by
  rw [yi hl h0 (by omega),hn]
  unfold bM
  rw [hd,Option.bind_some,hd2]
  show Option.map kX (lL 2001 t.pos e)=_
  rw [hr];rfl
 have r3:aY (gZ (szT t)+1) 2001 (gL t) (k+1)=some (kX ⟨r.v,r.st+1,r.f⟩):=by
  rw [yi hc (by omega) (by omega),hn]
  unfold bM
  rw [hcall,Option.bind_some,Fp]
  show Option.map kX (Option.map _ (lL 2001 t.pos e))=_
  rw [hr];rfl
 refine ⟨kX r,_,r1,r2,r3,?_,?_,?_,?_,?_,?_⟩
 ·unfold kX;simp only;split <;> rfl
 ·unfold kX;simp only;split <;> rfl
 ·intro q
  unfold kX at q ⊢
  simp only at q ⊢
  by_cases c:r.f.err=0
  ·rw [if_pos c,if_pos c]
  ·rw [if_neg c] at q;exact absurd q c
 ·unfold kX
  split
  ·exact hz
  ·show szV dH<=2000;decide
 ·unfold kX
  split
  ·show 0<=r.st;omega
  ·exact Int.le_refl _
 ·unfold kX
  split
  ·show r.st<=2000;omega
  ·show (0:Int)<=2000;decide
end Go.Pd
end
section
open Go Go.AL Go.Pd
namespace Go.AL.Seat
theorem DF (c:Int)  :
  if decide ((97:Int)<=c)=true then True/\decide (c<=(122:Int))=bS c/\True else True/\false=bS c/\True:=by
 unfold bS;simp only [jZ];split <;> simp [*]
theorem DG (c:Int)  :
  if decide ((65:Int)<=c)=true then True/\decide (c<=(90:Int))=bY c/\True else True/\false=bY c/\True:=by
 unfold bY;simp only [jZ];split <;> simp [*]
theorem DH (c:Int)  :
  if decide ((48:Int)<=c)=true then True/\decide (c<=(57:Int))=eQ c/\True else True/\false=eQ c/\True:=by
 unfold eQ;simp only [jZ];split <;> simp [*]
theorem Fs (c:Int)  :
  if bS c=true then True/\true=dy c/\True else if bY c=true then True/\true=dy c/\True else if eQ c=true then True/\true=dy c/\True else True/\decide (c=(95:Int))=dy c/\True:=by
 unfold dy;cases bS c <;> cases bY c <;> cases eQ c <;> simp
theorem Be (s:Str) (hs:Wf .str s) :
  if decide (s=[])=true then True/\false=bZ bS s/\True else if decide ((24:Int) < (↑(List.length s):Int))=true then True/\false=bZ bS s/\True else ((0:Int)<=(0:Int)/\(0:Int) < (↑(List.length s):Int))/\if (!bS (↑(UInt8.toNat (List.getD s (Int.toNat (0:Int)) (0:UInt8))):Int))=true then True/\false=bZ bS s/\True else (∃(x:Nat),(x<=List.length s/\bZ bS s=List.all (List.drop x s) fun (c:UInt8) ↦dy (bI c))/\(0:Int)=(↑x:Int)/\s=s/\false=false/\(↑(List.length s):Int)=(↑(List.length s):Int)/\True)/\∀(x:Nat),(x<=List.length s/\bZ bS s=List.all (List.drop x s) fun (c:UInt8) ↦dy (bI c))→if decide ((↑x:Int) < (↑(List.length s):Int))=true then ((0:Int)<=(↑x:Int)/\(↑x:Int) < (↑(List.length s):Int))/\if (!dy (↑(UInt8.toNat (List.getD s (Int.toNat (↑x:Int)) (0:UInt8))):Int))=true then True/\false=bZ bS s/\True else inR IntKind.i64 ((↑x:Int)+(1:Int))/\∃(y:Nat),(y<=List.length s/\bZ bS s=List.all (List.drop y s) fun (c:UInt8) ↦dy (bI c))/\List.length s - y < List.length s - x/\(↑x:Int)+(1:Int)=(↑y:Int)/\s=s/\false=false/\(↑(List.length s):Int)=(↑(List.length s):Int)/\True else True/\true=bZ bS s/\True:=by
 have hlen:=hs.str
 have eb:∀b:UInt8,(b.toNat:Int)=bI b:=fun _=>rfl
 simp only [jZ,Int.toNat_natCast,Int.toNat_zero,true_and,and_true,eb,bZ]
 generalize bS (bI (s.getD 0 0))=f0
 by_cases h0:s=[]
 ·simp [h0]
 have hpos:0 < s.length:=List.length_pos_iff.2 h0
 by_cases h1:s.length<=24
 ·rw [if_neg h0,if_neg (by omega)]
  refine ⟨by omega,?_⟩
  cases f0 with
  | false=>simp
  | true=>
   simp only [Bool.not_true,Bool.false_eq_true,if_false,h0,h1,decide_false,decide_true,Bool.not_false,Bool.true_and]
   refine ⟨⟨0,⟨by omega,rfl⟩,rfl⟩,?_⟩
   rintro k ⟨h3,h4⟩
   split
   ·have hk:k < s.length:=by omega
    rw [aO s k 0 hk,List.all_cons] at h4
    generalize dy (bI (s.getD k 0))=r at h4 ⊢
    refine ⟨by omega,?_⟩
    cases r with
    | false=>simpa using h4.symm
    | true=>
     simp only [Bool.not_true,Bool.false_eq_true,if_false]
     exact ⟨b6 hk hlen,k+1,⟨by omega,by simpa using h4⟩,by omega,by omega⟩
   ·have hk:k=s.length:=by omega
    subst hk
    simpa using h4.symm
 ·rw [if_neg h0,if_pos (by omega)]
  simp [h1]
theorem Bf (s:Str) (hs:Wf .str s) :
  if decide (s=[])=true then True/\false=bZ bY s/\True else if decide ((24:Int) < (↑(List.length s):Int))=true then True/\false=bZ bY s/\True else ((0:Int)<=(0:Int)/\(0:Int) < (↑(List.length s):Int))/\if (!bY (↑(UInt8.toNat (List.getD s (Int.toNat (0:Int)) (0:UInt8))):Int))=true then True/\false=bZ bY s/\True else (∃(x:Nat),(x<=List.length s/\bZ bY s=List.all (List.drop x s) fun (c:UInt8) ↦dy (bI c))/\(0:Int)=(↑x:Int)/\s=s/\false=false/\(↑(List.length s):Int)=(↑(List.length s):Int)/\True)/\∀(x:Nat),(x<=List.length s/\bZ bY s=List.all (List.drop x s) fun (c:UInt8) ↦dy (bI c))→if decide ((↑x:Int) < (↑(List.length s):Int))=true then ((0:Int)<=(↑x:Int)/\(↑x:Int) < (↑(List.length s):Int))/\if (!dy (↑(UInt8.toNat (List.getD s (Int.toNat (↑x:Int)) (0:UInt8))):Int))=true then True/\false=bZ bY s/\True else inR IntKind.i64 ((↑x:Int)+(1:Int))/\∃(y:Nat),(y<=List.length s/\bZ bY s=List.all (List.drop y s) fun (c:UInt8) ↦dy (bI c))/\List.length s - y < List.length s - x/\(↑x:Int)+(1:Int)=(↑y:Int)/\s=s/\false=false/\(↑(List.length s):Int)=(↑(List.length s):Int)/\True else True/\true=bZ bY s/\True:=by
 have hlen:=hs.str
 have eb:∀b:UInt8,(b.toNat:Int)=bI b:=fun _=>rfl
 simp only [jZ,Int.toNat_natCast,Int.toNat_zero,true_and,and_true,eb,bZ]
 generalize bY (bI (s.getD 0 0))=f0
 by_cases h0:s=[]
 ·simp [h0]
 have hpos:0 < s.length:=List.length_pos_iff.2 h0
 by_cases h1:s.length<=24
 ·rw [if_neg h0,if_neg (by omega)]
  refine ⟨by omega,?_⟩
  cases f0 with
  | false=>simp
  | true=>
   simp only [Bool.not_true,Bool.false_eq_true,if_false,h0,h1,decide_false,decide_true,Bool.not_false,Bool.true_and]
   refine ⟨⟨0,⟨by omega,rfl⟩,rfl⟩,?_⟩
   rintro k ⟨h3,h4⟩
   split
   ·have hk:k < s.length:=by omega
    rw [aO s k 0 hk,List.all_cons] at h4
    generalize dy (bI (s.getD k 0))=r at h4 ⊢
    refine ⟨by omega,?_⟩
    cases r with
    | false=>simpa using h4.symm
    | true=>
     simp only [Bool.not_true,Bool.false_eq_true,if_false]
     exact ⟨b6 hk hlen,k+1,⟨by omega,by simpa using h4⟩,by omega,by omega⟩
   ·have hk:k=s.length:=by omega
    subst hk
    simpa using h4.symm
 ·rw [if_neg h0,if_pos (by omega)]
  simp [h1]
theorem Ft (s:Str)  :
  if decide (s=[(109:UInt8),(111:UInt8),(100:UInt8),(117:UInt8),(108:UInt8),(101:UInt8)])=true then True/\true=cY s/\True else if decide (s=[(105:UInt8),(109:UInt8),(112:UInt8),(111:UInt8),(114:UInt8),(116:UInt8)])=true then True/\true=cY s/\True else if decide (s=[(112:UInt8),(105:UInt8),(110:UInt8)])=true then True/\true=cY s/\True else if decide (s=[(114:UInt8),(97:UInt8),(110:UInt8),(103:UInt8),(101:UInt8)])=true then True/\true=cY s/\True else if decide (s=[(116:UInt8),(121:UInt8),(112:UInt8),(101:UInt8)])=true then True/\true=cY s/\True else if decide (s=[(111:UInt8),(112:UInt8),(97:UInt8),(113:UInt8),(117:UInt8),(101:UInt8)])=true then True/\true=cY s/\True else if decide (s=[(108:UInt8),(101:UInt8),(116:UInt8)])=true then True/\true=cY s/\True else if decide (s=[(105:UInt8),(110:UInt8)])=true then True/\true=cY s/\True else if decide (s=[(101:UInt8),(120:UInt8),(112:UInt8),(111:UInt8),(114:UInt8),(116:UInt8)])=true then True/\true=cY s/\True else if decide (s=[(102:UInt8),(117:UInt8),(110:UInt8)])=true then True/\true=cY s/\True else if decide (s=[(105:UInt8),(102:UInt8)])=true then True/\true=cY s/\True else if decide (s=[(116:UInt8),(104:UInt8),(101:UInt8),(110:UInt8)])=true then True/\true=cY s/\True else if decide (s=[(101:UInt8),(108:UInt8),(115:UInt8),(101:UInt8)])=true then True/\true=cY s/\True else if decide (s=[(99:UInt8),(97:UInt8),(115:UInt8),(101:UInt8)])=true then True/\true=cY s/\True else if decide (s=[(111:UInt8),(102:UInt8)])=true then True/\true=cY s/\True else if decide (s=[(97:UInt8),(115:UInt8)])=true then True/\true=cY s/\True else if decide (s=[(110:UInt8),(101:UInt8),(119:UInt8)])=true then True/\true=cY s/\True else if decide (s=[(114:UInt8),(97:UInt8),(119:UInt8)])=true then True/\true=cY s/\True else if decide (s=[(116:UInt8),(114:UInt8),(117:UInt8),(101:UInt8)])=true then True/\true=cY s/\True else if decide (s=[(102:UInt8),(97:UInt8),(108:UInt8),(115:UInt8),(101:UInt8)])=true then True/\true=cY s/\True else True/\false=cY s/\True:=by
 refine aa (fun h=>?_) (fun h0=>?_)
 ·rw [Xo h];exact ⟨trivial,rfl,trivial⟩
 refine aa (fun h=>?_) (fun h1=>?_)
 ·rw [Xo h];exact ⟨trivial,rfl,trivial⟩
 refine aa (fun h=>?_) (fun h2=>?_)
 ·rw [Xo h];exact ⟨trivial,rfl,trivial⟩
 refine aa (fun h=>?_) (fun h3=>?_)
 ·rw [Xo h];exact ⟨trivial,rfl,trivial⟩
 refine aa (fun h=>?_) (fun h4=>?_)
 ·rw [Xo h];exact ⟨trivial,rfl,trivial⟩
 refine aa (fun h=>?_) (fun h5=>?_)
 ·rw [Xo h];exact ⟨trivial,rfl,trivial⟩
 refine aa (fun h=>?_) (fun h6=>?_)
 ·rw [Xo h];exact ⟨trivial,rfl,trivial⟩
 refine aa (fun h=>?_) (fun h7=>?_)
 ·rw [Xo h];exact ⟨trivial,rfl,trivial⟩
 refine aa (fun h=>?_) (fun h8=>?_)
 ·rw [Xo h];exact ⟨trivial,rfl,trivial⟩
 refine aa (fun h=>?_) (fun h9=>?_)
 ·rw [Xo h];exact ⟨trivial,rfl,trivial⟩
 refine aa (fun h=>?_) (fun h10=>?_)
 ·rw [Xo h];exact ⟨trivial,rfl,trivial⟩
 refine aa (fun h=>?_) (fun h11=>?_)
 ·rw [Xo h];exact ⟨trivial,rfl,trivial⟩
 refine aa (fun h=>?_) (fun h12=>?_)
 ·rw [Xo h];exact ⟨trivial,rfl,trivial⟩
 refine aa (fun h=>?_) (fun h13=>?_)
 ·rw [Xo h];exact ⟨trivial,rfl,trivial⟩
 refine aa (fun h=>?_) (fun h14=>?_)
 ·rw [Xo h];exact ⟨trivial,rfl,trivial⟩
 refine aa (fun h=>?_) (fun h15=>?_)
 ·rw [Xo h];exact ⟨trivial,rfl,trivial⟩
 refine aa (fun h=>?_) (fun h16=>?_)
 ·rw [Xo h];exact ⟨trivial,rfl,trivial⟩
 refine aa (fun h=>?_) (fun h17=>?_)
 ·rw [Xo h];exact ⟨trivial,rfl,trivial⟩
 refine aa (fun h=>?_) (fun h18=>?_)
 ·rw [Xo h];exact ⟨trivial,rfl,trivial⟩
 refine aa (fun h=>?_) (fun h19=>?_)
 ·rw [Xo h];exact ⟨trivial,rfl,trivial⟩
 refine ⟨trivial,?_,trivial⟩
 symm
 refine Xf fun hm=>?_
 unfold FX at hm
 rcases List.mem_cons.1 hm with e | hm
 ·exact h0 (Xd e)
 rcases List.mem_cons.1 hm with e | hm
 ·exact h1 (Xd e)
 rcases List.mem_cons.1 hm with e | hm
 ·exact h2 (Xd e)
 rcases List.mem_cons.1 hm with e | hm
 ·exact h3 (Xd e)
 rcases List.mem_cons.1 hm with e | hm
 ·exact h4 (Xd e)
 rcases List.mem_cons.1 hm with e | hm
 ·exact h5 (Xd e)
 rcases List.mem_cons.1 hm with e | hm
 ·exact h6 (Xd e)
 rcases List.mem_cons.1 hm with e | hm
 ·exact h7 (Xd e)
 rcases List.mem_cons.1 hm with e | hm
 ·exact h8 (Xd e)
 rcases List.mem_cons.1 hm with e | hm
 ·exact h9 (Xd e)
 rcases List.mem_cons.1 hm with e | hm
 ·exact h10 (Xd e)
 rcases List.mem_cons.1 hm with e | hm
 ·exact h11 (Xd e)
 rcases List.mem_cons.1 hm with e | hm
 ·exact h12 (Xd e)
 rcases List.mem_cons.1 hm with e | hm
 ·exact h13 (Xd e)
 rcases List.mem_cons.1 hm with e | hm
 ·exact h14 (Xd e)
 rcases List.mem_cons.1 hm with e | hm
 ·exact h15 (Xd e)
 rcases List.mem_cons.1 hm with e | hm
 ·exact h16 (Xd e)
 rcases List.mem_cons.1 hm with e | hm
 ·exact h17 (Xd e)
 rcases List.mem_cons.1 hm with e | hm
 ·exact h18 (Xd e)
 rcases List.mem_cons.1 hm with e | hm
 ·exact h19 (Xd e)
 exact absurd hm List.not_mem_nil
theorem Fu (s:Str)  :
  if bZ bS s=true then True/\(!cY s)=al s/\True else True/\false=al s/\True:=by
 unfold al;cases bZ bS s <;> simp
theorem DI (s:Str)  :
  True/\bZ bY s=aD s/\True:=by
 simp [aD]
theorem Bg (a:List Str) (v:Str) (ha:Wf (.lst .str) a) :
  (∃(x:Nat),(x<=List.length a/\bh a v (0:Int)=bh (List.drop x a) v (↑x:Int))/\(0:Int)=(↑x:Int)/\a=a/\v=v/\(↑(List.length a):Int)=(↑(List.length a):Int)/\True)/\∀(x:Nat),x<=List.length a/\bh a v (0:Int)=bh (List.drop x a) v (↑x:Int)→if decide ((↑x:Int) < (↑(List.length a):Int))=true then ((0:Int)<=(↑x:Int)/\(↑x:Int) < (↑(List.length a):Int))/\if decide (v=List.getD a (Int.toNat (↑x:Int)) (dfl Ty.str))=true then True/\(↑x:Int)=bh a v (0:Int)/\True else inR IntKind.i64 ((↑x:Int)+(1:Int))/\∃(y:Nat),(y<=List.length a/\bh a v (0:Int)=bh (List.drop y a) v (↑y:Int))/\List.length a - y < List.length a - x/\(↑x:Int)+(1:Int)=(↑y:Int)/\a=a/\v=v/\(↑(List.length a):Int)=(↑(List.length a):Int)/\True else True/\(-1:Int)=bh a v (0:Int)/\True:=by
 have la:=ha.len
 simp only [Int.toNat_natCast,eq_self,true_and,and_true]
 refine ⟨⟨0,⟨by omega,by simp⟩,by simp⟩,?_⟩
 rintro k ⟨h1,h3⟩
 refine aa (fun h=>?_) (fun h=>?_)
 ·replace h:=Xo h
  have hk:k < a.length:=by omega
  rw [aO a k (dfl .str) hk] at h3
  refine ⟨by omega,?_⟩
  by_cases e:a.getD k (dfl .str)=v
  ·rw [if_pos (by simpa using e.symm),h3,bh,if_pos e]
  ·rw [if_neg (by simpa using fun h=>e h.symm)]
   exact ⟨b6 hk la,k+1,⟨by omega,by rw [h3,bh,if_neg e];rfl⟩,by omega,by omega⟩
 ·replace h:¬((k:Int) < (a.length:Int)):=fun e=>h (Xd e)
  have e:k=a.length:=by omega
  subst e;rw [h3];simp [bh]
theorem DJ (s:Str)  :
  if decide (s=[(73:UInt8),(110:UInt8),(116:UInt8)])=true then True/\true=gF s/\True else if decide (s=[(66:UInt8),(111:UInt8),(111:UInt8),(108:UInt8)])=true then True/\true=gF s/\True else if decide (s=[(84:UInt8),(101:UInt8),(120:UInt8),(116:UInt8)])=true then True/\true=gF s/\True else True/\decide (s=[(65:UInt8),(110:UInt8),(121:UInt8)])=gF s/\True:=by
 simp only [eq_self,true_and,and_true,gF]
 by_cases a:s=[73,110,116] <;> by_cases b:s=[66,111,111,108] <;> by_cases c:s=[84,101,120,116] <;> by_cases d:s=[65,110,121] <;> simp [a,b,c,d]
theorem Bh (a:List Str)  :
  True/\a=a/\True:=by
 trivial
theorem DK (s:Shape) (hs:Wf (.st .shape) s) (ho:s.parts.length *16<=140737488355328) :
  if (!decide ((↑(List.length s.names):Int)=(↑(List.length s.parts):Int)))=true then True/\false=cW s/\True else (∃(x:Nat),(x<=List.length s.names/\List.length s.names=List.length s.parts/\cW s=(List.all (List.drop x s.names) al && decide (List.Nodup s.names)))/\(0:Int)=(↑x:Int)/\s=s/\false=false/\s.names=s.names/\(↑(List.length s.names):Int)=(↑(List.length s.names):Int)/\s=s/\True)/\∀(x:Nat),x<=List.length s.names/\List.length s.names=List.length s.parts/\cW s=(List.all (List.drop x s.names) al && decide (List.Nodup s.names))→if decide ((↑x:Int) < (↑(List.length s.names):Int))=true then ((0:Int)<=(↑x:Int)/\(↑x:Int) < (↑(List.length s.names):Int))/\if (!al (List.getD s.names (Int.toNat (↑x:Int)) (dfl Ty.str)))=true then True/\false=cW s/\True else inR IntKind.i64 ((↑x:Int)+(1:Int))/\∃(y:Nat),(y<=List.length s.names/\List.length s.names=List.length s.parts/\cW s=(List.all (List.drop y s.names) al && decide (List.Nodup s.names)))/\List.length s.names - y < List.length s.names - x/\(↑x:Int)+(1:Int)=(↑y:Int)/\s=s/\false=false/\s.names=s.names/\(↑(List.length s.names):Int)=(↑(List.length s.names):Int)/\s=s/\True else List.length s.names *(16:Nat)<=(140737488355328:Nat)/\List.length (List.mergeSort s.names fun (x y:Str) ↦decide (x<=y))=List.length (List.mergeSort s.names fun (x y:Str) ↦decide (x<=y))/\True/\decide ((↑(List.length (Lib.compact (List.mergeSort s.names fun (x y:Str) ↦decide (x<=y)))):Int)=(↑(List.length s.names):Int))=cW s/\True:=by
 have ln:=hs.names.len
 simp only [Int.toNat_natCast,eq_self,true_and,and_true]
 refine aa (fun h=>?_) (fun h=>?_)
 ·have:s.names.length≠s.parts.length:=by simp at h;omega
  simp [cW,this]
 have hl:s.names.length=s.parts.length:=by simp at h;omega
 refine ⟨⟨0,⟨by omega,hl,by simp [cW,hl]⟩,rfl⟩,?_⟩
 rintro k ⟨h1,_,h3⟩
 refine aa (fun h=>?_) (fun h=>?_)
 ·replace h:=Xo h
  have hk:k < s.names.length:=by omega
  rw [aO s.names k (dfl .str) hk] at h3
  refine ⟨by omega,?_⟩
  simp only [List.all_cons] at h3
  cases e:al (s.names.getD k (dfl .str))
  ·rw [e] at h3;rw [h3];simp
  ·simp only [e,Bool.true_and] at h3
   exact ⟨b6 hk ln,k+1,⟨by omega,hl,h3⟩,by omega,by omega⟩
 ·replace h:¬((k:Int) < (s.names.length:Int)):=fun e=>h (Xd e)
  have e:k=s.names.length:=by omega
  subst e
  have hc:=gE s.names
  unfold eC at hc
  refine ⟨by omega,?_⟩
  rw [h3,List.drop_length]
  simp only [List.all_nil,Bool.true_and]
  rw [decide_eq_decide,←hc]
  omega
theorem Fv (s:Shape) (hs:Wf (.st .shape) s) (ho:s.parts.length *16<=140737488355328) :
  if decide (s.pkg=[])=true then if decide (s.kind=(1:Int))=true then if decide (s.name=[])=true then if decide ((↑(List.length s.names):Int)=(0:Int))=true then True/\decide ((↑(List.length s.parts):Int)=(0:Int))=ak s/\True else True/\false=ak s/\True else True/\false=ak s/\True else if decide (s.kind=(2:Int))=true then if decide (s.name=[])=true then if decide ((↑(List.length s.names):Int)=(0:Int))=true then True/\decide ((↑(List.length s.parts):Int)=(0:Int))=ak s/\True else True/\false=ak s/\True else True/\false=ak s/\True else if decide (s.kind=(3:Int))=true then if decide (s.name=[])=true then if decide ((↑(List.length s.names):Int)=(0:Int))=true then True/\decide ((↑(List.length s.parts):Int)=(0:Int))=ak s/\True else True/\false=ak s/\True else True/\false=ak s/\True else if decide (s.kind=(4:Int))=true then if decide (s.name=[])=true then if decide ((↑(List.length s.names):Int)=(0:Int))=true then True/\decide ((↑(List.length s.parts):Int)=(0:Int))=ak s/\True else True/\false=ak s/\True else True/\false=ak s/\True else if decide (s.kind=(5:Int))=true then if decide (s.name=[])=true then if decide ((↑(List.length s.names):Int)=(0:Int))=true then True/\decide ((↑(List.length s.parts):Int)=(1:Int))=ak s/\True else True/\false=ak s/\True else True/\false=ak s/\True else if decide (s.kind=(6:Int))=true then if decide (s.name=[])=true then List.length s.parts *(16:Nat)<=(140737488355328:Nat)/\True/\cW s=ak s/\True else True/\false=ak s/\True else if decide (s.kind=(7:Int))=true then if decide (s.name=[])=true then List.length s.parts *(16:Nat)<=(140737488355328:Nat)/\True/\cW s=ak s/\True else True/\false=ak s/\True else if decide (s.kind=(8:Int))=true then if decide (s.name=[])=true then if decide ((↑(List.length s.names):Int)=(0:Int))=true then True/\decide ((0:Int) < (↑(List.length s.parts):Int))=ak s/\True else True/\false=ak s/\True else True/\false=ak s/\True else if decide (s.kind=(9:Int))=true then if aD s.name=true then if decide (s.pkg=[])=true then if (!gF s.name)=true then if decide ((↑(List.length s.names):Int)=(0:Int))=true then True/\decide ((↑(List.length s.parts):Int)=(0:Int))=ak s/\True else True/\false=ak s/\True else if al s.pkg=true then if decide ((↑(List.length s.names):Int)=(0:Int))=true then True/\decide ((↑(List.length s.parts):Int)=(0:Int))=ak s/\True else True/\false=ak s/\True else True/\false=ak s/\True else if al s.pkg=true then if decide ((↑(List.length s.names):Int)=(0:Int))=true then True/\decide ((↑(List.length s.parts):Int)=(0:Int))=ak s/\True else True/\false=ak s/\True else True/\false=ak s/\True else True/\false=ak s/\True else if decide (s.kind=(10:Int))=true then if aD s.name=true then if al s.pkg=true then if decide ((↑(List.length s.names):Int)=(0:Int))=true then True/\decide ((↑(List.length s.parts):Int)=(0:Int))=ak s/\True else True/\false=ak s/\True else True/\false=ak s/\True else True/\false=ak s/\True else True/\false=ak s/\True else if decide (s.kind=(1:Int))=true then True/\false=ak s/\True else if decide (s.kind=(2:Int))=true then True/\false=ak s/\True else if decide (s.kind=(3:Int))=true then True/\false=ak s/\True else if decide (s.kind=(4:Int))=true then True/\false=ak s/\True else if decide (s.kind=(5:Int))=true then True/\false=ak s/\True else if decide (s.kind=(6:Int))=true then True/\false=ak s/\True else if decide (s.kind=(7:Int))=true then True
  /\false=ak s/\True else if decide (s.kind=(8:Int))=true then True/\false=ak s/\True else if decide (s.kind=(9:Int))=true then if aD s.name=true then if decide (s.pkg=[])=true then if (!gF s.name)=true then if decide ((↑(List.length s.names):Int)=(0:Int))=true then True/\decide ((↑(List.length s.parts):Int)=(0:Int))=ak s/\True else True/\false=ak s/\True else if al s.pkg=true then if decide ((↑(List.length s.names):Int)=(0:Int))=true then True/\decide ((↑(List.length s.parts):Int)=(0:Int))=ak s/\True else True/\false=ak s/\True else True/\false=ak s/\True else if al s.pkg=true then if decide ((↑(List.length s.names):Int)=(0:Int))=true then True/\decide ((↑(List.length s.parts):Int)=(0:Int))=ak s/\True else True/\false=ak s/\True else True/\false=ak s/\True else True/\false=ak s/\True else if decide (s.kind=(10:Int))=true then if aD s.name=true then if al s.pkg=true then if decide ((↑(List.length s.names):Int)=(0:Int))=true then True/\decide ((↑(List.length s.parts):Int)=(0:Int))=ak s/\True else True/\false=ak s/\True else True/\false=ak s/\True else True/\false=ak s/\True else True/\false=ak s/\True:=by
 have n0:((s.names.length:Int)=0)↔s.names=[]:=by rw [←List.length_eq_zero_iff];omega
 have p0:((s.parts.length:Int)=0)↔s.parts=[]:=by rw [←List.length_eq_zero_iff];omega
 have p1:((s.parts.length:Int)=1)↔s.parts.length=1:=by omega
 have p2:(0 < (s.parts.length:Int))↔¬s.parts=[]:=by rw [←List.length_eq_zero_iff];omega
 simp only [n0,p0,p1,p2,decide_eq_true_eq,true_and,and_true,ho]
 have hf:ak s=ak s:=rfl
 conv at hf=>rhs;unfold ak
 revert hf
 generalize ak s=F
 generalize cW s=A
 generalize aD s.name=B
 generalize al s.pkg=C
 generalize gF s.name=D
 generalize s.kind=K
 intro hf
 repeat' (refine aa (fun _=>?_) (fun _=>?_))
 all_goals (subst hf;simp_all)
theorem yj (n:Nat) (s:Shape) (hs:Wf (.st .shape) s) (hn:sz s<=n+1) (hb:n<=1000000) :
  List.length s.parts *(16:Nat)<=(140737488355328:Nat)/\if (!ak s)=true then True/\false=allS ak s/\True else (∃(x:Nat),(x<=List.length s.parts/\allS ak s=allL ak (List.drop x s.parts))/\(0:Int)=(↑x:Int)/\s=s/\false=false/\s.parts=s.parts/\(↑(List.length s.parts):Int)=(↑(List.length s.parts):Int)/\s=s/\True)/\∀(x:Nat),x<=List.length s.parts/\allS ak s=allL ak (List.drop x s.parts)→if decide ((↑x:Int) < (↑(List.length s.parts):Int))=true then ((0:Int)<=(↑x:Int)/\(↑x:Int) < (↑(List.length s.parts):Int))/\sz (List.getD s.parts (Int.toNat (↑x:Int)) (dfl (Ty.st SN.shape)))<=n/\if (!allS ak (List.getD s.parts (Int.toNat (↑x:Int)) (dfl (Ty.st SN.shape))))=true then True/\false=allS ak s/\True else inR IntKind.i64 ((↑x:Int)+(1:Int))/\∃(y:Nat),(y<=List.length s.parts/\allS ak s=allL ak (List.drop y s.parts))/\List.length s.parts - y < List.length s.parts - x/\(↑x:Int)+(1:Int)=(↑y:Int)/\s=s/\false=false/\s.parts=s.parts/\(↑(List.length s.parts):Int)=(↑(List.length s.parts):Int)/\s=s/\True else True/\true=allS ak s/\True:=by
 have ln:=hs.parts.len
 have hz:=nM s
 have hl:=zH s.parts
 simp only [Int.toNat_natCast,eq_self,true_and,and_true]
 refine ⟨by omega,aa (fun h=>?_) (fun h=>?_)⟩
 ·rw [kK];simp at h;simp [h]
 refine ⟨⟨0,⟨by omega,by rw [kK];simp at h;simp [h]⟩,rfl⟩,?_⟩
 rintro k ⟨h1,h3⟩
 refine aa (fun h=>?_) (fun h=>?_)
 ·replace h:=Xo h
  have hk:k < s.parts.length:=by omega
  have hm:=kc (bX s.parts k (dfl (.st .shape)) hk)
  rw [aO s.parts k (dfl (.st .shape)) hk] at h3
  simp only [allL] at h3
  refine ⟨by omega,by omega,?_⟩
  cases e:allS ak (s.parts.getD k (dfl (.st .shape)))
  ·rw [e] at h3;rw [h3];simp
  ·simp only [e,Bool.true_and] at h3
   exact ⟨b6 hk ln,k+1,⟨by omega,h3⟩,by omega,by omega⟩
 ·replace h:¬((k:Int) < (s.parts.length:Int)):=fun e=>h (Xd e)
  have e:k=s.parts.length:=by omega
  subst e
  rw [h3,List.drop_length];rfl
theorem Fw (c:Int) (hc:0<=c/\c<=400) :
  inR IntKind.i64 (c+(1:Int))/\if decide ((400:Int) < c+(1:Int))=true then decide ((400:Int) < c+(1:Int))=true/\c+(1:Int)=c+(1:Int)/\True else decide ((400:Int) < c+(1:Int))=false/\c+(1:Int)=c+(1:Int)/\True:=by
 refine ⟨bc (by omega) (by omega),aa (fun h=>?_) (fun h=>?_)⟩
 ·exact ⟨h,rfl,trivial⟩
 ·exact ⟨by simpa using h,rfl,trivial⟩
theorem Fx (n:Nat) (s:Shape) (l c:Int) (hs:Wf (.st .shape) s) (hn:sz s<=n+1) (hc:0<=c/\c<=400/\1<=l/\l<=c+1) :
  ((0:Int)<=c/\c<=(400:Int))/\if decide ((400:Int) < c+(1:Int))=true then decide ((400:Int) < c+(↑(sz s):Int))=true/\c+(1:Int)=(401:Int)/\True else (∃(x:Nat × Int),(x.1<=List.length s.parts/\c+(1:Int)+(↑(szL (List.take x.1 s.parts)):Int)<=(400:Int)/\deepL (List.drop x.1 s.parts) (l+(1:Int)) x.2=deepS s l)/\l=x.2/\(0:Int)=(↑x.1:Int)/\s=s/\l=l/\(0:Int)=(0:Int)/\s.parts=s.parts/\(↑(List.length s.parts):Int)=(↑(List.length s.parts):Int)/\c+(1:Int)=c+(1:Int)+(↑(szL (List.take x.1 s.parts)):Int)/\s=s/\True)/\∀(x:Nat × Int),x.1<=List.length s.parts/\c+(1:Int)+(↑(szL (List.take x.1 s.parts)):Int)<=(400:Int)/\deepL (List.drop x.1 s.parts) (l+(1:Int)) x.2=deepS s l→if decide ((↑x.1:Int) < (↑(List.length s.parts):Int))=true then ((0:Int)<=(↑x.1:Int)/\(↑x.1:Int) < (↑(List.length s.parts):Int))/\inR IntKind.i64 (l+(1:Int))/\(sz (List.getD s.parts (Int.toNat (↑x.1:Int)) (dfl (Ty.st SN.shape)))<=n/\(0:Int)<=c+(1:Int)+(↑(szL (List.take x.1 s.parts)):Int)/\c+(1:Int)+(↑(szL (List.take x.1 s.parts)):Int)<=(400:Int)/\(1:Int)<=l+(1:Int)/\l+(1:Int)<=c+(1:Int)+(↑(szL (List.take x.1 s.parts)):Int)+(1:Int))/\if decide ((400:Int) < c+(1:Int)+(↑(szL (List.take x.1 s.parts)):Int)+(↑(sz (List.getD s.parts (Int.toNat (↑x.1:Int)) (dfl (Ty.st SN.shape)))):Int))=true then decide ((400:Int) < c+(↑(sz s):Int))=true/\(401:Int)=(401:Int)/\True else inR IntKind.i64 ((↑x.1:Int)+(1:Int))/\∃(y:Nat × Int),(y.1<=List.length s.parts/\c+(1:Int)+(↑(szL (List.take y.1 s.parts)):Int)<=(400:Int)/\deepL (List.drop y.1 s.parts) (l+(1:Int)) y.2=deepS s l)/\List.length s.parts - y.1 < List.length s.parts - x.1/\max x.2 (deepS (List.getD s.parts (Int.toNat (↑x.1:Int)) (dfl (Ty.st SN.shape))) (l+(1:Int)))=y.2/\(↑x.1:Int)+(1:Int)=(↑y.1:Int)/\s=s/\l=l/\(0:Int)=(0:Int)/\s.parts=s.parts/\(↑(List.length s.parts):Int)=(↑(List.length s.parts):Int)/\c+(1:Int)+(↑(szL (List.take x.1 s.parts)):Int)+(↑(sz (List.getD s.parts (Int.toNat (↑x.1:Int)) (dfl (Ty.st SN.shape)))):Int)=c+(1:Int)+(↑(szL (List.take y.1 s.parts)):Int)/\s=s/\True else decide ((400:Int) < c+(↑(sz s):Int))=false/\x.2=deepS s l/\c+(1:Int)+(↑(szL (List.take x.1 s.parts)):Int)=c+(↑(sz s):Int)/\True:=by
 have ln:=hs.parts.len
 have hz:=nM s
 refine ⟨⟨hc.1,hc.2.1⟩,aa (fun h=>?_) (fun h=>?_)⟩
 ·replace h:=Xo h
  have:=ib s
  exact ⟨Xd (by omega),by omega,trivial⟩
 replace h:¬(400:Int) < c+1:=fun e=>h (Xd e)
 have hd0:deepL s.parts (l+1) l=deepS s l:=by cases s;rfl
 refine ⟨⟨(0,l),⟨Nat.zero_le _,by simp [szL];omega,by simpa using hd0⟩,rfl,rfl,rfl,rfl,rfl,rfl,rfl,by simp [szL],rfl,trivial⟩,?_⟩
 rintro ⟨k,d⟩ ⟨h1,h2,h3⟩
 simp only [Int.toNat_natCast] at h1 h2 h3 ⊢
 have hc0:(0:Int)<=(szL (s.parts.take k):Int):=by omega
 refine aa (fun hk=>?_) (fun hk=>?_)
 ·replace hk:=Xo hk
  have hk:k < s.parts.length:=by omega
  have hs1:=lj s.parts k (dfl (.st .shape)) hk
  have hm:=kc (bX s.parts k (dfl (.st .shape)) hk)
  rw [aO s.parts k (dfl (.st .shape)) hk] at h3
  simp only [deepL] at h3
  have ht:=uZ s.parts (k+1)
  refine ⟨by omega,bc (by omega) (by omega),⟨by omega,by omega,h2,by omega,by omega⟩,aa (fun h=>?_) (fun h=>?_)⟩
  ·replace h:=Xo h
   exact ⟨Xd (by omega),by trivial,by trivial⟩
  ·replace h:=fun e=>h (Xd e)
   replace h:¬(400:Int) < c+1+(szL (s.parts.take k):Int)+(sz (s.parts.getD k (dfl (.st .shape))):Int):=h
   exact ⟨b6 hk ln,(k+1,_),⟨by omega,by simp only;omega,h3⟩,by simp only;omega,rfl,by simp only;omega,by trivial,by trivial,by trivial,by trivial,by trivial,by simp only;omega,by trivial,by trivial⟩
 ·replace hk:¬((k:Int) < (s.parts.length:Int)):=fun e=>hk (Xd e)
  have e:k=s.parts.length:=by omega
  subst e
  rw [List.take_length] at h2 ⊢
  rw [List.drop_length] at h3
  exact ⟨Xf (by omega),h3,by omega,trivial⟩
theorem DL (s:Shape) (hs:Wf (.st .shape) s) :
  (sz s<=sz s/\(0:Int)<=(0:Int)/\(0:Int)<=(400:Int)/\(1:Int)<=(1:Int)/\(1:Int)<=(0:Int)+(1:Int))/\if decide ((400:Int) < (0:Int)+(↑(sz s):Int))=true then ((401:Int)=if sz s<=(400:Nat) then (↑(sz s):Int) else (401:Int))/\((0:Int)=if sz s<=(400:Nat) then deepS s (1:Int) else (0:Int))/\false=decide (sz s<=(400:Nat))/\True else ((0:Int)+(↑(sz s):Int)=if sz s<=(400:Nat) then (↑(sz s):Int) else (401:Int))/\(deepS s (1:Int)=if sz s<=(400:Nat) then deepS s (1:Int) else (0:Int))/\true=decide (sz s<=(400:Nat))/\True:=by
 refine ⟨by simp,aa (fun h=>?_) (fun h=>?_)⟩
 ·replace h:=Xo h
  have h':¬sz s<=400:=by omega
  rw [if_neg h',if_neg h']
  exact ⟨rfl,rfl,by simp [h'],trivial⟩
 ·replace h:¬(400:Int) < 0+(sz s:Int):=fun e=>h (Xd e)
  have h':sz s<=400:=by omega
  rw [if_pos h',if_pos h']
  exact ⟨by omega,by trivial,by simp [h'],trivial⟩
theorem DM (s:Shape)  :
  if (!decide (sz s<=(400:Nat)))=true then True/\(3:Int)=cb s/\True else if decide ((40:Int) < if sz s<=(400:Nat) then deepS s (1:Int) else (0:Int))=true then True/\(91:Int)=cb s/\True else sz s<=(400:Nat)/\if (!allS ak s)=true then True/\(70:Int)=cb s/\True else True/\(0:Int)=cb s/\True:=by
 unfold cb
 by_cases h1:sz s<=400
 ·rw [if_neg (by simp [h1]),if_pos h1,if_neg (show ¬400 < sz s by omega)]
  by_cases h2:(40:Int) < deepS s 1
  ·rw [if_pos (by simp [h2]),if_pos h2];exact ⟨trivial,rfl,trivial⟩
  ·rw [if_neg (by simp [h2]),if_neg h2]
   refine ⟨h1,?_⟩
   cases allS ak s <;> simp
 ·rw [if_pos (by simp [h1]),if_pos (show 400 < sz s by omega)];exact ⟨trivial,rfl,trivial⟩
end Go.AL.Seat
end
section
namespace Go.Pd
open Go.AL
mutual
theorem eqS_eq:∀{a b:Shape},eqS a b=true→a=b
 | ⟨k,p,n,ns,ps⟩,⟨k',p',n',ns',ps'⟩,h=>by
  simp only [eqS,Bool.and_eq_true,decide_eq_true_eq] at h
  obtain ⟨⟨⟨⟨rfl,rfl⟩,rfl⟩,rfl⟩,h⟩:=h
  rw [eqL_eq h]
theorem eqL_eq:∀{a b:List Shape},eqL a b=true→a=b
 | [],[],_=>rfl
 | [],_ ::_,h=>by simp [eqL] at h
 | _ ::_,[],h=>by simp [eqL] at h
 | a ::r,b ::s,h=>by
  simp only [eqL,Bool.and_eq_true] at h
  rw [eqS_eq h.1,eqL_eq h.2]
end
end Go.Pd
end
section
open Go Go.AL Go.Pd
namespace Go.AL.Seat
theorem Fy (n:Nat) (s:Shape) (m:Int) (hs:Wf (.st .shape) s) (ho:sz s<=n+1/\0<=m/\m<=1000000) :
  (∃(x:Nat × Int),(x.1<=List.length s.parts/\(1:Int)<=x.2/\x.2<=m+(1:Int)/\sizeL (List.drop x.1 s.parts) x.2 m=sizeF s m)/\(1:Int)=x.2/\(0:Int)=(↑x.1:Int)/\s=s/\m=m/\(0:Int)=(0:Int)/\s=s/\True)/\∀(x:Nat × Int),x.1<=List.length s.parts/\(1:Int)<=x.2/\x.2<=m+(1:Int)/\sizeL (List.drop x.1 s.parts) x.2 m=sizeF s m→if decide ((↑x.1:Int) < (↑(List.length s.parts):Int))=true then if decide (x.2<=m)=true then ((0:Int)<=(↑x.1:Int)/\(↑x.1:Int) < (↑(List.length s.parts):Int))/\inR IntKind.i64 (m - x.2)/\(sz (List.getD s.parts (Int.toNat (↑x.1:Int)) (dfl (Ty.st SN.shape)))<=n/\(0:Int)<=m - x.2/\m - x.2<=(1000000:Int))/\inR IntKind.i64 (x.2+sizeF (List.getD s.parts (Int.toNat (↑x.1:Int)) (dfl (Ty.st SN.shape))) (m - x.2))/\inR IntKind.i64 ((↑x.1:Int)+(1:Int))/\∃(y:Nat × Int),(y.1<=List.length s.parts/\(1:Int)<=y.2/\y.2<=m+(1:Int)/\sizeL (List.drop y.1 s.parts) y.2 m=sizeF s m)/\List.length s.parts - y.1 < List.length s.parts - x.1/\x.2+sizeF (List.getD s.parts (Int.toNat (↑x.1:Int)) (dfl (Ty.st SN.shape))) (m - x.2)=y.2/\(↑x.1:Int)+(1:Int)=(↑y.1:Int)/\s=s/\m=m/\(0:Int)=(0:Int)/\s=s/\True else True/\x.2=sizeF s m/\True else True/\x.2=sizeF s m/\True:=by
 have ln:=hs.parts.len
 have hz:=nM s
 obtain ⟨ho1,ho2,ho3⟩:=ho
 have h0:sizeL s.parts 1 m=sizeF s m:=by cases s;rfl
 simp only [Int.toNat_natCast,eq_self,true_and,and_true]
 refine ⟨⟨(0,1),⟨Nat.zero_le _,by omega,by omega,h0⟩,rfl,rfl⟩,?_⟩
 rintro ⟨k,c⟩ ⟨h1,h2,h3,h4⟩
 simp only at h1 h2 h3 h4 ⊢
 refine aa (fun hk=>?_) (fun hk=>?_)
 ·replace hk:=Xo hk
  have hk:k < s.parts.length:=by omega
  have hm:=kc (bX s.parts k (dfl (.st .shape)) hk)
  rw [aO s.parts k (dfl (.st .shape)) hk] at h4
  simp only [sizeL] at h4
  refine aa (fun hc=>?_) (fun hc=>?_)
  ·replace hc:=Xo hc
   rw [if_pos hc] at h4
   have hb:=sizeF_bd (s.parts.getD k (dfl (.st .shape))) (m - c) (by omega)
   exact ⟨by omega,bc (by omega) (by omega),by omega,bc (by omega) (by omega),b6 hk ln,(k+1,_),⟨by omega,by simp only;omega,by simp only;omega,h4⟩,by simp only;omega,rfl,rfl⟩
  ·rw [if_neg (fun e=>hc (Xd e))] at h4
   exact h4
 ·replace hk:¬((k:Int) < (s.parts.length:Int)):=fun e=>hk (Xd e)
  have e:k=s.parts.length:=by omega
  subst e
  rw [List.drop_length] at h4
  exact h4
theorem Bi (c:Int)  :
  if decide ((97:Int)<=c)=true then True/\decide (c<=(122:Int))=bS c/\True else True/\false=bS c/\True:=by
 simp only [true_and,and_true]
 unfold bS
 by_cases h:(97:Int)<=c
 ·rw [if_pos (Xd h)];simp [h]
 ·rw [if_neg (by simpa using h)];simp [h]
theorem Bj (c:Int)  :
  if decide ((65:Int)<=c)=true then True/\decide (c<=(90:Int))=bY c/\True else True/\false=bY c/\True:=by
 simp only [true_and,and_true]
 unfold bY
 by_cases h:(65:Int)<=c
 ·rw [if_pos (Xd h)];simp [h]
 ·rw [if_neg (by simpa using h)];simp [h]
theorem Bk (c:Int)  :
  if decide ((48:Int)<=c)=true then True/\decide (c<=(57:Int))=eQ c/\True else True/\false=eQ c/\True:=by
 simp only [true_and,and_true]
 unfold eQ
 by_cases h:(48:Int)<=c
 ·rw [if_pos (Xd h)];simp [h]
 ·rw [if_neg (by simpa using h)];simp [h]
theorem DN (s:Str) (hs:Wf .str s) :
  (∃(x:Nat),(x<=List.length s/\cG s=x+cG (List.drop x s))/\(0:Int)=(↑x:Int)/\s=s/\(0:Int)=(0:Int)/\True)/\∀(x:Nat),x<=List.length s/\cG s=x+cG (List.drop x s)→if decide ((↑x:Int) < (↑(List.length s):Int))=true then ((0:Int)<=(↑x:Int)/\(↑x:Int) < (↑(List.length s):Int))/\if bS (↑(UInt8.toNat (List.getD s (Int.toNat (↑x:Int)) (0:UInt8))):Int)=true then inR IntKind.i64 ((↑x:Int)+(1:Int))/\∃(y:Nat),(y<=List.length s/\cG s=y+cG (List.drop y s))/\List.length s - y < List.length s - x/\(↑x:Int)+(1:Int)=(↑y:Int)/\s=s/\(0:Int)=(0:Int)/\True else ((0:Int)<=(↑x:Int)/\(↑x:Int) < (↑(List.length s):Int))/\if bY (↑(UInt8.toNat (List.getD s (Int.toNat (↑x:Int)) (0:UInt8))):Int)=true then inR IntKind.i64 ((↑x:Int)+(1:Int))/\∃(y:Nat),(y<=List.length s/\cG s=y+cG (List.drop y s))/\List.length s - y < List.length s - x/\(↑x:Int)+(1:Int)=(↑y:Int)/\s=s/\(0:Int)=(0:Int)/\True else ((0:Int)<=(↑x:Int)/\(↑x:Int) < (↑(List.length s):Int))/\if eQ (↑(UInt8.toNat (List.getD s (Int.toNat (↑x:Int)) (0:UInt8))):Int)=true then inR IntKind.i64 ((↑x:Int)+(1:Int))/\∃(y:Nat),(y<=List.length s/\cG s=y+cG (List.drop y s))/\List.length s - y < List.length s - x/\(↑x:Int)+(1:Int)=(↑y:Int)/\s=s/\(0:Int)=(0:Int)/\True else ((0:Int)<=(↑x:Int)/\(↑x:Int) < (↑(List.length s):Int))/\if decide ((↑(UInt8.toNat (List.getD s (Int.toNat (↑x:Int)) (0:UInt8))):Int)=(95:Int))=true then inR IntKind.i64 ((↑x:Int)+(1:Int))/\∃(y:Nat),(y<=List.length s/\cG s=y+cG (List.drop y s))/\List.length s - y < List.length s - x/\(↑x:Int)+(1:Int)=(↑y:Int)/\s=s/\(0:Int)=(0:Int)/\True else True/\(↑x:Int)=(↑(cG s):Int)/\True else True/\(↑x:Int)=(↑(cG s):Int)/\True:=by
 have ln:=hs.str
 have eb:∀b:UInt8,(b.toNat:Int)=bI b:=fun _=>rfl
 simp only [Int.toNat_natCast,eq_self,true_and,and_true,eb]
 refine ⟨⟨0,⟨Nat.zero_le _,by simp⟩,rfl⟩,?_⟩
 rintro k ⟨h1,h2⟩
 refine aa (fun h=>?_) (fun h=>?_)
 ·replace h:=Xo h
  have hk:k < s.length:=by omega
  rw [aO s k 0 hk] at h2
  simp only [cG] at h2
  have fin:dy (bI (s.getD k 0))=true→(inR IntKind.i64 ((k:Int)+1)/\∃y:Nat,(y<=s.length/\cG s=y+cG (s.drop y))/\s.length - y < s.length - k/\(k:Int)+1=(y:Int)):=by
   intro e
   rw [if_pos e] at h2
   exact ⟨b6 hk ln,k+1,⟨by omega,by omega⟩,by omega,by omega⟩
  have hr:dy (bI (s.getD k 0))=(bS (bI (s.getD k 0)) || bY (bI (s.getD k 0)) || eQ (bI (s.getD k 0)) || decide (bI (s.getD k 0)=95)):=rfl
  refine ⟨by omega,aa (fun a=>fin (by rw [hr,a];simp)) (fun a=>⟨by omega,aa (fun b=>fin (by rw [hr,b];simp)) (fun b=>⟨by omega,aa (fun c=>fin (by rw [hr,c];simp)) (fun c=>⟨by omega,aa (fun d=>fin (by rw [hr,d];simp)) (fun d=>?_)⟩)⟩)⟩)⟩
  rw [if_neg ?_] at h2
  ·omega
  ·rw [hr];simp only [Bool.not_eq_true] at a b c d;rw [a,b,c,d];simp
 ·replace h:¬((k:Int) < (s.length:Int)):=fun e=>h (Xd e)
  have e:k=s.length:=by omega
  subst e
  rw [List.drop_length] at h2
  simp only [cG] at h2
  omega
theorem DO (s:Str) (l:List Str) (hl:Wf (.lst .str) l) :
  (∃(x:Nat),(x<=List.length l/\decide (s∈l)=decide (s∈List.drop x l))/\(0:Int)=(↑x:Int)/\s=s/\l=l/\True)/\∀(x:Nat),x<=List.length l/\decide (s∈l)=decide (s∈List.drop x l)→if decide ((↑x:Int) < (↑(List.length l):Int))=true then ((0:Int)<=(↑x:Int)/\(↑x:Int) < (↑(List.length l):Int))/\if decide (s=List.getD l (Int.toNat (↑x:Int)) (dfl Ty.str))=true then True/\true=decide (s∈l)/\True else inR IntKind.i64 ((↑x:Int)+(1:Int))/\∃(y:Nat),(y<=List.length l/\decide (s∈l)=decide (s∈List.drop y l))/\List.length l - y < List.length l - x/\(↑x:Int)+(1:Int)=(↑y:Int)/\s=s/\l=l/\True else True/\false=decide (s∈l)/\True:=by
 have ln:=hl.len
 simp only [Int.toNat_natCast,eq_self,true_and,and_true]
 refine ⟨⟨0,⟨Nat.zero_le _,by simp⟩,rfl⟩,?_⟩
 rintro k ⟨h1,h2⟩
 refine aa (fun h=>?_) (fun h=>?_)
 ·replace h:=Xo h
  have hk:k < l.length:=by omega
  rw [aO l k (dfl .str) hk] at h2
  refine ⟨by omega,aa (fun a=>?_) (fun a=>?_)⟩
  ·rw [h2,Xo a];simp
  ·refine ⟨b6 hk ln,k+1,⟨by omega,?_⟩,by omega,by omega⟩
   rw [h2,decide_eq_decide,List.mem_cons]
   constructor
   ·rintro (h | h)
    ·exact absurd (Xd h) a
    ·exact h
   ·exact Or.inr
 ·replace h:¬((k:Int) < (l.length:Int)):=fun e=>h (Xd e)
  have e:k=l.length:=by omega
  subst e
  rw [h2,List.drop_length];simp
theorem DQ (s:Str)  :
  True/\decide (s∈[[(109:UInt8),(111:UInt8),(100:UInt8),(117:UInt8),(108:UInt8),(101:UInt8)],[(105:UInt8),(109:UInt8),(112:UInt8),(111:UInt8),(114:UInt8),(116:UInt8)],[(112:UInt8),(105:UInt8),(110:UInt8)],[(114:UInt8),(97:UInt8),(110:UInt8),(103:UInt8),(101:UInt8)],[(116:UInt8),(121:UInt8),(112:UInt8),(101:UInt8)],[(111:UInt8),(112:UInt8),(97:UInt8),(113:UInt8),(117:UInt8),(101:UInt8)],[(108:UInt8),(101:UInt8),(116:UInt8)],[(105:UInt8),(110:UInt8)],[(101:UInt8),(120:UInt8),(112:UInt8),(111:UInt8),(114:UInt8),(116:UInt8)],[(102:UInt8),(117:UInt8),(110:UInt8)],[(105:UInt8),(102:UInt8)],[(116:UInt8),(104:UInt8),(101:UInt8),(110:UInt8)],[(101:UInt8),(108:UInt8),(115:UInt8),(101:UInt8)],[(99:UInt8),(97:UInt8),(115:UInt8),(101:UInt8)],[(111:UInt8),(102:UInt8)],[(97:UInt8),(115:UInt8)],[(110:UInt8),(101:UInt8),(119:UInt8)],[(114:UInt8),(97:UInt8),(119:UInt8)],[(116:UInt8),(114:UInt8),(117:UInt8),(101:UInt8)],[(102:UInt8),(97:UInt8),(108:UInt8),(115:UInt8),(101:UInt8)]])=cY s/\True:=by
 exact ⟨trivial,rfl,trivial⟩
theorem DR (s:Str)  :
  if (!decide (s=[]))=true then if decide ((↑(List.length s):Int)<=(24:Int))=true then ((0:Int)<=(0:Int)/\(0:Int) < (↑(List.length s):Int))/\if bS (↑(UInt8.toNat (List.getD s (Int.toNat (0:Int)) (0:UInt8))):Int)=true then if decide ((↑(cG s):Int)=(↑(List.length s):Int))=true then True/\(!cY s)=al s/\True else True/\false=al s/\True else True/\false=al s/\True else True/\false=al s/\True else True/\false=al s/\True:=by
 have eb:∀b:UInt8,(b.toNat:Int)=bI b:=fun _=>rfl
 simp only [Int.toNat_natCast,Int.toNat_zero,eq_self,true_and,and_true,eb]
 have hF:al s=(!decide (s=[]) && decide (s.length<=24) && bS (bI (s.getD 0 0)) && decide (cG s=s.length) && !cY s):=by unfold al;rw [nR]
 refine aa (fun a=>?_) (fun a=>?_)
 ·have a':decide (s=[])=false:=by simpa using a
  have hpos:0 < s.length:=List.length_pos_iff.2 (of_decide_eq_false a')
  refine aa (fun b=>?_) (fun b=>?_)
  ·have b':s.length<=24:=by have:=Xo b;omega
   refine ⟨by omega,aa (fun c=>?_) (fun c=>?_)⟩
   ·refine aa (fun d=>?_) (fun d=>?_)
    ·have d':cG s=s.length:=by have:=Xo d;omega
     rw [hF,a',c,d'];simp [b']
    ·have d':¬cG s=s.length:=fun e=>d (Xd (by omega))
     rw [hF];simp [d']
   ·simp only [Bool.not_eq_true] at c
    rw [hF,c];simp
  ·have b':¬s.length<=24:=fun e=>b (Xd (by omega))
   rw [hF];simp [b']
 ·have a':decide (s=[])=true:=by simpa using a
  rw [hF,a'];simp
theorem Bl (s:Str)  :
  if (!decide (s=[]))=true then if decide ((↑(List.length s):Int)<=(24:Int))=true then ((0:Int)<=(0:Int)/\(0:Int) < (↑(List.length s):Int))/\if bY (↑(UInt8.toNat (List.getD s (Int.toNat (0:Int)) (0:UInt8))):Int)=true then True/\decide ((↑(cG s):Int)=(↑(List.length s):Int))=aD s/\True else True/\false=aD s/\True else True/\false=aD s/\True else True/\false=aD s/\True:=by
 have eb:∀b:UInt8,(b.toNat:Int)=bI b:=fun _=>rfl
 simp only [Int.toNat_natCast,Int.toNat_zero,eq_self,true_and,and_true,eb]
 have hF:aD s=(!decide (s=[]) && decide (s.length<=24) && bY (bI (s.getD 0 0)) && decide (cG s=s.length)):=by unfold aD;rw [nR]
 refine aa (fun a=>?_) (fun a=>?_)
 ·have a':decide (s=[])=false:=by simpa using a
  have hpos:0 < s.length:=List.length_pos_iff.2 (of_decide_eq_false a')
  refine aa (fun b=>?_) (fun b=>?_)
  ·have b':s.length<=24:=by have:=Xo b;omega
   refine ⟨by omega,aa (fun c=>?_) (fun c=>?_)⟩
   ·rw [hF,a',c]
    simp [b',Int.ofNat_inj]
   ·simp only [Bool.not_eq_true] at c
    rw [hF,c];simp
  ·have b':¬s.length<=24:=fun e=>b (Xd (by omega))
   rw [hF];simp [b']
 ·have a':decide (s=[])=true:=by simpa using a
  rw [hF,a'];simp
theorem Bm (ns:List Str) (n:Int) (hl:Wf (.lst .str) ns) :
  (∃(x:Nat),(x<=List.length ns/\List.all (List.take x ns) al=true/\List.Nodup (List.take x ns))/\(0:Int)=(↑x:Int)/\ns=ns/\n=n/\True)/\∀(x:Nat),x<=List.length ns/\List.all (List.take x ns) al=true/\List.Nodup (List.take x ns)→if decide ((↑x:Int) < (↑(List.length ns):Int))=true then ((0:Int)<=(↑x:Int)/\(↑x:Int) < (↑(List.length ns):Int))/\if (!al (List.getD ns (Int.toNat (↑x:Int)) (dfl Ty.str)))=true then True/\false=eU ns n/\True else (∃(x_1:Nat),((↑x_1:Int)<=(↑x:Int)/\¬List.getD ns (Int.toNat (↑x:Int)) (dfl Ty.str)∈List.take x_1 ns)/\(0:Int)=(↑x_1:Int)/\(↑x:Int)=(↑x:Int)/\ns=ns/\n=n/\true=true/\false=false/\True)/\∀(x_1:Nat),(↑x_1:Int)<=(↑x:Int)/\¬List.getD ns (Int.toNat (↑x:Int)) (dfl Ty.str)∈List.take x_1 ns→if decide ((↑x_1:Int) < (↑x:Int))=true then ((0:Int)<=(↑x_1:Int)/\(↑x_1:Int) < (↑(List.length ns):Int))/\((0:Int)<=(↑x:Int)/\(↑x:Int) < (↑(List.length ns):Int))/\if decide (List.getD ns (Int.toNat (↑x_1:Int)) (dfl Ty.str)=List.getD ns (Int.toNat (↑x:Int)) (dfl Ty.str))=true then True/\false=eU ns n/\True else inR IntKind.i64 ((↑x_1:Int)+(1:Int))/\∃(y:Nat),((↑y:Int)<=(↑x:Int)/\¬List.getD ns (Int.toNat (↑x:Int)) (dfl Ty.str)∈List.take y ns)/\Int.toNat (↑x:Int) - y < Int.toNat (↑x:Int) - x_1/\(↑x_1:Int)+(1:Int)=(↑y:Int)/\(↑x:Int)=(↑x:Int)/\ns=ns/\n=n/\true=true/\false=false/\True else inR IntKind.i64 ((↑x:Int)+(1:Int))/\∃(y:Nat),(y<=List.length ns/\List.all (List.take y ns) al=true/\List.Nodup (List.take y ns))/\List.length ns - y < List.length ns - x/\(↑x:Int)+(1:Int)=(↑y:Int)/\ns=ns/\n=n/\True else True/\decide ((↑(List.length ns):Int)=n)=eU ns n/\True:=by
 have ln:=hl.len
 simp only [Int.toNat_natCast,eq_self,true_and,and_true]
 refine ⟨⟨0,⟨Nat.zero_le _,by simp,by simp⟩,rfl⟩,?_⟩
 rintro k ⟨h1,h2,h3⟩
 refine aa (fun h=>?_) (fun h=>?_)
 ·replace h:=Xo h
  have hk:k < ns.length:=by omega
  have hmem:=bX ns k (dfl .str) hk
  have ht:=gn ns k (dfl .str) hk
  refine ⟨by omega,aa (fun a=>?_) (fun a=>?_)⟩
  ·have a':ns.all al=false:=by
    rw [Bool.eq_false_iff]
    intro e
    have:=List.all_eq_true.1 e _ hmem
    rw [this] at a
    simp at a
   unfold eU
   rw [a']
   simp
  ·have a':al (ns.getD k (dfl .str))=true:=by simpa using a
   refine ⟨⟨0,⟨by omega,by simp⟩,rfl⟩,?_⟩
   rintro j ⟨j1,j2⟩
   refine aa (fun b=>?_) (fun b=>?_)
   ·replace b:=Xo b
    have hj:j < k:=by omega
    have hjn:j < ns.length:=by omega
    have htj:=gn ns j (dfl .str) hjn
    refine ⟨by omega,by omega,aa (fun c=>?_) (fun c=>?_)⟩
    ·replace c:=Xo c
     have hnd:¬ns.Nodup:=by
      intro hn
      rw [List.nodup_iff_pairwise_ne] at hn
      have:=List.pairwise_iff_getElem.1 hn j k hjn hk hj
      rw [List.getD_eq_getElem?_getD,List.getD_eq_getElem?_getD,List.getElem?_eq_getElem hjn,List.getElem?_eq_getElem hk] at c
      exact this c
     unfold eU
     simp [hnd]
    ·refine ⟨b6 hjn ln,j+1,⟨by omega,?_⟩,by omega,by omega⟩
     rw [htj,List.mem_append,List.mem_singleton,not_or]
     exact ⟨j2,fun e=>c (Xd e.symm)⟩
   ·have hj:j=k:=by
     have:¬((j:Int) < (k:Int)):=fun e=>b (Xd e)
     omega
    subst hj
    refine ⟨b6 hk ln,j+1,⟨by omega,?_,?_⟩,by omega,by omega⟩
    ·rw [ht,List.all_append,h2];simpa using a'
    ·rw [ht,List.nodup_append]
     refine ⟨h3,by simp,fun x hx y hy=>?_⟩
     rw [List.mem_singleton] at hy
     subst hy
     intro e
     subst e
     exact j2 hx
 ·replace h:¬((k:Int) < (ns.length:Int)):=fun e=>h (Xd e)
  have e:k=ns.length:=by omega
  subst e
  rw [List.take_length] at h2 h3
  unfold eU
  rw [h2]
  simp [h3]
theorem DS (s:Shape) (hs:Wf (.st .shape) s) :
  if decide (s.kind=(9:Int))=true then if decide (s.name=[(73:UInt8),(110:UInt8),(116:UInt8)])=true then if al s.pkg=true then if aD s.name=true then if decide ((↑(List.length s.names):Int)=(0:Int))=true then True/\decide ((↑(List.length s.parts):Int)=(0:Int))=ak s/\True else True/\false=ak s/\True else True/\false=ak s/\True else if decide (s.pkg=[])=true then if decide (s.kind=(9:Int))=true then if aD s.name=true then True/\false=ak s/\True else True/\false=ak s/\True else if aD s.name=true then True/\false=ak s/\True else True/\false=ak s/\True else if aD s.name=true then True/\false=ak s/\True else True/\false=ak s/\True else if decide (s.name=[(66:UInt8),(111:UInt8),(111:UInt8),(108:UInt8)])=true then if al s.pkg=true then if aD s.name=true then if decide ((↑(List.length s.names):Int)=(0:Int))=true then True/\decide ((↑(List.length s.parts):Int)=(0:Int))=ak s/\True else True/\false=ak s/\True else True/\false=ak s/\True else if decide (s.pkg=[])=true then if decide (s.kind=(9:Int))=true then if aD s.name=true then True/\false=ak s/\True else True/\false=ak s/\True else if aD s.name=true then True/\false=ak s/\True else True/\false=ak s/\True else if aD s.name=true then True/\false=ak s/\True else True/\false=ak s/\True else if decide (s.name=[(84:UInt8),(101:UInt8),(120:UInt8),(116:UInt8)])=true then if al s.pkg=true then if aD s.name=true then if decide ((↑(List.length s.names):Int)=(0:Int))=true then True/\decide ((↑(List.length s.parts):Int)=(0:Int))=ak s/\True else True/\false=ak s/\True else True/\false=ak s/\True else if decide (s.pkg=[])=true then if decide (s.kind=(9:Int))=true then if aD s.name=true then True/\false=ak s/\True else True/\false=ak s/\True else if aD s.name=true then True/\false=ak s/\True else True/\false=ak s/\True else if aD s.name=true then True/\false=ak s/\True else True/\false=ak s/\True else if al s.pkg=true then if aD s.name=true then if decide ((↑(List.length s.names):Int)=(0:Int))=true then True/\decide ((↑(List.length s.parts):Int)=(0:Int))=ak s/\True else True/\false=ak s/\True else True/\false=ak s/\True else if decide (s.pkg=[])=true then if decide (s.kind=(9:Int))=true then if aD s.name=true then if (!decide (s.name=[(65:UInt8),(110:UInt8),(121:UInt8)]))=true then if decide ((↑(List.length s.names):Int)=(0:Int))=true then True/\decide ((↑(List.length s.parts):Int)=(0:Int))=ak s/\True else True/\false=ak s/\True else True/\false=ak s/\True else True/\false=ak s/\True else if aD s.name=true then True/\false=ak s/\True else True/\false=ak s/\True else if aD s.name=true then True/\false=ak s/\True else True/\false=ak s/\True else if decide (s.kind=(10:Int))=true then if decide (s.name=[(73:UInt8),(110:UInt8),(116:UInt8)])=true then if al s.pkg=true then if aD s.name=true then if decide ((↑(List.length s.names):Int)=(0:Int))=true then True/\decide ((↑(List.length s.parts):Int)=(0:Int))=ak s/\True else True/\false=ak s/\True else True/\false=ak s/\True else if decide (s.pkg=[])=true then if decide (s.kind=(9:Int))=true then if aD s.name=true then True/\false=ak s/\True else True/\false=ak s/\True else if aD s.name=true then True/\false=ak s/\True else True/\false=ak s/\True else if aD s.name=true then True/\false=ak s/\True else True/\false=ak s/\True
  else if decide (s.name=[(66:UInt8),(111:UInt8),(111:UInt8),(108:UInt8)])=true then if al s.pkg=true then if aD s.name=true then if decide ((↑(List.length s.names):Int)=(0:Int))=true then True/\decide ((↑(List.length s.parts):Int)=(0:Int))=ak s/\True else True/\false=ak s/\True else True/\false=ak s/\True else if decide (s.pkg=[])=true then if decide (s.kind=(9:Int))=true then if aD s.name=true then True/\false=ak s/\True else True/\false=ak s/\True else if aD s.name=true then True/\false=ak s/\True else True/\false=ak s/\True else if aD s.name=true then True/\false=ak s/\True else True/\false=ak s/\True else if decide (s.name=[(84:UInt8),(101:UInt8),(120:UInt8),(116:UInt8)])=true then if al s.pkg=true then if aD s.name=true then if decide ((↑(List.length s.names):Int)=(0:Int))=true then True/\decide ((↑(List.length s.parts):Int)=(0:Int))=ak s/\True else True/\false=ak s/\True else True/\false=ak s/\True else if decide (s.pkg=[])=true then if decide (s.kind=(9:Int))=true then if aD s.name=true then True/\false=ak s/\True else True/\false=ak s/\True else if aD s.name=true then True/\false=ak s/\True else True/\false=ak s/\True else if aD s.name=true then True/\false=ak s/\True else True/\false=ak s/\True else if al s.pkg=true then if aD s.name=true then if decide ((↑(List.length s.names):Int)=(0:Int))=true then True/\decide ((↑(List.length s.parts):Int)=(0:Int))=ak s/\True else True/\false=ak s/\True else True/\false=ak s/\True else if decide (s.pkg=[])=true then if decide (s.kind=(9:Int))=true then if aD s.name=true then if (!decide (s.name=[(65:UInt8),(110:UInt8),(121:UInt8)]))=true then if decide ((↑(List.length s.names):Int)=(0:Int))=true then True/\decide ((↑(List.length s.parts):Int)=(0:Int))=ak s/\True else True/\false=ak s/\True else True/\false=ak s/\True else True/\false=ak s/\True else if aD s.name=true then True/\false=ak s/\True else True/\false=ak s/\True else if aD s.name=true then True/\false=ak s/\True else True/\false=ak s/\True else if (!decide (s.pkg=[]))=true then True/\false=ak s/\True else if (!decide (s.name=[]))=true then True/\false=ak s/\True else if decide (s.kind=(6:Int))=true then True/\eU s.names (↑(List.length s.parts):Int)=ak s/\True else if decide (s.kind=(7:Int))=true then True/\eU s.names (↑(List.length s.parts):Int)=ak s/\True else if decide ((0:Int) < (↑(List.length s.names):Int))=true then True/\false=ak s/\True else if decide (s.kind=(8:Int))=true then True/\decide ((1:Int)<=(↑(List.length s.parts):Int))=ak s/\True else if decide (s.kind=(5:Int))=true then True/\decide ((↑(List.length s.parts):Int)=(1:Int))=ak s/\True else if decide ((1:Int)<=s.kind)=true then if decide (s.kind<=(4:Int))=true then True/\decide ((↑(List.length s.parts):Int)=(0:Int))=ak s/\True else True/\false=ak s/\True else True/\false=ak s/\True:=by
 have n0:((s.names.length:Int)=0)↔s.names=[]:=by rw [←List.length_eq_zero_iff];omega
 have n1:(0 < (s.names.length:Int))↔¬s.names=[]:=by rw [←List.length_eq_zero_iff];omega
 have p0:((s.parts.length:Int)=0)↔s.parts=[]:=by rw [←List.length_eq_zero_iff];omega
 have p1:((s.parts.length:Int)=1)↔s.parts.length=1:=by omega
 have p2:(1<=(s.parts.length:Int))↔¬s.parts=[]:=by rw [←List.length_eq_zero_iff];omega
 have hn:eU s.names (s.parts.length:Int)=cW s:=by
  unfold eU cW
  rw [decide_eq_decide.2 (show ((s.names.length:Int)=(s.parts.length:Int))↔s.names.length=s.parts.length by omega)]
 simp only [n0,n1,p0,p1,p2,hn,decide_eq_true_eq,true_and,and_true]
 have hf:ak s=ak s:=rfl
 conv at hf=>rhs;unfold ak
 unfold gF at hf
 have hk:(s.kind=1∨s.kind=2∨s.kind=3∨s.kind=4)↔(1<=s.kind/\s.kind<=4):=by omega
 simp only [hk] at hf
 clear hk n0 n1 p0 p1 p2 hn
 revert hf
 generalize ak s=F
 generalize cW s=A
 generalize aD s.name=B
 generalize al s.pkg=C
 generalize s.kind=K
 intro hf
 repeat' (refine aa (fun _=>?_) (fun _=>?_))
 all_goals (subst hf;(try simp_all);try (intros;omega))
theorem DT (n:Nat) (s:Shape) (hs:Wf (.st .shape) s) (hn:sz s<=n+1) :
  if (!ak s)=true then True/\false=allS ak s/\True else (∃(x:Nat),(x<=List.length s.parts/\allS ak s=allL ak (List.drop x s.parts))/\(0:Int)=(↑x:Int)/\s=s/\false=false/\s=s/\True)/\∀(x:Nat),x<=List.length s.parts/\allS ak s=allL ak (List.drop x s.parts)→if decide ((↑x:Int) < (↑(List.length s.parts):Int))=true then ((0:Int)<=(↑x:Int)/\(↑x:Int) < (↑(List.length s.parts):Int))/\sz (List.getD s.parts (Int.toNat (↑x:Int)) (dfl (Ty.st SN.shape)))<=n/\if (!allS ak (List.getD s.parts (Int.toNat (↑x:Int)) (dfl (Ty.st SN.shape))))=true then True/\false=allS ak s/\True else inR IntKind.i64 ((↑x:Int)+(1:Int))/\∃(y:Nat),(y<=List.length s.parts/\allS ak s=allL ak (List.drop y s.parts))/\List.length s.parts - y < List.length s.parts - x/\(↑x:Int)+(1:Int)=(↑y:Int)/\s=s/\false=false/\s=s/\True else True/\true=allS ak s/\True:=by
 have ln:=hs.parts.len
 have hz:=nM s
 simp only [Int.toNat_natCast,eq_self,true_and,and_true]
 refine aa (fun h=>?_) (fun h=>?_)
 ·have h:ak s=false:=by simpa using h
  rw [kK,h];rfl
 have h:ak s=true:=by simpa using h
 refine ⟨⟨0,⟨Nat.zero_le _,by rw [kK,h];rfl⟩,rfl⟩,?_⟩
 rintro k ⟨h1,h3⟩
 refine aa (fun h=>?_) (fun h=>?_)
 ·replace h:=Xo h
  have hk:k < s.parts.length:=by omega
  have hm:=kc (bX s.parts k (dfl (.st .shape)) hk)
  rw [aO s.parts k (dfl (.st .shape)) hk] at h3
  simp only [allL] at h3
  refine ⟨by omega,by omega,?_⟩
  cases e:allS ak (s.parts.getD k (dfl (.st .shape)))
  ·rw [e] at h3;rw [h3];simp
  ·simp only [e,Bool.true_and] at h3
   exact ⟨b6 hk ln,k+1,⟨by omega,h3⟩,by omega,by omega⟩
 ·replace h:¬((k:Int) < (s.parts.length:Int)):=fun e=>h (Xd e)
  have e:k=s.parts.length:=by omega
  subst e
  rw [h3,List.drop_length];rfl
theorem Fz (n:Nat) (s:Shape) (hs:Wf (.st .shape) s) (hn:sz s<=n+1) (hb:n<=1000000) :
  (∃(x:Nat × Int),(x.1<=List.length s.parts/\(0:Int)<=x.2/\max x.2 (↑(maxDeep (List.drop x.1 s.parts)):Int)=(↑(maxDeep s.parts):Int))/\(0:Int)=x.2/\(0:Int)=(↑x.1:Int)/\s=s/\(0:Int)=(0:Int)/\s=s/\True)/\∀(x:Nat × Int),x.1<=List.length s.parts/\(0:Int)<=x.2/\max x.2 (↑(maxDeep (List.drop x.1 s.parts)):Int)=(↑(maxDeep s.parts):Int)→if decide ((↑x.1:Int) < (↑(List.length s.parts):Int))=true then ((0:Int)<=(↑x.1:Int)/\(↑x.1:Int) < (↑(List.length s.parts):Int))/\sz (List.getD s.parts (Int.toNat (↑x.1:Int)) (dfl (Ty.st SN.shape)))<=n/\if decide (x.2 < (↑(deepF (List.getD s.parts (Int.toNat (↑x.1:Int)) (dfl (Ty.st SN.shape)))):Int))=true then inR IntKind.i64 ((↑x.1:Int)+(1:Int))/\∃(y:Nat × Int),(y.1<=List.length s.parts/\(0:Int)<=y.2/\max y.2 (↑(maxDeep (List.drop y.1 s.parts)):Int)=(↑(maxDeep s.parts):Int))/\List.length s.parts - y.1 < List.length s.parts - x.1/\(↑(deepF (List.getD s.parts (Int.toNat (↑x.1:Int)) (dfl (Ty.st SN.shape)))):Int)=y.2/\(↑x.1:Int)+(1:Int)=(↑y.1:Int)/\s=s/\(0:Int)=(0:Int)/\s=s/\True else inR IntKind.i64 ((↑x.1:Int)+(1:Int))/\∃(y:Nat × Int),(y.1<=List.length s.parts/\(0:Int)<=y.2/\max y.2 (↑(maxDeep (List.drop y.1 s.parts)):Int)=(↑(maxDeep s.parts):Int))/\List.length s.parts - y.1 < List.length s.parts - x.1/\x.2=y.2/\(↑x.1:Int)+(1:Int)=(↑y.1:Int)/\s=s/\(0:Int)=(0:Int)/\s=s/\True else inR IntKind.i64 (x.2+(1:Int))/\True/\x.2+(1:Int)=(↑(deepF s):Int)/\True:=by
 have ln:=hs.parts.len
 have hz:=nM s
 have hd:deepF s=maxDeep s.parts+1:=by cases s;rfl
 have hds:=maxDeep_sz s.parts
 simp only [Int.toNat_natCast,eq_self,true_and,and_true]
 refine ⟨⟨(0,0),⟨Nat.zero_le _,by simp,by simp only [List.drop_zero];omega⟩,rfl,rfl⟩,?_⟩
 rintro ⟨k,c⟩ ⟨h1,h2,h3⟩
 simp only at h1 h2 h3 ⊢
 refine aa (fun h=>?_) (fun h=>?_)
 ·replace h:=Xo h
  have hk:k < s.parts.length:=by omega
  have hm:=kc (bX s.parts k (dfl (.st .shape)) hk)
  rw [aO s.parts k (dfl (.st .shape)) hk] at h3
  simp only [maxDeep] at h3
  refine ⟨by omega,by omega,aa (fun a=>?_) (fun a=>?_)⟩
  ·replace a:=Xo a
   exact ⟨b6 hk ln,(k+1,(deepF (s.parts.getD k (dfl (.st .shape))):Int)),⟨by omega,by simp only;omega,by simp only;omega⟩,by simp only;omega,rfl,rfl⟩
  ·replace a:¬c < (deepF (s.parts.getD k (dfl (.st .shape))):Int):=fun e=>a (Xd e)
   exact ⟨b6 hk ln,(k+1,c),⟨by omega,by simp only;omega,by simp only;omega⟩,by simp only;omega,rfl,rfl⟩
 ·replace h:¬((k:Int) < (s.parts.length:Int)):=fun e=>h (Xd e)
  have e:k=s.parts.length:=by omega
  subst e
  rw [List.drop_length] at h3
  simp only [maxDeep] at h3
  exact ⟨bc (by omega) (by omega),by omega⟩
theorem Bn (s:Shape) (hs:Wf (.st .shape) s) :
  (sz s<=sz s/\(0:Int)<=(400:Int)/\(400:Int)<=(1000000:Int))/\if decide ((400:Int) < sizeF s (400:Int))=true then True/\(3:Int)=cb s/\True else sz s<=(400:Nat)/\if decide ((40:Int) < (↑(deepF s):Int))=true then True/\(91:Int)=cb s/\True else sz s<=(400:Nat)/\if (!allS ak s)=true then True/\(70:Int)=cb s/\True else True/\(0:Int)=cb s/\True:=by
 simp only [eq_self,true_and,and_true]
 rw [Gq]
 refine ⟨⟨Nat.le_refl _,by omega,by omega⟩,aa (fun h=>?_) (fun h=>?_)⟩
 ·rw [if_pos (Xo h)]
 ·have h':¬(400:Int) < sizeF s 400:=fun e=>h (Xd e)
  have hs4:sz s<=400:=by rw [sizeF_eq s 400 (by omega)] at h';omega
  rw [if_neg h']
  refine ⟨hs4,aa (fun g=>?_) (fun g=>⟨hs4,?_⟩)⟩
  ·rw [if_pos (Xo g)]
  ·rw [if_neg (fun e=>g (Xd e))]
   cases allS ak s <;> simp
theorem DU (p:Int)  :
  if decide ((0:Int)<=p)=true then if decide (p<=(1114111:Int))=true then if decide (p < (55296:Int))=true then True/\true=dF p/\True else True/\decide ((57343:Int) < p)=dF p/\True else True/\false=dF p/\True else True/\false=dF p/\True:=by
 unfold dF
 by_cases a:0<=p <;> by_cases b:p<=1114111 <;> by_cases c:p < 55296 <;> simp [a,b,c]
theorem DV (p:Int) (ho:0<=p/\p<=1114111) :
  if decide (p < (128:Int))=true then inR IntKind.u8 p/\True/\List.map (fun (n:Int) ↦UInt8.ofNat (Int.toNat n)) [p]=cK p/\True else if decide (p < (2048:Int))=true then ((64:Int)≠(0:Int)/\inR IntKind.i64 (Int.tdiv p (64:Int)))/\inR IntKind.i64 ((192:Int)+Int.tdiv p (64:Int))/\inR IntKind.u8 ((192:Int)+Int.tdiv p (64:Int))/\((64:Int)≠(0:Int)/\inR IntKind.i64 (Int.tmod p (64:Int)))/\inR IntKind.i64 ((128:Int)+Int.tmod p (64:Int))/\inR IntKind.u8 ((128:Int)+Int.tmod p (64:Int))/\True/\List.map (fun (n:Int) ↦UInt8.ofNat (Int.toNat n)) [(192:Int)+Int.tdiv p (64:Int),(128:Int)+Int.tmod p (64:Int)]=cK p/\True else if decide (p < (65536:Int))=true then ((4096:Int)≠(0:Int)/\inR IntKind.i64 (Int.tdiv p (4096:Int)))/\inR IntKind.i64 ((224:Int)+Int.tdiv p (4096:Int))/\inR IntKind.u8 ((224:Int)+Int.tdiv p (4096:Int))/\((64:Int)≠(0:Int)/\inR IntKind.i64 (Int.tdiv p (64:Int)))/\((64:Int)≠(0:Int)/\inR IntKind.i64 (Int.tmod (Int.tdiv p (64:Int)) (64:Int)))/\inR IntKind.i64 ((128:Int)+Int.tmod (Int.tdiv p (64:Int)) (64:Int))/\inR IntKind.u8 ((128:Int)+Int.tmod (Int.tdiv p (64:Int)) (64:Int))/\((64:Int)≠(0:Int)/\inR IntKind.i64 (Int.tmod p (64:Int)))/\inR IntKind.i64 ((128:Int)+Int.tmod p (64:Int))/\inR IntKind.u8 ((128:Int)+Int.tmod p (64:Int))/\True/\List.map (fun (n:Int) ↦UInt8.ofNat (Int.toNat n)) [(224:Int)+Int.tdiv p (4096:Int),(128:Int)+Int.tmod (Int.tdiv p (64:Int)) (64:Int),(128:Int)+Int.tmod p (64:Int)]=cK p/\True else ((262144:Int)≠(0:Int)/\inR IntKind.i64 (Int.tdiv p (262144:Int)))/\inR IntKind.i64 ((240:Int)+Int.tdiv p (262144:Int))/\inR IntKind.u8 ((240:Int)+Int.tdiv p (262144:Int))/\((4096:Int)≠(0:Int)/\inR IntKind.i64 (Int.tdiv p (4096:Int)))/\((64:Int)≠(0:Int)/\inR IntKind.i64 (Int.tmod (Int.tdiv p (4096:Int)) (64:Int)))/\inR IntKind.i64 ((128:Int)+Int.tmod (Int.tdiv p (4096:Int)) (64:Int))/\inR IntKind.u8 ((128:Int)+Int.tmod (Int.tdiv p (4096:Int)) (64:Int))/\((64:Int)≠(0:Int)/\inR IntKind.i64 (Int.tdiv p (64:Int)))/\((64:Int)≠(0:Int)/\inR IntKind.i64 (Int.tmod (Int.tdiv p (64:Int)) (64:Int)))/\inR IntKind.i64 ((128:Int)+Int.tmod (Int.tdiv p (64:Int)) (64:Int))/\inR IntKind.u8 ((128:Int)+Int.tmod (Int.tdiv p (64:Int)) (64:Int))/\((64:Int)≠(0:Int)/\inR IntKind.i64 (Int.tmod p (64:Int)))/\inR IntKind.i64 ((128:Int)+Int.tmod p (64:Int))/\inR IntKind.u8 ((128:Int)+Int.tmod p (64:Int))/\True/\List.map (fun (n:Int) ↦UInt8.ofNat (Int.toNat n)) [(240:Int)+Int.tdiv p (262144:Int),(128:Int)+Int.tmod (Int.tdiv p (4096:Int)) (64:Int),(128:Int)+Int.tmod (Int.tdiv p (64:Int)) (64:Int),(128:Int)+Int.tmod p (64:Int)]=cK p/\True:=by
 obtain ⟨h1,h2⟩:=ho
 have t1:Int.tdiv p 64=p / 64:=Int.tdiv_eq_ediv_of_nonneg h1
 have t2:Int.tdiv p 4096=p / 4096:=Int.tdiv_eq_ediv_of_nonneg h1
 have t3:Int.tdiv p 262144=p / 262144:=Int.tdiv_eq_ediv_of_nonneg h1
 have m0:Int.tmod p 64=p % 64:=Int.tmod_eq_emod_of_nonneg h1
 have m1:Int.tmod (p / 64) 64=p / 64 % 64:=Int.tmod_eq_emod_of_nonneg (by omega)
 have m2:Int.tmod (p / 4096) 64=p / 4096 % 64:=Int.tmod_eq_emod_of_nonneg (by omega)
 simp only [t1,t2,t3,m0,m1,m2]
 have u8:∀n:Int,0<=n→n<=255→inR IntKind.u8 n:=fun n a b=>⟨a,b⟩
 have i64:∀n:Int,-10000000<=n→n<=10000000→inR IntKind.i64 n:=fun n a b=>bc (by omega) (by omega)
 unfold cK iI
 refine aa (fun a=>?_) (fun a=>?_)
 ·have a:=Xo a
  rw [if_pos a]
  exact ⟨u8 _ (by omega) (by omega),trivial,rfl,trivial⟩
 have a:¬p < 128:=fun e=>a (Xd e)
 rw [if_neg a]
 refine aa (fun b=>?_) (fun b=>?_)
 ·have b:=Xo b
  rw [if_pos b]
  repeat (first | exact trivial | refine ⟨by first | rfl | trivial | (exact ⟨by decide,i64 _ (by omega) (by omega)⟩) | (exact i64 _ (by omega) (by omega)) | (exact u8 _ (by omega) (by omega)),?_⟩)
 have b:¬p < 2048:=fun e=>b (Xd e)
 rw [if_neg b]
 refine aa (fun d=>?_) (fun d=>?_)
 ·have d:=Xo d
  rw [if_pos d]
  repeat (first | exact trivial | refine ⟨by first | rfl | trivial | (exact ⟨by decide,i64 _ (by omega) (by omega)⟩) | (exact i64 _ (by omega) (by omega)) | (exact u8 _ (by omega) (by omega)),?_⟩)
 ·have d:¬p < 65536:=fun e=>d (Xd e)
  rw [if_neg d]
  repeat (first | exact trivial | refine ⟨by first | rfl | trivial | (exact ⟨by decide,i64 _ (by omega) (by omega)⟩) | (exact i64 _ (by omega) (by omega)) | (exact u8 _ (by omega) (by omega)),?_⟩)
theorem DW (s:Str) (hs:Wf .str s) :
  if decide (s=[])=true then True/\(0:Int)=(cr s).1/\(0:Int)=(cr s).2/\True else ((0:Int)<=(0:Int)/\(0:Int) < (↑(List.length s):Int))/\inR IntKind.i64 (↑(UInt8.toNat (List.getD s (Int.toNat (0:Int)) (0:UInt8))):Int)/\(((0:Int)<=(0:Int)/\(0:Int) < (↑(List.length s):Int))/\if decide ((240:Int)<=(↑(UInt8.toNat (List.getD s (Int.toNat (0:Int)) (0:UInt8))):Int))=true then ((0:Int)<=(0:Int)/\(0:Int) < (↑(List.length s):Int))/\inR IntKind.i64 (↑(UInt8.toNat (List.getD s (Int.toNat (0:Int)) (0:UInt8))):Int)/\inR IntKind.i64 ((↑(UInt8.toNat (List.getD s (Int.toNat (0:Int)) (0:UInt8))):Int) - (240:Int))/\(4:Int)=(↑(bq s):Int)/\(↑(UInt8.toNat (List.getD s (Int.toNat (0:Int)) (0:UInt8))):Int) - (240:Int)=eY s/\s=s/\(0:Int)=(0:Int)/\(0:Int)=(0:Int)/\false=false/\True else ((0:Int)<=(0:Int)/\(0:Int) < (↑(List.length s):Int))/\if decide ((224:Int)<=(↑(UInt8.toNat (List.getD s (Int.toNat (0:Int)) (0:UInt8))):Int))=true then ((0:Int)<=(0:Int)/\(0:Int) < (↑(List.length s):Int))/\inR IntKind.i64 (↑(UInt8.toNat (List.getD s (Int.toNat (0:Int)) (0:UInt8))):Int)/\inR IntKind.i64 ((↑(UInt8.toNat (List.getD s (Int.toNat (0:Int)) (0:UInt8))):Int) - (224:Int))/\(3:Int)=(↑(bq s):Int)/\(↑(UInt8.toNat (List.getD s (Int.toNat (0:Int)) (0:UInt8))):Int) - (224:Int)=eY s/\s=s/\(0:Int)=(0:Int)/\(0:Int)=(0:Int)/\false=false/\True else ((0:Int)<=(0:Int)/\(0:Int) < (↑(List.length s):Int))/\if decide ((192:Int)<=(↑(UInt8.toNat (List.getD s (Int.toNat (0:Int)) (0:UInt8))):Int))=true then ((0:Int)<=(0:Int)/\(0:Int) < (↑(List.length s):Int))/\inR IntKind.i64 (↑(UInt8.toNat (List.getD s (Int.toNat (0:Int)) (0:UInt8))):Int)/\inR IntKind.i64 ((↑(UInt8.toNat (List.getD s (Int.toNat (0:Int)) (0:UInt8))):Int) - (192:Int))/\(2:Int)=(↑(bq s):Int)/\(↑(UInt8.toNat (List.getD s (Int.toNat (0:Int)) (0:UInt8))):Int) - (192:Int)=eY s/\s=s/\(0:Int)=(0:Int)/\(0:Int)=(0:Int)/\false=false/\True else (1:Int)=(↑(bq s):Int)/\(↑(UInt8.toNat (List.getD s (Int.toNat (0:Int)) (0:UInt8))):Int)=eY s/\s=s/\(0:Int)=(0:Int)/\(0:Int)=(0:Int)/\false=false/\True)/\if decide ((↑(List.length s):Int) < (↑(bq s):Int))=true then True/\(0:Int)=(cr s).1/\(0:Int)=(cr s).2/\True else (∃(x:Nat),((1:Nat)<=x/\x<=bq s/\(x=(1:Nat)→(-300:Int)<=aN s x/\aN s x<=(300:Int))/\(x=(2:Nat)→(-20000:Int)<=aN s x/\aN s x<=(20000:Int))/\(x=(3:Nat)→(-1300000:Int)<=aN s x/\aN s x<=(1300000:Int))/\(x=(4:Nat)→(-90000000:Int)<=aN s x/\aN s x<=(90000000:Int)))/\(1:Int)=(↑x:Int)/\eY s=aN s x/\(↑(bq s):Int)=(↑(bq s):Int)/\s=s/\(0:Int)=(0:Int)/\(0:Int)=(0:Int)/\false=false/\false=false/\True)/\∀(x:Nat),(1:Nat)<=x/\x<=bq s/\(x=(1:Nat)→(-300:Int)<=aN s x/\aN s x<=(300:Int))/\(x=(2:Nat)→(-20000:Int)<=aN s x/\aN s x<=(20000:Int))/\(x=(3:Nat)→(-1300000:Int)<=aN s x/\aN s x<=(1300000:Int))/\(x=(4:Nat)→(-90000000:Int)<=aN s x/\aN s x<=(90000000:Int))→if decide ((↑x:Int) < (↑(bq s):Int))=true then inR IntKind.i64 (aN s x *(64:Int))/\((0:Int)<=(↑x:Int)/\(↑x:Int) < (↑(List.length s):Int))/\inR IntKind.i64 (↑(UInt8.toNat (List.getD s (Int.toNat (↑x:Int)) (0:UInt8))):Int)/\inR IntKind.i64 (aN s x *(64:Int)+(↑(UInt8.toNat (List.getD s (Int.toNat (↑x:Int)) (0:UInt8))):Int))/\inR IntKind.i64 (aN s x *(64:Int)+(↑(UInt8.toNat (List.getD s (Int.toNat (↑x:Int)) (0:UInt8))):Int) - (128:Int))/\inR IntKind.i64 ((↑x:Int)+(1:Int))/\∃(y:Nat),((1:Nat)<=y
  /\y<=bq s/\(y=(1:Nat)→(-300:Int)<=aN s y/\aN s y<=(300:Int))/\(y=(2:Nat)→(-20000:Int)<=aN s y/\aN s y<=(20000:Int))/\(y=(3:Nat)→(-1300000:Int)<=aN s y/\aN s y<=(1300000:Int))/\(y=(4:Nat)→(-90000000:Int)<=aN s y/\aN s y<=(90000000:Int)))/\bq s - y < bq s - x/\(↑x:Int)+(1:Int)=(↑y:Int)/\aN s x *(64:Int)+(↑(UInt8.toNat (List.getD s (Int.toNat (↑x:Int)) (0:UInt8))):Int) - (128:Int)=aN s y/\(↑(bq s):Int)=(↑(bq s):Int)/\s=s/\(0:Int)=(0:Int)/\(0:Int)=(0:Int)/\false=false/\false=false/\True else if (!dF (aN s x))=true then True/\(0:Int)=(cr s).1/\(0:Int)=(cr s).2/\True else ((0:Int)<=aN s x/\aN s x<=(1114111:Int))/\((0:Int)<=(0:Int)/\(0:Int)<=(↑(bq s):Int)/\(↑(bq s):Int)<=(↑(List.length s):Int))/\if (!decide (cK (aN s x)=List.drop (Int.toNat (0:Int)) (List.take (Int.toNat (↑(bq s):Int)) s)))=true then True/\(0:Int)=(cr s).1/\(0:Int)=(cr s).2/\True else True/\aN s x=(cr s).1/\(↑(bq s):Int)=(cr s).2/\True:=by
 have ln:=hs.str
 refine aa (fun h=>?_) (fun h=>?_)
 ·have h:=Xo h
  subst h
  exact ⟨trivial,rfl,rfl,trivial⟩
 have hne:s≠[]:=fun e=>h (Xd e)
 have hpos:=List.length_pos_iff.2 hne
 have eb:∀b:UInt8,(b.toNat:Int)=bI b:=fun _=>rfl
 simp only [eb,Int.toNat_zero,Int.toNat_natCast]
 obtain ⟨n1,n2⟩:=FZ (s.getD 0 0)
 have i64:∀n:Int,-10000000000<=n→n<=10000000000→inR IntKind.i64 n:=fun n a b=>bc (by omega) (by omega)
 have l0:(0:Int)<=0/\(0:Int) < (s.length:Int):=⟨by omega,by omega⟩
 have hL:bq s=if 240<=bI (s.getD 0 0) then 4 else if 224<=bI (s.getD 0 0) then 3 else if 192<=bI (s.getD 0 0) then 2 else 1:=rfl
 have h0:eY s=if 240<=bI (s.getD 0 0) then bI (s.getD 0 0) - 240 else if 224<=bI (s.getD 0 0) then bI (s.getD 0 0) - 224 else if 192<=bI (s.getD 0 0) then bI (s.getD 0 0) - 192 else bI (s.getD 0 0):=rfl
 refine ⟨l0,i64 _ (by omega) (by omega),⟨l0,aa (fun a=>?_) (fun a=>⟨l0,aa (fun b=>?_) (fun b=>⟨l0,aa (fun c=>?_) (fun c=>?_)⟩)⟩)⟩,?_⟩
 ·have a:=Xo a
  rw [if_pos a] at hL h0
  refine ⟨l0,i64 _ (by omega) (by omega),i64 _ (by omega) (by omega),by rw [hL];rfl,h0.symm,?_⟩
  exact Xr
 ·have a:¬240<=bI (s.getD 0 0):=fun e=>a (Xd e)
  have b:=Xo b
  rw [if_neg a,if_pos b] at hL h0
  refine ⟨l0,i64 _ (by omega) (by omega),i64 _ (by omega) (by omega),by rw [hL];rfl,h0.symm,?_⟩
  exact Xr
 ·have a:¬240<=bI (s.getD 0 0):=fun e=>a (Xd e)
  have b:¬224<=bI (s.getD 0 0):=fun e=>b (Xd e)
  have c:=Xo c
  rw [if_neg a,if_neg b,if_pos c] at hL h0
  refine ⟨l0,i64 _ (by omega) (by omega),i64 _ (by omega) (by omega),by rw [hL];rfl,h0.symm,?_⟩
  exact Xr
 ·have a:¬240<=bI (s.getD 0 0):=fun e=>a (Xd e)
  have b:¬224<=bI (s.getD 0 0):=fun e=>b (Xd e)
  have c:¬192<=bI (s.getD 0 0):=fun e=>c (Xd e)
  rw [if_neg a,if_neg b,if_neg c] at hL h0
  refine ⟨by rw [hL];rfl,h0.symm,?_⟩
  exact Xr
 have hb0:-300<=eY s/\eY s<=300:=by rw [h0];(repeat' split) <;> omega
 have hb1:1<=bq s/\bq s<=4:=by rw [hL];(repeat' split) <;> omega
 clear hL h0 n1 n2
 refine aa (fun a=>?_) (fun a=>?_)
 ·have a:=Xo a
  have e:cr s=(0,0):=by unfold cr;rw [if_neg hne,if_pos (by omega)]
  rw [e]
  exact ⟨trivial,rfl,rfl,trivial⟩
 have a:¬(s.length:Int) < (bq s:Int):=fun e=>a (Xd e)
 have hF:cr s=if dF (aN s (bq s))=true/\cK (aN s (bq s))=s.take (bq s) then (aN s (bq s),(bq s:Int)) else (0,0):=by unfold cr;rw [if_neg hne,if_neg (by omega)]
 refine ⟨⟨1,⟨Nat.le_refl _,hb1.1,fun _=>hb0,fun e=>by omega,fun e=>by omega,fun e=>by omega⟩,?_⟩,?_⟩
 ·exact Xr
 rintro k ⟨k1,k2,k3,k4,k5,k6⟩
 refine aa (fun b=>?_) (fun b=>?_)
 ·have b:k < bq s:=by have:=Xo b;omega
  obtain ⟨m1,m2⟩:=FZ (s.getD k 0)
  have hf:aN s (k+1)=aN s k *64+bI (s.getD k 0) - 128:=by
   obtain ⟨j,rfl⟩:∃j,k=j+1:=⟨k - 1,by omega⟩
   rfl
  have hk:k=1∨k=2∨k=3:=by omega
  have hb:-1300000<=aN s k/\aN s k<=1300000:=by
   rcases hk with e | e | e
   ·have:=k3 e;omega
   ·have:=k4 e;omega
   ·exact k5 e
  refine ⟨i64 _ (by omega) (by omega),⟨by omega,by omega⟩,i64 _ (by omega) (by omega),i64 _ (by omega) (by omega),i64 _ (by omega) (by omega),i64 _ (by omega) (by omega),k+1,⟨by omega,by omega,fun e=>by omega,fun e=>by have:=k3 (by omega);omega,fun e=>by have:=k4 (by omega);omega,fun e=>by have:=k5 (by omega);omega⟩,by omega,by omega,hf.symm,?_⟩
  exact Xr
 ·have b:k=bq s:=by
   have:¬((k:Int) < (bq s:Int)):=fun e=>b (Xd e)
   omega
  subst b
  simp only [List.drop_zero]
  refine aa (fun c=>?_) (fun c=>?_)
  ·rw [if_neg (fun e=>by rw [e.1] at c;cases c)] at hF
   rw [hF]
   exact ⟨trivial,rfl,rfl,trivial⟩
  have c:dF (aN s (bq s))=true:=by simpa using c
  have c':=c
  unfold dF at c'
  simp only [Bool.and_eq_true,decide_eq_true_eq] at c'
  refine ⟨⟨c'.1.1,c'.1.2⟩,⟨by omega,by omega,by omega⟩,aa (fun d=>?_) (fun d=>?_)⟩
  ·have d:¬cK (aN s (bq s))=s.take (bq s):=by simpa using d
   rw [if_neg (fun e=>d e.2)] at hF
   rw [hF]
   exact ⟨trivial,rfl,rfl,trivial⟩
  ·have d:cK (aN s (bq s))=s.take (bq s):=by simpa using d
   rw [if_pos ⟨c,d⟩] at hF
   rw [hF]
   exact ⟨trivial,rfl,rfl,trivial⟩
theorem Bp (n:Nat) (t:Trm) (m:Int) (hs:Wf (.st .term) t) (hz:szT t<=n+1) (h0:0<=m) (h1:m<=1000000) :
  (∃(x:Nat × Int × Int),(x.1<=List.length t.parts/\(1:Int)<=x.2.1/\x.2.1<=m+(1:Int)/\(0:Int)<=x.2.2/\x.2.2+(1:Int)<=x.2.1/\countL (List.drop x.1 t.parts) m x.2.1 x.2.2=countL t.parts m (1:Int) (0:Int))/\(1:Int)=x.2.1/\(0:Int)=x.2.2/\(0:Int)=(↑x.1:Int)/\t=t/\m=m/\(0:Int)=(0:Int)/\(0:Int)=(0:Int)/\t.parts=t.parts/\(↑(List.length t.parts):Int)=(↑(List.length t.parts):Int)/\t=t/\True)/\∀(x:Nat × Int × Int),x.1<=List.length t.parts/\(1:Int)<=x.2.1/\x.2.1<=m+(1:Int)/\(0:Int)<=x.2.2/\x.2.2+(1:Int)<=x.2.1/\countL (List.drop x.1 t.parts) m x.2.1 x.2.2=countL t.parts m (1:Int) (0:Int)→if decide ((↑x.1:Int) < (↑(List.length t.parts):Int))=true then ((0:Int)<=(↑x.1:Int)/\(↑x.1:Int) < (↑(List.length t.parts):Int))/\if decide (m < x.2.1)=true then inR IntKind.i64 (x.2.2+(1:Int))/\True/\x.2.1=(countT t m).1/\x.2.2+(1:Int)=(countT t m).2/\True else inR IntKind.i64 (m - x.2.1)/\(szT (List.getD t.parts (Int.toNat (↑x.1:Int)) (dfl (Ty.st SN.term)))<=n/\(0:Int)<=m - x.2.1/\m - x.2.1<=(1000000:Int))/\inR IntKind.i64 (x.2.1+(countT (List.getD t.parts (Int.toNat (↑x.1:Int)) (dfl (Ty.st SN.term))) (m - x.2.1)).1)/\inR IntKind.i64 ((↑x.1:Int)+(1:Int))/\∃(y:Nat × Int × Int),(y.1<=List.length t.parts/\(1:Int)<=y.2.1/\y.2.1<=m+(1:Int)/\(0:Int)<=y.2.2/\y.2.2+(1:Int)<=y.2.1/\countL (List.drop y.1 t.parts) m y.2.1 y.2.2=countL t.parts m (1:Int) (0:Int))/\List.length t.parts - y.1 < List.length t.parts - x.1/\x.2.1+(countT (List.getD t.parts (Int.toNat (↑x.1:Int)) (dfl (Ty.st SN.term))) (m - x.2.1)).1=y.2.1/\max x.2.2 (countT (List.getD t.parts (Int.toNat (↑x.1:Int)) (dfl (Ty.st SN.term))) (m - x.2.1)).2=y.2.2/\(↑x.1:Int)+(1:Int)=(↑y.1:Int)/\t=t/\m=m/\(0:Int)=(0:Int)/\(0:Int)=(0:Int)/\t.parts=t.parts/\(↑(List.length t.parts):Int)=(↑(List.length t.parts):Int)/\t=t/\True else inR IntKind.i64 (x.2.2+(1:Int))/\True/\x.2.1=(countT t m).1/\x.2.2+(1:Int)=(countT t m).2/\True:=by
 have ln:=hs.term_parts.len
 rw [AJ]
 refine ⟨⟨(0,1,0),⟨Nat.zero_le _,by decide,by show (1:Int)<=m+1;omega,by decide,by decide,rfl⟩,rfl,rfl,rfl,?_⟩,?_⟩
 ·exact Xr
 rintro ⟨k,a,d⟩ ⟨h1,h2,h3,h4,h5,h6⟩
 simp only [Int.toNat_natCast] at h1 h2 h3 h4 h5 h6 ⊢
 refine aa (fun h=>?_) (fun h=>?_)
 ·replace h:=Xo h
  have hk:k < t.parts.length:=by omega
  rw [aO t.parts k (dfl (.st .term)) hk,countL] at h6
  refine ⟨by omega,aa (fun c=>?_) (fun c=>?_)⟩
  ·replace c:=Xo c
   rw [if_pos c] at h6
   rw [←h6]
   refine ⟨bc (by omega) (by omega),?_⟩
   exact Xr
  ·replace c:¬m < a:=fun e=>c (Xd e)
   rw [if_neg c] at h6
   have hm:=fV (bX t.parts k (dfl (.st .term)) hk)
   have he:=gG t
   have hb:=countT_bound (t.parts.getD k (dfl (.st .term))) (m - a) (by omega)
   refine ⟨bc (by omega) (by omega),⟨by omega,by omega,by omega⟩,bc (by omega) (by omega),b6 hk ln,(k+1,_,_),⟨by show k+1<=_;omega,?_,?_,?_,?_,h6⟩,by show _ - (k+1) < _;omega,rfl,rfl,by show _=((k+1:Nat):Int);omega,?_⟩
   ·show (1:Int)<=a+_;omega
   ·show a+_<=m+1;omega
   ·show (0:Int)<=max d _;omega
   ·show max d _+1<=a+_;omega
   exact Xr
 ·replace h:¬((k:Int) < (t.parts.length:Int)):=fun e=>h (Xd e)
  have e:k=t.parts.length:=by omega
  subst e
  rw [List.drop_length,countL] at h6
  rw [←h6]
  refine ⟨bc (by omega) (by omega),?_⟩
  exact Xr
theorem yk  (x:Str)  :
  True/\(!al x)=!al x/\True:=by
 exact ⟨trivial,by trivial,trivial⟩
theorem yl  (l:List Str)  (hl:Wf (.lst .str) l) :
  (∃(x:Nat),(x<=List.length l/\b8 al (List.drop x l) x=b8 al l (0:Nat))/\(0:Int)=(↑x:Int)/\l=l/\(↑(List.length l):Int)=(↑(List.length l):Int)/\True)/\∀(x:Nat),x<=List.length l/\b8 al (List.drop x l) x=b8 al l (0:Nat)→if decide ((↑x:Int) < (↑(List.length l):Int))=true then ((0:Int)<=(↑x:Int)/\(↑x:Int) < (↑(List.length l):Int))/\if (!al (List.getD l (Int.toNat (↑x:Int)) (dfl Ty.str)))=true then True/\(↑x:Int)=b8 al l (0:Nat)/\True else inR IntKind.i64 ((↑x:Int)+(1:Int))/\∃(y:Nat),(y<=List.length l/\b8 al (List.drop y l) y=b8 al l (0:Nat))/\List.length l - y < List.length l - x/\(↑x:Int)+(1:Int)=(↑y:Int)/\l=l/\(↑(List.length l):Int)=(↑(List.length l):Int)/\True else True/\(-1:Int)=b8 al l (0:Nat)/\True:=by
 have ln:=hl.len
 simp only [Int.toNat_natCast]
 refine ⟨⟨0,⟨Nat.zero_le _,by simp⟩,rfl,by trivial,by trivial,trivial⟩,?_⟩
 rintro k ⟨h1,h2⟩
 refine aa (fun h=>?_) (fun h=>?_)
 ·replace h:=Xo h
  have hk:k < l.length:=by omega
  rw [aO l k (dfl .str) hk,b8] at h2
  refine ⟨by omega,aa (fun c=>?_) (fun c=>?_)⟩
  ·have c:al (l.getD k (dfl .str))=false:=by simpa using c
   rw [c,if_neg Bool.false_ne_true] at h2
   rw [←h2]
   exact ⟨trivial,rfl,trivial⟩
  ·have c:al (l.getD k (dfl .str))=true:=by simpa using c
   rw [if_pos c] at h2
   refine ⟨b6 hk ln,k+1,⟨by omega,h2⟩,by omega,by omega,by trivial,by trivial,trivial⟩
 ·replace h:¬((k:Int) < (l.length:Int)):=fun e=>h (Xd e)
  have e:k=l.length:=by omega
  subst e
  rw [List.drop_length,b8] at h2
  rw [←h2]
  exact ⟨trivial,rfl,trivial⟩
theorem ym  (l:List Str)  :
  True/\decide ((0:Int)<=b8 al l (0:Nat))=!List.all l al/\True:=by
 exact ⟨trivial,gH al l 0,trivial⟩
theorem DX  (l:List Str)  :
  True/\(!!List.all l al)=List.all l al/\True:=by
 exact ⟨trivial,Bool.not_not _,trivial⟩
theorem DY (l:List Str) (ho:l.length *16<=140737488355328) :
  List.length l *(16:Nat)<=(140737488355328:Nat)/\if List.all l al=true then List.length (List.mergeSort l fun (x y:Str) ↦decide (x<=y))=List.length (List.mergeSort l fun (x y:Str) ↦decide (x<=y))/\True/\decide ((↑(List.length (Lib.compact (List.mergeSort l fun (x y:Str) ↦decide (x<=y)))):Int)=(↑(List.length l):Int))=(List.all l al && decide (List.Nodup l))/\True else True/\false=(List.all l al && decide (List.Nodup l))/\True:=by
 have hc:=gE l
 unfold eC at hc
 refine ⟨ho,aa (fun h=>?_) (fun h=>?_)⟩
 ·refine ⟨by trivial,trivial,?_,trivial⟩
  rw [h,Bool.true_and,decide_eq_decide,←hc]
  omega
 ·have h:l.all al=false:=by simpa using h
  exact ⟨trivial,by rw [h];rfl,trivial⟩
theorem yn (n:Nat) (x:Shape)  (ho:sz x<=n) :
  sz x<=n/\True/\(!allS aL x)=!allS aL x/\True:=by
 exact ⟨ho,trivial,by trivial,trivial⟩
theorem yo (n:Nat) (l:List Shape)  (hl:Wf (.lst (.st .shape)) l) (ho:∀x∈l,sz x<=n) :
  (∃(x:Nat),(x<=List.length l/\b8 (allS aL) (List.drop x l) x=b8 (allS aL) l (0:Nat))/\(0:Int)=(↑x:Int)/\l=l/\(↑(List.length l):Int)=(↑(List.length l):Int)/\True)/\∀(x:Nat),x<=List.length l/\b8 (allS aL) (List.drop x l) x=b8 (allS aL) l (0:Nat)→if decide ((↑x:Int) < (↑(List.length l):Int))=true then ((0:Int)<=(↑x:Int)/\(↑x:Int) < (↑(List.length l):Int))/\sz (List.getD l (Int.toNat (↑x:Int)) (dfl (Ty.st SN.shape)))<=n/\if (!allS aL (List.getD l (Int.toNat (↑x:Int)) (dfl (Ty.st SN.shape))))=true then True/\(↑x:Int)=b8 (allS aL) l (0:Nat)/\True else inR IntKind.i64 ((↑x:Int)+(1:Int))/\∃(y:Nat),(y<=List.length l/\b8 (allS aL) (List.drop y l) y=b8 (allS aL) l (0:Nat))/\List.length l - y < List.length l - x/\(↑x:Int)+(1:Int)=(↑y:Int)/\l=l/\(↑(List.length l):Int)=(↑(List.length l):Int)/\True else True/\(-1:Int)=b8 (allS aL) l (0:Nat)/\True:=by
 have ln:=hl.len
 simp only [Int.toNat_natCast]
 refine ⟨⟨0,⟨Nat.zero_le _,by simp⟩,rfl,by trivial,by trivial,trivial⟩,?_⟩
 rintro k ⟨h1,h2⟩
 refine aa (fun h=>?_) (fun h=>?_)
 ·replace h:=Xo h
  have hk:k < l.length:=by omega
  rw [aO l k (dfl (.st .shape)) hk,b8] at h2
  refine ⟨by omega,ho _ (bX l k _ hk),aa (fun c=>?_) (fun c=>?_)⟩
  ·have c:(allS aL) (l.getD k (dfl (.st .shape)))=false:=by simpa using c
   rw [c,if_neg Bool.false_ne_true] at h2
   rw [←h2]
   exact ⟨trivial,rfl,trivial⟩
  ·have c:(allS aL) (l.getD k (dfl (.st .shape)))=true:=by simpa using c
   rw [if_pos c] at h2
   refine ⟨b6 hk ln,k+1,⟨by omega,h2⟩,by omega,by omega,by trivial,by trivial,trivial⟩
 ·replace h:¬((k:Int) < (l.length:Int)):=fun e=>h (Xd e)
  have e:k=l.length:=by omega
  subst e
  rw [List.drop_length,b8] at h2
  rw [←h2]
  exact ⟨trivial,rfl,trivial⟩
theorem yp (n:Nat) (l:List Shape)  (ho:∀x∈l,sz x<=n) :
  (∀(x:Shape),x∈l→sz x<=n)/\True/\decide ((0:Int)<=b8 (allS aL) l (0:Nat))=!List.all l (allS aL)/\True:=by
 exact ⟨ho,trivial,gH (allS aL) l 0,trivial⟩
theorem DZ (n:Nat) (l:List Shape)  (ho:∀x∈l,sz x<=n) :
  (∀(x:Shape),x∈l→sz x<=n)/\True/\(!!List.all l (allS aL))=List.all l (allS aL)/\True:=by
 exact ⟨ho,trivial,Bool.not_not _,trivial⟩
theorem FA (n:Nat) (s:Shape) (ho:sz s<=n+1) :
  if (!decide (s.kind=(10:Int)))=true then (∀(x:Shape),x∈s.parts→sz x<=n)/\True/\List.all s.parts (allS aL)=allS aL s/\True else True/\false=allS aL s/\True:=by
 have e0:allS aL s=(aL s && s.parts.all (allS aL)):=by rw [kK,vb]
 have h0:=nM s
 have hm:∀x∈s.parts,sz x<=n:=fun x hx=>by have:=kc hx;omega
 rw [e0]
 refine aa (fun h=>?_) (fun h=>?_)
 ·have h:aL s=true:=h
  rw [h,Bool.true_and]
  exact ⟨hm,trivial,rfl,trivial⟩
 ·have h:aL s=false:=by simpa [aL] using h
  rw [h]
  exact ⟨trivial,rfl,trivial⟩
theorem Bq (s:Shape)  :
  if decide (cb s=(0:Int))=true then sz s<=(400:Nat)/\True/\allS aL s=(decide (cb s=(0:Int)) && allS aL s)/\True else True/\false=(decide (cb s=(0:Int)) && allS aL s)/\True:=by
 refine aa (fun h=>?_) (fun h=>?_)
 ·have h:cb s=0:=by simpa using h
  refine ⟨?_,trivial,by simp [h],trivial⟩
  unfold cb at h
  by_cases c:400 < sz s
  ·rw [if_pos c] at h;exact absurd h (by decide)
  ·omega
 ·have h:¬cb s=0:=by simpa using h
  exact ⟨trivial,by simp [h],trivial⟩
theorem GP (t:Trm)  :
  True/\(↑(List.length t.names):Int)=(↑(List.length t.names):Int)/\(↑(List.length t.vars):Int)=(↑(List.length t.vars):Int)/\(↑(List.length t.shapes):Int)=(↑(List.length t.shapes):Int)/\(↑(List.length t.parts):Int)=(↑(List.length t.parts):Int)/\True:=by
 exact Xr
theorem E0 (s:Str) (hs:Wf .str s) :
  (∃(x:Nat),(x<=List.length s/\List.all s cn=List.all (List.drop x s) cn)/\(0:Int)=(↑x:Int)/\s=s/\bn s=bn s/\(↑(List.length (bn s)):Int)=(↑(List.length (bn s)):Int)/\True)/\∀(x:Nat),x<=List.length s/\List.all s cn=List.all (List.drop x s) cn→if decide ((↑x:Int) < (↑(List.length (bn s)):Int))=true then ((0:Int)<=(↑x:Int)/\(↑x:Int) < (↑(List.length (bn s)):Int))/\if decide (List.getD (bn s) (Int.toNat (↑x:Int)) (dfl (Ty.int IntKind.u8)) < (32:Int))=true then if (!decide (List.getD (bn s) (Int.toNat (↑x:Int)) (dfl (Ty.int IntKind.u8))=(10:Int)))=true then if (!decide (List.getD (bn s) (Int.toNat (↑x:Int)) (dfl (Ty.int IntKind.u8))=(9:Int)))=true then True/\false=fI s/\True else inR IntKind.i64 ((↑x:Int)+(1:Int))/\∃(y:Nat),(y<=List.length s/\List.all s cn=List.all (List.drop y s) cn)/\List.length s - y < List.length s - x/\(↑x:Int)+(1:Int)=(↑y:Int)/\s=s/\bn s=bn s/\(↑(List.length (bn s)):Int)=(↑(List.length (bn s)):Int)/\True else inR IntKind.i64 ((↑x:Int)+(1:Int))/\∃(y:Nat),(y<=List.length s/\List.all s cn=List.all (List.drop y s) cn)/\List.length s - y < List.length s - x/\(↑x:Int)+(1:Int)=(↑y:Int)/\s=s/\bn s=bn s/\(↑(List.length (bn s)):Int)=(↑(List.length (bn s)):Int)/\True else inR IntKind.i64 ((↑x:Int)+(1:Int))/\∃(y:Nat),(y<=List.length s/\List.all s cn=List.all (List.drop y s) cn)/\List.length s - y < List.length s - x/\(↑x:Int)+(1:Int)=(↑y:Int)/\s=s/\bn s=bn s/\(↑(List.length (bn s)):Int)=(↑(List.length (bn s)):Int)/\True else True/\Option.isNone (ke s)=fI s/\True:=by
 have ln:=hs.str
 have hbl:(bn s).length=s.length:=List.length_map _
 simp only [hbl,Int.toNat_natCast]
 refine ⟨⟨0,⟨Nat.zero_le _,rfl⟩,?_⟩,?_⟩
 ·exact Xr
 rintro k ⟨h1,h2⟩
 refine aa (fun h=>?_) (fun h=>?_)
 ·have hk:k < s.length:=by have:=Xo h;omega
  rw [aO s k 0 hk,List.all_cons] at h2
  have hq:=rT (s.getD k 0)
  simp only [vj s k hk]
  have yes:¬(bI (s.getD k 0) < 32/\bI (s.getD k 0)≠10/\bI (s.getD k 0)≠9)→s.all cn=(s.drop (k+1)).all cn:=fun e=>by
   have:cn (s.getD k 0)=true:=by
    cases hh:cn (s.getD k 0) with
    | true=>rfl
    | false=>exact absurd (hq.1 hh) e
   rw [h2,this,Bool.true_and]
  refine ⟨⟨by omega,by omega⟩,?_⟩
  repeat' (refine aa (fun _=>?_) (fun _=>?_))
  all_goals (simp only [decide_eq_true_eq,Bool.not_eq_true',decide_eq_false_iff_not] at *)
  all_goals first
   | (refine ⟨trivial,?_,trivial⟩;unfold fI;rw [h2,hq.2 (by omega),Bool.false_and,Bool.false_and])
   | (refine ⟨b6 hk ln,k+1,⟨by omega,yes (by omega)⟩,by omega,by omega,?_⟩;exact Xr)
 ·have hk:k=s.length:=by
   have:¬((k:Int) < (s.length:Int)):=fun e=>h (Xd e)
   omega
  refine ⟨trivial,?_,trivial⟩
  unfold fI
  rw [h2,hk,List.drop_length]
  rfl
theorem vL  (x:Shape)  :
  True/\(!(decide (cb x=(0:Int)) && allS aL x))=!bj x/\True:=by
 exact ⟨trivial,by trivial,trivial⟩
theorem vM  (l:List Shape)  (hl:Wf (.lst (.st .shape)) l) :
  (∃(x:Nat),(x<=List.length l/\b8 bj (List.drop x l) x=b8 bj l (0:Nat))/\(0:Int)=(↑x:Int)/\l=l/\(↑(List.length l):Int)=(↑(List.length l):Int)/\True)/\∀(x:Nat),x<=List.length l/\b8 bj (List.drop x l) x=b8 bj l (0:Nat)→if decide ((↑x:Int) < (↑(List.length l):Int))=true then ((0:Int)<=(↑x:Int)/\(↑x:Int) < (↑(List.length l):Int))/\if (!bj (List.getD l (Int.toNat (↑x:Int)) (dfl (Ty.st SN.shape))))=true then True/\(↑x:Int)=b8 bj l (0:Nat)/\True else inR IntKind.i64 ((↑x:Int)+(1:Int))/\∃(y:Nat),(y<=List.length l/\b8 bj (List.drop y l) y=b8 bj l (0:Nat))/\List.length l - y < List.length l - x/\(↑x:Int)+(1:Int)=(↑y:Int)/\l=l/\(↑(List.length l):Int)=(↑(List.length l):Int)/\True else True/\(-1:Int)=b8 bj l (0:Nat)/\True:=by
 have ln:=hl.len
 simp only [Int.toNat_natCast]
 refine ⟨⟨0,⟨Nat.zero_le _,by simp⟩,rfl,by trivial,by trivial,trivial⟩,?_⟩
 rintro k ⟨h1,h2⟩
 refine aa (fun h=>?_) (fun h=>?_)
 ·replace h:=Xo h
  have hk:k < l.length:=by omega
  rw [aO l k (dfl (.st .shape)) hk,b8] at h2
  refine ⟨by omega,aa (fun c=>?_) (fun c=>?_)⟩
  ·have c:bj (l.getD k (dfl (.st .shape)))=false:=by simpa using c
   rw [c,if_neg Bool.false_ne_true] at h2
   rw [←h2]
   exact ⟨trivial,rfl,trivial⟩
  ·have c:bj (l.getD k (dfl (.st .shape)))=true:=by simpa using c
   rw [if_pos c] at h2
   refine ⟨b6 hk ln,k+1,⟨by omega,h2⟩,by omega,by omega,by trivial,by trivial,trivial⟩
 ·replace h:¬((k:Int) < (l.length:Int)):=fun e=>h (Xd e)
  have e:k=l.length:=by omega
  subst e
  rw [List.drop_length,b8] at h2
  rw [←h2]
  exact ⟨trivial,rfl,trivial⟩
theorem vN  (l:List Shape)  :
  True/\decide ((0:Int)<=b8 bj l (0:Nat))=!List.all l bj/\True:=by
 exact ⟨trivial,gH bj l 0,trivial⟩
theorem Br  (l:List Shape)  :
  True/\(!!List.all l bj)=List.all l bj/\True:=by
 exact ⟨trivial,Bool.not_not _,trivial⟩
theorem E1 (t:Trm) (ht:Wf (.st .term) t) (ho:t.names.length<=8796093022208) :
  (if decide (t.pos < (0:Int))=true then true=!eD t/\t=t/\false=false/\t=t/\(↑(List.length t.names):Int)=(↑(List.length t.names):Int)/\(↑(List.length t.vars):Int)=(↑(List.length t.vars):Int)/\(↑(List.length t.shapes):Int)=(↑(List.length t.shapes):Int)/\(↑(List.length t.parts):Int)=(↑(List.length t.parts):Int)/\True else if (!decide (t.n=(0:Int)))=true then if (!decide (t.kind=(1:Int)))=true then true=!eD t/\t=t/\false=false/\t=t/\(↑(List.length t.names):Int)=(↑(List.length t.names):Int)/\(↑(List.length t.vars):Int)=(↑(List.length t.vars):Int)/\(↑(List.length t.shapes):Int)=(↑(List.length t.shapes):Int)/\(↑(List.length t.parts):Int)=(↑(List.length t.parts):Int)/\True else if (!decide (t.pkg=[]))=true then if (!decide (t.kind=(5:Int)))=true then true=!eD t/\t=t/\false=false/\t=t/\(↑(List.length t.names):Int)=(↑(List.length t.names):Int)/\(↑(List.length t.vars):Int)=(↑(List.length t.vars):Int)/\(↑(List.length t.shapes):Int)=(↑(List.length t.shapes):Int)/\(↑(List.length t.parts):Int)=(↑(List.length t.parts):Int)/\True else (!List.all t.shapes bj)=!eD t/\t=t/\false=false/\t=t/\(↑(List.length t.names):Int)=(↑(List.length t.names):Int)/\(↑(List.length t.vars):Int)=(↑(List.length t.vars):Int)/\(↑(List.length t.shapes):Int)=(↑(List.length t.shapes):Int)/\(↑(List.length t.parts):Int)=(↑(List.length t.parts):Int)/\True else (!List.all t.shapes bj)=!eD t/\t=t/\false=false/\t=t/\(↑(List.length t.names):Int)=(↑(List.length t.names):Int)/\(↑(List.length t.vars):Int)=(↑(List.length t.vars):Int)/\(↑(List.length t.shapes):Int)=(↑(List.length t.shapes):Int)/\(↑(List.length t.parts):Int)=(↑(List.length t.parts):Int)/\True else if (!decide (t.pkg=[]))=true then if (!decide (t.kind=(5:Int)))=true then true=!eD t/\t=t/\false=false/\t=t/\(↑(List.length t.names):Int)=(↑(List.length t.names):Int)/\(↑(List.length t.vars):Int)=(↑(List.length t.vars):Int)/\(↑(List.length t.shapes):Int)=(↑(List.length t.shapes):Int)/\(↑(List.length t.parts):Int)=(↑(List.length t.parts):Int)/\True else (!List.all t.shapes bj)=!eD t/\t=t/\false=false/\t=t/\(↑(List.length t.names):Int)=(↑(List.length t.names):Int)/\(↑(List.length t.vars):Int)=(↑(List.length t.vars):Int)/\(↑(List.length t.shapes):Int)=(↑(List.length t.shapes):Int)/\(↑(List.length t.parts):Int)=(↑(List.length t.parts):Int)/\True else (!List.all t.shapes bj)=!eD t/\t=t/\false=false/\t=t/\(↑(List.length t.names):Int)=(↑(List.length t.names):Int)/\(↑(List.length t.vars):Int)=(↑(List.length t.vars):Int)/\(↑(List.length t.shapes):Int)=(↑(List.length t.shapes):Int)/\(↑(List.length t.parts):Int)=(↑(List.length t.parts):Int)/\True)/\if (!eD t)=true then True/\false=ai t/\True else if decide (t.kind=(1:Int))=true then if decide (t.name=[])=true then if decide ((0:Int)<=t.n)=true then if decide (t.n<=(999999999999999:Int))=true then True/\(decide ((↑(List.length t.names):Int)=(0:Int)) && (decide ((↑(List.length t.vars):Int)=(0:Int)) && (decide ((↑(List.length t.shapes):Int)=(0:Int)) && (decide ((↑(List.length t.parts):Int)=(0:Int)) && true))))=ai t/\True else True/\false=ai t/\True else True/\false=ai t/\True else True/\false=ai t/\True else if decide (t.kind=(2:Int))=true then if fI t.name=true then True/\(decide ((↑(List.length t.names):Int)=(0:Int)) && (decide ((↑(List.length t.vars):Int)=(0:Int)) && (decide ((↑(List.length t.shapes):Int)=(0:Int)) && (decide ((↑(List.length t.parts):Int)=(0:Int)) && true))))=ai t/\True else True/\false=ai t/\True else if decide (t.kind=(3:Int))=true
  then if decide (t.name=[])=true then True/\(decide ((↑(List.length t.names):Int)=(0:Int)) && (decide ((↑(List.length t.vars):Int)=(0:Int)) && (decide ((↑(List.length t.shapes):Int)=(0:Int)) && (decide ((↑(List.length t.parts):Int)=(0:Int)) && true))))=ai t/\True else True/\false=ai t/\True else if decide (t.kind=(4:Int))=true then if decide (t.name=[])=true then True/\(decide ((↑(List.length t.names):Int)=(0:Int)) && (decide ((↑(List.length t.vars):Int)=(0:Int)) && (decide ((↑(List.length t.shapes):Int)=(0:Int)) && (decide ((↑(List.length t.parts):Int)=(0:Int)) && true))))=ai t/\True else True/\false=ai t/\True else if decide (t.kind=(5:Int))=true then if al t.name=true then if decide (t.pkg=[])=true then True/\(decide ((↑(List.length t.names):Int)=(0:Int)) && (decide ((↑(List.length t.vars):Int)=(0:Int)) && (decide ((↑(List.length t.shapes):Int)=(0:Int)) && (decide ((↑(List.length t.parts):Int)=(0:Int)) && true))))=ai t/\True else if al t.pkg=true then True/\(decide ((↑(List.length t.names):Int)=(0:Int)) && (decide ((↑(List.length t.vars):Int)=(0:Int)) && (decide ((↑(List.length t.shapes):Int)=(0:Int)) && (decide ((↑(List.length t.parts):Int)=(0:Int)) && true))))=ai t/\True else True/\false=ai t/\True else True/\false=ai t/\True else if decide (t.kind=(6:Int))=true then if decide (t.name=[])=true then if decide ((↑(List.length t.names):Int)<=(4096:Int))=true then List.length t.names *(16:Nat)<=(140737488355328:Nat)/\if (List.all t.names al && decide (List.Nodup t.names))=true then True/\(decide ((↑(List.length t.names):Int)=(↑(List.length t.names):Int)) && (decide ((↑(List.length t.vars):Int)=(0:Int)) && (decide ((↑(List.length t.shapes):Int)=(↑(List.length t.names):Int)) && (decide ((↑(List.length t.parts):Int)=(1:Int)) && true))))=ai t/\True else True/\false=ai t/\True else True/\false=ai t/\True else True/\false=ai t/\True else if decide (t.kind=(7:Int))=true then if decide (t.name=[])=true then if decide ((0:Int) < (↑(List.length t.parts):Int))=true then True/\(decide ((↑(List.length t.names):Int)=(0:Int)) && (decide ((↑(List.length t.vars):Int)=(0:Int)) && (decide ((↑(List.length t.shapes):Int)=(0:Int)) && (decide ((↑(List.length t.parts):Int)=(↑(List.length t.parts):Int)) && true))))=ai t/\True else True/\false=ai t/\True else True/\false=ai t/\True else if decide (t.kind=(8:Int))=true then if decide (t.name=[])=true then List.length t.names *(16:Nat)<=(140737488355328:Nat)/\if (List.all t.names al && decide (List.Nodup t.names))=true then True/\(decide ((↑(List.length t.names):Int)=(↑(List.length t.names):Int)) && (decide ((↑(List.length t.vars):Int)=(0:Int)) && (decide ((↑(List.length t.shapes):Int)=(0:Int)) && (decide ((↑(List.length t.parts):Int)=(↑(List.length t.names):Int)) && true))))=ai t/\True else True/\false=ai t/\True else True/\false=ai t/\True else if decide (t.kind=(9:Int))=true then if al t.name=true then True/\(decide ((↑(List.length t.names):Int)=(0:Int)) && (decide ((↑(List.length t.vars):Int)=(0:Int)) && (decide ((↑(List.length t.shapes):Int)=(0:Int)) && (decide ((↑(List.length t.parts):Int)=(1:Int)) && true))))=ai t/\True else True/\false=ai t/\True else if decide (t.kind=(10:Int))=true then if al t.name=true then True/\(decide ((↑(List.length t.names):Int)=(0:Int)) && (decide ((↑(List.length t.vars):Int)=(0:Int)) && (decide ((↑(List.length t.shapes):Int)=(0:Int)) && (decide ((↑(List.length t.parts):Int)=(1:Int)) && true))))=ai t/\True else True/\false=ai t/\True else if decide (t.kind=(11:Int))=true
  then if decide (t.name=[])=true then True/\(decide ((↑(List.length t.names):Int)=(0:Int)) && (decide ((↑(List.length t.vars):Int)=(0:Int)) && (decide ((↑(List.length t.shapes):Int)=(1:Int)) && (decide ((↑(List.length t.parts):Int)=(↑(List.length t.parts):Int)) && true))))=ai t/\True else True/\false=ai t/\True else if decide (t.kind=(12:Int))=true then if decide (t.name=[])=true then True/\(decide ((↑(List.length t.names):Int)=(0:Int)) && (decide ((↑(List.length t.vars):Int)=(0:Int)) && (decide ((↑(List.length t.shapes):Int)=(1:Int)) && (decide ((↑(List.length t.parts):Int)=(3:Int)) && true))))=ai t/\True else True/\false=ai t/\True else if decide (t.kind=(13:Int))=true then if decide (t.name=[])=true then List.length t.names *(16:Nat)<=(140737488355328:Nat)/\if (List.all t.names al && decide (List.Nodup t.names))=true then if List.all t.vars al=true then inR IntKind.i64 ((↑(List.length t.names):Int)+(1:Int))/\inR IntKind.i64 ((↑(List.length t.names):Int)+(1:Int))/\True/\(decide ((↑(List.length t.names):Int)=(↑(List.length t.names):Int)) && (decide ((↑(List.length t.vars):Int)=(↑(List.length t.names):Int)) && (decide ((↑(List.length t.shapes):Int)=(↑(List.length t.names):Int)+(1:Int)) && (decide ((↑(List.length t.parts):Int)=(↑(List.length t.names):Int)+(1:Int)) && true))))=ai t/\True else True/\false=ai t/\True else True/\false=ai t/\True else True/\false=ai t/\True else if decide (t.kind=(14:Int))=true then if al t.name=true then True/\(decide ((↑(List.length t.names):Int)=(0:Int)) && (decide ((↑(List.length t.vars):Int)=(0:Int)) && (decide ((↑(List.length t.shapes):Int)=(0:Int)) && (decide ((↑(List.length t.parts):Int)=(2:Int)) && true))))=ai t/\True else True/\false=ai t/\True else if decide (t.kind=(15:Int))=true then if decide (t.name=[])=true then True/\(decide ((↑(List.length t.names):Int)=(0:Int)) && (decide ((↑(List.length t.vars):Int)=(0:Int)) && (decide ((↑(List.length t.shapes):Int)=(1:Int)) && (decide ((↑(List.length t.parts):Int)=(1:Int)) && true))))=ai t/\True else True/\false=ai t/\True else if decide (t.kind=(16:Int))=true then if aD t.name=true then True/\(decide ((↑(List.length t.names):Int)=(0:Int)) && (decide ((↑(List.length t.vars):Int)=(0:Int)) && (decide ((↑(List.length t.shapes):Int)=(0:Int)) && (decide ((↑(List.length t.parts):Int)=(1:Int)) && true))))=ai t/\True else True/\false=ai t/\True else if decide (t.kind=(17:Int))=true then if aD t.name=true then True/\(decide ((↑(List.length t.names):Int)=(0:Int)) && (decide ((↑(List.length t.vars):Int)=(0:Int)) && (decide ((↑(List.length t.shapes):Int)=(0:Int)) && (decide ((↑(List.length t.parts):Int)=(1:Int)) && true))))=ai t/\True else True/\false=ai t/\True else True/\false=ai t/\True:=by
 refine ⟨?_,aa (fun h=>?_) (fun h=>?_)⟩
 ·unfold eD
  repeat' (refine aa (fun _=>?_) (fun _=>?_))
  all_goals simp_all
 ·have h:eD t=false:=by simpa using h
  unfold ai
  rw [h]
  exact ⟨trivial,rfl,trivial⟩
 have h:eD t=true:=by simpa using h
 have e0:ai t=gY t:=by unfold ai;rw [h,Bool.true_and]
 rw [e0]
 clear h e0
 unfold gY dN dR
 simp only [dnZ,dn1,dn2,dn3,dnN,dnS,dnL,dnP]
 generalize t.names.all al=na
 generalize t.vars.all al=va
 repeat' (first | refine aa (fun _=>?_) (fun _=>?_) | refine ⟨by omega,?_⟩ | refine ⟨bc (by omega) (by omega),?_⟩ | fail)
 all_goals (refine ⟨trivial,?_,trivial⟩;try simp_all)
 all_goals first | (simp only [Bool.and_assoc];done) | (intros;omega)
theorem vO (n:Nat) (x:Trm)  (ho:szT x<=n/\bF x=true) :
  (szT x<=n/\bF x=true)/\True/\(!allT ai x)=!allT ai x/\True:=by
 exact ⟨ho,trivial,by trivial,trivial⟩
theorem vP (n:Nat) (l:List Trm)  (hl:Wf (.lst (.st .term)) l) (ho:∀x∈l,szT x<=n/\bF x=true) :
  (∃(x:Nat),(x<=List.length l/\b8 (allT ai) (List.drop x l) x=b8 (allT ai) l (0:Nat))/\(0:Int)=(↑x:Int)/\l=l/\(↑(List.length l):Int)=(↑(List.length l):Int)/\True)/\∀(x:Nat),x<=List.length l/\b8 (allT ai) (List.drop x l) x=b8 (allT ai) l (0:Nat)→if decide ((↑x:Int) < (↑(List.length l):Int))=true then ((0:Int)<=(↑x:Int)/\(↑x:Int) < (↑(List.length l):Int))/\(szT (List.getD l (Int.toNat (↑x:Int)) (dfl (Ty.st SN.term)))<=n/\bF (List.getD l (Int.toNat (↑x:Int)) (dfl (Ty.st SN.term)))=true)/\if (!allT ai (List.getD l (Int.toNat (↑x:Int)) (dfl (Ty.st SN.term))))=true then True/\(↑x:Int)=b8 (allT ai) l (0:Nat)/\True else inR IntKind.i64 ((↑x:Int)+(1:Int))/\∃(y:Nat),(y<=List.length l/\b8 (allT ai) (List.drop y l) y=b8 (allT ai) l (0:Nat))/\List.length l - y < List.length l - x/\(↑x:Int)+(1:Int)=(↑y:Int)/\l=l/\(↑(List.length l):Int)=(↑(List.length l):Int)/\True else True/\(-1:Int)=b8 (allT ai) l (0:Nat)/\True:=by
 have ln:=hl.len
 simp only [Int.toNat_natCast]
 refine ⟨⟨0,⟨Nat.zero_le _,by simp⟩,rfl,by trivial,by trivial,trivial⟩,?_⟩
 rintro k ⟨h1,h2⟩
 refine aa (fun h=>?_) (fun h=>?_)
 ·replace h:=Xo h
  have hk:k < l.length:=by omega
  rw [aO l k (dfl (.st .term)) hk,b8] at h2
  refine ⟨by omega,ho _ (bX l k _ hk),aa (fun c=>?_) (fun c=>?_)⟩
  ·have c:(allT ai) (l.getD k (dfl (.st .term)))=false:=by simpa using c
   rw [c,if_neg Bool.false_ne_true] at h2
   rw [←h2]
   exact ⟨trivial,rfl,trivial⟩
  ·have c:(allT ai) (l.getD k (dfl (.st .term)))=true:=by simpa using c
   rw [if_pos c] at h2
   refine ⟨b6 hk ln,k+1,⟨by omega,h2⟩,by omega,by omega,by trivial,by trivial,trivial⟩
 ·replace h:¬((k:Int) < (l.length:Int)):=fun e=>h (Xd e)
  have e:k=l.length:=by omega
  subst e
  rw [List.drop_length,b8] at h2
  rw [←h2]
  exact ⟨trivial,rfl,trivial⟩
theorem vQ (n:Nat) (l:List Trm)  (ho:∀x∈l,szT x<=n/\bF x=true) :
  (∀(x:Trm),x∈l→szT x<=n/\bF x=true)/\True/\decide ((0:Int)<=b8 (allT ai) l (0:Nat))=!List.all l (allT ai)/\True:=by
 exact ⟨ho,trivial,gH (allT ai) l 0,trivial⟩
theorem Bt (n:Nat) (l:List Trm)  (ho:∀x∈l,szT x<=n/\bF x=true) :
  (∀(x:Trm),x∈l→szT x<=n/\bF x=true)/\True/\(!!List.all l (allT ai))=List.all l (allT ai)/\True:=by
 exact ⟨ho,trivial,Bool.not_not _,trivial⟩
theorem Bu (n:Nat) (t:Trm) (ho:szT t<=n+1/\bF t=true) :
  List.length t.names<=(8796093022208:Nat)/\if ai t=true then (∀(x:Trm),x∈t.parts→szT x<=n/\bF x=true)/\True/\List.all t.parts (allT ai)=allT ai t/\True else True/\false=allT ai t/\True:=by
 obtain ⟨h1,h2⟩:=ho
 have e0:allT ai t=(ai t && t.parts.all (allT ai)):=by rw [allT_eq,allTL_all]
 have h0:=gG t
 rw [e0]
 refine ⟨xI h2,aa (fun h=>?_) (fun h=>?_)⟩
 ·rw [h,Bool.true_and]
  exact ⟨fun x hx=>⟨by have:=fV hx;omega,AT h2 hx⟩,trivial,rfl,trivial⟩
 ·have h:ai t=false:=by simpa using h
  rw [h]
  exact ⟨trivial,rfl,trivial⟩
theorem Bv (x:Trm) (ho:bF x=true) :
  (szT x<=szT x/\(0:Int)<=(4096:Int)/\(4096:Int)<=(1000000:Int))/\if decide ((4096:Int) < (countT x (4096:Int)).1)=true then True/\(3:Int)=bw x/\True else if decide ((40:Int) < (countT x (4096:Int)).2)=true then True/\(91:Int)=bw x/\True else (szT x<=szT x/\bF x=true)/\if (!allT ai x)=true then True/\(80:Int)=bw x/\True else True/\(0:Int)=bw x/\True:=by
 refine ⟨⟨Nat.le_refl _,by omega,by omega⟩,aa (fun h=>?_) (fun h=>?_)⟩
 ·replace h:=Xo h
  unfold bw
  rw [if_pos h]
  exact ⟨trivial,rfl,trivial⟩
 have h:¬_:=fun e=>h (Xd e)
 have e1:bw x=if 40 < (countT x 4096).2 then 91 else if allT ai x=true then 0 else 80:=by unfold bw;rw [if_neg h]
 refine aa (fun k=>?_) (fun k=>?_)
 ·rw [if_pos (Xo k)] at e1
  rw [e1]
  exact ⟨trivial,rfl,trivial⟩
 rw [if_neg (fun e=>k (Xd e))] at e1
 refine ⟨⟨Nat.le_refl _,ho⟩,aa (fun j=>?_) (fun j=>?_)⟩
 ·have j:allT ai x=false:=by simpa using j
  rw [j,if_neg Bool.false_ne_true] at e1
  rw [e1]
  exact ⟨trivial,rfl,trivial⟩
 ·have j:allT ai x=true:=by simpa using j
  rw [if_pos j] at e1
  rw [e1]
  exact ⟨trivial,rfl,trivial⟩
theorem Bw (ns:List Str) (b:Bool) (hl:Wf (.lst .str) ns) :
  (∃(x:Nat),(x<=List.length ns/\List.all (List.take x ns) al=true/\(b=true→List.Nodup (List.take x ns)))/\(0:Int)=(↑x:Int)/\ns=ns/\b=b/\True)/\∀(x:Nat),x<=List.length ns/\List.all (List.take x ns) al=true/\(b=true→List.Nodup (List.take x ns))→if decide ((↑x:Int) < (↑(List.length ns):Int))=true then ((0:Int)<=(↑x:Int)/\(↑x:Int) < (↑(List.length ns):Int))/\if (!al (List.getD ns (Int.toNat (↑x:Int)) (dfl Ty.str)))=true then True/\false=dG ns b/\True else (∃(x_1:Nat),((↑x_1:Int)<=(↑x:Int)/\(b=true→¬List.getD ns (Int.toNat (↑x:Int)) (dfl Ty.str)∈List.take x_1 ns)/\(b=false→x_1=(0:Nat)))/\(0:Int)=(↑x_1:Int)/\(↑x:Int)=(↑x:Int)/\ns=ns/\b=b/\true=true/\false=false/\True)/\∀(x_1:Nat),(↑x_1:Int)<=(↑x:Int)/\(b=true→¬List.getD ns (Int.toNat (↑x:Int)) (dfl Ty.str)∈List.take x_1 ns)/\(b=false→x_1=(0:Nat))→if decide ((↑x_1:Int) < (↑x:Int))=true then if b=true then ((0:Int)<=(↑x_1:Int)/\(↑x_1:Int) < (↑(List.length ns):Int))/\((0:Int)<=(↑x:Int)/\(↑x:Int) < (↑(List.length ns):Int))/\if decide (List.getD ns (Int.toNat (↑x_1:Int)) (dfl Ty.str)=List.getD ns (Int.toNat (↑x:Int)) (dfl Ty.str))=true then True/\false=dG ns b/\True else inR IntKind.i64 ((↑x_1:Int)+(1:Int))/\∃(y:Nat),((↑y:Int)<=(↑x:Int)/\(b=true→¬List.getD ns (Int.toNat (↑x:Int)) (dfl Ty.str)∈List.take y ns)/\(b=false→y=(0:Nat)))/\Int.toNat (↑x:Int) - y < Int.toNat (↑x:Int) - x_1/\(↑x_1:Int)+(1:Int)=(↑y:Int)/\(↑x:Int)=(↑x:Int)/\ns=ns/\b=b/\true=true/\false=false/\True else inR IntKind.i64 ((↑x:Int)+(1:Int))/\∃(y:Nat),(y<=List.length ns/\List.all (List.take y ns) al=true/\(b=true→List.Nodup (List.take y ns)))/\List.length ns - y < List.length ns - x/\(↑x:Int)+(1:Int)=(↑y:Int)/\ns=ns/\b=b/\True else inR IntKind.i64 ((↑x:Int)+(1:Int))/\∃(y:Nat),(y<=List.length ns/\List.all (List.take y ns) al=true/\(b=true→List.Nodup (List.take y ns)))/\List.length ns - y < List.length ns - x/\(↑x:Int)+(1:Int)=(↑y:Int)/\ns=ns/\b=b/\True else True/\true=dG ns b/\True:=by
 have ln:=hl.len
 simp only [Int.toNat_natCast,eq_self,true_and,and_true]
 refine ⟨⟨0,⟨Nat.zero_le _,by simp,by simp⟩,rfl⟩,?_⟩
 rintro k ⟨h1,h2,h3⟩
 refine aa (fun h=>?_) (fun h=>?_)
 ·replace h:=Xo h
  have hk:k < ns.length:=by omega
  have hmem:=bX ns k (dfl .str) hk
  have ht:=gn ns k (dfl .str) hk
  refine ⟨by omega,aa (fun a=>?_) (fun a=>?_)⟩
  ·have a':ns.all al=false:=by
    rw [Bool.eq_false_iff]
    intro e
    have:=List.all_eq_true.1 e _ hmem
    rw [this] at a
    simp at a
   unfold dG
   rw [a']
   simp
  ·have a':al (ns.getD k (dfl .str))=true:=by simpa using a
   refine ⟨⟨0,⟨by omega,by simp,fun _=>rfl⟩,rfl⟩,?_⟩
   rintro j ⟨j1,j2,j3⟩
   have nextk:(b=true→j=k)→inR IntKind.i64 ((k:Int)+1)/\∃y:Nat,(y<=ns.length/\(ns.take y).all al=true/\(b=true→(ns.take y).Nodup))/\ns.length - y < ns.length - k/\(k:Int)+1=(y:Int):=by
    intro hjk
    refine ⟨b6 hk ln,k+1,⟨by omega,?_,fun hb=>?_⟩,by omega,by omega⟩
    ·rw [ht,List.all_append,h2];simpa using a'
    ·obtain rfl:=hjk hb
     rw [ht,List.nodup_append]
     refine ⟨h3 hb,by simp,fun x hx y hy=>?_⟩
     rw [List.mem_singleton] at hy
     subst hy
     intro e
     subst e
     exact j2 hb hx
   refine aa (fun b1=>?_) (fun b1=>?_)
   ·replace b1:=Xo b1
    have hj:j < k:=by omega
    have hjn:j < ns.length:=by omega
    have htj:=gn ns j (dfl .str) hjn
    refine aa (fun hb=>?_) (fun hb=>?_)
    ·refine ⟨by omega,by omega,aa (fun c=>?_) (fun c=>?_)⟩
     ·replace c:=Xo c
      have hnd:¬ns.Nodup:=by
       intro hn
       rw [List.nodup_iff_pairwise_ne] at hn
       have:=List.pairwise_iff_getElem.1 hn j k hjn hk hj
       rw [List.getD_eq_getElem?_getD,List.getD_eq_getElem?_getD,List.getElem?_eq_getElem hjn,List.getElem?_eq_getElem hk] at c
       exact this c
      unfold dG
      simp [hnd,hb]
     ·refine ⟨b6 hjn ln,j+1,⟨by omega,fun _=>?_,fun q=>by rw [hb] at q;cases q⟩,by omega,by omega⟩
      rw [htj,List.mem_append,List.mem_singleton,not_or]
      exact ⟨j2 hb,fun e=>c (Xd e.symm)⟩
    ·exact nextk (fun q=>absurd q hb)
   ·refine nextk (fun _=>?_)
    have:¬((j:Int) < (k:Int)):=fun e=>b1 (Xd e)
    omega
 ·replace h:¬((k:Int) < (ns.length:Int)):=fun e=>h (Xd e)
  have e:k=ns.length:=by omega
  subst e
  rw [List.take_length] at h2 h3
  unfold dG
  rw [h2]
  cases b
  ·simp
  ·simp [h3]
theorem yq (n:Nat) (s:Shape) (hs:Wf (.st .shape) s) (hn:sz s<=n+1) :
  (∃(x:Nat),(x<=List.length s.parts/\allS aL s=(aL s && allL aL (List.drop x s.parts)))/\(0:Int)=(↑x:Int)/\s=s/\s=s/\True)/\∀(x:Nat),x<=List.length s.parts/\allS aL s=(aL s && allL aL (List.drop x s.parts))→if decide ((↑x:Int) < (↑(List.length s.parts):Int))=true then ((0:Int)<=(↑x:Int)/\(↑x:Int) < (↑(List.length s.parts):Int))/\sz (List.getD s.parts (Int.toNat (↑x:Int)) (dfl (Ty.st SN.shape)))<=n/\if (!allS aL (List.getD s.parts (Int.toNat (↑x:Int)) (dfl (Ty.st SN.shape))))=true then True/\true=!allS aL s/\True else inR IntKind.i64 ((↑x:Int)+(1:Int))/\∃(y:Nat),(y<=List.length s.parts/\allS aL s=(aL s && allL aL (List.drop y s.parts)))/\List.length s.parts - y < List.length s.parts - x/\(↑x:Int)+(1:Int)=(↑y:Int)/\s=s/\s=s/\True else True/\decide (s.kind=(10:Int))=!allS aL s/\True:=by
 have ln:=hs.parts.len
 have hz:=nM s
 simp only [Int.toNat_natCast,eq_self,true_and,and_true]
 refine ⟨⟨0,⟨Nat.zero_le _,by rw [kK];rfl⟩,rfl⟩,?_⟩
 rintro k ⟨h1,h3⟩
 refine aa (fun h=>?_) (fun h=>?_)
 ·replace h:=Xo h
  have hk:k < s.parts.length:=by omega
  have hm:=kc (bX s.parts k (dfl (.st .shape)) hk)
  rw [aO s.parts k (dfl (.st .shape)) hk] at h3
  simp only [allL] at h3
  refine ⟨by omega,by omega,aa (fun e=>?_) (fun e=>?_)⟩
  ·have e:allS aL (s.parts.getD k (dfl (.st .shape)))=false:=by simpa using e
   rw [e] at h3;rw [h3];simp
  ·have e:allS aL (s.parts.getD k (dfl (.st .shape)))=true:=by simpa using e
   rw [e,Bool.true_and] at h3
   exact ⟨b6 hk ln,k+1,⟨by omega,h3⟩,by omega,by omega⟩
 ·replace h:¬((k:Int) < (s.parts.length:Int)):=fun e=>h (Xd e)
  have e:k=s.parts.length:=by omega
  subst e
  rw [h3,List.drop_length]
  simp [allL,aL]
theorem yr (l:List Shape) (hl:Wf (.lst (.st .shape)) l) :
  (∃(x:Nat),(x<=List.length l/\List.all l bj=List.all (List.drop x l) bj)/\(0:Int)=(↑x:Int)/\l=l/\True)/\∀(x:Nat),x<=List.length l/\List.all l bj=List.all (List.drop x l) bj→if decide ((↑x:Int) < (↑(List.length l):Int))=true then ((0:Int)<=(↑x:Int)/\(↑x:Int) < (↑(List.length l):Int))/\if (!decide (cb (List.getD l (Int.toNat (↑x:Int)) (dfl (Ty.st SN.shape)))=(0:Int)))=true then True/\false=List.all l bj/\True else ((0:Int)<=(↑x:Int)/\(↑x:Int) < (↑(List.length l):Int))/\sz (List.getD l (Int.toNat (↑x:Int)) (dfl (Ty.st SN.shape)))<=(400:Nat)/\if (!allS aL (List.getD l (Int.toNat (↑x:Int)) (dfl (Ty.st SN.shape))))=true then True/\false=List.all l bj/\True else inR IntKind.i64 ((↑x:Int)+(1:Int))/\∃(y:Nat),(y<=List.length l/\List.all l bj=List.all (List.drop y l) bj)/\List.length l - y < List.length l - x/\(↑x:Int)+(1:Int)=(↑y:Int)/\l=l/\True else True/\true=List.all l bj/\True:=by
 have ln:=hl.len
 simp only [Int.toNat_natCast,eq_self,true_and,and_true]
 refine ⟨⟨0,⟨Nat.zero_le _,rfl⟩,rfl⟩,?_⟩
 rintro k ⟨h1,h3⟩
 refine aa (fun h=>?_) (fun h=>?_)
 ·replace h:=Xo h
  have hk:k < l.length:=by omega
  rw [aO l k (dfl (.st .shape)) hk,List.all_cons] at h3
  have ht:bj (l.getD k (dfl (.st .shape)))=(decide (cb (l.getD k (dfl (.st .shape)))=0) && allS aL (l.getD k (dfl (.st .shape)))):=rfl
  refine ⟨by omega,aa (fun c=>?_) (fun c=>?_)⟩
  ·have c:¬cb (l.getD k (dfl (.st .shape)))=0:=by simpa using c
   rw [ht,Xf c,Bool.false_and,Bool.false_and] at h3
   rw [h3]
  ·have c:cb (l.getD k (dfl (.st .shape)))=0:=by simpa using c
   have hz:sz (l.getD k (dfl (.st .shape)))<=400:=by
    unfold cb at c
    by_cases q:400 < sz (l.getD k (dfl (.st .shape)))
    ·rw [if_pos q] at c;exact absurd c (by decide)
    ·omega
   rw [ht,Xd c,Bool.true_and] at h3
   refine ⟨by omega,hz,aa (fun e=>?_) (fun e=>?_)⟩
   ·have e:allS aL (l.getD k (dfl (.st .shape)))=false:=by simpa using e
    rw [e,Bool.false_and] at h3
    rw [h3]
   ·have e:allS aL (l.getD k (dfl (.st .shape)))=true:=by simpa using e
    rw [e,Bool.true_and] at h3
    exact ⟨b6 hk ln,k+1,⟨by omega,h3⟩,by omega,by omega⟩
 ·replace h:¬((k:Int) < (l.length:Int)):=fun e=>h (Xd e)
  have e:k=l.length:=by omega
  subst e
  rw [h3,List.drop_length];rfl
theorem Bx (t:Trm) (n v s p:Int)  :
  if decide ((↑(List.length t.names):Int)=n)=true then if decide ((↑(List.length t.vars):Int)=v)=true then if decide ((↑(List.length t.shapes):Int)=s)=true then True/\decide ((↑(List.length t.parts):Int)=p)=aK t n v s p/\True else True/\false=aK t n v s p/\True else True/\false=aK t n v s p/\True else True/\false=aK t n v s p/\True:=by
 unfold aK
 repeat' (refine aa (fun _=>?_) (fun _=>?_))
 all_goals simp_all
theorem yt (s:Str) (hs:Wf .str s) (ho:s.length<=2000000) :
  (∃(x:Nat × Nat × List Int),(x.2.1<=List.length s/\List.length s - x.2.1 < x.1/\List.length x.2.2<=x.2.1/\jn s x.1 x.2.1 x.2.2=ed s)/\(0:Int)=(↑x.2.1:Int)/\x.2.2=[]/\s=s/\List.length x.2.2=(0:Nat)/\(0:Int)=(0:Int)/\(0:Int)=(0:Int)/\True)/\∀(x:Nat × Nat × List Int),x.2.1<=List.length s/\List.length s - x.2.1 < x.1/\List.length x.2.2<=x.2.1/\jn s x.1 x.2.1 x.2.2=ed s→if decide ((↑x.2.1:Int) < (↑(List.length s):Int))=true then ((0:Int)<=(↑x.2.1:Int)/\(↑x.2.1:Int)<=(↑(List.length s):Int)/\(↑(List.length s):Int)<=(↑(List.length s):Int))/\if decide ((cr (List.drop (Int.toNat (↑x.2.1:Int)) (List.take (Int.toNat (↑(List.length s):Int)) s))).2=(0:Int))=true then True/\(ed s).1=[]/\(30:Int)=(ed s).2.err/\(↑x.2.1:Int)=(ed s).2.pos/\True else (List.length x.2.2=List.length x.2.2/\(List.length x.2.2+List.length [(cr (List.drop (Int.toNat (↑x.2.1:Int)) (List.take (Int.toNat (↑(List.length s):Int)) s))).1]) *(8:Nat)<=(140737488355328:Nat))/\inR IntKind.i64 ((↑x.2.1:Int)+(cr (List.drop (Int.toNat (↑x.2.1:Int)) (List.take (Int.toNat (↑(List.length s):Int)) s))).2)/\∃(y:Nat × Nat × List Int),(y.2.1<=List.length s/\List.length s - y.2.1 < y.1/\List.length y.2.2<=y.2.1/\jn s y.1 y.2.1 y.2.2=ed s)/\List.length s - y.2.1 < List.length s - x.2.1/\(↑x.2.1:Int)+(cr (List.drop (Int.toNat (↑x.2.1:Int)) (List.take (Int.toNat (↑(List.length s):Int)) s))).2=(↑y.2.1:Int)/\x.2.2++[(cr (List.drop (Int.toNat (↑x.2.1:Int)) (List.take (Int.toNat (↑(List.length s):Int)) s))).1]=y.2.2/\s=s/\List.length (x.2.2++[(cr (List.drop (Int.toNat (↑x.2.1:Int)) (List.take (Int.toNat (↑(List.length s):Int)) s))).1])=List.length y.2.2/\(0:Int)=(0:Int)/\(0:Int)=(0:Int)/\True else True/\x.2.2=(ed s).1/\(0:Int)=(ed s).2.err/\(0:Int)=(ed s).2.pos/\True:=by
 have ln:=hs.str
 simp only [Int.toNat_natCast,eq_self,true_and,and_true,List.take_length,vk]
 refine ⟨⟨(s.length+1,0,[]),⟨Nat.zero_le _,by simp,by simp,rfl⟩,by simp,rfl,rfl⟩,?_⟩
 rintro ⟨f,i,acc⟩ ⟨h1,h2,h3,h4⟩
 simp only at h1 h2 h3 h4 ⊢
 obtain ⟨g,rfl⟩:∃g,f=g+1:=⟨f - 1,by omega⟩
 rw [jn] at h4
 refine aa (fun h=>?_) (fun h=>?_)
 ·replace h:=Xo h
  have hk:i < s.length:=by omega
  rw [if_pos hk] at h4
  refine ⟨by omega,aa (fun e=>?_) (fun e=>?_)⟩
  ·have e:gI (s.drop i)=0:=by have:=Xo e;omega
   rw [if_pos e] at h4
   rw [←h4]
   exact ⟨rfl,rfl,rfl⟩
  ·have e:¬gI (s.drop i)=0:=fun q=>e (Xd (by omega))
   rw [if_neg e] at h4
   have hu:=zJ (s:=s) (n:=i) h1
   refine ⟨by simp only [List.length_singleton];omega,bc (by omega) (by omega),(g,i+gI (s.drop i),acc++[(cr (s.drop i)).1]),⟨hu,by simp only;omega,by simp only [List.length_append,List.length_singleton];omega,h4⟩,by simp only;omega,by simp only;omega,rfl,rfl⟩
 ·have hk:¬i < s.length:=fun e=>h (Xd (by omega))
  rw [if_neg hk] at h4
  rw [←h4]
  exact ⟨rfl,rfl,rfl⟩
theorem E2 (s:Str) (hs:Wf .str s) (ho:s.length<=2000000) :
  (∃(x:Nat),(x<=List.length s/\List.all s cn=List.all (List.drop x s) cn)/\(0:Int)=(↑x:Int)/\s=s/\True)/\∀(x:Nat),x<=List.length s/\List.all s cn=List.all (List.drop x s) cn→if decide ((↑x:Int) < (↑(List.length s):Int))=true then ((0:Int)<=(↑x:Int)/\(↑x:Int) < (↑(List.length s):Int))/\if decide ((↑(UInt8.toNat (List.getD s (Int.toNat (↑x:Int)) (0:UInt8))):Int) < (32:Int))=true then ((0:Int)<=(↑x:Int)/\(↑x:Int) < (↑(List.length s):Int))/\if (!decide ((↑(UInt8.toNat (List.getD s (Int.toNat (↑x:Int)) (0:UInt8))):Int)=(9:Int)))=true then ((0:Int)<=(↑x:Int)/\(↑x:Int) < (↑(List.length s):Int))/\if (!decide ((↑(UInt8.toNat (List.getD s (Int.toNat (↑x:Int)) (0:UInt8))):Int)=(10:Int)))=true then True/\false=fI s/\True else inR IntKind.i64 ((↑x:Int)+(1:Int))/\∃(y:Nat),(y<=List.length s/\List.all s cn=List.all (List.drop y s) cn)/\List.length s - y < List.length s - x/\(↑x:Int)+(1:Int)=(↑y:Int)/\s=s/\True else inR IntKind.i64 ((↑x:Int)+(1:Int))/\∃(y:Nat),(y<=List.length s/\List.all s cn=List.all (List.drop y s) cn)/\List.length s - y < List.length s - x/\(↑x:Int)+(1:Int)=(↑y:Int)/\s=s/\True else inR IntKind.i64 ((↑x:Int)+(1:Int))/\∃(y:Nat),(y<=List.length s/\List.all s cn=List.all (List.drop y s) cn)/\List.length s - y < List.length s - x/\(↑x:Int)+(1:Int)=(↑y:Int)/\s=s/\True else List.length s<=(2000000:Nat)/\True/\decide ((ed s).2.err=(0:Int))=fI s/\True:=by
 have ln:=hs.str
 simp only [Int.toNat_natCast,eq_self,true_and,and_true]
 refine ⟨⟨0,⟨Nat.zero_le _,rfl⟩,rfl⟩,?_⟩
 rintro k ⟨h1,h3⟩
 refine aa (fun h=>?_) (fun h=>?_)
 ·replace h:=Xo h
  have hk:k < s.length:=by omega
  rw [aO s k 0 hk,List.all_cons] at h3
  have hq:=rT (s.getD k 0)
  have eb:(UInt8.toNat (s.getD k 0):Int)=bI (s.getD k 0):=rfl
  clear eb
  have nx:cn (s.getD k 0)=true→inR IntKind.i64 ((k:Int)+1)/\∃y:Nat,(y<=s.length/\s.all cn=(s.drop y).all cn)/\s.length - y < s.length - k/\(k:Int)+1=(y:Int):=by
   intro q
   rw [q,Bool.true_and] at h3
   exact ⟨b6 hk ln,k+1,⟨by omega,h3⟩,by omega,by omega⟩
  have nq:¬(bI (s.getD k 0) < 32/\bI (s.getD k 0)≠10/\bI (s.getD k 0)≠9)→cn (s.getD k 0)=true:=fun e=>by
   cases q:cn (s.getD k 0)
   ·exact absurd (hq.1 q) e
   ·rfl
  refine ⟨by omega,aa (fun a=>?_) (fun a=>?_)⟩
  ·replace a:=Xo a
   refine ⟨by omega,aa (fun c=>?_) (fun c=>?_)⟩
   ·have c:¬(UInt8.toNat (s.getD k 0):Int)=9:=by simpa using c
    refine ⟨by omega,aa (fun d=>?_) (fun d=>?_)⟩
    ·have d:¬(UInt8.toNat (s.getD k 0):Int)=10:=by simpa using d
     rw [hq.2 ⟨a,d,c⟩,Bool.false_and] at h3
     unfold fI
     rw [h3]
     rfl
    ·have d:(UInt8.toNat (s.getD k 0):Int)=10:=by simpa using d
     exact nx (nq (fun e=>e.2.1 d))
   ·have c:(UInt8.toNat (s.getD k 0):Int)=9:=by simpa using c
    exact nx (nq (fun e=>e.2.2 c))
  ·exact nx (nq (fun e=>a (Xd e.1)))
 ·have e:k=s.length:=by
   have:¬((k:Int) < (s.length:Int)):=fun e=>h (Xd e)
   omega
  subst e
  rw [List.drop_length] at h3
  exact ⟨ho,xK h3⟩
theorem E3 (t:Trm) (ht:Wf (.st .term) t) (ho:t.name.length<=2000000/\t.names.length<=2000000) :
  if decide (t.pos < (0:Int))=true then True/\false=ai t/\True else if (!dG t.names true)=true then True/\false=ai t/\True else if (!dG t.vars false)=true then True/\false=ai t/\True else if (!List.all t.shapes bj)=true then True/\false=ai t/\True else if (!decide (t.kind=(1:Int)))=true then if (!decide (t.n=(0:Int)))=true then True/\false=ai t/\True else if (!decide (t.kind=(5:Int)))=true then if (!decide (t.pkg=[]))=true then True/\false=ai t/\True else if decide (t.kind=(1:Int))=true then if decide (t.name=[])=true then if decide ((0:Int)<=t.n)=true then if decide (t.n<=(999999999999999:Int))=true then True/\aK t (0:Int) (0:Int) (0:Int) (0:Int)=ai t/\True else True/\false=ai t/\True else True/\false=ai t/\True else True/\false=ai t/\True else if decide (t.kind=(2:Int))=true then List.length t.name<=(2000000:Nat)/\if fI t.name=true then True/\aK t (0:Int) (0:Int) (0:Int) (0:Int)=ai t/\True else True/\false=ai t/\True else if decide (t.kind=(3:Int))=true then if decide (t.name=[])=true then True/\aK t (0:Int) (0:Int) (0:Int) (0:Int)=ai t/\True else True/\false=ai t/\True else if decide (t.kind=(4:Int))=true then if decide (t.name=[])=true then True/\aK t (0:Int) (0:Int) (0:Int) (0:Int)=ai t/\True else True/\false=ai t/\True else if decide (t.kind=(5:Int))=true then if al t.name=true then if decide (t.pkg=[])=true then True/\aK t (0:Int) (0:Int) (0:Int) (0:Int)=ai t/\True else if al t.pkg=true then True/\aK t (0:Int) (0:Int) (0:Int) (0:Int)=ai t/\True else True/\false=ai t/\True else True/\false=ai t/\True else if decide (t.kind=(6:Int))=true then if decide (t.name=[])=true then if decide ((↑(List.length t.names):Int)<=(4096:Int))=true then True/\aK t (↑(List.length t.names):Int) (0:Int) (↑(List.length t.names):Int) (1:Int)=ai t/\True else True/\false=ai t/\True else True/\false=ai t/\True else if decide (t.kind=(7:Int))=true then if decide (t.name=[])=true then if decide ((1:Int)<=(↑(List.length t.parts):Int))=true then True/\aK t (0:Int) (0:Int) (0:Int) (↑(List.length t.parts):Int)=ai t/\True else True/\false=ai t/\True else True/\false=ai t/\True else if decide (t.kind=(8:Int))=true then if decide (t.name=[])=true then True/\aK t (↑(List.length t.names):Int) (0:Int) (0:Int) (↑(List.length t.names):Int)=ai t/\True else True/\false=ai t/\True else if decide (t.kind=(9:Int))=true then if al t.name=true then True/\aK t (0:Int) (0:Int) (0:Int) (1:Int)=ai t/\True else True/\false=ai t/\True else if decide (t.kind=(10:Int))=true then if al t.name=true then True/\aK t (0:Int) (0:Int) (0:Int) (1:Int)=ai t/\True else True/\false=ai t/\True else if decide (t.kind=(11:Int))=true then if decide (t.name=[])=true then True/\aK t (0:Int) (0:Int) (1:Int) (↑(List.length t.parts):Int)=ai t/\True else True/\false=ai t/\True else if decide (t.kind=(12:Int))=true then if decide (t.name=[])=true then True/\aK t (0:Int) (0:Int) (1:Int) (3:Int)=ai t/\True else True/\false=ai t/\True else if decide (t.kind=(13:Int))=true then if decide (t.name=[])=true then inR IntKind.i64 ((↑(List.length t.names):Int)+(1:Int))/\inR IntKind.i64 ((↑(List.length t.names):Int)+(1:Int))/\True/\aK t (↑(List.length t.names):Int) (↑(List.length t.names):Int) ((↑(List.length t.names):Int)+(1:Int)) ((↑(List.length t.names):Int)+(1:Int))=ai t/\True else True/\false=ai t/\True else if decide (t.kind=(14:Int))=true
  then if al t.name=true then True/\aK t (0:Int) (0:Int) (0:Int) (2:Int)=ai t/\True else True/\false=ai t/\True else if decide (t.kind=(15:Int))=true then if decide (t.name=[])=true then True/\aK t (0:Int) (0:Int) (1:Int) (1:Int)=ai t/\True else True/\false=ai t/\True else if decide (t.kind=(16:Int))=true then if aD t.name=true then True/\aK t (0:Int) (0:Int) (0:Int) (1:Int)=ai t/\True else True/\false=ai t/\True else if decide (t.kind=(17:Int))=true then if aD t.name=true then True/\aK t (0:Int) (0:Int) (0:Int) (1:Int)=ai t/\True else True/\false=ai t/\True else True/\false=ai t/\True else if decide (t.kind=(1:Int))=true then if decide (t.name=[])=true then if decide ((0:Int)<=t.n)=true then if decide (t.n<=(999999999999999:Int))=true then True/\aK t (0:Int) (0:Int) (0:Int) (0:Int)=ai t/\True else True/\false=ai t/\True else True/\false=ai t/\True else True/\false=ai t/\True else if decide (t.kind=(2:Int))=true then List.length t.name<=(2000000:Nat)/\if fI t.name=true then True/\aK t (0:Int) (0:Int) (0:Int) (0:Int)=ai t/\True else True/\false=ai t/\True else if decide (t.kind=(3:Int))=true then if decide (t.name=[])=true then True/\aK t (0:Int) (0:Int) (0:Int) (0:Int)=ai t/\True else True/\false=ai t/\True else if decide (t.kind=(4:Int))=true then if decide (t.name=[])=true then True/\aK t (0:Int) (0:Int) (0:Int) (0:Int)=ai t/\True else True/\false=ai t/\True else if decide (t.kind=(5:Int))=true then if al t.name=true then if decide (t.pkg=[])=true then True/\aK t (0:Int) (0:Int) (0:Int) (0:Int)=ai t/\True else if al t.pkg=true then True/\aK t (0:Int) (0:Int) (0:Int) (0:Int)=ai t/\True else True/\false=ai t/\True else True/\false=ai t/\True else if decide (t.kind=(6:Int))=true then if decide (t.name=[])=true then if decide ((↑(List.length t.names):Int)<=(4096:Int))=true then True/\aK t (↑(List.length t.names):Int) (0:Int) (↑(List.length t.names):Int) (1:Int)=ai t/\True else True/\false=ai t/\True else True/\false=ai t/\True else if decide (t.kind=(7:Int))=true then if decide (t.name=[])=true then if decide ((1:Int)<=(↑(List.length t.parts):Int))=true then True/\aK t (0:Int) (0:Int) (0:Int) (↑(List.length t.parts):Int)=ai t/\True else True/\false=ai t/\True else True/\false=ai t/\True else if decide (t.kind=(8:Int))=true then if decide (t.name=[])=true then True/\aK t (↑(List.length t.names):Int) (0:Int) (0:Int) (↑(List.length t.names):Int)=ai t/\True else True/\false=ai t/\True else if decide (t.kind=(9:Int))=true then if al t.name=true then True/\aK t (0:Int) (0:Int) (0:Int) (1:Int)=ai t/\True else True/\false=ai t/\True else if decide (t.kind=(10:Int))=true then if al t.name=true then True/\aK t (0:Int) (0:Int) (0:Int) (1:Int)=ai t/\True else True/\false=ai t/\True else if decide (t.kind=(11:Int))=true then if decide (t.name=[])=true then True/\aK t (0:Int) (0:Int) (1:Int) (↑(List.length t.parts):Int)=ai t/\True else True/\false=ai t/\True else if decide (t.kind=(12:Int))=true then if decide (t.name=[])=true then True/\aK t (0:Int) (0:Int) (1:Int) (3:Int)=ai t/\True else True/\false=ai t/\True else if decide (t.kind=(13:Int))=true then if decide (t.name=[])=true then inR IntKind.i64 ((↑(List.length t.names):Int)+(1:Int))/\inR IntKind.i64 ((↑(List.length t.names):Int)+(1:Int))/\True
  /\aK t (↑(List.length t.names):Int) (↑(List.length t.names):Int) ((↑(List.length t.names):Int)+(1:Int)) ((↑(List.length t.names):Int)+(1:Int))=ai t/\True else True/\false=ai t/\True else if decide (t.kind=(14:Int))=true then if al t.name=true then True/\aK t (0:Int) (0:Int) (0:Int) (2:Int)=ai t/\True else True/\false=ai t/\True else if decide (t.kind=(15:Int))=true then if decide (t.name=[])=true then True/\aK t (0:Int) (0:Int) (1:Int) (1:Int)=ai t/\True else True/\false=ai t/\True else if decide (t.kind=(16:Int))=true then if aD t.name=true then True/\aK t (0:Int) (0:Int) (0:Int) (1:Int)=ai t/\True else True/\false=ai t/\True else if decide (t.kind=(17:Int))=true then if aD t.name=true then True/\aK t (0:Int) (0:Int) (0:Int) (1:Int)=ai t/\True else True/\false=ai t/\True else True/\false=ai t/\True else if (!decide (t.kind=(5:Int)))=true then if (!decide (t.pkg=[]))=true then True/\false=ai t/\True else if decide (t.kind=(1:Int))=true then if decide (t.name=[])=true then if decide ((0:Int)<=t.n)=true then if decide (t.n<=(999999999999999:Int))=true then True/\aK t (0:Int) (0:Int) (0:Int) (0:Int)=ai t/\True else True/\false=ai t/\True else True/\false=ai t/\True else True/\false=ai t/\True else if decide (t.kind=(2:Int))=true then List.length t.name<=(2000000:Nat)/\if fI t.name=true then True/\aK t (0:Int) (0:Int) (0:Int) (0:Int)=ai t/\True else True/\false=ai t/\True else if decide (t.kind=(3:Int))=true then if decide (t.name=[])=true then True/\aK t (0:Int) (0:Int) (0:Int) (0:Int)=ai t/\True else True/\false=ai t/\True else if decide (t.kind=(4:Int))=true then if decide (t.name=[])=true then True/\aK t (0:Int) (0:Int) (0:Int) (0:Int)=ai t/\True else True/\false=ai t/\True else if decide (t.kind=(5:Int))=true then if al t.name=true then if decide (t.pkg=[])=true then True/\aK t (0:Int) (0:Int) (0:Int) (0:Int)=ai t/\True else if al t.pkg=true then True/\aK t (0:Int) (0:Int) (0:Int) (0:Int)=ai t/\True else True/\false=ai t/\True else True/\false=ai t/\True else if decide (t.kind=(6:Int))=true then if decide (t.name=[])=true then if decide ((↑(List.length t.names):Int)<=(4096:Int))=true then True/\aK t (↑(List.length t.names):Int) (0:Int) (↑(List.length t.names):Int) (1:Int)=ai t/\True else True/\false=ai t/\True else True/\false=ai t/\True else if decide (t.kind=(7:Int))=true then if decide (t.name=[])=true then if decide ((1:Int)<=(↑(List.length t.parts):Int))=true then True/\aK t (0:Int) (0:Int) (0:Int) (↑(List.length t.parts):Int)=ai t/\True else True/\false=ai t/\True else True/\false=ai t/\True else if decide (t.kind=(8:Int))=true then if decide (t.name=[])=true then True/\aK t (↑(List.length t.names):Int) (0:Int) (0:Int) (↑(List.length t.names):Int)=ai t/\True else True/\false=ai t/\True else if decide (t.kind=(9:Int))=true then if al t.name=true then True/\aK t (0:Int) (0:Int) (0:Int) (1:Int)=ai t/\True else True/\false=ai t/\True else if decide (t.kind=(10:Int))=true then if al t.name=true then True/\aK t (0:Int) (0:Int) (0:Int) (1:Int)=ai t/\True else True/\false=ai t/\True else if decide (t.kind=(11:Int))=true then if decide (t.name=[])=true then True/\aK t (0:Int) (0:Int) (1:Int) (↑(List.length t.parts):Int)=ai t/\True else True/\false=ai t/\True else if decide (t.kind=(12:Int))=true then if decide (t.name=[])=true then True
  /\aK t (0:Int) (0:Int) (1:Int) (3:Int)=ai t/\True else True/\false=ai t/\True else if decide (t.kind=(13:Int))=true then if decide (t.name=[])=true then inR IntKind.i64 ((↑(List.length t.names):Int)+(1:Int))/\inR IntKind.i64 ((↑(List.length t.names):Int)+(1:Int))/\True/\aK t (↑(List.length t.names):Int) (↑(List.length t.names):Int) ((↑(List.length t.names):Int)+(1:Int)) ((↑(List.length t.names):Int)+(1:Int))=ai t/\True else True/\false=ai t/\True else if decide (t.kind=(14:Int))=true then if al t.name=true then True/\aK t (0:Int) (0:Int) (0:Int) (2:Int)=ai t/\True else True/\false=ai t/\True else if decide (t.kind=(15:Int))=true then if decide (t.name=[])=true then True/\aK t (0:Int) (0:Int) (1:Int) (1:Int)=ai t/\True else True/\false=ai t/\True else if decide (t.kind=(16:Int))=true then if aD t.name=true then True/\aK t (0:Int) (0:Int) (0:Int) (1:Int)=ai t/\True else True/\false=ai t/\True else if decide (t.kind=(17:Int))=true then if aD t.name=true then True/\aK t (0:Int) (0:Int) (0:Int) (1:Int)=ai t/\True else True/\false=ai t/\True else True/\false=ai t/\True else if decide (t.kind=(1:Int))=true then if decide (t.name=[])=true then if decide ((0:Int)<=t.n)=true then if decide (t.n<=(999999999999999:Int))=true then True/\aK t (0:Int) (0:Int) (0:Int) (0:Int)=ai t/\True else True/\false=ai t/\True else True/\false=ai t/\True else True/\false=ai t/\True else if decide (t.kind=(2:Int))=true then List.length t.name<=(2000000:Nat)/\if fI t.name=true then True/\aK t (0:Int) (0:Int) (0:Int) (0:Int)=ai t/\True else True/\false=ai t/\True else if decide (t.kind=(3:Int))=true then if decide (t.name=[])=true then True/\aK t (0:Int) (0:Int) (0:Int) (0:Int)=ai t/\True else True/\false=ai t/\True else if decide (t.kind=(4:Int))=true then if decide (t.name=[])=true then True/\aK t (0:Int) (0:Int) (0:Int) (0:Int)=ai t/\True else True/\false=ai t/\True else if decide (t.kind=(5:Int))=true then if al t.name=true then if decide (t.pkg=[])=true then True/\aK t (0:Int) (0:Int) (0:Int) (0:Int)=ai t/\True else if al t.pkg=true then True/\aK t (0:Int) (0:Int) (0:Int) (0:Int)=ai t/\True else True/\false=ai t/\True else True/\false=ai t/\True else if decide (t.kind=(6:Int))=true then if decide (t.name=[])=true then if decide ((↑(List.length t.names):Int)<=(4096:Int))=true then True/\aK t (↑(List.length t.names):Int) (0:Int) (↑(List.length t.names):Int) (1:Int)=ai t/\True else True/\false=ai t/\True else True/\false=ai t/\True else if decide (t.kind=(7:Int))=true then if decide (t.name=[])=true then if decide ((1:Int)<=(↑(List.length t.parts):Int))=true then True/\aK t (0:Int) (0:Int) (0:Int) (↑(List.length t.parts):Int)=ai t/\True else True/\false=ai t/\True else True/\false=ai t/\True else if decide (t.kind=(8:Int))=true then if decide (t.name=[])=true then True/\aK t (↑(List.length t.names):Int) (0:Int) (0:Int) (↑(List.length t.names):Int)=ai t/\True else True/\false=ai t/\True else if decide (t.kind=(9:Int))=true then if al t.name=true then True/\aK t (0:Int) (0:Int) (0:Int) (1:Int)=ai t/\True else True/\false=ai t/\True else if decide (t.kind=(10:Int))=true then if al t.name=true then True/\aK t (0:Int) (0:Int) (0:Int) (1:Int)=ai t/\True else True/\false=ai t/\True else if decide (t.kind=(11:Int))=true then if decide (t.name=[])=true then True
  /\aK t (0:Int) (0:Int) (1:Int) (↑(List.length t.parts):Int)=ai t/\True else True/\false=ai t/\True else if decide (t.kind=(12:Int))=true then if decide (t.name=[])=true then True/\aK t (0:Int) (0:Int) (1:Int) (3:Int)=ai t/\True else True/\false=ai t/\True else if decide (t.kind=(13:Int))=true then if decide (t.name=[])=true then inR IntKind.i64 ((↑(List.length t.names):Int)+(1:Int))/\inR IntKind.i64 ((↑(List.length t.names):Int)+(1:Int))/\True/\aK t (↑(List.length t.names):Int) (↑(List.length t.names):Int) ((↑(List.length t.names):Int)+(1:Int)) ((↑(List.length t.names):Int)+(1:Int))=ai t/\True else True/\false=ai t/\True else if decide (t.kind=(14:Int))=true then if al t.name=true then True/\aK t (0:Int) (0:Int) (0:Int) (2:Int)=ai t/\True else True/\false=ai t/\True else if decide (t.kind=(15:Int))=true then if decide (t.name=[])=true then True/\aK t (0:Int) (0:Int) (1:Int) (1:Int)=ai t/\True else True/\false=ai t/\True else if decide (t.kind=(16:Int))=true then if aD t.name=true then True/\aK t (0:Int) (0:Int) (0:Int) (1:Int)=ai t/\True else True/\false=ai t/\True else if decide (t.kind=(17:Int))=true then if aD t.name=true then True/\aK t (0:Int) (0:Int) (0:Int) (1:Int)=ai t/\True else True/\false=ai t/\True else True/\false=ai t/\True:=by
 have dnQ:∀n:Nat,decide ((1:Int)<=(n:Int))=decide (0 < n):=fun n=>decide_eq_decide.2 (by omega)
 have b1:gY t=false→ai t=false:=fun e=>by unfold ai;rw [e,Bool.and_false]
 have b2:eD t=false→ai t=false:=fun e=>by unfold ai;rw [e,Bool.false_and]
 simp only [eq_self,true_and,and_true]
 refine aa (fun h=>?_) (fun h1=>?_)
 ·symm;apply b2;unfold eD;have:=Xo h;rw [Xf (by omega)];rfl
 replace h1:¬t.pos < 0:=fun e=>h1 (Xd e)
 refine aa (fun h=>?_) (fun h2=>?_)
 ·exact (xL (by simpa using h)).symm
 have h2:dG t.names true=true:=by simpa using h2
 refine aa (fun h=>?_) (fun h3=>?_)
 ·exact (AX (by simpa using h)).symm
 have h3:dG t.vars false=true:=by simpa using h3
 have h3:t.vars.all al=true:=by unfold dG at h3;rw [Bool.and_eq_true] at h3;exact h3.1
 have h2:dR t.names=true:=by unfold dG at h2;unfold dR;simpa using h2
 refine aa (fun h=>?_) (fun h4=>?_)
 ·have h:t.shapes.all bj=false:=by simpa using h
  symm;apply b2;unfold eD;rw [h,Bool.and_false]
 have h4:t.shapes.all bj=true:=by simpa using h4
 have hd:eD t=((decide (t.n=0) || decide (t.kind=1)) && (decide (t.pkg=[]) || decide (t.kind=5))):=by
  unfold eD;rw [Xd (by omega),h4,Bool.true_and,Bool.and_true]
 have hb:eD t=true→ai t=gY t:=fun e=>by unfold ai;rw [e,Bool.true_and]
 clear h1 h4
 have eb:((decide (t.n=0) || decide (t.kind=1)) && (decide (t.pkg=[]) || decide (t.kind=5)))=true→ai t=gY t:=fun e=>hb (hd.trans e)
 have e5:((decide (t.n=0) || decide (t.kind=1)) && (decide (t.pkg=[]) || decide (t.kind=5)))=false→ai t=false:=fun e=>b2 (hd.trans e)
 clear hd hb b1 b2
 refine aa (fun k1=>?_) (fun k1=>?_)
 ·have k1:¬t.kind=1:=by simpa using k1
  refine aa (fun k2=>?_) (fun k2=>?_)
  ·have k2:¬t.n=0:=by simpa using k2
   symm;apply e5;rw [Xf k1,Xf k2];rfl
  have k2:t.n=0:=by simpa using k2
  refine aa (fun k3=>?_) (fun k3=>?_)
  ·have k3:¬t.kind=5:=by simpa using k3
   refine aa (fun k4=>?_) (fun k4=>?_)
   ·have k4:¬t.pkg=[]:=by simpa using k4
    symm;apply e5;rw [Xf k3,Xf k4,Bool.or_false,Bool.and_false]
   ·have k4:t.pkg=[]:=by simpa using k4
    rw [eb (by rw [Xd k2,Xd k4];rfl)]
    clear eb e5
    unfold gY aK dN
    rw [h2,h3]
    simp only [dnZ,dn1,dn2,dn3,dnN,dnS,dnL,dnP,dnQ]
    clear h2 h3
    repeat' (first | refine aa (fun _=>?_) (fun _=>?_) | refine ⟨bc (by omega) (by have:=ho.2;omega),?_⟩ | refine And.intro ho.1 ?_ | fail)
    all_goals (first | (simp_all;done) | (simp_all;intros;omega))
  ·have k3:t.kind=5:=by simpa using k3
   rw [eb (by rw [Xd k2,Xd k3,Bool.or_true];rfl)]
   clear eb e5
   unfold gY aK dN
   rw [h2,h3]
   simp only [dnZ,dn1,dn2,dn3,dnN,dnS,dnL,dnP,dnQ]
   clear h2 h3
   repeat' (first | refine aa (fun _=>?_) (fun _=>?_) | refine ⟨bc (by omega) (by have:=ho.2;omega),?_⟩ | refine And.intro ho.1 ?_ | fail)
   all_goals (first | (simp_all;done) | (simp_all;intros;omega))
 ·have k1:t.kind=1:=by simpa using k1
  refine aa (fun k3=>?_) (fun k3=>?_)
  ·have k3:¬t.kind=5:=by simpa using k3
   refine aa (fun k4=>?_) (fun k4=>?_)
   ·have k4:¬t.pkg=[]:=by simpa using k4
    symm;apply e5;rw [Xf k3,Xf k4,Bool.or_false,Bool.and_false]
   ·have k4:t.pkg=[]:=by simpa using k4
    rw [eb (by rw [Xd k1,Xd k4,Bool.or_true];rfl)]
    clear eb e5
    unfold gY aK dN
    rw [h2,h3]
    simp only [dnZ,dn1,dn2,dn3,dnN,dnS,dnL,dnP,dnQ]
    clear h2 h3
    repeat' (first | refine aa (fun _=>?_) (fun _=>?_) | refine ⟨bc (by omega) (by have:=ho.2;omega),?_⟩ | refine And.intro ho.1 ?_ | fail)
    all_goals (first | (simp_all;done) | (simp_all;intros;omega))
  ·have k3:t.kind=5:=by simpa using k3
   rw [k1] at k3
   exact absurd k3 (by decide)
theorem By (n:Nat) (t:Trm) (ht:Wf (.st .term) t) (hn:szT t<=n+1) (ho:bO t=true) :
  (List.length t.name<=(2000000:Nat)/\List.length t.names<=(2000000:Nat))/\if (!ai t)=true then True/\false=allT ai t/\True else (∃(x:Nat),(x<=List.length t.parts/\allT ai t=allTL ai (List.drop x t.parts))/\(0:Int)=(↑x:Int)/\t=t/\false=false/\t=t/\True)/\∀(x:Nat),x<=List.length t.parts/\allT ai t=allTL ai (List.drop x t.parts)→if decide ((↑x:Int) < (↑(List.length t.parts):Int))=true then ((0:Int)<=(↑x:Int)/\(↑x:Int) < (↑(List.length t.parts):Int))/\(szT (List.getD t.parts (Int.toNat (↑x:Int)) (dfl (Ty.st SN.term)))<=n/\bO (List.getD t.parts (Int.toNat (↑x:Int)) (dfl (Ty.st SN.term)))=true)/\if (!allT ai (List.getD t.parts (Int.toNat (↑x:Int)) (dfl (Ty.st SN.term))))=true then True/\false=allT ai t/\True else inR IntKind.i64 ((↑x:Int)+(1:Int))/\∃(y:Nat),(y<=List.length t.parts/\allT ai t=allTL ai (List.drop y t.parts))/\List.length t.parts - y < List.length t.parts - x/\(↑x:Int)+(1:Int)=(↑y:Int)/\t=t/\false=false/\t=t/\True else True/\true=allT ai t/\True:=by
 have ln:=ht.term_parts.len
 have hz:=gG t
 simp only [Int.toNat_natCast,eq_self,true_and,and_true]
 refine ⟨qd ho,?_⟩
 refine aa (fun h=>?_) (fun h=>?_)
 ·have h:ai t=false:=by simpa using h
  rw [allT_eq,h];rfl
 have h:ai t=true:=by simpa using h
 refine ⟨⟨0,⟨Nat.zero_le _,by rw [allT_eq,h];rfl⟩,rfl⟩,?_⟩
 rintro k ⟨h1,h3⟩
 refine aa (fun h=>?_) (fun h=>?_)
 ·replace h:=Xo h
  have hk:k < t.parts.length:=by omega
  have hm:=fV (bX t.parts k (dfl (.st .term)) hk)
  rw [aO t.parts k (dfl (.st .term)) hk] at h3
  simp only [allTL] at h3
  refine ⟨by omega,⟨by omega,qc ho (bX t.parts k (dfl (.st .term)) hk)⟩,?_⟩
  cases e:allT ai (t.parts.getD k (dfl (.st .term)))
  ·rw [e] at h3;rw [h3];simp
  ·simp only [e,Bool.true_and] at h3
   exact ⟨b6 hk ln,k+1,⟨by omega,h3⟩,by omega,by omega⟩
 ·replace h:¬((k:Int) < (t.parts.length:Int)):=fun e=>h (Xd e)
  have e:k=t.parts.length:=by omega
  subst e
  rw [h3,List.drop_length];rfl
theorem E4 (n:Nat) (s:Trm) (m:Int) (hs:Wf (.st .term) s) (ho:szT s<=n+1/\0<=m/\m<=1000000) :
  (∃(x:Nat × Int),(x.1<=List.length s.parts/\(1:Int)<=x.2/\x.2<=m+(1:Int)/\sizeTL (List.drop x.1 s.parts) x.2 m=db s m)/\(1:Int)=x.2/\(0:Int)=(↑x.1:Int)/\s=s/\m=m/\(0:Int)=(0:Int)/\s=s/\True)/\∀(x:Nat × Int),x.1<=List.length s.parts/\(1:Int)<=x.2/\x.2<=m+(1:Int)/\sizeTL (List.drop x.1 s.parts) x.2 m=db s m→if decide ((↑x.1:Int) < (↑(List.length s.parts):Int))=true then if decide (x.2<=m)=true then ((0:Int)<=(↑x.1:Int)/\(↑x.1:Int) < (↑(List.length s.parts):Int))/\inR IntKind.i64 (m - x.2)/\(szT (List.getD s.parts (Int.toNat (↑x.1:Int)) (dfl (Ty.st SN.term)))<=n/\(0:Int)<=m - x.2/\m - x.2<=(1000000:Int))/\inR IntKind.i64 (x.2+db (List.getD s.parts (Int.toNat (↑x.1:Int)) (dfl (Ty.st SN.term))) (m - x.2))/\inR IntKind.i64 ((↑x.1:Int)+(1:Int))/\∃(y:Nat × Int),(y.1<=List.length s.parts/\(1:Int)<=y.2/\y.2<=m+(1:Int)/\sizeTL (List.drop y.1 s.parts) y.2 m=db s m)/\List.length s.parts - y.1 < List.length s.parts - x.1/\x.2+db (List.getD s.parts (Int.toNat (↑x.1:Int)) (dfl (Ty.st SN.term))) (m - x.2)=y.2/\(↑x.1:Int)+(1:Int)=(↑y.1:Int)/\s=s/\m=m/\(0:Int)=(0:Int)/\s=s/\True else True/\x.2=db s m/\True else True/\x.2=db s m/\True:=by
 have ln:=hs.term_parts.len
 have hz:=gG s
 obtain ⟨ho1,ho2,ho3⟩:=ho
 have h0:sizeTL s.parts 1 m=db s m:=by cases s;rw [db]
 simp only [Int.toNat_natCast,eq_self,true_and,and_true]
 refine ⟨⟨(0,1),⟨Nat.zero_le _,by omega,by omega,h0⟩,rfl,rfl⟩,?_⟩
 rintro ⟨k,c⟩ ⟨h1,h2,h3,h4⟩
 simp only at h1 h2 h3 h4 ⊢
 refine aa (fun hk=>?_) (fun hk=>?_)
 ·replace hk:=Xo hk
  have hk:k < s.parts.length:=by omega
  have hm:=fV (bX s.parts k (dfl (.st .term)) hk)
  rw [aO s.parts k (dfl (.st .term)) hk] at h4
  simp only [sizeTL] at h4
  refine aa (fun hc=>?_) (fun hc=>?_)
  ·replace hc:=Xo hc
   rw [if_pos hc] at h4
   have hb:=sizeT_bd (s.parts.getD k (dfl (.st .term))) (m - c) (by omega)
   exact ⟨by omega,bc (by omega) (by omega),by omega,bc (by omega) (by omega),b6 hk ln,(k+1,_),⟨by omega,by simp only;omega,by simp only;omega,h4⟩,by simp only;omega,rfl,rfl⟩
  ·rw [if_neg (fun e=>hc (Xd e))] at h4
   exact h4
 ·replace hk:¬((k:Int) < (s.parts.length:Int)):=fun e=>hk (Xd e)
  have e:k=s.parts.length:=by omega
  subst e
  rw [List.drop_length] at h4
  simp only [sizeTL] at h4
  exact h4
theorem E5 (n:Nat) (s:Trm) (hs:Wf (.st .term) s) (hn:szT s<=n+1) (hb:n<=1000000) :
  (∃(x:Nat × Int),(x.1<=List.length s.parts/\(0:Int)<=x.2/\max x.2 (↑(maxDT (List.drop x.1 s.parts)):Int)=(↑(maxDT s.parts):Int))/\(0:Int)=x.2/\(0:Int)=(↑x.1:Int)/\s=s/\(0:Int)=(0:Int)/\s=s/\True)/\∀(x:Nat × Int),x.1<=List.length s.parts/\(0:Int)<=x.2/\max x.2 (↑(maxDT (List.drop x.1 s.parts)):Int)=(↑(maxDT s.parts):Int)→if decide ((↑x.1:Int) < (↑(List.length s.parts):Int))=true then ((0:Int)<=(↑x.1:Int)/\(↑x.1:Int) < (↑(List.length s.parts):Int))/\szT (List.getD s.parts (Int.toNat (↑x.1:Int)) (dfl (Ty.st SN.term)))<=n/\if decide (x.2 < (↑(deepT (List.getD s.parts (Int.toNat (↑x.1:Int)) (dfl (Ty.st SN.term)))):Int))=true then inR IntKind.i64 ((↑x.1:Int)+(1:Int))/\∃(y:Nat × Int),(y.1<=List.length s.parts/\(0:Int)<=y.2/\max y.2 (↑(maxDT (List.drop y.1 s.parts)):Int)=(↑(maxDT s.parts):Int))/\List.length s.parts - y.1 < List.length s.parts - x.1/\(↑(deepT (List.getD s.parts (Int.toNat (↑x.1:Int)) (dfl (Ty.st SN.term)))):Int)=y.2/\(↑x.1:Int)+(1:Int)=(↑y.1:Int)/\s=s/\(0:Int)=(0:Int)/\s=s/\True else inR IntKind.i64 ((↑x.1:Int)+(1:Int))/\∃(y:Nat × Int),(y.1<=List.length s.parts/\(0:Int)<=y.2/\max y.2 (↑(maxDT (List.drop y.1 s.parts)):Int)=(↑(maxDT s.parts):Int))/\List.length s.parts - y.1 < List.length s.parts - x.1/\x.2=y.2/\(↑x.1:Int)+(1:Int)=(↑y.1:Int)/\s=s/\(0:Int)=(0:Int)/\s=s/\True else inR IntKind.i64 (x.2+(1:Int))/\True/\x.2+(1:Int)=(↑(deepT s):Int)/\True:=by
 have ln:=hs.term_parts.len
 have hz:=gG s
 have hd:deepT s=maxDT s.parts+1:=by cases s;rw [deepT]
 have hds:=maxDT_sz s.parts
 simp only [Int.toNat_natCast,eq_self,true_and,and_true]
 refine ⟨⟨(0,0),⟨Nat.zero_le _,by simp,by simp only [List.drop_zero];omega⟩,rfl,rfl⟩,?_⟩
 rintro ⟨k,c⟩ ⟨h1,h2,h3⟩
 simp only at h1 h2 h3 ⊢
 refine aa (fun h=>?_) (fun h=>?_)
 ·replace h:=Xo h
  have hk:k < s.parts.length:=by omega
  have hm:=fV (bX s.parts k (dfl (.st .term)) hk)
  rw [aO s.parts k (dfl (.st .term)) hk] at h3
  simp only [maxDT] at h3
  refine ⟨by omega,by omega,aa (fun a=>?_) (fun a=>?_)⟩
  ·replace a:=Xo a
   exact ⟨b6 hk ln,(k+1,(deepT (s.parts.getD k (dfl (.st .term))):Int)),⟨by omega,by simp only;omega,by simp only;omega⟩,by simp only;omega,rfl,rfl⟩
  ·replace a:¬c < (deepT (s.parts.getD k (dfl (.st .term))):Int):=fun e=>a (Xd e)
   exact ⟨b6 hk ln,(k+1,c),⟨by omega,by simp only;omega,by simp only;omega⟩,by simp only;omega,rfl,rfl⟩
 ·replace h:¬((k:Int) < (s.parts.length:Int)):=fun e=>h (Xd e)
  have e:k=s.parts.length:=by omega
  subst e
  rw [List.drop_length] at h3
  simp only [maxDT] at h3
  exact ⟨bc (by omega) (by omega),by omega⟩
theorem Bz (s:Trm) (hs:Wf (.st .term) s) (ho:bO s=true) :
  (szT s<=szT s/\(0:Int)<=(4096:Int)/\(4096:Int)<=(1000000:Int))/\if decide ((4096:Int) < db s (4096:Int))=true then True/\(3:Int)=bw s/\True else szT s<=(4096:Nat)/\if decide ((40:Int) < (↑(deepT s):Int))=true then True/\(91:Int)=bw s/\True else (szT s<=(4096:Nat)/\bO s=true)/\if (!allT ai s)=true then True/\(80:Int)=bw s/\True else True/\(0:Int)=bw s/\True:=by
 simp only [eq_self,true_and,and_true]
 rw [xJ]
 refine ⟨⟨Nat.le_refl _,by omega,by omega⟩,aa (fun h=>?_) (fun h=>?_)⟩
 ·rw [if_pos (Xo h)]
 ·have h':¬(4096:Int) < db s 4096:=fun e=>h (Xd e)
  have hs4:szT s<=4096:=by rw [sizeT_eq s 4096 (by omega)] at h';omega
  rw [if_neg h']
  refine ⟨hs4,aa (fun g=>?_) (fun g=>⟨⟨hs4,ho⟩,?_⟩)⟩
  ·rw [if_pos (Xo g)]
  ·rw [if_neg (fun e=>g (Xd e))]
   cases allT ai s <;> simp
theorem E6 (n:Nat) (v:Vlu) (l c:Int) (hs:Wf (.st .val) v) (hn:szV v<=n+1) (hc:0<=c/\c<=2000/\1<=l/\l<=c+1) :
  inR IntKind.i64 (c+(1:Int))/\if decide ((2000:Int) < c+(1:Int))=true then decide ((2000:Int) < c+(↑(szV v):Int))=true/\c+(1:Int)=(2001:Int)/\True else (∃(x:Nat × Int),(x.1<=List.length v.parts/\c+(1:Int)+(↑(szVL (List.take x.1 v.parts)):Int)<=(2000:Int)/\deepVL (List.drop x.1 v.parts) (l+(1:Int)) x.2=deepV v l)/\l=x.2/\(0:Int)=(↑x.1:Int)/\v=v/\l=l/\(0:Int)=(0:Int)/\false=false/\v.parts=v.parts/\(↑(List.length v.parts):Int)=(↑(List.length v.parts):Int)/\c+(1:Int)=c+(1:Int)+(↑(szVL (List.take x.1 v.parts)):Int)/\v=v/\True)/\∀(x:Nat × Int),x.1<=List.length v.parts/\c+(1:Int)+(↑(szVL (List.take x.1 v.parts)):Int)<=(2000:Int)/\deepVL (List.drop x.1 v.parts) (l+(1:Int)) x.2=deepV v l→if decide ((↑x.1:Int) < (↑(List.length v.parts):Int))=true then ((0:Int)<=(↑x.1:Int)/\(↑x.1:Int) < (↑(List.length v.parts):Int))/\inR IntKind.i64 (l+(1:Int))/\(szV (List.getD v.parts (Int.toNat (↑x.1:Int)) (dfl (Ty.st SN.val)))<=n/\(0:Int)<=c+(1:Int)+(↑(szVL (List.take x.1 v.parts)):Int)/\c+(1:Int)+(↑(szVL (List.take x.1 v.parts)):Int)<=(2000:Int)/\(1:Int)<=l+(1:Int)/\l+(1:Int)<=c+(1:Int)+(↑(szVL (List.take x.1 v.parts)):Int)+(1:Int))/\if decide ((2000:Int) < c+(1:Int)+(↑(szVL (List.take x.1 v.parts)):Int)+(↑(szV (List.getD v.parts (Int.toNat (↑x.1:Int)) (dfl (Ty.st SN.val)))):Int))=true then decide ((2000:Int) < c+(↑(szV v):Int))=true/\(2001:Int)=(2001:Int)/\True else inR IntKind.i64 ((↑x.1:Int)+(1:Int))/\∃(y:Nat × Int),(y.1<=List.length v.parts/\c+(1:Int)+(↑(szVL (List.take y.1 v.parts)):Int)<=(2000:Int)/\deepVL (List.drop y.1 v.parts) (l+(1:Int)) y.2=deepV v l)/\List.length v.parts - y.1 < List.length v.parts - x.1/\max x.2 (deepV (List.getD v.parts (Int.toNat (↑x.1:Int)) (dfl (Ty.st SN.val))) (l+(1:Int)))=y.2/\(↑x.1:Int)+(1:Int)=(↑y.1:Int)/\v=v/\l=l/\(0:Int)=(0:Int)/\false=false/\v.parts=v.parts/\(↑(List.length v.parts):Int)=(↑(List.length v.parts):Int)/\c+(1:Int)+(↑(szVL (List.take x.1 v.parts)):Int)+(↑(szV (List.getD v.parts (Int.toNat (↑x.1:Int)) (dfl (Ty.st SN.val)))):Int)=c+(1:Int)+(↑(szVL (List.take y.1 v.parts)):Int)/\v=v/\True else decide ((2000:Int) < c+(↑(szV v):Int))=false/\x.2=deepV v l/\c+(1:Int)+(↑(szVL (List.take x.1 v.parts)):Int)=c+(↑(szV v):Int)/\True:=by
 have ln:=hs.val_parts.len
 have hz:=tI v
 refine ⟨bc (by omega) (by omega),aa (fun h=>?_) (fun h=>?_)⟩
 ·replace h:=Xo h
  have:=oB v
  exact ⟨Xd (by omega),by omega,by trivial⟩
 replace h:¬(2000:Int) < c+1:=fun e=>h (Xd e)
 have hd0:deepVL v.parts (l+1) l=deepV v l:=by cases v;rfl
 refine ⟨⟨(0,l),⟨Nat.zero_le _,by simp [szVL];omega,by simpa using hd0⟩,rfl,rfl,rfl,by simp [szVL],by repeat' (first | exact trivial | rfl | (show _=c+1+((szVL (List.take 0 v.parts):Nat):Int);simp only [List.take_zero,szVL];omega) | apply And.intro)⟩,?_⟩
 rintro ⟨k,d⟩ ⟨h1,h2,h3⟩
 simp only [Int.toNat_natCast] at h1 h2 h3 ⊢
 have hc0:(0:Int)<=(szVL (v.parts.take k):Int):=by omega
 refine aa (fun hk=>?_) (fun hk=>?_)
 ·replace hk:=Xo hk
  have hk:k < v.parts.length:=by omega
  have hs1:=km v.parts k (dfl (.st .val)) hk
  have hm:=oC (bX v.parts k (dfl (.st .val)) hk)
  rw [aO v.parts k (dfl (.st .val)) hk] at h3
  simp only [deepVL] at h3
  have ht:=tJ v.parts (k+1)
  refine ⟨by omega,bc (by omega) (by omega),⟨by omega,by omega,h2,by omega,by omega⟩,aa (fun h=>?_) (fun h=>?_)⟩
  ·replace h:=Xo h
   exact ⟨Xd (by omega),by repeat' (first | exact trivial | rfl | apply And.intro)⟩
  ·replace h:=fun e=>h (Xd e)
   replace h:¬(2000:Int) < c+1+(szVL (v.parts.take k):Int)+(szV (v.parts.getD k (dfl (.st .val))):Int):=h
   exact ⟨b6 hk ln,(k+1,_),⟨by omega,by simp only;omega,h3⟩,by simp only;omega,by repeat' (first | exact trivial | rfl | (simp only;omega) | omega | apply And.intro)⟩
 ·replace hk:¬((k:Int) < (v.parts.length:Int)):=fun e=>hk (Xd e)
  have e:k=v.parts.length:=by omega
  subst e
  rw [List.take_length] at h2 ⊢
  rw [List.drop_length] at h3
  exact ⟨Xf (by omega),h3,by omega,trivial⟩
theorem BA (v:Vlu) (hs:Wf (.st .val) v) :
  (szV v<=szV v/\(0:Int)<=(0:Int)/\(0:Int)<=(2000:Int)/\(1:Int)<=(1:Int)/\(1:Int)<=(0:Int)+(1:Int))/\if decide ((2000:Int) < (0:Int)+(↑(szV v):Int))=true then ((2001:Int)=if szV v<=(2000:Nat) then (↑(szV v):Int) else (2001:Int))/\((0:Int)=if szV v<=(2000:Nat) then deepV v (1:Int) else (0:Int))/\false=decide (szV v<=(2000:Nat))/\True else ((0:Int)+(↑(szV v):Int)=if szV v<=(2000:Nat) then (↑(szV v):Int) else (2001:Int))/\(deepV v (1:Int)=if szV v<=(2000:Nat) then deepV v (1:Int) else (0:Int))/\true=decide (szV v<=(2000:Nat))/\True:=by
 refine ⟨by simp,aa (fun h=>?_) (fun h=>?_)⟩
 ·replace h:=Xo h
  have h':¬szV v<=2000:=by omega
  rw [if_neg h',if_neg h']
  exact ⟨rfl,rfl,by simp [h'],trivial⟩
 ·replace h:¬(2000:Int) < 0+(szV v:Int):=fun e=>h (Xd e)
  have h':szV v<=2000:=by omega
  rw [if_pos h',if_pos h']
  exact ⟨by omega,by trivial,by simp [h'],trivial⟩
theorem yu  (x:Str)  :
  True/\(!al x)=!al x/\True:=by
 exact ⟨trivial,by trivial,trivial⟩
theorem yw  (l:List Str)  (hl:Wf (.lst .str) l) :
  (∃(x:Nat),(x<=List.length l/\b8 al (List.drop x l) x=b8 al l (0:Nat))/\(0:Int)=(↑x:Int)/\l=l/\(↑(List.length l):Int)=(↑(List.length l):Int)/\True)/\∀(x:Nat),x<=List.length l/\b8 al (List.drop x l) x=b8 al l (0:Nat)→if decide ((↑x:Int) < (↑(List.length l):Int))=true then ((0:Int)<=(↑x:Int)/\(↑x:Int) < (↑(List.length l):Int))/\if (!al (List.getD l (Int.toNat (↑x:Int)) (dfl Ty.str)))=true then True/\(↑x:Int)=b8 al l (0:Nat)/\True else inR IntKind.i64 ((↑x:Int)+(1:Int))/\∃(y:Nat),(y<=List.length l/\b8 al (List.drop y l) y=b8 al l (0:Nat))/\List.length l - y < List.length l - x/\(↑x:Int)+(1:Int)=(↑y:Int)/\l=l/\(↑(List.length l):Int)=(↑(List.length l):Int)/\True else True/\(-1:Int)=b8 al l (0:Nat)/\True:=by
 have ln:=hl.len
 simp only [Int.toNat_natCast]
 refine ⟨⟨0,⟨Nat.zero_le _,by simp⟩,rfl,by trivial,by trivial,trivial⟩,?_⟩
 rintro k ⟨h1,h2⟩
 refine aa (fun h=>?_) (fun h=>?_)
 ·replace h:=Xo h
  have hk:k < l.length:=by omega
  rw [aO l k (dfl .str) hk,b8] at h2
  refine ⟨by omega,aa (fun c=>?_) (fun c=>?_)⟩
  ·have c:al (l.getD k (dfl .str))=false:=by simpa using c
   rw [c,if_neg Bool.false_ne_true] at h2
   rw [←h2]
   exact ⟨trivial,rfl,trivial⟩
  ·have c:al (l.getD k (dfl .str))=true:=by simpa using c
   rw [if_pos c] at h2
   refine ⟨b6 hk ln,k+1,⟨by omega,h2⟩,by omega,by omega,by trivial,by trivial,trivial⟩
 ·replace h:¬((k:Int) < (l.length:Int)):=fun e=>h (Xd e)
  have e:k=l.length:=by omega
  subst e
  rw [List.drop_length,b8] at h2
  rw [←h2]
  exact ⟨trivial,rfl,trivial⟩
theorem yx  (l:List Str)  :
  True/\decide ((0:Int)<=b8 al l (0:Nat))=!List.all l al/\True:=by
 exact ⟨trivial,gH al l 0,trivial⟩
theorem E7  (l:List Str)  :
  True/\(!!List.all l al)=List.all l al/\True:=by
 exact ⟨trivial,Bool.not_not _,trivial⟩
theorem BB (l:List Str) (ho:l.length *16<=140737488355328) :
  List.length l *(16:Nat)<=(140737488355328:Nat)/\if List.all l al=true then List.length (List.mergeSort l fun (x y:Str) ↦decide (x<=y))=List.length (List.mergeSort l fun (x y:Str) ↦decide (x<=y))/\True/\decide ((↑(List.length (Lib.compact (List.mergeSort l fun (x y:Str) ↦decide (x<=y)))):Int)=(↑(List.length l):Int))=dR l/\True else True/\false=dR l/\True:=by
 have hc:=gE l
 unfold eC at hc
 unfold dR
 refine ⟨ho,aa (fun h=>?_) (fun h=>?_)⟩
 ·refine ⟨by trivial,trivial,?_,trivial⟩
  rw [h,Bool.true_and,decide_eq_decide,←hc]
  omega
 ·have h:l.all al=false:=by simpa using h
  exact ⟨trivial,by rw [h];rfl,trivial⟩
theorem E8 (v:Vlu) (hs:Wf (.st .val) v) (ho:v.names.length *16<=140737488355328) :
  if decide (v.pkg=[])=true then if decide (v.text=[])=true then if decide (v.kind=(1:Int))=true then if decide ((↑(List.length v.names):Int)=(0:Int))=true then True/\decide ((↑(List.length v.parts):Int)=(0:Int))=ao v/\True else True/\false=ao v/\True else if decide (v.kind=(2:Int))=true then if decide (v.pkg=[])=true then if decide (v.n=(0:Int))=true then if decide ((↑(List.length v.names):Int)=(0:Int))=true then True/\decide ((↑(List.length v.parts):Int)=(0:Int))=ao v/\True else True/\false=ao v/\True else True/\false=ao v/\True else True/\false=ao v/\True else if decide (v.kind=(3:Int))=true then if decide ((↑(List.length v.names):Int)=(0:Int))=true then if decide ((↑(List.length v.parts):Int)=(0:Int))=true then if decide (v.n=(0:Int))=true then True/\true=ao v/\True else True/\decide (v.n=(1:Int))=ao v/\True else True/\false=ao v/\True else True/\false=ao v/\True else if decide (v.kind=(4:Int))=true then if decide ((↑(List.length v.names):Int)=(0:Int))=true then True/\decide (v.n=(0:Int))=ao v/\True else True/\false=ao v/\True else if decide (v.kind=(5:Int))=true then if decide (v.pkg=[])=true then if decide (v.text=[])=true then if decide (v.n=(0:Int))=true then List.length v.names *(16:Nat)<=(140737488355328:Nat)/\if dR v.names=true then True/\decide ((↑(List.length v.names):Int)=(↑(List.length v.parts):Int))=ao v/\True else True/\false=ao v/\True else True/\false=ao v/\True else True/\false=ao v/\True else True/\false=ao v/\True else if decide (v.kind=(6:Int))=true then if decide (v.pkg=[])=true then if decide (v.n=(0:Int))=true then if decide ((↑(List.length v.names):Int)=(0:Int))=true then if al v.text=true then True/\decide ((↑(List.length v.parts):Int)=(1:Int))=ao v/\True else True/\false=ao v/\True else True/\false=ao v/\True else True/\false=ao v/\True else True/\false=ao v/\True else if decide (v.kind=(7:Int))=true then if al v.pkg=true then if aD v.text=true then if decide (v.n=(0:Int))=true then if decide ((↑(List.length v.names):Int)=(0:Int))=true then True/\decide ((↑(List.length v.parts):Int)=(1:Int))=ao v/\True else True/\false=ao v/\True else True/\false=ao v/\True else True/\false=ao v/\True else True/\false=ao v/\True else if decide (v.kind=(8:Int))=true then if decide ((↑(List.length v.names):Int)=(0:Int))=true then if decide ((↑(List.length v.parts):Int)=(0:Int))=true then if decide ((0:Int)<=v.n)=true then True/\decide (v.n<=(1000:Int))=ao v/\True else True/\false=ao v/\True else True/\false=ao v/\True else True/\false=ao v/\True else True/\false=ao v/\True else if decide (v.kind=(1:Int))=true then True/\false=ao v/\True else if decide (v.kind=(2:Int))=true then if decide (v.pkg=[])=true then if decide (v.n=(0:Int))=true then if decide ((↑(List.length v.names):Int)=(0:Int))=true then True/\decide ((↑(List.length v.parts):Int)=(0:Int))=ao v/\True else True/\false=ao v/\True else True/\false=ao v/\True else True/\false=ao v/\True else if decide (v.kind=(3:Int))=true then True/\false=ao v/\True else if decide (v.kind=(4:Int))=true then True/\false=ao v/\True else if decide (v.kind=(5:Int))=true then if decide (v.pkg=[])=true then if decide (v.text=[])=true then if decide (v.n=(0:Int))=true then List.length v.names *(16:Nat)<=(140737488355328:Nat)/\if dR v.names=true then True/\decide ((↑(List.length v.names):Int)=(↑(List.length v.parts):Int))=ao v/\True else True/\false=ao v/\True else True
  /\false=ao v/\True else True/\false=ao v/\True else True/\false=ao v/\True else if decide (v.kind=(6:Int))=true then if decide (v.pkg=[])=true then if decide (v.n=(0:Int))=true then if decide ((↑(List.length v.names):Int)=(0:Int))=true then if al v.text=true then True/\decide ((↑(List.length v.parts):Int)=(1:Int))=ao v/\True else True/\false=ao v/\True else True/\false=ao v/\True else True/\false=ao v/\True else True/\false=ao v/\True else if decide (v.kind=(7:Int))=true then if al v.pkg=true then if aD v.text=true then if decide (v.n=(0:Int))=true then if decide ((↑(List.length v.names):Int)=(0:Int))=true then True/\decide ((↑(List.length v.parts):Int)=(1:Int))=ao v/\True else True/\false=ao v/\True else True/\false=ao v/\True else True/\false=ao v/\True else True/\false=ao v/\True else if decide (v.kind=(8:Int))=true then True/\false=ao v/\True else True/\false=ao v/\True else if decide (v.kind=(1:Int))=true then True/\false=ao v/\True else if decide (v.kind=(2:Int))=true then if decide (v.pkg=[])=true then if decide (v.n=(0:Int))=true then if decide ((↑(List.length v.names):Int)=(0:Int))=true then True/\decide ((↑(List.length v.parts):Int)=(0:Int))=ao v/\True else True/\false=ao v/\True else True/\false=ao v/\True else True/\false=ao v/\True else if decide (v.kind=(3:Int))=true then True/\false=ao v/\True else if decide (v.kind=(4:Int))=true then True/\false=ao v/\True else if decide (v.kind=(5:Int))=true then if decide (v.pkg=[])=true then if decide (v.text=[])=true then if decide (v.n=(0:Int))=true then List.length v.names *(16:Nat)<=(140737488355328:Nat)/\if dR v.names=true then True/\decide ((↑(List.length v.names):Int)=(↑(List.length v.parts):Int))=ao v/\True else True/\false=ao v/\True else True/\false=ao v/\True else True/\false=ao v/\True else True/\false=ao v/\True else if decide (v.kind=(6:Int))=true then if decide (v.pkg=[])=true then if decide (v.n=(0:Int))=true then if decide ((↑(List.length v.names):Int)=(0:Int))=true then if al v.text=true then True/\decide ((↑(List.length v.parts):Int)=(1:Int))=ao v/\True else True/\false=ao v/\True else True/\false=ao v/\True else True/\false=ao v/\True else True/\false=ao v/\True else if decide (v.kind=(7:Int))=true then if al v.pkg=true then if aD v.text=true then if decide (v.n=(0:Int))=true then if decide ((↑(List.length v.names):Int)=(0:Int))=true then True/\decide ((↑(List.length v.parts):Int)=(1:Int))=ao v/\True else True/\false=ao v/\True else True/\false=ao v/\True else True/\false=ao v/\True else True/\false=ao v/\True else if decide (v.kind=(8:Int))=true then True/\false=ao v/\True else True/\false=ao v/\True:=by
 unfold ao vC qm
 repeat' (first | exact aa (fun _=>?_) (fun _=>?_) | refine aa (fun _=>?_) (fun _=>?_))
 all_goals (try refine ⟨by first | exact trivial | omega,?_⟩)
 all_goals simp_all
 all_goals omega
theorem yy (n:Nat) (x:Vlu)  (ho:szV x<=n/\cI x=true) :
  (szV x<=n/\cI x=true)/\True/\(!allV ao x)=!allV ao x/\True:=by
 exact ⟨ho,trivial,by trivial,trivial⟩
theorem yz (n:Nat) (l:List Vlu)  (hl:Wf (.lst (.st .val)) l) (ho:∀x∈l,szV x<=n/\cI x=true) :
  (∃(x:Nat),(x<=List.length l/\b8 (allV ao) (List.drop x l) x=b8 (allV ao) l (0:Nat))/\(0:Int)=(↑x:Int)/\l=l/\(↑(List.length l):Int)=(↑(List.length l):Int)/\True)/\∀(x:Nat),x<=List.length l/\b8 (allV ao) (List.drop x l) x=b8 (allV ao) l (0:Nat)→if decide ((↑x:Int) < (↑(List.length l):Int))=true then ((0:Int)<=(↑x:Int)/\(↑x:Int) < (↑(List.length l):Int))/\(szV (List.getD l (Int.toNat (↑x:Int)) (dfl (Ty.st SN.val)))<=n/\cI (List.getD l (Int.toNat (↑x:Int)) (dfl (Ty.st SN.val)))=true)/\if (!allV ao (List.getD l (Int.toNat (↑x:Int)) (dfl (Ty.st SN.val))))=true then True/\(↑x:Int)=b8 (allV ao) l (0:Nat)/\True else inR IntKind.i64 ((↑x:Int)+(1:Int))/\∃(y:Nat),(y<=List.length l/\b8 (allV ao) (List.drop y l) y=b8 (allV ao) l (0:Nat))/\List.length l - y < List.length l - x/\(↑x:Int)+(1:Int)=(↑y:Int)/\l=l/\(↑(List.length l):Int)=(↑(List.length l):Int)/\True else True/\(-1:Int)=b8 (allV ao) l (0:Nat)/\True:=by
 have ln:=hl.len
 simp only [Int.toNat_natCast]
 refine ⟨⟨0,⟨Nat.zero_le _,by simp⟩,rfl,by trivial,by trivial,trivial⟩,?_⟩
 rintro k ⟨h1,h2⟩
 refine aa (fun h=>?_) (fun h=>?_)
 ·replace h:=Xo h
  have hk:k < l.length:=by omega
  rw [aO l k (dfl (.st .val)) hk,b8] at h2
  refine ⟨by omega,ho _ (bX l k _ hk),aa (fun c=>?_) (fun c=>?_)⟩
  ·have c:(allV ao) (l.getD k (dfl (.st .val)))=false:=by simpa using c
   rw [c,if_neg Bool.false_ne_true] at h2
   rw [←h2]
   exact ⟨trivial,rfl,trivial⟩
  ·have c:(allV ao) (l.getD k (dfl (.st .val)))=true:=by simpa using c
   rw [if_pos c] at h2
   refine ⟨b6 hk ln,k+1,⟨by omega,h2⟩,by omega,by omega,by trivial,by trivial,trivial⟩
 ·replace h:¬((k:Int) < (l.length:Int)):=fun e=>h (Xd e)
  have e:k=l.length:=by omega
  subst e
  rw [List.drop_length,b8] at h2
  rw [←h2]
  exact ⟨trivial,rfl,trivial⟩
theorem yA (n:Nat) (l:List Vlu)  (ho:∀x∈l,szV x<=n/\cI x=true) :
  (∀(x:Vlu),x∈l→szV x<=n/\cI x=true)/\True/\decide ((0:Int)<=b8 (allV ao) l (0:Nat))=!List.all l (allV ao)/\True:=by
 exact ⟨ho,trivial,gH (allV ao) l 0,trivial⟩
theorem E9 (n:Nat) (l:List Vlu)  (ho:∀x∈l,szV x<=n/\cI x=true) :
  (∀(x:Vlu),x∈l→szV x<=n/\cI x=true)/\True/\(!!List.all l (allV ao))=List.all l (allV ao)/\True:=by
 exact ⟨ho,trivial,Bool.not_not _,trivial⟩
theorem yB (n:Nat) (v:Vlu) (hs:Wf (.st .val) v) (ho:szV v<=n+1/\cI v=true) :
  List.length v.names *(16:Nat)<=(140737488355328:Nat)/\if ao v=true then (∀(x:Vlu),x∈v.parts→szV x<=n/\cI x=true)/\True/\List.all v.parts (allV ao)=allV ao v/\True else True/\false=allV ao v/\True:=by
 obtain ⟨h1,h2⟩:=ho
 have hz:=tI v
 have e1:=tK ao v
 unfold cI at h2
 rw [tK,Bool.and_eq_true,List.all_eq_true] at h2
 have h3:=Xo h2.1
 rw [e1]
 refine ⟨by omega,aa (fun h=>?_) (fun h=>?_)⟩
 ·rw [h,Bool.true_and]
  exact ⟨fun x hx=>⟨by have:=oC hx;omega,h2.2 x hx⟩,by repeat' (first | exact trivial | rfl | apply And.intro)⟩
 ·have h:ao v=false:=by simpa using h
  rw [h]
  repeat' (first | exact trivial | rfl | apply And.intro)
theorem BC (v:Vlu) (hs:Wf (.st .val) v) (ho:cI v=true) :
  if (!decide (szV v<=(2000:Nat)))=true then True/\(3:Int)=oc v/\True else if decide ((40:Int) < if szV v<=(2000:Nat) then deepV v (1:Int) else (0:Int))=true then True/\(91:Int)=oc v/\True else (szV v<=(2000:Nat)/\cI v=true)/\if (!allV ao v)=true then True/\(290:Int)=oc v/\True else True/\(0:Int)=oc v/\True:=by
 unfold oc
 by_cases h1:szV v<=2000
 ·rw [if_neg (by simp [h1]),if_pos h1,if_neg (show ¬2000 < szV v by omega)]
  by_cases h2:(40:Int) < deepV v 1
  ·rw [if_pos (by simp [h2]),if_pos h2];exact ⟨trivial,rfl,trivial⟩
  ·rw [if_neg (by simp [h2]),if_neg h2]
   refine ⟨⟨h1,ho⟩,?_⟩
   cases allV ao v <;> simp
 ·rw [if_pos (by simp [h1]),if_pos (show 2000 < szV v by omega)];exact ⟨trivial,rfl,trivial⟩
theorem FC (s:Option Scp) (o n:Str) (w:Thg) (hs:Wf (.pt .scope) s) (ho:Wf .str o) (hn:Wf .str n) :
  True/\some (Scp.mk o n (Thg.mk (Thg.kind w) (Thg.n w) (Thg.pkg w) (Thg.text w) (Thg.names w) (Thg.parts w) (Thg.fn w)) s)=cM s o n w/\True:=by
 cases w
 exact ⟨trivial,rfl,trivial⟩
theorem FD (s:Option Scp) (o n:Str) (hs:Wf (.pt .scope) s) (ho:Wf .str o) (hn:Wf .str n) :
  (∃(x:Option Scp),findF x o n=findF s o n/\s=x/\o=o/\n=n/\True)/\∀(x:Option Scp),findF x o n=findF s o n→if Option.isSome x=true then Option.isSome x=true/\if (!decide (Scp.pkg (Option.getD x (dfl (Ty.st SN.scope)))=o))=true then Option.isSome x=true/\∃(y:Option Scp),findF y o n=findF s o n/\tC y < tC x/\Scp.rest (Option.getD x (dfl (Ty.st SN.scope)))=y/\o=o/\n=n/\True else Option.isSome x=true/\if (!decide (Scp.name (Option.getD x (dfl (Ty.st SN.scope)))=n))=true then Option.isSome x=true/\∃(y:Option Scp),findF y o n=findF s o n/\tC y < tC x/\Scp.rest (Option.getD x (dfl (Ty.st SN.scope)))=y/\o=o/\n=n/\True else True/\x=findF s o n/\True else True/\x=findF s o n/\True:=by
 refine ⟨⟨s,rfl,rfl,rfl,rfl,trivial⟩,?_⟩
 intro x hx
 refine aa (fun h=>?_) (fun h=>?_)
 ·obtain ⟨y,rfl⟩:=Option.isSome_iff_exists.1 h
  obtain ⟨p,m,w,r⟩:=y
  refine ⟨rfl,aa (fun h1=>?_) (fun h1=>?_)⟩
  ·have h1:¬p=o:=fN h1
   refine ⟨rfl,r,?_,by rw [rY];exact Nat.lt_succ_self _,rfl,rfl,rfl,trivial⟩
   rw [←hx,gJ];exact (if_neg fun q=>h1 q.1).symm
  ·have h1:p=o:=fO h1
   refine ⟨rfl,aa (fun h2=>?_) (fun h2=>?_)⟩
   ·have h2:¬m=n:=fN h2
    refine ⟨rfl,r,?_,by rw [rY];exact Nat.lt_succ_self _,rfl,rfl,rfl,trivial⟩
    rw [←hx,gJ];exact (if_neg fun q=>h2 q.2).symm
   ·have h2:m=n:=fO h2
    refine ⟨trivial,?_,trivial⟩
    rw [←hx,gJ];exact (if_pos ⟨h1,h2⟩).symm
 ·have hn:x=none:=by simpa using h
  subst hn
  exact ⟨trivial,by rw [←hx,xX],trivial⟩
theorem Ea (b:Bool)  :
  if b=true then True/\(3:Int)=(3:Int)/\((1:Int)=if b=true then (1:Int) else (0:Int))/\cH UInt8=cH UInt8/\cH UInt8=cH UInt8/\cH Str=cH Str/\cH Thg=cH Thg/\(none:Option Fnc)=none/\True else True/\(3:Int)=(3:Int)/\((0:Int)=if b=true then (1:Int) else (0:Int))/\cH UInt8=cH UInt8/\cH UInt8=cH UInt8/\cH Str=cH Str/\cH Thg=cH Thg/\(none:Option Fnc)=none/\True:=by
 refine aa (fun h=>?_) (fun h=>?_)
 ·exact ⟨trivial,rfl,(if_pos h).symm,rfl,rfl,rfl,rfl,rfl,trivial⟩
 ·exact ⟨trivial,rfl,(if_neg h).symm,rfl,rfl,rfl,rfl,rfl,trivial⟩
theorem FE (e a:Int)  :
  true=true/\e=e/\a=a/\True:=by
 exact ⟨rfl,rfl,rfl,trivial⟩
theorem FF (k:Int) (l:List Thg) (a:Int) (hl:Wf (.lst (.st .thing)) l) :
  (∃(x:Nat),(x<=List.length l/\dx k (List.take x l)=true)/\(0:Int)=(↑x:Int)/\k=k/\l=l/\a=a/\l=l/\(↑(List.length l):Int)=(↑(List.length l):Int)/\True)/\∀(x:Nat),x<=List.length l/\dx k (List.take x l)=true→if decide ((↑x:Int) < (↑(List.length l):Int))=true then ((0:Int)<=(↑x:Int)/\(↑x:Int) < (↑(List.length l):Int))/\if (!decide (Thg.kind (List.getD l (Int.toNat (↑x:Int)) (dfl (Ty.st SN.thing)))=k))=true then (!dx k l)=true/\(291:Int)=(291:Int)/\a=a/\True else inR IntKind.i64 ((↑x:Int)+(1:Int))/\∃(y:Nat),(y<=List.length l/\dx k (List.take y l)=true)/\List.length l - y < List.length l - x/\(↑x:Int)+(1:Int)=(↑y:Int)/\k=k/\l=l/\a=a/\l=l/\(↑(List.length l):Int)=(↑(List.length l):Int)/\True else (!dx k l)=false/\True:=by
 have ln:=hl.len
 refine ⟨⟨0,⟨Nat.zero_le _,rfl⟩,(by repeat' (first | exact trivial | rfl | apply And.intro))⟩,?_⟩
 rintro x ⟨h1,h2⟩
 simp only [Int.toNat_natCast]
 refine aa (fun h=>?_) (fun h=>?_)
 ·have hx:x < l.length:=by have:=Xo h;omega
  refine ⟨by omega,aa (fun hk=>?_) (fun hk=>?_)⟩
  ·have hk:¬(l.getD x (dfl (Ty.st SN.thing))).kind=k:=by simpa using hk
   refine ⟨?_,(by repeat' (first | exact trivial | rfl | apply And.intro))⟩
   cases hq:dx k l with
   | false=>rfl
   | true=>exact absurd (Xo (List.all_eq_true.1 hq _ (bX l x (dfl (Ty.st SN.thing)) hx))) hk
  ·have hk:(l.getD x (dfl (Ty.st SN.thing))).kind=k:=by simpa using hk
   refine ⟨b6 hx ln,x+1,⟨by omega,?_⟩,by omega,by omega,(by repeat' (first | exact trivial | rfl | apply And.intro))⟩
   rw [gn l x (dfl (Ty.st SN.thing)) hx]
   unfold dx at h2 ⊢
   rw [List.all_append,h2]
   simp only [List.all_cons,List.all_nil,Bool.and_true,Bool.true_and]
   exact Xd hk
 ·have e:x=l.length:=by have q:¬_:=fun q=>h (Xd q);omega
  subst e
  rw [List.take_length] at h2
  exact ⟨by rw [h2];rfl,trivial⟩
theorem Eb (nm:Str) (l:List Thg) (a:Int) (hnm:Wf .str nm) (hl:Wf (.lst (.st .thing)) l) (ha:Wf (.int .i64) a) (ho:(an nm l a).isSome=true) :
  if decide (nm=[(110:UInt8),(111:UInt8),(116:UInt8)])=true then if (!dx (3:Int) l)=true then (!decide ((ah (an nm l a)).f.err=(0:Int)))=true/\(291:Int)=(ah (an nm l a)).f.err/\a=(ah (an nm l a)).f.pos/\True else if decide (nm=[(110:UInt8),(111:UInt8),(116:UInt8)])=true then ((0:Int)<=(0:Int)/\(0:Int) < (↑(List.length l):Int))/\(!decide ((ah (an nm l a)).f.err=(0:Int)))=false/\kW (decide (Thg.n (List.getD l (Int.toNat (0:Int)) (dfl (Ty.st SN.thing)))=(0:Int)))=(ah (an nm l a)).v/\True else ((0:Int)<=(0:Int)/\(0:Int) < (↑(List.length l):Int))/\((0:Int)<=(1:Int)/\(1:Int) < (↑(List.length l):Int))/\(!decide ((ah (an nm l a)).f.err=(0:Int)))=false/\kW (decide (IntKind.wrap IntKind.i64 (Thg.n (List.getD l (Int.toNat (0:Int)) (dfl (Ty.st SN.thing)))+Thg.n (List.getD l (Int.toNat (1:Int)) (dfl (Ty.st SN.thing))))=(2:Int)))=(ah (an nm l a)).v/\True else if decide (nm=[(98:UInt8),(111:UInt8),(116:UInt8),(104:UInt8)])=true then if (!dx (3:Int) l)=true then (!decide ((ah (an nm l a)).f.err=(0:Int)))=true/\(291:Int)=(ah (an nm l a)).f.err/\a=(ah (an nm l a)).f.pos/\True else if decide (nm=[(110:UInt8),(111:UInt8),(116:UInt8)])=true then ((0:Int)<=(0:Int)/\(0:Int) < (↑(List.length l):Int))/\(!decide ((ah (an nm l a)).f.err=(0:Int)))=false/\kW (decide (Thg.n (List.getD l (Int.toNat (0:Int)) (dfl (Ty.st SN.thing)))=(0:Int)))=(ah (an nm l a)).v/\True else ((0:Int)<=(0:Int)/\(0:Int) < (↑(List.length l):Int))/\((0:Int)<=(1:Int)/\(1:Int) < (↑(List.length l):Int))/\(!decide ((ah (an nm l a)).f.err=(0:Int)))=false/\kW (decide (IntKind.wrap IntKind.i64 (Thg.n (List.getD l (Int.toNat (0:Int)) (dfl (Ty.st SN.thing)))+Thg.n (List.getD l (Int.toNat (1:Int)) (dfl (Ty.st SN.thing))))=(2:Int)))=(ah (an nm l a)).v/\True else if decide (nm=[(99:UInt8),(97:UInt8),(116:UInt8)])=true then if (!dx (2:Int) l)=true then (!decide ((ah (an nm l a)).f.err=(0:Int)))=true/\(291:Int)=(ah (an nm l a)).f.err/\a=(ah (an nm l a)).f.pos/\True else if decide (nm=[(115:UInt8),(105:UInt8),(122:UInt8),(101:UInt8)])=true then ((0:Int)<=(0:Int)/\(0:Int) < (↑(List.length l):Int))/\(!decide ((ah (an nm l a)).f.err=(0:Int)))=false/\(1:Int)=Thg.kind (ah (an nm l a)).v/\(↑(List.length (Thg.text (List.getD l (Int.toNat (0:Int)) (dfl (Ty.st SN.thing))))):Int)=Thg.n (ah (an nm l a)).v/\[]=Thg.pkg (ah (an nm l a)).v/\[]=Thg.text (ah (an nm l a)).v/\Thg.names (ah (an nm l a)).v=[]/\Thg.parts (ah (an nm l a)).v=[]/\Thg.fn (ah (an nm l a)).v=none/\True else ((0:Int)<=(0:Int)/\(0:Int) < (↑(List.length l):Int))/\((0:Int)<=(1:Int)/\(1:Int) < (↑(List.length l):Int))/\inR IntKind.i64 ((↑(List.length (Thg.text (List.getD l (Int.toNat (0:Int)) (dfl (Ty.st SN.thing))))):Int)+(↑(List.length (Thg.text (List.getD l (Int.toNat (1:Int)) (dfl (Ty.st SN.thing))))):Int))/\if decide ((4096:Int) < (↑(List.length (Thg.text (List.getD l (Int.toNat (0:Int)) (dfl (Ty.st SN.thing))))):Int)+(↑(List.length (Thg.text (List.getD l (Int.toNat (1:Int)) (dfl (Ty.st SN.thing))))):Int))=true then (!decide ((ah (an nm l a)).f.err=(0:Int)))=true/\(3:Int)=(ah (an nm l a)).f.err/\a=(ah (an nm l a)).f.pos/\True else ((0:Int)<=(0:Int)/\(0:Int) < (↑(List.length l):Int))/\((0:Int)<=(1:Int)/\(1:Int) < (↑(List.length l):Int))/\List.length (Thg.text (List.getD l (Int.toNat (0:Int)) (dfl (Ty.st SN.thing))))+List.length (Thg.text (List.getD l (Int.toNat (1:Int)) (dfl (Ty.st SN.thing))))<=(9223372036854775807:Nat)
  /\(!decide ((ah (an nm l a)).f.err=(0:Int)))=false/\(2:Int)=Thg.kind (ah (an nm l a)).v/\(0:Int)=Thg.n (ah (an nm l a)).v/\[]=Thg.pkg (ah (an nm l a)).v/\Thg.text (List.getD l (Int.toNat (0:Int)) (dfl (Ty.st SN.thing)))++Thg.text (List.getD l (Int.toNat (1:Int)) (dfl (Ty.st SN.thing)))=Thg.text (ah (an nm l a)).v/\Thg.names (ah (an nm l a)).v=[]/\Thg.parts (ah (an nm l a)).v=[]/\Thg.fn (ah (an nm l a)).v=none/\True else if decide (nm=[(115:UInt8),(105:UInt8),(122:UInt8),(101:UInt8)])=true then if (!dx (2:Int) l)=true then (!decide ((ah (an nm l a)).f.err=(0:Int)))=true/\(291:Int)=(ah (an nm l a)).f.err/\a=(ah (an nm l a)).f.pos/\True else if decide (nm=[(115:UInt8),(105:UInt8),(122:UInt8),(101:UInt8)])=true then ((0:Int)<=(0:Int)/\(0:Int) < (↑(List.length l):Int))/\(!decide ((ah (an nm l a)).f.err=(0:Int)))=false/\(1:Int)=Thg.kind (ah (an nm l a)).v/\(↑(List.length (Thg.text (List.getD l (Int.toNat (0:Int)) (dfl (Ty.st SN.thing))))):Int)=Thg.n (ah (an nm l a)).v/\[]=Thg.pkg (ah (an nm l a)).v/\[]=Thg.text (ah (an nm l a)).v/\Thg.names (ah (an nm l a)).v=[]/\Thg.parts (ah (an nm l a)).v=[]/\Thg.fn (ah (an nm l a)).v=none/\True else ((0:Int)<=(0:Int)/\(0:Int) < (↑(List.length l):Int))/\((0:Int)<=(1:Int)/\(1:Int) < (↑(List.length l):Int))/\inR IntKind.i64 ((↑(List.length (Thg.text (List.getD l (Int.toNat (0:Int)) (dfl (Ty.st SN.thing))))):Int)+(↑(List.length (Thg.text (List.getD l (Int.toNat (1:Int)) (dfl (Ty.st SN.thing))))):Int))/\if decide ((4096:Int) < (↑(List.length (Thg.text (List.getD l (Int.toNat (0:Int)) (dfl (Ty.st SN.thing))))):Int)+(↑(List.length (Thg.text (List.getD l (Int.toNat (1:Int)) (dfl (Ty.st SN.thing))))):Int))=true then (!decide ((ah (an nm l a)).f.err=(0:Int)))=true/\(3:Int)=(ah (an nm l a)).f.err/\a=(ah (an nm l a)).f.pos/\True else ((0:Int)<=(0:Int)/\(0:Int) < (↑(List.length l):Int))/\((0:Int)<=(1:Int)/\(1:Int) < (↑(List.length l):Int))/\List.length (Thg.text (List.getD l (Int.toNat (0:Int)) (dfl (Ty.st SN.thing))))+List.length (Thg.text (List.getD l (Int.toNat (1:Int)) (dfl (Ty.st SN.thing))))<=(9223372036854775807:Nat)/\(!decide ((ah (an nm l a)).f.err=(0:Int)))=false/\(2:Int)=Thg.kind (ah (an nm l a)).v/\(0:Int)=Thg.n (ah (an nm l a)).v/\[]=Thg.pkg (ah (an nm l a)).v/\Thg.text (List.getD l (Int.toNat (0:Int)) (dfl (Ty.st SN.thing)))++Thg.text (List.getD l (Int.toNat (1:Int)) (dfl (Ty.st SN.thing)))=Thg.text (ah (an nm l a)).v/\Thg.names (ah (an nm l a)).v=[]/\Thg.parts (ah (an nm l a)).v=[]/\Thg.fn (ah (an nm l a)).v=none/\True else if (!dx (1:Int) l)=true then (!decide ((ah (an nm l a)).f.err=(0:Int)))=true/\(291:Int)=(ah (an nm l a)).f.err/\a=(ah (an nm l a)).f.pos/\True else ((0:Int)<=(0:Int)/\(0:Int) < (↑(List.length l):Int))/\if decide (nm=[(115:UInt8),(104:UInt8),(111:UInt8),(119:UInt8)])=true then ((10:Int)=(10:Int)/\List.length (Lib.itoa (Thg.n (List.getD l (Int.toNat (0:Int)) (dfl (Ty.st SN.thing)))))<=(1000:Nat))/\(!decide ((ah (an nm l a)).f.err=(0:Int)))=false/\(2:Int)=Thg.kind (ah (an nm l a)).v/\(0:Int)=Thg.n (ah (an nm l a)).v/\[]=Thg.pkg (ah (an nm l a)).v/\Lib.itoa (Thg.n (List.getD l (Int.toNat (0:Int)) (dfl (Ty.st SN.thing))))=Thg.text (ah (an nm l a)).v/\Thg.names (ah (an nm l a)).v=[]/\Thg.parts (ah (an nm l a)).v=[]/\Thg.fn (ah (an nm l a)).v=none/\True else ((0:Int)<=(1:Int)/\(1:Int) < (↑(List.length l):Int))
  /\if decide (nm=[(97:UInt8),(100:UInt8),(100:UInt8)])=true then (!decide ((ah (an nm l a)).f.err=(0:Int)))=false/\(1:Int)=Thg.kind (ah (an nm l a)).v/\IntKind.wrap IntKind.i64 (Thg.n (List.getD l (Int.toNat (0:Int)) (dfl (Ty.st SN.thing)))+Thg.n (List.getD l (Int.toNat (1:Int)) (dfl (Ty.st SN.thing))))=Thg.n (ah (an nm l a)).v/\[]=Thg.pkg (ah (an nm l a)).v/\[]=Thg.text (ah (an nm l a)).v/\Thg.names (ah (an nm l a)).v=[]/\Thg.parts (ah (an nm l a)).v=[]/\Thg.fn (ah (an nm l a)).v=none/\True else if decide (nm=[(115:UInt8),(117:UInt8),(98:UInt8)])=true then (!decide ((ah (an nm l a)).f.err=(0:Int)))=false/\(1:Int)=Thg.kind (ah (an nm l a)).v/\IntKind.wrap IntKind.i64 (Thg.n (List.getD l (Int.toNat (0:Int)) (dfl (Ty.st SN.thing))) - Thg.n (List.getD l (Int.toNat (1:Int)) (dfl (Ty.st SN.thing))))=Thg.n (ah (an nm l a)).v/\[]=Thg.pkg (ah (an nm l a)).v/\[]=Thg.text (ah (an nm l a)).v/\Thg.names (ah (an nm l a)).v=[]/\Thg.parts (ah (an nm l a)).v=[]/\Thg.fn (ah (an nm l a)).v=none/\True else if decide (nm=[(109:UInt8),(117:UInt8),(108:UInt8)])=true then (!decide ((ah (an nm l a)).f.err=(0:Int)))=false/\(1:Int)=Thg.kind (ah (an nm l a)).v/\IntKind.wrap IntKind.i64 (Thg.n (List.getD l (Int.toNat (0:Int)) (dfl (Ty.st SN.thing))) *Thg.n (List.getD l (Int.toNat (1:Int)) (dfl (Ty.st SN.thing))))=Thg.n (ah (an nm l a)).v/\[]=Thg.pkg (ah (an nm l a)).v/\[]=Thg.text (ah (an nm l a)).v/\Thg.names (ah (an nm l a)).v=[]/\Thg.parts (ah (an nm l a)).v=[]/\Thg.fn (ah (an nm l a)).v=none/\True else if decide (nm=[(108:UInt8),(101:UInt8),(115:UInt8),(115:UInt8)])=true then (!decide ((ah (an nm l a)).f.err=(0:Int)))=false/\kW (decide (Thg.n (List.getD l (Int.toNat (0:Int)) (dfl (Ty.st SN.thing))) < Thg.n (List.getD l (Int.toNat (1:Int)) (dfl (Ty.st SN.thing)))))=(ah (an nm l a)).v/\True else (!decide ((ah (an nm l a)).f.err=(0:Int)))=false/\kW (decide (Thg.n (List.getD l (Int.toNat (0:Int)) (dfl (Ty.st SN.thing)))=Thg.n (List.getD l (Int.toNat (1:Int)) (dfl (Ty.st SN.thing)))))=(ah (an nm l a)).v/\True:=by
 obtain ⟨e,he⟩:=Option.isSome_iff_exists.1 ho
 simp only [he,ah]
 have hne:l≠[]:=by rintro rfl;simp [an] at he
 have h0:(0:Int) < (l.length:Int):=by have:=List.length_pos_iff.2 hne;omega
 unfold an at he
 rw [if_neg hne] at he
 refine aa (fun h=>?_) (fun h=>?_)
 ·rw [if_pos (Xo h)] at he
  refine aa (fun hk=>?_) (fun hk=>?_)
  ·cases kj he hk;exact ⟨rfl,rfl,rfl,trivial⟩
  refine aa (fun _=>?_) (fun h'=>absurd h h')
  cases di (iK he hk)
  exact ⟨⟨by omega,h0⟩,rfl,rfl,trivial⟩
 have hn:=h
 rw [if_neg (fun q=>h (Xd q))] at he
 refine aa (fun h=>?_) (fun h=>?_)
 ·rw [if_pos (Xo h)] at he
  refine aa (fun hk=>?_) (fun hk=>?_)
  ·cases kj he hk;exact ⟨rfl,rfl,rfl,trivial⟩
  refine aa (fun h'=>absurd h' hn) (fun _=>?_)
  obtain ⟨q,h2⟩:=tD (iK he hk)
  cases di q
  exact ⟨⟨by omega,h0⟩,⟨by omega,h2⟩,rfl,rfl,trivial⟩
 rw [if_neg (fun q=>h (Xd q))] at he
 have size:∀{r:Option Ev},(jx 2 l a (okE (xW (tH0 l).length) 0)=some e)→nm=[115,105,122,101]→True:=fun _ _=>trivial
 refine aa (fun h=>?_) (fun h=>?_)
 ·rw [if_pos (Xo h)] at he
  refine aa (fun hk=>?_) (fun hk=>?_)
  ·cases kj he hk;exact ⟨rfl,rfl,rfl,trivial⟩
  refine aa (fun h'=>?_) (fun _=>?_)
  ·have e1:=Xo h;rw [e1] at h';exact absurd (Xo h') (by decide)
  obtain ⟨q,h2⟩:=tD (iK he hk)
  unfold GC at q
  split at q
  ·cases q
  rename_i hb
  have b1:(tH0 l).length<=1000000000000000000:=by omega
  have b2:(tH1 l).length<=1000000000000000000:=by omega
  refine ⟨⟨by omega,h0⟩,⟨by omega,h2⟩,bc (by show (-9223372036854775808:Int)<=((tH0 l).length:Int)+((tH1 l).length:Int);omega) (by show ((tH0 l).length:Int)+((tH1 l).length:Int)<=9223372036854775807;omega),aa (fun hc=>?_) (fun hc=>?_)⟩
  ·have hc:(4096:Int) < ((tH0 l).length:Int)+((tH1 l).length:Int):=Xo hc
   rw [if_pos (by omega)] at q
   cases dz q
   exact ⟨rfl,rfl,rfl,trivial⟩
  ·have hc:¬(4096:Int) < ((tH0 l).length:Int)+((tH1 l).length:Int):=fun x=>hc (Xd x)
   rw [if_neg (by omega)] at q
   cases di q
   exact ⟨⟨by omega,h0⟩,⟨by omega,h2⟩,(by show (tH0 l).length+(tH1 l).length<=_;omega),rfl,rfl,rfl,rfl,rfl,rfl,rfl,rfl,trivial⟩
 rw [if_neg (fun q=>h (Xd q))] at he
 refine aa (fun h=>?_) (fun h=>?_)
 ·rw [if_pos (Xo h)] at he
  refine aa (fun hk=>?_) (fun hk=>?_)
  ·cases kj he hk;exact ⟨rfl,rfl,rfl,trivial⟩
  refine aa (fun _=>?_) (fun h'=>absurd h h')
  cases di (iK he hk)
  exact ⟨⟨by omega,h0⟩,rfl,rfl,rfl,rfl,rfl,rfl,rfl,rfl,trivial⟩
 rw [if_neg (fun q=>h (Xd q))] at he
 refine aa (fun hk=>?_) (fun hk=>?_)
 ·cases kj he hk;exact ⟨rfl,rfl,rfl,trivial⟩
 have q:=iK he hk
 unfold GD at q
 refine ⟨⟨by omega,h0⟩,aa (fun h=>?_) (fun h=>?_)⟩
 ·rw [if_pos (Xo h)] at q
  split at q
  ·cases q
  rename_i hb
  cases di q
  exact ⟨⟨trivial,by show (Lib.itoa (nH0 l)).length<=1000;omega⟩,rfl,rfl,rfl,rfl,rfl,rfl,rfl,rfl,trivial⟩
 rw [if_neg (fun x=>h (Xd x))] at q
 obtain ⟨q,h2⟩:=tD q
 refine ⟨⟨by omega,h2⟩,?_⟩
 have q:=di q
 refine aa (fun h=>?_) (fun h=>?_)
 ·rw [if_pos (Xo h)] at q;cases q;exact ⟨rfl,rfl,rfl,rfl,rfl,rfl,rfl,rfl,trivial⟩
 rw [if_neg (fun x=>h (Xd x))] at q
 refine aa (fun h=>?_) (fun h=>?_)
 ·rw [if_pos (Xo h)] at q;cases q;exact ⟨rfl,rfl,rfl,rfl,rfl,rfl,rfl,rfl,trivial⟩
 rw [if_neg (fun x=>h (Xd x))] at q
 refine aa (fun h=>?_) (fun h=>?_)
 ·rw [if_pos (Xo h)] at q;cases q;exact ⟨rfl,rfl,rfl,rfl,rfl,rfl,rfl,rfl,trivial⟩
 rw [if_neg (fun x=>h (Xd x))] at q
 refine aa (fun h=>?_) (fun h=>?_)
 ·rw [if_pos (Xo h)] at q;cases q;exact ⟨rfl,rfl,trivial⟩
 rw [if_neg (fun x=>h (Xd x))] at q
 cases q;exact ⟨rfl,rfl,trivial⟩
end Go.AL.Seat
end
