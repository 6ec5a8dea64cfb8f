/- The layer: Go code as conditions, and that they are sound. No condition. -/
import Derived.Test.YtdmbjejhifjhbaaGreatDoorT08
set_option linter.unusedVariables false
set_option linter.unusedSimpArgs false
set_option linter.unnecessarySimpa false
set_option linter.deprecated false
set_option linter.unusedSectionVars false
set_option maxRecDepth 100000
section
namespace Go.AL
variable [Tabs]
theorem eA:∀{cs:List AV} {j:Nat} {c:AV},cs[j]?=some c→∀i∈ids c,i∈ids.idsL cs
 | [],j,c,h,_,_=>by simp at h
 | a ::r,0,c,h,i,hi=>by
  simp at h
  subst h
  simp [ids.idsL,hi]
 | a ::r,j+1,c,h,i,hi=>by
  simp only [ids.idsL,List.mem_append]
  exact Or.inr (eA (by simpa using h) i hi)
theorem fZ (τ:Ty) (x:den τ):ids.idsL (cells τ x)=[]:=by
 cases τ with
 | st n=>cases n <;> rfl
 | _=>rfl
theorem D2 (τ:Ty) (xs:List (den τ)):∀c∈bg τ xs,ids c=[]:=by
 intro c hc
 simp only [bg,List.mem_flatMap] at hc
 obtain ⟨x,_,hx⟩:=hc
 obtain ⟨j,hj⟩:=List.getElem?_of_mem hx
 cases hi:ids c with
 | nil=>rfl
 | cons a r=>
  have:=eA hj a (by rw [hi];simp)
  rw [fZ] at this
  cases this
theorem nN {c:AV} {j:Nat} {c':AV} (hc:(aa c)[j]?=some c') (k:Nat) (hk:k∈ids c'):k∈ids c:=by
 cases c with
 | agg cs=>exact eA (cs:=cs) hc k hk
 | st n x=>
  have:=eA (cs:=cells (.st n) x) hc k hk
  rw [fZ] at this
  cases this
 | row τ xs=>
  rw [D2 τ xs c' (List.mem_of_getElem? hc)] at hk
  cases hk
 | _=>
  cases j with
  | zero=>simp [aa] at hc;subst hc;exact hk
  | succ j=>simp [aa] at hc
theorem V.agree {Ω:Om} {e':Nat→Option CObj} {a:AV} {v:Value} (h:V Ω a v):(∀i∈ids a,e' i=Ω.e i)→V ⟨e',Ω.w,Ω.pub⟩ a v:=by
 have tok:∀{o:Option Nat} {n:Nat} {v:Value},(∀i,o=some i→e' i=Ω.e i)→gx Ω o n v→gx ⟨e',Ω.w,Ω.pub⟩ o n v:=by
  intro o n v hi ht id hid
  obtain ⟨m,base,cap,h1,h2,h3⟩:=ht id hid
  exact ⟨m,base,cap,by simp only;rw [hi id hid,h1],h2,h3⟩
 induction h with
 | undef v=>exact fun _=>.undef v
 | int k n h1 h2=>exact fun _=>.int k n h1 h2
 | bool b=>exact fun _=>.bool b
 | str s h=>exact fun _=>.str s h
 | lstNil τ o ht=>exact fun hi=>.lstNil τ o (tok (fun i e=>hi i (by subst e;simp [ids])) ht)
 | lstVoid τ a=>exact fun _=>.lstVoid τ a
 | lst τ xs o b off cap vals h1 h2 h3 h4 h5 ih=>
  intro hi
  refine .lst τ xs o b off cap vals h1 h2 (tok (fun i e=>hi i (by subst e;simp [ids])) h3) h4 (fun i x hx j c hc=>ih i x hx j c hc (fun k hk=>?_))
  have:=eA hc k hk
  rw [fZ] at this
  cases this
 | nils=>exact fun _=>.nils
 | ptr id off b o len hb=>exact fun hi=>.ptr id off b o len (by simp only;rw [hi id (by simp [ids]),hb])
 | ptNone n=>exact fun _=>.ptNone n
 | ptSome n x v _ ih=>exact fun _=>.ptSome n x v (ih (fun k hk=>by simp [ids] at hk))
 | arr id n w b len cap a he h1 h2 h3 h4=>exact fun hi=>.arr id n w b len cap a (by simp only;rw [hi id (by simp [ids]),he]) h1 h2 h3 h4
 | aptr id i w off b o len he=>exact fun hi=>.aptr id i w off b o len (by simp only;rw [hi id (by simp [ids]),he])
 | map id r he=>exact fun hi=>.map id r (by simp only;rw [hi id (by simp [ids]),he])
 | bptr id b g he=>exact fun hi=>.bptr id b g (by simp only;rw [hi id (by simp [ids]),he])
 | iface t a v _ ih=>exact fun hi=>.iface t a v (ih (fun k hk=>hi k (by simp only [ids];exact hk)))
 | nilif=>exact fun _=>.nilif
 | lstp τ xs k b off cap vals h1 h2 h3 h4 h5 ih=>
  intro hi
  refine .lstp τ xs k b off cap vals h1 h2 (tok (fun i e=>hi i (by cases e;simp [ids])) h3) h4 (fun i x hx j c hc=>ih i x hx j c hc (fun k hk=>?_))
  have:=eA hc k hk
  rw [fZ] at this
  cases this
 | tptr τ n k p hp=>
  intro hi
  obtain ⟨m,base,cap,h1,h2⟩:=hp
  exact .tptr τ n k p ⟨m,base,cap,by simp only;rw [hi k (by simp [ids]),h1],h2⟩
 | st n x v _ ih=>exact fun hi=>.st n x v (ih (fun k hk=>by
   have e:ids (.agg (cells (.st n) x))=[]:=fZ (.st n) x
   rw [e] at hk
   cases hk))
 | cptr c b off vals h1 h2 ih=>exact fun hi=>.cptr c b off vals h1 (fun j c' hc=>ih j c' hc (fun k hk=>hi k (nN hc k hk)))
 | nilp=>exact fun _=>.nilp
 | agg cs vs hl _ ih=>exact fun hi=>.agg cs vs hl (fun j c v hc hv=>ih j c v hc hv (fun k hk=>hi k (by simp only [ids];exact eA hc k hk)))
 | tup cs vs hl _ ih=>exact fun hi=>.tup cs vs hl (fun j c v hc hv=>ih j c v hc hv (fun k hk=>hi k (by simp only [ids];exact eA hc k hk)))
 | fn f cs vs hl _ ih=>exact fun hi=>.fn f cs vs hl (fun j c v hc hv=>ih j c v hc hv (fun k hk=>hi k (by simp only [ids];exact eA hc k hk)))
theorem mT:∀(l:List (Nat × AV)) (i:Nat),bD l i=.undef∨(i,bD l i)∈l
 | [],i=>Or.inl rfl
 | (j,v) ::r,i=>by
  simp only [bD]
  by_cases h:j=i
  ·subst h;simp
  ·simp only [beq_iff_eq,h,if_false]
   rcases mT r i with k | k
   ·exact Or.inl k
   ·exact Or.inr (List.mem_cons_of_mem _ k)
theorem dN:∀(l:List (Nat × SObj)) (i:Nat) (o:SObj),ax l i=some o→(i,o)∈l
 | [],i,o,h=>by simp [ax] at h
 | (j,v) ::r,i,o,h=>by
  simp only [ax] at h
  by_cases hj:j=i
  ·subst hj;simp at h;simp [h]
  ·simp only [beq_iff_eq,hj,if_false] at h
   exact List.mem_cons_of_mem _ (dN r i o h)
theorem lf:∀(l:List (Nat × SObj)) (i:Nat),ax l i=none→i∉l.map (·.1)
 | [],i,_=>by simp
 | (j,v) ::r,i,h=>by
  simp only [ax] at h
  by_cases hj:j=i
  ·subst hj;simp at h
  ·simp only [beq_iff_eq,hj,if_false] at h
   have:=lf r i h
   simp only [List.map_cons,List.mem_cons,not_or]
   exact ⟨fun e=>hj e.symm,this⟩
theorem kE (l:List (Nat × AV)) (p:Nat→Bool) (i:Nat):bD (l.filter fun x=>p x.1) i=if p i then bD l i else .undef:=by
 induction l with
 | nil=>simp [bD]
 | cons x r ih=>
  obtain ⟨j,v⟩:=x
  by_cases hp:p j=true
  ·rw [List.filter_cons_of_pos (by simpa using hp)]
   simp only [bD,ih]
   by_cases hj:j=i
   ·subst hj;simp [hp]
   ·simp [hj]
  ·rw [List.filter_cons_of_neg (by simpa using hp),ih]
   by_cases hj:j=i
   ·subst hj;simp [hp]
   ·simp [bD,hj]
theorem iP (l:List (Nat × SObj)) (p:Nat→Bool) (i:Nat):ax (l.filter fun x=>p x.1) i=if p i then ax l i else none:=by
 induction l with
 | nil=>simp [ax]
 | cons x r ih=>
  obtain ⟨j,v⟩:=x
  by_cases hp:p j=true
  ·rw [List.filter_cons_of_pos (by simpa using hp)]
   simp only [ax,ih]
   by_cases hj:j=i
   ·subst hj;simp [hp]
   ·simp [hj]
  ·rw [List.filter_cons_of_neg (by simpa using hp),ih]
   by_cases hj:j=i
   ·subst hj;simp [hp]
   ·simp [ax,hj]
theorem Holds.forget {F:Fr} {s:AS} {s':St} {a:Act} {Ω:Om} {A:List Nat} (h:Holds F s a Ω) (hT:∀i,s'.abs.T i=.undef∨s'.abs.T i=s.T i)
  (hB:∀i,i∈A→s'.abs.B i=none) (hB':∀i,i∉A→s'.abs.B i=s.B i) (hn:eF A s'=true) (hA:∀i∈A,cD i=false) :
  ∃Ω',Ω'.w=Ω.w/\Holds F s'.abs a Ω':=by
 have hn':(∀x∈s'.t,∀i∈ids x.2,i∉A)/\(∀x∈s'.b,∀i∈xg x.2,i∉A):=by
  simp only [eF,Bool.and_eq_true,List.all_eq_true] at hn
  exact ⟨fun x hx=>ie (hn.1 x hx),fun x hx=>ie (hn.2 x hx)⟩
 have he:∀i,i∉A→(fun i=>if i∈A then none else Ω.e i) i=Ω.e i:=fun i hi=>by simp [hi]
 refine ⟨⟨fun i=>if i∈A then none else Ω.e i,Ω.w,Ω.pub⟩,rfl,fun i=>?_,h.size,h.defers,fun id o ho=>?_,fun id hid=>?_,fun i j ci cj b o hi hj hbi hbj=>?_,h.pubok,fun id c hc=>?_,?_⟩
 ·rcases mT s'.t i with k | k
  ·have:s'.abs.T i=.undef:=k
   rw [this]
   exact .undef _
  ·rcases hT i with hu | hu
   ·rw [hu];exact .undef _
   ·refine V.agree (Ω:=Ω) ?_ (fun j hj=>he j (hn'.1 _ k j hj))
    have:=h.tmps i
    rw [←hu] at this
    exact this
 ·have hid:id∉A:=fun hm=>by rw [hB id hm] at ho;cases ho
  have hs:=h.slots id o (by rw [←hB' id hid];exact ho)
  have hm:=hn'.2 _ (dN _ _ _ ho)
  cases o with
  | box c=>
   obtain ⟨b,off,h1,h2⟩:=hs
   refine ⟨b,off,by simp only [if_neg hid,h1],fun j c' hc=>?_⟩
   obtain ⟨k1,k2,k3,v,k4,k5⟩:=h2 j c' hc
   exact ⟨k1,k2,k3,v,k4,k5.agree (fun j hj=>he j (hm j (nN hc j hj)))⟩
  | tail τ n=>
   obtain ⟨base,cap,h1,h2⟩:=hs
   exact ⟨base,cap,by simp only [if_neg hid,h1],h2⟩
  | map κ τ m=>
   obtain ⟨r,h1,h2,es,clock,h3,h4⟩:=hs
   exact ⟨r,by simp only [if_neg hid,h1],h2,es,clock,h3,h4.data⟩
  | bld t u l=>
   obtain ⟨b,g,h1,h2,h3⟩:=hs
   exact ⟨b,g,by simp only [if_neg hid,h1],h2,h3⟩
  | tailp τ n x=>
   obtain ⟨b,cap,h1,h2,h3,h4,h5,h6,h7⟩:=hs
   refine ⟨b,cap,by simp only [if_neg hid,h1],h2,h3,h4,h5,h6,fun j c hc=>?_⟩
   obtain ⟨v,g1,g2⟩:=h7 j c hc
   refine ⟨v,g1,g2.agree (fun i hi=>?_)⟩
   have:=eA hc i hi
   rw [fZ] at this
   cases this
 ·by_cases hA:id∈A
  ·simp [hA]
  ·simp only [if_neg hA]
   exact h.dom id (by rw [←hB' id hA];exact hid)
 ·by_cases hi':i∈A
  ·simp [hi'] at hi
  ·by_cases hj':j∈A
   ·simp [hj'] at hj
   ·simp only [if_neg hi'] at hi
    simp only [if_neg hj'] at hj
    exact h.inj i j ci cj b o hi hj hbi hbj
 ·have hl:=F.dom0 id c hc
  have hid:id∉A:=fun hm=>by rw [hA id hm] at hl;cases hl
  obtain ⟨c',h1,h2⟩:=h.keep id c hc
  exact ⟨c',by simp only [if_neg hid];exact h1,h2⟩
 ·exact ⟨h.frame.os,h.frame.tape,h.frame.output,h.frame.size,h.frame.block,h.frame.cell,h.frame.kind,h.frame.pub,h.frame.old,h.frame.pcell⟩
theorem Gx {A:List Nat} {i:Nat} (h:i∈A):¬((!A.contains i)=true):=by simp [h]
theorem Fg {A:List Nat} {i:Nat} (h:i∉A):(!A.contains i)=true:=by simp [h]
theorem vk {F:Fr} {ops:List Oper} {s s':St} {a:Act} {Ω:Om} (h:Holds F s.abs a Ω) (he:enter ops s=some s') :
  ∃Ω',Ω'.w=Ω.w/\Holds F s'.abs a Ω':=by
 simp only [enter] at he
 generalize hA:((s.b.map (·.1)).filter fun i=>CE (uI ops) (zG ops) i && !cD i)=A at he
 have hAl:∀i∈A,cD i=false:=by
  intro i hi
  rw [←hA] at hi
  simp only [List.mem_filter,Bool.and_eq_true,Bool.not_eq_true'] at hi
  exact hi.2.2
 split at he
 ·simp at he;subst he;exact ⟨Ω,rfl,h⟩
 ·split at he
  ·rename_i hn
   simp only [Xs] at he
   subst he
   refine h.forget (A:=A) (fun i=>?_) (fun i hi=>?_) (fun i hi=>?_) hn hAl
   ·have:=kE s.t (fun i=>!A.contains i) i
    simp only [St.abs]
    rw [this]
    split <;> simp
   ·have:=iP s.b (fun i=>!A.contains i) i
    simp only [St.abs]
    rw [this,if_neg (Gx hi)]
   ·have:=iP s.b (fun i=>!A.contains i) i
    simp only [St.abs]
    rw [this,if_pos (Fg hi)]
  ·simp at he
theorem mU {G:List Nat}:∀{cs ds:List AV},LeL G cs ds→cs.length=ds.length/\∀(j:Nat) (c d:AV),cs[j]?=some c→ds[j]?=some d→LeV G c d
 | [],[],_=>⟨rfl,fun j c d h=>by simp at h⟩
 | [],_ ::_,h=>by simp [LeL] at h
 | _ ::_,[],h=>by simp [LeL] at h
 | a ::r,b ::s,h=>by
  simp only [LeL] at h
  obtain ⟨h1,h2⟩:=mU h.2
  refine ⟨by simp [h1],fun j c d hc hd=>?_⟩
  cases j with
  | zero=>simp at hc hd;subst hc hd;exact h.1
  | succ j=>exact h2 j c d (by simpa using hc) (by simpa using hd)
theorem kF {G:List Nat}:∀{cs ds:List AV},uJ G cs ds→cs.length=ds.length/\∀(j:Nat) (c d:AV),cs[j]?=some c→ds[j]?=some d→LeF G c d
 | [],[],_=>⟨rfl,fun j c d h=>by simp at h⟩
 | [],_ ::_,h=>by simp [uJ] at h
 | _ ::_,[],h=>by simp [uJ] at h
 | a ::r,b ::s,h=>by
  simp only [uJ] at h
  obtain ⟨h1,h2⟩:=kF h.2
  refine ⟨by simp [h1],fun j c d hc hd=>?_⟩
  cases j with
  | zero=>simp at hc hd;subst hc hd;exact h.1
  | succ j=>exact h2 j c d (by simpa using hc) (by simpa using hd)
theorem V.leF {Ω:Om} {G:List Nat} (hG:∀k∈G,Ω.e k=some (.tail 0 none 0)) {a:AV} {v:Value} (h:V Ω a v) {b:AV} (hb:LeF G a b):V Ω b v:=by
 cases b with
 | undef=>exact .undef v
 | int k n=>
  cases a <;> simp [LeF] at hb
  obtain ⟨rfl,rfl⟩:=hb
  exact h
 | bool b=>cases a <;> simp [LeF] at hb;subst hb;exact h
 | str b=>cases a <;> simp [LeF] at hb;subst hb;exact h
 | nilp=>cases a <;> simp [LeF] at hb;exact h
 | nilif=>cases a <;> simp [LeF] at hb;exact h
 | map i=>cases a <;> simp [LeF] at hb;subst hb;exact h
 | bptr i=>cases a <;> simp [LeF] at hb;subst hb;exact h
 | arr i n w=>cases a <;> simp [LeF] at hb;obtain ⟨⟨rfl,rfl⟩,rfl⟩:=hb;exact h
 | aptr i n w o=>cases a <;> simp [LeF] at hb;obtain ⟨⟨rfl,rfl,rfl⟩,rfl⟩:=hb;exact h
 | row τ xs=>cases h <;> simp [LeF] at hb
 | lstp τ xs k=>cases a <;> simp [LeF] at hb
 | tptr τ n k=>cases a <;> simp [LeF] at hb
 | iface t c=>cases a <;> simp [LeF] at hb
 | pt m y=>
  cases a with
  | pt n x=>
   simp only [LeF] at hb
   split at hb
   ·rename_i x' hx
    obtain ⟨e,e2⟩:=pR hx
    subst e
    simp only at e2
    subst e2
    subst hb
    exact h
   ·exact hb.elim
  | nilp=>
   simp [LeF] at hb
   subst hb
   cases h
   exact .ptNone m
  | _=>simp [LeF] at hb
 | nils=>cases a <;> simp [LeF] at hb;exact h
 | ptr i o=>cases a <;> simp [LeF] at hb;obtain ⟨rfl,rfl⟩:=hb;exact h
 | cptr c=>cases a <;> simp [LeF] at hb
 | agg c=>cases a <;> simp [LeF] at hb
 | tup c=>cases a <;> simp [LeF] at hb
 | fn f c=>cases a <;> simp [LeF] at hb
 | st m y=>
  cases a with
  | st n x=>
   simp only [LeF] at hb
   split at hb
   ·rename_i x' hx
    obtain ⟨e,e2⟩:=kx hx
    subst e
    simp only at e2
    subst e2
    subst hb
    exact h
   ·exact hb.elim
  | _=>simp [LeF] at hb
 | lst σ ys p=>
  cases a with
  | lst τ xs o=>
   simp only [LeF] at hb
   obtain ⟨k1,k2⟩:=hb
   have hp:∀id,p=some id→o=some id:=by
    intro id hid
    have:p=none∨p=o:=by
     rcases Classical.em (p=none∨p=o) with k | k
     ·exact k
     ·rw [if_neg k] at k2;exact k2.elim
    rcases this with k | k
    ·rw [k] at hid;cases hid
    ·rw [←k];exact hid
   split at k1
   ·rename_i xs' hx
    obtain ⟨e,e2⟩:=jd hx
    subst e
    simp only at e2
    subst e2
    subst k1
    cases h with
    | lstNil _ _ ht=>exact .lstNil _ p (fun id hid=>ht id (hp id hid))
    | lstVoid _ a=>
     cases p with
     | none=>exact .lstVoid _ a
     | some k=>exact absurd (hp k rfl) (by simp)
    | lst _ _ _ b' off cap vals h1 h2 h3 h4 h5=>exact .lst _ _ p b' off cap vals h1 h2 (fun id hid=>h3 id (hp id hid)) h4 h5
   ·exact k1.elim
  | nils=>
   simp only [LeF] at hb
   obtain ⟨h1,h2⟩:=hb
   subst h2
   cases h
   refine .lstNil σ p (fun id hid=>?_)
   subst hid
   simp only at h1
   have hk:id∈G:=by
    rcases Classical.em (G.contains id=true) with k | k
    ·simpa using k
    ·rw [if_neg k] at h1;exact h1.elim
   exact ⟨0,none,0,hG id hk,Nat.le_refl _,fun _=>rfl⟩
  | _=>simp [LeF] at hb
theorem pe {G:List Nat} {a b:AV} (h:LeF G a b):LeV G a b:=by
 cases a <;> cases b <;> first | exact h | exact h.elim
theorem vl {G:List Nat} {c d:AV} (h0:uK c d) (h:LeV G c d):(aa c).length=(aa d).length/\
  ∀(j:Nat) (c' d':AV),(aa c)[j]?=some c'→(aa d)[j]?=some d'→(c'=d'∨LeV G c' d'):=by
 have one:∀{c d:AV},aa c=[c]→aa d=[d]→LeV G c d→(aa c).length=(aa d).length/\
   ∀(j:Nat) (c' d':AV),(aa c)[j]?=some c'→(aa d)[j]?=some d'→(c'=d'∨LeV G c' d'):=by
  intro c d hc hd h
  rw [hc,hd]
  refine ⟨rfl,fun j c' d' h1 h2=>?_⟩
  cases j with
  | zero=>simp at h1 h2;subst h1 h2;exact Or.inr h
  | succ j=>simp at h1
 cases c with
 | agg cs=>
  cases d with
  | agg ds=>
   obtain ⟨l1,l2⟩:=mU (cs:=cs) (ds:=ds) h
   exact ⟨l1,fun j c' d' h1 h2=>Or.inr (l2 j c' d' h1 h2)⟩
  | st m y=>
   obtain ⟨l1,l2⟩:=kF (cs:=cs) (ds:=cells (.st m) y) h
   exact ⟨l1,fun j c' d' h1 h2=>Or.inr (pe (l2 j c' d' h1 h2))⟩
  | undef=>exact h0.elim
  | _=>exact h.elim
 | st n x=>
  cases d with
  | agg ds=>
   obtain ⟨l1,l2⟩:=kF (cs:=cells (.st n) x) (ds:=ds) h
   exact ⟨l1,fun j c' d' h1 h2=>Or.inr (pe (l2 j c' d' h1 h2))⟩
  | st m y=>
   have h':(match mD n m x with | some x=>x=y | none=>False):=h
   split at h'
   ·rename_i x' hx
    obtain ⟨e,e2⟩:=kx hx
    subst e
    simp only at e2
    subst e2
    subst h'
    exact ⟨rfl,fun j c' d' h1 h2=>Or.inl (by rw [h1] at h2;exact Option.some.inj h2)⟩
   ·exact h'.elim
  | undef=>exact h0.elim
  | _=>exact h.elim
 | row τ xs=>
  cases d with
  | row σ ys=>
   have h':(match kf τ σ xs with | some xs=>xs=ys | none=>False):=h
   split at h'
   ·rename_i x' hx
    obtain ⟨e,e2⟩:=jd hx
    subst e
    simp only at e2
    subst e2
    subst h'
    exact ⟨rfl,fun j c' d' h1 h2=>Or.inl (by rw [h1] at h2;exact Option.some.inj h2)⟩
   ·exact h'.elim
  | undef=>exact h0.elim
  | _=>exact h.elim
 | _=>
  cases d with
  | agg ds=>exact h.elim
  | st m y=>exact h.elim
  | row τ xs=>exact h.elim
  | _=>exact one rfl rfl h
theorem V.le {Ω:Om} {G:List Nat} (hG:∀k∈G,Ω.e k=some (.tail 0 none 0)) {a:AV} {v:Value} (h:V Ω a v):∀{b:AV},LeV G a b→V Ω b v:=by
 have part:∀{cs ds:List AV} {vs:List Value},cs.length=ds.length→(∀(j:Nat) (c:AV) (v:Value),cs[j]?=some c→vs[j]?=some v→∀{b:AV},LeV G c b→V Ω b v)→
   (∀(j:Nat) (c d:AV),cs[j]?=some c→ds[j]?=some d→LeV G c d)→∀(j:Nat) (d:AV) (v:Value),ds[j]?=some d→vs[j]?=some v→V Ω d v:=by
  intro cs ds vs hl ih l2 j d v hd hv
  have:j < cs.length:=by
   rw [hl]
   rcases Nat.lt_or_ge j ds.length with k | k
   ·exact k
   ·rw [List.getElem?_eq_none k] at hd;cases hd
  exact ih j _ v (List.getElem?_eq_getElem this) hv (l2 j _ d (List.getElem?_eq_getElem this) hd)
 induction h with
 | undef v=>intro b hb;exact (V.undef v).leF hG (by cases b <;> exact hb)
 | int k n h1 h2=>intro b hb;exact (V.int k n h1 h2).leF hG (by cases b <;> exact hb)
 | bool b'=>intro b hb;exact (V.bool b').leF hG (by cases b <;> exact hb)
 | str s h=>intro b hb;exact (V.str s h).leF hG (by cases b <;> exact hb)
 | lstNil τ o ht=>intro b hb;exact (V.lstNil τ o ht).leF hG (by cases b <;> exact hb)
 | lstVoid τ a=>intro b hb;exact (V.lstVoid τ a).leF hG (by cases b <;> exact hb)
 | lst τ xs o b' off cap vals h1 h2 h3 h4 h5 ih=>intro b hb;exact (V.lst τ xs o b' off cap vals h1 h2 h3 h4 h5).leF hG (by cases b <;> exact hb)
 | nils=>intro b hb;exact V.nils.leF hG (by cases b <;> exact hb)
 | ptr id off b' o len hb'=>intro b hb;exact (V.ptr id off b' o len hb').leF hG (by cases b <;> exact hb)
 | nilp=>intro b hb;exact V.nilp.leF hG (by cases b <;> exact hb)
 | ptNone n=>intro b hb;exact (V.ptNone n).leF hG (by cases b <;> exact hb)
 | ptSome n x v hv _=>intro b hb;exact (V.ptSome n x v hv).leF hG (by cases b <;> exact hb)
 | arr id n w b' len cap a he h1 h2 h3 h4=>intro b hb;exact (V.arr id n w b' len cap a he h1 h2 h3 h4).leF hG (by cases b <;> exact hb)
 | aptr id i w off b' o len he=>intro b hb;exact (V.aptr id i w off b' o len he).leF hG (by cases b <;> exact hb)
 | map id r he=>intro b hb;exact (V.map id r he).leF hG (by cases b <;> exact hb)
 | bptr id b' g he=>intro b hb;exact (V.bptr id b' g he).leF hG (by cases b <;> exact hb)
 | nilif=>intro b hb;exact V.nilif.leF hG (by cases b <;> exact hb)
 | lstp τ xs k b' off cap vals h1 h2 h3 h4 h5 ih=>intro b hb;exact (V.lstp τ xs k b' off cap vals h1 h2 h3 h4 h5).leF hG (by cases b <;> exact hb)
 | tptr τ n k p hp=>intro b hb;exact (V.tptr τ n k p hp).leF hG (by cases b <;> exact hb)
 | iface t a v hv ih=>
  intro b hb
  cases b with
  | iface u d=>
   simp only [LeV] at hb
   obtain ⟨h0,hb⟩:=hb
   have htu:t=u:=by
    rcases Classical.em (t=u) with k | k
    ·exact k
    ·rw [if_neg k] at h0;exact h0.elim
   subst htu
   exact .iface t d v (ih hb)
  | undef=>exact .undef _
  | _=>exact hb.elim
 | st n x v hv ih=>
  intro b hb
  cases b with
  | agg ds=>
   obtain ⟨vs,rfl,hvl⟩:=hv.agg_inv
   obtain ⟨l1,l2⟩:=kF (cs:=cells (.st n) x) (ds:=ds) hb
   refine .agg ds vs (by rw [←l1,hvl.1]) (fun j d u hd hu=>?_)
   have:j < (cells (.st n) x).length:=by
    rw [l1]
    rcases Nat.lt_or_ge j ds.length with k | k
    ·exact k
    ·rw [List.getElem?_eq_none k] at hd;cases hd
   exact (hvl.2 j _ u (List.getElem?_eq_getElem this) hu).leF hG (l2 j _ d (List.getElem?_eq_getElem this) hd)
  | _=>exact (V.st n x v hv).leF hG hb
 | cptr c b' off vals h1 h2 ih=>
  intro b hb
  cases b with
  | cptr d=>
   simp only [LeV] at hb
   obtain ⟨l1,l2⟩:=vl hb.1 hb.2
   have hc:∀(j:Nat) (d':AV),(aa d)[j]?=some d'→∃c',(aa c)[j]?=some c':=by
    intro j d' hd
    have:j < (aa c).length:=by
     rw [l1]
     rcases Nat.lt_or_ge j (aa d).length with k | k
     ·exact k
     ·rw [List.getElem?_eq_none k] at hd;cases hd
    exact ⟨_,List.getElem?_eq_getElem this⟩
   refine .cptr d b' off vals (fun j d' hd=>?_) (fun j d' hd=>?_)
   ·obtain ⟨c',hcj⟩:=hc j d' hd
    exact h1 j c' hcj
   ·obtain ⟨c',hcj⟩:=hc j d' hd
    rcases l2 j c' d' hcj hd with rfl | k
    ·exact h2 j c' hcj
    ·exact ih j c' hcj k
  | pt m y=>
   cases c with
   | st n x=>
    have hb':(match mD n m x with | some x=>some x=y | none=>False):=hb
    split at hb'
    ·rename_i x' hx
     obtain ⟨e,e2⟩:=kx hx
     subst e
     simp only at e2
     subst e2
     subst hb'
     exact .ptSome _ _ _ (.cptr _ b' off vals h1 h2)
    ·exact hb'.elim
   | _=>exact hb.elim
  | undef=>exact .undef _
  | _=>exact hb.elim
 | agg cs vs hl hv ih=>
  intro b hb
  cases b with
  | agg ds=>
   obtain ⟨l1,l2⟩:=mU (cs:=cs) (ds:=ds) hb
   exact .agg ds vs (by rw [←l1,hl]) (part l1 ih l2)
  | st m y=>
   obtain ⟨l1,l2⟩:=kF (cs:=cs) (ds:=cells (.st m) y) hb
   exact .st m y _ (.agg _ vs (by rw [←l1,hl]) (part l1 ih (fun j c d h1 h2=>pe (l2 j c d h1 h2))))
  | undef=>exact .undef _
  | _=>exact hb.elim
 | tup cs vs hl hv ih=>
  intro b hb
  cases b with
  | tup ds=>
   obtain ⟨l1,l2⟩:=mU (cs:=cs) (ds:=ds) hb
   exact .tup ds vs (by rw [←l1,hl]) (part l1 ih l2)
  | undef=>exact .undef _
  | _=>exact hb.elim
 | fn f cs vs hl hv ih=>
  intro b hb
  cases b with
  | fn g ds=>
   simp only [LeV] at hb
   obtain ⟨h0,hb⟩:=hb
   have hfg:f=g:=by
    rcases Classical.em (f=g) with k | k
    ·exact k
    ·rw [if_neg k] at h0;exact h0.elim
   subst hfg
   obtain ⟨l1,l2⟩:=mU hb
   exact .fn f ds vs (by rw [←l1,hl]) (part l1 ih l2)
  | undef=>exact .undef _
  | _=>exact hb.elim
theorem D3 {G:List Nat} {s:St}:∀{l:List (Nat × AV)},LeT G s l→∀i,bD l i=.undef∨LeV G (bD s.t i) (bD l i)
 | [],_,i=>Or.inl rfl
 | (j,v) ::r,h,i=>by
  simp only [LeT] at h
  simp only [bD]
  by_cases hj:j=i
  ·subst hj;simp [h.1]
  ·simp only [beq_iff_eq,hj,if_false]
   exact D3 h.2 i
theorem qd {G:List Nat} {s:St}:∀{l:List (Nat × SObj)},LeB G s l→∀i o,ax l i=some o→
  (∃c d,o=.box d/\ax s.b i=some (.box c)/\uK c d/\LeV G c d)∨
  (∃τ n,o=.tail τ n/\(ax s.b i=some (.tail τ n)∨(ax s.b i=none/\n=0)))∨
  (∃κ τ m,o=.map κ τ m/\ax s.b i=some (.map κ τ m))∨
  (∃t u l,o=.bld t u l/\ax s.b i=some (.bld t u l))
 | [],_,i,o,ho=>by simp [ax] at ho
 | (j,.box d) ::r,h,i,o,ho=>by
  simp only [LeB] at h
  simp only [ax] at ho
  by_cases hj:j=i
  ·subst hj
   simp at ho
   subst ho
   have h1:=h.1
   split at h1
   ·rename_i c hc
    exact Or.inl ⟨c,d,rfl,hc,h1⟩
   ·exact h1.elim
  ·simp only [beq_iff_eq,hj,if_false] at ho
   exact qd h.2 i o ho
 | (j,.bld t u l) ::r,h,i,o,ho=>by
  simp only [LeB] at h
  simp only [ax] at ho
  by_cases hj:j=i
  ·subst hj
   simp at ho
   subst ho
   have h1:=h.1
   split at h1
   ·rename_i t' u' l' hm
    split at h1
    ·rename_i e
     obtain ⟨rfl,rfl⟩:=e
     subst h1
     exact Or.inr (Or.inr (Or.inr ⟨_,_,_,rfl,hm⟩))
    ·exact h1.elim
   ·exact h1.elim
  ·simp only [beq_iff_eq,hj,if_false] at ho
   exact qd h.2 i o ho
 | (j,.map κ τ m) ::r,h,i,o,ho=>by
  simp only [LeB] at h
  simp only [ax] at ho
  by_cases hj:j=i
  ·subst hj
   simp at ho
   subst ho
   have h1:=h.1
   split at h1
   ·rename_i κ' τ' m' hm
    split at h1
    ·rename_i m2 hc
     unfold CI at hc
     split at hc
     ·rename_i e
      obtain ⟨rfl,rfl⟩:=e
      simp at hc
      subst hc
      subst h1
      exact Or.inr (Or.inr (Or.inl ⟨_,_,_,rfl,hm⟩))
     ·cases hc
    ·exact h1.elim
   ·exact h1.elim
  ·simp only [beq_iff_eq,hj,if_false] at ho
   exact qd h.2 i o ho
 | (j,.tail τ n) ::r,h,i,o,ho=>by
  simp only [LeB] at h
  simp only [ax] at ho
  by_cases hj:j=i
  ·subst hj
   simp at ho
   subst ho
   have h1:=h.1
   split at h1
   ·rename_i σ m hm
    split at h1
    ·rename_i e
     subst e
     subst h1
     exact Or.inr (Or.inl ⟨_,_,rfl,Or.inl hm⟩)
    ·exact h1.elim
   ·rename_i hm
    exact Or.inr (Or.inl ⟨τ,n,rfl,Or.inr ⟨hm,h1⟩⟩)
   ·exact h1.elim
  ·simp only [beq_iff_eq,hj,if_false] at ho
   exact qd h.2 i o ho
theorem Holds.begin {F:Fr} {s:AS} {a:Act} {Ω:Om} (h:Holds F s a Ω) (G:List Nat) (hG:∀k∈G,s.B k=none) (ty:Nat→Ty) :
  ∃Ω',Ω'.w=Ω.w/\Holds F ⟨s.T,fun i=>if i∈G then some (.tail (ty i) 0) else s.B i⟩ a Ω'/\∀k∈G,Ω'.e k=some (.tail 0 none 0):=by
 have hx:Ext Ω ⟨fun i=>if i∈G then some (.tail 0 none 0) else Ω.e i,Ω.w,Ω.pub⟩:=by
  refine ⟨fun id c hc=>⟨c,?_,CLe.refl c⟩,fun _ _ p=>p,fun _ _ _=>rfl⟩
  have:id∉G:=fun hm=>by rw [h.dom id (hG id hm)] at hc;cases hc
  simp [this,hc]
 refine ⟨⟨fun i=>if i∈G then some (.tail 0 none 0) else Ω.e i,Ω.w,Ω.pub⟩,rfl,⟨fun i=>(h.tmps i).ext hx,h.size,h.defers,fun id o ho=>?_,fun id hid=>?_,fun i j ci cj b o hi hj hbi hbj=>?_,h.pubok,fun id c hc=>let ⟨c1,h1,l1⟩:=h.keep id c hc;let ⟨c2,h2,l2⟩:=hx.e id c1 h1;⟨c2,h2,l1.trans l2⟩,?_⟩,fun k hk=>by simp [hk]⟩
 ·by_cases hm:id∈G
  ·simp only [if_pos hm,Xs] at ho
   subst ho
   exact ⟨none,0,by simp [hm],Nat.le_refl _,by unfold ck;omega,fun _=>rfl,fun b hb=>by simp at hb⟩
  ·simp only [if_neg hm] at ho
   exact (h.slots id o ho).keep hx (by simp [hm]) (fun _ _=>mL.of_blocks fun _ _ _=>⟨rfl,fun _ p=>p⟩)
 ·by_cases hm:id∈G
  ·simp [hm] at hid
  ·simp only [if_neg hm] at hid ⊢
   exact h.dom id hid
 ·by_cases hi':i∈G
  ·simp only [if_pos hi',Xs] at hi
   subst hi
   cases hbi
  ·by_cases hj':j∈G
   ·simp only [if_pos hj',Xs] at hj
    subst hj
    cases hbj
   ·simp only [if_neg hi'] at hi
    simp only [if_neg hj'] at hj
    exact h.inj i j ci cj b o hi hj hbi hbj
 ·exact ⟨h.frame.os,h.frame.tape,h.frame.output,h.frame.size,h.frame.block,h.frame.cell,h.frame.kind,h.frame.pub,h.frame.old,h.frame.pcell⟩
theorem dh {b:Bool} {k:Prop} (h:chk b k):b=true/\k:=by
 cases b with
 | true=>exact ⟨rfl,h⟩
 | false=>exact h.elim
theorem zO {G:List Nat} {a b:AV} {k:Prop} (h:cF G a b k):LeF G a b/\k:=by
 unfold cF at h
 split at h
 ·exact ⟨by cases a <;> trivial,h⟩
 ·obtain ⟨h1,h2,h3⟩:=dh h
  simp only [decide_eq_true_eq] at h1
  exact ⟨by simp only [LeF,h1,if_true];exact h2,h3⟩
 ·exact h
 ·exact h
 ·split at h
  ·rename_i hc
   obtain ⟨h1,h2,h3⟩:=dh h
   simp only [decide_eq_true_eq] at h1
   exact ⟨by simp only [LeF,hc];exact ⟨h2,by rw [if_pos h1];trivial⟩,h3⟩
  ·exact h.elim
 ·split at h
  ·exact ⟨by simp only [LeF];exact ⟨trivial,h.1⟩,h.2⟩
  ·obtain ⟨h1,h2,h3⟩:=dh h
   exact ⟨by simp only [LeF,h1,if_true];exact ⟨trivial,h2⟩,h3⟩
 ·exact ⟨trivial,h⟩
 ·exact ⟨trivial,h⟩
 ·obtain ⟨h1,h2⟩:=dh h
  simp only [decide_eq_true_eq] at h1
  exact ⟨by simp only [LeF];rw [if_pos h1];trivial,h2⟩
 ·split at h
  ·rename_i hc
   exact ⟨by simp only [LeF,hc];exact h.1,h.2⟩
  ·exact h.elim
 ·split at h
  ·rename_i hc
   exact ⟨by simp only [LeF,hc];exact h.1,h.2⟩
  ·exact h.elim
 ·obtain ⟨h1,h2,h3⟩:=dh h
  simp only [decide_eq_true_eq] at h1
  exact ⟨by simp only [LeF];rw [if_pos h1];exact h2,h3⟩
 ·obtain ⟨h1,h2,h3⟩:=dh h
  simp only [decide_eq_true_eq] at h1
  exact ⟨by simp only [LeF];rw [if_pos h1];exact h2,h3⟩
 ·obtain ⟨h1,h2⟩:=dh h
  simp only [decide_eq_true_eq] at h1
  exact ⟨by simp only [LeF];rw [if_pos h1];trivial,h2⟩
 ·obtain ⟨h1,h2⟩:=dh h
  simp only [decide_eq_true_eq] at h1
  exact ⟨by simp only [LeF];rw [if_pos h1];trivial,h2⟩
 ·split at h
  ·rename_i hc
   exact ⟨by simp only [LeF,hc];exact h.1,h.2⟩
  ·exact h.elim
 ·exact ⟨by simp only [LeF];exact h.1,h.2⟩
 ·exact ⟨trivial,h⟩
 ·exact h.elim
theorem qe {G:List Nat} {k:Prop}:∀{cs ds:List AV},cFs G cs ds k→uJ G cs ds/\k
 | [],[],h=>⟨trivial,h⟩
 | a ::r,b ::s,h=>let ⟨h1,h2⟩:=zO (k:=cFs G r s k) h;let ⟨h3,h4⟩:=qe h2;⟨⟨h1,h3⟩,h4⟩
 | [],_ ::_,h=>h.elim
 | _ ::_,[],h=>h.elim
theorem oB {c d:AV} (h:t7 c d=true):uK c d:=by
 cases c <;> cases d <;> first | trivial | (simp [t7] at h)
mutual
theorem cV_spec {G:List Nat}:∀{a b:AV} {k:Prop},cV G a b k→LeV G a b/\k:=by
 intro a b k h
 unfold cV at h
 split at h
 ·rename_i c d
  obtain ⟨h1,h2⟩:=dh h
  obtain ⟨h3,h4⟩:=cV_spec (a:=c) (b:=d) h2
  exact ⟨by simp only [LeV];exact ⟨oB h1,h3⟩,h4⟩
 ·split at h
  ·rename_i hc
   exact ⟨by simp only [LeV,hc];exact h.1,h.2⟩
  ·exact h.elim
 ·rename_i t a u b
  obtain ⟨h1,h2⟩:=dh h
  obtain ⟨h3,h4⟩:=cV_spec (a:=a) (b:=b) h2
  exact ⟨by simp only [LeV];exact ⟨by rw [if_pos (Nat.eq_of_beq_eq_true h1)];trivial,h3⟩,h4⟩
 ·obtain ⟨h1,h2⟩:=qe h
  exact ⟨by simp only [LeV];exact h1,h2⟩
 ·obtain ⟨h1,h2⟩:=qe h
  exact ⟨by simp only [LeV];exact h1,h2⟩
 ·rename_i cs ds
  obtain ⟨h1,h2⟩:=cL_spec (cs:=cs) (ds:=ds) h
  exact ⟨by simp only [LeV];exact h1,h2⟩
 ·rename_i cs ds
  obtain ⟨h1,h2⟩:=cL_spec (cs:=cs) (ds:=ds) h
  exact ⟨by simp only [LeV];exact h1,h2⟩
 ·rename_i f cs g ds
  obtain ⟨h0,h⟩:=dh h
  obtain ⟨h1,h2⟩:=cL_spec (cs:=cs) (ds:=ds) h
  exact ⟨by simp only [LeV];exact ⟨by rw [if_pos (Nat.eq_of_beq_eq_true h0)];trivial,h1⟩,h2⟩
 ·obtain ⟨h1,h2⟩:=zO h
  exact ⟨pe h1,h2⟩
theorem cL_spec {G:List Nat}:∀{cs ds:List AV} {k:Prop},cL G cs ds k→LeL G cs ds/\k
 | [],[],k,h=>by simp only [cL] at h;exact ⟨by simp only [LeL],h⟩
 | a ::r,b ::s,k,h=>by
  simp only [cL] at h
  obtain ⟨h1,h2⟩:=cV_spec (a:=a) (b:=b) h
  obtain ⟨h3,h4⟩:=cL_spec (cs:=r) (ds:=s) h2
  exact ⟨by simp only [LeL];exact ⟨h1,h3⟩,h4⟩
 | [],_ ::_,k,h=>by simp only [cL] at h
 | _ ::_,[],k,h=>by simp only [cL] at h
end
theorem zP {G:List Nat} {s:St}:∀{l:List (Nat × AV)} {k:Prop},cT G s l k→LeT G s l/\k
 | [],k,h=>⟨trivial,h⟩
 | (i,a) ::r,k,h=>let ⟨h1,h2⟩:=cV_spec (k:=cT G s r k) h;let ⟨h3,h4⟩:=zP h2;⟨⟨h1,h3⟩,h4⟩
theorem lg {G:List Nat} {s:St}:∀{l:List (Nat × SObj)},cB G s l→LeB G s l
 | [],_=>trivial
 | (i,.box d) ::r,h=>by
  simp only [cB] at h
  simp only [LeB]
  split at h
  ·rename_i c hc
   obtain ⟨h1,h2⟩:=dh h
   obtain ⟨h3,h4⟩:=cV_spec h2
   exact ⟨⟨oB h1,h3⟩,lg h4⟩
  ·exact h.elim
 | (i,.tail τ n) ::r,h=>by
  simp only [cB] at h
  simp only [LeB]
  split at h
  ·rename_i σ m hc
   obtain ⟨h1,h2,h3⟩:=dh h
   simp only [decide_eq_true_eq] at h1
   exact ⟨by rw [if_pos h1];exact h2,lg h3⟩
  ·exact ⟨h.1,lg h.2⟩
  ·exact h.elim
 | (i,.bld t u l) ::r,h=>by
  simp only [cB] at h
  simp only [LeB]
  split at h
  ·rename_i t' u' l' hc
   obtain ⟨h1,h2,h3⟩:=dh h
   simp only [decide_eq_true_eq] at h1
   exact ⟨by rw [if_pos h1];exact h2,lg h3⟩
  ·exact h.elim
 | (i,.map κ τ m) ::r,h=>by
  simp only [cB] at h
  simp only [LeB]
  split at h
  ·rename_i κ' τ' m' hc
   split at h
   ·exact ⟨h.1,lg h.2⟩
   ·exact h.elim
  ·exact h.elim
theorem gS {s s':St} (h:cS s s'):LeS s s':=by
 unfold cS at h
 obtain ⟨h1,h2⟩:=dh h
 obtain ⟨h3,h4⟩:=zP h2
 exact ⟨by rw [if_pos h1];trivial,h3,lg h4⟩
def Fh:Option SObj→Ty
 | some (.tail τ _)=>τ
 | _=>.bool
theorem eG {F:Fr} {s s':St} {a:Act} {Ω:Om} (h:Holds F s.abs a Ω) (hle:LeS s s'):∃Ω',Ω'.w=Ω.w/\Holds F s'.abs a Ω':=by
 obtain ⟨h0,h1,h2⟩:=hle
 have hn2:(eF ((am s.b).filter fun i=>!(am s'.b).contains i) s' && ((am s.b).filter fun i=>!(am s'.b).contains i).all (fun i=>!cD i))=true:=by
  rcases Classical.em ((eF ((am s.b).filter fun i=>!(am s'.b).contains i) s' && ((am s.b).filter fun i=>!(am s'.b).contains i).all (fun i=>!cD i))=true) with k | k
  ·exact k
  ·rw [if_neg k] at h0;exact h0.elim
 obtain ⟨hn,hnl⟩:=Bool.and_eq_true_iff.1 hn2
 have hGs:∀k,k∈fb s s'↔(k∈am s'.b/\ax s.b k=none):=by
  intro k
  simp [fb]
 obtain ⟨Ω1,e1,h1',hg⟩:=h.begin (fb s s') (fun k hk=>((hGs k).1 hk).2) (fun i=>Fh (ax s'.b i))
 have hmid:Holds F ⟨s'.abs.T,fun i=>match ax s'.b i with | some o=>some o | none=>if i∈fb s s' then some (.tail (Fh (ax s'.b i)) 0) else s.abs.B i⟩ a Ω1:=by
  refine ⟨fun i=>?_,h1'.size,h1'.defers,fun id o ho=>?_,fun id hid=>?_,h1'.inj,h1'.pubok,h1'.keep,h1'.frame⟩
  ·rcases D3 h1 i with k | k
   ·have:s'.abs.T i=.undef:=k
    rw [this]
    exact .undef _
   ·exact (h1'.tmps i).le hg k
  ·simp only at ho
   cases hb:ax s'.b id with
   | none=>
    rw [hb] at ho
    simp only at ho
    refine h1'.slots id o ?_
    simp only [hb]
    exact ho
   | some o'=>
    rw [hb] at ho
    simp at ho
    subst ho
    rcases qd h2 id o' hb with ⟨c,d,rfl,hcs,hl0,hl⟩ | ⟨τ,n,rfl,hcs⟩ | ⟨κ,τ,m,rfl,hcs⟩ | ⟨t,u,l,rfl,hcs⟩
    ·have hng:id∉fb s s':=fun hm=>by rw [((hGs id).1 hm).2] at hcs;cases hcs
     obtain ⟨b,off,k1,k2⟩:=h1'.slots id (.box c) (by simp only [if_neg hng];exact hcs)
     obtain ⟨l1,l2⟩:=vl hl0 hl
     refine ⟨b,off,by rw [←l1];exact k1,fun j d' hd=>?_⟩
     have hj:j < (aa c).length:=by
      rw [l1]
      rcases Nat.lt_or_ge j (aa d).length with k | k
      ·exact k
      ·rw [List.getElem?_eq_none k] at hd;cases hd
     obtain ⟨m1,m2,m3,v,m4,m5⟩:=k2 j _ (List.getElem?_eq_getElem hj)
     refine ⟨m1,m2,m3,v,m4,?_⟩
     rcases l2 j _ d' (List.getElem?_eq_getElem hj) hd with e | k
     ·rw [←e];exact m5
     ·exact m5.le hg k
    ·rcases hcs with hcs | ⟨hcs,rfl⟩
     ·have hng:id∉fb s s':=fun hm=>by rw [((hGs id).1 hm).2] at hcs;cases hcs
      exact h1'.slots id (.tail τ n) (by simp only [if_neg hng];exact hcs)
     ·have hin:id∈fb s s':=(hGs id).2 ⟨List.mem_map.2 ⟨(id,.tail τ 0),dN _ _ _ hb,rfl⟩,hcs⟩
      have:=h1'.slots id (.tail τ 0) (by simp only [if_pos hin,hb,Fh])
      exact this
    ·have hng:id∉fb s s':=fun hm=>by rw [((hGs id).1 hm).2] at hcs;cases hcs
     exact h1'.slots id (.map κ τ m) (by simp only [if_neg hng];exact hcs)
    ·have hng:id∉fb s s':=fun hm=>by rw [((hGs id).1 hm).2] at hcs;cases hcs
     exact h1'.slots id (.bld t u l) (by simp only [if_neg hng];exact hcs)
  ·refine h1'.dom id ?_
   simp only at hid ⊢
   cases hb:ax s'.b id with
   | none=>rw [hb] at hid;simpa [hb] using hid
   | some o'=>rw [hb] at hid;simp at hid
 have f1:∀i,i∈((am s.b).filter fun i=>!(am s'.b).contains i)→s'.abs.B i=none:=by
  intro i hi
  simp at hi
  cases hb:ax s'.b i with
  | none=>exact hb
  | some o=>exact absurd (List.mem_map.2 ⟨(i,o),dN _ _ _ hb,rfl⟩) hi.2
 have f2:∀i,i∉((am s.b).filter fun i=>!(am s'.b).contains i)→
   s'.abs.B i=(match ax s'.b i with | some o=>some o | none=>if i∈fb s s' then some (.tail (Fh (ax s'.b i)) 0) else s.abs.B i):=by
  intro i hi
  simp only [St.abs]
  cases hb:ax s'.b i with
  | some o=>rfl
  | none=>
   have hk:i∉am s'.b:=lf _ _ hb
   have hng:i∉fb s s':=fun hm=>hk ((hGs i).1 hm).1
   simp only [if_neg hng]
   cases hsb:ax s.b i with
   | none=>rfl
   | some o=>
    exfalso
    apply hi
    simp only [List.mem_filter,Bool.not_eq_true',List.contains_eq_mem,decide_eq_false_iff_not]
    exact ⟨List.mem_map.2 ⟨(i,o),dN _ _ _ hsb,rfl⟩,hk⟩
 obtain ⟨Ω2,e2,h2'⟩:=hmid.forget (s':=s') (fun i=>Or.inr rfl) f1 f2 hn (fun i hi=>by
  have:=List.all_eq_true.1 hnl i hi
  simpa using this)
 exact ⟨Ω2,e2.trans e1,h2'⟩
end Go.AL
end
section
namespace Go.AL
variable [Tabs]
section
variable {id:Nat} {c:AV}
theorem nO:∀(l:List AV) (j:Nat),(pubVs id c l)[j]?=(l[j]?).map (pubV id c)
 | [],j=>by simp [pubVs]
 | a ::r,0=>by simp [pubVs]
 | a ::r,j+1=>by simp only [pubVs,List.getElem?_cons_succ];exact nO r j
theorem jL:∀l:List AV,(pubVs id c l).length=l.length
 | []=>rfl
 | a ::r=>by simp [pubVs,jL r]
theorem qf (τ:Ty) (x:den τ):∀d∈cells τ x,pubV id c d=d:=by
 cases τ with
 | st n=>cases n <;> simp [cells,dS,gX,fg,fS,fT,fU,du,fV,j6,gZ,hD,hU,j7,j8,io,hX,l4,fW,j9,l5,ja,jb,hZ,pubV]
 | _=>simp [cells,pubV]
theorem AJ (τ:Ty) (xs:List (den τ)):∀d∈bg τ xs,pubV id c d=d:=by
 intro d hd
 simp only [bg,List.mem_flatMap] at hd
 obtain ⟨x,_,hx⟩:=hd
 exact qf τ x d hx
theorem qg (d:AV):(aa (pubV id c d)).length=(aa d).length/\∀(j:Nat) (a:AV),(aa d)[j]?=some a→(aa (pubV id c d))[j]?=some (pubV id c a):=by
 have one:∀{d:AV},aa d=[d]→aa (pubV id c d)=[pubV id c d]→(aa (pubV id c d)).length=(aa d).length/\
   ∀(j:Nat) (a:AV),(aa d)[j]?=some a→(aa (pubV id c d))[j]?=some (pubV id c a):=by
  intro d h1 h2
  rw [h1,h2]
  refine ⟨rfl,fun j a ha=>?_⟩
  cases j with
  | zero=>simp at ha;subst ha;rfl
  | succ j=>simp at ha
 cases d with
 | agg cs=>exact ⟨jL cs,fun j a ha=>by show (pubVs id c cs)[j]?=_;rw [nO];have:cs[j]?=some a:=ha;rw [this];rfl⟩
 | st n x=>exact ⟨rfl,fun j a ha=>by show (cells (.st n) x)[j]?=_;rw [qf (.st n) x a (List.mem_of_getElem? ha)];exact ha⟩
 | row τ xs=>exact ⟨rfl,fun j a ha=>by show (bg τ xs)[j]?=_;rw [AJ τ xs a (List.mem_of_getElem? ha)];exact ha⟩
 | ptr i o=>
  refine one rfl ?_
  cases o with
  | zero=>simp only [pubV];split <;> rfl
  | succ o=>rfl
 | arr i n w=>
  refine one rfl ?_
  simp only [pubV]
  split
  ·split
   ·split <;> rfl
   ·rfl
  ·rfl
 | _=>exact one rfl rfl
structure Fast (Ω:Om) (id:Nat) (c:AV) (b off:Nat) (vals:Nat→Value):Prop where
 e:Ω.e id=some (.box b off (aa c).length)
 at_:∀(j:Nat) (c':AV),(aa c)[j]?=some c'→Ω.pub b (off+j)/\Ω.w.cell? ⟨b,off+j,none⟩=some (vals j)/\V Ω c' (vals j)
theorem V.pubV {Ω:Om} {b off:Nat} {vals:Nat→Value} (hf:Fast Ω id c b off vals) {a:AV} {v:Value} (h:V Ω a v):V Ω (AL.pubV id c a) v:=by
 have many:∀{cs:List AV} {vs:List Value},cs.length=vs.length→(∀(j:Nat) (d:AV) (v:Value),cs[j]?=some d→vs[j]?=some v→V Ω (AL.pubV id c d) v)→
   (pubVs id c cs).length=vs.length/\∀(j:Nat) (d:AV) (v:Value),(pubVs id c cs)[j]?=some d→vs[j]?=some v→V Ω d v:=by
  intro cs vs hl ih
  refine ⟨by rw [jL,hl],fun j d v hd hv=>?_⟩
  rw [nO] at hd
  simp only [Option.map_eq_some_iff] at hd
  obtain ⟨d0,hd0,rfl⟩:=hd
  exact ih j d0 v hd0 hv
 induction h with
 | ptr i o b' p len he=>
  cases o with
  | succ o=>exact .ptr i (o+1) b' p len he
  | zero=>
   simp only [AL.pubV]
   split
   ·rename_i hi
    subst hi
    rw [hf.e] at he
    simp at he
    obtain ⟨rfl,rfl,rfl⟩:=he
    exact .cptr c b off vals (fun j c' hc=>⟨(hf.at_ j c' hc).1,(hf.at_ j c' hc).2.1⟩) (fun j c' hc=>(hf.at_ j c' hc).2.2)
   ·exact .ptr i 0 b' p len he
 | arr i n w b' len cap a he h1 h2 h3 h4=>
  simp only [AL.pubV]
  split
  ·rename_i hi
   split
   ·rename_i τ xs
    split
    ·rename_i hw
     subst hi hw
     have hfe:=hf.e
     rw [hfe] at he
     simp only [Xs,CObj.box.injEq] at he
     obtain ⟨rfl,rfl,rfl⟩:=he
     have hn:n<=xs.length:=by
      have:(aa (.row τ xs)).length=xs.length *ac τ:=bO τ xs
      rw [this] at h1
      exact Nat.le_of_mul_le_mul_right h1 (jc τ)
     rcases h4 with rfl | ⟨rfl,rfl,rfl⟩
     ·have hl:(xs.take n).length=n:=by simp;omega
      have hx':∀{i:Nat} {x:den τ},(xs.take n)[i]?=some x→xs[i]?=some x:=by
       intro i x hx
       rw [List.getElem?_take] at hx
       split at hx
       ·exact hx
       ·cases hx
      have:=V.lst (Ω:=Ω) τ (xs.take n) none b 0 cap (fun i j=>vals (i *ac τ+j)) (by omega) h3 (fun id hid=>by simp at hid) (fun i x hx j c' hc=>by
       have:=hf.at_ _ c' (ir τ xs i x j c' (hx' hx) hc)
       exact ⟨this.1,this.2.1⟩) (fun i x hx j c' hc=>(hf.at_ _ c' (ir τ xs i x j c' (hx' hx) hc)).2.2)
      rw [hl] at this
      exact this
     ·simp only [List.take_zero]
      exact .lstNil τ none (fun id hid=>by simp at hid)
    ·exact .arr i n w b' len cap a he h1 h2 h3 h4
   ·exact .arr i n w b' len cap a he h1 h2 h3 h4
  ·exact .arr i n w b' len cap a he h1 h2 h3 h4
 | cptr d b' o vs h1 h2 ih=>
  obtain ⟨p1,p2⟩:=qg (id:=id) (c:=c) d
  have back:∀(j:Nat) (d':AV),(aa (AL.pubV id c d))[j]?=some d'→∃d0,(aa d)[j]?=some d0/\d'=AL.pubV id c d0:=by
   intro j d' hd'
   have hj:j < (aa d).length:=by
    rw [←p1]
    rcases Nat.lt_or_ge j (aa (AL.pubV id c d)).length with k | k
    ·exact k
    ·rw [List.getElem?_eq_none k] at hd';cases hd'
   have:=p2 j _ (List.getElem?_eq_getElem hj)
   rw [hd'] at this
   exact ⟨_,List.getElem?_eq_getElem hj,Option.some.inj this⟩
  refine .cptr _ b' o vs (fun j d' hd'=>?_) (fun j d' hd'=>?_)
  ·obtain ⟨d0,q1,_⟩:=back j d' hd'
   exact h1 j d0 q1
  ·obtain ⟨d0,q1,rfl⟩:=back j d' hd'
   exact ih j d0 q1
 | agg cs vs hl _ ih=>
  obtain ⟨q1,q2⟩:=many hl ih
  exact .agg _ vs q1 q2
 | tup cs vs hl _ ih=>
  obtain ⟨q1,q2⟩:=many hl ih
  exact .tup _ vs q1 q2
 | fn f cs vs hl _ ih=>
  obtain ⟨q1,q2⟩:=many hl ih
  exact .fn f _ vs q1 q2
 | iface t a v _ ih=>exact .iface t _ v ih
 | undef v=>exact .undef v
 | int k n h1 h2=>exact .int k n h1 h2
 | bool b=>exact .bool b
 | str s h=>exact .str s h
 | lstNil τ o ht=>exact .lstNil τ o ht
 | lstVoid τ a=>exact .lstVoid τ a
 | lst τ xs o b' off' cap vals' h1 h2 h3 h4 h5 _=>exact .lst τ xs o b' off' cap vals' h1 h2 h3 h4 h5
 | nils=>exact .nils
 | nilp=>exact .nilp
 | ptNone n=>exact .ptNone n
 | ptSome n x v hv _=>exact .ptSome n x v hv
 | aptr i n w o b' p len he=>exact .aptr i n w o b' p len he
 | map i r he=>exact .map i r he
 | bptr i b g he=>exact .bptr i b g he
 | nilif=>exact .nilif
 | lstp τ xs k b' off' cap vals' h1 h2 h3 h4 h5 _=>exact .lstp τ xs k b' off' cap vals' h1 h2 h3 h4 h5
 | tptr τ n k p hp=>exact .tptr τ n k p hp
 | st n x v hv _=>exact .st n x v hv
end
theorem mV (f:AV→AV) (hf:f .undef=.undef):∀(l:List (Nat × AV)) (i:Nat),bD (l.map fun x=>(x.1,f x.2)) i=f (bD l i)
 | [],i=>hf.symm
 | (j,v) ::r,i=>by
  simp only [List.map_cons,bD,mV f hf r i]
  by_cases h:j=i <;> simp [h]
theorem kG (f:SObj→SObj):∀(l:List (Nat × SObj)) (i:Nat),ax (l.map fun x=>(x.1,f x.2)) i=(ax l i).map f
 | [],i=>rfl
 | (j,v) ::r,i=>by
  simp only [List.map_cons,ax,kG f r i]
  by_cases h:j=i <;> simp [h]
theorem xL {F:Fr} {s s':St} {a:Act} {Ω:Om} {id:Nat} (h:Holds F s.abs a Ω) (hp:Gq id s=some s'):∃Ω',Ω'.w=Ω.w/\Holds F s'.abs a Ω':=by
 unfold Gq at hp
 split at hp
 ·rename_i c hb
  simp only at hp
  split at hp
  ·rename_i hck
   simp only [Bool.and_eq_true,Bool.not_eq_true'] at hck
   obtain ⟨⟨hnn,hcid⟩,hnl⟩:=hck
   simp only [Xs] at hp
   subst hp
   simp only [eF,Bool.and_eq_true,List.all_eq_true] at hnn
   obtain ⟨b,off,e1,e2⟩:=h.slots id _ hb
   let Ω1:Om:=⟨Ω.e,Ω.w,fun b' o=>Ω.pub b' o∨(b'=b/\off<=o/\o < off+(aa c).length)⟩
   have hx1:Ext Ω Ω1:=⟨fun i c hc=>⟨c,hc,CLe.refl c⟩,fun _ _ p=>Or.inl p,fun _ _ _=>rfl⟩
   have hfast:Fast Ω1 id c b off (fun j=>(Ω.w.cell? ⟨b,off+j,none⟩).getD undef):=by
    refine ⟨e1,fun j c' hc=>?_⟩
    obtain ⟨k1,k2,k3,v,k4,k5⟩:=e2 j c' hc
    have hj:j < (aa c).length:=by
     rcases Nat.lt_or_ge j (aa c).length with k | k
     ·exact k
     ·rw [List.getElem?_eq_none k] at hc;cases hc
    refine ⟨Or.inr ⟨rfl,by omega,by omega⟩,?_,?_⟩
    ·show Ω.w.cell? _=_
     rw [k4];rfl
    ·simp only [k4,Option.getD_some]
     exact k5.ext hx1
   have hag:∀{x:AV} {v:Value},V Ω1 x v→(∀i∈ids x,i≠id)→V ⟨fun i=>if i=id then none else Ω.e i,Ω1.w,Ω1.pub⟩ x v:=
    fun hv hi=>V.agree hv (fun i him=>by simp [hi i him,Ω1])
   have hin:∀b' o,(b'=b/\off<=o/\o < off+(aa c).length)→occ (.box b off (aa c).length) b' o:=fun b' o k=>k
   refine ⟨⟨fun i=>if i=id then none else Ω.e i,Ω.w,Ω1.pub⟩,rfl,⟨fun i=>?_,h.size,h.defers,fun id' o ho=>?_,fun id' hid=>?_,fun i j ci cj b' o hi hj=>?_,fun b' o hp=>?_,fun i x hx=>?_,?_⟩⟩
   ·simp only [St.abs]
    have e:=mV (pubV id c) rfl s.t i
    rw [e]
    refine hag (V.pubV hfast ((h.tmps i).ext hx1)) (fun k hk=>?_)
    rcases mT s.t i with hu | hm
    ·rw [hu] at hk;simp [pubV,ids] at hk
    ·have:=ie (hnn.1 (i,pubV id c (bD s.t i)) (List.mem_map.2 ⟨_,hm,rfl⟩)) k hk
     simpa using this
   ·simp only [St.abs] at ho
    have e:=kG (CF id c) (s.b.filter fun x=>!(x.1 ==id)) id'
    rw [e] at ho
    have e':=iP s.b (fun i=>!(i ==id)) id'
    rw [e'] at ho
    by_cases hid:id'=id
    ·subst hid;simp at ho
    ·simp only [beq_iff_eq,hid,Bool.not_false,if_true,Option.map_eq_some_iff] at ho
     rw [if_pos (by simp [hid])] at ho
     obtain ⟨o0,ho0,rfl⟩:=ho
     have hs:=h.slots id' o0 ho0
     have apart:∀c0,Ω.e id'=some c0→∀b' o,occ c0 b' o→¬(b'=b/\off<=o/\o < off+(aa c).length):=by
      intro c0 hc0 b' o hoc hk
      exact hid (h.inj id' id c0 _ b' o hc0 e1 hoc (hin b' o hk))
     cases o0 with
     | box d=>
      obtain ⟨b2,off2,g1,g2⟩:=hs
      obtain ⟨p1,p2⟩:=qg (id:=id) (c:=c) d
      refine ⟨b2,off2,by simp only [if_neg hid];rw [g1,p1],fun j d' hd'=>?_⟩
      have hj:j < (aa d).length:=by
       rw [←p1]
       rcases Nat.lt_or_ge j (aa (pubV id c d)).length with k | k
       ·exact k
       ·rw [List.getElem?_eq_none k] at hd';cases hd'
      have hd2:=p2 j _ (List.getElem?_eq_getElem hj)
      rw [hd'] at hd2
      obtain ⟨m1,m2,m3,v,m4,m5⟩:=g2 j _ (List.getElem?_eq_getElem hj)
      refine ⟨m1,fun hp=>?_,m3,v,m4,?_⟩
      ·rcases hp with hp | hp
       ·exact m2 hp
       ·exact apart _ g1 b2 (off2+j) ⟨rfl,by omega,by omega⟩ hp
      ·rw [Option.some.inj hd2]
       refine hag (V.pubV hfast (m5.ext hx1)) (fun k hk=>?_)
       have hmem:(id',CF id c (.box d))∈((s.b.filter fun x=>!(x.1 ==id)).map fun x=>(x.1,CF id c x.2)):=
        List.mem_map.2 ⟨(id',.box d),List.mem_filter.2 ⟨dN _ _ _ ho0,by simp [hid]⟩,rfl⟩
       have:=ie (hnn.2 _ hmem) k (nN (c:=pubV id c d) (by rw [←Option.some.inj hd2];exact hd') k hk)
       simpa using this
     | tail τ n=>
      obtain ⟨base,cap,g1,g2,g3,g4,g5⟩:=hs
      refine ⟨base,cap,by simp only [if_neg hid];exact g1,g2,g3,g4,fun b2 hb2=>?_⟩
      obtain ⟨m1,vs,ty,fz,m2,m3,m4,m5⟩:=g5 b2 hb2
      refine ⟨m1,vs,ty,fz,m2,m3,m4,fun o ho hp=>?_⟩
      rcases hp with hp | hp
      ·exact m5 o ho hp
      ·exact apart _ g1 b2 o hb2 hp
     | map κ τ m=>
      obtain ⟨r,g1,g2,es,clock,g3,g4⟩:=hs
      exact ⟨r,by simp only [if_neg hid];exact g1,g2,es,clock,g3,(g4.ext hx1).data⟩
     | bld t u l=>
      obtain ⟨b2,g,g1,g2,g3⟩:=hs
      refine ⟨b2,g,by simp only [if_neg hid];exact g1,fun b3 hb3 o=>⟨(g2 b3 hb3 o).1,fun hp=>?_⟩,g3⟩
      rcases hp with hp | hp
      ·exact (g2 b3 hb3 o).2 hp
      ·exact apart _ g1 b3 o hb3 hp
     | tailp τ n x=>
      obtain ⟨b2,cap,g1,g2,g3,g4,g5,g6,g7⟩:=hs
      refine ⟨b2,cap,by simp only [if_neg hid];exact g1,g2,g3,g4,g5,fun o ho hp=>?_,fun j c' hc=>?_⟩
      ·rcases hp with hp | hp
       ·exact g6 o ho hp
       ·exact apart _ g1 b2 o rfl hp
      ·obtain ⟨v,k1,k2⟩:=g7 j c' hc
       refine ⟨v,k1,hag (k2.ext hx1) (fun i hi=>?_)⟩
       have:=eA hc i hi
       rw [fZ] at this
       cases this
   ·simp only [St.abs] at hid
    by_cases hii:id'=id
    ·simp [hii]
    ·have e:=kG (CF id c) (s.b.filter fun x=>!(x.1 ==id)) id'
     rw [e] at hid
     have e':=iP s.b (fun i=>!(i ==id)) id'
     rw [e',if_pos (by simp [hii])] at hid
     simp only [if_neg hii]
     exact h.dom id' (by show ax s.b id'=none;simpa using hid)
   ·intro h1 h2
    simp only at hi hj
    split at hi
    ·cases hi
    ·split at hj
     ·cases hj
     ·exact h.inj i j ci cj b' o hi hj h1 h2
   ·rcases hp with hp | ⟨rfl,hp1,hp2⟩
    ·exact h.pubok b' o hp
    ·have hj:o - off < (aa c).length:=by omega
     obtain ⟨_,_,_,v,hv,_⟩:=e2 (o - off) _ (List.getElem?_eq_getElem hj)
     exact ⟨v,by rw [show off+(o - off)=o by omega] at hv;exact hv⟩
   ·have hl:=F.dom0 i x hx
    have hne:i≠id:=fun e=>by subst e;rw [hnl] at hl;cases hl
    obtain ⟨x',q1,q2⟩:=h.keep i x hx
    exact ⟨x',by simp only [if_neg hne];exact q1,q2⟩
   ·refine ⟨h.frame.os,h.frame.tape,h.frame.output,h.frame.size,h.frame.block,h.frame.cell,h.frame.kind,fun b' o hp=>?_,fun b' o hp=>Or.inl (h.frame.old b' o hp),h.frame.pcell⟩
    rcases hp with hp | ⟨rfl,hp1,hp2⟩
    ·exact h.frame.pub b' o hp
    ·have hj:o - off < (aa c).length:=by omega
     have:=(e2 (o - off) _ (List.getElem?_eq_getElem hj)).1
     rw [show off+(o - off)=o by omega] at this
     exact Or.inr this
  ·cases hp
 ·cases hp
theorem mW {F:Fr} {a:Act}:∀(l:List Nat) {s s':St} {Ω:Om},Holds F s.abs a Ω→pH l s=some s'→∃Ω',Ω'.w=Ω.w/\Holds F s'.abs a Ω'
 | [],s,s',Ω,h,hp=>by simp [pH] at hp;subst hp;exact ⟨Ω,rfl,h⟩
 | i ::r,s,s',Ω,h,hp=>by
  simp only [pH] at hp
  split at hp
  ·rename_i s1 h1
   obtain ⟨Ω1,e1,k1⟩:=xL h h1
   obtain ⟨Ω2,e2,k2⟩:=mW r k1 hp
   exact ⟨Ω2,e2.trans e1,k2⟩
  ·cases hp
end Go.AL
end
