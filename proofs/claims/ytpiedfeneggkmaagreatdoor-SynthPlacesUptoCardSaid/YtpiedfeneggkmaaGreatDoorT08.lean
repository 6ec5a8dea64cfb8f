/- The layer: Go code as conditions, and that they are sound. Plain facts. No condition. -/
import Derived.Test.YtpiedfeneggkmaaGreatDoorT07
set_option linter.all false
set_option maxRecDepth 100000
noncomputable section
namespace Go.AL
def nf (S:List (Nat × SObj)) (x:Nat × SObj):Bool:=match aw S x.1 with | some o=>eqO o x.2 | none=>false
def Du:List AV→AV
 | [a]=>a
 | l=>.tup l
def Dv (s:St) (l:List AV):List (Nat × SObj):=
 s.b.filter fun x=>bG x.1 || (ie (aw s.b) 64 (ids.idsL l++(aO s.b).filter bG) []).contains x.1
def Fq:Bool→List AV→List AV
 | true,l=>l
 | false,l=>strips l
def Dw (tok:Bool) (S:List (Nat × SObj)) (s:St) (l:List AV):Option Ans:=
 evVs (Fq tok l) fun l'=>evB (Dv s l') fun kept=>
  match fineVs l && (kept.all (fun x=>EN x.2)) && bk (aO s.b) && (aO S).all (fun i=>(aO kept).contains i) &&
    (dB ((aO s.b).filter fun i=>!(aO kept).contains i) ⟨cO 0 l',kept⟩ && ((aO s.b).filter fun i=>!(aO kept).contains i).all (fun i=>!bG i)) with
  | true=>some ⟨none,none,Du l',kept.filter fun x=>!nf S x⟩
  | false=>none
theorem nH:∀{l:List (Nat × SObj)},bk (aO l)=true→∀{i:Nat} {o:SObj},(i,o)∈l→aw l i=some o
 | [],_,_,_,h=>by cases h
 | (j,u) ::r,hd,i,o,h=>by
  simp only [aO,List.map_cons,bk,Bool.and_eq_true,Bool.not_eq_true',List.contains_eq_mem,decide_eq_false_iff_not] at hd
  rcases List.mem_cons.1 h with e | e
  ·cases e;simp [aW,aP]
  ·have hne:¬j=i:=fun q=>hd.1 (List.mem_map.2 ⟨_,e,q.symm⟩)
   simp only [aW,aP,beq_iff_eq,hne,if_false]
   exact nH hd.2 e
theorem fR (p:Nat × SObj→Bool):∀{l:List (Nat × SObj)},bk (aO l)=true→bk (aO (l.filter p))=true
 | [],_=>rfl
 | x ::r,hd=>by
  simp only [aO,List.map_cons,bk,Bool.and_eq_true,Bool.not_eq_true',List.contains_eq_mem,decide_eq_false_iff_not] at hd
  have ih:=fR p hd.2
  rw [List.filter_cons]
  split
  ·simp only [aO,List.map_cons,bk,Bool.and_eq_true,Bool.not_eq_true',List.contains_eq_mem,decide_eq_false_iff_not]
   refine ⟨fun h=>hd.1 ?_,ih⟩
   obtain ⟨y,hy,e⟩:=List.mem_map.1 h
   exact List.mem_map.2 ⟨y,(List.mem_filter.1 hy).1,e⟩
  ·exact ih
variable [Tabs]
theorem Dx {l:List (Nat × SObj)} {i:Nat} (h:aw l i=none):i∉aO l:=iu l i h
theorem pT {l:List (Nat × SObj)} {i:Nat} (h:i∉aO l):aw l i=none:=by
 cases hb:aw l i with
 | none=>rfl
 | some o=>exact absurd (List.mem_map.2 ⟨(i,o),cz l i o hb,rfl⟩) h
theorem Ez {S kept:List (Nat × SObj)} (hd:bk (aO kept)=true) (hS:∀i∈aO S,i∈aO kept):aw (cd S (kept.filter fun x=>!nf S x))=aw kept:=by
 funext i
 have hdf:=fR (fun x=>!nf S x) hd
 rw [mh _ S i hdf]
 cases hk:aw kept i with
 | some o=>
  have hm:=cz kept i o hk
  cases hs:nf S (i,o) with
  | false=>
   have:(i,o)∈kept.filter fun x=>!nf S x:=List.mem_filter.2 ⟨hm,by rw [hs];rfl⟩
   rw [nH hdf this]
   rfl
  | true=>
   have hn:aw (kept.filter fun x=>!nf S x) i=none:=by
    cases hb:aw (kept.filter fun x=>!nf S x) i with
    | none=>rfl
    | some o'=>
     have h1:=List.mem_filter.1 (cz _ i o' hb)
     have h2:=nH hd h1.1
     rw [hk] at h2
     cases h2
     have h3:=h1.2
     rw [hs] at h3
     cases h3
   rw [hn]
   unfold nf at hs
   split at hs
   ·rename_i o' ho'
    simp only at ho' hs
    rw [ho',BC hs]
    rfl
   ·cases hs
 | none=>
  have h1:i∉aO kept:=Dx hk
  rw [pT (l:=S) fun h=>h1 (hS i h),pT fun h=>h1 ?_]
  ·rfl
  ·obtain ⟨y,hy,e⟩:=List.mem_map.1 h
   exact List.mem_map.2 ⟨y,(List.mem_filter.1 hy).1,e⟩
theorem pU {G:List Nat}:∀{l m:List AV},LeL G l m→l.length=m.length
 | [],[],_=>rfl
 | _ ::_,_ ::_,h=>by unfold LeL at h;rw [List.length_cons,List.length_cons,pU h.2]
 | [],_ ::_,h=>by unfold LeL at h;exact h.elim
 | _ ::_,[],h=>by unfold LeL at h;exact h.elim
theorem Bv {tok:Bool} {S:List (Nat × SObj)} {s:St} {l:List AV} {A:Ans} (h:Dw tok S s l=some A) :
  A.ob=none/\A.pan=none/\∃l' kept,A.val=Du l'/\l'.length=l.length/\LeS ⟨cO 0 l,s.b⟩ ⟨cO 0 l',kept⟩/\aw (cd S A.upd)=aw kept:=by
 unfold Dw at h
 rw [evVs_eq,sT] at h
 split at h
 ·rename_i hc
  cases h
  simp only [Bool.and_eq_true,List.all_eq_true] at hc
  obtain ⟨⟨⟨⟨h1,h2⟩,h3⟩,h4⟩,h5,h6⟩:=hc
  refine ⟨rfl,rfl,Fq tok l,Dv s (Fq tok l),rfl,?_,⟨?_,?_,?_⟩,?_⟩
  ·cases tok with
   | true=>rfl
   | false=>exact (pU (LeL_strip [] l h1)).symm
  ·rw [if_pos]
   ·trivial
   ·rw [Bool.and_eq_true,List.all_eq_true]
    exact ⟨h5,h6⟩
  ·refine vG l _ 0 ?_ fun j=>?_
   ·cases tok with
    | true=>exact LeL_self _ l h1
    | false=>exact LeL_strip _ l h1
   ·show bh (cO 0 l) (0+j)=_
    rw [fv]
    simp
  ·refine jN _ fun x hx=>⟨?_,h2 x hx⟩
   exact nH h3 (List.mem_filter.1 hx).1
  ·refine Ez (fR _ h3) fun i hi=>?_
   have:=h4 i hi
   rwa [List.contains_eq_mem,decide_eq_true_eq] at this
 ·cases h
structure FB where
 body:Code
 n:Nat
 res:List ResultVar
 keep:Nat
 pubs:List (Nat × List Nat)
 pend:Nat→Bool
 rows:Nat→Bool
 same:Nat→Bool
 tok:Bool
 ps:List (Option Ty)
def Dy:Option Ty→AV→AV
 | some (.st n),a=>(match arg (.st n) a with | some x=>.st n x | none=>a)
 | _,a=>a
def z8:List (Option Ty)→List AV→List AV
 | p ::ps,a ::r=>Dy p a ::z8 ps r
 | _,l=>l
def Fs (C:Cfg) (N:Nat) (x:FB) (args:List AV) (S:List (Nat × SObj)):Option Ans:=
 evVs (z8 x.ps args) fun args=>evB S fun S=>
  match kn args x.n && (aO S).all bG with
  | false=>none
  | true=>
   match iC C x.keep x.pubs N x.body ⟨cO 0 args,S⟩ with
   | some (.normal,s)=>(match jb C.tbl s x.res with | some l=>Dw x.tok S s l | none=>none)
   | some (.ret,s)=>(match jb C.tbl s x.res with | some l=>Dw x.tok S s l | none=>none)
   | _=>none
variable {P:Program} {C:Cfg}
theorem Dz (p:Option Ty) (a:AV):Rd a (Dy p a):=by
 unfold Dy
 split
 ·split
  ·rename_i x hx;exact Rd.arg hx
  ·exact Rd.refl a
 ·exact Rd.refl a
theorem vH:∀(ps:List (Option Ty)) (l:List AV),RdL l (z8 ps l)
 | [],l=>RdL.refl l
 | p ::ps,[]=>.nil
 | p ::ps,a ::r=>.cons (Dz p a) (vH ps r)
theorem runF_meets (hm:P.follows .mixedOrders=true) (hT:bn P C.tbl) (hS:bT P C.spec) {N:Nat} {x:FB} {f:Nat} {fn:Func} (hf:P.funcs[f]?=some fn) (hb:fn.body=some x.body) (hn:fn.ntmps=x.n) (hr:fn.results.toList=x.res)
  (hd:bJ x.n x.body=true) {args:List AV} {S:List (Nat × SObj)} {A:Ans} (h:Fs C N x args S=some A):ax P f args S A:=by
 refine ax.args (vH x.ps args) ?_
 intro w pub e vs hp ht hv hs hdom hinj
 unfold Fs at h
 rw [evVs_eq,sT] at h
 split at h
 ·cases h
 ·rename_i hck
  simp only [Bool.and_eq_true,List.all_eq_true] at hck
  obtain ⟨hck2,hck3⟩:=hck
  have hlen:=dG _ _ hck2
  have hlent:∀id c,e id=some c→bG id=true:=by
   intro id c hc
   cases hg:aw S id with
   | none=>rw [hdom id hg] at hc;cases hc
   | some o=>exact hck3 id (List.mem_map.2 ⟨(id,o),cz _ _ _ hg,rfl⟩)
  have hrun:∃z s',iC C x.keep x.pubs N x.body ⟨cO 0 (z8 x.ps args),S⟩=some (z,s')/\(match jb C.tbl s' x.res with | some l=>Dw x.tok S s' l | none=>none)=some A/\(z=.normal∨z=.ret):=by
   split at h
   ·rename_i s' hz;exact ⟨_,s',hz,h,.inl rfl⟩
   ·rename_i s' hz;exact ⟨_,s',hz,h,.inr rfl⟩
   ·cases h
  obtain ⟨z,s',hz,he,hzz⟩:=hrun
  refine calls_of_wp hf hb ?_
  have hh:=iW (n:=fn.ntmps) hp ht hv (by rw [hn];exact hlen) hs hdom hinj hlent
  rw [←hn] at hd
  refine wp_mono (yj (F:=⟨w,pub,fn.ntmps,e,hlent,[],ht⟩) hm hT hS _ _ N x.body _ z s' _ _ hz hd hh) ?_
  intro en a' w' hq
  obtain ⟨z2,s2,Ω',h1,h2,h3,h4,h5⟩:=hq
  subst h2 h4 h5
  have hmap:∀us,(fn.results.toList.mapM (mc a'.tmps)).run P Ω'.w=.ok us Ω'.w→
    (results fn a'.tmps).run P Ω'.w=.ok (if h:us.toArray.size=1 then us.toArray[0] else .tuple us.toArray) Ω'.w:=by
   intro us hus
   rw [kL,←Array.toArray_toList (xs:=fn.results),List.mapM_toArray]
   simp only [Sem.run_bind,Sem.run_map,hus,Result.andThen_ok,Sem.run_pure]
  have main:a'.defers=[]/\∃v,(results fn a'.tmps).run P Ω'.w=.ok v Ω'.w/\∃pub' e',(∀b pv u,A.pan=some (b,pv,u)→b=false)/\V ⟨e',Ω'.w,pub'⟩ A.val v/\After w pub e (aw (cd S A.upd)) Ω'.w pub' e':=by
   refine ⟨h3.defers,?_⟩
   split at he
   ·rename_i l hres
    rw [←hr] at hres
    obtain ⟨a1,a2,l',kept,a3,a4,a5,a6⟩:=Bv he
    obtain ⟨us,k1,k2⟩:=eC hT h3 _ _ hres
    obtain ⟨Ω2,e2,hh2⟩:=dC (s:=⟨cO 0 l,s2.b⟩) (h3.retmp k2) a5
    rw [a3,a6]
    refine ⟨_,hmap us k1,Ω2.pub,Ω2.e,fun b pv u q=>(by rw [a2] at q;cases q),?_,by rw [←e2];exact gG hh2⟩
    have hval:∀(j:Nat) c v,l'[j]?=some c→us[j]?=some v→V ⟨Ω2.e,Ω'.w,Ω2.pub⟩ c v:=fun j c v hc hv=>by
     have:=hh2.tmps j
     simp only [St.abs,fv,Nat.zero_le,if_true,Nat.sub_zero,List.getD_eq_getElem?_getD,hc,Option.getD_some] at this
     have e3:(us.toArray++Array.replicate 0 undef).getD j undef=v:=by
      simp [Array.getD_eq_getD_getElem?,hv]
     rw [e3] at this
     rw [←e2]
     exact this
    have hlu:l'.length=us.length:=a4.trans k2.1
    by_cases h1':us.toArray.size=1
    ·rw [dif_pos h1']
     obtain ⟨u,rfl⟩:=iw (l:=us) (by simpa using h1')
     obtain ⟨c,rfl⟩:=iw (l:=l') (by rw [hlu];rfl)
     exact hval 0 c u rfl rfl
    ·rw [dif_neg h1']
     have:Du l'=.tup l':=by
      match l',hlu with
      | [],_=>rfl
      | [c],q=>exact absurd (by simpa using q.symm) h1'
      | _ ::_ ::_,_=>rfl
     rw [this]
     exact .tup l' us hlu hval
   ·cases he
  rcases hzz with rfl | rfl
  ·cases h1;exact main
  ·cases h1;exact main
def zc:List (Nat × FB)→Nat→Option FB
 | [],_=>none
 | (j,x) ::r,f=>if Nat.beq j f=true then some x else zc r f
def aB (tbl:List (Nat × TR)) (fn:Func) (keep:Nat) (pubs:List (Nat × List Nat)) (pend rows same:Nat→Bool) (tok:Bool):FB:=
 ⟨fn.body.getD .skip,fn.ntmps,fn.results.toList,keep,pubs,pend,rows,same,tok,fn.params.toList.map fun t=>(aL tbl t).bind (·.ty)⟩
def fbok (fn:Func):Bool:=match fn.body with | none=>false | some c=>bJ fn.ntmps c && !(fn.name == "runtime.NumGoroutine")
def an (P:Program) (tab:List (Nat × FB)):Prop:=∀f x,zc tab f=some x→
 ∃fn,P.funcs[f]?=some fn/\fn.body=some x.body/\fn.ntmps=x.n/\fn.results.toList=x.res/\bJ x.n x.body=true/\(fn.name == "runtime.NumGoroutine")=false
theorem an.nil:an P []:=fun f x h=>by cases h
theorem an.cons {tbl:List (Nat × TR)} {f:Nat} {fn:Func} {keep:Nat} {pubs:List (Nat × List Nat)} {pend rows same:Nat→Bool} {tok:Bool} {tab:List (Nat × FB)} (hf:P.funcs[f]?=some fn) (hc:fbok fn=true) (ht:an P tab) :
  an P ((f,aB tbl fn keep pubs pend rows same tok) ::tab):=by
 intro g x h
 unfold zc at h
 split at h
 ·rename_i hb
  obtain rfl:=Nat.eq_of_beq_eq_true hb
  cases h
  unfold fbok at hc
  split at hc
  ·cases hc
  ·rename_i c hb'
   simp only [Bool.and_eq_true,Bool.not_eq_true'] at hc
   exact ⟨fn,hf,by simp [aB,hb'],rfl,rfl,by simpa [aB,hb'] using hc.1,hc.2⟩
 ·exact ht g x h
def Bw (tbl:List (Nat × TR)) (tab:List (Nat × FB)) (keeps:Nat→Bool) (lends:Nat→List (Option Nat)) (N:Nat) (base:Nat→List AV→List (Nat × SObj)→Option Ans) :
  Nat→Nat→List AV→List (Nat × SObj)→Option Ans
 | 0,f,us,S=>base f us S
 | n+1,f,us,S=>
  match base f us S with
  | some A=>some A
  | none=>
  match zc tab f with
  | none=>none
  | some x=>Fs ⟨tbl,Bw tbl tab keeps lends N base n,keeps,lends,x.pend,x.rows,x.same⟩ N x us S
theorem zd {tbl:List (Nat × TR)} {tab:List (Nat × FB)} {keeps:Nat→Bool} {lends:Nat→List (Option Nat)} {N:Nat} {base:Nat→List AV→List (Nat × SObj)→Option Ans}
  (hm:P.follows .mixedOrders=true) (hT:bn P tbl) (hB:bT P base) (ht:an P tab):∀n:Nat,bT P (Bw tbl tab keeps lends N base n)
 | 0=>hB
 | n+1=>by
  intro f args S A h ho hl
  unfold Bw at h
  split at h
  ·rename_i A' hb
   cases h
   exact hB f args S A hb ho hl
  split at h
  ·cases h
  ·rename_i x hx
   obtain ⟨fn,h1,h2,h3,h4,h5,h6⟩:=ht f x hx
   exact ⟨⟨fn,h1,by rw [h2];rfl,h6⟩,runF_meets hm hT (zd hm hT hB ht n) h1 h2 h3 h4 h5 h⟩
theorem kh {tbl:List (Nat × TR)} {tab:List (Nat × FB)} {keeps:Nat→Bool} {lends:Nat→List (Option Nat)} {N n f:Nat} {base:Nat→List AV→List (Nat × SObj)→Option Ans} {args:List AV} {v:AV} {u:List (Nat × SObj)}
  (hm:P.follows .mixedOrders=true) (hT:bn P tbl) (hB:bT P base) (ht:an P tab) (h:Bw tbl tab keeps lends N base n f args []=some ⟨none,none,v,u⟩):ax P f args [] ⟨none,none,v,u⟩:=
 (zd hm hT hB ht n f args [] _ h (fun _ q=>by cases q) rfl).2
def tested (b:List AV→List (Nat × SObj)→Bool) (g:Pat):Pat:=fun args S=>match b args S,g args S with | true,some A=>some {A with ob:=none} | _,_=>none
theorem ak.tested {f:Nat} {g:Pat} {b:List AV→List (Nat × SObj)→Bool} (h:ak P f g) (hb:∀args S A q,b args S=true→g args S=some A→A.ob=some q→q):ak P f (tested b g):=by
 intro args S A hA ho hl
 unfold AL.tested at hA
 split at hA
 ·rename_i A' hbt hg
  cases hA
  exact h args S A' hg (fun q hq=>hb args S A' q hbt hg hq) hl
 ·cases hA
end Go.AL
end
noncomputable section
namespace Go.AL
variable [Tabs] {P:Program}
def q1 (τ:Ty) (b:den τ→Bool) (F:den τ→AV):Pat
 | [a],[]=>(match arg τ a with | some x=>(match b x with | true=>some (.ret (F x)) | false=>none) | none=>none)
 | _,_=>none
theorem EO {f:Nat} {τ:Ty} {b:den τ→Bool} {F:den τ→AV} {O:den τ→Prop} (h:ak P f (p1 τ fun x=>⟨some (O x),none,F x,[]⟩)) (hb:∀x,b x=true→O x):ak P f (q1 τ b F):=by
 intro args S A hA ho hl
 unfold q1 at hA
 split at hA
 ·rename_i a
  split at hA
  ·rename_i x hx
   split at hA
   ·rename_i ht
    cases hA
    have k:=h [a] [] ⟨some (O x),none,F x,[]⟩ (by simp [p1,hx]) (fun q hq=>by cases hq;exact hb x ht) hl
    exact ⟨k.1,k.2⟩
   ·cases hA
  ·cases hA
 ·cases hA
def q2 (τ σ:Ty) (b:den τ→den σ→Bool) (F:den τ→den σ→AV):Pat
 | [a,c],[]=>(match arg τ a,arg σ c with | some x,some y=>(match b x y with | true=>some (.ret (F x y)) | false=>none) | _,_=>none)
 | _,_=>none
theorem ze {f:Nat} {τ σ:Ty} {b:den τ→den σ→Bool} {F:den τ→den σ→AV} {O:den τ→den σ→Prop} (h:ak P f (p2 τ σ fun x y=>⟨some (O x y),none,F x y,[]⟩)) (hb:∀x y,b x y=true→O x y):ak P f (q2 τ σ b F):=by
 intro args S A hA ho hl
 unfold q2 at hA
 split at hA
 ·rename_i a c
  split at hA
  ·rename_i x y hx hy
   split at hA
   ·rename_i ht
    cases hA
    have k:=h [a,c] [] ⟨some (O x y),none,F x y,[]⟩ (by simp [p2,hx,hy]) (fun q hq=>by cases hq;exact hb x y ht) hl
    exact ⟨k.1,k.2⟩
   ·cases hA
  ·cases hA
 ·cases hA
def vI (as0:List AV) (v:AV):Pat:=fun args S=>match eqVs as0 args,S with | true,[]=>some (.ret v) | _,_=>none
theorem sW {f:Nat} {as0:List AV} {v:AV} (he:aD P f) (h:ax P f as0 [] (.ret v)):ak P f (vI as0 v):=by
 intro args S A hA ho hl
 unfold vI at hA
 split at hA
 ·rename_i heq
  cases hA
  rw [←eqVs_ok _ _ heq]
  exact ⟨he,h⟩
 ·cases hA
def t1 (τ:Ty) (b:den τ→Bool):List AV→List (Nat × SObj)→Bool
 | [a],_=>(match arg τ a with | some x=>b x | none=>false)
 | _,_=>false
theorem FP {f:Nat} {τ:Ty} {b:den τ→Bool} {F:den τ→Ans} (h:ak P f (p1 τ F)) (hb:∀x q,b x=true→(F x).ob=some q→q):ak P f (tested (t1 τ b) (p1 τ F)):=by
 refine h.tested fun args S A q ht hg ho=>?_
 unfold p1 at hg
 split at hg
 ·rename_i a
  split at hg
  ·rename_i x hx
   cases hg
   refine hb x q ?_ ho
   simpa [t1,hx] using ht
  ·cases hg
 ·cases hg
def zf:List AV→List (Nat × SObj)→Bool
 | _,[(_,.box (.lst .str zs _))]=>decide (zs.length *16<=140737488355328)
 | _,_=>false
theorem ym {f gv:Nat} (h:ak P f (eh gv)):ak P f (tested zf (eh gv)):=by
 refine h.tested fun args S A q hb hg ho=>?_
 unfold eh at hg
 split at hg
 ·split at hg
  ·cases hg
   cases ho
   exact Xo hb
  ·cases hg
 ·cases hg
def vJ:List AV→List (Nat × SObj)→Bool
 | [.arr _ n _],[(_,.box (.row .str ss))]=>decide (n=ss.length)
 | _,_=>false
theorem vK {f:Nat} (h:ak P f ej):ak P f (tested vJ ej):=by
 refine h.tested fun args S A q hb hg ho=>?_
 unfold ej at hg
 split at hg
 ·cases hg
  cases ho
  exact Xo hb
 ·cases hg
def ki:List Str→Bool
 | []=>true
 | x ::r=>!r.contains x && ki r
theorem lI:∀{l:List Str},ki l=true→l.Nodup
 | [],_=>List.nodup_nil
 | x ::r,h=>by
  unfold ki at h
  rw [Bool.and_eq_true,Bool.not_eq_true'] at h
  refine List.nodup_cons.2 ⟨fun q=>?_,lI h.2⟩
  have:=h.1
  rw [List.contains_eq_mem,decide_eq_false_iff_not] at this
  exact this q
def mo:List AV→List (Nat × SObj)→Bool
 | [.arr _ n _,_],[(_,.box (.row (.int .i64) xs)),(_,.box (.st .shape s))]=>
  decide (n=xs.length) && !xs.isEmpty && (xs.all fun x=>decide (0<=(x:Int)) && decide ((x:Int) < s.names.length)) && ki s.names && decide (xs.length < 4611686018427387904)
 | _,_=>false
theorem sX {f gc:Nat} (h:ak P f (dJ gc)):ak P f (tested mo (dJ gc)):=by
 refine h.tested fun args S A q hb hg ho=>?_
 unfold dJ at hg
 split at hg
 ·split at hg
  ·cases hg
   cases ho
   unfold mo at hb
   simp only [Bool.and_eq_true,decide_eq_true_eq,Bool.not_eq_true',List.all_eq_true] at hb
   obtain ⟨⟨⟨⟨h1,h2⟩,h3⟩,h4⟩,h5⟩:=hb
   exact ⟨h1,(fun e=>by rw [e] at h2;cases h2),h3,lI h4,h5⟩
  ·cases hg
 ·cases hg
end Go.AL
end
noncomputable section
namespace Go.AL.Seat
open Go Go.AL Go.Proofs Go.Shelf Go.Pd
variable [Tabs]
def Ft (t:Str):Bool:=!t.isEmpty && decide (t.length<=15) && t.all fun c=>decide (48<=c.toNat) && decide (c.toNat<=57)
theorem EA {t:Str} (h:Ft t=true):mO t:=by
 unfold Ft at h
 simp only [Bool.and_eq_true,Bool.not_eq_true',decide_eq_true_eq,List.all_eq_true] at h
 exact ⟨fun e=>(by rw [e] at h;exact absurd h.1.1 (by decide)),h.1.2,h.2⟩
def DA:List (Nat × Pat):=
 [(186,p1 .str fun s=>.ret (.tup [.int .i32 ((iZ s).1:Int),.int .i64 ((iZ s).2:Int)])),
  (199,p2 .str (.int .u8) fun a c=>.ret (.int .i64 (Cc a c))),
  (129,q2 .str .str (fun _ b=>decide (b=oU)) fun a _=>.str (oV a)),
  (194,q2 .str .str (fun a b=>decide (b=[45]) && decide (a.length < 4294967281)) fun a _=>.tup [.str (gW a),.str (kO a),.bool (me a)]),
  (195,q2 .str .str (fun a b=>decide (b=[46]) && decide (a.length < 4294967281)) fun a _=>.lst .str (splitB 46 a) none),
  (201,q2 .str .str (fun _ b=>decide (b.length=1)) fun a b=>.bool (decide (b.getD 0 0∈a))),
  (197,q1 .str Ft fun t=>.tup [.int .i64 (kC t),.nilif]),
  (64,q1 (.lst .str) (fun l=>decide (l.length *16<=140737488355328)) fun l=>.lst .str l none),
  (34,tested (t1 (.lst (.st .bind)) fun l=>decide (l.length *120<=140737488355328)) (p1 (.lst (.st .bind)) fun l=>⟨some (l.length *120<=140737488355328),none,.lst (.st .bind) l (some 5),[(5,.tail (.st .bind) l.length)]⟩)),
  (167,tested zf (eh 226)),
  (169,tested vJ ej),
  (61,tested mo (dJ 62)),
  (59,p1 (.st .shape) fun s=>.ret (.tup [.int .i64 (if sz s<=400 then (sz s:Int) else 401),.int .i64 (if sz s<=400 then deepS s 1 else 0),.bool (decide (sz s<=400))]))]
theorem lJ [SeatLaid]:bT Tryz.prog (gS DA):=
 sc pa (sc qj (sc (ze Ck fun _ _ h=>Xo h)
  (sc (ze E6 fun _ _ h=>by rw [Bool.and_eq_true] at h;exact ⟨Xo h.1,Xo h.2⟩)
  (sc (ze zZ fun _ _ h=>by rw [Bool.and_eq_true] at h;exact ⟨Xo h.1,Xo h.2⟩)
  (sc (ze sl fun _ _ h=>Xo h) (sc (EO Cj fun _ h=>EA h)
  (sc (EO iB fun _ h=>Xo h) (sc (FP pB fun _ q h e=>by cases e;exact Xo h)
  (sc (ym kP) (sc (vK jK) (sc (sX lE) (sc qO sn))))))))))))
end Go.AL.Seat
end
noncomputable section
namespace Go.AL.Seat
open Go Go.AL Go.Proofs
set_option maxRecDepth 1000000
variable [Tabs]
def EP (f:Nat):List (Option Nat):=if Nat.beq f 67 || Nat.beq f 68 then [some 2] else []
def ER (f:Nat):Bool:=false
def yn:List (Nat × FB):=(11,aB tbl Tryz.f11 383 [] (fun _=>false) (fun _=>false) (fun d=>Nat.beq d 25 || Nat.beq d 27) false) ::(18,aB tbl Tryz.f18 15 [] (fun _=>false) (fun _=>false) (fun _=>false) false) ::(19,aB tbl Tryz.f19 4159 [] (fun _=>false) (fun _=>false) (fun _=>false) false) ::(28,aB tbl Tryz.f28 4362109181 [] (fun _=>false) (fun _=>false) (fun _=>false) false) ::(12,aB tbl Tryz.f12 1151 [] (fun _=>false) (fun _=>false) (fun _=>false) false) ::(35,aB tbl Tryz.f35 1965 [] (fun _=>false) (fun _=>false) (fun d=>Nat.beq d 16) false) ::(36,aB tbl Tryz.f36 4362109181 [] (fun _=>false) (fun _=>false) (fun _=>false) false) ::(46,aB tbl Tryz.f46 77975715369647181664879229 [] (fun _=>false) (fun _=>false) (fun _=>false) false) ::(47,aB tbl Tryz.f47 9016029707634675 [] (fun _=>false) (fun _=>false) (fun _=>false) false) ::(48,aB tbl Tryz.f48 531 [] (fun _=>false) (fun _=>false) (fun _=>false) false) ::(21,aB tbl Tryz.f21 74783 [] (fun _=>false) (fun _=>false) (fun _=>false) false) ::(29,aB tbl Tryz.f29 19 [] (fun _=>false) (fun _=>false) (fun _=>false) false) ::(30,aB tbl Tryz.f30 270664191 [] (fun _=>false) (fun _=>false) (fun _=>false) false) ::(53,aB tbl Tryz.f53 5 [] (fun _=>false) (fun _=>false) (fun _=>false) false) ::(54,aB tbl Tryz.f54 562984380336637 [] (fun _=>false) (fun _=>false) (fun _=>false) false) ::(55,aB tbl Tryz.f55 1074004979 [] (fun _=>false) (fun _=>false) (fun _=>false) false) ::(56,aB tbl Tryz.f56 531 [] (fun _=>false) (fun _=>false) (fun _=>false) false) ::(67,aB tbl Tryz.f67 65555 [] (fun _=>false) (fun _=>false) (fun _=>false) false) ::(68,aB tbl Tryz.f68 4294967347 [] (fun _=>false) (fun _=>false) (fun _=>false) false) ::(69,aB tbl Tryz.f69 5 [] (fun _=>false) (fun _=>false) (fun _=>false) false) ::(70,aB tbl Tryz.f70 8388935 [] (fun _=>false) (fun _=>false) (fun _=>false) false) ::(71,aB tbl Tryz.f71 87112288527988523651034566703108870643455 [] (fun _=>false) (fun _=>false) (fun d=>Nat.beq d 21) false) ::(72,aB tbl Tryz.f72 33816627 [] (fun _=>false) (fun _=>false) (fun _=>false) false) ::(73,aB tbl Tryz.f73 5 [] (fun _=>false) (fun _=>false) (fun _=>false) false) ::(74,aB tbl Tryz.f74 268439557 [] (fun _=>false) (fun _=>false) (fun _=>false) false) ::(75,aB tbl Tryz.f75 81129648086015544455969055506495 [] (fun _=>false) (fun _=>false) (fun _=>false) false) ::(76,aB tbl Tryz.f76 263 [] (fun _=>false) (fun _=>false) (fun _=>false) false) ::(37,aB tbl Tryz.f37 2223863 [] (fun _=>false) (fun _=>false) (fun _=>false) false) ::(38,aB tbl Tryz.f38 7 [] (fun _=>false) (fun _=>false) (fun _=>false) false) ::(49,aB tbl Tryz.f49 89203661441933403568762194417536241417190911 [] (fun _=>false) (fun _=>false) (fun d=>Nat.beq d 49 || Nat.beq d 106 || Nat.beq d 124 || Nat.beq d 142 || Nat.beq d 143) false) ::(39,aB tbl Tryz.f39 299063 [] (fun _=>false) (fun _=>false) (fun _=>false) false) ::(24,aB tbl Tryz.f24 39 [] (fun _=>false) (fun _=>false) (fun _=>false) false) ::(91,aB tbl Tryz.f91 37852736853667689267293 [] (fun _=>false) (fun _=>false) (fun _=>false) false) ::(92,aB tbl Tryz.f92 5487058363987403117567667136273109224445 [] (fun _=>false) (fun _=>false) (fun _=>false) false) ::(93,aB tbl Tryz.f93 139315 [] (fun _=>false) (fun _=>false) (fun _=>false) false) ::(94,aB tbl Tryz.f94 17827827 [] (fun _=>false) (fun _=>false) (fun _=>false) false) ::(95,aB tbl Tryz.f95 19 [] (fun _=>false) (fun _=>false) (fun _=>false) false) ::(120,aB tbl Tryz.f120 549890048253 [] (fun _=>false) (fun _=>false) (fun _=>false) false) ::(121,aB tbl Tryz.f121 71 [] (fun _=>false) (fun _=>false) (fun _=>false) false) ::(122,aB tbl Tryz.f122 79 [] (fun _=>false) (fun _=>false) (fun _=>false) false) ::(123,aB tbl Tryz.f123 5 [] (fun _=>false) (fun _=>false) (fun _=>false) false) ::(124,aB tbl Tryz.f124 5 [] (fun _=>false) (fun _=>false) (fun _=>false) false) ::(125,aB tbl Tryz.f125 5 [] (fun _=>false) (fun _=>false) (fun _=>false) false) ::(126,aB tbl Tryz.f126 29 [] (fun _=>false) (fun _=>false) (fun _=>false) false) ::(100,aB tbl Tryz.f100 5 [] (fun _=>false) (fun _=>false) (fun _=>false) false) ::(103,aB tbl Tryz.f103 5 [] (fun _=>false) (fun _=>false) (fun _=>false) false) ::(127,aB tbl Tryz.f127 5 [] (fun _=>false) (fun _=>false) (fun _=>false) false) ::(128,aB tbl Tryz.f128 5 [] (fun _=>false) (fun _=>false) (fun _=>false) false) ::(130,aB tbl Tryz.f130 151115799509488183025661 [] (fun _=>false) (fun _=>false) (fun _=>false) false) ::(131,aB tbl Tryz.f131 618970019647202533975261693 [] (fun _=>false) (fun _=>false) (fun _=>false) false) ::(132,aB tbl Tryz.f132 29 [] (fun _=>false) (fun _=>false) (fun _=>false) false) ::(133,aB tbl Tryz.f133 3 [] (fun d=>Nat.beq d 8) (fun _=>false) (fun _=>false) false) ::(134,aB tbl Tryz.f134 7 [] (fun d=>Nat.beq d 15) (fun _=>false) (fun _=>false) false) ::(137,aB tbl Tryz.f137 275 [] (fun _=>false) (fun _=>false) (fun _=>false) false) ::(135,aB tbl Tryz.f135 131 [] (fun _=>false) (fun _=>false) (fun _=>false) false) ::(139,aB tbl Tryz.f139 7 [] (fun _=>false) (fun _=>false) (fun _=>false) false) ::(138,aB tbl Tryz.f138 271375 [] (fun _=>false) (fun _=>false) (fun _=>false) false) ::(141,aB tbl Tryz.f141 32819 [] (fun _=>false) (fun _=>false) (fun _=>false) false) ::(142,aB tbl Tryz.f142 15 [] (fun _=>false) (fun _=>false) (fun _=>false) false) ::(143,aB tbl Tryz.f143 17180524607 [] (fun _=>false) (fun _=>false) (fun _=>false) false) ::(57,aB tbl Tryz.f57 3537148372723500476506894142080440715070649430595550180525943565456506895 [] (fun _=>false) (fun _=>false) (fun _=>false) false) ::(58,aB tbl Tryz.f58 27 [] (fun _=>false) (fun _=>false) (fun _=>false) false) ::(77,aB tbl Tryz.f77 2147492295 [] (fun _=>false) (fun _=>false) (fun _=>false) false) ::(78,aB tbl Tryz.f78 160562833849755950391295 [] (fun _=>false) (fun _=>false) (fun d=>Nat.beq d 19 || Nat.beq d 49) false) ::(79,aB tbl Tryz.f79 549789368831 [] (fun _=>false) (fun _=>false) (fun d=>Nat.beq d 15 || Nat.beq d 43) false) ::(16,aB tbl Tryz.f16 23 [] (fun _=>false) (fun _=>false) (fun _=>false) false) ::(80,aB tbl Tryz.f80 36031000339288063 [] (fun _=>false) (fun _=>false) (fun d=>Nat.beq d 45 || Nat.beq d 65) false) ::(81,aB tbl Tryz.f81 102844040580930233559092546268346994287008189083989802508869631 [] (fun _=>false) (fun _=>false) (fun d=>Nat.beq d 55 || Nat.beq d 63 || Nat.beq d 86 || Nat.beq d 111 || Nat.beq d 118 || Nat.beq d 120 || Nat.beq d 136 || Nat.beq d 155 || Nat.beq d 167 || Nat.beq d 202 || Nat.beq d 203) false) ::(40,aB tbl Tryz.f40 2159703 [] (fun _=>false) (fun _=>false) (fun _=>false) false) ::(60,aB tbl Tryz.f60 10141204803006463002229839257615 [] (fun _=>false) (fun _=>false) (fun _=>false) false) ::(42,aB tbl Tryz.f42 36219466547391 [] (fun _=>false) (fun _=>false) (fun _=>false) false) ::(150,aB tbl Tryz.f150 9223376984926589309 [] (fun _=>false) (fun _=>false) (fun _=>false) false) ::(151,aB tbl Tryz.f151 5 [] (fun _=>false) (fun _=>false) (fun _=>false) false) ::(152,aB tbl Tryz.f152 5 [] (fun _=>false) (fun _=>false) (fun _=>false) false) ::(153,aB tbl Tryz.f153 2147483661 [] (fun _=>false) (fun _=>false) (fun _=>false) false) ::(154,aB tbl Tryz.f154 5 [] (fun _=>false) (fun _=>false) (fun _=>false) false) ::(116,aB tbl Tryz.f116 5 [] (fun _=>false) (fun _=>false) (fun _=>false) false) ::(119,aB tbl Tryz.f119 5 [] (fun _=>false) (fun _=>false) (fun _=>false) false) ::(155,aB tbl Tryz.f155 5 [] (fun _=>false) (fun _=>false) (fun _=>false) false) ::(156,aB tbl Tryz.f156 5070641086539181312813312250877 [] (fun _=>false) (fun d=>Nat.beq d 14) (fun _=>false) false) ::(157,aB tbl Tryz.f157 16525 [] (fun _=>false) (fun _=>false) (fun _=>false) false) ::(158,aB tbl Tryz.f158 19968563638923261082878717 [] (fun _=>false) (fun _=>false) (fun _=>false) false) ::(159,aB tbl Tryz.f159 5 [] (fun _=>false) (fun _=>false) (fun _=>false) false) ::(160,aB tbl Tryz.f160 5075558997068629606245683707891 [] (fun _=>false) (fun _=>false) (fun _=>false) false) ::(51,aB tbl Tryz.f51 2343 [] (fun _=>false) (fun _=>false) (fun _=>false) false) ::(161,aB tbl Tryz.f161 33043 [] (fun _=>false) (fun _=>false) (fun _=>false) false) ::(166,aB tbl Tryz.f166 552075315 [] (fun _=>false) (fun _=>false) (fun _=>false) false) ::(196,aB tbl Tryz.f196 5 [] (fun _=>false) (fun _=>false) (fun _=>false) false) ::(198,aB tbl Tryz.f198 9316337836119 [] (fun _=>false) (fun _=>false) (fun _=>false) false) ::(200,aB tbl Tryz.f200 5 [] (fun _=>false) (fun _=>false) (fun _=>false) false) ::(136,aB tbl Tryz.f136 2228285 [] (fun _=>false) (fun _=>false) (fun _=>false) false) ::(203,aB tbl Tryz.f203 51 [] (fun _=>false) (fun _=>false) (fun _=>false) false) ::(140,aB tbl Tryz.f140 65587 [] (fun _=>false) (fun _=>false) (fun _=>false) false) ::(205,aB tbl Tryz.f205 23945973599159813139139346461134680183357916012085311 [] (fun _=>false) (fun _=>false) (fun _=>false) false) ::(206,aB tbl Tryz.f206 3 [] (fun d=>Nat.beq d 8) (fun _=>false) (fun _=>false) false) ::(96,aB tbl Tryz.f96 7 [] (fun _=>false) (fun _=>false) (fun _=>false) false) ::(97,aB tbl Tryz.f97 27 [] (fun _=>false) (fun _=>false) (fun _=>false) false) ::(98,aB tbl Tryz.f98 7 [] (fun _=>false) (fun _=>false) (fun _=>false) false) ::(99,aB tbl Tryz.f99 2098133 [] (fun _=>false) (fun _=>false) (fun _=>false) false) ::(101,aB tbl Tryz.f101 13 [] (fun _=>false) (fun _=>false) (fun _=>false) false) ::(102,aB tbl Tryz.f102 27 [] (fun _=>false) (fun _=>false) (fun _=>false) false) ::(105,aB tbl Tryz.f105 15 [] (fun _=>false) (fun _=>false) (fun _=>false) false) ::(104,aB tbl Tryz.f104 19 [] (fun _=>false) (fun _=>false) (fun _=>false) false) ::(144,aB tbl Tryz.f144 8389119 [] (fun _=>false) (fun _=>false) (fun _=>false) false) ::(145,aB tbl Tryz.f145 66483 [] (fun _=>false) (fun _=>false) (fun _=>false) false) ::(146,aB tbl Tryz.f146 67172223 [] (fun _=>false) (fun _=>false) (fun _=>false) true) ::(109,aB tbl Tryz.f109 4444215 [] (fun _=>false) (fun _=>false) (fun _=>false) false) ::(110,aB tbl Tryz.f110 5 [] (fun _=>false) (fun _=>false) (fun _=>false) false) ::(62,aB tbl Tryz.f62 39 [] (fun _=>false) (fun _=>false) (fun d=>Nat.beq d 16) false) ::(212,aB tbl Tryz.f212 5 [] (fun _=>false) (fun _=>false) (fun _=>false) false) ::(213,aB tbl Tryz.f213 8389645 [] (fun _=>false) (fun _=>false) (fun _=>false) false) ::(214,aB tbl Tryz.f214 131635 [] (fun _=>false) (fun _=>false) (fun _=>false) false) ::(215,aB tbl Tryz.f215 8388767 [] (fun _=>false) (fun _=>false) (fun _=>false) false) ::(216,aB tbl Tryz.f216 2097779 [] (fun _=>false) (fun _=>false) (fun _=>false) false) ::(217,aB tbl Tryz.f217 4295 [] (fun _=>false) (fun _=>false) (fun _=>false) false) ::(218,aB tbl Tryz.f218 66503 [] (fun _=>false) (fun _=>false) (fun _=>false) false) ::(219,aB tbl Tryz.f219 199 [] (fun _=>false) (fun _=>false) (fun _=>false) false) ::(220,aB tbl Tryz.f220 316931992907069184984647990303 [] (fun _=>false) (fun _=>false) (fun _=>false) false) ::(221,aB tbl Tryz.f221 73796001086816403443 [] (fun _=>false) (fun _=>false) (fun _=>false) false) ::(33,aB tbl Tryz.f33 65655 [] (fun _=>false) (fun _=>false) (fun _=>false) false) ::(88,aB tbl Tryz.f88 2098239 [] (fun _=>false) (fun _=>false) (fun _=>false) false) ::(89,aB tbl Tryz.f89 1050703 [] (fun _=>false) (fun _=>false) (fun _=>false) false) ::(241,aB tbl Tryz.f241 18014398524686365 [] (fun _=>false) (fun _=>false) (fun _=>false) false) ::(202,aB tbl Tryz.f202 324677087359430077278579446644799 [] (fun d=>Nat.beq d 129) (fun _=>false) (fun _=>false) false) ::(204,aB tbl Tryz.f204 19 [] (fun _=>false) (fun _=>false) (fun _=>false) false) ::(248,aB tbl Tryz.f248 3 [] (fun d=>Nat.beq d 23) (fun _=>false) (fun _=>false) false) ::(249,aB tbl Tryz.f249 13 [] (fun _=>false) (fun _=>false) (fun _=>false) false) ::(163,aB tbl Tryz.f163 15 [] (fun _=>false) (fun _=>false) (fun _=>false) false) ::(162,aB tbl Tryz.f162 19 [] (fun _=>false) (fun _=>false) (fun _=>false) false) ::(164,aB tbl Tryz.f164 7 [] (fun _=>false) (fun _=>false) (fun _=>false) false) ::(168,aB tbl Tryz.f168 7 [] (fun _=>false) (fun _=>false) (fun _=>false) false) ::(171,aB tbl Tryz.f171 11 [] (fun _=>false) (fun _=>false) (fun _=>false) false) ::(170,aB tbl Tryz.f170 19 [] (fun _=>false) (fun _=>false) (fun _=>false) false) ::(172,aB tbl Tryz.f172 66483 [] (fun _=>false) (fun _=>false) (fun _=>false) false) ::(207,aB tbl Tryz.f207 31 [] (fun _=>false) (fun _=>false) (fun d=>Nat.beq d 7 || Nat.beq d 9 || Nat.beq d 12) false) ::(208,aB tbl Tryz.f208 553657335 [] (fun _=>false) (fun _=>false) (fun d=>Nat.beq d 19 || Nat.beq d 20) false) ::(63,aB tbl Tryz.f63 19 [] (fun _=>false) (fun _=>false) (fun _=>false) false) ::(256,aB tbl Tryz.f256 72341542915801119 [] (fun _=>false) (fun _=>false) (fun _=>false) false) ::(257,aB tbl Tryz.f257 4125 [] (fun _=>false) (fun _=>false) (fun _=>false) false) ::(258,aB tbl Tryz.f258 68987920327 [] (fun _=>false) (fun _=>false) (fun _=>false) false) ::(149,aB tbl Tryz.f149 2557586548459967842939230490655 [] (fun _=>false) (fun _=>false) (fun _=>false) false) ::(244,aB tbl Tryz.f244 7 [] (fun d=>Nat.beq d 21) (fun _=>false) (fun _=>false) false) ::(246,aB tbl Tryz.f246 149971 [] (fun _=>false) (fun _=>false) (fun _=>false) false) ::(247,aB tbl Tryz.f247 3 [] (fun d=>Nat.beq d 8) (fun _=>false) (fun _=>false) false) ::(222,aB tbl Tryz.f222 66483 [] (fun _=>false) (fun _=>false) (fun _=>false) false) ::(226,aB tbl Tryz.f226 16883 [] (fun _=>false) (fun _=>false) (fun _=>false) false) ::(227,aB tbl Tryz.f227 66483 [] (fun _=>false) (fun _=>false) (fun _=>false) false) ::(250,aB tbl Tryz.f250 31 [] (fun _=>false) (fun _=>false) (fun _=>false) false) ::(251,aB tbl Tryz.f251 1 [] (fun _=>false) (fun _=>false) (fun _=>false) false) ::(252,aB tbl Tryz.f252 179799758744771528110887069003277459880165367 [] (fun _=>false) (fun _=>false) (fun d=>Nat.beq d 71 || Nat.beq d 87 || Nat.beq d 98 || Nat.beq d 103) false) ::(254,aB tbl Tryz.f254 3885 [] (fun _=>false) (fun _=>false) (fun _=>false) false) ::(253,aB tbl Tryz.f253 2203049797495 [] (fun _=>false) (fun _=>false) (fun _=>false) false) ::(113,aB tbl Tryz.f113 19 [] (fun _=>false) (fun _=>false) (fun _=>false) false) ::(278,aB tbl Tryz.f278 33309 [] (fun _=>false) (fun _=>false) (fun _=>false) false) ::(279,aB tbl Tryz.f279 36028797018964541 [] (fun _=>false) (fun _=>false) (fun _=>false) false) ::(211,aB tbl Tryz.f211 4297327731 [] (fun _=>false) (fun _=>false) (fun _=>false) false) ::(245,aB tbl Tryz.f245 5 [] (fun _=>false) (fun _=>false) (fun _=>false) false) ::(273,aB tbl Tryz.f273 79 [] (fun _=>false) (fun _=>false) (fun _=>false) false) ::(274,aB tbl Tryz.f274 2103 [] (fun _=>false) (fun _=>false) (fun _=>false) false) ::(275,aB tbl Tryz.f275 11 [] (fun _=>false) (fun _=>false) (fun _=>false) false) ::(277,aB tbl Tryz.f277 1079 [] (fun _=>false) (fun _=>false) (fun _=>false) false) ::(276,aB tbl Tryz.f276 251 [] (fun _=>false) (fun _=>false) (fun _=>false) false) ::(299,aB tbl Tryz.f299 524429 [] (fun _=>false) (fun _=>false) (fun _=>false) false) ::[]
theorem kj:an Tryz.prog yn:=an.cons Tryz.func11 (by kernel_rfl) (an.cons Tryz.func18 (by kernel_rfl) (an.cons Tryz.func19 (by kernel_rfl) (an.cons Tryz.func28 (by kernel_rfl) (an.cons Tryz.func12 (by kernel_rfl) (an.cons Tryz.func35 (by kernel_rfl) (an.cons Tryz.func36 (by kernel_rfl) (an.cons Tryz.func46 (by kernel_rfl) (an.cons Tryz.func47 (by kernel_rfl) (an.cons Tryz.func48 (by kernel_rfl) (an.cons Tryz.func21 (by kernel_rfl) (an.cons Tryz.func29 (by kernel_rfl) (an.cons Tryz.func30 (by kernel_rfl) (an.cons Tryz.func53 (by kernel_rfl) (an.cons Tryz.func54 (by kernel_rfl) (an.cons Tryz.func55 (by kernel_rfl) (an.cons Tryz.func56 (by kernel_rfl) (an.cons Tryz.func67 (by kernel_rfl) (an.cons Tryz.func68 (by kernel_rfl) (an.cons Tryz.func69 (by kernel_rfl) (an.cons Tryz.func70 (by kernel_rfl) (an.cons Tryz.func71 (by kernel_rfl) (an.cons Tryz.func72 (by kernel_rfl) (an.cons Tryz.func73 (by kernel_rfl) (an.cons Tryz.func74 (by kernel_rfl) (an.cons Tryz.func75 (by kernel_rfl) (an.cons Tryz.func76 (by kernel_rfl) (an.cons Tryz.func37 (by kernel_rfl) (an.cons Tryz.func38 (by kernel_rfl) (an.cons Tryz.func49 (by kernel_rfl) (an.cons Tryz.func39 (by kernel_rfl) (an.cons Tryz.func24 (by kernel_rfl) (an.cons Tryz.func91 (by kernel_rfl) (an.cons Tryz.func92 (by kernel_rfl) (an.cons Tryz.func93 (by kernel_rfl) (an.cons Tryz.func94 (by kernel_rfl) (an.cons Tryz.func95 (by kernel_rfl) (an.cons Tryz.func120 (by kernel_rfl) (an.cons Tryz.func121 (by kernel_rfl) (an.cons Tryz.func122 (by kernel_rfl) (an.cons Tryz.func123 (by kernel_rfl) (an.cons Tryz.func124 (by kernel_rfl) (an.cons Tryz.func125 (by kernel_rfl) (an.cons Tryz.func126 (by kernel_rfl) (an.cons Tryz.func100 (by kernel_rfl) (an.cons Tryz.func103 (by kernel_rfl) (an.cons Tryz.func127 (by kernel_rfl) (an.cons Tryz.func128 (by kernel_rfl) (an.cons Tryz.func130 (by kernel_rfl) (an.cons Tryz.func131 (by kernel_rfl) (an.cons Tryz.func132 (by kernel_rfl) (an.cons Tryz.func133 (by kernel_rfl) (an.cons Tryz.func134 (by kernel_rfl) (an.cons Tryz.func137 (by kernel_rfl) (an.cons Tryz.func135 (by kernel_rfl) (an.cons Tryz.func139 (by kernel_rfl) (an.cons Tryz.func138 (by kernel_rfl) (an.cons Tryz.func141 (by kernel_rfl) (an.cons Tryz.func142 (by kernel_rfl) (an.cons Tryz.func143 (by kernel_rfl) (an.cons Tryz.func57 (by kernel_rfl) (an.cons Tryz.func58 (by kernel_rfl) (an.cons Tryz.func77 (by kernel_rfl) (an.cons Tryz.func78 (by kernel_rfl) (an.cons Tryz.func79 (by kernel_rfl) (an.cons Tryz.func16 (by kernel_rfl) (an.cons Tryz.func80 (by kernel_rfl) (an.cons Tryz.func81 (by kernel_rfl) (an.cons Tryz.func40 (by kernel_rfl) (an.cons Tryz.func60 (by kernel_rfl) (an.cons Tryz.func42 (by kernel_rfl) (an.cons Tryz.func150 (by kernel_rfl) (an.cons Tryz.func151 (by kernel_rfl) (an.cons Tryz.func152 (by kernel_rfl) (an.cons Tryz.func153 (by kernel_rfl) (an.cons Tryz.func154 (by kernel_rfl) (an.cons Tryz.func116 (by kernel_rfl) (an.cons Tryz.func119 (by kernel_rfl) (an.cons Tryz.func155 (by kernel_rfl) (an.cons Tryz.func156 (by kernel_rfl) (an.cons Tryz.func157 (by kernel_rfl) (an.cons Tryz.func158 (by kernel_rfl) (an.cons Tryz.func159 (by kernel_rfl) (an.cons Tryz.func160 (by kernel_rfl) (an.cons Tryz.func51 (by kernel_rfl) (an.cons Tryz.func161 (by kernel_rfl) (an.cons Tryz.func166 (by kernel_rfl) (an.cons Tryz.func196 (by kernel_rfl) (an.cons Tryz.func198 (by kernel_rfl) (an.cons Tryz.func200 (by kernel_rfl) (an.cons Tryz.func136 (by kernel_rfl) (an.cons Tryz.func203 (by kernel_rfl) (an.cons Tryz.func140 (by kernel_rfl) (an.cons Tryz.func205 (by kernel_rfl) (an.cons Tryz.func206 (by kernel_rfl) (an.cons Tryz.func96 (by kernel_rfl) (an.cons Tryz.func97 (by kernel_rfl) (an.cons Tryz.func98 (by kernel_rfl) (an.cons Tryz.func99 (by kernel_rfl) (an.cons Tryz.func101 (by kernel_rfl) (an.cons Tryz.func102 (by kernel_rfl) (an.cons Tryz.func105 (by kernel_rfl) (an.cons Tryz.func104 (by kernel_rfl) (an.cons Tryz.func144 (by kernel_rfl) (an.cons Tryz.func145 (by kernel_rfl) (an.cons Tryz.func146 (by kernel_rfl) (an.cons Tryz.func109 (by kernel_rfl) (an.cons Tryz.func110 (by kernel_rfl) (an.cons Tryz.func62 (by kernel_rfl) (an.cons Tryz.func212 (by kernel_rfl) (an.cons Tryz.func213 (by kernel_rfl) (an.cons Tryz.func214 (by kernel_rfl) (an.cons Tryz.func215 (by kernel_rfl) (an.cons Tryz.func216 (by kernel_rfl) (an.cons Tryz.func217 (by kernel_rfl) (an.cons Tryz.func218 (by kernel_rfl) (an.cons Tryz.func219 (by kernel_rfl) (an.cons Tryz.func220 (by kernel_rfl) (an.cons Tryz.func221 (by kernel_rfl) (an.cons Tryz.func33 (by kernel_rfl) (an.cons Tryz.func88 (by kernel_rfl) (an.cons Tryz.func89 (by kernel_rfl) (an.cons Tryz.func241 (by kernel_rfl) (an.cons Tryz.func202 (by kernel_rfl) (an.cons Tryz.func204 (by kernel_rfl) (an.cons Tryz.func248 (by kernel_rfl) (an.cons Tryz.func249 (by kernel_rfl) (an.cons Tryz.func163 (by kernel_rfl) (an.cons Tryz.func162 (by kernel_rfl) (an.cons Tryz.func164 (by kernel_rfl) (an.cons Tryz.func168 (by kernel_rfl) (an.cons Tryz.func171 (by kernel_rfl) (an.cons Tryz.func170 (by kernel_rfl) (an.cons Tryz.func172 (by kernel_rfl) (an.cons Tryz.func207 (by kernel_rfl) (an.cons Tryz.func208 (by kernel_rfl) (an.cons Tryz.func63 (by kernel_rfl) (an.cons Tryz.func256 (by kernel_rfl) (an.cons Tryz.func257 (by kernel_rfl) (an.cons Tryz.func258 (by kernel_rfl) (an.cons Tryz.func149 (by kernel_rfl) (an.cons Tryz.func244 (by kernel_rfl) (an.cons Tryz.func246 (by kernel_rfl) (an.cons Tryz.func247 (by kernel_rfl) (an.cons Tryz.func222 (by kernel_rfl) (an.cons Tryz.func226 (by kernel_rfl) (an.cons Tryz.func227 (by kernel_rfl) (an.cons Tryz.func250 (by kernel_rfl) (an.cons Tryz.func251 (by kernel_rfl) (an.cons Tryz.func252 (by kernel_rfl) (an.cons Tryz.func254 (by kernel_rfl) (an.cons Tryz.func253 (by kernel_rfl) (an.cons Tryz.func113 (by kernel_rfl) (an.cons Tryz.func278 (by kernel_rfl) (an.cons Tryz.func279 (by kernel_rfl) (an.cons Tryz.func211 (by kernel_rfl) (an.cons Tryz.func245 (by kernel_rfl) (an.cons Tryz.func273 (by kernel_rfl) (an.cons Tryz.func274 (by kernel_rfl) (an.cons Tryz.func275 (by kernel_rfl) (an.cons Tryz.func277 (by kernel_rfl) (an.cons Tryz.func276 (by kernel_rfl) (an.cons Tryz.func299 (by kernel_rfl) (an.nil)))))))))))))))))))))))))))))))))))))))))))))))))))))))))))))))))))))))))))))))))))))))))))))))))))))))))))))))))))))))))))))))))))))))))))))))))))))))))))))))))))
abbrev Fu:=Bw tbl yn ER EP 5000 (gS DA) 100
end Go.AL.Seat
end
noncomputable section
namespace Go.AL.Seat
open Go Go.AL Go.Proofs Go.Pd
set_option maxRecDepth 1000000
def Fv:Str:=[40,102,117,110,32,40,120,58,32,73,110,116,41,32,45,62,32,123,97,32,61,32,120,125,41,40,49,41,46,97]
def Fw:Str:=[97,100,100,40,49,44,32,116,114,117,101,41]
def Fx:AV:=(.tup [(.agg [(.int .i64 9),(.str []),(.str [97]),(.int .i64 0),.nils,.nils,.nils,(.lst (.st .term) [⟨7,[],[],0,[],[],[],[⟨6,[],[],0,[[120]],[],[⟨1,[],[],[],[]⟩],[⟨8,[],[],0,[[97]],[],[],[⟨5,[],[120],0,[],[],[],[],22⟩],17⟩],1⟩,⟨1,[],[],1,[],[],[],[],26⟩],0⟩] none),(.int .i64 0)]),(.agg [(.int .i64 0),(.int .i64 0)])])
def Fy:AV:=(.tup [(.agg [(.int .i64 7),(.str []),(.str []),(.int .i64 0),.nils,.nils,.nils,(.lst (.st .term) [⟨5,[],[97,100,100],0,[],[],[],[],0⟩,⟨1,[],[],1,[],[],[],[],4⟩,⟨3,[],[],0,[],[],[],[],7⟩] none),(.int .i64 0)]),(.agg [(.int .i64 0),(.int .i64 0)])])
def DB:List Bndg:=[⟨[],[97,100,100],⟨8,[],[],[],[⟨1,[],[],[],[]⟩,⟨1,[],[],[],[]⟩,⟨1,[],[],[],[]⟩]⟩⟩,⟨[],[115,117,98],⟨8,[],[],[],[⟨1,[],[],[],[]⟩,⟨1,[],[],[],[]⟩,⟨1,[],[],[],[]⟩]⟩⟩,⟨[],[109,117,108],⟨8,[],[],[],[⟨1,[],[],[],[]⟩,⟨1,[],[],[],[]⟩,⟨1,[],[],[],[]⟩]⟩⟩,⟨[],[108,101,115,115],⟨8,[],[],[],[⟨1,[],[],[],[]⟩,⟨1,[],[],[],[]⟩,⟨2,[],[],[],[]⟩]⟩⟩,⟨[],[115,97,109,101],⟨8,[],[],[],[⟨1,[],[],[],[]⟩,⟨1,[],[],[],[]⟩,⟨2,[],[],[],[]⟩]⟩⟩,⟨[],[110,111,116],⟨8,[],[],[],[⟨2,[],[],[],[]⟩,⟨2,[],[],[],[]⟩]⟩⟩,⟨[],[98,111,116,104],⟨8,[],[],[],[⟨2,[],[],[],[]⟩,⟨2,[],[],[],[]⟩,⟨2,[],[],[],[]⟩]⟩⟩,⟨[],[99,97,116],⟨8,[],[],[],[⟨3,[],[],[],[]⟩,⟨3,[],[],[],[]⟩,⟨3,[],[],[],[]⟩]⟩⟩,⟨[],[115,105,122,101],⟨8,[],[],[],[⟨3,[],[],[],[]⟩,⟨1,[],[],[],[]⟩]⟩⟩,⟨[],[115,104,111,119],⟨8,[],[],[],[⟨1,[],[],[],[]⟩,⟨3,[],[],[],[]⟩]⟩⟩]
variable [Tabs] [SeatLaid]
theorem run1:ax Tryz.prog 28 [.str Fv] [] (.ret Fx):=kh (n:=100) mixed pA lJ kj (by kernel_rfl:Fu 28 [.str Fv] []=some ⟨none,none,Fx,[]⟩)
theorem run2:ax Tryz.prog 28 [.str Fw] [] (.ret Fy):=kh (n:=100) mixed pA lJ kj (by kernel_rfl:Fu 28 [.str Fw] []=some ⟨none,none,Fy,[]⟩)
theorem run3:ax Tryz.prog 18 [] [] (.ret (.lst (.st .bind) DB none)):=kh (n:=100) mixed pA lJ kj (by kernel_rfl:Fu 18 [] []=some ⟨none,none,.lst (.st .bind) DB none,[]⟩)
def ES:List (Nat × Pat):=(28,vI [.str Fv] Fx) ::(28,vI [.str Fw] Fy) ::(18,vI [] (.lst (.st .bind) DB none)) ::DA
theorem DC:bT Tryz.prog (gS ES):=sc (sW (ee Tryz.func28) run1) (sc (sW (ee Tryz.func28) run2) (sc (sW (ee Tryz.func18) run3) lJ))
abbrev FQ:=Bw tbl yn ER EP 5000 (gS ES) 100
end Go.AL.Seat
end
noncomputable section
namespace Go.AL.Seat
open Go Go.AL Go.Proofs Go.Pd
set_option maxRecDepth 1000000
variable [Tabs] [SeatLaid]
theorem run5:ax Tryz.prog 11 [] [] (.ret (.bool true)):=kh (n:=100) mixed pA DC kj (by kernel_rfl:FQ 11 [] []=some ⟨none,none,.bool true,[]⟩)
theorem vL:ak Tryz.prog 11 (p0 (.ret (.bool true))):=EM (ee Tryz.func11) run5
end Go.AL.Seat
end
