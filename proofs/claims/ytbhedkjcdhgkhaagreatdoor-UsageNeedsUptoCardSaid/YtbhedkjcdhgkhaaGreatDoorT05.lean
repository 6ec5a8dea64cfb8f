/- The layer: Go code as conditions, and that they are sound. Plain facts. What the functions' conditions say, proved. No condition. -/
import Derived.Test.YtbhedkjcdhgkhaaGreatDoorT04
import Derived.Deep.RegionHeld3
import Derived.Handy
import Derived.Maps.RangeRun
import Derived.Shelf.SlIter.Collect
import Derived.Shelf.SlSortCmp.NoneTotal
import Derived.Shelf.SlSortCmp.QuietGrown
import Derived.Shelf.SlSortCmp.WholeK
import Derived.Shelf.Slices.Clone
import Derived.Sort.Walk0
import Derived.Test.YtbhedkjcdhgkhaaGreatDoorProg
set_option linter.all false
set_option maxRecDepth 100000
noncomputable section
namespace Go.AL
variable [Tabs]
mutual
def fineV:AV→Bool
 | .lstp _ _ _=>false
 | .tptr _ _ _=>false
 | .cptr c=>fineV c
 | .agg cs=>fineVs cs
 | .tup cs=>fineVs cs
 | .fn _ cs=>fineVs cs
 | .iface _ a=>fineV a
 | _=>true
def fineVs:List AV→Bool
 | []=>true
 | a ::r=>fineV a && fineVs r
end
def yz:SObj→Bool
 | .box c=>fineV c
 | .tailp _ _ _=>false
 | _=>true
mutual
def strip:AV→AV
 | .lst τ xs _=>.lst τ xs none
 | .agg cs=>.agg (strips cs)
 | .tup cs=>.tup (strips cs)
 | a=>a
def strips:List AV→List AV
 | []=>[]
 | a ::r=>strip a ::strips r
end
theorem gG (τ:Ty) (xs:List (den τ)):cM τ τ xs=some xs:=by simp [cM]
theorem ta (n:SN) (x:SD n):gL n n x=some x:=by simp [gL]
theorem tc (n:SN) (x:Option (SD n)):kF n n x=some x:=by simp [kF]
theorem nC (a:AV):oc a a:=by cases a <;> trivial
mutual
theorem LeV_self (G:List Nat):∀a:AV,fineV a=true→LeV G a a
 | .undef,_=>b7 (by simp [LeF])
 | .int k n,_=>b7 (by simp [LeF])
 | .bool b,_=>b7 (by simp [LeF])
 | .str s,_=>b7 (by simp [LeF])
 | .lst τ xs o,_=>b7 (by simp [LeF,gG])
 | .nils,_=>b7 (by simp [LeF])
 | .ptr i o,_=>b7 (by simp [LeF])
 | .nilp,_=>b7 (by simp [LeF])
 | .pt n x,_=>b7 (by simp [LeF,tc])
 | .st n x,_=>b7 (by simp [LeF,ta])
 | .row τ xs,_=>b7 (by simp [LeF,gG])
 | .arr i n w,_=>b7 (by simp [LeF])
 | .aptr i n w o,_=>b7 (by simp [LeF])
 | .map i,_=>b7 (by simp [LeF])
 | .glst _ _ _,_=>b7 (by simp [LeF])
 | .gptr _ _ _ _ _,_=>b7 (by simp [LeF])
 | .bptr i,_=>b7 (by simp [LeF])
 | .nilif,_=>b7 (by simp [LeF])
 | .nilm,_=>b7 (by simp [LeF])
 | .cptr c,h=>by simp only [fineV] at h;unfold LeV;exact ⟨nC c,LeV_self G c h⟩
 | .agg cs,h=>by simp only [fineV] at h;unfold LeV;exact LeL_self G cs h
 | .tup cs,h=>by simp only [fineV] at h;unfold LeV;exact LeL_self G cs h
 | .fn f cs,h=>by simp only [fineV] at h;unfold LeV;exact ⟨by simp,LeL_self G cs h⟩
 | .iface t a,h=>by simp only [fineV] at h;unfold LeV;exact ⟨by simp,LeV_self G a h⟩
 | .lstp _ _ _,h=>by cases h
 | .tptr _ _ _,h=>by cases h
theorem LeL_self (G:List Nat):∀l:List AV,fineVs l=true→LeL G l l
 | [],_=>by unfold LeL;trivial
 | a ::r,h=>by
  simp only [fineVs,Bool.and_eq_true] at h
  unfold LeL
  exact ⟨LeV_self G a h.1,LeL_self G r h.2⟩
end
mutual
theorem LeV_strip (G:List Nat):∀a:AV,fineV a=true→LeV G a (strip a)
 | .lst τ xs o,_=>by unfold strip;exact b7 (by simp [LeF,gG])
 | .agg cs,h=>by simp only [fineV] at h;unfold strip LeV;exact LeL_strip G cs h
 | .tup cs,h=>by simp only [fineV] at h;unfold strip LeV;exact LeL_strip G cs h
 | .undef,h=>LeV_self G _ h
 | .int k n,h=>LeV_self G _ h
 | .bool b,h=>LeV_self G _ h
 | .str s,h=>LeV_self G _ h
 | .nils,h=>LeV_self G _ h
 | .ptr i o,h=>LeV_self G _ h
 | .nilp,h=>LeV_self G _ h
 | .pt n x,h=>LeV_self G _ h
 | .st n x,h=>LeV_self G _ h
 | .row τ xs,h=>LeV_self G _ h
 | .arr i n w,h=>LeV_self G _ h
 | .aptr i n w o,h=>LeV_self G _ h
 | .map i,h=>LeV_self G _ h
 | .glst _ _ _,h=>LeV_self G _ h
 | .gptr _ _ _ _ _,h=>LeV_self G _ h
 | .bptr i,h=>LeV_self G _ h
 | .nilif,h=>LeV_self G _ h
 | .nilm,h=>LeV_self G _ h
 | .cptr c,h=>LeV_self G _ h
 | .fn f cs,h=>LeV_self G _ h
 | .iface t a,h=>LeV_self G _ h
 | .lstp _ _ _,h=>by cases h
 | .tptr _ _ _,h=>by cases h
theorem LeL_strip (G:List Nat):∀l:List AV,fineVs l=true→LeL G l (strips l)
 | [],_=>by unfold strips LeL;trivial
 | a ::r,h=>by
  simp only [fineVs,Bool.and_eq_true] at h
  unfold strips LeL
  exact ⟨LeV_strip G a h.1,LeL_strip G r h.2⟩
end
theorem rz {G:List Nat} {s:St}:∀(l l':List AV) (k:Nat),LeL G l l'→(∀j,aJ s.t (k+j)=l.getD j .undef)→LeT G s (dC k l')
 | [],[],k,_,_=>trivial
 | a ::r,b ::r',k,h,hg=>by
  unfold LeL at h
  refine ⟨?_,rz r r' (k+1) h.2 fun j=>?_⟩
  ·have:=hg 0
   rw [Nat.add_zero] at this
   rw [this]
   exact h.1
  ·have:=hg (j+1)
   rw [show k+1+j=k+(j+1) by omega,this]
   rfl
 | [],_ ::_,_,h,_=>by unfold LeL at h;exact h.elim
 | _ ::_,[],_,h,_=>by unfold LeL at h;exact h.elim
theorem gd {G:List Nat} {s:St}:∀l:List (Nat × SObj),(∀x∈l,ah s.b x.1=some x.2/\yz x.2=true)→LeB G s l
 | [],_=>trivial
 | (i,.box c) ::r,h=>by
  obtain ⟨h1,h2⟩:=h _ (List.mem_cons_self ..)
  refine ⟨?_,gd r fun x hx=>h x (List.mem_cons_of_mem _ hx)⟩
  simp only at h1
  rw [h1]
  exact ⟨nC c,LeV_self G c h2⟩
 | (i,.tail τ n) ::r,h=>by
  obtain ⟨h1,h2⟩:=h _ (List.mem_cons_self ..)
  refine ⟨?_,gd r fun x hx=>h x (List.mem_cons_of_mem _ hx)⟩
  simp only at h1
  rw [h1]
  simp
 | (i,.map κ τ m) ::r,h=>by
  obtain ⟨h1,h2⟩:=h _ (List.mem_cons_self ..)
  refine ⟨?_,gd r fun x hx=>h x (List.mem_cons_of_mem _ hx)⟩
  simp only at h1
  rw [h1]
  simp [tF]
 | (i,.bld t u l) ::r,h=>by
  obtain ⟨h1,h2⟩:=h _ (List.mem_cons_self ..)
  refine ⟨?_,gd r fun x hx=>h x (List.mem_cons_of_mem _ hx)⟩
  simp only at h1
  rw [h1]
  simp
 | (i,.tailp τ n x) ::r,h=>by
  obtain ⟨h1,h2⟩:=h _ (List.mem_cons_self ..)
  cases h2
 | (i,.grow τ n xs) ::r,h=>by
  obtain ⟨h1,h2⟩:=h _ (List.mem_cons_self ..)
  refine ⟨?_,gd r fun x hx=>h x (List.mem_cons_of_mem _ hx)⟩
  simp only at h1
  rw [h1]
  simp [gG]
end Go.AL
end
noncomputable section
namespace Go.AL
def kY (S:List (Nat × SObj)) (x:Nat × SObj):Bool:=match ah S x.1 with | some o=>eqO o x.2 | none=>false
def wW:List AV→AV
 | [a]=>a
 | l=>.tup l
def wX (s:St) (l:List AV):List (Nat × SObj):=
 s.b.filter fun x=>b9 x.1 || (fQ (ah s.b) 64 (ids.idsL l++(aI s.b).filter b9) []).contains x.1
def za:Bool→List AV→List AV
 | true,l=>l
 | false,l=>strips l
def wY (tok:Bool) (S:List (Nat × SObj)) (s:St) (l:List AV):Option Ans:=
 evVs (za tok l) fun l'=>evB (wX s l') fun kept=>
  match fineVs l && (kept.all (fun x=>yz x.2)) && aO (aI s.b) && (aI S).all (fun i=>(aI kept).contains i) &&
    (bp ((aI s.b).filter fun i=>!(aI kept).contains i) ⟨dC 0 l',kept⟩ && ((aI s.b).filter fun i=>!(aI kept).contains i).all (fun i=>!b9 i)) with
  | true=>some ⟨none,none,wW l',kept.filter fun x=>!kY S x⟩
  | false=>none
theorem lF:∀{l:List (Nat × SObj)},aO (aI l)=true→∀{i:Nat} {o:SObj},(i,o)∈l→ah l i=some o
 | [],_,_,_,h=>by cases h
 | (j,u) ::r,hd,i,o,h=>by
  simp only [aI,List.map_cons,aO,Bool.and_eq_true,Bool.not_eq_true',List.contains_eq_mem,decide_eq_false_iff_not] at hd
  rcases List.mem_cons.1 h with e | e
  ·cases e;simp [ay,aw]
  ·have hne:¬j=i:=fun q=>hd.1 (List.mem_map.2 ⟨_,e,q.symm⟩)
   simp only [ay,aw,beq_iff_eq,hne,if_false]
   exact lF hd.2 e
theorem eJ (p:Nat × SObj→Bool):∀{l:List (Nat × SObj)},aO (aI l)=true→aO (aI (l.filter p))=true
 | [],_=>rfl
 | x ::r,hd=>by
  simp only [aI,List.map_cons,aO,Bool.and_eq_true,Bool.not_eq_true',List.contains_eq_mem,decide_eq_false_iff_not] at hd
  have ih:=eJ p hd.2
  rw [List.filter_cons]
  split
  ·simp only [aI,List.map_cons,aO,Bool.and_eq_true,Bool.not_eq_true',List.contains_eq_mem,decide_eq_false_iff_not]
   refine ⟨fun h=>hd.1 ?_,ih⟩
   obtain ⟨y,hy,e⟩:=List.mem_map.1 h
   exact List.mem_map.2 ⟨y,(List.mem_filter.1 hy).1,e⟩
  ·exact ih
variable [Tabs]
theorem wZ {l:List (Nat × SObj)} {i:Nat} (h:ah l i=none):i∉aI l:=kc l i h
theorem nD {l:List (Nat × SObj)} {i:Nat} (h:i∉aI l):ah l i=none:=by
 cases hb:ah l i with
 | none=>rfl
 | some o=>exact absurd (List.mem_map.2 ⟨(i,o),bH l i o hb,rfl⟩) h
theorem ye {S kept:List (Nat × SObj)} (hd:aO (aI kept)=true) (hS:∀i∈aI S,i∈aI kept):ah (bz S (kept.filter fun x=>!kY S x))=ah kept:=by
 funext i
 have hdf:=eJ (fun x=>!kY S x) hd
 rw [oL _ S i hdf]
 cases hk:ah kept i with
 | some o=>
  have hm:=bH kept i o hk
  cases hs:kY S (i,o) with
  | false=>
   have:(i,o)∈kept.filter fun x=>!kY S x:=List.mem_filter.2 ⟨hm,by rw [hs];rfl⟩
   rw [lF hdf this]
   rfl
  | true=>
   have hn:ah (kept.filter fun x=>!kY S x) i=none:=by
    cases hb:ah (kept.filter fun x=>!kY S x) i with
    | none=>rfl
    | some o'=>
     have h1:=List.mem_filter.1 (bH _ i o' hb)
     have h2:=lF hd h1.1
     rw [hk] at h2
     cases h2
     have h3:=h1.2
     rw [hs] at h3
     cases h3
   rw [hn]
   unfold kY at hs
   split at hs
   ·rename_i o' ho'
    simp only at ho' hs
    rw [ho',vJ hs]
    rfl
   ·cases hs
 | none=>
  have h1:i∉aI kept:=wZ hk
  rw [nD (l:=S) fun h=>h1 (hS i h),nD fun h=>h1 ?_]
  ·rfl
  ·obtain ⟨y,hy,e⟩:=List.mem_map.1 h
   exact List.mem_map.2 ⟨y,(List.mem_filter.1 hy).1,e⟩
theorem nE {G:List Nat}:∀{l m:List AV},LeL G l m→l.length=m.length
 | [],[],_=>rfl
 | _ ::_,_ ::_,h=>by unfold LeL at h;rw [List.length_cons,List.length_cons,nE h.2]
 | [],_ ::_,h=>by unfold LeL at h;exact h.elim
 | _ ::_,[],h=>by unfold LeL at h;exact h.elim
theorem vk {tok:Bool} {S:List (Nat × SObj)} {s:St} {l:List AV} {A:Ans} (h:wY tok S s l=some A) :
  A.ob=none/\A.pan=none/\∃l' kept,A.val=wW l'/\l'.length=l.length/\LeS ⟨dC 0 l,s.b⟩ ⟨dC 0 l',kept⟩/\ah (bz S A.upd)=ah kept:=by
 unfold wY at h
 rw [evVs_eq,pW] at h
 split at h
 ·rename_i hc
  cases h
  simp only [Bool.and_eq_true,List.all_eq_true] at hc
  obtain ⟨⟨⟨⟨h1,h2⟩,h3⟩,h4⟩,h5,h6⟩:=hc
  refine ⟨rfl,rfl,za tok l,wX s (za tok l),rfl,?_,⟨?_,?_,?_⟩,?_⟩
  ·cases tok with
   | true=>rfl
   | false=>exact (nE (LeL_strip [] l h1)).symm
  ·rw [if_pos]
   ·trivial
   ·rw [Bool.and_eq_true,List.all_eq_true]
    exact ⟨h5,h6⟩
  ·refine rz l _ 0 ?_ fun j=>?_
   ·cases tok with
    | true=>exact LeL_self _ l h1
    | false=>exact LeL_strip _ l h1
   ·show aJ (dC 0 l) (0+j)=_
    rw [fY]
    simp
  ·refine gd _ fun x hx=>⟨?_,h2 x hx⟩
   exact lF h3 (List.mem_filter.1 hx).1
  ·refine ye (eJ _ h3) fun i hi=>?_
   have:=h4 i hi
   rwa [List.contains_eq_mem,decide_eq_true_eq] at this
 ·cases h
structure FB where
 body:Code
 n:Nat
 res:List ResultVar
 keep:Nat
 pubs:List (Nat × List Nat)
 pend:Nat→Bool
 rows:Nat→Bool
 same:Nat→Bool
 tok:Bool
 ps:List (Option Ty)
def xa:Option Ty→AV→AV
 | some (.st n),a=>(match arg (.st n) a with | some x=>.st n x | none=>a)
 | _,a=>a
def ub:List (Option Ty)→List AV→List AV
 | p ::ps,a ::r=>xa p a ::ub ps r
 | _,l=>l
def zb (C:Cfg) (N:Nat) (x:FB) (args:List AV) (S:List (Nat × SObj)):Option Ans:=
 evVs (ub x.ps args) fun args=>evB S fun S=>
  match lP args x.n && (aI S).all b9 with
  | false=>none
  | true=>
   match ga C x.keep x.pubs N x.body ⟨dC 0 args,S⟩ with
   | some (.normal,s)=>(match gS C.tbl s x.res with | some l=>wY x.tok S s l | none=>none)
   | some (.ret,s)=>(match gS C.tbl s x.res with | some l=>wY x.tok S s l | none=>none)
   | _=>none
variable {P:Program} {C:Cfg}
theorem xb (p:Option Ty) (a:AV):Rd a (xa p a):=by
 unfold xa
 split
 ·split
  ·rename_i x hx;exact Rd.arg hx
  ·exact Rd.refl a
 ·exact Rd.refl a
theorem rA:∀(ps:List (Option Ty)) (l:List AV),RdL l (ub ps l)
 | [],l=>RdL.refl l
 | p ::ps,[]=>.nil
 | p ::ps,a ::r=>.cons (xb p a) (rA ps r)
theorem runF_meets (hm:P.follows .mixedOrders=true) (hT:aE P C.tbl) (hS:ba P C.spec) {N:Nat} {x:FB} {f:Nat} {fn:Func} (hf:P.funcs[f]?=some fn) (hb:fn.body=some x.body) (hn:fn.ntmps=x.n) (hr:fn.results.toList=x.res)
  (hd:bj x.n x.body=true) {args:List AV} {S:List (Nat × SObj)} {A:Ans} (h:zb C N x args S=some A):aW P f args S A:=by
 refine aW.args (rA x.ps args) ?_
 intro w pub e vs hp ht hv hs hdom hinj
 unfold zb at h
 rw [evVs_eq,pW] at h
 split at h
 ·cases h
 ·rename_i hck
  simp only [Bool.and_eq_true,List.all_eq_true] at hck
  obtain ⟨hck2,hck3⟩:=hck
  have hlen:=fx _ _ hck2
  have hlent:∀id c,e id=some c→b9 id=true:=by
   intro id c hc
   cases hg:ah S id with
   | none=>rw [hdom id hg] at hc;cases hc
   | some o=>exact hck3 id (List.mem_map.2 ⟨(id,o),bH _ _ _ hg,rfl⟩)
  have hrun:∃z s',ga C x.keep x.pubs N x.body ⟨dC 0 (ub x.ps args),S⟩=some (z,s')/\(match gS C.tbl s' x.res with | some l=>wY x.tok S s' l | none=>none)=some A/\(z=.normal∨z=.ret):=by
   split at h
   ·rename_i s' hz;exact ⟨_,s',hz,h,.inl rfl⟩
   ·rename_i s' hz;exact ⟨_,s',hz,h,.inr rfl⟩
   ·cases h
  obtain ⟨z,s',hz,he,hzz⟩:=hrun
  refine calls_of_wp hf hb ?_
  have hh:=nh (n:=fn.ntmps) hp ht hv (by rw [hn];exact hlen) hs hdom hinj hlent
  rw [←hn] at hd
  refine wp_mono (sZ (F:=⟨w,pub,fn.ntmps,e,hlent,[],ht⟩) hm hT hS _ _ N x.body _ z s' _ _ hz hd hh) ?_
  intro en a' w' hq
  obtain ⟨z2,s2,Ω',h1,h2,h3,h4,h5⟩:=hq
  subst h2 h4 h5
  have hmap:∀us,(fn.results.toList.mapM (kn a'.tmps)).run P Ω'.w=.ok us Ω'.w→
    (results fn a'.tmps).run P Ω'.w=.ok (if h:us.toArray.size=1 then us.toArray[0] else .tuple us.toArray) Ω'.w:=by
   intro us hus
   rw [ni,←Array.toArray_toList (xs:=fn.results),List.mapM_toArray]
   simp only [Sem.run_bind,Sem.run_map,hus,Result.andThen_ok,Sem.run_pure]
  have main:a'.defers=[]/\∃v,(results fn a'.tmps).run P Ω'.w=.ok v Ω'.w/\∃pub' e',(∀b pv u,A.pan=some (b,pv,u)→b=false)/\V ⟨e',Ω'.w,pub'⟩ A.val v/\After w pub e (ah (bz S A.upd)) Ω'.w pub' e':=by
   refine ⟨h3.defers,?_⟩
   split at he
   ·rename_i l hres
    rw [←hr] at hres
    obtain ⟨a1,a2,l',kept,a3,a4,a5,a6⟩:=vk he
    obtain ⟨us,k1,k2⟩:=eG hT h3 _ _ hres
    obtain ⟨Ω2,e2,hh2⟩:=dq (s:=⟨dC 0 l,s2.b⟩) (h3.retmp k2) a5
    rw [a3,a6]
    refine ⟨_,hmap us k1,Ω2.pub,Ω2.e,fun b pv u q=>(by rw [a2] at q;cases q),?_,by rw [←e2];exact jA hh2⟩
    have hval:∀(j:Nat) c v,l'[j]?=some c→us[j]?=some v→V ⟨Ω2.e,Ω'.w,Ω2.pub⟩ c v:=fun j c v hc hv=>by
     have:=hh2.tmps j
     simp only [St.abs,fY,Nat.zero_le,if_true,Nat.sub_zero,List.getD_eq_getElem?_getD,hc,Option.getD_some] at this
     have e3:(us.toArray++Array.replicate 0 undef).getD j undef=v:=by
      simp [Array.getD_eq_getD_getElem?,hv]
     rw [e3] at this
     rw [←e2]
     exact this
    have hlu:l'.length=us.length:=a4.trans k2.1
    by_cases h1':us.toArray.size=1
    ·rw [dif_pos h1']
     obtain ⟨u,rfl⟩:=jB (l:=us) (by simpa using h1')
     obtain ⟨c,rfl⟩:=jB (l:=l') (by rw [hlu];rfl)
     exact hval 0 c u rfl rfl
    ·rw [dif_neg h1']
     have:wW l'=.tup l':=by
      match l',hlu with
      | [],_=>rfl
      | [c],q=>exact absurd (by simpa using q.symm) h1'
      | _ ::_ ::_,_=>rfl
     rw [this]
     exact .tup l' us hlu hval
   ·cases he
  rcases hzz with rfl | rfl
  ·cases h1;exact main
  ·cases h1;exact main
def uc:List (Nat × FB)→Nat→Option FB
 | [],_=>none
 | (j,x) ::r,f=>if Nat.beq j f=true then some x else uc r f
def ai (tbl:List (Nat × TR)) (fn:Func) (keep:Nat) (pubs:List (Nat × List Nat)) (pend rows same:Nat→Bool) (tok:Bool):FB:=
 ⟨fn.body.getD .skip,fn.ntmps,fn.results.toList,keep,pubs,pend,rows,same,tok,fn.params.toList.map fun t=>(aq tbl t).bind (·.ty)⟩
def fbok (fn:Func):Bool:=match fn.body with | none=>false | some c=>bj fn.ntmps c && !(fn.name == "runtime.NumGoroutine")
def aa (P:Program) (tab:List (Nat × FB)):Prop:=∀f x,uc tab f=some x→
 ∃fn,P.funcs[f]?=some fn/\fn.body=some x.body/\fn.ntmps=x.n/\fn.results.toList=x.res/\bj x.n x.body=true/\(fn.name == "runtime.NumGoroutine")=false
theorem aa.nil:aa P []:=fun f x h=>by cases h
theorem aa.cons {tbl:List (Nat × TR)} {f:Nat} {fn:Func} {keep:Nat} {pubs:List (Nat × List Nat)} {pend rows same:Nat→Bool} {tok:Bool} {tab:List (Nat × FB)} (hf:P.funcs[f]?=some fn) (hc:fbok fn=true) (ht:aa P tab) :
  aa P ((f,ai tbl fn keep pubs pend rows same tok) ::tab):=by
 intro g x h
 unfold uc at h
 split at h
 ·rename_i hb
  obtain rfl:=Nat.eq_of_beq_eq_true hb
  cases h
  unfold fbok at hc
  split at hc
  ·cases hc
  ·rename_i c hb'
   simp only [Bool.and_eq_true,Bool.not_eq_true'] at hc
   exact ⟨fn,hf,by simp [ai,hb'],rfl,rfl,by simpa [ai,hb'] using hc.1,hc.2⟩
 ·exact ht g x h
def td (tbl:List (Nat × TR)) (tab:List (Nat × FB)) (keeps:Nat→Bool) (lends:Nat→List (Option Nat)) (N:Nat) (base:Nat→List AV→List (Nat × SObj)→Option Ans) :
  Nat→Nat→List AV→List (Nat × SObj)→Option Ans
 | 0,f,us,S=>base f us S
 | n+1,f,us,S=>
  match base f us S with
  | some A=>some A
  | none=>
  match uc tab f with
  | none=>none
  | some x=>zb ⟨tbl,td tbl tab keeps lends N base n,keeps,lends,x.pend,x.rows,x.same⟩ N x us S
theorem ud {tbl:List (Nat × TR)} {tab:List (Nat × FB)} {keeps:Nat→Bool} {lends:Nat→List (Option Nat)} {N:Nat} {base:Nat→List AV→List (Nat × SObj)→Option Ans}
  (hm:P.follows .mixedOrders=true) (hT:aE P tbl) (hB:ba P base) (ht:aa P tab):∀n:Nat,ba P (td tbl tab keeps lends N base n)
 | 0=>hB
 | n+1=>by
  intro f args S A h ho hl
  unfold td at h
  split at h
  ·rename_i A' hb
   cases h
   exact hB f args S A hb ho hl
  split at h
  ·cases h
  ·rename_i x hx
   obtain ⟨fn,h1,h2,h3,h4,h5,h6⟩:=ht f x hx
   exact ⟨⟨fn,h1,by rw [h2];rfl,h6⟩,runF_meets hm hT (ud hm hT hB ht n) h1 h2 h3 h4 h5 h⟩
theorem kz {tbl:List (Nat × TR)} {tab:List (Nat × FB)} {keeps:Nat→Bool} {lends:Nat→List (Option Nat)} {N n f:Nat} {base:Nat→List AV→List (Nat × SObj)→Option Ans} {args:List AV} {v:AV} {u:List (Nat × SObj)}
  (hm:P.follows .mixedOrders=true) (hT:aE P tbl) (hB:ba P base) (ht:aa P tab) (h:td tbl tab keeps lends N base n f args []=some ⟨none,none,v,u⟩):aW P f args [] ⟨none,none,v,u⟩:=
 (ud hm hT hB ht n f args [] _ h (fun _ q=>by cases q) rfl).2
end Go.AL
end
noncomputable section
namespace Go.AL
variable [Tabs] {P:Program}
def q1 (τ:Ty) (b:den τ→Bool) (F:den τ→AV):Pat
 | [a],[]=>(match arg τ a with | some x=>(match b x with | true=>some (.ret (F x)) | false=>none) | none=>none)
 | _,_=>none
theorem xc {f:Nat} {τ:Ty} {b:den τ→Bool} {F:den τ→AV} {O:den τ→Prop} (h:aL P f (p1 τ fun x=>⟨some (O x),none,F x,[]⟩)) (hb:∀x,b x=true→O x):aL P f (q1 τ b F):=by
 intro args S A hA ho hl
 unfold q1 at hA
 split at hA
 ·rename_i a
  split at hA
  ·rename_i x hx
   split at hA
   ·rename_i ht
    cases hA
    have k:=h [a] [] ⟨some (O x),none,F x,[]⟩ (by simp [p1,hx]) (fun q hq=>by cases hq;exact hb x ht) hl
    exact ⟨k.1,k.2⟩
   ·cases hA
  ·cases hA
 ·cases hA
def q2 (τ σ:Ty) (b:den τ→den σ→Bool) (F:den τ→den σ→AV):Pat
 | [a,c],[]=>(match arg τ a,arg σ c with | some x,some y=>(match b x y with | true=>some (.ret (F x y)) | false=>none) | _,_=>none)
 | _,_=>none
theorem ue {f:Nat} {τ σ:Ty} {b:den τ→den σ→Bool} {F:den τ→den σ→AV} {O:den τ→den σ→Prop} (h:aL P f (p2 τ σ fun x y=>⟨some (O x y),none,F x y,[]⟩)) (hb:∀x y,b x y=true→O x y):aL P f (q2 τ σ b F):=by
 intro args S A hA ho hl
 unfold q2 at hA
 split at hA
 ·rename_i a c
  split at hA
  ·rename_i x y hx hy
   split at hA
   ·rename_i ht
    cases hA
    have k:=h [a,c] [] ⟨some (O x y),none,F x y,[]⟩ (by simp [p2,hx,hy]) (fun q hq=>by cases hq;exact hb x y ht) hl
    exact ⟨k.1,k.2⟩
   ·cases hA
  ·cases hA
 ·cases hA
def uf (as0:List AV) (v:AV):Pat:=fun args S=>match eqVs as0 args,S with | true,[]=>some (.ret v) | _,_=>none
theorem ug {f:Nat} {as0:List AV} {v:AV} (he:aS P f) (h:aW P f as0 [] (.ret v)):aL P f (uf as0 v):=by
 intro args S A hA ho hl
 unfold uf at hA
 split at hA
 ·rename_i heq
  cases hA
  rw [←eqVs_ok _ _ heq]
  exact ⟨he,h⟩
 ·cases hA
def t1 (τ:Ty) (b:den τ→Bool):List AV→List (Nat × SObj)→Bool
 | [a],_=>(match arg τ a with | some x=>b x | none=>false)
 | _,_=>false
end Go.AL
end
section
open Go Go.AL Go.Proofs
namespace Go.AL.Seat
variable [Tabs]
def r1:TR:=⟨.other,1,8,[.undef],none⟩
def r2:TR:=⟨.int .i64,1,8,[.int .i64 0],some (.int .i64)⟩
def r5:TR:=⟨.int .u8,1,1,[.int .u8 0],some (.int .u8)⟩
def r7:TR:=⟨.strct true [(0,2),(1,3),(2,4),(3,6)],4,24,[.int .i64 0,.int .i64 0,.bool false,.int .u8 0],none⟩
def r9:TR:=⟨.str,1,16,[.str []],some .str⟩
def r12:TR:=⟨.int .u64,1,8,[.int .u64 0],some (.int .u64)⟩
def r13:TR:=⟨.strct false [(0,9),(1,12)],2,24,[.str [],.int .u64 0],none⟩
def r18:TR:=⟨.strct false [(0,17)],1,8,[.nilp],none⟩
def r20:TR:=⟨.iface,1,16,[.nilif],none⟩
def r21:TR:=⟨.int .i32,1,4,[.int .i32 0],some (.int .i32)⟩
def r79:TR:=⟨.map 77 3,1,8,[.nilm],none⟩
def vl:TR:=⟨.strct false [(0,99),(1,3),(2,69)],4,48,[.nils,.int .i64 0,.int .i64 0,.int .i64 0],none⟩
def yf:TR:=⟨.strct false [(0,104),(4,26)],9,144,[.nils,.int .i64 0,.int .i64 0,.int .i64 0,.str [],.nils,.nils,.nils,.int .i64 0],none⟩
def yg:TR:=⟨.strct true [(0,9),(1,3)],2,24,[.str [],.int .i64 0],none⟩
def yh:TR:=⟨.strct false [(0,130),(2,99),(3,69)],5,64,[.str [],.int .i64 0,.nils,.int .i64 0,.int .i64 0],none⟩
def vm:TR:=⟨.strct false [],0,0,[],none⟩
def vn:TR:=⟨.strct true [(0,3),(1,3),(2,3),(3,3)],4,32,[.int .i64 0,.int .i64 0,.int .i64 0,.int .i64 0],none⟩
def r272:TR:=⟨.strct true [(0,5),(1,5)],2,2,[.int .u8 0,.int .u8 0],none⟩
def r291:TR:=⟨.strct false [(0,9),(1,9),(2,226)],3,48,[.str [],.str [],.nilif],none⟩
def r303:TR:=⟨.strct true [(0,9)],1,16,[.str []],none⟩
def r316:TR:=⟨.strct false [(0,17),(1,17),(2,17),(3,9)],4,40,[.nilp,.nilp,.nilp,.str []],none⟩
def r327:TR:=⟨.strct false [(0,12),(1,12),(2,210),(3,322),(4,5),(5,5),(6,323),(7,324),(8,301),(9,325),(10,326)],11,48,[.int .u64 0,.int .u64 0,.int .u32 0,.int .u8 0,.int .u8 0,.int .u8 0,.int .u8 0,.undef,.nilp,.int .i32 0,.int .i32 0],none⟩
def tbl:List (Nat × TR):=[(1,r1),
 (2,r2),
 (3,r2),
 (4,⟨.bool,1,1,[.bool false],some .bool⟩),
 (5,r5),
 (6,r5),
 (7,r7),
 (8,r7),
 (9,r9),
 (10,r9),
 (11,r9),
 (12,r12),
 (13,r13),
 (14,r13),
 (15,⟨.ptr 317,1,8,[.nilp],none⟩),
 (16,⟨.ptr 320,1,8,[.nilp],none⟩),
 (17,⟨.ptr 328,1,8,[.nilp],none⟩),
 (18,r18),
 (19,r18),
 (20,r20),
 (21,r21),
 (22,⟨.slice 64,1,24,[.nils],some (.lst (.st .imp))⟩),
 (23,⟨.slice 58,1,24,[.nils],some (.lst (.st .decl))⟩),
 (24,⟨.slice 9,1,24,[.nils],some (.lst .str)⟩),
 (25,⟨.strct false [(0,9),(1,22),(2,23),(3,24),(4,3)],5,96,[.str [],.nils,.nils,.nils,.int .i64 0],none⟩),
 (26,⟨.strct false [(0,9),(1,22),(2,23),(3,24),(4,3)],5,96,[.str [],.nils,.nils,.nils,.int .i64 0],some (.st .modu)⟩),
 (27,r1),
 (28,⟨.slice 26,1,24,[.nils],some (.lst (.st .modu))⟩),
 (29,r1),
 (30,r1),
 (31,⟨.slice 77,1,24,[.nils],some (.lst (.st .nm))⟩),
 (32,r1),
 (33,r1),
 (34,r1),
 (35,r1),
 (36,⟨.slice 73,1,24,[.nils],some (.lst (.st .item))⟩),
 (37,⟨.strct false [(0,9),(1,36)],2,40,[.str [],.nils],none⟩),
 (38,⟨.strct false [(0,9),(1,36)],2,40,[.str [],.nils],some (.st .dep)⟩),
 (39,r1),
 (40,⟨.slice 38,1,24,[.nils],some (.lst (.st .dep))⟩),
 (41,r1),
 (42,r1),
 (43,r1),
 (44,r1),
 (45,⟨.slice 75,1,24,[.nils],some (.lst (.st .change))⟩),
 (46,r1),
 (47,r1),
 (48,r1),
 (49,r1),
 (50,r1),
 (51,⟨.slice 53,1,24,[.nils],some (.lst (.st .shape))⟩),
 (52,⟨.strct false [(0,3),(1,9),(2,9),(3,24),(4,51)],5,88,[.int .i64 0,.str [],.str [],.nils,.nils],none⟩),
 (53,⟨.strct false [(0,3),(1,9),(2,9),(3,24),(4,51)],5,88,[.int .i64 0,.str [],.str [],.nils,.nils],some (.st .shape)⟩),
 (54,⟨.slice 56,1,24,[.nils],some (.lst (.st .term))⟩),
 (55,⟨.strct false [(0,3),(1,9),(2,9),(3,3),(4,24),(5,24),(6,51),(7,54),(8,3)],9,152,[.int .i64 0,.str [],.str [],.int .i64 0,.nils,.nils,.nils,.nils,.int .i64 0],none⟩),
 (56,⟨.strct false [(0,3),(1,9),(2,9),(3,3),(4,24),(5,24),(6,51),(7,54),(8,3)],9,152,[.int .i64 0,.str [],.str [],.int .i64 0,.nils,.nils,.nils,.nils,.int .i64 0],some (.st .term)⟩),
 (57,⟨.strct false [(0,3),(1,9),(2,53),(7,56),(16,3)],17,272,[.int .i64 0,.str [],.int .i64 0,.str [],.str [],.nils,.nils,.int .i64 0,.str [],.str [],.int .i64 0,.nils,.nils,.nils,.nils,.int .i64 0,.int .i64 0],none⟩),
 (58,⟨.strct false [(0,3),(1,9),(2,53),(7,56),(16,3)],17,272,[.int .i64 0,.str [],.int .i64 0,.str [],.str [],.nils,.nils,.int .i64 0,.str [],.str [],.int .i64 0,.nils,.nils,.nils,.nils,.int .i64 0,.int .i64 0],some (.st .decl)⟩),
 (59,r1),
 (60,⟨.strct true [(0,3),(1,3),(2,3),(3,9)],4,40,[.int .i64 0,.int .i64 0,.int .i64 0,.str []],none⟩),
 (61,⟨.strct true [(0,3),(1,3),(2,3),(3,9)],4,40,[.int .i64 0,.int .i64 0,.int .i64 0,.str []],some (.st .version)⟩),
 (62,⟨.slice 66,1,24,[.nils],some (.lst (.st .bound))⟩),
 (63,⟨.strct false [(0,9),(1,61),(5,62),(6,3)],7,88,[.str [],.int .i64 0,.int .i64 0,.int .i64 0,.str [],.nils,.int .i64 0],none⟩),
 (64,⟨.strct false [(0,9),(1,61),(5,62),(6,3)],7,88,[.str [],.int .i64 0,.int .i64 0,.int .i64 0,.str [],.nils,.int .i64 0],some (.st .imp)⟩),
 (65,⟨.strct true [(0,3),(1,61)],5,48,[.int .i64 0,.int .i64 0,.int .i64 0,.int .i64 0,.str []],none⟩),
 (66,⟨.strct true [(0,3),(1,61)],5,48,[.int .i64 0,.int .i64 0,.int .i64 0,.int .i64 0,.str []],some (.st .bound)⟩),
 (67,r2),
 (68,⟨.strct true [(0,67),(1,3)],2,16,[.int .i64 0,.int .i64 0],none⟩),
 (69,⟨.strct true [(0,67),(1,3)],2,16,[.int .i64 0,.int .i64 0],some (.st .fault)⟩),
 (71,r1),
 (72,⟨.strct false [(0,3),(1,9),(2,53)],7,112,[.int .i64 0,.str [],.int .i64 0,.str [],.str [],.nils,.nils],none⟩),
 (73,⟨.strct false [(0,3),(1,9),(2,53)],7,112,[.int .i64 0,.str [],.int .i64 0,.str [],.str [],.nils,.nils],some (.st .item)⟩),
 (74,⟨.strct true [(0,3),(1,9)],2,24,[.int .i64 0,.str []],none⟩),
 (75,⟨.strct true [(0,3),(1,9)],2,24,[.int .i64 0,.str []],some (.st .change)⟩),
 (76,⟨.strct true [(0,9),(1,9)],2,32,[.str [],.str []],none⟩),
 (77,⟨.strct true [(0,9),(1,9)],2,32,[.str [],.str []],some (.st .nm)⟩),
 (78,r1),
 (79,r79),
 (80,r79),
 (81,r1),
 (82,r1),
 (83,r1),
 (84,r1),
 (85,r1),
 (86,r1),
 (87,r1),
 (88,r1),
 (89,r1),
 (90,r1),
 (91,r1),
 (92,r1),
 (93,r1),
 (94,r1),
 (95,r1),
 (96,r1),
 (97,r1),
 (98,r1),
 (99,⟨.slice 109,1,24,[.nils],some (.lst (.st .token))⟩),
 (101,r1),
 (102,⟨.ptr 106,1,8,[.nilp],none⟩),
 (103,vl),
 (104,vl),
 (105,yf),
 (106,yf),
 (107,r1),
 (108,⟨.strct true [(0,3),(1,9),(2,3)],3,32,[.int .i64 0,.str [],.int .i64 0],none⟩),
 (109,⟨.strct true [(0,3),(1,9),(2,3)],3,32,[.int .i64 0,.str [],.int .i64 0],some (.st .token)⟩),
 (110,r1),
 (111,r1),
 (112,r1),
 (113,r1),
 (114,r1),
 (115,r1),
 (116,r1),
 (117,r1),
 (118,r1),
 (119,r1),
 (120,r1),
 (121,⟨.slice 3,1,24,[.nils],some (.lst (.int .i64))⟩),
 (122,r1),
 (123,r1),
 (124,r1),
 (125,r1),
 (126,r1),
 (127,r1),
 (128,⟨.ptr 132,1,8,[.nilp],none⟩),
 (129,yg),
 (130,yg),
 (131,yh),
 (132,yh),
 (133,r1),
 (134,r1),
 (135,r1),
 (136,r1),
 (137,⟨.ptr 104,1,8,[.nilp],none⟩),
 (138,r1),
 (139,r1),
 (140,r1),
 (141,r1),
 (142,r1),
 (144,r1),
 (146,r1),
 (147,r1),
 (148,r1),
 (149,r1),
 (150,r1),
 (151,r1),
 (152,r1),
 (153,r1),
 (154,r1),
 (155,r1),
 (156,r1),
 (157,r1),
 (158,r1),
 (159,r1),
 (160,r1),
 (161,r12),
 (162,r1),
 (163,r1),
 (164,r1),
 (165,r1),
 (166,r1),
 (167,r1),
 (168,r1),
 (169,⟨.ptr 130,1,8,[.nilp],none⟩),
 (171,r1),
 (172,r1),
 (173,r1),
 (174,r1),
 (176,r1),
 (178,r1),
 (179,r1),
 (180,r1),
 (181,r1),
 (182,⟨.map 9 3,1,8,[.nilm],none⟩),
 (183,⟨.ptr 188,1,8,[.nilp],none⟩),
 (184,r1),
 (185,vl),
 (186,⟨.strct false [(0,99),(1,3),(2,69)],4,48,[.nils,.int .i64 0,.int .i64 0,.int .i64 0],some (.st .par)⟩),
 (187,⟨.strct false [(0,186)],4,48,[.nils,.int .i64 0,.int .i64 0,.int .i64 0],none⟩),
 (188,⟨.strct false [(0,186)],4,48,[.nils,.int .i64 0,.int .i64 0,.int .i64 0],some (.st .par)⟩),
 (189,r1),
 (190,r1),
 (191,r1),
 (192,r1),
 (194,r1),
 (195,r1),
 (196,r1),
 (198,r1),
 (199,r1),
 (200,r1),
 (201,r1),
 (202,r2),
 (204,r1),
 (205,r1),
 (206,r1),
 (208,r1),
 (209,r1),
 (210,⟨.int .u32,1,4,[.int .u32 0],some (.int .u32)⟩),
 (211,r1),
 (212,r12),
 (214,r1),
 (215,r1),
 (219,r1),
 (220,r1),
 (221,⟨.ptr 217,1,8,[.nilp],none⟩),
 (223,r1),
 (224,⟨.arr 3 3,3,24,[.int .i64 0,.int .i64 0,.int .i64 0],none⟩),
 (225,r20),
 (226,r20),
 (228,r1),
 (229,⟨.slice 5,1,24,[.nils],some (.lst (.int .u8))⟩),
 (230,r1),
 (231,r1),
 (232,r1),
 (233,⟨.ptr 186,1,8,[.nilp],none⟩),
 (234,r1),
 (235,r1),
 (236,r1),
 (237,r1),
 (238,r1),
 (239,vm),
 (240,vm),
 (242,r1),
 (243,r1),
 (244,r1),
 (245,r1),
 (246,r1),
 (247,r12),
 (248,r1),
 (249,r1),
 (250,r1),
 (251,⟨.ptr 3,1,8,[.nilp],none⟩),
 (252,r1),
 (253,r1),
 (254,r1),
 (255,r1),
 (256,vn),
 (257,vn),
 (258,r1),
 (259,r1),
 (260,r1),
 (261,r1),
 (262,r1),
 (263,r1),
 (264,r1),
 (265,⟨.ptr 247,1,8,[.nilp],none⟩),
 (266,r1),
 (267,r1),
 (268,r1),
 (269,r1),
 (270,r1),
 (272,r272),
 (273,r272),
 (275,r1),
 (276,r2),
 (278,r1),
 (279,⟨.ptr 292,1,8,[.nilp],none⟩),
 (280,r1),
 (281,r1),
 (282,r1),
 (283,r1),
 (284,r1),
 (285,r1),
 (286,r1),
 (287,r1),
 (289,r1),
 (290,r1),
 (291,r291),
 (292,r291),
 (293,r1),
 (295,r1),
 (296,r1),
 (297,r1),
 (298,r1),
 (299,r1),
 (300,r1),
 (301,⟨.ptr 5,1,8,[.nilp],none⟩),
 (302,⟨.ptr 304,1,8,[.nilp],none⟩),
 (303,r303),
 (304,r303),
 (305,r1),
 (307,r1),
 (309,r1),
 (310,r1),
 (315,r1),
 (316,r316),
 (317,r316),
 (321,r1),
 (322,r5),
 (323,r5),
 (324,r1),
 (325,r21),
 (326,r21),
 (327,r327),
 (328,r327)]
theorem tk {t:Nat} {r:TR} (h1:(Tryz.prog.info? t).map (fun i=>(i.size,i.bytes,i.zero.map fun z=>z.cells.toList.map bc))=some (r.size,r.bytes,some r.zero):=by kernel_rfl)
  (h2:(Tryz.prog.underlying t).map (au Tryz.prog r.ti)=some true:=by kernel_rfl)
  (h3:(du r.zero r.size && (Nat.beq r.size 0 || Nat.blt 0 r.bytes) && (match r.ty with | some τ=>Nat.beq (a7 τ) r.size && (xt τ ==r.isAgg) | none=>true))=true:=by kernel_rfl)
  (h8:(Tryz.prog.info? t).map (fun i=>i.zero.map fun z=>rY z ==r.isAgg)=some (some true):=by kernel_rfl)
  (h9:(match r.ti with | .strct true _=>!Tryz.prog.stoodInHeld t && !Tryz.prog.eqGuardType Tryz.prog.depth t | _=>true)=true:=by kernel_rfl):TRok Tryz.prog t r:=TRok.mk' h1 h2 h3 h8 h9
theorem yA:aE Tryz.prog tbl:=
 .cons tk (.cons tk (.cons tk (.cons tk (.cons tk (.cons tk (.cons tk (.cons tk (.cons tk (.cons tk (.cons tk (.cons tk (.cons tk (.cons tk (.cons tk (.cons tk (.cons tk (.cons tk (.cons tk (.cons tk (.cons tk (.cons tk (.cons tk (.cons tk (.cons tk (.cons tk (.cons tk (.cons tk (.cons tk (.cons tk (.cons tk (.cons tk (.cons tk (.cons tk (.cons tk (.cons tk (.cons tk (.cons tk (.cons tk (.cons tk (.cons tk (.cons tk (.cons tk (.cons tk (.cons tk (.cons tk (.cons tk (.cons tk (.cons tk (.cons tk (.cons tk (.cons tk (.cons tk (.cons tk (.cons tk (.cons tk (.cons tk (.cons tk (.cons tk (.cons tk (.cons tk (.cons tk (.cons tk (.cons tk (.cons tk (.cons tk (.cons tk (.cons tk (.cons tk (.cons tk (.cons tk (.cons tk (.cons tk (.cons tk (.cons tk (.cons tk (.cons tk (.cons tk (.cons tk (.cons tk (.cons tk (.cons tk (.cons tk (.cons tk (.cons tk (.cons tk (.cons tk (.cons tk (.cons tk (.cons tk (.cons tk (.cons tk (.cons tk (.cons tk (.cons tk (.cons tk (.cons tk (.cons tk (.cons tk (.cons tk (.cons tk (.cons tk (.cons tk (.cons tk (.cons tk (.cons tk (.cons tk (.cons tk (.cons tk (.cons tk (.cons tk (.cons tk (.cons tk (.cons tk (.cons tk (.cons tk (.cons tk (.cons tk (.cons tk (.cons tk (.cons tk (.cons tk (.cons tk (.cons tk (.cons tk (.cons tk (.cons tk (.cons tk (.cons tk (.cons tk (.cons tk (.cons tk (.cons tk (.cons tk (.cons tk (.cons tk (.cons tk (.cons tk (.cons tk (.cons tk (.cons tk (.cons tk (.cons tk (.cons tk (.cons tk (.cons tk (.cons tk (.cons tk (.cons tk (.cons tk (.cons tk (.cons tk (.cons tk (.cons tk (.cons tk (.cons tk (.cons tk (.cons tk (.cons tk (.cons tk (.cons tk (.cons tk (.cons tk (.cons tk (.cons tk (.cons tk (.cons tk (.cons tk (.cons tk (.cons tk (.cons tk (.cons tk (.cons tk (.cons tk (.cons tk (.cons tk (.cons tk (.cons tk (.cons tk (.cons tk (.cons tk (.cons tk (.cons tk (.cons tk (.cons tk (.cons tk (.cons tk (.cons tk (.cons tk (.cons tk (.cons tk (.cons tk (.cons tk (.cons tk (.cons tk (.cons tk (.cons tk (.cons tk (.cons tk (.cons tk (.cons tk (.cons tk (.cons tk (.cons tk (.cons tk (.cons tk (.cons tk (.cons tk (.cons tk (.cons tk (.cons tk (.cons tk (.cons tk (.cons tk (.cons tk (.cons tk (.cons tk (.cons tk (.cons tk (.cons tk (.cons tk (.cons tk (.cons tk (.cons tk (.cons tk (.cons tk (.cons tk (.cons tk (.cons tk (.cons tk (.cons tk (.cons tk (.cons tk (.cons tk (.cons tk (.cons tk (.cons tk (.cons tk (.cons tk (.cons tk (.cons tk (.cons tk (.cons tk (.cons tk (.cons tk (.cons tk (.cons tk (.cons tk (.cons tk (.cons tk (.cons tk (.cons tk (.cons tk (.cons tk (.cons tk (.cons tk (.cons tk (.cons tk (.cons tk (.cons tk (.cons tk (.cons tk (.cons tk (.cons tk (.cons tk (.cons tk (.cons tk (.cons tk (.cons tk (.cons tk (.cons tk (.cons tk (.cons tk (.cons tk (.cons tk (.cons tk (.cons tk (.cons tk (.cons tk (.cons tk (.cons tk (.cons tk (.cons tk (.cons tk (.cons tk (.cons tk (.cons tk (.cons tk (.cons tk (.cons tk (.cons tk (.cons tk (.cons tk (.cons tk (.cons tk (.cons tk (.nil))))))))))))))))))))))))))))))))))))))))))))))))))))))))))))))))))))))))))))))))))))))))))))))))))))))))))))))))))))))))))))))))))))))))))))))))))))))))))))))))))))))))))))))))))))))))))))))))))))))))))))))))))))))))))))))))))))))))))))))))))))))))))))))))))))))))))))))))))))))))))))))))))))))))
theorem mixed:Tryz.prog.follows .mixedOrders=true:=by kernel_rfl
end Go.AL.Seat
end
section
namespace Go.AL
open Go.Shelf Go.Proofs Go.RowKit
variable [Tabs] {P:Program} {ρ:Ren}
theorem After.newRow {w w':World} {pub:Nat→Nat→Prop} {e:Nat→Option CObj} (hp:gZ w pub) (hd:∀id,e id=none) (hb:Below w.heap.size w w') {g:Nat} (hg:w.heap.size<=g) {p:Nat→Prop} (hc:∀o,p o→∃v,w'.cell? ⟨g,o,none⟩=some v) :
  After w pub e (ah (bz [] [])) w' (fun b o=>pub b o∨(b=g/\p o)) e where
 os:=hb.os
 tape:=hb.tape
 output:=hb.output
 size:=hb.size
 block b h _:=hb.block b h
 cell b o h _:=ab (hb.block b h) o
 kind b h _:=⟨aH (hb.block b h),fun o=>ax (hb.block b h) o⟩
 ext:=⟨fun _ c h=>⟨c,h,CLe.refl c⟩,fun _ _ h=>.inl h,fun b o h=>by obtain ⟨v,hv⟩:=hp b o h;exact ab (hb.block b (aC hv)) o⟩
 fresh b o h:=by
  rcases h with h | ⟨rfl,_⟩
  ·exact .inl h
  ·exact .inr (.inl hg)
 ok b o h:=by
  rcases h with h | ⟨rfl,h⟩
  ·obtain ⟨v,hv⟩:=hp b o h;exact ⟨v,(ab (hb.block b (aC hv)) o).trans hv⟩
  ·exact hc o h
 slots id o h:=by simp [bz,ay,aw] at h
 dom id _:=hd id
 inj i j c d b o h:=by rw [hd i] at h;cases h
theorem rB (L:Lays2.n16 P ρ) (l:List Str) (hb:l.length *16<=140737488355328) {ob:Option Prop}:aW P (ρ.f 16) [.lst .str l none] [] ⟨ob,none,.lst .str l none,[]⟩:=by
 intro w pub e vs hp ht hv hs hd hi
 have he:e=fun _=>none:=funext fun id=>hd id rfl
 subst he
 obtain ⟨v,rfl,hV⟩:=hv.one_inv
 cases hV with
 | lstNil _ _ tok=>
  refine (Any.slices_Clone_string_nil L 0 0 w).mono ?_
  rintro en w' ⟨rfl,rfl⟩
  exact ⟨pub,_,fun b pv u h=>(by cases h),.lstNil _ _ tok,After.below hp (fun _=>rfl) (Below.refl _ _)⟩
 | lstVoid _ a=>
  refine (Any.slices_Clone_string_zero L a 0 w).mono ?_
  rintro en w' ⟨v',rfl,⟨hl,hrow⟩,hn,hbw⟩
  refine ⟨pub,_,fun b pv u h=>(by cases h),?_,After.below hp (fun _=>rfl) hbw⟩
  rcases hrow with ⟨rfl,hz⟩ | ⟨g,cap,cur,rfl,hbase,hg,h1,h2,h3,h4⟩
  ·exact absurd rfl hn
  ·exact .lst .str [] none g 0 cap (fun _ _=>.bool false) (Nat.zero_le _) (by unfold maxLen at h2;unfold aM;omega) (fun id h=>by cases h) (fun i x hx=>by cases hx) (fun i x hx=>by cases hx)
 | lst _ _ _ b off cap vals h1 h2 tok hcell hval=>
  have at_:∀i (hi:i < l.length),w.cell? ⟨b,off+i,none⟩=some (.string ⟨l[i].toArray⟩)/\l[i].length<=aM:=fun i hi=>by
   have hx:l[i]?=some l[i]:=List.getElem?_eq_getElem hi
   obtain ⟨_,c1⟩:=hcell i l[i] hx 0 (.str l[i]) rfl
   have c2:=hval i l[i] hx 0 (.str l[i]) rfl
   obtain ⟨c3,c4⟩:=c2.str_inv
   rw [c3,show off+(i *a7 .str+0)=off+i by rw [show a7 .str=1 from rfl];omega] at c1
   exact ⟨c1,c4⟩
  refine (Any.slices_Clone_string L b off l.length cap (l.map fun s=>(⟨s.toArray⟩:ByteArray)) w (by simp) hb (fun j hj=>?_)).mono ?_
  ·have hj':j < l.length:=by simpa using hj
   rw [(at_ j hj').1,List.getD_eq_getElem?_getD,List.getElem?_map,List.getElem?_eq_getElem hj']
   rfl
  rintro en w' ⟨v',rfl,⟨hl,hrow⟩,hn,hbw⟩
  rcases hrow with ⟨rfl,hz⟩ | ⟨g,cap',cur,rfl,hbase,hg,k1,k2,k3,k4⟩
  ·exact absurd rfl hn
  have hcur:∀i (hi:i < l.length),cur[i]?=some (.string ⟨l[i].toArray⟩):=fun i hi=>by
   have:(cur.toList.take (l.length *1))[i]?=some (.string ⟨l[i].toArray⟩):=by
    rw [k4,List.getElem?_map,List.getElem?_take]
    simp [hi]
   rw [List.getElem?_take] at this
   split at this
   ·simpa using this
   ·cases this
  refine ⟨fun b o=>pub b o∨(b=g/\o < l.length),_,fun b pv u h=>(by cases h),?_,After.newRow hp (fun _=>rfl) hbw hbase (p:=fun o=>o < l.length) (fun o ho=>⟨_,by rw [ae hg];exact hcur o ho⟩)⟩
  refine .lst .str l none g 0 cap' (fun i _=>.string ⟨(l.getD i []).toArray⟩) k1 (by unfold maxLen at k2;unfold aM;omega) (fun id h=>by cases h) (fun i x hx j c hc=>?_) (fun i x hx j c hc=>?_)
  ·obtain ⟨hi,rfl⟩:=List.getElem?_eq_some_iff.1 hx
   have hj:j=0:=by
    cases j with
    | zero=>rfl
    | succ j=>simp [cells] at hc
   subst hj
   rw [show 0+(i *a7 .str+0)=i by rw [show a7 .str=1 from rfl];omega]
   refine ⟨.inr ⟨rfl,hi⟩,?_⟩
   show w'.cell? ⟨g,i,none⟩=_
   rw [ae hg,hcur i hi,List.getD_eq_getElem?_getD,List.getElem?_eq_getElem hi]
   rfl
  ·obtain ⟨hi,rfl⟩:=List.getElem?_eq_some_iff.1 hx
   have hj:j=0:=by
    cases j with
    | zero=>rfl
    | succ j=>simp [cells] at hc
   subst hj
   have e1:c=.str l[i]:=by simpa [cells] using hc.symm
   subst e1
   rw [List.getD_eq_getElem?_getD,List.getElem?_eq_getElem hi]
   exact .str _ (at_ i hi).2
def rC:Pat:=p1 (.lst .str) fun l=>⟨some (l.length *16<=140737488355328),none,.lst .str l none,[]⟩
theorem rD {f:Nat} (L:Lays2.n16 P ρ) (hf:ρ.f 16=f) (he:aS P f):aL P f rC:=by
 subst hf
 exact fg he fun l _ ho=>rB L l (ho _ rfl)
end Go.AL
end
section
namespace Go.Proofs
open Go.Shelf
def Tryz.lays2_16_ren:Go.Shelf.Ren:=⟨fun | 16=>71 | n=>n,fun | 24=>24 | 9=>9 | 4=>4 | n=>n,fun | n=>n⟩
theorem Tryz.lays2_16:Go.Proofs.Lays2.n16 Tryz.prog Tryz.lays2_16_ren:={
 mixed:=by kernel_rfl
 f16:=Xt Tryz.func71
 t4:=Tryz.underlying4
 a4:=Tryz.isAgg4
 z4:=Tryz.sizeOf4
 v4:=Tryz.zeroValue4
 t9:=Tryz.underlying9
 a9:=Tryz.isAgg9
 z9:=Tryz.sizeOf9
 v9:=Tryz.zeroValue9
 t24:=Tryz.underlying24
 a24:=Tryz.isAgg24
 z24:=Tryz.sizeOf24
 v24:=Tryz.zeroValue24
 i9:=by kernel_rfl}
end Go.Proofs
end
section
namespace Go.AL.Seat
open Go Go.AL Go.Proofs Go.Shelf Go.Pd
variable [Tabs]
theorem oM:aL Tryz.prog 71 rC:=rD Tryz.lays2_16 rfl (aS.mk' Tryz.func71 (by kernel_rfl))
end Go.AL.Seat
end
section
open Go Go.AL Go.Pd
namespace Go.AL.Seat
theorem xe (c:Int)  :
  if decide ((97:Int)<=c)=true then True/\decide (c<=(122:Int))=bJ c/\True else True/\false=bJ c/\True:=by
 unfold bJ;simp only [im];split <;> simp [*]
theorem xf (c:Int)  :
  if decide ((65:Int)<=c)=true then True/\decide (c<=(90:Int))=bN c/\True else True/\false=bN c/\True:=by
 unfold bN;simp only [im];split <;> simp [*]
theorem xg (c:Int)  :
  if decide ((48:Int)<=c)=true then True/\decide (c<=(57:Int))=ir c/\True else True/\false=ir c/\True:=by
 unfold ir;simp only [im];split <;> simp [*]
theorem yi (c:Int)  :
  if bJ c=true then True/\true=dH c/\True else if bN c=true then True/\true=dH c/\True else if ir c=true then True/\true=dH c/\True else True/\decide (c=(95:Int))=dH c/\True:=by
 unfold dH;cases bJ c <;> cases bN c <;> cases ir c <;> simp
theorem vo (s:Str) (hs:Wf .str s) :
  if decide (s=[])=true then True/\false=bk bJ s/\True else if decide ((24:Int) < (↑(List.length s):Int))=true then True/\false=bk bJ s/\True else ((0:Int)<=(0:Int)/\(0:Int) < (↑(List.length s):Int))/\if (!bJ (↑(UInt8.toNat (List.getD s (Int.toNat (0:Int)) (0:UInt8))):Int))=true then True/\false=bk bJ s/\True else (∃(x:Nat),(x<=List.length s/\bk bJ s=List.all (List.drop x s) fun (c:UInt8) ↦dH (bI c))/\(0:Int)=(↑x:Int)/\s=s/\false=false/\(↑(List.length s):Int)=(↑(List.length s):Int)/\True)/\∀(x:Nat),(x<=List.length s/\bk bJ s=List.all (List.drop x s) fun (c:UInt8) ↦dH (bI c))→if decide ((↑x:Int) < (↑(List.length s):Int))=true then ((0:Int)<=(↑x:Int)/\(↑x:Int) < (↑(List.length s):Int))/\if (!dH (↑(UInt8.toNat (List.getD s (Int.toNat (↑x:Int)) (0:UInt8))):Int))=true then True/\false=bk bJ s/\True else inR IntKind.i64 ((↑x:Int)+(1:Int))/\∃(y:Nat),(y<=List.length s/\bk bJ s=List.all (List.drop y s) fun (c:UInt8) ↦dH (bI c))/\List.length s - y < List.length s - x/\(↑x:Int)+(1:Int)=(↑y:Int)/\s=s/\false=false/\(↑(List.length s):Int)=(↑(List.length s):Int)/\True else True/\true=bk bJ s/\True:=by
 have hlen:=hs.str
 have eb:∀b:UInt8,(b.toNat:Int)=bI b:=fun _=>rfl
 simp only [im,Int.toNat_natCast,Int.toNat_zero,true_and,and_true,eb,bk]
 generalize bJ (bI (s.getD 0 0))=f0
 by_cases h0:s=[]
 ·simp [h0]
 have hpos:0 < s.length:=List.length_pos_iff.2 h0
 by_cases h1:s.length<=24
 ·rw [if_neg h0,if_neg (by omega)]
  refine ⟨by omega,?_⟩
  cases f0 with
  | false=>simp
  | true=>
   simp only [Bool.not_true,Bool.false_eq_true,if_false,h0,h1,decide_false,decide_true,Bool.not_false,Bool.true_and]
   refine ⟨⟨0,⟨by omega,rfl⟩,rfl⟩,?_⟩
   rintro k ⟨h3,h4⟩
   split
   ·have hk:k < s.length:=by omega
    rw [bD s k 0 hk,List.all_cons] at h4
    generalize dH (bI (s.getD k 0))=r at h4 ⊢
    refine ⟨by omega,?_⟩
    cases r with
    | false=>simpa using h4.symm
    | true=>
     simp only [Bool.not_true,Bool.false_eq_true,if_false]
     exact ⟨bX hk hlen,k+1,⟨by omega,by simpa using h4⟩,by omega,by omega⟩
   ·have hk:k=s.length:=by omega
    subst hk
    simpa using h4.symm
 ·rw [if_neg h0,if_pos (by omega)]
  simp [h1]
theorem vp (s:Str) (hs:Wf .str s) :
  if decide (s=[])=true then True/\false=bk bN s/\True else if decide ((24:Int) < (↑(List.length s):Int))=true then True/\false=bk bN s/\True else ((0:Int)<=(0:Int)/\(0:Int) < (↑(List.length s):Int))/\if (!bN (↑(UInt8.toNat (List.getD s (Int.toNat (0:Int)) (0:UInt8))):Int))=true then True/\false=bk bN s/\True else (∃(x:Nat),(x<=List.length s/\bk bN s=List.all (List.drop x s) fun (c:UInt8) ↦dH (bI c))/\(0:Int)=(↑x:Int)/\s=s/\false=false/\(↑(List.length s):Int)=(↑(List.length s):Int)/\True)/\∀(x:Nat),(x<=List.length s/\bk bN s=List.all (List.drop x s) fun (c:UInt8) ↦dH (bI c))→if decide ((↑x:Int) < (↑(List.length s):Int))=true then ((0:Int)<=(↑x:Int)/\(↑x:Int) < (↑(List.length s):Int))/\if (!dH (↑(UInt8.toNat (List.getD s (Int.toNat (↑x:Int)) (0:UInt8))):Int))=true then True/\false=bk bN s/\True else inR IntKind.i64 ((↑x:Int)+(1:Int))/\∃(y:Nat),(y<=List.length s/\bk bN s=List.all (List.drop y s) fun (c:UInt8) ↦dH (bI c))/\List.length s - y < List.length s - x/\(↑x:Int)+(1:Int)=(↑y:Int)/\s=s/\false=false/\(↑(List.length s):Int)=(↑(List.length s):Int)/\True else True/\true=bk bN s/\True:=by
 have hlen:=hs.str
 have eb:∀b:UInt8,(b.toNat:Int)=bI b:=fun _=>rfl
 simp only [im,Int.toNat_natCast,Int.toNat_zero,true_and,and_true,eb,bk]
 generalize bN (bI (s.getD 0 0))=f0
 by_cases h0:s=[]
 ·simp [h0]
 have hpos:0 < s.length:=List.length_pos_iff.2 h0
 by_cases h1:s.length<=24
 ·rw [if_neg h0,if_neg (by omega)]
  refine ⟨by omega,?_⟩
  cases f0 with
  | false=>simp
  | true=>
   simp only [Bool.not_true,Bool.false_eq_true,if_false,h0,h1,decide_false,decide_true,Bool.not_false,Bool.true_and]
   refine ⟨⟨0,⟨by omega,rfl⟩,rfl⟩,?_⟩
   rintro k ⟨h3,h4⟩
   split
   ·have hk:k < s.length:=by omega
    rw [bD s k 0 hk,List.all_cons] at h4
    generalize dH (bI (s.getD k 0))=r at h4 ⊢
    refine ⟨by omega,?_⟩
    cases r with
    | false=>simpa using h4.symm
    | true=>
     simp only [Bool.not_true,Bool.false_eq_true,if_false]
     exact ⟨bX hk hlen,k+1,⟨by omega,by simpa using h4⟩,by omega,by omega⟩
   ·have hk:k=s.length:=by omega
    subst hk
    simpa using h4.symm
 ·rw [if_neg h0,if_pos (by omega)]
  simp [h1]
theorem yj (s:Str)  :
  if decide (s=[(109:UInt8),(111:UInt8),(100:UInt8),(117:UInt8),(108:UInt8),(101:UInt8)])=true then True/\true=cg s/\True else if decide (s=[(105:UInt8),(109:UInt8),(112:UInt8),(111:UInt8),(114:UInt8),(116:UInt8)])=true then True/\true=cg s/\True else if decide (s=[(112:UInt8),(105:UInt8),(110:UInt8)])=true then True/\true=cg s/\True else if decide (s=[(114:UInt8),(97:UInt8),(110:UInt8),(103:UInt8),(101:UInt8)])=true then True/\true=cg s/\True else if decide (s=[(116:UInt8),(121:UInt8),(112:UInt8),(101:UInt8)])=true then True/\true=cg s/\True else if decide (s=[(111:UInt8),(112:UInt8),(97:UInt8),(113:UInt8),(117:UInt8),(101:UInt8)])=true then True/\true=cg s/\True else if decide (s=[(108:UInt8),(101:UInt8),(116:UInt8)])=true then True/\true=cg s/\True else if decide (s=[(105:UInt8),(110:UInt8)])=true then True/\true=cg s/\True else if decide (s=[(101:UInt8),(120:UInt8),(112:UInt8),(111:UInt8),(114:UInt8),(116:UInt8)])=true then True/\true=cg s/\True else if decide (s=[(102:UInt8),(117:UInt8),(110:UInt8)])=true then True/\true=cg s/\True else if decide (s=[(105:UInt8),(102:UInt8)])=true then True/\true=cg s/\True else if decide (s=[(116:UInt8),(104:UInt8),(101:UInt8),(110:UInt8)])=true then True/\true=cg s/\True else if decide (s=[(101:UInt8),(108:UInt8),(115:UInt8),(101:UInt8)])=true then True/\true=cg s/\True else if decide (s=[(99:UInt8),(97:UInt8),(115:UInt8),(101:UInt8)])=true then True/\true=cg s/\True else if decide (s=[(111:UInt8),(102:UInt8)])=true then True/\true=cg s/\True else if decide (s=[(97:UInt8),(115:UInt8)])=true then True/\true=cg s/\True else if decide (s=[(110:UInt8),(101:UInt8),(119:UInt8)])=true then True/\true=cg s/\True else if decide (s=[(114:UInt8),(97:UInt8),(119:UInt8)])=true then True/\true=cg s/\True else if decide (s=[(116:UInt8),(114:UInt8),(117:UInt8),(101:UInt8)])=true then True/\true=cg s/\True else if decide (s=[(102:UInt8),(97:UInt8),(108:UInt8),(115:UInt8),(101:UInt8)])=true then True/\true=cg s/\True else True/\false=cg s/\True:=by
 refine ag (fun h=>?_) (fun h0=>?_)
 ·rw [Xo h];exact ⟨trivial,rfl,trivial⟩
 refine ag (fun h=>?_) (fun h1=>?_)
 ·rw [Xo h];exact ⟨trivial,rfl,trivial⟩
 refine ag (fun h=>?_) (fun h2=>?_)
 ·rw [Xo h];exact ⟨trivial,rfl,trivial⟩
 refine ag (fun h=>?_) (fun h3=>?_)
 ·rw [Xo h];exact ⟨trivial,rfl,trivial⟩
 refine ag (fun h=>?_) (fun h4=>?_)
 ·rw [Xo h];exact ⟨trivial,rfl,trivial⟩
 refine ag (fun h=>?_) (fun h5=>?_)
 ·rw [Xo h];exact ⟨trivial,rfl,trivial⟩
 refine ag (fun h=>?_) (fun h6=>?_)
 ·rw [Xo h];exact ⟨trivial,rfl,trivial⟩
 refine ag (fun h=>?_) (fun h7=>?_)
 ·rw [Xo h];exact ⟨trivial,rfl,trivial⟩
 refine ag (fun h=>?_) (fun h8=>?_)
 ·rw [Xo h];exact ⟨trivial,rfl,trivial⟩
 refine ag (fun h=>?_) (fun h9=>?_)
 ·rw [Xo h];exact ⟨trivial,rfl,trivial⟩
 refine ag (fun h=>?_) (fun h10=>?_)
 ·rw [Xo h];exact ⟨trivial,rfl,trivial⟩
 refine ag (fun h=>?_) (fun h11=>?_)
 ·rw [Xo h];exact ⟨trivial,rfl,trivial⟩
 refine ag (fun h=>?_) (fun h12=>?_)
 ·rw [Xo h];exact ⟨trivial,rfl,trivial⟩
 refine ag (fun h=>?_) (fun h13=>?_)
 ·rw [Xo h];exact ⟨trivial,rfl,trivial⟩
 refine ag (fun h=>?_) (fun h14=>?_)
 ·rw [Xo h];exact ⟨trivial,rfl,trivial⟩
 refine ag (fun h=>?_) (fun h15=>?_)
 ·rw [Xo h];exact ⟨trivial,rfl,trivial⟩
 refine ag (fun h=>?_) (fun h16=>?_)
 ·rw [Xo h];exact ⟨trivial,rfl,trivial⟩
 refine ag (fun h=>?_) (fun h17=>?_)
 ·rw [Xo h];exact ⟨trivial,rfl,trivial⟩
 refine ag (fun h=>?_) (fun h18=>?_)
 ·rw [Xo h];exact ⟨trivial,rfl,trivial⟩
 refine ag (fun h=>?_) (fun h19=>?_)
 ·rw [Xo h];exact ⟨trivial,rfl,trivial⟩
 refine ⟨trivial,?_,trivial⟩
 symm
 refine Xf fun hm=>?_
 unfold yw at hm
 rcases List.mem_cons.1 hm with e | hm
 ·exact h0 (Xd e)
 rcases List.mem_cons.1 hm with e | hm
 ·exact h1 (Xd e)
 rcases List.mem_cons.1 hm with e | hm
 ·exact h2 (Xd e)
 rcases List.mem_cons.1 hm with e | hm
 ·exact h3 (Xd e)
 rcases List.mem_cons.1 hm with e | hm
 ·exact h4 (Xd e)
 rcases List.mem_cons.1 hm with e | hm
 ·exact h5 (Xd e)
 rcases List.mem_cons.1 hm with e | hm
 ·exact h6 (Xd e)
 rcases List.mem_cons.1 hm with e | hm
 ·exact h7 (Xd e)
 rcases List.mem_cons.1 hm with e | hm
 ·exact h8 (Xd e)
 rcases List.mem_cons.1 hm with e | hm
 ·exact h9 (Xd e)
 rcases List.mem_cons.1 hm with e | hm
 ·exact h10 (Xd e)
 rcases List.mem_cons.1 hm with e | hm
 ·exact h11 (Xd e)
 rcases List.mem_cons.1 hm with e | hm
 ·exact h12 (Xd e)
 rcases List.mem_cons.1 hm with e | hm
 ·exact h13 (Xd e)
 rcases List.mem_cons.1 hm with e | hm
 ·exact h14 (Xd e)
 rcases List.mem_cons.1 hm with e | hm
 ·exact h15 (Xd e)
 rcases List.mem_cons.1 hm with e | hm
 ·exact h16 (Xd e)
 rcases List.mem_cons.1 hm with e | hm
 ·exact h17 (Xd e)
 rcases List.mem_cons.1 hm with e | hm
 ·exact h18 (Xd e)
 rcases List.mem_cons.1 hm with e | hm
 ·exact h19 (Xd e)
 exact absurd hm List.not_mem_nil
theorem yk (s:Str)  :
  if bk bJ s=true then True/\(!cg s)=qX s/\True else True/\false=qX s/\True:=by
 unfold qX;cases bk bJ s <;> simp
theorem xh (s:Str)  :
  True/\bk bN s=pP s/\True:=by
 simp [pP]
theorem vq (a:List Str)  :
  True/\a=a/\True:=by
 trivial
theorem yl (n:Nat) (s:Shape) (m:Int) (hs:Wf (.st .shape) s) (ho:sz s<=n+1/\0<=m/\m<=1000000) :
  (∃(x:Nat × Int),(x.1<=List.length s.parts/\(1:Int)<=x.2/\x.2<=m+(1:Int)/\sizeL (List.drop x.1 s.parts) x.2 m=sizeF s m)/\(1:Int)=x.2/\(0:Int)=(↑x.1:Int)/\s=s/\m=m/\(0:Int)=(0:Int)/\s=s/\True)/\∀(x:Nat × Int),x.1<=List.length s.parts/\(1:Int)<=x.2/\x.2<=m+(1:Int)/\sizeL (List.drop x.1 s.parts) x.2 m=sizeF s m→if decide ((↑x.1:Int) < (↑(List.length s.parts):Int))=true then if decide (x.2<=m)=true then ((0:Int)<=(↑x.1:Int)/\(↑x.1:Int) < (↑(List.length s.parts):Int))/\inR IntKind.i64 (m - x.2)/\(sz (List.getD s.parts (Int.toNat (↑x.1:Int)) (dfl (Ty.st SN.shape)))<=n/\(0:Int)<=m - x.2/\m - x.2<=(1000000:Int))/\inR IntKind.i64 (x.2+sizeF (List.getD s.parts (Int.toNat (↑x.1:Int)) (dfl (Ty.st SN.shape))) (m - x.2))/\inR IntKind.i64 ((↑x.1:Int)+(1:Int))/\∃(y:Nat × Int),(y.1<=List.length s.parts/\(1:Int)<=y.2/\y.2<=m+(1:Int)/\sizeL (List.drop y.1 s.parts) y.2 m=sizeF s m)/\List.length s.parts - y.1 < List.length s.parts - x.1/\x.2+sizeF (List.getD s.parts (Int.toNat (↑x.1:Int)) (dfl (Ty.st SN.shape))) (m - x.2)=y.2/\(↑x.1:Int)+(1:Int)=(↑y.1:Int)/\s=s/\m=m/\(0:Int)=(0:Int)/\s=s/\True else True/\x.2=sizeF s m/\True else True/\x.2=sizeF s m/\True:=by
 have ln:=hs.parts.len
 have hz:=tU s
 obtain ⟨ho1,ho2,ho3⟩:=ho
 have h0:sizeL s.parts 1 m=sizeF s m:=by cases s;rfl
 simp only [Int.toNat_natCast,eq_self,true_and,and_true]
 refine ⟨⟨(0,1),⟨Nat.zero_le _,by omega,by omega,h0⟩,rfl,rfl⟩,?_⟩
 rintro ⟨k,c⟩ ⟨h1,h2,h3,h4⟩
 simp only at h1 h2 h3 h4 ⊢
 refine ag (fun hk=>?_) (fun hk=>?_)
 ·replace hk:=Xo hk
  have hk:k < s.parts.length:=by omega
  have hm:=pQ (cR s.parts k (dfl (.st .shape)) hk)
  rw [bD s.parts k (dfl (.st .shape)) hk] at h4
  simp only [sizeL] at h4
  refine ag (fun hc=>?_) (fun hc=>?_)
  ·replace hc:=Xo hc
   rw [if_pos hc] at h4
   have hb:=sizeF_bd (s.parts.getD k (dfl (.st .shape))) (m - c) (by omega)
   exact ⟨by omega,gD (by omega) (by omega),by omega,gD (by omega) (by omega),bX hk ln,(k+1,_),⟨by omega,by simp only;omega,by simp only;omega,h4⟩,by simp only;omega,rfl,rfl⟩
  ·rw [if_neg (fun e=>hc (Xd e))] at h4
   exact h4
 ·replace hk:¬((k:Int) < (s.parts.length:Int)):=fun e=>hk (Xd e)
  have e:k=s.parts.length:=by omega
  subst e
  rw [List.drop_length] at h4
  exact h4
theorem vr (n:Nat) (a b:Shape) (ha:Wf (.st .shape) a) (hb:Wf (.st .shape) b) (hn:sz a<=n+1) :
  if (!decide (a.kind=b.kind))=true then True/\false=eqS a b/\True else if (!decide (a.pkg=b.pkg))=true then True/\false=eqS a b/\True else if (!decide (a.name=b.name))=true then True/\false=eqS a b/\True else if (!decide ((↑(List.length a.names):Int)=(↑(List.length b.names):Int)))=true then True/\false=eqS a b/\True else if (!decide ((↑(List.length a.parts):Int)=(↑(List.length b.parts):Int)))=true then True/\false=eqS a b/\True else (∃(x:Nat),(x<=List.length a.names/\List.length a.names=List.length b.names/\List.length a.parts=List.length b.parts/\eqS a b=(decide (List.drop x a.names=List.drop x b.names) && eqL a.parts b.parts))/\(0:Int)=(↑x:Int)/\a=a/\b=b/\false=false/\a=a/\b=b/\True)/\∀(x:Nat),x<=List.length a.names/\List.length a.names=List.length b.names/\List.length a.parts=List.length b.parts/\eqS a b=(decide (List.drop x a.names=List.drop x b.names) && eqL a.parts b.parts)→if decide ((↑x:Int) < (↑(List.length a.names):Int))=true then ((0:Int)<=(↑x:Int)/\(↑x:Int) < (↑(List.length a.names):Int))/\((0:Int)<=(↑x:Int)/\(↑x:Int) < (↑(List.length b.names):Int))/\if (!decide (List.getD a.names (Int.toNat (↑x:Int)) (dfl Ty.str)=List.getD b.names (Int.toNat (↑x:Int)) (dfl Ty.str)))=true then True/\false=eqS a b/\True else inR IntKind.i64 ((↑x:Int)+(1:Int))/\∃(y:Nat),(y<=List.length a.names/\List.length a.names=List.length b.names/\List.length a.parts=List.length b.parts/\eqS a b=(decide (List.drop y a.names=List.drop y b.names) && eqL a.parts b.parts))/\List.length a.names - y < List.length a.names - x/\(↑x:Int)+(1:Int)=(↑y:Int)/\a=a/\b=b/\false=false/\a=a/\b=b/\True else (∃(x_1:Nat),(x_1<=List.length a.parts/\List.length a.parts=List.length b.parts/\eqS a b=eqL (List.drop x_1 a.parts) (List.drop x_1 b.parts))/\(0:Int)=(↑x_1:Int)/\(↑x:Int)=(↑x:Int)/\a=a/\b=b/\false=false/\false=false/\a=a/\b=b/\True)/\∀(x_1:Nat),x_1<=List.length a.parts/\List.length a.parts=List.length b.parts/\eqS a b=eqL (List.drop x_1 a.parts) (List.drop x_1 b.parts)→if decide ((↑x_1:Int) < (↑(List.length a.parts):Int))=true then ((0:Int)<=(↑x_1:Int)/\(↑x_1:Int) < (↑(List.length a.parts):Int))/\((0:Int)<=(↑x_1:Int)/\(↑x_1:Int) < (↑(List.length b.parts):Int))/\sz (List.getD a.parts (Int.toNat (↑x_1:Int)) (dfl (Ty.st SN.shape)))<=n/\if (!eqS (List.getD a.parts (Int.toNat (↑x_1:Int)) (dfl (Ty.st SN.shape))) (List.getD b.parts (Int.toNat (↑x_1:Int)) (dfl (Ty.st SN.shape))))=true then True/\false=eqS a b/\True else inR IntKind.i64 ((↑x_1:Int)+(1:Int))/\∃(y:Nat),(y<=List.length a.parts/\List.length a.parts=List.length b.parts/\eqS a b=eqL (List.drop y a.parts) (List.drop y b.parts))/\List.length a.parts - y < List.length a.parts - x_1/\(↑x_1:Int)+(1:Int)=(↑y:Int)/\(↑x:Int)=(↑x:Int)/\a=a/\b=b/\false=false/\false=false/\a=a/\b=b/\True else True/\true=eqS a b/\True:=by
 have lna:=ha.names.len
 have lpa:=ha.parts.len
 have hz:=tU a
 have he:eqS a b=(decide (a.kind=b.kind) && decide (a.pkg=b.pkg) && decide (a.name=b.name) && decide (a.names=b.names) && eqL a.parts b.parts):=by cases a;cases b;rfl
 simp only [Int.toNat_natCast,eq_self,true_and,and_true]
 refine ag (fun h=>?_) (fun h1=>ag (fun h=>?_) (fun h2=>ag (fun h=>?_) (fun h3=>ag (fun h=>?_) (fun h4=>ag (fun h=>?_) (fun h5=>?_)))))
 ·rw [he];simp only [Bool.not_eq_true'] at h;rw [h];simp
 ·rw [he];simp only [Bool.not_eq_true'] at h;rw [h];simp
 ·rw [he];simp only [Bool.not_eq_true'] at h;rw [h];simp
 ·have:¬a.names=b.names:=by intro e;rw [e] at h;simp at h
  rw [he];simp [this]
 ·have:a.parts.length≠b.parts.length:=by intro e;rw [e] at h;simp at h
  rw [he,tV this];simp
 have l4:a.names.length=b.names.length:=by simp at h4;omega
 have l5:a.parts.length=b.parts.length:=by simp at h5;omega
 have he':eqS a b=(decide (a.names=b.names) && eqL a.parts b.parts):=by
  rw [he];simp only [Bool.not_eq_true,Bool.not_eq_false'] at h1 h2 h3;rw [h1,h2,h3];simp
 refine ⟨⟨0,⟨Nat.zero_le _,l4,l5,by simpa using he'⟩,rfl⟩,?_⟩
 rintro k ⟨k1,_,_,k4⟩
 refine ag (fun h=>?_) (fun h=>?_)
 ·replace h:=Xo h
  have hk:k < a.names.length:=by omega
  have hk':k < b.names.length:=by omega
  rw [bD a.names k (dfl .str) hk,bD b.names k (dfl .str) hk'] at k4
  refine ⟨by omega,by omega,ag (fun c=>?_) (fun c=>?_)⟩
  ·have c':¬a.names.getD k (dfl .str)=b.names.getD k (dfl .str):=by simpa using c
   rw [k4]
   have:¬(a.names.getD k (dfl .str) ::a.names.drop (k+1)=b.names.getD k (dfl .str) ::b.names.drop (k+1)):=fun e=>c' (List.cons.inj e).1
   simp only [this,decide_false,Bool.false_and]
  ·have c':a.names.getD k (dfl .str)=b.names.getD k (dfl .str):=by simpa using c
   refine ⟨bX hk lna,k+1,⟨by omega,l4,l5,?_⟩,by omega,by omega⟩
   rw [k4,c']
   congr 1
   rw [decide_eq_decide]
   simp
 ·replace h:¬((k:Int) < (a.names.length:Int)):=fun e=>h (Xd e)
  have e:k=a.names.length:=by omega
  subst e
  have k4':eqS a b=eqL a.parts b.parts:=by rw [k4,List.drop_length,l4,List.drop_length];simp
  refine ⟨⟨0,⟨Nat.zero_le _,l5,by simpa using k4'⟩,rfl⟩,?_⟩
  rintro j ⟨j1,_,j3⟩
  refine ag (fun h=>?_) (fun h=>?_)
  ·replace h:=Xo h
   have hj:j < a.parts.length:=by omega
   have hj':j < b.parts.length:=by omega
   have hm:=pQ (cR a.parts j (dfl (.st .shape)) hj)
   rw [bD a.parts j (dfl (.st .shape)) hj,bD b.parts j (dfl (.st .shape)) hj'] at j3
   simp only [eqL] at j3
   refine ⟨by omega,by omega,by omega,ag (fun c=>?_) (fun c=>?_)⟩
   ·have c':eqS (a.parts.getD j (dfl (.st .shape))) (b.parts.getD j (dfl (.st .shape)))=false:=by simpa using c
    rw [j3,c'];rfl
   ·have c':eqS (a.parts.getD j (dfl (.st .shape))) (b.parts.getD j (dfl (.st .shape)))=true:=by simpa using c
    rw [c',Bool.true_and] at j3
    exact ⟨bX hj lpa,j+1,⟨by omega,l5,j3⟩,by omega,by omega⟩
  ·replace h:¬((j:Int) < (a.parts.length:Int)):=fun e=>h (Xd e)
   have e:j=a.parts.length:=by omega
   subst e
   rw [j3,List.drop_length,l5,List.drop_length];rfl
theorem vt (a:List Nam) (v:Nam) (ha:Wf (.lst (.st .nm)) a) :
  (∃(x:Nat),(x<=List.length a/\gF a v (0:Int)=gF (List.drop x a) v (↑x:Int))/\(0:Int)=(↑x:Int)/\a=a/\v=v/\(↑(List.length a):Int)=(↑(List.length a):Int)/\v=v/\True)/\∀(x:Nat),x<=List.length a/\gF a v (0:Int)=gF (List.drop x a) v (↑x:Int)→if decide ((↑x:Int) < (↑(List.length a):Int))=true then ((0:Int)<=(↑x:Int)/\(↑x:Int) < (↑(List.length a):Int))/\if (decide (v.pkg=(List.getD a (Int.toNat (↑x:Int)) (dfl (Ty.st SN.nm))).pkg) && (decide (v.name=(List.getD a (Int.toNat (↑x:Int)) (dfl (Ty.st SN.nm))).name) && true))=true then True/\(↑x:Int)=gF a v (0:Int)/\True else inR IntKind.i64 ((↑x:Int)+(1:Int))/\∃(y:Nat),(y<=List.length a/\gF a v (0:Int)=gF (List.drop y a) v (↑y:Int))/\List.length a - y < List.length a - x/\(↑x:Int)+(1:Int)=(↑y:Int)/\a=a/\v=v/\(↑(List.length a):Int)=(↑(List.length a):Int)/\v=v/\True else True/\(-1:Int)=gF a v (0:Int)/\True:=by
 have la:=ha.len
 simp only [Int.toNat_natCast,eq_self,true_and,and_true]
 refine ⟨⟨0,⟨by omega,by simp⟩,by simp⟩,?_⟩
 rintro k ⟨h1,h3⟩
 refine ag (fun h=>?_) (fun h=>?_)
 ·replace h:=Xo h
  have hk:k < a.length:=by omega
  rw [bD a k (dfl (.st .nm)) hk] at h3
  refine ⟨by omega,?_⟩
  rw [tY]
  by_cases e:a.getD k (dfl (.st .nm))=v
  ·rw [if_pos (Xd e.symm),h3,gF,if_pos e]
  ·rw [if_neg (fun q=>e (Xo q).symm)]
   exact ⟨bX hk la,k+1,⟨by omega,by rw [h3,gF,if_neg e];rfl⟩,by omega,by omega⟩
 ·replace h:¬((k:Int) < (a.length:Int)):=fun e=>h (Xd e)
  have e:k=a.length:=by omega
  subst e;rw [h3];simp [gF]
theorem pZ (a:List Nam) (v:Nam)  :
  True/\decide ((0:Int)<=gF a v (0:Int))=isU a v.pkg v.name/\True:=by
 simp only [eq_self,true_and,and_true]
 rw [tZ,Bool.eq_iff_iff];simp [rm a v 0 (by omega)]
theorem te (u:List Nam) (g q:Str) (hu:Wf (.lst (.st .nm)) u) :
  (∃(x:Nat),(x<=List.length u/\isU u g q=isU (List.drop x u) g q)/\(0:Int)=(↑x:Int)/\u=u/\g=g/\q=q/\True)/\∀(x:Nat),x<=List.length u/\isU u g q=isU (List.drop x u) g q→if decide ((↑x:Int) < (↑(List.length u):Int))=true then ((0:Int)<=(↑x:Int)/\(↑x:Int) < (↑(List.length u):Int))/\if decide ((List.getD u (Int.toNat (↑x:Int)) (dfl (Ty.st SN.nm))).pkg=g)=true then ((0:Int)<=(↑x:Int)/\(↑x:Int) < (↑(List.length u):Int))/\if decide ((List.getD u (Int.toNat (↑x:Int)) (dfl (Ty.st SN.nm))).name=q)=true then True/\true=isU u g q/\True else inR IntKind.i64 ((↑x:Int)+(1:Int))/\∃(y:Nat),(y<=List.length u/\isU u g q=isU (List.drop y u) g q)/\List.length u - y < List.length u - x/\(↑x:Int)+(1:Int)=(↑y:Int)/\u=u/\g=g/\q=q/\True else inR IntKind.i64 ((↑x:Int)+(1:Int))/\∃(y:Nat),(y<=List.length u/\isU u g q=isU (List.drop y u) g q)/\List.length u - y < List.length u - x/\(↑x:Int)+(1:Int)=(↑y:Int)/\u=u/\g=g/\q=q/\True else True/\false=isU u g q/\True:=by
 have lu:=hu.len
 simp only [Int.toNat_natCast,eq_self,true_and,and_true]
 refine ⟨⟨0,⟨Nat.zero_le _,rfl⟩,rfl⟩,?_⟩
 rintro k ⟨h1,h3⟩
 refine ag (fun h=>?_) (fun h=>?_)
 ·replace h:=Xo h
  have hk:k < u.length:=by omega
  rw [bD u k (dfl (.st .nm)) hk,isU] at h3
  have go:isU u g q=isU (u.drop (k+1)) g q→inR .i64 ((k:Int)+1)/\∃y,(y<=u.length/\isU u g q=isU (u.drop y) g q)/\u.length - y < u.length - k/\(k:Int)+1=(y:Int):=fun e=>⟨bX hk lu,k+1,⟨by omega,e⟩,by omega,by omega⟩
  refine ⟨by omega,ag (fun e1=>⟨by omega,ag (fun e2=>?_) (fun e2=>?_)⟩) (fun e1=>?_)⟩
  ·rw [h3,e1,e2];rfl
  ·exact go (by rw [h3,Bool.eq_false_iff.2 e2,Bool.and_false,Bool.false_or])
  ·exact go (by rw [h3,Bool.eq_false_iff.2 e1,Bool.false_and,Bool.false_or])
 ·replace h:¬((k:Int) < (u.length:Int)):=fun e=>h (Xd e)
  have e:k=u.length:=by omega
  subst e;rw [h3,List.drop_length,isU]
theorem tg (n:Nat) (s:Shape) (hs:Wf (.st .shape) s) (ho:sz s<=n+1/\allS nmU s=true) :
  List.length s.names *(16:Nat)<=(140737488355328:Nat)/\(∃(x:Nat),x<=List.length s.parts/\List.take x s.parts=[]/\(0:Int)=(↑x:Int)/\s=s/\s.parts=s.parts/\(↑(List.length s.parts):Int)=(↑(List.length s.parts):Int)/\List.length (List.take x s.parts)=(0:Nat)/\s.kind=s.kind/\s.pkg=s.pkg/\s.name=s.name/\s.names=s.names/\s.parts=s.parts/\(0:Int)=(0:Int)/\fZ UInt8=fZ UInt8/\fZ UInt8=fZ UInt8/\True)/\∀(x:Nat),x<=List.length s.parts→if decide ((↑x:Int) < (↑(List.length s.parts):Int))=true then ((0:Int)<=(↑x:Int)/\(↑x:Int) < (↑(List.length s.parts):Int))/\(sz (List.getD s.parts (Int.toNat (↑x:Int)) (dfl (Ty.st SN.shape)))<=n/\allS nmU (List.getD s.parts (Int.toNat (↑x:Int)) (dfl (Ty.st SN.shape)))=true)/\(List.length (List.take x s.parts)=List.length (List.take x s.parts)/\(List.length (List.take x s.parts)+List.length [List.getD s.parts (Int.toNat (↑x:Int)) (dfl (Ty.st SN.shape))]) *(88:Nat)<=(140737488355328:Nat))/\inR IntKind.i64 ((↑x:Int)+(1:Int))/\∃(y:Nat),y<=List.length s.parts/\List.length s.parts - y < List.length s.parts - x/\List.take x s.parts++[List.getD s.parts (Int.toNat (↑x:Int)) (dfl (Ty.st SN.shape))]=List.take y s.parts/\(↑x:Int)+(1:Int)=(↑y:Int)/\s=s/\s.parts=s.parts/\(↑(List.length s.parts):Int)=(↑(List.length s.parts):Int)/\List.length (List.take x s.parts++[List.getD s.parts (Int.toNat (↑x:Int)) (dfl (Ty.st SN.shape))])=List.length (List.take y s.parts)/\s.kind=s.kind/\s.pkg=s.pkg/\s.name=s.name/\s.names=s.names/\s.parts=s.parts/\(0:Int)=(0:Int)/\fZ UInt8=fZ UInt8/\fZ UInt8=fZ UInt8/\True else True/\s.kind=s.kind/\s.pkg=s.pkg/\s.name=s.name/\s.names=s.names/\List.take x s.parts=s.parts/\True:=by
 have ln:=hs.parts.len
 obtain ⟨o1,o3⟩:=ho
 have hz:=tU s
 have hll:=tW s.parts
 rw [allS_eq,Bool.and_eq_true,allL_all,List.all_eq_true] at o3
 have hn2:=o3.1
 rw [nmU,Bool.and_eq_true] at hn2
 have hn:s.names.length<=1048576:=Xo hn2.1
 have hp:s.parts.length<=1048576:=Xo hn2.2
 simp only [Int.toNat_natCast,eq_self,true_and,and_true]
 refine ⟨by omega,⟨0,Nat.zero_le _,rfl,rfl,rfl⟩,?_⟩
 intro k h1
 refine ag (fun h=>?_) (fun h=>?_)
 ·have h:=Xo h
  have hk:k < s.parts.length:=by omega
  have hmm:=cR s.parts k (dfl (.st .shape)) hk
  have hm:=pQ hmm
  have ht:=ko s.parts k (dfl (.st .shape)) hk
  refine ⟨by omega,⟨by omega,o3.2 _ hmm⟩,?_,bX hk ln,k+1,by omega,by omega,ht.symm,by omega,by rw [ht]⟩
  rw [List.length_take,List.length_singleton]
  omega
 ·have e:k=s.parts.length:=by
   have:¬((k:Int) < (s.parts.length:Int)):=fun e=>h (Xd e)
   omega
  rw [e,List.take_length]
theorem vu (d:Depd) (u:List Nam) (N:Nat) (hd:Wf (.st .dep) d) (hN:∀x∈d.items,sz x.shape<=N) (ho:d.items.length<=1048576/\∀x∈d.items,allS nmU x.shape=true) :
  (∃(x:Nat),x<=List.length d.items/\(0:Int)=(↑x:Int)/\d=d/\u=u/\d.items=d.items/\(↑(List.length d.items):Int)=(↑(List.length d.items):Int)/\d.name=d.name/\aG d.name u (List.take x d.items)=[]/\List.length (aG d.name u (List.take x d.items))=(0:Nat)/\d=d/\fZ UInt8=fZ UInt8/\True)/\∀(x:Nat),x<=List.length d.items→if decide ((↑x:Int) < (↑(List.length d.items):Int))=true then ((0:Int)<=(↑x:Int)/\(↑x:Int) < (↑(List.length d.items):Int))/\if isU u d.name (List.getD d.items (Int.toNat (↑x:Int)) (dfl (Ty.st SN.item))).name=true then (sz (List.getD d.items (Int.toNat (↑x:Int)) (dfl (Ty.st SN.item))).shape<=N/\allS nmU (List.getD d.items (Int.toNat (↑x:Int)) (dfl (Ty.st SN.item))).shape=true)/\(List.length (aG d.name u (List.take x d.items))=List.length (aG d.name u (List.take x d.items))/\(List.length (aG d.name u (List.take x d.items))+List.length [{kind:=(List.getD d.items (Int.toNat (↑x:Int)) (dfl (Ty.st SN.item))).kind,name:=(List.getD d.items (Int.toNat (↑x:Int)) (dfl (Ty.st SN.item))).name,shape:=AL.Shape.mk ((List.getD d.items (Int.toNat (↑x:Int)) (dfl (Ty.st SN.item))).shape.kind) ((List.getD d.items (Int.toNat (↑x:Int)) (dfl (Ty.st SN.item))).shape.pkg) ((List.getD d.items (Int.toNat (↑x:Int)) (dfl (Ty.st SN.item))).shape.name) ((List.getD d.items (Int.toNat (↑x:Int)) (dfl (Ty.st SN.item))).shape.names) ((List.getD d.items (Int.toNat (↑x:Int)) (dfl (Ty.st SN.item))).shape.parts):AL.Item}]) *(112:Nat)<=(140737488355328:Nat))/\inR IntKind.i64 ((↑x:Int)+(1:Int))/\∃(y:Nat),y<=List.length d.items/\List.length d.items - y < List.length d.items - x/\(↑x:Int)+(1:Int)=(↑y:Int)/\d=d/\u=u/\d.items=d.items/\(↑(List.length d.items):Int)=(↑(List.length d.items):Int)/\d.name=d.name/\aG d.name u (List.take x d.items)++[{kind:=(List.getD d.items (Int.toNat (↑x:Int)) (dfl (Ty.st SN.item))).kind,name:=(List.getD d.items (Int.toNat (↑x:Int)) (dfl (Ty.st SN.item))).name,shape:=AL.Shape.mk ((List.getD d.items (Int.toNat (↑x:Int)) (dfl (Ty.st SN.item))).shape.kind) ((List.getD d.items (Int.toNat (↑x:Int)) (dfl (Ty.st SN.item))).shape.pkg) ((List.getD d.items (Int.toNat (↑x:Int)) (dfl (Ty.st SN.item))).shape.name) ((List.getD d.items (Int.toNat (↑x:Int)) (dfl (Ty.st SN.item))).shape.names) ((List.getD d.items (Int.toNat (↑x:Int)) (dfl (Ty.st SN.item))).shape.parts):AL.Item}]=aG d.name u (List.take y d.items)/\List.length (aG d.name u (List.take x d.items)++[{kind:=(List.getD d.items (Int.toNat (↑x:Int)) (dfl (Ty.st SN.item))).kind,name:=(List.getD d.items (Int.toNat (↑x:Int)) (dfl (Ty.st SN.item))).name,shape:=AL.Shape.mk ((List.getD d.items (Int.toNat (↑x:Int)) (dfl (Ty.st SN.item))).shape.kind) ((List.getD d.items (Int.toNat (↑x:Int)) (dfl (Ty.st SN.item))).shape.pkg) ((List.getD d.items (Int.toNat (↑x:Int)) (dfl (Ty.st SN.item))).shape.name) ((List.getD d.items (Int.toNat (↑x:Int)) (dfl (Ty.st SN.item))).shape.names) ((List.getD d.items (Int.toNat (↑x:Int)) (dfl (Ty.st SN.item))).shape.parts):AL.Item}])=List.length (aG d.name u (List.take y d.items))/\d=d/\fZ UInt8=fZ UInt8/\True else inR IntKind.i64 ((↑x:Int)+(1:Int))/\∃(y:Nat),y<=List.length d.items/\List.length d.items - y < List.length d.items - x/\(↑x:Int)+(1:Int)=(↑y:Int)/\d=d/\u=u/\d.items=d.items/\(↑(List.length d.items):Int)=(↑(List.length d.items):Int)/\d.name=d.name/\aG d.name u (List.take x d.items)=aG d.name u (List.take y d.items)/\List.length (aG d.name u (List.take x d.items))=List.length (aG d.name u (List.take y d.items))/\d=d/\fZ UInt8=fZ UInt8/\True else True/\d.name=d.name/\aG d.name u (List.take x d.items)=aG d.name u d.items/\True:=by
 have lc:=hd.dep_items.len
 obtain ⟨o1,o2⟩:=ho
 have es:∀x:AL.Shape,AL.Shape.mk x.kind x.pkg x.name x.names x.parts=x:=fun x=>by cases x;rfl
 have et:∀x:AL.Item,AL.Item.mk x.kind x.name x.shape=x:=fun x=>by cases x;rfl
 simp only [Int.toNat_natCast,eq_self,true_and,and_true,es,et]
 refine ⟨⟨0,Nat.zero_le _,rfl,rfl,rfl⟩,?_⟩
 intro k h1
 refine ag (fun h=>?_) (fun h=>?_)
 ·replace h:=Xo h
  have hk:k < d.items.length:=by omega
  have hl:=kx d.name u (d.items.take k)
  rw [List.length_take] at hl
  have ht:=rn d.name u d.items k (dfl (.st .item)) hk
  have ho:=o2 _ (cR d.items k (dfl (.st .item)) hk)
  have hN:=hN _ (cR d.items k (dfl (.st .item)) hk)
  obtain ⟨x,hx⟩:∃x,d.items.getD k (dfl (.st .item))=x:=⟨_,rfl⟩
  simp only [hx] at ht ho hN ⊢
  have no:isU u d.name x.name=false→inR .i64 ((k:Int)+1)/\∃y,y<=d.items.length/\d.items.length - y < d.items.length - k/\(k:Int)+1=(y:Int)/\aG d.name u (d.items.take k)=aG d.name u (d.items.take y)/\(aG d.name u (d.items.take k)).length=(aG d.name u (d.items.take y)).length:=fun e=>by
   rw [e] at ht
   exact ⟨bX hk lc,k+1,by omega,by omega,by omega,ht.symm,by rw [ht];rfl⟩
  have yes:isU u d.name x.name=true→inR .i64 ((k:Int)+1)/\∃y,y<=d.items.length/\d.items.length - y < d.items.length - k/\(k:Int)+1=(y:Int)/\aG d.name u (d.items.take k)++[x]=aG d.name u (d.items.take y)/\(aG d.name u (d.items.take k)++[x]).length=(aG d.name u (d.items.take y)).length:=fun e=>by
   rw [e] at ht
   exact ⟨bX hk lc,k+1,by omega,by omega,by omega,ht.symm,by rw [ht];rfl⟩
  refine ⟨by omega,ag (fun e=>?_) (fun e=>no (Bool.eq_false_iff.2 e))⟩
  have y:=yes e
  first
  | exact ⟨⟨hN,ho⟩,by rw [List.length_singleton];omega,y⟩
  | exact ⟨by omega,by rw [List.length_singleton];omega,y⟩
 ·replace h:¬((k:Int) < (d.items.length:Int)):=fun e=>h (Xd e)
  have e:k=d.items.length:=by omega
  rw [e,List.take_length]
theorem q8 (d:Depd) (u:List Nam) (hd:Wf (.st .dep) d) (ho:d.items.length<=1048576/\∀x∈d.items,allS nmU x.shape=true) :
  (∃(x:Nat),x<=List.length d.items/\(0:Int)=(↑x:Int)/\d=d/\u=u/\d.name=d.name/\aG d.name u (List.take x d.items)=[]/\List.length (aG d.name u (List.take x d.items))=(0:Nat)/\d=d/\fZ UInt8=fZ UInt8/\True)/\∀(x:Nat),x<=List.length d.items→if decide ((↑x:Int) < (↑(List.length d.items):Int))=true then ((0:Int)<=(↑x:Int)/\(↑x:Int) < (↑(List.length d.items):Int))/\if isU u d.name (List.getD d.items (Int.toNat (↑x:Int)) (dfl (Ty.st SN.item))).name=true then ((0:Int)<=(↑x:Int)/\(↑x:Int) < (↑(List.length d.items):Int))/\(List.length (aG d.name u (List.take x d.items))=List.length (aG d.name u (List.take x d.items))/\(List.length (aG d.name u (List.take x d.items))+List.length [List.getD d.items (Int.toNat (↑x:Int)) (dfl (Ty.st SN.item))]) *(112:Nat)<=(140737488355328:Nat))/\inR IntKind.i64 ((↑x:Int)+(1:Int))/\∃(y:Nat),y<=List.length d.items/\List.length d.items - y < List.length d.items - x/\(↑x:Int)+(1:Int)=(↑y:Int)/\d=d/\u=u/\d.name=d.name/\aG d.name u (List.take x d.items)++[List.getD d.items (Int.toNat (↑x:Int)) (dfl (Ty.st SN.item))]=aG d.name u (List.take y d.items)/\List.length (aG d.name u (List.take x d.items)++[List.getD d.items (Int.toNat (↑x:Int)) (dfl (Ty.st SN.item))])=List.length (aG d.name u (List.take y d.items))/\d=d/\fZ UInt8=fZ UInt8/\True else inR IntKind.i64 ((↑x:Int)+(1:Int))/\∃(y:Nat),y<=List.length d.items/\List.length d.items - y < List.length d.items - x/\(↑x:Int)+(1:Int)=(↑y:Int)/\d=d/\u=u/\d.name=d.name/\aG d.name u (List.take x d.items)=aG d.name u (List.take y d.items)/\List.length (aG d.name u (List.take x d.items))=List.length (aG d.name u (List.take y d.items))/\d=d/\fZ UInt8=fZ UInt8/\True else True/\d.name=d.name/\aG d.name u (List.take x d.items)=aG d.name u d.items/\True:=by
 have lc:=hd.dep_items.len
 obtain ⟨o1,o2⟩:=ho
 have es:∀x:AL.Shape,AL.Shape.mk x.kind x.pkg x.name x.names x.parts=x:=fun x=>by cases x;rfl
 have et:∀x:AL.Item,AL.Item.mk x.kind x.name x.shape=x:=fun x=>by cases x;rfl
 simp only [Int.toNat_natCast,eq_self,true_and,and_true,es,et]
 refine ⟨⟨0,Nat.zero_le _,rfl,rfl,rfl⟩,?_⟩
 intro k h1
 refine ag (fun h=>?_) (fun h=>?_)
 ·replace h:=Xo h
  have hk:k < d.items.length:=by omega
  have hl:=kx d.name u (d.items.take k)
  rw [List.length_take] at hl
  have ht:=rn d.name u d.items k (dfl (.st .item)) hk
  have ho:=o2 _ (cR d.items k (dfl (.st .item)) hk)
  have hN:=True.intro
  obtain ⟨x,hx⟩:∃x,d.items.getD k (dfl (.st .item))=x:=⟨_,rfl⟩
  simp only [hx] at ht ho hN ⊢
  have no:isU u d.name x.name=false→inR .i64 ((k:Int)+1)/\∃y,y<=d.items.length/\d.items.length - y < d.items.length - k/\(k:Int)+1=(y:Int)/\aG d.name u (d.items.take k)=aG d.name u (d.items.take y)/\(aG d.name u (d.items.take k)).length=(aG d.name u (d.items.take y)).length:=fun e=>by
   rw [e] at ht
   exact ⟨bX hk lc,k+1,by omega,by omega,by omega,ht.symm,by rw [ht];rfl⟩
  have yes:isU u d.name x.name=true→inR .i64 ((k:Int)+1)/\∃y,y<=d.items.length/\d.items.length - y < d.items.length - k/\(k:Int)+1=(y:Int)/\aG d.name u (d.items.take k)++[x]=aG d.name u (d.items.take y)/\(aG d.name u (d.items.take k)++[x]).length=(aG d.name u (d.items.take y)).length:=fun e=>by
   rw [e] at ht
   exact ⟨bX hk lc,k+1,by omega,by omega,by omega,ht.symm,by rw [ht];rfl⟩
  refine ⟨by omega,ag (fun e=>?_) (fun e=>no (Bool.eq_false_iff.2 e))⟩
  have y:=yes e
  first
  | exact ⟨⟨hN,ho⟩,by rw [List.length_singleton];omega,y⟩
  | exact ⟨by omega,by rw [List.length_singleton];omega,y⟩
 ·replace h:¬((k:Int) < (d.items.length:Int)):=fun e=>h (Xd e)
  have e:k=d.items.length:=by omega
  rw [e,List.take_length]
theorem th (l:List Depd) (N:Nat) (hl:Wf (.lst (.st .dep)) l) (hN:∀d∈l,∀x∈d.items,sz x.shape<=N) :
  (∃(x:Nat × Int),(x.1<=List.length l/\(0:Int)<=x.2/\x.2<=(4000:Int)/\fo (List.drop x.1 l) x.2 (↑x.1:Int)=fo l (0:Int) (0:Int))/\(0:Int)=x.2/\(0:Int)=(↑x.1:Int)/\l=l/\True)/\∀(x:Nat × Int),x.1<=List.length l/\(0:Int)<=x.2/\x.2<=(4000:Int)/\fo (List.drop x.1 l) x.2 (↑x.1:Int)=fo l (0:Int) (0:Int)→if decide ((↑x.1:Int) < (↑(List.length l):Int))=true then if decide ((20:Int)<=(↑x.1:Int))=true then True/\false=fo l (0:Int) (0:Int)/\True else (∃(x_1:Nat × Int),(x_1.1<=List.length (List.getD l (Int.toNat (↑x.1:Int)) (dfl (Ty.st SN.dep))).items/\(0:Int)<=x_1.2/\x_1.2<=(4000:Int)/\sS l (Int.toNat (↑x.1:Int)) x_1.1 x_1.2=fo l (0:Int) (0:Int))/\x.2=x_1.2/\(0:Int)=(↑x_1.1:Int)/\(↑x.1:Int)=(↑x.1:Int)/\l=l/\true=true/\false=false/\True)/\∀(x_1:Nat × Int),x_1.1<=List.length (List.getD l (Int.toNat (↑x.1:Int)) (dfl (Ty.st SN.dep))).items/\(0:Int)<=x_1.2/\x_1.2<=(4000:Int)/\sS l (Int.toNat (↑x.1:Int)) x_1.1 x_1.2=fo l (0:Int) (0:Int)→((0:Int)<=(↑x.1:Int)/\(↑x.1:Int) < (↑(List.length l):Int))/\if decide ((↑x_1.1:Int) < (↑(List.length (List.getD l (Int.toNat (↑x.1:Int)) (dfl (Ty.st SN.dep))).items):Int))=true then ((0:Int)<=(↑x.1:Int)/\(↑x.1:Int) < (↑(List.length l):Int))/\((0:Int)<=(↑x_1.1:Int)/\(↑x_1.1:Int) < (↑(List.length (List.getD l (Int.toNat (↑x.1:Int)) (dfl (Ty.st SN.dep))).items):Int))/\(sz (List.getD (List.getD l (Int.toNat (↑x.1:Int)) (dfl (Ty.st SN.dep))).items (Int.toNat (↑x_1.1:Int)) (dfl (Ty.st SN.item))).shape<=N/\(0:Int)<=(800:Int)/\(800:Int)<=(1000000:Int))/\inR IntKind.i64 ((20:Int)+sizeF (List.getD (List.getD l (Int.toNat (↑x.1:Int)) (dfl (Ty.st SN.dep))).items (Int.toNat (↑x_1.1:Int)) (dfl (Ty.st SN.item))).shape (800:Int))/\inR IntKind.i64 (x_1.2+((20:Int)+sizeF (List.getD (List.getD l (Int.toNat (↑x.1:Int)) (dfl (Ty.st SN.dep))).items (Int.toNat (↑x_1.1:Int)) (dfl (Ty.st SN.item))).shape (800:Int)))/\if decide ((4000:Int) < x_1.2+((20:Int)+sizeF (List.getD (List.getD l (Int.toNat (↑x.1:Int)) (dfl (Ty.st SN.dep))).items (Int.toNat (↑x_1.1:Int)) (dfl (Ty.st SN.item))).shape (800:Int)))=true then True/\false=fo l (0:Int) (0:Int)/\True else inR IntKind.i64 ((↑x_1.1:Int)+(1:Int))/\∃(y:Nat × Int),(y.1<=List.length (List.getD l (Int.toNat (↑x.1:Int)) (dfl (Ty.st SN.dep))).items/\(0:Int)<=y.2/\y.2<=(4000:Int)/\sS l (Int.toNat (↑x.1:Int)) y.1 y.2=fo l (0:Int) (0:Int))/\List.length (List.getD l (Int.toNat (↑x.1:Int)) (dfl (Ty.st SN.dep))).items - y.1 < List.length (List.getD l (Int.toNat (↑x.1:Int)) (dfl (Ty.st SN.dep))).items - x_1.1/\x_1.2+((20:Int)+sizeF (List.getD (List.getD l (Int.toNat (↑x.1:Int)) (dfl (Ty.st SN.dep))).items (Int.toNat (↑x_1.1:Int)) (dfl (Ty.st SN.item))).shape (800:Int))=y.2/\(↑x_1.1:Int)+(1:Int)=(↑y.1:Int)/\(↑x.1:Int)=(↑x.1:Int)/\l=l/\true=true/\false=false/\True else inR IntKind.i64 ((↑x.1:Int)+(1:Int))/\∃(y:Nat × Int),(y.1<=List.length l/\(0:Int)<=y.2/\y.2<=(4000:Int)/\fo (List.drop y.1 l) y.2 (↑y.1:Int)=fo l (0:Int) (0:Int))/\List.length l - y.1 < List.length l - x.1/\x_1.2=y.2/\(↑x.1:Int)+(1:Int)=(↑y.1:Int)/\l=l/\True else True/\true=fo l (0:Int) (0:Int)/\True:=by
 have ln:=hl.len
 simp only [Int.toNat_natCast,eq_self,true_and,and_true]
 refine ⟨⟨(0,0),⟨Nat.zero_le _,by omega,by omega,rfl⟩,rfl,rfl⟩,?_⟩
 rintro ⟨i,n⟩ ⟨h1,h2,h3,h4⟩
 simp only at h1 h2 h3 h4 ⊢
 refine ag (fun hk=>?_) (fun hk=>?_)
 ·replace hk:=Xo hk
  have hk:i < l.length:=by omega
  rw [bD l i (dfl (.st .dep)) hk,fo] at h4
  refine ag (fun h20=>?_) (fun h20=>?_)
  ·rw [if_pos (Xo h20)] at h4;exact h4
  ·have h20:¬(20:Int)<=i:=fun z=>h20 (Xd z)
   rw [if_neg h20] at h4
   refine ⟨⟨(0,n),⟨Nat.zero_le _,h2,h3,by simp only [sS,List.drop_zero];exact h4⟩,rfl,rfl⟩,?_⟩
   rintro ⟨k,m⟩ ⟨g3,g4,g5,g6⟩
   simp only at g3 g4 g5 g6 ⊢
   have lk:=(hl.mem (cR l i (dfl (.st .dep)) hk)).dep_items.len
   refine ⟨by omega,ag (fun c=>?_) (fun c=>?_)⟩
   ·replace c:=Xo c
    have ck:k < (l.getD i (dfl (.st .dep))).items.length:=by omega
    have hm:=hN _ (cR l i (dfl (.st .dep)) hk) _ (cR _ k (dfl (.st .item)) ck)
    rw [sS,bD _ k (dfl (.st .item)) ck,sR] at g6
    have hb:=sizeF_bd ((l.getD i (dfl (.st .dep))).items.getD k (dfl (.st .item))).shape 800 (by omega)
    refine ⟨by omega,by omega,⟨hm,by omega,by omega⟩,gD (by omega) (by omega),gD (by omega) (by omega),ag (fun d=>?_) (fun d=>?_)⟩
    ·rw [if_pos (Xo d)] at g6;exact g6
    ·have d':¬(4000:Int) < m+(20+sizeF ((l.getD i (dfl (.st .dep))).items.getD k (dfl (.st .item))).shape 800):=fun z=>d (Xd z)
     rw [if_neg d'] at g6
     exact ⟨bX ck lk,(k+1,_),⟨by simp only;omega,by simp only;omega,by simp only;omega,g6⟩,by simp only;omega,rfl,rfl⟩
   ·have e:k=(l.getD i (dfl (.st .dep))).items.length:=by
     have:¬((k:Int) < ((l.getD i (dfl (.st .dep))).items.length:Int)):=fun e=>c (Xd e)
     omega
    rw [sS,e,List.drop_length,sR] at g6
    exact ⟨bX hk ln,(i+1,m),⟨by simp only;omega,g4,g5,g6⟩,by simp only;omega,rfl,rfl⟩
 ·replace hk:¬((i:Int) < (l.length:Int)):=fun e=>hk (Xd e)
  have e:i=l.length:=by omega
  subst e
  rw [List.drop_length,fo] at h4
  exact h4
theorem xi (a b:List AL.Item) (N:Nat) (ha:Wf (.lst (.st .item)) a) (hb:Wf (.lst (.st .item)) b) (hN:∀x∈a,sz x.shape<=N) :
  if (!decide ((↑(List.length a):Int)=(↑(List.length b):Int)))=true then True/\false=fj a b/\True else (∃(x:Nat),(x<=List.length a/\List.length a=List.length b/\fj a b=fj (List.drop x a) (List.drop x b))/\(0:Int)=(↑x:Int)/\a=a/\b=b/\false=false/\True)/\∀(x:Nat),x<=List.length a/\List.length a=List.length b/\fj a b=fj (List.drop x a) (List.drop x b)→if decide ((↑x:Int) < (↑(List.length a):Int))=true then ((0:Int)<=(↑x:Int)/\(↑x:Int) < (↑(List.length a):Int))/\((0:Int)<=(↑x:Int)/\(↑x:Int) < (↑(List.length b):Int))/\if (!decide ((List.getD a (Int.toNat (↑x:Int)) (dfl (Ty.st SN.item))).kind=(List.getD b (Int.toNat (↑x:Int)) (dfl (Ty.st SN.item))).kind))=true then True/\false=fj a b/\True else ((0:Int)<=(↑x:Int)/\(↑x:Int) < (↑(List.length a):Int))/\((0:Int)<=(↑x:Int)/\(↑x:Int) < (↑(List.length b):Int))/\if (!decide ((List.getD a (Int.toNat (↑x:Int)) (dfl (Ty.st SN.item))).name=(List.getD b (Int.toNat (↑x:Int)) (dfl (Ty.st SN.item))).name))=true then True/\false=fj a b/\True else ((0:Int)<=(↑x:Int)/\(↑x:Int) < (↑(List.length a):Int))/\((0:Int)<=(↑x:Int)/\(↑x:Int) < (↑(List.length b):Int))/\sz (List.getD a (Int.toNat (↑x:Int)) (dfl (Ty.st SN.item))).shape<=N/\if (!eqS (List.getD a (Int.toNat (↑x:Int)) (dfl (Ty.st SN.item))).shape (List.getD b (Int.toNat (↑x:Int)) (dfl (Ty.st SN.item))).shape)=true then True/\false=fj a b/\True else inR IntKind.i64 ((↑x:Int)+(1:Int))/\∃(y:Nat),(y<=List.length a/\List.length a=List.length b/\fj a b=fj (List.drop y a) (List.drop y b))/\List.length a - y < List.length a - x/\(↑x:Int)+(1:Int)=(↑y:Int)/\a=a/\b=b/\false=false/\True else True/\true=fj a b/\True:=by
 have ln:=ha.len
 simp only [Int.toNat_natCast,eq_self,true_and,and_true]
 refine ag (fun h=>?_) (fun h=>?_)
 ·have:a.length≠b.length:=by intro e;rw [e] at h;simp at h
  rw [rq this]
 have hl:a.length=b.length:=by simp at h;omega
 refine ⟨⟨0,⟨Nat.zero_le _,hl,by simp⟩,rfl⟩,?_⟩
 rintro k ⟨h1,_,h3⟩
 refine ag (fun h=>?_) (fun h=>?_)
 ·replace h:=Xo h
  have hk:k < a.length:=by omega
  have hk':k < b.length:=by omega
  rw [bD a k (dfl (.st .item)) hk,bD b k (dfl (.st .item)) hk',fj] at h3
  refine ⟨by omega,by omega,ag (fun c=>?_) (fun c=>⟨by omega,by omega,ag (fun d=>?_) (fun d=>⟨by omega,by omega,hN _ (cR a k (dfl (.st .item)) hk),ag (fun f=>?_) (fun f=>?_)⟩)⟩)⟩
  ·rw [Bool.not_eq_true'] at c
   rw [h3,c];rfl
  ·rw [Bool.not_eq_true'] at d
   rw [h3,d];simp
  ·rw [Bool.not_eq_true'] at f
   rw [h3,f];simp
  ·rw [Bool.not_eq_true',Bool.not_eq_false] at c d f
   rw [c,d,f] at h3
   exact ⟨bX hk ln,k+1,⟨by omega,hl,h3⟩,by omega,by omega⟩
 ·replace h:¬((k:Int) < (a.length:Int)):=fun e=>h (Xd e)
  have e:k=a.length:=by omega
  rw [h3,e,List.drop_length,hl,List.drop_length,fj]
theorem ld (Nd:Str→List Nam→List AL.Item→List AL.Item) (S:List AL.Item→List AL.Item→Bool) (Z:List Depd→Bool) (d:Depd) (u:List Nam) (h1:∀l,S l l=true) (ho:d.items.length<=1048576/\∀x∈d.items,allS nmU x.shape=true) :
  if (!Z [d])=true then True/\true=true/\True else if decide ((200:Int) < (↑(List.length u):Int))=true then True/\true=true/\True else (List.length d.items<=(1048576:Nat)/\∀(x:AL.Item),x∈d.items→allS nmU x.shape=true)/\(List.length d.items<=(1048576:Nat)/\∀(x:AL.Item),x∈d.items→allS nmU x.shape=true)/\if decide (d.name=d.name)=true then if S (Nd d.name u d.items) (Nd d.name u d.items)=true then True/\true=true/\True else True/\false=true/\True else True/\false=true/\True:=by
 refine ag (fun _=>⟨trivial,rfl,trivial⟩) (fun _=>ag (fun _=>⟨trivial,rfl,trivial⟩) (fun _=>?_))
 exact ⟨ho,ho,ag (fun _=>ag (fun _=>⟨trivial,rfl,trivial⟩) (fun z=>absurd (h1 _) z)) (fun z=>absurd (Xd rfl) z)⟩
theorem vv (l:List Str) (ho:l.length *16<=140737488355328) :
  List.length l *(16:Nat)<=(140737488355328:Nat)/\List.length (List.mergeSort l fun (x y:Str) ↦decide (x<=y))=List.length (List.mergeSort l fun (x y:Str) ↦decide (x<=y))/\True/\decide ((↑(List.length (Lib.compact (List.mergeSort l fun (x y:Str) ↦decide (x<=y)))):Int)=(↑(List.length l):Int))=decide (List.Nodup l)/\True:=by
 have hc:=nq l
 unfold dK at hc
 refine ⟨ho,rfl,trivial,?_,trivial⟩
 rw [decide_eq_decide,←hc]
 omega
end Go.AL.Seat
end
section
open Go Go.AL Go.Proofs Go.Shelf Go.Pd
namespace Go.AL.Seat
variable [Tabs]
def nn:Nat→Bool:=fun _=>false
def cf (k:Nat→Bool) (l:Nat→List (Option Nat)) (p r m:Nat→Bool) (s:Nat→List AV→List (Nat × SObj)→Option Ans):Cfg:=⟨tbl,s,k,l,p,r,m⟩
def a0:An:=⟨[],[],[]⟩
theorem g1 (k:Nat→Bool) (l:Nat→List (Option Nat)) (p r m:Nat→Bool) {s:Nat→List AV→List (Nat × SObj)→Option Ans} (hS:ba Tryz.prog s) (a:An) {f:Nat} {fn:Func} (hf:Tryz.prog.funcs[f]?=some fn)
  {args:List AV} {S:List (Nat × SObj)} {A:Ans} {Q:Prop} (q:Q) (h:fwp (cf k l p r m s) a fn args S A=Q:=by kernel_rfl):aW Tryz.prog f args S A:=wu (C:=cf k l p r m s) mixed yA hS hf q h
theorem g0 {s:Nat→List AV→List (Nat × SObj)→Option Ans} (hS:ba Tryz.prog s) (a:An) {f:Nat} {fn:Func} (hf:Tryz.prog.funcs[f]?=some fn)
  {args:List AV} {S:List (Nat × SObj)} {A:Ans} {Q:Prop} (q:Q) (h:fwp (cf nn (fun _=>[]) nn nn nn s) a fn args S A=Q:=by kernel_rfl):aW Tryz.prog f args S A:=wu (C:=cf nn (fun _=>[]) nn nn nn s) mixed yA hS hf q h
theorem sc {f:Nat} {g:Pat} {l:List (Nat × Pat)} (h:aL Tryz.prog f g) (hl:ba Tryz.prog (eL l)):ba Tryz.prog (eL ((f,g) ::l)):=sI h hl
theorem sn:ba Tryz.prog (eL []):=uX
theorem ee {f:Nat} {fn:Func} (h:Tryz.prog.funcs[f]?=some fn) (e:(fn.body.isNone || (fn.name == "runtime.NumGoroutine"))=false:=by kernel_rfl):aS Tryz.prog f:=aS.mk' h e
variable [SeatLaid]
theorem kA:aL Tryz.prog 85 (p1 (.int .u8) fun c=>.ret (.bool (bJ c))):=
 fg (ee Tryz.func85) fun c _ _=>g0 sn a0 Tryz.func85 (xe c)
theorem kB:aL Tryz.prog 94 (p1 (.int .u8) fun c=>.ret (.bool (bN c))):=
 fg (ee Tryz.func94) fun c _ _=>g0 sn a0 Tryz.func94 (xf c)
theorem vw:aL Tryz.prog 117 (p1 (.int .u8) fun c=>.ret (.bool (ir c))):=
 fg (ee Tryz.func117) fun c _ _=>g0 sn a0 Tryz.func117 (xg c)
theorem rE:aL Tryz.prog 116 (p1 (.int .u8) fun c=>.ret (.bool (dH c))):=
 fg (ee Tryz.func116) fun c _ _=>g0 (sc kA (sc kB (sc vw sn))) a0 Tryz.func116 (yi c)
theorem tj:aL Tryz.prog 84 (pf .str 85 fun s=>.ret (.bool (bk bJ s))):=
 yt (ee Tryz.func84) fun s hs _=>g0 (sc kA (sc kB (sc rE sn))) ⟨[(4,fun S0=>⟨Nat,fun k=>k<=s.length/\bk bJ s=(s.drop k).all fun c=>dH (bI c),fun k=>[(22,.int .i64 k)],fun _=>[],fun k=>s.length - k⟩)],[],[]⟩ Tryz.func84 (vo s hs)
theorem tl:aL Tryz.prog 84 (pf .str 94 fun s=>.ret (.bool (bk bN s))):=
 yt (ee Tryz.func84) fun s hs _=>g0 (sc kA (sc kB (sc rE sn))) ⟨[(4,fun S0=>⟨Nat,fun k=>k<=s.length/\bk bN s=(s.drop k).all fun c=>dH (bI c),fun k=>[(22,.int .i64 k)],fun _=>[],fun k=>s.length - k⟩)],[],[]⟩ Tryz.func84 (vp s hs)
theorem xj:aL Tryz.prog 86 (p1 .str fun s=>.ret (.bool (cg s))):=
 fg (ee Tryz.func86) fun s _ _=>g0 sn a0 Tryz.func86 (yj s)
theorem xk:aL Tryz.prog 50 (p1 .str fun s=>.ret (.bool (qX s))):=
 fg (ee Tryz.func50) fun s _ _=>g0 (sc tj (sc xj sn)) a0 Tryz.func50 (yk s)
theorem vz:aL Tryz.prog 55 (p1 .str fun s=>.ret (.bool (pP s))):=
 fg (ee Tryz.func55) fun s _ _=>g0 (sc tl sn) a0 Tryz.func55 (xh s)
theorem tm:aL Tryz.prog 96 (p1 (.lst .str) fun a=>⟨none,none,.fn 145 [.ptr 1 0],[(1,.box (.lst .str a none))]⟩):=
 fg (ee Tryz.func96) fun a _ _=>g0 sn a0 Tryz.func96 (vq a)
theorem uh:aS Tryz.prog 22:=ee Tryz.func22
theorem tn (n:Nat) (s:AL.Shape) (m:Int) (hs:Wf (.st .shape) s) (ho:sz s<=n+1/\0<=m/\m<=1000000) (hA:aL Tryz.prog 22 (p2 (.st .shape) (.int .i64) fun s m=>⟨some (sz s<=n/\0<=m/\m<=1000000),none,.int .i64 (sizeF s m),[]⟩)):aW Tryz.prog 22 [.st .shape s,.int .i64 m] [] (.ret (.int .i64 (sizeF s m))):=
 g0 (sc (hA) sn) ⟨[(3,fun S0=>⟨Nat × Int,fun x=>x.1<=s.parts.length/\1<=x.2/\x.2<=m+1/\sizeL (s.parts.drop x.1) x.2 m=sizeF s m,fun x=>[(5,.int .i64 x.2),(6,.int .i64 x.1)],fun _=>[],fun x=>s.parts.length - x.1⟩)],[],[]⟩ Tryz.func22 (yl n s m hs ho)
theorem xl:∀n:Nat,aL Tryz.prog 22 (p2 (.st .shape) (.int .i64) fun s m=>⟨some (sz s<=n/\0<=m/\m<=1000000),none,.int .i64 (sizeF s m),[]⟩):=by
 intro n
 induction n with
 | zero=>exact fF uh fun a m _ _ ho=>absurd (ho _ rfl).1 (by have:=pR a;omega)
 | succ n ih=>exact fF uh fun a m ha _ ho=>tn n a m ha (ho _ rfl) ih
theorem oN:aS Tryz.prog 40:=ee Tryz.func40
theorem q9 (n:Nat) (a b:Shape) (ha:Wf (.st .shape) a) (hb:Wf (.st .shape) b) (hn:sz a<=n+1) (hA:aL Tryz.prog 40 (p2 (.st .shape) (.st .shape) fun a b=>⟨some (sz a<=n),none,.bool (eqS a b),[]⟩)):aW Tryz.prog 40 [.st .shape a,.st .shape b] [] (.ret (.bool (eqS a b))):=
 g0 (sc (hA) sn) ⟨[(4,fun S0=>⟨Nat,fun k=>k<=a.names.length/\a.names.length=b.names.length/\a.parts.length=b.parts.length/\eqS a b=(decide (a.names.drop k=b.names.drop k) && eqL a.parts b.parts),fun k=>[(5,.int .i64 k)],fun _=>[],fun k=>a.names.length - k⟩),(9,fun S0=>⟨Nat,fun k=>k<=a.parts.length/\a.parts.length=b.parts.length/\eqS a b=eqL (a.parts.drop k) (b.parts.drop k),fun k=>[(6,.int .i64 k)],fun _=>[],fun k=>a.parts.length - k⟩)],[],[]⟩ Tryz.func40 (vr n a b ha hb hn)
theorem tp:∀n:Nat,aL Tryz.prog 40 (p2 (.st .shape) (.st .shape) fun a b=>⟨some (sz a<=n),none,.bool (eqS a b),[]⟩):=by
 intro n
 induction n with
 | zero=>exact fF oN fun a b _ _ ho=>absurd (ho _ rfl) (by have:=pR a;omega)
 | succ n ih=>exact fF oN fun a b ha hb ho=>q9 n a b ha hb (ho _ rfl) ih
theorem tq:aL Tryz.prog 70 (p2 (.lst (.st .nm)) (.st .nm) fun a v=>.ret (.int .i64 (gF a v 0))):=
 fF (ee Tryz.func70) fun a v ha _ _=>g0 sn ⟨[(2,fun S0=>⟨Nat,fun k=>k<=a.length/\gF a v 0=gF (a.drop k) v k,fun k=>[(8,.int .i64 k)],fun _=>[],fun k=>a.length - k⟩)],[],[]⟩ Tryz.func70 (vt a v ha)
theorem nZ:aL Tryz.prog 37 (p2 (.lst (.st .nm)) (.st .nm) fun a v=>.ret (.bool (isU a v.pkg v.name))):=
 fF (ee Tryz.func37) fun a v _ _ _=>g0 (sc tq sn) a0 Tryz.func37 (pZ a v)
theorem rF:aL Tryz.prog 39 (p3 (.lst (.st .nm)) .str .str fun u g q=>.ret (.bool (isU u g q))):=
 zm (ee Tryz.func39) fun u g q hu _ _ _=>g0 sn ⟨[(2,fun S0=>⟨Nat,fun k=>k<=u.length/\isU u g q=isU (u.drop k) g q,fun k=>[(7,.int .i64 k)],fun _=>[],fun k=>u.length - k⟩)],[],[]⟩ Tryz.func39 (te u g q hu)
theorem nF:aS Tryz.prog 38:=ee Tryz.func38
theorem o5 (n:Nat) (s:AL.Shape) (hs:Wf (.st .shape) s) (ho:sz s<=n+1/\allS nmU s=true) (hA:aL Tryz.prog 38 (p1 (.st .shape) fun s=>⟨some (sz s<=n/\allS nmU s=true),none,.st .shape s,[]⟩)):aW Tryz.prog 38 [.st .shape s] [] (⟨some (sz s<=n+1/\allS nmU s=true),none,.st .shape s,[]⟩):=
 g0 (sc (oM) (sc (hA) sn)) ⟨[(4,fun S0=>⟨Nat,fun k=>k<=s.parts.length,fun k=>[(3,.lst (.st .shape) (s.parts.take k) (some 701)),(13,.int .i64 k)],fun k=>[(701,.tail (.st .shape) (s.parts.take k).length)],fun k=>s.parts.length - k⟩)],[],[]⟩ Tryz.func38 (tg n s hs ho)
theorem kZ:∀n:Nat,aL Tryz.prog 38 (p1 (.st .shape) fun s=>⟨some (sz s<=n/\allS nmU s=true),none,.st .shape s,[]⟩)
 | 0=>fg nF fun s _ ho=>absurd (pR s) (by have:=(ho _ rfl).1;omega)
 | n+1=>fg nF fun s hs ho=>o5 n s hs (ho _ rfl) (kZ n)
theorem qa (d:Depd) (u:List Nam) (N:Nat) (hd:Wf (.st .dep) d) (hN:∀x∈d.items,sz x.shape<=N) (ho:d.items.length<=1048576/\∀x∈d.items,allS nmU x.shape=true) :aW Tryz.prog 15 [.st .dep d,.lst (.st .nm) u none] [] (⟨some (d.items.length<=1048576/\∀x∈d.items,allS nmU x.shape=true),none,.st .dep (AL.Depd.mk d.name (aG d.name u d.items)),[]⟩):=
 g0 (sc nZ (sc (kZ N) sn)) ⟨[(3,fun S0=>⟨Nat,fun k=>k<=d.items.length,fun k=>[(14,.int .i64 k)],fun k=>[(5,.box (.agg [.str d.name,.lst (.st .item) (aG d.name u (d.items.take k)) (some 701)])),(701,.tail (.st .item) (aG d.name u (d.items.take k)).length)],fun k=>d.items.length - k⟩)],[],[]⟩ Tryz.func15 (vu d u N hd hN ho)
theorem tt:aL Tryz.prog 15 (p2 (.st .dep) (.lst (.st .nm)) fun d u=>⟨some (d.items.length<=1048576/\∀x∈d.items,allS nmU x.shape=true),none,.st .dep (AL.Depd.mk d.name (aG d.name u d.items)),[]⟩):=
 fF (ee Tryz.func15) fun d u hd _ ho=>qa d u (szI d.items) hd (pV d.items) (ho _ rfl)
theorem o6:aL Tryz.prog 16 (p2 (.st .dep) (.lst (.st .nm)) fun d u=>⟨some (d.items.length<=1048576/\∀x∈d.items,allS nmU x.shape=true),none,.st .dep (AL.Depd.mk d.name (aG d.name u d.items)),[]⟩):=
 fF (ee Tryz.func16) fun d u hd _ ho=>g0 (sc rF sn) ⟨[(3,fun S0=>⟨Nat,fun k=>k<=d.items.length,fun k=>[(6,.int .i64 k)],fun k=>[(5,.box (.agg [.str d.name,.lst (.st .item) (aG d.name u (d.items.take k)) (some 701)])),(701,.tail (.st .item) (aG d.name u (d.items.take k)).length)],fun k=>d.items.length - k⟩)],[],[]⟩ Tryz.func16 (q8 d u hd (ho _ rfl))
theorem o7 (l:List Depd) (N:Nat) (hl:Wf (.lst (.st .dep)) l) (hN:∀d∈l,∀x∈d.items,sz x.shape<=N) :aW Tryz.prog 14 [.lst (.st .dep) l none] [] (.ret (.bool (fo l 0 0))):=
 g0 (sc (xl N) sn) ⟨[(3,fun S0=>⟨Nat × Int,fun x=>x.1<=l.length/\0<=x.2/\x.2<=4000/\fo (l.drop x.1) x.2 x.1=fo l 0 0,fun x=>[(3,.int .i64 x.2),(4,.int .i64 x.1)],fun _=>[],fun x=>l.length - x.1⟩),(8,fun S0=>zl S0 4 fun j=>⟨Nat × Int,fun x=>x.1<=(l.getD j.toNat (dfl (.st .dep))).items.length/\0<=x.2/\x.2<=4000/\sS l j.toNat x.1 x.2=fo l 0 0,fun x=>[(3,.int .i64 x.2),(5,.int .i64 x.1)],fun _=>[],fun x=>(l.getD j.toNat (dfl (.st .dep))).items.length - x.1⟩)],[],[]⟩ Tryz.func14 (th l N hl hN)
theorem rG:aL Tryz.prog 14 (p1 (.lst (.st .dep)) fun l=>.ret (.bool (fo l 0 0))):=
 fg (ee Tryz.func14) fun l hl _=>o7 l (szD l) hl (wO l)
theorem rH (a b:List AL.Item) (N:Nat) (ha:Wf (.lst (.st .item)) a) (hb:Wf (.lst (.st .item)) b) (hN:∀x∈a,sz x.shape<=N) :aW Tryz.prog 17 [.lst (.st .item) a none,.lst (.st .item) b none] [] (.ret (.bool (fj a b))):=
 g0 (sc (tp N) sn) ⟨[(4,fun S0=>⟨Nat,fun k=>k<=a.length/\a.length=b.length/\fj a b=fj (a.drop k) (b.drop k),fun k=>[(5,.int .i64 k)],fun _=>[],fun k=>a.length - k⟩)],[],[]⟩ Tryz.func17 (xi a b N ha hb hN)
theorem vA:aL Tryz.prog 17 (p2 (.lst (.st .item)) (.lst (.st .item)) fun a b=>.ret (.bool (fj a b))):=
 fF (ee Tryz.func17) fun a b ha hb _=>rH a b (szI a) ha hb (pV a)
theorem jg (Nd:Str→List Nam→List AL.Item→List AL.Item) (S:List AL.Item→List AL.Item→Bool) (Z:List Depd→Bool) (d:Depd) (u:List Nam) (h1:∀l,S l l=true) (ho:d.items.length<=1048576/\∀x∈d.items,allS nmU x.shape=true) (hA:aL Tryz.prog 15 (p2 (.st .dep) (.lst (.st .nm)) fun d u=>⟨some (d.items.length<=1048576/\∀x∈d.items,allS nmU x.shape=true),none,.st .dep (AL.Depd.mk d.name (Nd d.name u d.items)),[]⟩)) (hB:aL Tryz.prog 16 (p2 (.st .dep) (.lst (.st .nm)) fun d u=>⟨some (d.items.length<=1048576/\∀x∈d.items,allS nmU x.shape=true),none,.st .dep (AL.Depd.mk d.name (Nd d.name u d.items)),[]⟩)) (hS:aL Tryz.prog 17 (p2 (.lst (.st .item)) (.lst (.st .item)) fun a b=>.ret (.bool (S a b)))) (hZ:aL Tryz.prog 14 (p1 (.lst (.st .dep)) fun l=>.ret (.bool (Z l)))) (hW:aL Tryz.prog 7 (p0 (.ret (.bool true)))):aW Tryz.prog 4 [.st .dep d,.lst (.st .nm) u none] [] (.ret (.bool true)):=
 g0 (sc (hW) (sc (hA) (sc (hB) (sc (hS) (sc (hZ) sn))))) a0 Tryz.func4 (ld Nd S Z d u h1 ho)
theorem tu:aL Tryz.prog 56 (p1 (.lst .str) fun l=>⟨some (l.length *16<=140737488355328),none,.bool (decide l.Nodup),[]⟩):=
 fg (ee Tryz.func56) fun l _ ho=>g0 (sc tm (sc (sP) (sc (rl) sn))) a0 Tryz.func56 (vv l (ho _ rfl))
end Go.AL.Seat
end
noncomputable section
namespace Go.AL.Seat
open Go Go.AL Go.Proofs Go.Shelf Go.Pd
variable [Tabs]
def zc (t:Str):Bool:=!t.isEmpty && decide (t.length<=15) && t.all fun c=>decide (48<=c.toNat) && decide (c.toNat<=57)
theorem ym {t:Str} (h:zc t=true):oF t:=by
 unfold zc at h
 simp only [Bool.and_eq_true,Bool.not_eq_true',decide_eq_true_eq,List.all_eq_true] at h
 exact ⟨fun e=>(by rw [e] at h;exact absurd h.1.1 (by decide)),h.1.2,h.2⟩
def nG:List (Nat × Pat):=
 [(165,p1 .str fun s=>.ret (.tup [.int .i32 ((gK s).1:Int),.int .i64 ((gK s).2:Int)])),
  (175,p2 .str (.int .u8) fun a c=>.ret (.int .i64 (wC a c))),
  (119,q2 .str .str (fun _ b=>decide (b=nr)) fun a _=>.str (nt a)),
  (173,q2 .str .str (fun a b=>decide (b=[45]) && decide (a.length < 4294967281)) fun a _=>.tup [.str (fO a),.str (jf a),.bool (kq a)]),
  (87,q2 .str .str (fun a b=>decide (b=[46]) && decide (a.length < 4294967281)) fun a _=>.lst .str (splitB 46 a) none),
  (177,q2 .str .str (fun _ b=>decide (b.length=1)) fun a b=>.bool (decide (b.getD 0 0∈a))),
  (174,q1 .str zc fun t=>.tup [.int .i64 (iS t),.nilif]),
  (50,p1 .str fun s=>.ret (.bool (qX s))),(55,p1 .str fun s=>.ret (.bool (pP s)))]
theorem nH [SeatLaid]:ba Tryz.prog (eL nG):=
 sc nz (sc nY (sc (ue wJ fun _ _ h=>Xo h)
  (sc (ue xV fun _ _ h=>by rw [Bool.and_eq_true] at h;exact ⟨Xo h.1,Xo h.2⟩)
  (sc (ue ve fun _ _ h=>by rw [Bool.and_eq_true] at h;exact ⟨Xo h.1,Xo h.2⟩)
  (sc (ue pT fun _ _ h=>Xo h) (sc (xc wI fun _ h=>ym h)
  (sc xk (sc vz sn))))))))
end Go.AL.Seat
end
noncomputable section
namespace Go.AL.Seat
open Go Go.AL Go.Proofs
variable [Tabs]
def ak:List (Nat × TR):=[(3,r2),(9,r9),(56,⟨.strct false [(0,3),(1,9),(2,9),(3,3),(4,24),(5,24),(6,51),(7,54),(8,3)],9,152,[.int .i64 0,.str [],.str [],.int .i64 0,.nils,.nils,.nils,.nils,.int .i64 0],some (.st .term)⟩),(53,⟨.strct false [(0,3),(1,9),(2,9),(3,24),(4,51)],5,88,[.int .i64 0,.str [],.str [],.nils,.nils],some (.st .shape)⟩),(109,⟨.strct true [(0,3),(1,9),(2,3)],3,32,[.int .i64 0,.str [],.int .i64 0],some (.st .token)⟩),(24,⟨.slice 9,1,24,[.nils],some (.lst .str)⟩),(188,⟨.strct false [(0,186)],4,48,[.nils,.int .i64 0,.int .i64 0,.int .i64 0],some (.st .par)⟩),(183,⟨.ptr 188,1,8,[.nilp],none⟩),(5,r5),(257,vn),(61,⟨.strct true [(0,3),(1,3),(2,3),(3,9)],4,40,[.int .i64 0,.int .i64 0,.int .i64 0,.str []],some (.st .version)⟩),(69,⟨.strct true [(0,67),(1,3)],2,16,[.int .i64 0,.int .i64 0],some (.st .fault)⟩),(106,yf),(51,⟨.slice 53,1,24,[.nils],some (.lst (.st .shape))⟩),(4,⟨.bool,1,1,[.bool false],some .bool⟩),(132,yh),(54,⟨.slice 56,1,24,[.nils],some (.lst (.st .term))⟩),(130,yg),(67,r2),(186,⟨.strct false [(0,99),(1,3),(2,69)],4,48,[.nils,.int .i64 0,.int .i64 0,.int .i64 0],some (.st .par)⟩),(99,⟨.slice 109,1,24,[.nils],some (.lst (.st .token))⟩),(26,⟨.strct false [(0,9),(1,22),(2,23),(3,24),(4,3)],5,96,[.str [],.nils,.nils,.nils,.int .i64 0],some (.st .modu)⟩),(121,⟨.slice 3,1,24,[.nils],some (.lst (.int .i64))⟩),(128,⟨.ptr 132,1,8,[.nilp],none⟩),(104,vl),(58,⟨.strct false [(0,3),(1,9),(2,53),(7,56),(16,3)],17,272,[.int .i64 0,.str [],.int .i64 0,.str [],.str [],.nils,.nils,.int .i64 0,.str [],.str [],.int .i64 0,.nils,.nils,.nils,.nils,.int .i64 0,.int .i64 0],some (.st .decl)⟩),(62,⟨.slice 66,1,24,[.nils],some (.lst (.st .bound))⟩),(64,⟨.strct false [(0,9),(1,61),(5,62),(6,3)],7,88,[.str [],.int .i64 0,.int .i64 0,.int .i64 0,.str [],.nils,.int .i64 0],some (.st .imp)⟩),(1,r1),(66,⟨.strct true [(0,3),(1,61)],5,48,[.int .i64 0,.int .i64 0,.int .i64 0,.int .i64 0,.str []],some (.st .bound)⟩),(22,⟨.slice 64,1,24,[.nils],some (.lst (.st .imp))⟩),(229,⟨.slice 5,1,24,[.nils],some (.lst (.int .u8))⟩),(182,⟨.map 9 3,1,8,[.nilm],none⟩),(107,r1),(23,⟨.slice 58,1,24,[.nils],some (.lst (.st .decl))⟩),(224,⟨.arr 3 3,3,24,[.int .i64 0,.int .i64 0,.int .i64 0],none⟩),(21,r21),(240,vm),(199,r1),(152,r1),(113,r1),(20,r20),(239,vm),(256,vn),(185,vl),(187,⟨.strct false [(0,186)],4,48,[.nils,.int .i64 0,.int .i64 0,.int .i64 0],none⟩),(65,⟨.strct true [(0,3),(1,61)],5,48,[.int .i64 0,.int .i64 0,.int .i64 0,.int .i64 0,.str []],none⟩),(52,⟨.strct false [(0,3),(1,9),(2,9),(3,24),(4,51)],5,88,[.int .i64 0,.str [],.str [],.nils,.nils],none⟩),(55,⟨.strct false [(0,3),(1,9),(2,9),(3,3),(4,24),(5,24),(6,51),(7,54),(8,3)],9,152,[.int .i64 0,.str [],.str [],.int .i64 0,.nils,.nils,.nils,.nils,.int .i64 0],none⟩),(57,⟨.strct false [(0,3),(1,9),(2,53),(7,56),(16,3)],17,272,[.int .i64 0,.str [],.int .i64 0,.str [],.str [],.nils,.nils,.int .i64 0,.str [],.str [],.int .i64 0,.nils,.nils,.nils,.nils,.int .i64 0,.int .i64 0],none⟩),(60,⟨.strct true [(0,3),(1,3),(2,3),(3,9)],4,40,[.int .i64 0,.int .i64 0,.int .i64 0,.str []],none⟩),(63,⟨.strct false [(0,9),(1,61),(5,62),(6,3)],7,88,[.str [],.int .i64 0,.int .i64 0,.int .i64 0,.str [],.nils,.int .i64 0],none⟩),(131,yh),(129,yg),(108,⟨.strct true [(0,3),(1,9),(2,3)],3,32,[.int .i64 0,.str [],.int .i64 0],none⟩),(105,yf),(103,vl),(68,⟨.strct true [(0,67),(1,3)],2,16,[.int .i64 0,.int .i64 0],none⟩),(25,⟨.strct false [(0,9),(1,22),(2,23),(3,24),(4,3)],5,96,[.str [],.nils,.nils,.nils,.int .i64 0],none⟩)]
theorem rI:aE Tryz.prog ak:=.cons tk (.cons tk (.cons tk (.cons tk (.cons tk (.cons tk (.cons tk (.cons tk (.cons tk (.cons tk (.cons tk (.cons tk (.cons tk (.cons tk (.cons tk (.cons tk (.cons tk (.cons tk (.cons tk (.cons tk (.cons tk (.cons tk (.cons tk (.cons tk (.cons tk (.cons tk (.cons tk (.cons tk (.cons tk (.cons tk (.cons tk (.cons tk (.cons tk (.cons tk (.cons tk (.cons tk (.cons tk (.cons tk (.cons tk (.cons tk (.cons tk (.cons tk (.cons tk (.cons tk (.cons tk (.cons tk (.cons tk (.cons tk (.cons tk (.cons tk (.cons tk (.cons tk (.cons tk (.cons tk (.cons tk (.cons tk (.cons tk (.cons tk (.cons tk (.nil)))))))))))))))))))))))))))))))))))))))))))))))))))))))))))
end Go.AL.Seat
end
noncomputable section
namespace Go.AL.Seat
open Go Go.AL Go.Proofs
set_option maxRecDepth 1000000
variable [Tabs]
def xm (f:Nat):List (Option Nat):=if Nat.beq f 72 || Nat.beq f 73 then [some 2] else if Nat.beq f 42 || (Nat.beq f 43 || (Nat.beq f 47 || (Nat.beq f 48 || (Nat.beq f 49 || Nat.beq f 77)))) then [some 4] else []
def xn (f:Nat):Bool:=false
def nI:List (Nat × FB):=(23,ai ak Tryz.f23 288511851128455421 [] (fun _=>false) (fun _=>false) (fun _=>false) false) ::(41,ai ak Tryz.f41 77975715369647181664879229 [] (fun _=>false) (fun _=>false) (fun _=>false) false) ::(42,ai ak Tryz.f42 259 [] (fun _=>false) (fun _=>false) (fun _=>false) false) ::(43,ai ak Tryz.f43 65587 [] (fun _=>false) (fun _=>false) (fun _=>false) false) ::(44,ai ak Tryz.f44 19380592045697041145266237 [] (fun _=>false) (fun _=>false) (fun _=>false) false) ::(45,ai ak Tryz.f45 38685626517024445242019965 [] (fun _=>false) (fun _=>false) (fun _=>false) false) ::(46,ai ak Tryz.f46 1180591655902890688517 [] (fun _=>false) (fun _=>false) (fun _=>false) false) ::(47,ai ak Tryz.f47 5 [] (fun _=>false) (fun _=>false) (fun _=>false) false) ::(48,ai ak Tryz.f48 263 [] (fun _=>false) (fun _=>false) (fun _=>false) false) ::(49,ai ak Tryz.f49 5 [] (fun _=>false) (fun _=>false) (fun _=>false) false) ::(72,ai ak Tryz.f72 65555 [] (fun _=>false) (fun _=>false) (fun _=>false) false) ::(73,ai ak Tryz.f73 4294967347 [] (fun _=>false) (fun _=>false) (fun _=>false) false) ::(74,ai ak Tryz.f74 5 [] (fun _=>false) (fun _=>false) (fun _=>false) false) ::(75,ai ak Tryz.f75 8388935 [] (fun _=>false) (fun _=>false) (fun _=>false) false) ::(76,ai ak Tryz.f76 87112288527988523651034566703108870643455 [] (fun _=>false) (fun _=>false) (fun d=>Nat.beq d 21) false) ::(77,ai ak Tryz.f77 67108915 [] (fun _=>false) (fun _=>false) (fun _=>false) false) ::(78,ai ak Tryz.f78 19 [] (fun _=>false) (fun _=>false) (fun _=>false) false) ::(79,ai ak Tryz.f79 8388807 [] (fun _=>false) (fun _=>false) (fun _=>false) false) ::(80,ai ak Tryz.f80 13 [] (fun _=>false) (fun _=>false) (fun _=>false) false) ::(81,ai ak Tryz.f81 2361185498182472704253 [] (fun _=>false) (fun _=>false) (fun _=>false) false) ::(53,ai ak Tryz.f53 659706875863 [] (fun _=>false) (fun _=>false) (fun _=>false) false) ::(82,ai ak Tryz.f82 9016029707634675 [] (fun _=>false) (fun _=>false) (fun _=>false) false) ::(83,ai ak Tryz.f83 134250995 [] (fun _=>false) (fun _=>false) (fun _=>false) false) ::(113,ai ak Tryz.f113 549890048253 [] (fun _=>false) (fun _=>false) (fun _=>false) false) ::(114,ai ak Tryz.f114 71 [] (fun _=>false) (fun _=>false) (fun _=>false) false) ::(115,ai ak Tryz.f115 79 [] (fun _=>false) (fun _=>false) (fun _=>false) false) ::(85,ai ak Tryz.f85 5 [] (fun _=>false) (fun _=>false) (fun _=>false) false) ::(94,ai ak Tryz.f94 5 [] (fun _=>false) (fun _=>false) (fun _=>false) false) ::(116,ai ak Tryz.f116 5 [] (fun _=>false) (fun _=>false) (fun _=>false) false) ::(86,ai ak Tryz.f86 29 [] (fun _=>false) (fun _=>false) (fun _=>false) false) ::(117,ai ak Tryz.f117 5 [] (fun _=>false) (fun _=>false) (fun _=>false) false) ::(118,ai ak Tryz.f118 5 [] (fun _=>false) (fun _=>false) (fun _=>false) false) ::(120,ai ak Tryz.f120 151115799509488183025661 [] (fun _=>false) (fun _=>false) (fun _=>false) false) ::(121,ai ak Tryz.f121 618970019647202533975261693 [] (fun _=>false) (fun _=>false) (fun _=>false) false) ::(122,ai ak Tryz.f122 29 [] (fun _=>false) (fun _=>false) (fun _=>false) false) ::(123,ai ak Tryz.f123 19 [] (fun _=>false) (fun _=>false) (fun _=>false) false) ::(124,ai ak Tryz.f124 66483 [] (fun _=>false) (fun _=>false) (fun _=>false) false) ::(125,ai ak Tryz.f125 4195343 [] (fun _=>false) (fun _=>false) (fun _=>false) false) ::(90,ai ak Tryz.f90 36909250894291276799 [] (fun _=>false) (fun _=>false) (fun d=>Nat.beq d 17 || Nat.beq d 22 || Nat.beq d 27 || Nat.beq d 29 || Nat.beq d 43 || Nat.beq d 46 || Nat.beq d 63) false) ::(126,ai ak Tryz.f126 33816627 [] (fun _=>false) (fun _=>false) (fun _=>false) false) ::(127,ai ak Tryz.f127 5 [] (fun _=>false) (fun _=>false) (fun _=>false) false) ::(128,ai ak Tryz.f128 268439557 [] (fun _=>false) (fun _=>false) (fun _=>false) false) ::(129,ai ak Tryz.f129 81129648086015544455969055506495 [] (fun _=>false) (fun _=>false) (fun _=>false) false) ::(93,ai ak Tryz.f93 74783 [] (fun _=>false) (fun _=>false) (fun _=>false) false) ::(130,ai ak Tryz.f130 263 [] (fun _=>false) (fun _=>false) (fun _=>false) false) ::(131,ai ak Tryz.f131 2228285 [] (fun _=>false) (fun _=>false) (fun _=>false) false) ::(133,ai ak Tryz.f133 5 [] (fun _=>false) (fun _=>false) (fun _=>false) false) ::(51,ai ak Tryz.f51 9316337836119 [] (fun _=>false) (fun _=>false) (fun _=>false) false) ::(176,ai ak Tryz.f176 5 [] (fun _=>false) (fun _=>false) (fun _=>false) false) ::(178,ai ak Tryz.f178 66483 [] (fun _=>false) (fun _=>false) (fun _=>false) false) ::(134,ai ak Tryz.f134 604275 [] (fun _=>false) (fun _=>false) (fun _=>false) false) ::(30,ai ak Tryz.f30 17389 [] (fun _=>false) (fun _=>false) (fun _=>false) false) ::(135,ai ak Tryz.f135 2623603 [] (fun _=>false) (fun _=>false) (fun _=>false) false) ::(179,ai ak Tryz.f179 3 [] (fun d=>Nat.beq d 8) (fun _=>false) (fun _=>false) false) ::(180,ai ak Tryz.f180 7 [] (fun d=>Nat.beq d 15) (fun _=>false) (fun _=>false) false) ::(182,ai ak Tryz.f182 275 [] (fun _=>false) (fun _=>false) (fun _=>false) false) ::(181,ai ak Tryz.f181 131 [] (fun _=>false) (fun _=>false) (fun _=>false) false) ::(184,ai ak Tryz.f184 7 [] (fun _=>false) (fun _=>false) (fun _=>false) false) ::(183,ai ak Tryz.f183 271375 [] (fun _=>false) (fun _=>false) (fun _=>false) false) ::(186,ai ak Tryz.f186 32819 [] (fun _=>false) (fun _=>false) (fun _=>false) false) ::(187,ai ak Tryz.f187 15 [] (fun _=>false) (fun _=>false) (fun _=>false) false) ::(188,ai ak Tryz.f188 17180524607 [] (fun _=>false) (fun _=>false) (fun _=>false) false) ::(141,ai ak Tryz.f141 2223863 [] (fun _=>false) (fun _=>false) (fun _=>false) false) ::(142,ai ak Tryz.f142 7 [] (fun _=>false) (fun _=>false) (fun _=>false) false) ::(189,ai ak Tryz.f189 324677087359430077278579446644799 [] (fun d=>Nat.beq d 129) (fun _=>false) (fun _=>false) false) ::(91,ai ak Tryz.f91 299063 [] (fun _=>false) (fun _=>false) (fun _=>false) false) ::(88,ai ak Tryz.f88 18014398524686365 [] (fun _=>false) (fun _=>false) (fun _=>false) false) ::(193,ai ak Tryz.f193 5 [] (fun _=>false) (fun _=>false) (fun _=>false) false) ::(194,ai ak Tryz.f194 19 [] (fun _=>false) (fun _=>false) (fun _=>false) false) ::(224,ai ak Tryz.f224 51 [] (fun _=>false) (fun _=>false) (fun _=>false) false) ::(185,ai ak Tryz.f185 65587 [] (fun _=>false) (fun _=>false) (fun _=>false) false) ::(225,ai ak Tryz.f225 23945973599159813139139346461134680183357916012085311 [] (fun _=>false) (fun _=>false) (fun _=>false) false) ::(226,ai ak Tryz.f226 3 [] (fun d=>Nat.beq d 8) (fun _=>false) (fun _=>false) false) ::(202,ai ak Tryz.f202 3537148372723500476506894142080440715070649430595550180525943565456506895 [] (fun _=>false) (fun _=>false) (fun _=>false) false) ::(203,ai ak Tryz.f203 27 [] (fun _=>false) (fun _=>false) (fun _=>false) false) ::(227,ai ak Tryz.f227 7 [] (fun d=>Nat.beq d 21) (fun _=>false) (fun _=>false) false) ::(229,ai ak Tryz.f229 149971 [] (fun _=>false) (fun _=>false) (fun _=>false) false) ::(230,ai ak Tryz.f230 3 [] (fun d=>Nat.beq d 8) (fun _=>false) (fun _=>false) false) ::(136,ai ak Tryz.f136 31 [] (fun _=>false) (fun _=>false) (fun _=>false) false) ::(137,ai ak Tryz.f137 2159703 [] (fun _=>false) (fun _=>false) (fun _=>false) false) ::(138,ai ak Tryz.f138 10141204803006463002229839257615 [] (fun _=>false) (fun _=>false) (fun _=>false) false) ::(268,ai ak Tryz.f268 3 [] (fun d=>Nat.beq d 23) (fun _=>false) (fun _=>false) false) ::(269,ai ak Tryz.f269 13 [] (fun _=>false) (fun _=>false) (fun _=>false) false) ::(236,ai ak Tryz.f236 7 [] (fun _=>false) (fun _=>false) (fun _=>false) false) ::(237,ai ak Tryz.f237 27 [] (fun _=>false) (fun _=>false) (fun _=>false) false) ::(238,ai ak Tryz.f238 7 [] (fun _=>false) (fun _=>false) (fun _=>false) false) ::(239,ai ak Tryz.f239 2098133 [] (fun _=>false) (fun _=>false) (fun _=>false) false) ::(240,ai ak Tryz.f240 13 [] (fun _=>false) (fun _=>false) (fun _=>false) false) ::(241,ai ak Tryz.f241 27 [] (fun _=>false) (fun _=>false) (fun _=>false) false) ::(243,ai ak Tryz.f243 15 [] (fun _=>false) (fun _=>false) (fun _=>false) false) ::(242,ai ak Tryz.f242 19 [] (fun _=>false) (fun _=>false) (fun _=>false) false) ::(228,ai ak Tryz.f228 5 [] (fun _=>false) (fun _=>false) (fun _=>false) false) ::(196,ai ak Tryz.f196 33071 [] (fun _=>false) (fun _=>false) (fun _=>false) false) ::(198,ai ak Tryz.f198 17 [] (fun _=>false) (fun _=>false) (fun _=>false) false) ::(197,ai ak Tryz.f197 246479 [] (fun _=>false) (fun _=>false) (fun _=>false) false) ::(199,ai ak Tryz.f199 4444215 [] (fun _=>false) (fun _=>false) (fun _=>false) false) ::(200,ai ak Tryz.f200 5 [] (fun _=>false) (fun _=>false) (fun _=>false) false) ::(274,ai ak Tryz.f274 15 [] (fun _=>false) (fun _=>false) (fun _=>false) false) ::(139,ai ak Tryz.f139 19 [] (fun _=>false) (fun _=>false) (fun _=>false) false) ::(275,ai ak Tryz.f275 7 [] (fun _=>false) (fun _=>false) (fun _=>false) false) ::(96,ai ak Tryz.f96 7 [] (fun _=>false) (fun _=>false) (fun _=>false) false) ::(278,ai ak Tryz.f278 11 [] (fun _=>false) (fun _=>false) (fun _=>false) false) ::(277,ai ak Tryz.f277 19 [] (fun _=>false) (fun _=>false) (fun _=>false) false) ::(279,ai ak Tryz.f279 66483 [] (fun _=>false) (fun _=>false) (fun _=>false) false) ::(201,ai ak Tryz.f201 66483 [] (fun _=>false) (fun _=>false) (fun _=>false) false) ::(145,ai ak Tryz.f145 16883 [] (fun _=>false) (fun _=>false) (fun _=>false) false) ::(292,ai ak Tryz.f292 66483 [] (fun _=>false) (fun _=>false) (fun _=>false) false) ::[]
theorem l0:aa Tryz.prog nI:=aa.cons Tryz.func23 (by kernel_rfl) (aa.cons Tryz.func41 (by kernel_rfl) (aa.cons Tryz.func42 (by kernel_rfl) (aa.cons Tryz.func43 (by kernel_rfl) (aa.cons Tryz.func44 (by kernel_rfl) (aa.cons Tryz.func45 (by kernel_rfl) (aa.cons Tryz.func46 (by kernel_rfl) (aa.cons Tryz.func47 (by kernel_rfl) (aa.cons Tryz.func48 (by kernel_rfl) (aa.cons Tryz.func49 (by kernel_rfl) (aa.cons Tryz.func72 (by kernel_rfl) (aa.cons Tryz.func73 (by kernel_rfl) (aa.cons Tryz.func74 (by kernel_rfl) (aa.cons Tryz.func75 (by kernel_rfl) (aa.cons Tryz.func76 (by kernel_rfl) (aa.cons Tryz.func77 (by kernel_rfl) (aa.cons Tryz.func78 (by kernel_rfl) (aa.cons Tryz.func79 (by kernel_rfl) (aa.cons Tryz.func80 (by kernel_rfl) (aa.cons Tryz.func81 (by kernel_rfl) (aa.cons Tryz.func53 (by kernel_rfl) (aa.cons Tryz.func82 (by kernel_rfl) (aa.cons Tryz.func83 (by kernel_rfl) (aa.cons Tryz.func113 (by kernel_rfl) (aa.cons Tryz.func114 (by kernel_rfl) (aa.cons Tryz.func115 (by kernel_rfl) (aa.cons Tryz.func85 (by kernel_rfl) (aa.cons Tryz.func94 (by kernel_rfl) (aa.cons Tryz.func116 (by kernel_rfl) (aa.cons Tryz.func86 (by kernel_rfl) (aa.cons Tryz.func117 (by kernel_rfl) (aa.cons Tryz.func118 (by kernel_rfl) (aa.cons Tryz.func120 (by kernel_rfl) (aa.cons Tryz.func121 (by kernel_rfl) (aa.cons Tryz.func122 (by kernel_rfl) (aa.cons Tryz.func123 (by kernel_rfl) (aa.cons Tryz.func124 (by kernel_rfl) (aa.cons Tryz.func125 (by kernel_rfl) (aa.cons Tryz.func90 (by kernel_rfl) (aa.cons Tryz.func126 (by kernel_rfl) (aa.cons Tryz.func127 (by kernel_rfl) (aa.cons Tryz.func128 (by kernel_rfl) (aa.cons Tryz.func129 (by kernel_rfl) (aa.cons Tryz.func93 (by kernel_rfl) (aa.cons Tryz.func130 (by kernel_rfl) (aa.cons Tryz.func131 (by kernel_rfl) (aa.cons Tryz.func133 (by kernel_rfl) (aa.cons Tryz.func51 (by kernel_rfl) (aa.cons Tryz.func176 (by kernel_rfl) (aa.cons Tryz.func178 (by kernel_rfl) (aa.cons Tryz.func134 (by kernel_rfl) (aa.cons Tryz.func30 (by kernel_rfl) (aa.cons Tryz.func135 (by kernel_rfl) (aa.cons Tryz.func179 (by kernel_rfl) (aa.cons Tryz.func180 (by kernel_rfl) (aa.cons Tryz.func182 (by kernel_rfl) (aa.cons Tryz.func181 (by kernel_rfl) (aa.cons Tryz.func184 (by kernel_rfl) (aa.cons Tryz.func183 (by kernel_rfl) (aa.cons Tryz.func186 (by kernel_rfl) (aa.cons Tryz.func187 (by kernel_rfl) (aa.cons Tryz.func188 (by kernel_rfl) (aa.cons Tryz.func141 (by kernel_rfl) (aa.cons Tryz.func142 (by kernel_rfl) (aa.cons Tryz.func189 (by kernel_rfl) (aa.cons Tryz.func91 (by kernel_rfl) (aa.cons Tryz.func88 (by kernel_rfl) (aa.cons Tryz.func193 (by kernel_rfl) (aa.cons Tryz.func194 (by kernel_rfl) (aa.cons Tryz.func224 (by kernel_rfl) (aa.cons Tryz.func185 (by kernel_rfl) (aa.cons Tryz.func225 (by kernel_rfl) (aa.cons Tryz.func226 (by kernel_rfl) (aa.cons Tryz.func202 (by kernel_rfl) (aa.cons Tryz.func203 (by kernel_rfl) (aa.cons Tryz.func227 (by kernel_rfl) (aa.cons Tryz.func229 (by kernel_rfl) (aa.cons Tryz.func230 (by kernel_rfl) (aa.cons Tryz.func136 (by kernel_rfl) (aa.cons Tryz.func137 (by kernel_rfl) (aa.cons Tryz.func138 (by kernel_rfl) (aa.cons Tryz.func268 (by kernel_rfl) (aa.cons Tryz.func269 (by kernel_rfl) (aa.cons Tryz.func236 (by kernel_rfl) (aa.cons Tryz.func237 (by kernel_rfl) (aa.cons Tryz.func238 (by kernel_rfl) (aa.cons Tryz.func239 (by kernel_rfl) (aa.cons Tryz.func240 (by kernel_rfl) (aa.cons Tryz.func241 (by kernel_rfl) (aa.cons Tryz.func243 (by kernel_rfl) (aa.cons Tryz.func242 (by kernel_rfl) (aa.cons Tryz.func228 (by kernel_rfl) (aa.cons Tryz.func196 (by kernel_rfl) (aa.cons Tryz.func198 (by kernel_rfl) (aa.cons Tryz.func197 (by kernel_rfl) (aa.cons Tryz.func199 (by kernel_rfl) (aa.cons Tryz.func200 (by kernel_rfl) (aa.cons Tryz.func274 (by kernel_rfl) (aa.cons Tryz.func139 (by kernel_rfl) (aa.cons Tryz.func275 (by kernel_rfl) (aa.cons Tryz.func96 (by kernel_rfl) (aa.cons Tryz.func278 (by kernel_rfl) (aa.cons Tryz.func277 (by kernel_rfl) (aa.cons Tryz.func279 (by kernel_rfl) (aa.cons Tryz.func201 (by kernel_rfl) (aa.cons Tryz.func145 (by kernel_rfl) (aa.cons Tryz.func292 (by kernel_rfl) (aa.nil)))))))))))))))))))))))))))))))))))))))))))))))))))))))))))))))))))))))))))))))))))))))))))))))))))))))))))
end Go.AL.Seat
end
noncomputable section
namespace Go.AL.Seat
open Go Go.AL Go.Proofs Go.Pd
set_option maxRecDepth 1000000
def awS:Str:=[109,111,100,117,108,101,32,112,32,105,109,112,111,114,116,32,113,32,112,105,110,32,49,46,48,46,48,32,114,97,110,103,101,32,42,32,105,109,112,111,114,116,32,122,32,112,105,110,32,49,46,48,46,48,32,114,97,110,103,101,32,42,32,108,101,116,32,102,32,61,32,113,47,103,40,49,41,32,101,120,112,111,114,116,32,40,102,41]
def awL:AV:=(.tup [(.lst (.st .token) [⟨5,[109,111,100,117,108,101],0⟩,⟨1,[112],7⟩,⟨5,[105,109,112,111,114,116],9⟩,⟨1,[113],16⟩,⟨5,[112,105,110],18⟩,⟨7,[49,46,48,46,48],22⟩,⟨5,[114,97,110,103,101],28⟩,⟨6,[42],34⟩,⟨5,[105,109,112,111,114,116],36⟩,⟨1,[122],43⟩,⟨5,[112,105,110],45⟩,⟨7,[49,46,48,46,48],49⟩,⟨5,[114,97,110,103,101],55⟩,⟨6,[42],61⟩,⟨5,[108,101,116],63⟩,⟨1,[102],67⟩,⟨6,[61],69⟩,⟨1,[113],71⟩,⟨6,[47],72⟩,⟨1,[103],73⟩,⟨6,[40],74⟩,⟨3,[49],75⟩,⟨6,[41],76⟩,⟨5,[101,120,112,111,114,116],78⟩,⟨6,[40],85⟩,⟨1,[102],86⟩,⟨6,[41],87⟩,⟨0,[],88⟩] none),(.agg [(.int .i64 0),(.int .i64 0)])])
variable [Tabs] [SeatLaid]
theorem zC:aW Tryz.prog 41 [.str awS] [] (.ret awL):=kz (n:=100) mixed rI nH l0 (by kernel_rfl:td ak nI xn xm 5000 (eL nG) 100 41 [.str awS] []=some ⟨none,none,awL,[]⟩)
def xo:List (Nat × Pat):=(41,uf [.str awS] awL) ::nG
theorem vB:ba Tryz.prog (eL xo):=sc (ug (ee Tryz.func41) zC) nH
end Go.AL.Seat
end
noncomputable section
namespace Go.AL.Seat
open Go Go.AL Go.Proofs Go.Pd
set_option maxRecDepth 1000000
def awV:AV:=(.tup [(.agg [(.str [112]),(.lst (.st .imp) [⟨[113],⟨1,0,0,[]⟩,[],9⟩,⟨[122],⟨1,0,0,[]⟩,[],36⟩] none),(.lst (.st .decl) [⟨3,[102],⟨0,[],[],[],[]⟩,⟨7,[],[],0,[],[],[],[⟨5,[113],[103],0,[],[],[],[],71⟩,⟨1,[],[],1,[],[],[],[],75⟩],71⟩,63⟩] none),(.lst .str [[102]] none),(.int .i64 78)]),(.agg [(.int .i64 0),(.int .i64 0)])])
variable [Tabs] [SeatLaid]
theorem zD:aW Tryz.prog 23 [.str awS] [] (.ret awV):=kz (n:=100) mixed rI vB l0 (by kernel_rfl:td ak nI xn xm 5000 (eL xo) 100 23 [.str awS] []=some ⟨none,none,awV,[]⟩)
end Go.AL.Seat
end
noncomputable section
namespace Go.AL.Seat
open Go Go.AL Go.Proofs
variable [Tabs]
def aB:List (Nat × TR):=[(3,r2),(9,r9),(53,⟨.strct false [(0,3),(1,9),(2,9),(3,24),(4,51)],5,88,[.int .i64 0,.str [],.str [],.nils,.nils],some (.st .shape)⟩),(24,⟨.slice 9,1,24,[.nils],some (.lst .str)⟩),(56,⟨.strct false [(0,3),(1,9),(2,9),(3,3),(4,24),(5,24),(6,51),(7,54),(8,3)],9,152,[.int .i64 0,.str [],.str [],.int .i64 0,.nils,.nils,.nils,.nils,.int .i64 0],some (.st .term)⟩),(257,vn),(51,⟨.slice 53,1,24,[.nils],some (.lst (.st .shape))⟩),(4,⟨.bool,1,1,[.bool false],some .bool⟩),(61,⟨.strct true [(0,3),(1,3),(2,3),(3,9)],4,40,[.int .i64 0,.int .i64 0,.int .i64 0,.str []],some (.st .version)⟩),(77,⟨.strct true [(0,9),(1,9)],2,32,[.str [],.str []],some (.st .nm)⟩),(58,⟨.strct false [(0,3),(1,9),(2,53),(7,56),(16,3)],17,272,[.int .i64 0,.str [],.int .i64 0,.str [],.str [],.nils,.nils,.int .i64 0,.str [],.str [],.int .i64 0,.nils,.nils,.nils,.nils,.int .i64 0,.int .i64 0],some (.st .decl)⟩),(5,r5),(26,⟨.strct false [(0,9),(1,22),(2,23),(3,24),(4,3)],5,96,[.str [],.nils,.nils,.nils,.int .i64 0],some (.st .modu)⟩),(67,r2),(38,⟨.strct false [(0,9),(1,36)],2,40,[.str [],.nils],some (.st .dep)⟩),(64,⟨.strct false [(0,9),(1,61),(5,62),(6,3)],7,88,[.str [],.int .i64 0,.int .i64 0,.int .i64 0,.str [],.nils,.int .i64 0],some (.st .imp)⟩),(36,⟨.slice 73,1,24,[.nils],some (.lst (.st .item))⟩),(54,⟨.slice 56,1,24,[.nils],some (.lst (.st .term))⟩),(75,⟨.strct true [(0,3),(1,9)],2,24,[.int .i64 0,.str []],some (.st .change)⟩),(73,⟨.strct false [(0,3),(1,9),(2,53)],7,112,[.int .i64 0,.str [],.int .i64 0,.str [],.str [],.nils,.nils],some (.st .item)⟩),(66,⟨.strct true [(0,3),(1,61)],5,48,[.int .i64 0,.int .i64 0,.int .i64 0,.int .i64 0,.str []],some (.st .bound)⟩),(31,⟨.slice 77,1,24,[.nils],some (.lst (.st .nm))⟩),(80,r79),(22,⟨.slice 64,1,24,[.nils],some (.lst (.st .imp))⟩),(62,⟨.slice 66,1,24,[.nils],some (.lst (.st .bound))⟩),(121,⟨.slice 3,1,24,[.nils],some (.lst (.int .i64))⟩),(45,⟨.slice 75,1,24,[.nils],some (.lst (.st .change))⟩),(23,⟨.slice 58,1,24,[.nils],some (.lst (.st .decl))⟩),(69,⟨.strct true [(0,67),(1,3)],2,16,[.int .i64 0,.int .i64 0],some (.st .fault)⟩),(240,vm),(229,⟨.slice 5,1,24,[.nils],some (.lst (.int .u8))⟩),(20,r20),(199,r1),(152,r1),(113,r1),(256,vn),(239,vm),(65,⟨.strct true [(0,3),(1,61)],5,48,[.int .i64 0,.int .i64 0,.int .i64 0,.int .i64 0,.str []],none⟩),(60,⟨.strct true [(0,3),(1,3),(2,3),(3,9)],4,40,[.int .i64 0,.int .i64 0,.int .i64 0,.str []],none⟩),(63,⟨.strct false [(0,9),(1,61),(5,62),(6,3)],7,88,[.str [],.int .i64 0,.int .i64 0,.int .i64 0,.str [],.nils,.int .i64 0],none⟩),(55,⟨.strct false [(0,3),(1,9),(2,9),(3,3),(4,24),(5,24),(6,51),(7,54),(8,3)],9,152,[.int .i64 0,.str [],.str [],.int .i64 0,.nils,.nils,.nils,.nils,.int .i64 0],none⟩),(57,⟨.strct false [(0,3),(1,9),(2,53),(7,56),(16,3)],17,272,[.int .i64 0,.str [],.int .i64 0,.str [],.str [],.nils,.nils,.int .i64 0,.str [],.str [],.int .i64 0,.nils,.nils,.nils,.nils,.int .i64 0,.int .i64 0],none⟩),(79,r79),(76,⟨.strct true [(0,9),(1,9)],2,32,[.str [],.str []],none⟩),(74,⟨.strct true [(0,3),(1,9)],2,24,[.int .i64 0,.str []],none⟩),(37,⟨.strct false [(0,9),(1,36)],2,40,[.str [],.nils],none⟩),(52,⟨.strct false [(0,3),(1,9),(2,9),(3,24),(4,51)],5,88,[.int .i64 0,.str [],.str [],.nils,.nils],none⟩),(72,⟨.strct false [(0,3),(1,9),(2,53)],7,112,[.int .i64 0,.str [],.int .i64 0,.str [],.str [],.nils,.nils],none⟩),(68,⟨.strct true [(0,67),(1,3)],2,16,[.int .i64 0,.int .i64 0],none⟩),(25,⟨.strct false [(0,9),(1,22),(2,23),(3,24),(4,3)],5,96,[.str [],.nils,.nils,.nils,.int .i64 0],none⟩)]
theorem xp:aE Tryz.prog aB:=.cons tk (.cons tk (.cons tk (.cons tk (.cons tk (.cons tk (.cons tk (.cons tk (.cons tk (.cons tk (.cons tk (.cons tk (.cons tk (.cons tk (.cons tk (.cons tk (.cons tk (.cons tk (.cons tk (.cons tk (.cons tk (.cons tk (.cons tk (.cons tk (.cons tk (.cons tk (.cons tk (.cons tk (.cons tk (.cons tk (.cons tk (.cons tk (.cons tk (.cons tk (.cons tk (.cons tk (.cons tk (.cons tk (.cons tk (.cons tk (.cons tk (.cons tk (.cons tk (.cons tk (.cons tk (.cons tk (.cons tk (.cons tk (.cons tk (.cons tk (.nil))))))))))))))))))))))))))))))))))))))))))))))))))
end Go.AL.Seat
end
noncomputable section
namespace Go.AL.Seat
open Go Go.AL Go.Proofs
set_option maxRecDepth 1000000
variable [Tabs]
def zd (f:Nat):List (Option Nat):=if Nat.beq f 72 || Nat.beq f 73 then [some 2] else if Nat.beq f 42 || (Nat.beq f 43 || (Nat.beq f 47 || (Nat.beq f 48 || (Nat.beq f 49 || Nat.beq f 77)))) then [some 4] else []
def ze (f:Nat):Bool:=false
def rJ:List (Nat × FB):=(7,ai aB Tryz.f7 63 [] (fun _=>false) (fun _=>false) (fun _=>false) false) ::(9,ai aB Tryz.f9 31023 [] (fun _=>false) (fun _=>false) (fun _=>false) false) ::(15,ai aB Tryz.f15 16838839 [] (fun _=>false) (fun _=>false) (fun _=>false) false) ::(19,ai aB Tryz.f19 274877939399 [] (fun _=>false) (fun _=>false) (fun _=>false) false) ::(8,ai aB Tryz.f8 33571891 [] (fun _=>false) (fun _=>false) (fun _=>false) false) ::(12,ai aB Tryz.f12 4319327 [] (fun _=>false) (fun _=>false) (fun _=>false) false) ::(11,ai aB Tryz.f11 33571891 [] (fun _=>false) (fun _=>false) (fun _=>false) false) ::(24,ai aB Tryz.f24 340292770534375364823452943443732465007 [] (fun _=>false) (fun _=>false) (fun _=>false) false) ::(25,ai aB Tryz.f25 503324715 [] (fun _=>false) (fun _=>false) (fun _=>false) false) ::(26,ai aB Tryz.f26 4125181903019 [] (fun _=>false) (fun _=>false) (fun _=>false) false) ::(28,ai aB Tryz.f28 7 [] (fun _=>false) (fun _=>false) (fun _=>false) false) ::(29,ai aB Tryz.f29 31 [] (fun _=>false) (fun _=>false) (fun d=>Nat.beq d 9 || Nat.beq d 14 || Nat.beq d 16) false) ::(37,ai aB Tryz.f37 27 [] (fun _=>false) (fun _=>false) (fun _=>false) false) ::(38,ai aB Tryz.f38 30767 [] (fun _=>false) (fun _=>false) (fun _=>false) false) ::(36,ai aB Tryz.f36 15 [] (fun _=>false) (fun _=>false) (fun _=>false) false) ::(35,ai aB Tryz.f35 19 [] (fun _=>false) (fun _=>false) (fun _=>false) false) ::(51,ai aB Tryz.f51 9316337836119 [] (fun _=>false) (fun _=>false) (fun _=>false) false) ::(52,ai aB Tryz.f52 8392597 [] (fun _=>false) (fun _=>false) (fun _=>false) false) ::(53,ai aB Tryz.f53 659706875863 [] (fun _=>false) (fun _=>false) (fun _=>false) false) ::(54,ai aB Tryz.f54 633826206808479411720232632383 [] (fun _=>false) (fun _=>false) (fun _=>false) false) ::(56,ai aB Tryz.f56 13 [] (fun _=>false) (fun _=>false) (fun _=>false) false) ::(59,ai aB Tryz.f59 8363 [] (fun _=>false) (fun _=>false) (fun _=>false) false) ::(31,ai aB Tryz.f31 604275 [] (fun _=>false) (fun _=>false) (fun _=>false) false) ::(30,ai aB Tryz.f30 17389 [] (fun _=>false) (fun _=>false) (fun _=>false) false) ::(70,ai aB Tryz.f70 66491 [] (fun _=>false) (fun _=>false) (fun _=>false) false) ::(69,ai aB Tryz.f69 66483 [] (fun _=>false) (fun _=>false) (fun _=>false) false) ::(88,ai aB Tryz.f88 18014398524686365 [] (fun _=>false) (fun _=>false) (fun _=>false) false) ::(89,ai aB Tryz.f89 5469 [] (fun _=>false) (fun _=>false) (fun _=>false) false) ::(90,ai aB Tryz.f90 36909250894291276799 [] (fun _=>false) (fun _=>false) (fun d=>Nat.beq d 17 || Nat.beq d 22 || Nat.beq d 27 || Nat.beq d 29 || Nat.beq d 43 || Nat.beq d 46 || Nat.beq d 63) false) ::(91,ai aB Tryz.f91 299063 [] (fun _=>false) (fun _=>false) (fun _=>false) false) ::(92,ai aB Tryz.f92 7 [] (fun _=>false) (fun _=>false) (fun _=>false) false) ::(93,ai aB Tryz.f93 74783 [] (fun _=>false) (fun _=>false) (fun _=>false) false) ::(96,ai aB Tryz.f96 7 [] (fun _=>false) (fun _=>false) (fun _=>false) false) ::(60,ai aB Tryz.f60 5 [] (fun _=>false) (fun _=>false) (fun _=>false) false) ::(133,ai aB Tryz.f133 5 [] (fun _=>false) (fun _=>false) (fun _=>false) false) ::(134,ai aB Tryz.f134 604275 [] (fun _=>false) (fun _=>false) (fun _=>false) false) ::(135,ai aB Tryz.f135 2623603 [] (fun _=>false) (fun _=>false) (fun _=>false) false) ::(136,ai aB Tryz.f136 31 [] (fun _=>false) (fun _=>false) (fun _=>false) false) ::(137,ai aB Tryz.f137 2159703 [] (fun _=>false) (fun _=>false) (fun _=>false) false) ::(138,ai aB Tryz.f138 10141204803006463002229839257615 [] (fun _=>false) (fun _=>false) (fun _=>false) false) ::(139,ai aB Tryz.f139 19 [] (fun _=>false) (fun _=>false) (fun _=>false) false) ::(140,ai aB Tryz.f140 7 [] (fun _=>false) (fun _=>false) (fun _=>false) false) ::(141,ai aB Tryz.f141 2223863 [] (fun _=>false) (fun _=>false) (fun _=>false) false) ::(142,ai aB Tryz.f142 7 [] (fun _=>false) (fun _=>false) (fun _=>false) false) ::(145,ai aB Tryz.f145 16883 [] (fun _=>false) (fun _=>false) (fun _=>false) false) ::(193,ai aB Tryz.f193 5 [] (fun _=>false) (fun _=>false) (fun _=>false) false) ::(194,ai aB Tryz.f194 19 [] (fun _=>false) (fun _=>false) (fun _=>false) false) ::(196,ai aB Tryz.f196 33071 [] (fun _=>false) (fun _=>false) (fun _=>false) false) ::(198,ai aB Tryz.f198 17 [] (fun _=>false) (fun _=>false) (fun _=>false) false) ::(197,ai aB Tryz.f197 246479 [] (fun _=>false) (fun _=>false) (fun _=>false) false) ::(199,ai aB Tryz.f199 4444215 [] (fun _=>false) (fun _=>false) (fun _=>false) false) ::(200,ai aB Tryz.f200 5 [] (fun _=>false) (fun _=>false) (fun _=>false) false) ::(201,ai aB Tryz.f201 66483 [] (fun _=>false) (fun _=>false) (fun _=>false) false) ::(202,ai aB Tryz.f202 3537148372723500476506894142080440715070649430595550180525943565456506895 [] (fun _=>false) (fun _=>false) (fun _=>false) false) ::(203,ai aB Tryz.f203 27 [] (fun _=>false) (fun _=>false) (fun _=>false) false) ::(236,ai aB Tryz.f236 7 [] (fun _=>false) (fun _=>false) (fun _=>false) false) ::(237,ai aB Tryz.f237 27 [] (fun _=>false) (fun _=>false) (fun _=>false) false) ::(238,ai aB Tryz.f238 7 [] (fun _=>false) (fun _=>false) (fun _=>false) false) ::(239,ai aB Tryz.f239 2098133 [] (fun _=>false) (fun _=>false) (fun _=>false) false) ::(240,ai aB Tryz.f240 13 [] (fun _=>false) (fun _=>false) (fun _=>false) false) ::(241,ai aB Tryz.f241 27 [] (fun _=>false) (fun _=>false) (fun _=>false) false) ::(243,ai aB Tryz.f243 15 [] (fun _=>false) (fun _=>false) (fun _=>false) false) ::(242,ai aB Tryz.f242 19 [] (fun _=>false) (fun _=>false) (fun _=>false) false) ::(274,ai aB Tryz.f274 15 [] (fun _=>false) (fun _=>false) (fun _=>false) false) ::(275,ai aB Tryz.f275 7 [] (fun _=>false) (fun _=>false) (fun _=>false) false) ::(278,ai aB Tryz.f278 11 [] (fun _=>false) (fun _=>false) (fun _=>false) false) ::(277,ai aB Tryz.f277 19 [] (fun _=>false) (fun _=>false) (fun _=>false) false) ::(279,ai aB Tryz.f279 66483 [] (fun _=>false) (fun _=>false) (fun _=>false) false) ::(292,ai aB Tryz.f292 66483 [] (fun _=>false) (fun _=>false) (fun _=>false) false) ::[]
theorem rK:aa Tryz.prog rJ:=aa.cons Tryz.func7 (by kernel_rfl) (aa.cons Tryz.func9 (by kernel_rfl) (aa.cons Tryz.func15 (by kernel_rfl) (aa.cons Tryz.func19 (by kernel_rfl) (aa.cons Tryz.func8 (by kernel_rfl) (aa.cons Tryz.func12 (by kernel_rfl) (aa.cons Tryz.func11 (by kernel_rfl) (aa.cons Tryz.func24 (by kernel_rfl) (aa.cons Tryz.func25 (by kernel_rfl) (aa.cons Tryz.func26 (by kernel_rfl) (aa.cons Tryz.func28 (by kernel_rfl) (aa.cons Tryz.func29 (by kernel_rfl) (aa.cons Tryz.func37 (by kernel_rfl) (aa.cons Tryz.func38 (by kernel_rfl) (aa.cons Tryz.func36 (by kernel_rfl) (aa.cons Tryz.func35 (by kernel_rfl) (aa.cons Tryz.func51 (by kernel_rfl) (aa.cons Tryz.func52 (by kernel_rfl) (aa.cons Tryz.func53 (by kernel_rfl) (aa.cons Tryz.func54 (by kernel_rfl) (aa.cons Tryz.func56 (by kernel_rfl) (aa.cons Tryz.func59 (by kernel_rfl) (aa.cons Tryz.func31 (by kernel_rfl) (aa.cons Tryz.func30 (by kernel_rfl) (aa.cons Tryz.func70 (by kernel_rfl) (aa.cons Tryz.func69 (by kernel_rfl) (aa.cons Tryz.func88 (by kernel_rfl) (aa.cons Tryz.func89 (by kernel_rfl) (aa.cons Tryz.func90 (by kernel_rfl) (aa.cons Tryz.func91 (by kernel_rfl) (aa.cons Tryz.func92 (by kernel_rfl) (aa.cons Tryz.func93 (by kernel_rfl) (aa.cons Tryz.func96 (by kernel_rfl) (aa.cons Tryz.func60 (by kernel_rfl) (aa.cons Tryz.func133 (by kernel_rfl) (aa.cons Tryz.func134 (by kernel_rfl) (aa.cons Tryz.func135 (by kernel_rfl) (aa.cons Tryz.func136 (by kernel_rfl) (aa.cons Tryz.func137 (by kernel_rfl) (aa.cons Tryz.func138 (by kernel_rfl) (aa.cons Tryz.func139 (by kernel_rfl) (aa.cons Tryz.func140 (by kernel_rfl) (aa.cons Tryz.func141 (by kernel_rfl) (aa.cons Tryz.func142 (by kernel_rfl) (aa.cons Tryz.func145 (by kernel_rfl) (aa.cons Tryz.func193 (by kernel_rfl) (aa.cons Tryz.func194 (by kernel_rfl) (aa.cons Tryz.func196 (by kernel_rfl) (aa.cons Tryz.func198 (by kernel_rfl) (aa.cons Tryz.func197 (by kernel_rfl) (aa.cons Tryz.func199 (by kernel_rfl) (aa.cons Tryz.func200 (by kernel_rfl) (aa.cons Tryz.func201 (by kernel_rfl) (aa.cons Tryz.func202 (by kernel_rfl) (aa.cons Tryz.func203 (by kernel_rfl) (aa.cons Tryz.func236 (by kernel_rfl) (aa.cons Tryz.func237 (by kernel_rfl) (aa.cons Tryz.func238 (by kernel_rfl) (aa.cons Tryz.func239 (by kernel_rfl) (aa.cons Tryz.func240 (by kernel_rfl) (aa.cons Tryz.func241 (by kernel_rfl) (aa.cons Tryz.func243 (by kernel_rfl) (aa.cons Tryz.func242 (by kernel_rfl) (aa.cons Tryz.func274 (by kernel_rfl) (aa.cons Tryz.func275 (by kernel_rfl) (aa.cons Tryz.func278 (by kernel_rfl) (aa.cons Tryz.func277 (by kernel_rfl) (aa.cons Tryz.func279 (by kernel_rfl) (aa.cons Tryz.func292 (by kernel_rfl) (aa.nil)))))))))))))))))))))))))))))))))))))))))))))))))))))))))))))))))))))
end Go.AL.Seat
end
section
namespace Go.Proofs
open Go.Shelf
def Tryz.sortf_ren:Go.Shelf.Ren:=⟨fun | 6=>58 | 15=>100 | 14=>99 | 28=>154 | 29=>155 | 20=>146 | 21=>147 | 22=>148 | 23=>149 | 24=>150 | 25=>151 | 26=>152 | 27=>153 | 46=>206 | 47=>207 | 48=>208 | 49=>209 | 50=>210 | 57=>253 | n=>n,fun | 22=>31 | 24=>77 | 25=>89 | 3=>3 | 39=>161 | 0=>0 | 53=>210 | 55=>212 | 4=>4 | 46=>203 | 45=>202 | 50=>207 | 5=>5 | 9=>9 | 66=>247 | 70=>251 | 76=>265 | 77=>197 | n=>n,fun | n=>n⟩
theorem Tryz.sortf:Go.Proofs.SlLaysF0.n6 Tryz.prog Tryz.sortf_ren:={
 mixed:=by kernel_rfl
 f6:=⟨Tryz.f58.name,by decide,Xt Tryz.func58⟩
 f14:=⟨Tryz.f99.name,by decide,Xt Tryz.func99⟩
 f15:=Xt Tryz.func100
 f20:=⟨Tryz.f146.name,by decide,Xt Tryz.func146⟩
 f21:=⟨Tryz.f147.name,by decide,Xt Tryz.func147⟩
 f22:=⟨Tryz.f148.name,by decide,Xt Tryz.func148⟩
 f23:=⟨Tryz.f149.name,by decide,Xt Tryz.func149⟩
 f24:=⟨Tryz.f150.name,by decide,Xt Tryz.func150⟩
 f25:=⟨Tryz.f151.name,by decide,Xt Tryz.func151⟩
 f26:=⟨Tryz.f152.name,by decide,Xt Tryz.func152⟩
 f27:=⟨Tryz.f153.name,by decide,Xt Tryz.func153⟩
 f28:=Xt Tryz.func154
 f29:=Xt Tryz.func155
 f46:=⟨Tryz.f206.name,by decide,Xt Tryz.func206⟩
 f47:=Xt Tryz.func207
 f48:=Xt Tryz.func208
 f49:=⟨Tryz.f209.name,by decide,Xt Tryz.func209⟩
 f50:=⟨Tryz.f210.name,by decide,Xt Tryz.func210⟩
 f57:=⟨Tryz.f253.name,by decide,Xt Tryz.func253⟩
 t0:=Tryz.underlying0
 a0:=Tryz.isAgg0
 z0:=Tryz.sizeOf0
 v0:=Tryz.zeroValue0
 t3:=Tryz.underlying3
 a3:=Tryz.isAgg3
 z3:=Tryz.sizeOf3
 v3:=Tryz.zeroValue3
 t4:=Tryz.underlying4
 a4:=Tryz.isAgg4
 z4:=Tryz.sizeOf4
 v4:=Tryz.zeroValue4
 t5:=Tryz.underlying5
 a5:=Tryz.isAgg5
 z5:=Tryz.sizeOf5
 v5:=Tryz.zeroValue5
 t9:=Tryz.underlying9
 a9:=Tryz.isAgg9
 z9:=Tryz.sizeOf9
 v9:=Tryz.zeroValue9
 t22:=Tryz.underlying31
 a22:=Tryz.isAgg31
 z22:=Tryz.sizeOf31
 v22:=Tryz.zeroValue31
 t25:=Tryz.underlying89
 a25:=Tryz.isAgg89
 z25:=Tryz.sizeOf89
 v25:=Tryz.zeroValue89
 t39:=Tryz.underlying161
 a39:=Tryz.isAgg161
 z39:=Tryz.sizeOf161
 v39:=Tryz.zeroValue161
 t45:=Tryz.underlying202
 a45:=Tryz.isAgg202
 z45:=Tryz.sizeOf202
 v45:=Tryz.zeroValue202
 t46:=Tryz.underlying203
 a46:=Tryz.isAgg203
 z46:=Tryz.sizeOf203
 v46:=Tryz.zeroValue203
 t50:=Tryz.underlying207
 a50:=Tryz.isAgg207
 z50:=Tryz.sizeOf207
 v50:=Tryz.zeroValue207
 t53:=Tryz.underlying210
 a53:=Tryz.isAgg210
 z53:=Tryz.sizeOf210
 v53:=Tryz.zeroValue210
 t55:=Tryz.underlying212
 a55:=Tryz.isAgg212
 z55:=Tryz.sizeOf212
 v55:=Tryz.zeroValue212
 t66:=Tryz.underlying247
 a66:=Tryz.isAgg247
 z66:=Tryz.sizeOf247
 v66:=Tryz.zeroValue247
 t70:=Tryz.underlying251
 a70:=Tryz.isAgg251
 z70:=Tryz.sizeOf251
 v70:=Tryz.zeroValue251
 t76:=Tryz.underlying265
 a76:=Tryz.isAgg265
 z76:=Tryz.sizeOf265
 v76:=Tryz.zeroValue265
 t77:=Tryz.underlying197
 a77:=Tryz.isAgg197
 z77:=Tryz.sizeOf197
 v77:=Tryz.zeroValue197}
end Go.Proofs
end
section
namespace Go.Proofs
open Go.RowKit Go.Shelf Go.AL Go.Sort Go.Pd Go.Lib
set_option maxHeartbeats 4000000
theorem Tryz.isNaN60 (x:ByteArray) (w:World):Calls Tryz.prog 60 #[.string x] w fun e w'=>e=.returned (.bool false)/\w'=w:=by
 go_enter Tryz.func60,Tryz.ntmps60
 go_wp2
 go_ret
 exact ⟨by simp,rfl⟩
theorem jI (t:TypeId) (a b:ByteArray):binOp .gtr t (.string a) (.string b)=pure (.bool !(Op.bytesLess a.toList b.toList || a.toList ==b.toList)):=by simp [binOp,Op.stringOp]
attribute [local go_sem] jI
theorem fG:∀a b:List UInt8,compareBytes a b=if Op.bytesLess a b=true then -1 else if (!(Op.bytesLess a b || a ==b))=true then 1 else 0
 | [],[]=>by simp [compareBytes,Op.bytesLess]
 | [],_ ::_=>by simp [compareBytes,Op.bytesLess]
 | _ ::_,[]=>by simp [compareBytes,Op.bytesLess]
 | a ::r,b ::s=>by
  simp only [compareBytes,Op.bytesLess]
  by_cases h1:a < b
  ·simp [h1]
  ·by_cases h2:b < a
   ·have:a≠b:=fun e=>by subst e;exact h1 h2
    simp [h1,h2,this]
   ·have:a=b:=UInt8.le_antisymm (UInt8.not_lt.1 h2) (UInt8.not_lt.1 h1)
    subst this
    simp only [h1,if_false,fG r s]
    simp
theorem Tryz.cmp31 (x y:ByteArray) (w:World):Calls Tryz.prog 31 #[.string x,.string y] w fun e w'=>e=.returned (.int .i64 (compareBytes x.data.toList y.data.toList))/\w'=w:=by
 have e0:=fG x.toList y.toList
 rw [Lib.toList_data,Lib.toList_data] at e0
 go_enter Tryz.func31,Tryz.ntmps31
 go_wp2_with (go_at_call 60;refine (Tryz.isNaN60 _ _).mono ?_;rintro e w' ⟨rfl,rfl⟩)
 all_goals (go_ret;refine ⟨?_,rfl⟩;simp_all [Lib.toList_data])
theorem Tryz.or30 (b o:Nat) (x y r:Int) (w:World) (hr:(if x=0 then y else x)=r) (h0:w.cell? ⟨b,o,none⟩=some (.int .i64 x)) (h1:w.cell? ⟨b,o+1,none⟩=some (.int .i64 y)) :
  Calls Tryz.prog 30 #[.slice (some ⟨b,o,none⟩) 2 2] w fun e w'=>e=.returned (.int .i64 r)/\w'=w:=by
 subst hr
 go_enter Tryz.func30,Tryz.ntmps30
 go_wp2
 go_rounds 3
 all_goals (go_ret;simp_all)
theorem zE (w:World) (A B C:Obj):(((w.alloc A).alloc B).alloc C).drew=grow (w.drewN 1) #[A,B,C]:=by
 rw [alloc_eq_grow,alloc_eq_grow,alloc_eq_grow,grow_grow,grow_grow];rfl
theorem Tryz.cmp29 (a1 a2 b1 b2:ByteArray) (r:Int) (hr0:(if compareBytes a1.data.toList b1.data.toList=0 then compareBytes a2.data.toList b2.data.toList else compareBytes a1.data.toList b1.data.toList)=r) (w:World) :
  Calls Tryz.prog 29 #[.agg #[.string a1,.string a2],.agg #[.string b1,.string b2]] w fun e w'=>e=.returned (.int .i64 r)/\∃q os',w'=grow (w.drewN q) os':=by
 go_enter Tryz.func29,Tryz.ntmps29
 go_wp2
 obtain ⟨W,hW⟩:∃W,(w.alloc (.cells #[.string a1,.string a2] 77)).alloc (.cells #[.string b1,.string b2] 77)=W:=⟨_,rfl⟩
 have h1:W.cell? ⟨w.heap.size,0,none⟩=some (.string a1):=by rw [←hW];simp [go_sem]
 have h2:W.cell? ⟨w.heap.size,1,none⟩=some (.string a2):=by rw [←hW];simp [go_sem]
 have h3:W.cell? ⟨w.heap.size+1,0,none⟩=some (.string b1):=by rw [←hW];simp [go_sem]
 have h4:W.cell? ⟨w.heap.size+1,1,none⟩=some (.string b2):=by rw [←hW];simp [go_sem]
 rw [hW]
 obtain ⟨u,hu⟩:∃u,compareBytes a1.data.toList b1.data.toList=u:=⟨_,rfl⟩
 obtain ⟨v,hv⟩:=(⟨_,rfl⟩:∃v,compareBytes a2.data.toList b2.data.toList=v)
 have hr:(if u=0 then v else u)=r:=by rw [←hu,←hv];exact hr0
 clear hr0
 go_region_held3 (fun w'=>w'.cell? ⟨w.heap.size,0,none⟩=some (.string a1)/\w'.cell? ⟨w.heap.size,1,none⟩=some (.string a2)/\w'.cell? ⟨w.heap.size+1,0,none⟩=some (.string b1)/\w'.cell? ⟨w.heap.size+1,1,none⟩=some (.string b2)) (go_keep)
  (first | (go_at_call 31;refine (Tryz.cmp31 _ _ _).mono ?_;rintro e w' ⟨rfl,rfl⟩) | (go_at_call 30;refine (Tryz.or30 W.heap.size 0 u v r _ hr (by show (W.alloc _).cell? ⟨W.heap.size,0,none⟩=_;simp [go_sem]) (by show (W.alloc _).cell? ⟨W.heap.size,0+1,none⟩=_;simp [go_sem])).mono ?_;rintro e w' ⟨rfl,rfl⟩))
 go_wp2
 go_ret
 subst hW
 exact ⟨rfl,1,_,zE _ _ _ _⟩
def cfU (x y:Nam):Int:=if compareBytes x.pkg y.pkg=0 then compareBytes x.name y.name else compareBytes x.pkg y.pkg
def iV (x:Nam):List Value:=[.string ⟨x.pkg.toArray⟩,.string ⟨x.name.toArray⟩]
theorem Tryz.cmpLays (blk off size:Nat) (w:World):CmpLays Tryz.prog 29 #[] iV 2 cfU blk off size w:=fun m os dk _ x y=>
 Tryz.cmp29 ⟨x.pkg.toArray⟩ ⟨x.name.toArray⟩ ⟨y.pkg.toArray⟩ ⟨y.name.toArray⟩ _ rfl _
theorem fH:∀{a b:List UInt8},compareBytes a b=0→a=b
 | [],[],_=>rfl
 | [],_ ::_,h=>by simp [compareBytes] at h
 | _ ::_,[],h=>by simp [compareBytes] at h
 | a ::r,b ::s,h=>by
  simp only [compareBytes] at h
  by_cases h1:a < b
  ·simp [h1] at h
  ·by_cases h2:b < a
   ·simp [h1,h2] at h
   ·have:a=b:=UInt8.le_antisymm (UInt8.not_lt.1 h2) (UInt8.not_lt.1 h1)
    subst this
    simp only [h1,if_false] at h
    rw [fH h]
theorem jJ (a:List UInt8):compareBytes a a=0:=by
 induction a with
 | nil=>rfl
 | cons x r ih=>simp [compareBytes,UInt8.lt_irrefl,ih]
variable [Tabs]
theorem jK (x y:Nam):ltOf cfU x y=ltU x y:=by
 unfold ltOf cfU ltU
 by_cases h:compareBytes x.pkg y.pkg=0
 ·have e:=fH h
  rw [if_pos h,eI,e]
  simp [List.lt_irrefl]
 ·have e:x.pkg≠y.pkg:=fun q=>h (by rw [q];exact jJ _)
  rw [if_neg h,eI]
  simp [e]
theorem swoU:SWO (ltOf cfU):=by
 refine ⟨fun x=>by rw [jK,gE],fun x y z h k=>?_,fun x y z h k=>?_⟩
 ·rw [jK] at *;exact ku h k
 ·rw [jK] at *
  rcases Bool.eq_false_or_eq_true (ltU x z) with q | q
  ·rcases jE x y with t | t | t
   ·rw [t] at h;cases h
   ·subst t;rw [q] at k;cases k
   ·rw [ku t q] at k;cases k
  ·exact q
end Go.Proofs
end
section
namespace Go.Proofs
open Go.RowKit Go.Shelf Go.AL Go.Maps Go.ChangeMaps
variable [Tabs]
attribute [local go_sem] Oper.semAt_some
set_option maxHeartbeats 4000000
def kC (x:Nam):Value:=.agg #[.string ⟨x.pkg.toArray⟩,.string ⟨x.name.toArray⟩]
structure KeysU (es:Array MapEntry) (clock:Nat) (ks:List Nam):Prop where
 size:es.size=ks.length
 key:∀(i:Nat) (e:MapEntry) (k:Nam),es[i]?=some e→ks[i]?=some k→e.key=kC k
 idx:∀(i:Nat) (e:MapEntry),es[i]?=some e→e.born=i
 top:clock=es.size
theorem KeysU.old {es:Array MapEntry} {clock:Nat} {ks:List Nam} (h:KeysU es clock ks):∀x∈es.toList,x.born < clock:=fun x hx=>by
 obtain ⟨i,hi,rfl⟩:=List.getElem_of_mem hx
 have hi':i < es.size:=by simpa using hi
 have:=h.idx i es[i] (Array.getElem?_eq_getElem hi')
 rw [Array.getElem_toList,this,h.top];exact hi'
theorem KeysU.nodup {es:Array MapEntry} {clock:Nat} {ks:List Nam} (h:KeysU es clock ks):(es.toList.map (·.born)).Nodup:=by
 rw [List.nodup_iff_pairwise_ne,List.pairwise_map,List.pairwise_iff_getElem]
 intro i j hi hj hij e
 have hi':i < es.size:=by simpa using hi
 have hj':j < es.size:=by simpa using hj
 have a:=h.idx i es[i] (Array.getElem?_eq_getElem hi')
 have b:=h.idx j es[j] (Array.getElem?_eq_getElem hj')
 simp only [Array.getElem_toList] at e
 omega
def fI (ks:List Nam) (i:Nat):Nam:=ks.getD i default
def yB (bm r:Nat) (w:World):Nat:=
 match w.heap[bm]?,w.heap[r]? with
 | some (.map es _),some (.mapIter _ _ seen _)=>(leftOf es seen).size
 | _,_=>0
theorem KeysU.done {es:Array MapEntry} {clock:Nat} {ks:List Nam} (h:KeysU es clock ks) {seen:Array Nat} (hn:seen.toList.Nodup) (hb:∀i∈seen.toList,i < ks.length) (h0:(leftOf es seen).size=0) :
  (seen.toList.map (fI ks)).Perm ks:=by
 have all:∀i,i < ks.length→i∈seen.toList:=fun i hi=>by
  have hi':i < es.size:=by rw [h.size];exact hi
  rcases Bool.eq_false_or_eq_true (seen.contains i) with q | q
  ·simpa using q
  ·have hm:es[i]∈(leftOf es seen).toList:=by
    unfold leftOf
    simp only [Array.toList_filter,List.mem_filter]
    refine ⟨by simp,?_⟩
    rw [h.idx i es[i] (Array.getElem?_eq_getElem hi'),q];rfl
   rw [←Array.length_toList] at h0
   rw [List.length_eq_zero_iff.1 h0] at hm
   cases hm
 have hp:seen.toList.Perm (List.range ks.length):=
  (List.perm_ext_iff_of_nodup hn List.nodup_range).2 fun i=>⟨fun q=>List.mem_range.2 (hb i q),fun q=>all i (List.mem_range.1 q)⟩
 have e:(List.range ks.length).map (fI ks)=ks:=by
  apply List.ext_getElem
  ·simp
  ·intro i h1 h2
   simp [fI,List.getD_eq_getElem?_getD,List.getElem?_eq_getElem h2]
 have:=hp.map (fI ks)
 rw [e] at this
 exact this
structure StepU (bm r clock:Nat) (es:Array MapEntry) (seen:Array Nat) (w:World) (e:MapEntry) (w2:World):Prop where
 mem:e∈(leftOf es seen).toList
 it:w2.heap[r]?=some (.mapIter (some bm) clock (seen.push e.born) clock)
 grown:w.grownBy w2 (some r)
structure DoneU (es:Array MapEntry) (seen:Array Nat):Prop where
 none:(leftOf es seen).size=0
theorem lenU:∀(n:Nat) (l:List Nat),l.Nodup→(∀i∈l,i < n)→l.length<=n
 | 0,l,_,h=>by
  cases l with
  | nil=>exact Nat.le_refl _
  | cons a r=>have:=h a (by simp);omega
 | n+1,l,hn,h=>by
  have h1:=lenU n (l.erase n) (hn.erase n) (fun i hi=>by
   rw [hn.erase_eq_filter,List.mem_filter] at hi
   have:=h i hi.1
   have h2:i≠n:=by simpa using hi.2
   omega)
  by_cases hm:n∈l
  ·rw [List.length_erase_of_mem hm] at h1;omega
  ·rw [List.erase_of_not_mem hm] at h1;omega
section
variable {F:Fence} {n:Nat} {P:Program} {ops:Array Oper} {Q:Exit→Act→World→Prop} {o:Oper} {rest:List Oper} {a:Act} (w:World)
theorem kD (hg:o.guard=none) (m:Operand) (t:TypeId) (hop:o.op=Op.range t m) (k e:TypeId) (ht:P.underlying t=some (.map k e)) (b:Nat) (es:Array MapEntry) (clock:Nat)
  (hm:a.eval m=.map (some b)) (hb:w.heap[b]?=some (.map es clock))
  (hK:wpListIn F n P ops Q rest (a.put o.dst (.pointer (some ⟨w.heap.size,0,none⟩))) (w.alloc (.mapIter (some b) clock #[] clock))) :
  wpListIn F n P ops Q (o ::rest) a w:=by
 refine wpListIn_plain hg fun K' hK'=>?_
 have hrun:=run_range_map (P:=P) w t k e b es clock ht hb
 unfold Oper.wpIn
 refine ⟨?_,?_⟩
 ·simp [Oper.about,hop]
 ·rw [Oper.semAt_plain F _ _ (by rw [hop];intro c hc';cases hc')]
  simp [execOp,hop,hm,hrun,Result.andThen]
  exact hK' _ _ hK
theorem lf (hg:o.guard=none) (it:Operand) (hop:o.op=Op.next it false) (r bm clock c0:Nat) (seen:Array Nat) (es:Array MapEntry)
  (hit:a.eval it=.pointer (some ⟨r,0,none⟩)) (hr:w.heap[r]?=some (.mapIter (some bm) clock seen c0)) (hb:w.heap[bm]?=some (.map es clock)) (hold:∀x∈es.toList,x.born < clock) (hsc:clock<=c0)
  (hDone:DoneU es seen→wpListIn F n P ops Q rest (a.put o.dst (.tuple #[.bool false])) w)
  (hMore:∀(e:MapEntry) (w2:World),StepU bm r clock es seen w e w2→wpListIn F n P ops Q rest (a.put o.dst (.tuple #[.bool true,e.key,e.val])) w2) :
  wpListIn F n P ops Q (o ::rest) a w:=by
 refine wpListIn_plain hg fun K' hK'=>?_
 unfold Oper.wpIn
 refine ⟨by simp [Oper.about,hop],?_⟩
 rw [Oper.semAt_plain F _ _ (by rw [hop];intro c hc';cases hc')]
 rcases run_next_at (P:=P) w o.type r bm clock c0 seen es clock hr hb hold hsc with ⟨h0,hrun⟩ | ⟨e,he,w1,hw1,hrun⟩
 ·simp [execOp,hop,hit,hrun,Result.andThen]
  exact hK' _ _ (hDone ⟨h0⟩)
 ·simp [execOp,hop,hit,hrun,Result.andThen]
  have hrl:r < w.heap.size:=by
   rcases Nat.lt_or_ge r w.heap.size with h | h
   ·exact h
   ·rw [Array.getElem?_eq_none h] at hr;cases hr
  have hh:w1.heap=w.heap:=by rcases hw1 with rfl | rfl <;> rfl
  refine hK' _ _ (hMore e _ ⟨he,?_,?_⟩)
  ·show (w1.heap.setIfInBounds r _)[r]?=_
   rw [hh];simp [hrl]
  ·refine ⟨?_,?_,?_,?_,fun k hk hne=>?_⟩
   ·rcases hw1 with rfl | rfl <;> rfl
   ·rcases hw1 with rfl | rfl <;> rfl
   ·rcases hw1 with rfl | rfl <;> rfl
   ·show _<=(w1.heap.setIfInBounds r _).size
    rw [hh];simp
   ·show (w1.heap.setIfInBounds r _)[k]?=_
    rw [hh,Array.getElem?_setIfInBounds_ne (fun e=>hne (by rw [e]))]
end
theorem Tryz.ukeys1 (F:Fence) (n:Nat) (h59:F.fn 59) (hro:F.round=none) (hn:1<=n) (l Bm off bm:Nat) (es:Array MapEntry) (clock:Nat) (ks:List Nam) (hK:KeysU es clock ks) (J:List Nam→World→Prop)
  (hY:∀pre x W,J pre W→pre.length < ks.length→YieldAt F (n - 1) Tryz.prog l #[kC x] W fun e W'=>e=.returned (.bool true)/\J (pre++[x]) W'/\KeepsWalks W W')
  (W:World) (hJ:AbidesFrom W.heap.size J) (hm:W.cell? ⟨Bm,off,none⟩=some (.map (some bm))) (hb:W.heap[bm]?=some (.map es clock)) (h0:J [] W) :
  CallsIn F n Tryz.prog 59 #[.func (.yield l) #[] #[],.pointer (some ⟨Bm,off,none⟩)] W fun e W'=>(∃v,e=.returned v)/\∃ss:List Nam,ss.Perm ks/\J ss W':=by
 have hbm:bm < W.heap.size:=by
  rcases Nat.lt_or_ge bm W.heap.size with h | h
  ·exact h
  ·rw [Array.getElem?_eq_none h] at hb;cases hb
 refine callsIn_of_wp Tryz.func59 rfl h59 ?_ hro
 simp only [Tryz.ntmps59,List.size_toArray,List.length_cons,List.length_nil,Nat.reduceAdd,Nat.reduceSub,Array.replicate_succ,Array.replicate_zero,List.push_toArray,List.append_toArray,List.nil_append,List.cons_append]
 gi_wp2_with (first
  | (gi_at_range;refine kD _ rfl _ 80 rfl 77 3 Tryz.underlying80 bm es clock rfl hb ?_)
  | gi_in)
 go_frame
 gi_loopw [3] (fun _ wr=>∃(seen:Array Nat) (c0:Nat),wr.heap[W.heap.size]?=some (.mapIter (some bm) clock seen c0)/\clock<=c0/\wr.heap[bm]?=some (.map es clock)/\seen.toList.Nodup/\(∀i∈seen.toList,i < ks.length)/\J (seen.toList.map (fI ks)) wr)
  (fun _ wr=>yB bm W.heap.size wr)
 case atStart=>
  refine ⟨#[],clock,heap_alloc_new _ _,Nat.le_refl _,(heap_alloc_old _ _ hbm).trans hb,List.nodup_nil,by simp,hJ [] W _ none h0 (World.grownBy_alloc W _ none) (fun r e=>by cases e)⟩
 case round=>
  obtain ⟨seen,c0,hit,hc0,hbw,hnd,hlt,hJs⟩:=hrel
  gi_wp2_with (first
   | (gi_at_next;refine lf _ rfl _ rfl W.heap.size bm clock c0 seen es rfl hit hbw hK.old hc0 ?_ ?_)
   | gi_in)
  ·
   intro hl0
   gi_wp2
   go_end0
   exact ⟨⟨_,rfl⟩,_,hK.done hnd hlt hl0.none,hJs⟩
  ·
   intro e w2 hs
   have hes:e∈es.toList:=by
    have:=hs.mem
    unfold leftOf at this
    simp only [Array.toList_filter,List.mem_filter] at this
    exact this.1
   have hns:e.born∉seen.toList:=by
    have:=hs.mem
    unfold leftOf at this
    simp only [Array.toList_filter,List.mem_filter] at this
    simpa using this.2
   obtain ⟨i,hi,hei⟩:=List.getElem_of_mem hes
   have hi':i < es.size:=by simpa using hi
   have hei':es[i]?=some e:=by rw [←hei];simp [hi']
   have hbi:e.born=i:=hK.idx i e hei'
   have hik:i < ks.length:=by rw [←hK.size];exact hi'
   have hpk:ks[i]?=some (fI ks i):=by simp [fI,List.getD_eq_getElem?_getD,List.getElem?_eq_getElem hik]
   have hkey:e.key=kC (fI ks i):=hK.key i e _ hei' hpk
   have hm2:w2.heap[bm]?=some (.map es clock):=by
    rw [hs.grown.block bm ?_ ?_];exact hbw
    ·rcases Nat.lt_or_ge bm wr.heap.size with h | h
     ·exact h
     ·rw [Array.getElem?_eq_none h] at hbw;cases hbw
    ·intro e;cases e;omega
   have hen:=run_entry_at (P:=Tryz.prog) w2 W.heap.size bm clock seen es clock e hs.it hm2 hes hK.nodup
   have hlen:(seen.toList.map (fI ks)).length < ks.length:=by
    have:=lenU ks.length (i ::seen.toList) (List.nodup_cons.2 ⟨by rw [←hbi];exact hns,hnd⟩) (fun j hj=>by
     rcases List.mem_cons.1 hj with rfl | hj
     ·exact hik
     ·exact hlt j hj)
    rw [List.length_map]
    rw [List.length_cons] at this
    exact this
   have hJ2:J (seen.toList.map (fI ks)) w2:=hJ _ wr w2 (some W.heap.size) hJs hs.grown (fun r e=>by cases e;exact ⟨Nat.le_refl _,_,hit,rfl⟩)
   have hJ3:J (seen.toList.map (fI ks)) (w2.alloc (.cells #[.string ⟨(fI ks i).pkg.toArray⟩,.string ⟨(fI ks i).name.toArray⟩] 77)):=hJ _ w2 _ none hJ2 (World.grownBy_alloc w2 _ none) (fun r e=>by cases e)
   obtain ⟨fn,tmps,assign,body,hy,hR⟩:=hY _ (fI ks i) _ hJ3 hlen
   have hi2:=hs.it
   have hmem:=hs.mem
   clear hs hJ2 hJ3
   rw [hkey] at hen ⊢
   unfold kC at hen hy ⊢
   gi_wp2
   refine hR.mono ?_
   rintro e' W3 ⟨rfl,hJ4,hk3⟩
   gi_wp2
   have q1:W3.heap[W.heap.size]?=some (.mapIter (some bm) clock (seen.push e.born) clock):=hk3.same _ _ ((heap_alloc_old _ _ (Array.getElem?_eq_some_iff.1 hi2).1).trans hi2) rfl
   have q2:W3.heap[bm]?=some (.map es clock):=hk3.same _ _ ((heap_alloc_old _ _ (Array.getElem?_eq_some_iff.1 hm2).1).trans hm2) rfl
   go_roundw
   case rel=>
    refine ⟨_,clock,q1,Nat.le_refl _,q2,?_,?_,?_⟩
    ·rw [Array.toList_push]
     exact List.nodup_append.2 ⟨hnd,by simp,fun a ha b hb e=>by simp at hb;subst hb;exact hns (e ▸ ha)⟩
    ·intro j hj
     rw [Array.toList_push,List.mem_append,List.mem_singleton] at hj
     rcases hj with hj | rfl
     ·exact hlt j hj
     ·omega
    ·rw [Array.toList_push,List.map_append,List.map_singleton,hbi];exact hJ4
   case measure=>
    unfold yB
    rw [q1,q2,hit,hbw]
    exact oC hmem
theorem Tryz.ukeys (F:Fence) (n:Nat) (h59:F.fn 59) (hro:F.round=none) (hn:1<=n) (Bm off bm:Nat) (es:Array MapEntry) (clock:Nat) (ks:List Nam) (hK:KeysU es clock ks) (w:World) (hm:w.cell? ⟨Bm,off,none⟩=some (.map (some bm))) (hb:w.heap[bm]?=some (.map es clock)) :
  SeqGives F n Tryz.prog 59 #[.pointer (some ⟨Bm,off,none⟩)] kC (fun ss=>ss.Perm ks) ks.length w:=fun l J W hW hJ hY h0=>by
 have hbm:bm < w.heap.size:=by
  rcases Nat.lt_or_ge bm w.heap.size with h | h
  ·exact h
  ·rw [Array.getElem?_eq_none h] at hb;cases hb
 exact Tryz.ukeys1 F n h59 hro hn l Bm off bm es clock ks hK J hY W hJ ((hW.cell (p:=⟨Bm,off,none⟩) (aC hm)).trans hm) ((hW.block bm hbm).trans hb) h0
end Go.Proofs
end
section
namespace Go.Proofs
open Go.RowKit Go.Shelf Go.AL Go.Maps
variable [Tabs]
attribute [local go_sem] Oper.semAt_some
set_option maxHeartbeats 4000000
def gH (x:Nam):List Value:=[.string ⟨x.pkg.toArray⟩,.string ⟨x.name.toArray⟩]
def fJ (ss:List Nam):List Value:=ss.flatMap gH
theorem vC (ss:List Nam) (x:Nam):fJ (ss++[x])=fJ ss++gH x:=by simp [fJ]
theorem qb (w:World) (x y:Value) (t:TypeId):∀j u,[x,y][j]?=some u→(w.alloc (.cells #[x,y] t)).cell? ((⟨w.heap.size,0,none⟩:Addr).add j)=some u:=by
 intro j u hj
 have hn:(w.alloc (.cells #[x,y] t)).heap[w.heap.size]?=some (.cells #[x,y] t (0,0)):=World.alloc_heap_new w _
 match j,hj with
 | 0,hj=>cases hj;show (w.alloc _).cell? ⟨w.heap.size,0,none⟩=_;rw [ae hn];rfl
 | 1,hj=>cases hj;show (w.alloc _).cell? ⟨w.heap.size,1,none⟩=_;rw [ae hn];rfl
 | j+2,hj=>simp at hj
theorem Tryz.infoU:(Tryz.prog.info? 77).map (fun i=>(i.zero,i.size,i.bytes))=some (some (.agg #[.string ⟨#[]⟩,.string ⟨#[]⟩]),2,32):=by kernel_rfl
def kE:Code:=(Code.region 2 #[{dst:=some 5,op:=Op.alloc 77,type:=0,pos:= "iter.go:51",after:=#[],guard:=none},{dst:=none,op:=Op.store 77 (Operand.tmp 5) (Operand.tmp 7),type:=0,pos:= "iter.go:51",after:=#[{on:=0,ground:=Ground.data},{on:=0,ground:=Ground.phase}],guard:=none}] false)
def qc:Code:=(Code.block 1 (Code.region 3 #[{dst:=some 8,op:=Op.load 31 (Operand.tmp 2),type:=31,pos:= "iter.go:52",after:=#[],guard:=none},{dst:=some 9,op:=Op.load 77 (Operand.tmp 5),type:=77,pos:= "iter.go:52",after:=#[],guard:=none},{dst:=some 10,op:=Op.buildSlice 31 1 #[(0,Operand.tmp 9)],type:=31,pos:= "iter.go:52",after:=#[{on:=1,ground:=Ground.data}],guard:=none},{dst:=some 11,op:=Op.call {callee:=Callee.builtin Builtin.append,args:=#[Operand.tmp 8,Operand.tmp 10],argTypes:=#[31,31]},type:=31,pos:= "iter.go:52",after:=#[{on:=0,ground:=Ground.data},{on:=2,ground:=Ground.data}],guard:=none},{dst:=none,op:=Op.store 31 (Operand.tmp 2) (Operand.tmp 11),type:=0,pos:= "iter.go:52",after:=#[{on:=3,ground:=Ground.data},{on:=3,ground:=Ground.chain},{on:=0,ground:=Ground.phase},{on:=1,ground:=Ground.phase},{on:=2,ground:=Ground.phase},{on:=3,ground:=Ground.phase}],guard:=none}] false))
def eK (fn:FuncId) (sv:Value) (Bs D:Nat) (st:LoopState) (pend:Option Code):Loop:=
 {state:=st,pending:=pend,fn,tmps:=#[.slice none 0 0,sv,.pointer (some ⟨Bs,0,none⟩),undef,.slice none 0 0,undef,sv,undef,undef,undef,undef,undef,undef],params:=#[7],assign:=kE,body:=qc,defers:=D}
structure UApAt (w0:World) (fn:FuncId) (sv:Value) (Bs l D:Nat) (ss:List Nam) (W:World):Prop where
 box:∃v,W.heap[Bs]?=some (.cells #[v] 31 (0,0))/\W.ownsRow w0.heap.size 77 2 v ss.length (fJ ss)/\(v=.slice none 0 0↔ss=[])
 L:W.heap[l]?=some (.loop (eK fn sv Bs D .ready none))
 K:W.heap[D]?=some (.deferred (some []))
 below:Below w0.heap.size w0 W
theorem tv (w0:World) (fn:FuncId) (sv:Value) (Bs l D B:Nat) (hB:w0.heap.size<=B):AbidesFrom B (UApAt w0 fn sv Bs l D):=fun s W W' row h hg hrow=>by
 have hrow':∀r,row=some r→∃o:Obj,W.heap[r]?=some o/\o.isWalk=true:=fun r e=>(hrow r e).2
 obtain ⟨v,hv,hr,hn⟩:=h.box
 exact ⟨⟨v,(grownBy_keeps hg hrow' hv rfl).trans hv,ownsRow_abides_a hr hg hrow',hn⟩,(grownBy_keeps hg hrow' h.L rfl).trans h.L,(grownBy_keeps hg hrow' h.K rfl).trans h.K,
  h.below.grown hg h.below.size (fun k e=>Nat.le_trans hB (hrow k e).1)⟩
theorem Tryz.uapYield (F:Fence) (m:Nat) (w0:World) (fn:FuncId) (hfn:F.fn fn) (sv:Value) (Bs l D:Nat) (hBl:Bs≠l) (hDl:D≠l) (hDB:D≠Bs) (h0B:w0.heap.size<=Bs) (h0l:w0.heap.size<=l)
  (N:Nat) (hN:N<=maxLen) (hNb:N *32<=140737488355328) (ss:List Nam) (x:Nam) (W:World) (h:UApAt w0 fn sv Bs l D ss W) (hlen:ss.length < N) :
  YieldAt F m Tryz.prog l #[kC x] W fun e W'=>e=.returned (.bool true)/\UApAt w0 fn sv Bs l D (ss++[x]) W'/\KeepsWalks W W':=by
 have hne:(31:Nat)≠77:=by decide
 obtain ⟨i0,hi,hz0,hz1,hz2⟩:=info_parts Tryz.infoU
 refine ⟨fn,#[.slice none 0 0,sv,.pointer (some ⟨Bs,0,none⟩),undef,.slice none 0 0,undef,sv,kC x,undef,undef,undef,undef,undef],kE,qc,by simpa [eK] using run_yield (P:=Tryz.prog) (args:=#[kC x]) h.L rfl,roundIn_of_wpIn hfn ?_⟩
 obtain ⟨Wa,hWa⟩:∃Wa,W.alloc (.cells #[.string ⟨x.pkg.toArray⟩,.string ⟨x.name.toArray⟩] 77)=Wa:=⟨_,rfl⟩
 have hga:W.grownBy Wa none:=by rw [←hWa];exact World.grownBy_alloc _ _ none
 have hka:KeepsWalks W Wa:=by rw [←hWa];exact KeepsWalks.alloc _ _
 have hL:Wa.heap[l]?=some (.loop (eK fn sv Bs D .ready none)):=(hga.block l (Array.getElem?_eq_some_iff.1 h.L).1 (by simp)).trans h.L
 have hK:Wa.heap[D]?=some (.deferred (some [])):=(hga.block D (Array.getElem?_eq_some_iff.1 h.K).1 (by simp)).trans h.K
 have h5:Wa.heap[W.heap.size]?=some (.cells #[.string ⟨x.pkg.toArray⟩,.string ⟨x.name.toArray⟩] 77 (0,0)):=by rw [←hWa];exact World.alloc_heap_new _ _
 have hbw:Below w0.heap.size w0 Wa:=h.below.grown hga h.below.size (fun k e=>by cases e)
 obtain ⟨v,hv0,hrow0,_⟩:=h.box
 have hv:Wa.heap[Bs]?=some (.cells #[v] 31 (0,0)):=(hga.block Bs (Array.getElem?_eq_some_iff.1 hv0).1 (by simp)).trans hv0
 have hrow:Wa.ownsRow w0.heap.size 77 2 v ss.length (fJ ss):=hrow0.kept hga (Classical.em _)
 have hlW:l < W.heap.size:=(Array.getElem?_eq_some_iff.1 h.L).1
 have hl:l < Wa.heap.size:=(Array.getElem?_eq_some_iff.1 hL).1
 have hbr:=run_beginRound (P:=Tryz.prog) hL rfl
 obtain ⟨W2,hW2⟩:∃W2,Wa.putObj l (.loop {eK fn sv Bs D .ready none with state:=.busy})=W2:=⟨_,rfl⟩
 rw [hW2] at hbr
 have hg2:Wa.grownBy W2 (some l):=by rw [←hW2];exact grownBy_putObj_a _ _ _
 have hk2:KeepsWalks W W2:=hka.trans (by rw [←hW2];exact KeepsWalks.putObj _ hL rfl)
 have hv2:W2.heap[Bs]?=some (.cells #[v] 31 (0,0)):=by rw [←hW2];exact (World.putObj_heap_other hBl).trans hv
 have hK2:W2.heap[D]?=some (.deferred (some [])):=by rw [←hW2];exact (World.putObj_heap_other hDl).trans hK
 have hL2:W2.heap[l]?=some (.loop {eK fn sv Bs D .ready none with state:=.busy}):=by rw [←hW2];exact World.putObj_heap_same hl
 have hrow2:W2.ownsRow w0.heap.size 77 2 v ss.length (fJ ss):=hrow.kept hg2 (ownsRow_ne_a hrow hL (fun cur e=>by first | cases e | exact hne (Obj.cells.inj e).2.1))
 have hb2:Below w0.heap.size w0 W2:=hbw.grown hg2 hbw.size (fun k e=>by cases e;exact h0l)
 have h52:W2.heap[W.heap.size]?=some (.cells #[.string ⟨x.pkg.toArray⟩,.string ⟨x.name.toArray⟩] 77 (0,0)):=by rw [←hW2];exact (World.putObj_heap_other (by omega)).trans h5
 have hc5:W2.cell? ⟨W.heap.size,0,none⟩=some (.string ⟨x.pkg.toArray⟩):=by simp [World.cell?,h52]
 have hc6:W2.cell? ⟨W.heap.size,1,none⟩=some (.string ⟨x.name.toArray⟩):=by simp [World.cell?,h52]
 obtain ⟨hc2,hf2⟩:=cell_of_box_a hv2
 have hBlt:Bs < W2.heap.size:=(Array.getElem?_eq_some_iff.1 hv2).1
 have hl2:l < W2.heap.size:=(Array.getElem?_eq_some_iff.1 hL2).1
 have hDlt:D < W2.heap.size:=(Array.getElem?_eq_some_iff.1 hK2).1
 have ne_of:∀{j:Nat} {o:Obj},W2.heap[j]?=some o→(∀cur,o≠.cells cur 77 (0,0))→some j≠v.ownBlock:=fun hj hno=>by
  rcases ownsRow_ne_a hrow2 hj hno with e | e
  ·rw [e];simp
  ·exact fun e'=>e e'.symm
 clear hW2
 unfold kE kC
 gi_wp2_with gi_round_op_a
 unfold qc
 gi_wp2_with (first
  | (gi_at_builtin;refine wpListIn_append_own _ rfl _ _ 31 rfl w0.heap.size 77 i0 (.agg #[.string ⟨#[]⟩,.string ⟨#[]⟩]) 2 32 Tryz.underlying31 hi hz0 hz1 hz2 rfl (by decide) _ _ _ rfl (hrow2.alloc _) ⟨W2.heap.size,0,none⟩ 1 1 (gH x) rfl rfl (qb _ _ _ _) (by simp [Value.oneCell',gH]) (by omega) (by omega) (by have:=hb2.size;simp;omega) ?_;intro v' w3 hown' hg3 hnil3;have hv3:w3.heap[Bs]?=some (.cells #[v] 31 (0,0)):=(hg3.block Bs (by simp;omega) (ne_of hv2 (fun cur e=>by first | cases e | exact hne (Obj.cells.inj e).2.1))).trans ((Below.heap_alloc _ _ Bs hBlt).trans hv2);obtain ⟨hc3,hf3⟩:=cell_of_box_a hv3;obtain ⟨g',cap',cur',rfl,hbase',hgb',hr1,hr2,hr3,hr4⟩:∃g' cap' cur',v'=.slice (some ⟨g',0,none⟩) (ss.length+1) cap'/\w0.heap.size<=g'/\w3.heap[g']?=some (.cells cur' 77 (0,0))/\ss.length+1<=cap'/\cap'<=maxLen/\cur'.size=cap' *2/\cur'.toList.take ((ss.length+1) *2)=fJ ss++gH x:=hown'.2.elim (fun q=>absurd q.2 (by omega)) id;go_frame)
  | gi_round_op_a)
 have hg3':(W2.alloc (.cells #[.string ⟨x.pkg.toArray⟩,.string ⟨x.name.toArray⟩] 77)).grownBy w3 v.ownBlock:=hg3
 have hL3:w3.heap[l]?=some (.loop {eK fn sv Bs D .ready none with state:=.busy}):=(hg3'.block l (by simp;omega) (ne_of hL2 (fun cur e=>by first | cases e | exact hne (Obj.cells.inj e).2.1))).trans ((Below.heap_alloc _ _ l hl2).trans hL2)
 have hK3:w3.heap[D]?=some (.deferred (some [])):=(hg3'.block D (by simp;omega) (ne_of hK2 (fun cur e=>by first | cases e | exact hne (Obj.cells.inj e).2.1))).trans ((Below.heap_alloc _ _ D hDlt).trans hK2)
 obtain ⟨w4,hw4⟩:∃w4,w3.setCell ⟨Bs,0,none⟩ (.slice (some ⟨g',0,none⟩) (ss.length+1) cap')=w4:=⟨_,rfl⟩
 rw [hw4]
 have hg4:w3.grownBy w4 (some Bs):=by rw [←hw4];exact grownBy_setCell0_a _ _ _
 have hv4:w4.heap[Bs]?=some (.cells #[.slice (some ⟨g',0,none⟩) (ss.length+1) cap'] 31 (0,0)):=by rw [←hw4];exact heap_setCell_box_a _ hv3
 have hL4:w4.heap[l]?=some (.loop {eK fn sv Bs D .ready none with state:=.busy}):=(hg4.block l (Array.getElem?_eq_some_iff.1 hL3).1 (fun e=>hBl (by cases e;rfl))).trans hL3
 have hK4:w4.heap[D]?=some (.deferred (some [])):=(hg4.block D (Array.getElem?_eq_some_iff.1 hK3).1 (fun e=>hDB (by cases e;rfl))).trans hK3
 have hrow4:=hown'.kept hg4 (ownsRow_ne_a hown' hv3 (fun cur e=>by first | cases e | exact hne (Obj.cells.inj e).2.1))
 have hl4:l < w4.heap.size:=(Array.getElem?_eq_some_iff.1 hL4).1
 have hb3:Below w0.heap.size w0 w3:=(hb2.alloc hb2.size _).grown hg3' (by have:=hb2.size;simp;omega) (fun k e=>(hrow2.lt k e).1)
 have hb4:Below w0.heap.size w0 w4:=hb3.grown hg4 hb3.size (fun k e=>by cases e;exact h0B)
 have hk4:KeepsWalks W w4:=((hk2.trans (KeepsWalks.alloc _ _)).trans (KeepsWalks.of_grownBy hg3' (ownsRow_not_walk_a (hrow2.alloc _)))).trans (by rw [←hw4];exact KeepsWalks.setCell _ _ _)
 clear hw4
 refine ⟨_,_,run_endRound none hL4,rfl,⟨⟨_,(World.putObj_heap_other hBl).trans hv4,?_,by simp⟩,World.putObj_heap_same hl4,(World.putObj_heap_other hDl).trans hK4,hb4.grown (grownBy_putObj_a _ _ _) hb4.size (fun k e=>by cases e;exact h0l)⟩,hk4.trans (KeepsWalks.putObj _ hL4 rfl)⟩
 have:=hrow4.kept (grownBy_putObj_a w4 l (.loop {{eK fn sv Bs D .ready none with state:=.busy} with state:=if (none:Option Code).isNone then .ready else .done,pending:=none})) (ownsRow_ne_a hrow4 hL4 (fun cur e=>by first | cases e | exact hne (Obj.cells.inj e).2.1))
 simpa [vC] using this
theorem Tryz.uappendSeq (F:Fence) (n:Nat) (h11:F.fn 98) (hro:F.round=none) (hn:2<=n) (g:Nat) (lb:Array Value) (hFg:F.fn g) (eg:∀args w,(callFunc g args).run Tryz.prog w=.ok (.enter g args) w)
  (S:List Nam→Prop) (N:Nat) (hN:N<=maxLen) (hNb:N *32<=140737488355328) (w:World) (hseq:SeqGives F (n - 1) Tryz.prog g lb kC S N w) :
  CallsIn F n Tryz.prog 98 #[.slice none 0 0,.func (.func g) #[] lb] w fun e w'=>∃(v:Value) (ss:List Nam),e=.returned v/\S ss/\w'.ownsRow w.heap.size 77 2 v ss.length (fJ ss)/\(v=.slice none 0 0↔ss=[])/\Below w.heap.size w w':=by
 have h1:1<=n:=by omega
 have hne:(31:Nat)≠77:=by decide
 refine callsIn_of_wp_marks Tryz.func98 rfl h11 ?_ hro
 simp only [Tryz.ntmps98,List.size_toArray,List.length_cons,List.length_nil,Nat.reduceAdd,Nat.reduceSub,Array.replicate_succ,Array.replicate_zero,List.push_toArray,List.append_toArray,List.nil_append,List.cons_append]
 gi_wp2
 refine wpIn_rangeFunc ?_
 intro fn hfn
 rw [hro]
 obtain ⟨W0,hW0⟩:∃W0,w.alloc (.cells #[.slice none 0 0] 31)=W0:=⟨_,rfl⟩
 have hs0:W0.heap.size=w.heap.size+1:=by rw [←hW0];simp
 have hv0:W0.heap[w.heap.size]?=some (.cells #[.slice none 0 0] 31 (0,0)):=by rw [←hW0];exact World.alloc_heap_new w _
 have hb0:Below w.heap.size w W0:=by rw [←hW0];exact (Below.refl _ w).alloc (Nat.le_refl _) _
 rw [hW0]
 obtain ⟨W1,hW1⟩:∃W1,(W0.alloc (.deferred (some []))).alloc (.loop (eK fn (.func (.func g) #[] lb) w.heap.size W0.heap.size .ready none))=W1:=⟨_,rfl⟩
 have hold:∀k,k < W0.heap.size→W1.heap[k]?=W0.heap[k]?:=fun k hk=>by
  rw [←hW1];exact (Below.heap_alloc _ _ k (by simp;omega)).trans (Below.heap_alloc _ _ k hk)
 have hb1:Below w.heap.size w W1:=by rw [←hW1];exact (hb0.alloc hb0.size _).alloc (by have:=hb0.size;simp;omega) _
 have hs1:W1.heap.size=W0.heap.size+2:=by rw [←hW1];simp
 have hM:UApAt w fn (.func (.func g) #[] lb) w.heap.size (W0.heap.size+1) W0.heap.size [] W1:=
  ⟨⟨_,(hold w.heap.size (by omega)).trans hv0,⟨rfl,.inl ⟨rfl,rfl⟩⟩,by simp⟩,
   by rw [←hW1];have:=World.alloc_heap_new (W0.alloc (.deferred (some []))) (.loop (eK fn (.func (.func g) #[] lb) w.heap.size W0.heap.size .ready none));rwa [World.size_alloc] at this,
   by rw [←hW1];exact (Below.heap_alloc _ _ _ (by simp)).trans (World.alloc_heap_new W0 _),hb1⟩
 refine ⟨W0.heap.size+1,[{target:=.collected W0.heap.size,args:=#[]}],W1,{target:=.fn (.func g) lb,args:=#[.func (.yield (W0.heap.size+1)) #[] #[]]},W1,g,
  #[.func (.yield (W0.heap.size+1)) #[] #[]]++lb,W1,?_,?_,?_,?_,fun _=>h1,?_⟩
 ·rw [←hW1];exact run_enterLoop_outer _ _ _ _ _
 ·simp [resolve,go_sem]
 ·intro f' hf';simp [Target.leads] at hf';subst hf';exact hFg
 ·simp [invoke,go_sem,eg]
 ·refine (hseq (W0.heap.size+1) (UApAt w fn (.func (.func g) #[] lb) w.heap.size (W0.heap.size+1) W0.heap.size) W1 hb1 (tv _ _ _ _ _ _ _ hb1.size)
   (fun pre x W hJ hl=>Tryz.uapYield F (n - 1 - 1) w fn hfn _ w.heap.size (W0.heap.size+1) W0.heap.size (by omega) (by omega) (by omega) (Nat.le_refl _) (by omega) N hN hNb pre x W hJ hl) hM).mono ?_
  rintro e W2 ⟨⟨v0,rfl⟩,ss,hS,h2⟩
  obtain ⟨v,hv,hrow,hnil⟩:=h2.box
  have hend:=run_endLoop (P:=Tryz.prog) h2.L (by simp [eK])
  obtain ⟨W3,hW3⟩:∃W3,W2.putObj (W0.heap.size+1) (.loop {eK fn (.func (.func g) #[] lb) w.heap.size W0.heap.size .ready none with state:=.exhausted})=W3:=⟨_,rfl⟩
  rw [hW3] at hend
  have hg3:W2.grownBy W3 (some (W0.heap.size+1)):=by rw [←hW3];exact grownBy_putObj_a _ _ _
  have hv3:W3.heap[w.heap.size]?=some (.cells #[v] 31 (0,0)):=by rw [←hW3];exact (World.putObj_heap_other (by omega)).trans hv
  have hK3:W3.heap[W0.heap.size]?=some (.deferred (some [])):=by rw [←hW3];exact (World.putObj_heap_other (by omega)).trans h2.K
  have hrow3:=hrow.kept hg3 (ownsRow_ne_a hrow h2.L (fun cur e=>by first | cases e | exact hne (Obj.cells.inj e).2.1))
  have hb3:Below w.heap.size w W3:=h2.below.grown hg3 h2.below.size (fun k e=>by cases e;omega)
  obtain ⟨hc3,hf3⟩:=cell_of_box_a hv3
  clear hW3
  refine ⟨none,W3,hend,?_⟩
  gi_wp2
  rw [←hs0]
  refine ⟨by simp,.inl ⟨_,_,rfl,run_takeDeferred hK3,?_⟩⟩
  exact ⟨_,results_tmp rfl _ _ _,v,ss,rfl,hS,hrow3.kept (grownBy_putObj_a _ _ _) (ownsRow_ne_a hrow3 hK3 (fun cur e=>by first | cases e | exact hne (Obj.cells.inj e).2.1)),hnil,hb3.grown (grownBy_putObj_a _ _ _) hb3.size (fun k e=>by cases e;omega)⟩
theorem Tryz.ucollect (F:Fence) (n:Nat) (h8:F.fn 57) (h11:F.fn 98) (hro:F.round=none) (hn:3<=n) (g:Nat) (lb:Array Value) (hFg:F.fn g) (eg:∀args w,(callFunc g args).run Tryz.prog w=.ok (.enter g args) w)
  (S:List Nam→Prop) (N:Nat) (hN:N<=maxLen) (hNb:N *32<=140737488355328) (w:World) (hseq:SeqGives F (n - 1 - 1) Tryz.prog g lb kC S N w) :
  CallsIn F n Tryz.prog 57 #[.func (.func g) #[] lb] w fun e w'=>∃(v:Value) (ss:List Nam),e=.returned v/\S ss/\w'.ownsRow w.heap.size 77 2 v ss.length (fJ ss)/\(v=.slice none 0 0↔ss=[])/\Below w.heap.size w w':=by
 have h1:1<=n:=by omega
 have e98:∀args w,(callFunc 98 args).run Tryz.prog w=.ok (.enter 98 args) w:=enters_of Tryz.func98 (by kernel_rfl) rfl
 refine callsIn_of_wp Tryz.func57 rfl h8 ?_ hro
 simp only [Tryz.ntmps57,List.size_toArray,List.length_cons,List.length_nil,Nat.reduceAdd,Nat.reduceSub,Array.replicate_succ,Array.replicate_zero,List.push_toArray,List.append_toArray,List.nil_append,List.cons_append]
 gi_wp2_with (gi_at_fn 98;refine (Tryz.uappendSeq F (n - 1) h11 hro (by omega) g lb hFg eg S N hN hNb _ hseq).mono ?_;rintro e w' ⟨v,ss,rfl,hS,hrow,hnil,hb⟩)
 go_ret
 exact ⟨v,ss,rfl,hS,hrow,hnil,hb⟩
end Go.Proofs
end
section
namespace Go.Proofs
open Go.RowKit Go.Shelf Go.AL Go.Maps Go.Sort Go.Pd Go.Lib
variable [Tabs]
attribute [local go_sem] Oper.semAt_some
set_option maxHeartbeats 4000000
theorem oO:∀(ss:List Nam) (t:Nat),t < ss.length *2→(fJ ss)[t]?=some ((iV (ss.toArray[t / 2]!))[t % 2]!)
 | [],t,h=>by simp at h
 | x ::r,t,h=>by
  have e:fJ (x ::r)=gH x++fJ r:=by simp [fJ]
  rw [e]
  match t,h with
  | 0,_=>rfl
  | 1,_=>rfl
  | t+2,h=>
   have h':t < r.length *2:=by simp at h;omega
   have ih:=oO r t h'
   rw [List.getElem?_append_right (by simp [gH])]
   rw [show t+2 - (gH x).length=t by simp [gH],ih]
   have d:(t+2) / 2=t / 2+1:=by omega
   have m:(t+2) % 2=t % 2:=by omega
   rw [d,m]
   have hl:t / 2 < r.length:=by omega
   simp [hl]
theorem lg {w:World} {g n:Nat} {os:Array Obj} (d:Array Nam):w.grownBy (sortWorldK iV 2 w g 0 n d os) (some g):=by
 unfold sortWorldK putRowK
 refine ⟨rfl,rfl,rfl,by simp,fun k hk hne=>?_⟩
 rw [heap_grow_old _ _ (by simpa using hk)]
 have:g≠k:=fun e=>hne (by rw [e])
 simp [putRow,mapBlock,Sort.ahead,Array.getElem?_modify,this]
def RowU (w':World) (base:Nat) (v:Value) (l:List Nam):Prop:=
 (v=.slice none 0 0/\l=[])∨∃g cap,v=.slice (some ⟨g,0,none⟩) l.length cap/\base<=g/\l.length<=cap/\cap<=maxLen/\HoldsK iV 2 w' g 0 l.toArray
theorem vD {ks:List Nam} (hnd:ks.Nodup) {d:Array Nam} (hp:d.toList.Perm ks) (hs:SortedIn (ltOf cfU) 0 d.size d):d.toList=fh ks:=by
 have hn:d.toList.Nodup:=hp.nodup_iff.2 hnd
 refine tX ?_ (vf hnd) fun v=>by rw [hp.mem_iff,fh,List.mem_mergeSort]
 unfold xY
 rw [List.pairwise_iff_getElem]
 intro i j hi hj hij
 have hi':i < d.size:=by simpa using hi
 have hj':j < d.size:=by simpa using hj
 have h:=hs i j (Nat.zero_le _) hij hj'
 rw [jK,getElem!_pos d j hj',getElem!_pos d i hi'] at h
 simp only [Array.getElem_toList]
 rcases jE d[i] d[j] with t | t | t
 ·exact t
 ·rw [List.nodup_iff_pairwise_ne,List.pairwise_iff_getElem] at hn
  exact absurd (by simpa using t) (hn i j hi hj hij)
 ·rw [t] at h;cases h
theorem Tryz.usorted (w:World) (g:Nat) (lb:Array Value) (eg:∀args w,(callFunc g args).run Tryz.prog w=.ok (.enter g args) w) (ks:List Nam) (hN:ks.length *32<=140737488355328) (hnd:ks.Nodup)
  (hseq:SeqGives Fence.wide 2 Tryz.prog g lb kC (fun ss=>ss.Perm ks) ks.length w) :
  Calls Tryz.prog 27 #[.func (.func g) #[] lb,.func (.func 29) #[] #[]] w fun en w'=>∃v,en=.returned v/\RowU w' w.heap.size v (fh ks)/\RowKit.Below w.heap.size w w':=by
 have e57:∀args w,(callFunc 57 args).run Tryz.prog w=.ok (.enter 57 args) w:=enters_of Tryz.func57 (by kernel_rfl) rfl
 have e58:∀args w,(callFunc 58 args).run Tryz.prog w=.ok (.enter 58 args) w:=enters_of Tryz.func58 (by kernel_rfl) rfl
 have e29:∀args w,(callFunc 29 args).run Tryz.prog w=.ok (.enter 29 args) w:=enters_of Tryz.func29 (by kernel_rfl) rfl
 have w57:Fence.wide.fn 57:=trivial
 have w58:Fence.wide.fn 58:=trivial
 refine (callsIn_wide (n:=5)).1 ?_
 refine callsIn_of_wp (n:=5) Tryz.func27 rfl trivial ?_ rfl
 simp only [Tryz.ntmps27,List.size_toArray,List.length_cons,List.length_nil,Nat.reduceAdd,Nat.reduceSub,Array.replicate_succ,Array.replicate_zero,List.push_toArray,List.append_toArray,List.nil_append,List.cons_append]
 gi_wp2_with (gi_at_fn 57;refine (Tryz.ucollect Fence.wide 4 trivial trivial rfl (by omega) g lb trivial eg _ ks.length (by unfold maxLen;omega) hN w hseq).mono ?_;rintro e W ⟨v,ss,rfl,hS,hrow,hnil,hb⟩)
 rcases hrow.2 with ⟨rfl,hz⟩ | ⟨gb,cap,cur,rfl,hbase,hgb,r1,r2,r3,r4⟩
 ·have hss:ss=[]:=List.eq_nil_of_length_eq_zero hz
  subst hss
  have hks:ks=[]:=by have:=hS.length_eq;simp at this;exact List.eq_nil_of_length_eq_zero this.symm
  subst hks
  gi_wp2_with (gi_at_fn 58;refine (callsIn_wide.2 (AnyF.slices_SortFunc_none Tryz.sortf none 0 _ W)).mono ?_;rintro e w' ⟨rfl,rfl⟩)
  go_ret
  exact ⟨_,rfl,.inl ⟨rfl,by simp [fh]⟩,hb⟩
 ·have hH:HoldsK iV 2 W gb 0 ss.toArray:=by
   intro j hj
   have hj':j < ss.length *2:=by simpa using hj
   refine ⟨?_,by simp [World.frozen?,hgb]⟩
   have h1:cur.toList[j]?=(fJ ss)[j]?:=by rw [←r4,List.getElem?_take_of_lt (by omega)]
   rw [oO ss j hj'] at h1
   rw [Nat.zero_add,ae hgb,←Array.getElem?_toList,h1,get_flatK _ _ _ _ (by simpa using hj')]
   rfl
  have hgl:gb < W.heap.size:=(Array.getElem?_eq_some_iff.1 hgb).1
  have hsz:ss.toArray.size < 4611686018427387904:=by have:=hS.length_eq;simp;omega
  have cS:=AnyQ.slices_SortFunc Tryz.sortf 2 Tryz.isAgg77 Tryz.sizeOf77 iV (fun _=>rfl) (by intro x v hv;simp [iV] at hv;rcases hv with rfl | rfl <;> rfl) cfU swoU 29 #[] gb 0 cap ss.toArray W e29 (Tryz.cmpLays _ _ _ _) hH hgl hsz
  rw [show ss.toArray.size=ss.length by simp] at cS
  clear hrow
  gi_wp2_with (gi_at_fn 58;refine (callsIn_wide.2 cS).mono ?_;rintro e w' ⟨rfl,d',n',os,hperm,hsort,rfl⟩)
  go_ret
  obtain ⟨p1,_,p3⟩:=hperm
  have hds:d'.size=ss.length:=by rw [p1];simp
  have x1:d'.extract 0 ss.length=d':=by rw [←hds];simp
  have x2:ss.toArray.extract 0 ss.length=ss.toArray:=by simp
  rw [x1,x2] at p3
  have hp:d'.toList.Perm ks:=(by simpa using p3:d'.toList.Perm ss).trans hS
  rw [←hds] at hsort
  have hres:=vD hnd hp hsort
  have hrl:(fh ks).length=ss.length:=by rw [←hres];simp [hds]
  refine ⟨.slice (some ⟨gb,0,none⟩) ss.length cap,rfl,.inr ⟨gb,cap,by rw [hrl],hbase,by omega,r2,?_⟩,hb.grown (lg _) hb.size (fun j hj=>by cases hj;exact hbase)⟩
  rw [←hres]
  simp only [Array.toArray_toList]
  exact holdsK_sortWorldK iV 2 W gb 0 n' ss.toArray d' os hgl hH (by rw [hds];simp)
end Go.Proofs
end
noncomputable section
namespace Go.AL
open Go.Proofs Go.RowKit Go.Maps Go.Sort Go.Shelf Go.Pd
variable [Tabs]
set_option maxHeartbeats 1000000
theorem o8 {τ:Ty} (m:List (Nam × den τ)) (hN:m.length *32<=140737488355328) :
  aW Tryz.prog 27 [.fn 59 [.ptr 900 0],.fn 29 []] [(900,.box (.map 901)),(901,.map (.st .nm) τ m)] ⟨some (m.length *32<=140737488355328),none,.lst (.st .nm) (fh (m.map (·.1))) none,[(901,.map (.st .nm) τ m)]⟩:=by
 intro w pub e vs hp ht hv hs hd hi
 obtain ⟨v1,v2,rfl,h1,h2⟩:=VL.two_inv hv
 obtain ⟨us,rfl,hus⟩:=h1.fn_inv
 obtain ⟨us2,rfl,hus2⟩:=h2.fn_inv
 obtain rfl:us2=[]:=List.eq_nil_of_length_eq_zero hus2.1.symm
 obtain ⟨u,rfl,hu⟩:=VL.one_inv hus
 obtain ⟨b,o,len,rfl,he⟩:=hu.ptr_inv
 obtain ⟨b',o',he',hbox⟩:=hs 900 _ rfl
 rw [he] at he'
 cases he'
 obtain ⟨_,_,_,v,hcell,hvm⟩:=hbox 0 (.map 901) rfl
 cases hvm with
 | map _ r her=>
  have her:e 901=some (.obj r):=her
  obtain ⟨r',her',_,es,clock,hr,hmok⟩:=hs 901 _ rfl
  have her':e 901=some (.obj r'):=her'
  rw [her] at her'
  cases her'
  have hr:w.heap[r]?=some (.map es clock):=hr
  have ent:∀(i:Nat) (hi:i < m.length),∃en,es[i]?=some en/\en.key=kC m[i].1/\m[i].1.pkg.length<=aM/\m[i].1.name.length<=aM:=fun i hi=>by
   have hi':i < es.size:=by rw [hmok.size];exact hi
   have q:=uG (hmok.ent i es[i] m[i] (Array.getElem?_eq_getElem hi') (List.getElem?_eq_getElem hi)).1
   exact ⟨es[i],Array.getElem?_eq_getElem hi',q.1,q.2⟩
  have hK:KeysU es clock (m.map (·.1)):=⟨by simp [hmok.size],fun i en k q1 q2=>by
   have hi:i < m.length:=by
    rcases Nat.lt_or_ge i m.length with q | q
    ·exact q
    ·rw [List.getElem?_eq_none (by simpa using q)] at q2;cases q2
   obtain ⟨en',a1,a2,_⟩:=ent i hi
   rw [q1] at a1
   cases a1
   rw [List.getElem?_map,List.getElem?_eq_getElem hi] at q2
   cases q2
   exact a2,hmok.idx,hmok.top⟩
  have hsq:=Tryz.ukeys Fence.wide 2 trivial rfl (by omega) b (o+0) r es clock _ hK w hcell hr
  have e59:∀args w,(callFunc 59 args).run Tryz.prog w=.ok (.enter 59 args) w:=enters_of Tryz.func59 (by kernel_rfl) rfl
  refine (Tryz.usorted w 59 #[.pointer (some ⟨b,o+0,none⟩)] e59 (m.map (·.1)) (by simpa using hN) hmok.keys hsq).mono ?_
  rintro en w' ⟨v,rfl,hrow,hb⟩
  have hlen:∀k∈fh (m.map (·.1)),k.pkg.length<=aM/\k.name.length<=aM:=fun k hk=>by
   rw [fh,List.mem_mergeSort] at hk
   obtain ⟨x,hx,rfl⟩:=List.mem_map.1 hk
   obtain ⟨i,hi,rfl⟩:=List.getElem_of_mem hx
   obtain ⟨_,_,_,a3⟩:=ent i hi
   exact a3
  generalize fh (m.map (·.1))=l at hrow hlen
  have aft:∀(Q:Nat→Nat→Prop),(∀b o,Q b o→w.heap.size<=b/\∃v,w'.cell? ⟨b,o,none⟩=some v)→
    After w pub e (ah (bz [(900,.box (.map 901)),(901,.map (.st .nm) τ m)] [(901,.map (.st .nm) τ m)])) w' (fun b o=>pub b o∨Q b o) (fun i=>if 901=i then some (.obj r) else e i):=fun Q hQ=>
   After.slot hp hs hd hi (k:=901) (obj:=.map (.st .nm) τ m) (c:=.obj r) (Q:=Q) hb.os hb.tape hb.output hb.size (fun b h _=>hb.block b h) (fun b o h _=>ab (hb.block b h) o)
    (fun b h _=>⟨aH (hb.block b h),fun o=>ax (hb.block b h) o⟩)
    (fun b o h=>by obtain ⟨v,hv⟩:=hp b o h;exact ab (hb.block b (aC hv)) o)
    hQ (fun c0 h=>by rw [her] at h;cases h;exact CLe.refl _) (fun b o ho=>.inr ⟨_,her,ho⟩)
    (fun hx=>⟨r,by simp,fun o=>.inr ⟨901,_,her,rfl⟩,es,clock,(hb.block r (b6 hr)).trans hr,hmok.ext hx⟩)
  rcases hrow with ⟨rfl,rfl⟩ | ⟨g,cap,rfl,hbase,h1,h2,hH⟩
  ·exact ⟨_,_,fun _ _ _ h=>(by cases h),.lstNil _ _ (fun _ h=>by cases h),aft (fun _ _=>False) (fun _ _ h=>h.elim)⟩
  ·have cel:∀(i:Nat) (hi:i < l.length) (c:Nat),c < 2→w'.cell? ⟨g,i *2+c,none⟩=some ((iV l[i])[c]!):=fun i hi c hc=>by
    have:=(hH.cell (i:=i) (by simpa using hi) hc).1
    rw [show 0+i *2+c=i *2+c by omega] at this
    rw [this]
    simp [hi]
   refine ⟨_,_,fun _ _ _ h=>(by cases h),?_,aft (fun b o=>b=g/\o < l.length *2) (fun b o ⟨q1,q2⟩=>?_)⟩
   ·refine .lst (.st .nm) l none g 0 cap (fun i j=>(iV (l.getD i default))[j]!) h1 (by unfold maxLen at h2;unfold aM;omega) (fun id h=>by cases h) (fun i x hx j c hc=>?_) (fun i x hx j c hc=>?_)
    ·obtain ⟨hi',rfl⟩:=List.getElem?_eq_some_iff.1 hx
     have hj:j < 2:=(List.getElem?_eq_some_iff.1 hc).1
     have ew:a7 (.st .nm)=2:=rfl
     rw [ew,Nat.zero_add]
     refine ⟨.inr ⟨rfl,by omega⟩,?_⟩
     show w'.cell? ⟨g,i *2+j,none⟩=_
     rw [cel i hi' j hj,List.getD_eq_getElem?_getD,List.getElem?_eq_getElem hi']
     rfl
    ·obtain ⟨hi',rfl⟩:=List.getElem?_eq_some_iff.1 hx
     have q:=hlen l[i] (List.getElem_mem hi')
     rw [List.getD_eq_getElem?_getD,List.getElem?_eq_getElem hi',Option.getD_some]
     match j,hc with
     | 0,hc=>cases hc;exact .str _ q.1
     | 1,hc=>cases hc;exact .str _ q.2
     | j+2,hc=>cases hc
   ·subst q1
    have hd2:o=(o / 2) *2+o % 2:=by omega
    exact ⟨hbase,_,by rw [hd2];exact cel (o / 2) (by omega) (o % 2) (by omega)⟩
def zf:Pat:=fun args S=>
 match args,S with
 | [.fn g [.ptr 900 0],.fn h []],[(900,.box (.map 901)),(901,.map (.st .nm) τ m)]=>
  if g=59/\h=29 then some ⟨some (m.length *32<=140737488355328),none,.lst (.st .nm) (fh (m.map (·.1))) none,[(901,.map (.st .nm) τ m)]⟩ else none
 | _,_=>none
def iu:Pat:=fun args S=>
 match args,S with
 | [.fn g [.ptr 900 0],.fn h []],[(900,.box (.map 901)),(901,.map (.st .nm) τ [x])]=>
  if Nat.beq g 59 && Nat.beq h 29 then some ⟨none,none,.lst (.st .nm) [x.1] none,[(901,.map (.st .nm) τ [x])]⟩ else none
 | _,_=>none
theorem nJ (he:aS Tryz.prog 27):aL Tryz.prog 27 iu:=by
 intro args S A h hob hkeys
 unfold iu at h
 split at h
 ·rename_i τ x
  split at h
  ·rename_i e
   rw [Bool.and_eq_true] at e
   obtain ⟨e1,e2⟩:=e
   obtain rfl:=Nat.eq_of_beq_eq_true e1
   obtain rfl:=Nat.eq_of_beq_eq_true e2
   cases h
   refine ⟨he,?_⟩
   have:=o8 (τ:=τ) [x] (by simp)
   have e:fh ([x].map (·.1))=[x.1]:=by simp [fh]
   rw [e] at this
   exact this
  ·cases h
 ·cases h
end Go.AL
end
noncomputable section
namespace Go.AL.Seat
open Go Go.AL Go.Proofs Go.Pd
set_option maxRecDepth 1000000
variable [Tabs] [SeatLaid]
def yC:List (Nat × Pat):=(27,iu) ::(23,uf [.str awS] awV) ::(56,q1 (.lst .str) (fun l=>decide (l.length *16<=140737488355328)) fun l=>.bool (decide l.Nodup)) ::(71,q1 (.lst .str) (fun l=>decide (l.length *16<=140737488355328)) fun l=>.lst .str l none) ::nG
theorem xq:ba Tryz.prog (eL yC):=sc (nJ (ee Tryz.func27)) (sc (ug (ee Tryz.func23) zD) (sc (xc tu fun _ h=>Xo h) (sc (xc oM fun _ h=>Xo h) nH)))
theorem rL:aL Tryz.prog 7 (p0 (.ret (.bool true))):=
 zy (ee Tryz.func7) (kz (n:=100) mixed xp xq rK (by kernel_rfl:td aB rJ ze zd 50 (eL yC) 100 7 [] []=some ⟨none,none,.bool true,[]⟩))
end Go.AL.Seat
end
section
namespace Go.Proofs.YtbhedkjcdhgkhaaGreatDoor.JUsageNeeds
open Go.AL Go.AL.Seat Go.Pd Go.ChangeShapes Go.WideShapes Go.RowKit Go.Proofs.YtbhedkjcdhgkhaaGreatDoor.Join
set_option maxRecDepth 1000000
theorem par:Tryz.f4.params=#[38,31]:=by kernel_rfl
theorem res:Tryz.f4.resultTypes=#[4]:=by kernel_rfl
theorem spec {H:Type} (ds:List (DataW H)) (hd:ds.length=2):Rows.usageNeedsSpec.fn H ds={results:=[.lit (.bool true)],args:=ds}:=by
 match ds,hd with
 | [d0,d1],_=>rfl
theorem xr (H:Type) (enc:TypeId × Value→H) (W:World) (base:Nat) (args:Array Value) (ds gs:List (DataW H)) (before:List MemPlace)
  (hval:∀(j:Nat) t v,Tryz.f4.params[j]?=some t→args[j]?=some v→Value.okWide Tryz.prog W .any base t v)
  (hW:DataW.Whole enc Tryz.prog Tryz.f4.params.toList Rows.usageNeedsSpec.vars false W args.toList ds gs before) (hku:Rows.uptoSmall H (ds++gs)=true) (hL:laidMet Tryz.prog laid W) (hsh:W.ShapedOpen Tryz.prog) :
  Calls Tryz.prog 4 args W fun e W'=>∃v,e=.returned v/\Rows.usageNeedsSpec.post enc Tryz.prog Tryz.f4 false true false false W args v W':=by
 letI:Tabs:=nk W
 haveI:SeatLaid:=wK hL hsh
 have hW':=hW
 obtain ⟨p,q,hA,hV,_,_,_⟩:=hW
 rw [par] at hA hval
 obtain ⟨v0,vs0,d0,ds0,p0,q0,hargs0,rfl,rfl,h0,r0⟩:=trodAll_cons hA
 obtain ⟨v1,vs1,d1,ds1,p1,q1,hargs1,rfl,rfl,h1,r1⟩:=trodAll_cons r0
 obtain ⟨rfl,rfl,rfl⟩:=trodAll_nil r1
 subst hargs1
 obtain rfl:args=#[v0,v1]:=by
  have:=congrArg List.toArray hargs0
  simpa using this
 obtain ⟨x0,hx0,hq0⟩:=wN (vh Tryz.prog) zA (hval 0 38 v0 rfl rfl) h0 (wQ hku (by simp))
 obtain ⟨fu1,hf1⟩:=h1
 obtain ⟨x1,hx1⟩:=yW zu zw (hval 1 31 v1 rfl rfl) hf1
 refine (uY (jg aG fj (fun l=>fo l 0 0) x0 x1 oI (vg hq0) tt o6 vA rG rL) (fun b o v h=>h.2) (fun b x h=>h.2) (VL.cons hx0 (VL.cons hx1 .nil))).mono fun e W' ⟨he,hb⟩=>?_
 subst he
 refine ⟨_,rfl,wv (tb:=4) xW (fun t ht=>?_) rfl (fun ds hd=>spec ds ?_) res undB hW' hb⟩
 ·rw [par] at ht
  have ht:t∈[38,31]:=ht
  simp only [List.mem_cons,List.not_mem_nil,or_false] at ht
  rcases ht with rfl | rfl
  ·exact ⟨zB,Nat.lt_trans (by decide) yx⟩
  ·exact ⟨zx,Nat.lt_trans (by decide) yx⟩
 ·rw [par] at hd
  exact hd
theorem reads (os:Os) {H:Type} (enc:TypeId × Value→H):(DataW.whole enc Tryz.prog ((iK os).forCall (fun _ _=>0) ⟨#[],#[.agg #[.string ⟨#[]⟩,.slice none 0 0],.slice none 0 0],[]⟩).memory Tryz.f4.params.toList Rows.usageNeedsSpec.vars false [Value.agg #[.string ⟨#[]⟩,.slice none 0 0],Value.slice none 0 0] 8).map (fun x=>(x.1,x.2.1))=some ([.agg [.lit (.string []),.nil],.nil],[]):=by kernel_rfl
theorem zg (os:Os) (started:os.Started) (H:Type) (enc:TypeId × Value→H) (F:Stop.Interp) :
  ReturnsInHanded {} Tryz.checked os 4 .any ((Rows.OpenSpec.upto Rows.usageNeedsSpec).preRow enc Tryz.prog Tryz.f4 Rows.usageNeedsUptoRow.domain false Rows.usageNeedsUptoRow.laid) (((Rows.OpenSpec.upto Rows.usageNeedsSpec).at F).post enc Tryz.prog Tryz.f4 false true false false):=by
 obtain ⟨⟨y1,y2,y3⟩,hx,hy⟩:=Option.map_eq_some_iff.1 (reads os enc)
 simp only [Prod.mk.injEq] at hy
 obtain ⟨rfl,rfl⟩:=hy
 refine returnsInHanded_of_row (C:=Tryz.checked) (s:=Rows.OpenSpec.upto Rows.usageNeedsSpec) own started (by kernel_rfl) Tryz.func4
  (witness_row_atRef (enc:=enc) (C:=Tryz.checked) false (iK os) #[.agg #[.string ⟨#[]⟩,.slice none 0 0],.slice none 0 0] rfl (by kernel_rfl) (by kernel_rfl) (by kernel_rfl)
   (OpenSpec.preRow_of_cond 8 hx (by kernel_rfl) (fun k hk=>by cases hk;kernel_rfl) (by kernel_rfl) (wL os _))) ?_
 intro W base args ds gs before hval hW _ hku _ hL hsh _
 exact xr H enc W base args ds gs before hval hW (hku _ rfl) hL hsh
theorem c1:(Rows.usageNeedsUptoRow.inPlace ==Tryz.prog.inPlace 4)=true:=by kernel_rfl
theorem c2:(Rows.usageNeedsUptoRow.unfollowed ==Tryz.prog.unfollowed 4)=true:=by kernel_rfl
theorem c3:(Rows.usageNeedsUptoRow.recurses ==Tryz.prog.recurses 4)=true:=by kernel_rfl
theorem c4:(Rows.usageNeedsUptoRow.named ==Tryz.prog.varsNamed 4)=true:=by kernel_rfl
theorem zh:joinedFacts Tryz.prog 4 Tryz.f4 (Rows.OpenSpec.upto Rows.usageNeedsSpec).bare Rows.usageNeedsUptoRow=true:=by
 unfold joinedFacts
 rw [c1,c2,c3,c4]
 kernel_rfl
theorem said:Rows.UsageNeedsUptoSaid:=
 OpenClaim.holds_of_cond 4 Tryz.f4 rfl rfl rfl rfl rfl rfl rfl ⟨rfl,rfl,rfl,rfl,rfl⟩ rfl rfl rfl rfl rfl (by kernel_rfl) Tryz.func4 zh
  (Xo (by kernel_rfl)) (by unfold Func.isWrapper;first | (rw [if_pos (by decide+kernel)];kernel_rfl) | (rw [if_neg (by decide+kernel)];exact ⟨rfl,rfl⟩))
  (fun os started H enc _ F=>by rw [OpenClaim.pre_eq_preRow];exact zg os started H enc F)
theorem cI (f:FuncId) (fn:Func) (hf:Tryz.pinned.checked.prog.funcNamed "pandect/pandectlaw34.UsageNeeds"=some f) (hfn:Tryz.pinned.checked.prog.funcs[f]?=some fn) :
  true=Tryz.pinned.checked.prog.looks []/\∀(j:Nat) t,fn.params[j]?=some t→Tryz.pinned.checked.prog.wantsStandIn t=false:=by
 obtain rfl:f=4:=Option.some.inj ((show Tryz.prog.funcNamed "pandect/pandectlaw34.UsageNeeds"=some 4 by kernel_rfl).symm.trans hf) |>.symm
 obtain rfl:fn=Tryz.f4:=(Option.some.inj (Tryz.func4.symm.trans hfn)).symm
 refine ⟨by kernel_rfl,fun j t ht=>?_⟩
 rw [par] at ht
 have ht:=Array.mem_of_getElem? ht
 simp only [List.mem_toArray,List.mem_cons,List.not_mem_nil,or_false] at ht
 rcases ht with rfl | rfl
 ·exact (show Tryz.prog.wantsStandIn 38=false by kernel_rfl)
 ·exact (show Tryz.prog.wantsStandIn 31=false by kernel_rfl)
theorem card:Rows.UsageNeedsUptoCardSaid:=
 Claim7.holds_tied_plain_at .later [] _ _ _ _ said (fun _ h=>by cases h) (by kernel_rfl) (fun _ h=>by cases h) usageNeedsUpto_row_tie rfl ⟨rfl,rfl⟩ (by kernel_rfl) rfl cI (by kernel_rfl)
end Go.Proofs.YtbhedkjcdhgkhaaGreatDoor.JUsageNeeds
end
