/- The layer: Go code as conditions, and that they are sound. No condition. -/
import Derived.Test.YtdmbjejhifjhbaaGreatDoorT04
import Derived.Laws.IdiomCopy
import Derived.Lib.FrozenHead
import Derived.Lib.TrimByte
set_option linter.unusedVariables false
set_option linter.unusedSimpArgs false
set_option linter.unnecessarySimpa false
set_option linter.deprecated false
set_option linter.unusedSectionVars false
set_option maxRecDepth 100000
section
namespace Go.AL
variable [Tabs]
section
variable {P:Program} {C:Cfg} {o:Oper}
theorem nE (w:World) (g:Nat) (cs:Array Value):(w.setRow g cs).os=w.os/\(w.setRow g cs).tape=w.tape/\(w.setRow g cs).output=w.output/\(w.setRow g cs).heap.size=w.heap.size:=by
 simp [World.setRow]
theorem ky (b:Nat):∀(vs:List Value) (o:Nat) (w:World),(w.setCells b o vs).os=w.os/\(w.setCells b o vs).tape=w.tape/\(w.setCells b o vs).output=w.output/\
  (w.setCells b o vs).heap.size=w.heap.size/\(∀i,i≠b→(w.setCells b o vs).heap[i]?=w.heap[i]?)/\∀i,(w.setCells b o vs).shape? i=w.shape? i
 | [],_,_=>⟨rfl,rfl,rfl,rfl,fun _ _=>rfl,fun _=>rfl⟩
 | v ::r,o,w=>by
  obtain ⟨h1,h2,h3,h4,h5,h6⟩:=ky b r (o+1) (w.setCell ⟨b,o,none⟩ v)
  refine ⟨h1,h2,h3,h4.trans (by simp [World.setCell]),fun i hi=>(h5 i hi).trans ?_,fun i=>(h6 i).trans ?_⟩
  ·simp only [World.setCell]
   rw [Array.getElem?_modify,if_neg (fun e=>hi e.symm)]
  ·simp only [World.setCell,World.shape?]
   rw [Array.getElem?_modify]
   by_cases e:b=i
   ·subst e
    rw [if_pos rfl]
    cases hb:w.heap[b]? with
    | none=>rfl
    | some x=>cases x <;> simp
   ·rw [if_neg e]
theorem mQ {r:TR} {c v c':AV} {off:Nat} (h:sU r c off v=some c') :
  (aa v).all lF=true/\(aa v).length=r.size/\∃ds,splice (aa c) off (aa v)=some ds/\aa c'=ds:=by
 unfold sU at h
 split at h
 ·rename_i hl
  simp only [Bool.and_eq_true] at hl
  refine ⟨hl.1,cn _ _ hl.2,?_⟩
  have fO:∀{off:Nat},(match splice (aa c) off (aa v) with | some cs=>some (AV.agg cs) | none=>none)=some c'→
    ∃ds,splice (aa c) off (aa v)=some ds/\aa c'=ds:=by
   intro off h
   split at h
   ·rename_i cs hcs
    simp only [Xs] at h
    subst h
    exact ⟨cs,hcs,rfl⟩
   ·cases h
  split at h
  ·split at h
   ·rename_i hcl
    simp only [Xs] at h
    subst h
    refine ⟨_,?_,rfl⟩
    have e:(aa c).length=(aa v).length:=by rw [cn _ _ hcl,cn _ _ hl.2]
    have ov:∀(xs ys:List AV),xs.length=ys.length→kh xs ys=some ys:=by
     intro xs
     induction xs with
     | nil=>intro ys hy;cases ys with
      | nil=>rfl
      | cons _ _=>cases hy
     | cons x xs ih=>intro ys hy;cases ys with
      | nil=>cases hy
      | cons y ys=>simp [kh,ih ys (by simpa using hy)]
    have:=ov _ _ e
    generalize aa c=cs at *
    cases cs <;> simpa [splice] using this
   ·exact fO h
  ·exact fO h
 ·cases h
theorem bv.rd {Ω:Om} {own:Nat→Nat→Prop} {id:Nat} {c d:AV} (h:bv Ω own id (.box c)) (r:RdL (aa c) (aa d)):bv Ω own id (.box d):=by
 obtain ⟨b,off,e1,e2⟩:=h
 refine ⟨b,off,by rw [←r.1];exact e1,fun j d' hd'=>?_⟩
 have hj:j < (aa c).length:=by
  rw [r.1]
  rcases Nat.lt_or_ge j (aa d).length with k | k
  ·exact k
  ·rw [List.getElem?_eq_none k] at hd';cases hd'
 obtain ⟨k1,k2,k3,v,k4,k5⟩:=e2 j _ (List.getElem?_eq_getElem hj)
 exact ⟨k1,k2,k3,v,k4,r.2 j _ d' (List.getElem?_eq_getElem hj) hd' _ _ k5⟩
theorem RdL.append {as bs cs ds:List AV} (h:RdL as bs) (k:RdL cs ds):RdL (as++cs) (bs++ds):=by
 refine ⟨by simp [h.1,k.1],fun j c d hc hd=>?_⟩
 by_cases hj:j < as.length
 ·rw [List.getElem?_append_left hj] at hc
  rw [List.getElem?_append_left (by rw [←h.1];exact hj)] at hd
  exact h.2 j c d hc hd
 ·rw [List.getElem?_append_right (by omega)] at hc
  rw [List.getElem?_append_right (by rw [←h.1];omega),←h.1] at hd
  exact k.2 _ c d hc hd
theorem uW:∀(xs ys zs ds:List AV),kh xs ys=some ds→kh (xs++zs) ys=some (ds++zs)
 | xs,[],zs,ds,h=>by simp [kh] at h;subst h;cases xs <;> simp [kh]
 | [],y ::ys,zs,ds,h=>by simp [kh] at h
 | x ::xs,y ::ys,zs,ds,h=>by
  simp only [kh] at h
  split at h
  ·rename_i l hl
   simp at h
   subst h
   simp [kh,uW xs ys zs l hl]
  ·cases h
theorem pT:∀(xs:List AV) (n:Nat) (ys zs ds:List AV),splice xs n ys=some ds→splice (xs++zs) n ys=some (ds++zs)
 | xs,0,ys,zs,ds,h=>by
  have e:∀xs:List AV,splice xs 0 ys=kh xs ys:=by intro xs;cases xs <;> rfl
  rw [e] at h ⊢
  exact uW _ _ _ _ h
 | [],n+1,ys,zs,ds,h=>by simp [splice] at h
 | x ::xs,n+1,ys,zs,ds,h=>by
  simp only [splice] at h
  split at h
  ·rename_i l hl
   simp at h
   subst h
   simp [splice,pT xs n ys zs l hl]
  ·cases h
theorem pU:∀(as xs bs ys ds:List AV) (n m:Nat),splice xs n ys=some ds→as.length=m→splice (as++xs++bs) (m+n) ys=some (as++ds++bs)
 | [],xs,bs,ys,ds,n,m,h,hm=>by
  simp at hm
  subst hm
  simpa using pT xs n ys bs ds h
 | a ::as,xs,bs,ys,ds,n,m,h,hm=>by
  cases m with
  | zero=>simp at hm
  | succ m=>
   have:=pU as xs bs ys ds n m h (by simpa using hm)
   rw [show m+1+n=(m+n)+1 by omega]
   simp only [List.cons_append,splice,this]
theorem Holds.store {F:Fr} {s:AS} {a:Act} {Ω:Om} (h:Holds F s a Ω) {id g bo len off:Nat} {c c':AV} {pv ds:List AV} {vs:List Value} {dst:Option Nat}
  (hcs:s.B id=some (.box c)) (hxb:Ω.e id=some (.box g bo len)) (hds:splice (aa c) off pv=some ds) (hvl:VL Ω pv vs) (hlf:pv.all lF=true)
  (hrd:RdL ds (aa c')) (hpos:0 < pv.length) (hd:∀d,dst=some d→d < F.n) :
  (storeCells ⟨g,bo+off,none⟩ vs 0).run P Ω.w=.ok () (Ω.w.setCells g (bo+off) vs)/\
   Holds F ⟨cE s.T dst .undef,updB s.B [(id,.box c')]⟩ (a.put dst undef) ⟨Ω.e,Ω.w.setCells g (bo+off) vs,Ω.pub⟩:=by
 obtain ⟨g',bo',e1,e2⟩:=h.slots id _ hcs
 rw [hxb] at e1
 simp only [Xs,CObj.box.injEq] at e1
 obtain ⟨rfl,rfl,rfl⟩:=e1
 obtain ⟨s1,s2⟩:=fA _ _ _ _ hds
 have hyl:vs.length=pv.length:=hvl.1.symm
 have hin:∀j,j < vs.length→off+j < (aa c).length:=by
  intro j hj
  rw [hyl] at hj
  omega
 have hsome:∀j,j < vs.length→(Ω.w.cell? ⟨g,bo+off+j,none⟩).isSome=true:=by
  intro j hj
  obtain ⟨_,_,_,v,hv,_⟩:=e2 (off+j) _ (List.getElem?_eq_getElem (hin j hj))
  rw [Nat.add_assoc,hv]
  rfl
 have hfrz:∀j,j < vs.length→Ω.w.frozen? ⟨g,bo+off+j,none⟩=false:=by
  intro j hj
  rw [Nat.add_assoc]
  exact (e2 (off+j) _ (List.getElem?_eq_getElem (hin j hj))).2.2.1
 have hst:=run_storeCells_cells (P:=P) g (bo+off) vs 0 Ω.w (by simpa using hsome) (by simpa using hfrz) (hvl.leaf_one hlf)
 simp only [Nat.add_zero] at hst
 obtain ⟨q1,q2,q3,q4,q5,q6⟩:=ky g vs (bo+off) Ω.w
 have hout:∀b o',(b=g→o' < bo+off∨bo+off+pv.length<=o')→(Ω.w.setCells g (bo+off) vs).cell? ⟨b,o',none⟩=Ω.w.cell? ⟨b,o',none⟩:=
  fun b o' hb=>World.cell?_setCells_out g _ _ _ _ (fun e _=>by rw [hyl];exact hb e)
 have hrange:∀b o',b=g→¬(o' < bo+off∨bo+off+pv.length<=o')→∃j c0,o'=bo+j/\(aa c)[j]?=some c0:=by
  intro b o' _ hno
  have hlt:o' - bo < (aa c).length:=by omega
  exact ⟨o' - bo,_,by omega,List.getElem?_eq_getElem hlt⟩
 have hpubout:∀b o',Ω.pub b o'→(Ω.w.setCells g (bo+off) vs).cell? ⟨b,o',none⟩=Ω.w.cell? ⟨b,o',none⟩:=by
  intro b o' p
  refine hout b o' (fun e=>?_)
  subst e
  rcases Decidable.em (o' < bo+off∨bo+off+pv.length<=o') with k | k
  ·exact k
  ·obtain ⟨j,c0,rfl,hj⟩:=hrange b o' rfl k
   exact absurd p (e2 j c0 hj).2.1
 have hx':Ext Ω ⟨Ω.e,Ω.w.setCells g (bo+off) vs,Ω.pub⟩:=
  ⟨fun i c hc=>⟨c,hc,CLe.refl c⟩,fun _ _ p=>p,hpubout⟩
 have hplen:ds.length=(aa c).length:=by
  rw [s2]
  simp
  omega
 have hh:Holds F ⟨cE s.T dst .undef,updB s.B [(id,.box c')]⟩ (a.put dst undef) ⟨Ω.e,Ω.w.setCells g (bo+off) vs,Ω.pub⟩:=h.step hx' (.undef undef) hd
  (fun id' o' ho'=>by
   simp only [iv] at ho'
   by_cases hid:id=id'
   ·subst hid
    simp at ho'
    subst ho'
    refine bv.rd (c:=.agg ds) ?_ hrd
    refine ⟨g,bo,by show _=some (CObj.box g bo ds.length);rw [hplen];exact hxb,fun j d hd'=>?_⟩
    have hd':ds[j]?=some d:=hd'
    have hj:j < ds.length:=by
     rcases Nat.lt_or_ge j ds.length with k | k
     ·exact k
     ·rw [List.getElem?_eq_none k] at hd';cases hd'
    have hj2:j < (aa c).length:=by omega
    obtain ⟨k1,k2,k3,v,k4,k5⟩:=e2 j _ (List.getElem?_eq_getElem hj2)
    refine ⟨k1,k2,(World.frozen?_setCells g _ _ _ _).trans k3,?_⟩
    rw [s2] at hd'
    by_cases hlo:j < off
    ·refine ⟨v,(hout g (bo+j) (fun _=>Or.inl (by omega))).trans k4,?_⟩
     rw [List.append_assoc,List.getElem?_append_left (by simp;omega),List.getElem?_take,if_pos hlo,List.getElem?_eq_getElem hj2] at hd'
     simp only [Xs] at hd'
     subst hd'
     exact k5.ext hx'
    ·by_cases hhi:j < off+pv.length
     ·have hjl:j - off < vs.length:=by omega
      have hcell:=World.cell?_setCells_in g vs (bo+off) Ω.w hsome (j - off) hjl
      rw [show bo+off+(j - off)=bo+j by omega] at hcell
      refine ⟨_,hcell,?_⟩
      have htl:(List.take off (aa c)).length=off:=by simp;omega
      rw [List.append_assoc,List.getElem?_append_right (by omega),htl,List.getElem?_append_left (by omega)] at hd'
      exact (hvl.2 (j - off) d _ hd' (List.getElem?_eq_getElem hjl)).ext hx'
     ·refine ⟨v,(hout g (bo+j) (fun _=>Or.inr (by omega))).trans k4,?_⟩
      have htl:(List.take off (aa c)++pv).length=off+pv.length:=by simp;omega
      rw [List.getElem?_append_right (by omega),htl,List.getElem?_drop,show off+pv.length+(j - (off+pv.length))=j by omega,List.getElem?_eq_getElem hj2] at hd'
      simp only [Xs] at hd'
      subst hd'
      exact k5.ext hx'
   ·rw [if_neg hid] at ho'
    refine (h.slots id' o' ho').keep hx' rfl (fun c0 hc0=>?_)
    cases c0 with
    | box b2 o2 l2=>
     intro oo h1 h2
     refine ⟨hout b2 oo (fun e=>?_),World.frozen?_setCells g _ _ _ _,fun p=>p⟩
     subst e
     rcases Decidable.em (oo < bo+off∨bo+off+pv.length<=oo) with k | k
     ·exact k
     ·exact absurd (h.inj id id' _ _ b2 oo hxb hc0 ⟨rfl,by omega,by omega⟩ ⟨rfl,h1,h2⟩) hid
    | tail n base cap=>
     intro b2 hb2
     refine ⟨q5 b2 (fun e=>?_),fun _ p=>p⟩
     subst e
     exact hid (h.inj id id' _ _ b2 bo hxb hc0 ⟨rfl,Nat.le_refl _,by omega⟩ hb2)
    | obj r=>
     refine q5 r (fun e=>?_)
     subst e
     exact hid (h.inj id id' _ _ r bo hxb hc0 ⟨rfl,Nat.le_refl _,by omega⟩ rfl)
    | bld b2 g=>
     intro b3 hb3
     refine ⟨q5 b3 (fun e=>?_),fun _ p=>p⟩
     subst e
     exact hid (h.inj id id' _ _ b3 bo hxb hc0 ⟨rfl,Nat.le_refl _,by omega⟩ hb3))
  (fun id' hid'=>by
   simp only [iv] at hid'
   by_cases hid:id=id'
   ·simp [hid] at hid'
   ·rw [if_neg hid] at hid'
    exact h.dom id' hid')
  h.inj
  (fun b o' p=>by
   obtain ⟨v,hv⟩:=h.pubok b o' p
   exact ⟨v,by rw [hx'.cell b o' p,hv]⟩)
  ⟨q1.trans h.frame.os,q2.trans h.frame.tape,q3.trans h.frame.output,by rw [q4];exact h.frame.size,
   fun b hb hnb=>(q5 b (fun e=>by
    subst e
    have:=(e2 off _ (List.getElem?_eq_getElem (by omega))).1
    rcases this with k | k
    ·omega
    ·exact hnb _ k)).trans (h.frame.block b hb hnb),
   fun b o' hb hnb=>(hout b o' (fun e=>by
    subst e
    rcases Decidable.em (o' < bo+off∨bo+off+pv.length<=o') with k | k
    ·exact k
    ·obtain ⟨j,c0,rfl,hj⟩:=hrange b o' rfl k
     rcases (e2 j c0 hj).1 with k2 | k2
     ·omega
     ·exact absurd k2 hnb)).trans (h.frame.cell b o' hb hnb),
   fun b hb hnb=>⟨(q6 b).trans (h.frame.kind b hb hnb).1,fun o'=>(World.frozen?_setCells g _ _ _ _).trans ((h.frame.kind b hb hnb).2 o')⟩,
   h.frame.pub,h.frame.old,fun b o hp=>(hx'.cell b o (h.frame.old b o hp)).trans (h.frame.pcell b o hp)⟩
 exact ⟨hst,hh⟩
theorem Ay (hT:bH P C.tbl) {t:Nat} {x y:Operand} (hop:o.op=.store t x y) {r:TR} (hr:aT C.tbl t=some r) {id i w off:Nat} {F:Fr} {s:AS} {a:Act} {Ω:Om} {eff:Eff}
  {next:Act→World→Prop} {Q:Exit→Act→World→Prop} (hopd:opd s.T x=.aptr id i w off) {τ:Ty} {xs:List (den τ)} (hcs:s.B id=some (.box (.row τ xs)))
  (h:Holds F s a Ω) (hpos:0 < r.size) (hd:∀d,o.dst=some d→d < F.n) (he:pF r id τ xs i w off (opd s.T y)=some eff) (ho:eff.asks)
  (hn:∀a' Ω',Holds F (s.put o.dst eff) a' Ω'→next a' Ω'.w):o.wp P a Ω.w next Q:=by
 have hx:=bC h x
 have hy:=bC h y
 rw [hopd] at hx
 obtain ⟨g,bo,len,hxv,hxb⟩:=hx.aptr_inv
 unfold pF at he
 split at he
 ·rename_i hw
  subst hw
  split at he
  ·rename_i c2 hst
   split at he
   ·rename_i x' hx'
    simp only [Xs] at he
    subst he
    have hi:i < xs.length:=ho
    obtain ⟨hlf,hlen,ds,hds,hpc⟩:=mQ hst
    have hyp:=hy.parts hlf
    have hyl':(a.eval y).cells.size=r.size:=by
     have:=hyp.1
     rw [hlen] at this
     simpa using this.symm
    rw [l6] at hds
    have hsplit:∀z:den τ,bg τ (xs.set i z)=bg τ (xs.take i)++cells τ z++bg τ (xs.drop (i+1)):=by
     intro z
     rw [List.set_eq_take_append_cons_drop,if_pos hi,fh]
     simp [bg]
    have hself:bg τ xs=bg τ (xs.take i)++cells τ (xs.getD i (dfl τ))++bg τ (xs.drop (i+1)):=by
     rw [←hsplit]
     congr 1
     simp [List.getD_eq_getElem?_getD,hi]
    have htl:(bg τ (xs.take i)).length=i *ac τ:=by rw [bO,List.length_take,Nat.min_eq_left (Nat.le_of_lt hi)]
    have hbig:splice (aa (.row τ xs)) (i *ac τ+off) (aa (opd s.T y))=some (bg τ (xs.take i)++ds++bg τ (xs.drop (i+1))):=by
     show splice (bg τ xs) _ _=_
     rw [hself]
     exact pU _ _ _ _ _ _ _ hds htl
    have hrd:RdL (bg τ (xs.take i)++ds++bg τ (xs.drop (i+1))) (aa (.row τ (xs.set i x'))):=by
     show RdL _ (bg τ (xs.set i x'))
     rw [hsplit]
     exact ((RdL.refl _).append (by rw [←hpc];exact dg τ hx')).append (RdL.refl _)
    obtain ⟨hst,hh⟩:=h.store (P:=P) (dst:=o.dst) (c':=.row τ (xs.set i x')) hcs hxb hbig hyp hlf hrd (by omega) hd
    refine ko (w':=Ω.w.setCells g (bo+(i *ac τ+off)) (a.eval y).cells.toList) ?_ (hn _ _ hh)
    simp only [execOp,hop,hxv,Instr.storeAt,Instr.sureAddr,storeVar,Sem.run_bind,Sem.run_pure,Result.andThen_ok,(hT t r hr).tf.size,hyl']
    simp only [ne_eq,not_true_eq_false,if_false,hst,Result.andThen_ok]
   ·simp at he
  ·simp at he
 ·simp at he
theorem Holds.tell {F:Fr} {s:AS} {a:Act} {Ω:Om} (h:Holds F s a Ω) {k m b cap:Nat} {τ:Ty} {x0 x:den τ} {vs:List Value} {dst:Option Nat}
  (hB:s.B k=some (.tailp τ m x0)) (he:Ω.e k=some (.tail (m+1) (some b) cap)) (hvl:VL Ω (cells τ x) vs) (hd:∀d,dst=some d→d < F.n) :
  ∃Ω',(storeCells ⟨b,m *ac τ,none⟩ vs 0).run P Ω.w=.ok () Ω'.w/\Holds F ⟨cE s.T dst .undef,updB s.B [(k,.tailp τ m x)]⟩ (a.put dst undef) Ω':=by
 obtain ⟨b',cap',e1,e2,e3,hown,⟨cur,ty,fz,hg,hfz,hfit⟩,hpub,_⟩:=h.slots k _ hB
 rw [he] at e1
 simp only [Xs,CObj.tail.injEq,true_and] at e1
 obtain ⟨rfl,rfl⟩:=e1
 have hvn:vs.length=ac τ:=by rw [←hvl.1,bn]
 have hmul:(m+1) *ac τ<=cap *ac τ:=Nat.mul_le_mul_right _ e2
 rw [Nat.add_mul,Nat.one_mul] at hmul
 have hst:=run_storeCells_atF P b (m *ac τ) ty fz vs 0 cur Ω.w hg (by simpa using hfz) (by simp;omega) (hvl.leaf_one (pJ τ x))
 simp only [Nat.add_zero] at hst
 have hg':=setRow_heap Ω.w b cur (cur.toList.take (m *ac τ)++vs++cur.toList.drop (m *ac τ+vs.length)).toArray ty fz hg
 have hsz:(cur.toList.take (m *ac τ)++vs++cur.toList.drop (m *ac τ+vs.length)).toArray.size=cur.size:=by simp;omega
 obtain ⟨q1,q2,q3,q4⟩:=nE Ω.w b (cur.toList.take (m *ac τ)++vs++cur.toList.drop (m *ac τ+vs.length)).toArray
 have hcellold:∀b' o,Ω.pub b' o→(Ω.w.setRow b (cur.toList.take (m *ac τ)++vs++cur.toList.drop (m *ac τ+vs.length)).toArray).cell? ⟨b',o,none⟩=Ω.w.cell? ⟨b',o,none⟩:=by
  intro b' o hp
  by_cases hb:b'=b
  ·subst hb
   rw [aM hg',aM hg]
   have hlt:o < m *ac τ:=by
    rcases Nat.lt_or_ge o (m *ac τ) with k | k
    ·exact k
    ·exact absurd hp (hpub o k)
   simp only [List.getElem?_toArray]
   rw [List.append_assoc,List.getElem?_append_left (by simp;omega),List.getElem?_take,if_pos hlt,Array.getElem?_toList]
  ·exact ay (setRow_other _ _ _ _ hb) o
 have hx:Ext Ω ⟨fun i=>if k=i then some (.tail (m+1) (some b) cap) else Ω.e i,
   Ω.w.setRow b (cur.toList.take (m *ac τ)++vs++cur.toList.drop (m *ac τ+vs.length)).toArray,Ω.pub⟩:=by
  refine ⟨fun i c hc=>?_,fun _ _ p=>p,hcellold⟩
  by_cases hi:k=i
  ·subst hi
   rw [he] at hc
   simp at hc
   subst hc
   exact ⟨_,by simp,CLe.refl _⟩
  ·exact ⟨c,by simp [hi,hc],CLe.refl c⟩
 refine ⟨_,hst,h.slot hx ?_ (fun i c' hi hc=>mL.of_blocks fun b' o hb=>?_) (fun i c' b' o hi hc hb hb'=>hi (h.inj i k _ _ b' o hc he hb hb')) (fun b' o hp=>?_) ?_ (.undef _) hd⟩
 ·refine ⟨b,cap,by simp,e2,e3,hown,⟨_,ty,fz,hg',hfz,by rw [hsz];exact hfit⟩,hpub,fun j c hc=>?_⟩
  have hj:j < vs.length:=by
   rw [←hvl.1]
   rcases Nat.lt_or_ge j (cells τ x).length with q | q
   ·exact q
   ·rw [List.getElem?_eq_none q] at hc;cases hc
  refine ⟨vs[j],?_,(hvl.2 j c _ hc (List.getElem?_eq_getElem hj)).ext hx⟩
  show World.cell? _ _=_
  rw [aM hg']
  have htl:(List.take (m *ac τ) cur.toList).length=m *ac τ:=by simp;omega
  simp only [List.getElem?_toArray]
  rw [List.append_assoc,List.getElem?_append_right (by omega),htl,Nat.add_sub_cancel_left,List.getElem?_append_left hj,List.getElem?_eq_getElem hj]
 ·have hbg:b'≠b:=fun e=>by
   subst e
   exact hi (h.inj i k _ _ b' o hc he hb rfl)
  exact ⟨setRow_other _ _ _ _ hbg,fun o ho'=>ho'⟩
 ·obtain ⟨v,hv⟩:=h.pubok b' o hp
  exact ⟨v,by rw [hcellold b' o hp,hv]⟩
 ·have hnotold:∀b',b' < F.w0.heap.size→(¬∀o,F.br b' o)→b'≠b:=by
   intro b' hb hnb e
   subst e
   refine hnb (fun o=>?_)
   rcases hown o with ho' | ho'
   ·omega
   ·exact ho'
  refine ⟨q1.trans h.frame.os,q2.trans h.frame.tape,q3.trans h.frame.output,by rw [q4];exact h.frame.size,fun b' hb hnb=>?_,fun b' o hb hnb=>?_,fun b' hb=>?_,h.frame.pub,h.frame.old,fun b' o hp=>(hx.cell b' o (h.frame.old b' o hp)).trans (h.frame.pcell b' o hp)⟩
  ·exact (setRow_other _ _ _ _ (hnotold b' hb (fun k=>hnb 0 (k 0)))).trans (h.frame.block b' hb hnb)
  ·exact (ay (setRow_other _ _ _ _ (hnotold b' hb (fun k=>hnb (k o)))) o).trans (h.frame.cell b' o hb hnb)
  ·intro hnb
   have hbg:=hnotold b' hb hnb
   exact ⟨(bA (setRow_other _ _ _ _ hbg)).trans (h.frame.kind b' hb hnb).1,fun o=>(ba (setRow_other _ _ _ _ hbg) o).trans ((h.frame.kind b' hb hnb).2 o)⟩
theorem CT (hT:bH P C.tbl) {t:Nat} {x y:Operand} (hop:o.op=.store t x y):cG P C o:=by
 intro F s a Ω eff next Q h hd he ho hn
 simp only [aG,hop] at he
 have hx:=bC h x
 have hy:=bC h y
 split at he
 ·rename_i r hr
  split at he
  ·rename_i hz
   split at he
   ·rename_i id off hopd hpa
    simp only [Xs] at he
    subst he
    rw [hopd] at hx
    obtain ⟨g,bo,len,hxv,hxb⟩:=hx.ptr_inv
    have hp:=hy.parts (by rw [hpa];rfl)
    have hnil:(a.eval y).cells.toList=[]:=by
     have:=hp.1
     rw [hpa] at this
     exact List.length_eq_zero_iff.1 this.symm
    have hsz:(a.eval y).cells.size=r.size:=by rw [hz,←Array.length_toList,hnil];rfl
    refine ko (w':=Ω.w) ?_ (hn _ _ (h.pure (.undef _) hd))
    simp only [execOp,hop,hxv,Instr.storeAt,Instr.sureAddr,storeVar,Sem.run_bind,Sem.run_pure,Result.andThen_ok,(hT t r hr).tf.size,hsz]
    simp only [ne_eq,not_true_eq_false,if_false,hnil]
    rfl
   ·simp at he
  rename_i hsz0
  have hpos:0 < r.size:=by rw [hsz0];exact Nat.succ_pos _
  split at he
  ·rename_i id off hopd
   rw [hopd] at hx
   obtain ⟨g,bo,len,hxv,hxb⟩:=hx.ptr_inv
   split at he
   ·rename_i c hcs
    split at he
    ·rename_i c' hst
     simp only [Xs] at he
     subst he
     obtain ⟨hlf,hlen,ds,hds,hpc⟩:=mQ hst
     have hyp:=hy.parts hlf
     have hyl':(a.eval y).cells.size=r.size:=by
      have:=hyp.1
      rw [hlen] at this
      simpa using this.symm
     obtain ⟨hst,hh⟩:=h.store (P:=P) (dst:=o.dst) hcs hxb hds hyp hlf (by rw [hpc];exact RdL.refl _) (by omega) hd
     refine ko (w':=Ω.w.setCells g (bo+off) (a.eval y).cells.toList) ?_ (hn _ _ hh)
     simp only [execOp,hop,hxv,Instr.storeAt,Instr.sureAddr,storeVar,Sem.run_bind,Sem.run_pure,Result.andThen_ok,(hT t r hr).tf.size,hyl']
     simp only [ne_eq,not_true_eq_false,if_false,hst,Result.andThen_ok]
    ·simp at he
   ·simp at he
  ·rename_i id i w off hopd
   split at he
   ·rename_i τ xs hcs
    exact Ay hT hop hr hopd hcs h hpos hd he ho hn
   ·simp at he
  ·rename_i τ n k hopd
   rw [hopd] at hx
   split at he
   ·rename_i τ' m x0 hB
    split at he
    ·rename_i hτ
     subst hτ
     split at he
     ·rename_i v hv
      split at he
      ·rename_i hck
       simp only [Xs] at he
       subst he
       have hnm:n=m:=ho
       subst hnm
       simp only [Bool.and_eq_true,Nat.beq_eq] at hck
       obtain ⟨hlf,hln,hrw⟩:=hck
       have hlen:=cn _ _ hln
       have hyp:=hy.parts hlf
       have hyl':(a.eval y).cells.size=r.size:=by
        have:=hyp.1
        rw [hlen] at this
        simpa using this.symm
       generalize hxe:a.eval x=xv at hx
       cases hx with
       | tptr _ _ _ p hp=>
        obtain ⟨b',cap',e1,e2,_⟩:=h.slots k _ hB
        obtain ⟨m',base,cap2,r1,r2,r3⟩:=hp
        rw [e1] at r1
        simp only [Xs,CObj.tail.injEq] at r1
        obtain ⟨rfl,rfl,rfl⟩:=r1
        obtain ⟨b2,g1,rfl⟩:=r3 rfl
        simp only [Xs] at g1
        subst g1
        obtain ⟨Ω',hst,hh⟩:=h.tell (P:=P) (dst:=o.dst) hB e1 (hyp.rd (dg _ hv)) hd
        refine ko (w':=Ω'.w) ?_ (hn _ _ hh)
        simp only [execOp,hop,hxe,Instr.storeAt,Instr.sureAddr,storeVar,Sem.run_bind,Sem.run_pure,Result.andThen_ok,(hT t r hr).tf.size,hyl']
        simp only [ne_eq,not_true_eq_false,if_false,hst,Result.andThen_ok]
      ·simp at he
     ·simp at he
    ·simp at he
   ·simp at he
  ·simp at he
 ·simp at he
theorem uX (w:World) (t ty e:Nat) (i:TypeInfo) (ht:P.underlying t=some (.slice e)) (hi:P.info? e=some i)
  (g sLen sCap bt:Nat) (cur:Array Value) (fz:Nat × Nat) (hg:w.heap[g]?=some (.cells cur bt fz)) (hfz:fz.2<=sLen *i.size)
  (a:Addr) (m c:Nat) (news:List Value) (hl:news.length=m *i.size) (hnews:∀j u,news[j]?=some u→w.cell? (a.add j)=some u) (h1:∀u∈news,u.oneCell'=true)
  (hroom:sLen+m<=sCap) (hfit:sLen *i.size+news.length<=cur.size) :
  (Builtin.append_ #[t,t] ty #[.slice (some ⟨g,0,none⟩) sLen sCap,.slice (some a) m c]).run P w=
   .ok (.slice (some ⟨g,0,none⟩) (sLen+m) sCap) (w.setRow g (cur.toList.take (sLen *i.size)++news++cur.toList.drop (sLen *i.size+news.length)).toArray):=by
 have hf:=run_firstCells_some (P:=P) w i.size m a m c news hl hnews
 have hst:=run_storeCells_atF P g (sLen *i.size) bt fz news 0 cur w hg (by simpa using hfz) (by simpa using hfit) h1
 simp only [Nat.add_zero] at hst
 simp [Builtin.append_,run_underlying ht,sizeOf,typeInfo,hi,Builtin.lenOf,hroom,hf,Addr.add_lit,hst]
theorem je (w:World) (t ty e:Nat) (i:TypeInfo) (ht:P.underlying t=some (.slice e)) (hi:P.info? e=some i)
  (x:Option Addr) (sLen sCap:Nat) (h:sLen<=sCap) :
  (Builtin.append_ #[t,t] ty #[.slice x sLen sCap,.slice none 0 0]).run P w=.ok (.slice x sLen sCap) w:=by
 cases x <;> simp [Builtin.append_,run_underlying ht,sizeOf,typeInfo,hi,Builtin.lenOf,h,Builtin.firstCells,storeCells]
theorem lJ (w:World) (t ty e:Nat) (i:TypeInfo) (ht:P.underlying t=some (.slice e)) (hi:P.info? e=some i) (a:Addr) (c:Nat) :
  (Builtin.append_ #[t,t] ty #[.slice none 0 0,.slice (some a) 0 c]).run P w=.ok (.slice none 0 0) w:=by
 have hf:=run_firstCells_some (P:=P) w i.size 0 a 0 c [] (by simp) (fun j v h=>by simp at h)
 simp [Builtin.append_,run_underlying ht,sizeOf,typeInfo,hi,Builtin.lenOf,hf]
theorem l8 (b off j:Nat):(⟨b,off,none⟩:Addr).add j=⟨b,off+j,none⟩:=by
 unfold Addr.add
 split <;> simp_all
theorem V.src {Ω:Om} {τ:Ty} {ys:List (den τ)} {o:Option Nat} {v:Value} (h:V Ω (.lst τ ys o) v) :
  (v=.slice none 0 0/\ys=[])∨∃a c us,v=.slice (some a) ys.length c/\us.length=ys.length *ac τ/\VL Ω (bg τ ys) us/\
   (∀j u,us[j]?=some u→Ω.w.cell? (a.add j)=some u)/\(∀u∈us,u.oneCell'=true):=by
 rcases h.lst_inv with ⟨h1,hv,_⟩ | ⟨h1,_,a0,hv⟩ | ⟨b,off,cap,vals,hv,h1,h2,h3,h4,h5⟩
 ·exact Or.inl ⟨hv,h1⟩
 ·subst h1
  exact Or.inr ⟨a0,0,[],hv,by simp,⟨rfl,fun j c v hc=>by simp [bg] at hc⟩,fun j u hj=>by simp at hj,fun u hu=>by simp at hu⟩
 ·obtain ⟨us,u1,u2,u3⟩:=V.row_cells h4 h5
  refine Or.inr ⟨⟨b,off,none⟩,cap,us,hv,u1,u2,fun j u hj=>?_,u2.leaf_one (Aq τ ys)⟩
  rw [l8]
  exact u3 j u hj
theorem gJ (w:World) (aX old e:Nat) (h:aX<=ck):aX<=grownCap w aX old e/\grownCap w aX old e<=ck:=by
 have h1:=grownCap_ge w aX old e
 have h2:=grownCap_le_maxLen w aX old e (by unfold ck at h;unfold maxLen;omega)
 unfold maxLen at h2
 unfold ck
 exact ⟨h1,by omega⟩
theorem Holds.grow {F:Fr} {s:AS} {a:Act} {Ω:Om} {k aX old e:Nat} {τ:Ty} {zs:List (den τ)} {rest:List Value} {us:List Value} {dst:Option Nat}
  (h:Holds F s a Ω) (hn:Ω.e k=none∨∃n base cap,Ω.e k=some (.tail n base cap)/\n < zs.length) (hz:zs.length=aX) (hneed:aX<=ck)
  (hu:VL Ω (bg τ zs) us) (hrest:rest.length=(grownCap Ω.w aX old e - aX) *ac τ) (hd:∀d,dst=some d→d < F.n) :
  ∃Ω',Ω'.w=Ω.w.drew.alloc (.cells (us++rest).toArray e)/\
   Holds F ⟨cE s.T dst (.lst τ zs (some k)),updB s.B [(k,.tail τ zs.length)]⟩ (a.put dst (.slice (some ⟨Ω.w.heap.size,0,none⟩) aX (grownCap Ω.w aX old e))) Ω':=by
 subst hz
 obtain ⟨g1,g2⟩:=gJ Ω.w zs.length old e hneed
 have hul:us.length=zs.length *ac τ:=by rw [←hu.1,bO]
 have hx0:Ext Ω ⟨Ω.e,Ω.w.drew,Ω.pub⟩:=⟨fun _ c hc=>⟨c,hc,CLe.refl c⟩,fun _ _ p=>p,fun _ _ _=>rfl⟩
 have h':=h.drew
 refine ⟨_,rfl,h'.alloc (d:=k) (c:=.tail zs.length (some Ω.w.heap.size) (grownCap Ω.w zs.length old e)) (x:=.cells (us++rest).toArray e) (p:=fun o=>o < zs.length *ac τ) ?_ (fun b o hb=>by simpa [occ] using hb.symm)
  (fun hx=>?_) (fun o ho=>?_) (fun hx=>?_) hd⟩
 ·rcases hn with hn | ⟨n,base,cap,hn,hlt⟩
  ·exact Or.inl hn
  ·exact Or.inr ⟨_,hn,by simp [CLe];omega⟩
 ·refine ⟨some Ω.w.heap.size,grownCap Ω.w zs.length old e,by simp,g1,g2,by simp,fun b hb=>?_⟩
  simp at hb
  subst hb
  refine ⟨fun _=>Or.inl h.frame.size,_,e,(0,0),cJ _ _,Nat.zero_le _,?_,fun o ho hp=>?_⟩
  ·simp [hul,hrest,←Nat.add_mul]
   rw [show zs.length+(grownCap Ω.w zs.length old e - zs.length)=grownCap Ω.w zs.length old e from by omega]
   exact Nat.le_refl _
  ·rcases hp with hp | ⟨_,hp⟩
   ·have:=h.cell_lt hp;omega
   ·omega
 ·have hc:=aM (cJ Ω.w.drew (.cells (us++rest).toArray e)) o
  exact ⟨us[o]'(by omega),hc.trans (by simp [List.getElem?_append,hul,ho])⟩
 ·refine ow (vs:=us) (cJ _ _) (by rw [←hul];simp) ((hu.ext hx0).ext hx) g1 g2 (fun i hi=>Or.inr ⟨rfl,hi⟩) ?_
  intro id hid
  simp at hid
  subst hid
  exact ⟨zs.length,some Ω.w.heap.size,_,by simp,Nat.le_refl _,fun _=>rfl⟩
theorem Holds.same {F:Fr} {s:AS} {a:Act} {Ω:Om} {k:Nat} {τ:Ty} {xs:List (den τ)} {n:Nat} {v:Value} {dst:Option Nat}
  (h:Holds F s a Ω) (hB:s.B k=some (.tail τ n)) (hn:xs.length=n) (hv:V Ω (.lst τ xs (some k)) v) (hd:∀d,dst=some d→d < F.n) :
  Holds F ⟨cE s.T dst (.lst τ (xs++[]) (some k)),updB s.B [(k,.tail τ (xs++[]).length)]⟩ (a.put dst v) Ω:=by
 have e:updB s.B [(k,.tail τ (xs++[]).length)]=s.B:=by
  funext j
  rw [iv]
  by_cases hj:k=j
  ·subst hj
   simp [hB,hn]
  ·simp [hj]
 rw [e,List.append_nil]
 exact h.pure hv hd
theorem Holds.room {F:Fr} {s:AS} {a:Act} {Ω:Om} {k g cap ty:Nat} {τ:Ty} {xs ys:List (den τ)} {cur:Array Value} {olds news:List Value} {dst:Option Nat}
  (h:Holds F s a Ω) (he:Ω.e k=some (.tail xs.length (some g) cap)) (hown:∀o,F.own g o) {fz:Nat × Nat} (hg:Ω.w.heap[g]?=some (.cells cur ty fz)) (hfz:fz.2<=xs.length *ac τ)
  (hfit:cap *ac τ<=cur.size) (hpub:∀o,xs.length *ac τ<=o→¬Ω.pub g o) (hroom:xs.length+ys.length<=cap) (hcap:cap<=ck)
  (ho:VL Ω (bg τ xs) olds) (hoc:∀j u,olds[j]?=some u→Ω.w.cell? ⟨g,j,none⟩=some u) (hnw:VL Ω (bg τ ys) news)
  (hxp:∀i,i < xs.length *ac τ→Ω.pub g i) (hd:∀d,dst=some d→d < F.n) :
  ∃Ω',Ω'.w=Ω.w.setRow g (cur.toList.take (xs.length *ac τ)++news++cur.toList.drop (xs.length *ac τ+news.length)).toArray/\
   Holds F ⟨cE s.T dst (.lst τ (xs++ys) (some k)),updB s.B [(k,.tail τ (xs++ys).length)]⟩ (a.put dst (.slice (some ⟨g,0,none⟩) (xs.length+ys.length) cap)) Ω':=by
 have hol:olds.length=xs.length *ac τ:=by rw [←ho.1,bO]
 have hnl:news.length=ys.length *ac τ:=by rw [←hnw.1,bO]
 have hmul:(xs.length+ys.length) *ac τ<=cap *ac τ:=Nat.mul_le_mul_right _ hroom
 rw [Nat.add_mul] at hmul
 have htake:cur.toList.take (xs.length *ac τ)=olds:=by
  apply List.ext_getElem?
  intro j
  rw [List.getElem?_take]
  split
  ·rename_i hj
   obtain ⟨u,hu⟩:∃u,olds[j]?=some u:=⟨_,List.getElem?_eq_getElem (by omega)⟩
   have:=hoc j u hu
   rw [aM hg] at this
   rw [hu,Array.getElem?_toList,this]
  ·rename_i hj
   rw [List.getElem?_eq_none (by omega)]
 have hg':=setRow_heap Ω.w g cur (cur.toList.take (xs.length *ac τ)++news++cur.toList.drop (xs.length *ac τ+news.length)).toArray ty fz hg
 have hsz:(cur.toList.take (xs.length *ac τ)++news++cur.toList.drop (xs.length *ac τ+news.length)).toArray.size=cur.size:=by simp;omega
 obtain ⟨q1,q2,q3,q4⟩:=nE Ω.w g (cur.toList.take (xs.length *ac τ)++news++cur.toList.drop (xs.length *ac τ+news.length)).toArray
 have hcellold:∀b o,Ω.pub b o→(Ω.w.setRow g (cur.toList.take (xs.length *ac τ)++news++cur.toList.drop (xs.length *ac τ+news.length)).toArray).cell? ⟨b,o,none⟩=Ω.w.cell? ⟨b,o,none⟩:=by
  intro b o hp
  by_cases hb:b=g
  ·subst hb
   rw [aM hg',aM hg]
   have hlt:o < xs.length *ac τ:=by
    rcases Nat.lt_or_ge o (xs.length *ac τ) with k | k
    ·exact k
    ·exact absurd hp (hpub o k)
   simp only [List.getElem?_toArray]
   rw [List.append_assoc,List.getElem?_append_left (by simp;omega),List.getElem?_take,if_pos hlt,Array.getElem?_toList]
  ·exact ay (setRow_other _ _ _ _ hb) o
 have hx:Ext Ω ⟨fun i=>if k=i then some (.tail (xs.length+ys.length) (some g) cap) else Ω.e i,
   Ω.w.setRow g (cur.toList.take (xs.length *ac τ)++news++cur.toList.drop (xs.length *ac τ+news.length)).toArray,
   fun b o=>Ω.pub b o∨(b=g/\o < (xs.length+ys.length) *ac τ)⟩:=by
  refine ⟨fun i c hc=>?_,fun _ _ p=>Or.inl p,hcellold⟩
  by_cases hi:k=i
  ·subst hi
   rw [he] at hc
   simp at hc
   subst hc
   exact ⟨_,by simp;rfl,by simp [CLe]⟩
  ·exact ⟨c,by simp [hi,hc],CLe.refl c⟩
 have hzl:(xs++ys).length=xs.length+ys.length:=List.length_append
 refine ⟨_,rfl,h.slot hx ?_ (fun i c' hi hc=>mL.of_blocks fun b o hb=>?_) (fun i c' b o hi hc hb hb'=>?_) (fun b o hp=>?_) ?_ ?_ hd⟩
 ·rw [hzl]
  refine ⟨some g,cap,by simp,hroom,hcap,by simp,fun b hb=>?_⟩
  simp at hb
  subst hb
  refine ⟨hown,_,ty,fz,hg',by rw [Nat.add_mul];omega,by rw [hsz];exact hfit,fun o ho' hp=>?_⟩
  rw [Nat.add_mul] at ho'
  rcases hp with hp | ⟨_,hp⟩
  ·exact hpub o (by omega) hp
  ·rw [Nat.add_mul] at hp;omega
 ·have hbg:b≠g:=fun e=>by
   subst e
   exact hi (h.inj i k _ _ b o hc he hb rfl)
  exact ⟨setRow_other _ _ _ _ hbg,fun o ho'=>ho'.resolve_right (fun e=>hbg e.1)⟩
 ·exact hi (h.inj i k _ _ b o hc he hb hb')
 ·rcases hp with hp | ⟨rfl,hp⟩
  ·obtain ⟨v,hv⟩:=h.pubok b o hp
   exact ⟨v,by rw [hcellold b o hp,hv]⟩
  ·rw [aM hg']
   rw [Nat.add_mul] at hp
   exact ⟨_,Array.getElem?_eq_getElem (by rw [hsz];omega)⟩
 ·have hnotold:∀b,b < F.w0.heap.size→(¬∀o,F.br b o)→b≠g:=by
   intro b hb hnb e
   subst e
   refine hnb (fun o=>?_)
   rcases hown o with ho' | ho'
   ·omega
   ·exact ho'
  refine ⟨q1.trans h.frame.os,q2.trans h.frame.tape,q3.trans h.frame.output,by rw [q4];exact h.frame.size,fun b hb hnb=>?_,fun b o hb hnb=>?_,fun b hb=>?_,fun b o hp=>?_,fun b o hp=>Or.inl (h.frame.old b o hp),fun b o hp=>(hx.cell b o (h.frame.old b o hp)).trans (h.frame.pcell b o hp)⟩
  ·exact (setRow_other _ _ _ _ (hnotold b hb (fun k=>hnb 0 (k 0)))).trans (h.frame.block b hb hnb)
  ·exact (ay (setRow_other _ _ _ _ (hnotold b hb (fun k=>hnb (k o)))) o).trans (h.frame.cell b o hb hnb)
  ·intro hnb
   have hbg:=hnotold b hb hnb
   exact ⟨(bA (setRow_other _ _ _ _ hbg)).trans (h.frame.kind b hb hnb).1,fun o=>(ba (setRow_other _ _ _ _ hbg) o).trans ((h.frame.kind b hb hnb).2 o)⟩
  ·rcases hp with hp | ⟨rfl,_⟩
   ·exact h.frame.pub b o hp
   ·exact Or.inr (hown o)
 ·have:=ow (Ω:=⟨fun i=>if k=i then some (.tail (xs.length+ys.length) (some g) cap) else Ω.e i,
   Ω.w.setRow g (cur.toList.take (xs.length *ac τ)++news++cur.toList.drop (xs.length *ac τ+news.length)).toArray,
   fun b o=>Ω.pub b o∨(b=g/\o < (xs.length+ys.length) *ac τ)⟩) (τ:=τ) (xs:=xs++ys) (o:=some k) (cap:=cap) (vs:=olds++news) hg'
   (by
    rw [hzl,htake]
    rw [List.take_append_of_le_length (by simp [hol,hnl,Nat.add_mul]),List.take_of_length_le (by simp [hol,hnl,Nat.add_mul])])
   (by rw [fh];exact (ho.ext hx).append (hnw.ext hx)) (by rw [hzl];exact hroom) hcap
   (fun i hi=>by
    rw [hzl] at hi
    exact Or.inr ⟨rfl,hi⟩)
   (by
    intro id hid
    simp at hid
    subst hid
    exact ⟨xs.length+ys.length,some g,cap,by simp,by rw [hzl];exact Nat.le_refl _,fun _=>by rw [hzl];rfl⟩)
  rw [hzl] at this
  exact this
theorem aP {w w':World} {a:Act} {x y:Operand} {t t':Nat} {v:Value} (hop:o.op=.call {callee:=.builtin .append,args:=#[x,y],argTypes:=#[t,t']})
  (h:(Builtin.append_ #[t,t'] o.type #[a.eval x,a.eval y]).run P w=.ok v w'):(execOp a.eval o).run P w=.ok (.value v) w':=by
 simp [execOp,hop,resolve,invoke,builtin,h]
theorem V.mkP {Ω:Om} {τ:Ty} {xs:List (den τ)} {k g cap:Nat} (hv:V Ω (.lst τ xs none) (.slice (some ⟨g,0,none⟩) xs.length cap)) (hc:xs.length+1<=cap)
  (ht:gx Ω (some k) (xs.length+1) (.slice (some ⟨g,0,none⟩) (xs.length+1) cap)):V Ω (.lstp τ xs k) (.slice (some ⟨g,0,none⟩) (xs.length+1) cap):=by
 rcases hv.lst_inv with ⟨_,hv,_⟩ | ⟨_,_,a0,hv⟩ | ⟨b,off,cap',vals,hv,h1,h2,h3,h4,h5⟩
 ·cases hv
 ·simp only [Value.slice.injEq] at hv;omega
 ·simp only [Value.slice.injEq,Xs,Addr.mk.injEq,true_and,and_true] at hv
  obtain ⟨⟨rfl,rfl⟩,rfl⟩:=hv
  exact .lstp τ xs k g 0 cap vals hc h2 ht h4 h5
theorem Holds.growP {F:Fr} {s:AS} {a:Act} {Ω:Om} {k aX old e:Nat} {τ:Ty} {xs:List (den τ)} {z:den τ} {rest us:List Value} {dst:Option Nat}
  (h:Holds F s a Ω) (hn:Ω.e k=none∨∃n base cap,Ω.e k=some (.tail n base cap)/\n < xs.length+1) (hz:aX=xs.length+1) (hneed:aX<=ck)
  (hu:VL Ω (bg τ (xs++[z])) us) (hrest:rest.length=(grownCap Ω.w aX old e - aX) *ac τ) (hd:∀d,dst=some d→d < F.n) :
  ∃Ω',Ω'.w=Ω.w.drew.alloc (.cells (us++rest).toArray e)/\
   Holds F ⟨cE s.T dst (.lstp τ xs k),updB s.B [(k,.tailp τ xs.length z)]⟩ (a.put dst (.slice (some ⟨Ω.w.heap.size,0,none⟩) aX (grownCap Ω.w aX old e))) Ω':=by
 subst hz
 obtain ⟨g1,g2⟩:=gJ Ω.w (xs.length+1) old e hneed
 have hul:us.length=(xs.length+1) *ac τ:=by rw [←hu.1,bO];simp
 have hmul:(xs.length+1) *ac τ=xs.length *ac τ+ac τ:=by rw [Nat.add_mul,Nat.one_mul]
 have hx0:Ext Ω ⟨Ω.e,Ω.w.drew,Ω.pub⟩:=⟨fun _ c hc=>⟨c,hc,CLe.refl c⟩,fun _ _ p=>p,fun _ _ _=>rfl⟩
 have h':=h.drew
 have hflat:bg τ (xs++[z])=bg τ xs++cells τ z:=by rw [fh];simp [bg]
 have hfl:(bg τ xs).length=xs.length *ac τ:=bO τ xs
 have hua:VL Ω (bg τ xs) (us.take (xs.length *ac τ)):=by
  have:=hu
  rw [hflat] at this
  refine ⟨by simp;omega,fun j c v hc hv=>?_⟩
  have hj:j < (bg τ xs).length:=by
   rcases Nat.lt_or_ge j (bg τ xs).length with q | q
   ·exact q
   ·rw [List.getElem?_eq_none q] at hc;cases hc
  refine this.2 j c v (by rw [List.getElem?_append_left hj];exact hc) ?_
  rw [List.getElem?_take] at hv
  split at hv
  ·exact hv
  ·cases hv
 have hsize:xs.length *ac τ+ac τ<=(us++rest).toArray.size:=by simp;omega
 refine ⟨_,rfl,h'.alloc (d:=k) (c:=.tail (xs.length+1) (some Ω.w.heap.size) (grownCap Ω.w (xs.length+1) old e)) (x:=.cells (us++rest).toArray e) (p:=fun o=>o < xs.length *ac τ) ?_ (fun b o hb=>by simpa [occ] using hb.symm)
  (fun hx=>?_) (fun o ho=>?_) (fun hx=>?_) hd⟩
 ·rcases hn with hn | ⟨n,base,cap,hn,hlt⟩
  ·exact Or.inl hn
  ·exact Or.inr ⟨_,hn,by simp [CLe];omega⟩
 ·refine ⟨Ω.w.heap.size,grownCap Ω.w (xs.length+1) old e,by simp,g1,g2,fun _=>Or.inl h.frame.size,⟨_,e,(0,0),cJ _ _,Nat.zero_le _,?_⟩,fun o ho hp=>?_,fun j c hc=>?_⟩
  ·simp [hul,hrest,←Nat.add_mul]
   rw [show xs.length+1+(grownCap Ω.w (xs.length+1) old e - (xs.length+1))=grownCap Ω.w (xs.length+1) old e from by omega]
   exact Nat.le_refl _
  ·rcases hp with hp | ⟨_,hp⟩
   ·have:=h.cell_lt hp;omega
   ·omega
  ·have hj:j < ac τ:=by
    rw [←bn τ z]
    rcases Nat.lt_or_ge j (cells τ z).length with q | q
    ·exact q
    ·rw [List.getElem?_eq_none q] at hc;cases hc
   have hjl:xs.length *ac τ+j < us.length:=by omega
   refine ⟨us[xs.length *ac τ+j],?_,?_⟩
   ·have hcell:=aM (cJ Ω.w.drew (.cells (us++rest).toArray e)) (xs.length *ac τ+j)
    exact hcell.trans (by simp [List.getElem?_append,hjl])
   ·refine ((hu.2 (xs.length *ac τ+j) c _ ?_ (List.getElem?_eq_getElem hjl)).ext hx0).ext hx
    rw [hflat,List.getElem?_append_right (by omega),hfl,Nat.add_sub_cancel_left]
    exact hc
 ·have hc:=aM (cJ Ω.w.drew (.cells (us++rest).toArray e)) o
  exact ⟨us[o]'(by omega),hc.trans (by simp [List.getElem?_append,show o < us.length by omega])⟩
 ·have hv:=ow (τ:=τ) (xs:=xs) (o:=none) (cap:=grownCap Ω.w (xs.length+1) old e) (vs:=us.take (xs.length *ac τ)) (cJ Ω.w.drew (.cells (us++rest).toArray e)) (by
    rw [List.take_append_of_le_length (by omega)]) ((hua.ext hx0).ext hx) (by omega) g2 (fun i hi=>Or.inr ⟨rfl,hi⟩) (fun id hid=>by cases hid)
  refine V.mkP hv g1 ?_
  intro id hid
  simp at hid
  subst hid
  exact ⟨xs.length+1,some Ω.w.heap.size,_,by simp,Nat.le_refl _,fun _=>rfl⟩
theorem Holds.roomP {F:Fr} {s:AS} {a:Act} {Ω:Om} {k g cap ty:Nat} {τ:Ty} {xs:List (den τ)} {z:den τ} {cur:Array Value} {olds news:List Value} {dst:Option Nat}
  (h:Holds F s a Ω) (he:Ω.e k=some (.tail xs.length (some g) cap)) (hown:∀o,F.own g o) {fz:Nat × Nat} (hg:Ω.w.heap[g]?=some (.cells cur ty fz)) (hfz:fz.2<=xs.length *ac τ)
  (hfit:cap *ac τ<=cur.size) (hpub:∀o,xs.length *ac τ<=o→¬Ω.pub g o) (hroom:xs.length+1<=cap) (hcap:cap<=ck)
  (ho:VL Ω (bg τ xs) olds) (hoc:∀j u,olds[j]?=some u→Ω.w.cell? ⟨g,j,none⟩=some u) (hnw:VL Ω (cells τ z) news)
  (hxp:∀i,i < xs.length *ac τ→Ω.pub g i) (hd:∀d,dst=some d→d < F.n) :
  ∃Ω',Ω'.w=Ω.w.setRow g (cur.toList.take (xs.length *ac τ)++news++cur.toList.drop (xs.length *ac τ+news.length)).toArray/\
   Holds F ⟨cE s.T dst (.lstp τ xs k),updB s.B [(k,.tailp τ xs.length z)]⟩ (a.put dst (.slice (some ⟨g,0,none⟩) (xs.length+1) cap)) Ω':=by
 have hol:olds.length=xs.length *ac τ:=by rw [←ho.1,bO]
 have hnl:news.length=ac τ:=by rw [←hnw.1,bn]
 have hmul:(xs.length+1) *ac τ<=cap *ac τ:=Nat.mul_le_mul_right _ hroom
 rw [Nat.add_mul,Nat.one_mul] at hmul
 have htake:cur.toList.take (xs.length *ac τ)=olds:=by
  apply List.ext_getElem?
  intro j
  rw [List.getElem?_take]
  split
  ·rename_i hj
   obtain ⟨u,hu⟩:∃u,olds[j]?=some u:=⟨_,List.getElem?_eq_getElem (by omega)⟩
   have:=hoc j u hu
   rw [aM hg] at this
   rw [hu,Array.getElem?_toList,this]
  ·rename_i hj
   rw [List.getElem?_eq_none (by omega)]
 have hg':=setRow_heap Ω.w g cur (cur.toList.take (xs.length *ac τ)++news++cur.toList.drop (xs.length *ac τ+news.length)).toArray ty fz hg
 have hsz:(cur.toList.take (xs.length *ac τ)++news++cur.toList.drop (xs.length *ac τ+news.length)).toArray.size=cur.size:=by simp;omega
 obtain ⟨q1,q2,q3,q4⟩:=nE Ω.w g (cur.toList.take (xs.length *ac τ)++news++cur.toList.drop (xs.length *ac τ+news.length)).toArray
 have hcellold:∀b o,Ω.pub b o→(Ω.w.setRow g (cur.toList.take (xs.length *ac τ)++news++cur.toList.drop (xs.length *ac τ+news.length)).toArray).cell? ⟨b,o,none⟩=Ω.w.cell? ⟨b,o,none⟩:=by
  intro b o hp
  by_cases hb:b=g
  ·subst hb
   rw [aM hg',aM hg]
   have hlt:o < xs.length *ac τ:=by
    rcases Nat.lt_or_ge o (xs.length *ac τ) with k | k
    ·exact k
    ·exact absurd hp (hpub o k)
   simp only [List.getElem?_toArray]
   rw [List.append_assoc,List.getElem?_append_left (by simp;omega),List.getElem?_take,if_pos hlt,Array.getElem?_toList]
  ·exact ay (setRow_other _ _ _ _ hb) o
 have hx:Ext Ω ⟨fun i=>if k=i then some (.tail (xs.length+1) (some g) cap) else Ω.e i,
   Ω.w.setRow g (cur.toList.take (xs.length *ac τ)++news++cur.toList.drop (xs.length *ac τ+news.length)).toArray,Ω.pub⟩:=by
  refine ⟨fun i c hc=>?_,fun _ _ p=>p,hcellold⟩
  by_cases hi:k=i
  ·subst hi
   rw [he] at hc
   simp at hc
   subst hc
   exact ⟨_,by simp;rfl,by simp [CLe]⟩
  ·exact ⟨c,by simp [hi,hc],CLe.refl c⟩
 refine ⟨_,rfl,h.slot hx ?_ (fun i c' hi hc=>mL.of_blocks fun b o hb=>?_) (fun i c' b o hi hc hb hb'=>hi (h.inj i k _ _ b o hc he hb hb')) (fun b o hp=>?_) ?_ ?_ hd⟩
 ·refine ⟨g,cap,by simp,hroom,hcap,hown,⟨_,ty,fz,hg',hfz,by rw [hsz];exact hfit⟩,hpub,fun j c hc=>?_⟩
  have hj:j < news.length:=by
   rw [←hnw.1]
   rcases Nat.lt_or_ge j (cells τ z).length with q | q
   ·exact q
   ·rw [List.getElem?_eq_none q] at hc;cases hc
  refine ⟨news[j],?_,(hnw.2 j c _ hc (List.getElem?_eq_getElem hj)).ext hx⟩
  show World.cell? _ _=_
  rw [aM hg']
  have htl:(List.take (xs.length *ac τ) cur.toList).length=xs.length *ac τ:=by simp;omega
  simp only [List.getElem?_toArray]
  rw [List.append_assoc,List.getElem?_append_right (by omega),htl,Nat.add_sub_cancel_left,List.getElem?_append_left hj,List.getElem?_eq_getElem hj]
 ·have hbg:b≠g:=fun e=>by
   subst e
   exact hi (h.inj i k _ _ b o hc he hb rfl)
  exact ⟨setRow_other _ _ _ _ hbg,fun o ho'=>ho'⟩
 ·obtain ⟨v,hv⟩:=h.pubok b o hp
  exact ⟨v,by rw [hcellold b o hp,hv]⟩
 ·have hnotold:∀b,b < F.w0.heap.size→(¬∀o,F.br b o)→b≠g:=by
   intro b hb hnb e
   subst e
   refine hnb (fun o=>?_)
   rcases hown o with ho' | ho'
   ·omega
   ·exact ho'
  refine ⟨q1.trans h.frame.os,q2.trans h.frame.tape,q3.trans h.frame.output,by rw [q4];exact h.frame.size,fun b hb hnb=>?_,fun b o hb hnb=>?_,fun b hb=>?_,h.frame.pub,h.frame.old,fun b o hp=>(hx.cell b o (h.frame.old b o hp)).trans (h.frame.pcell b o hp)⟩
  ·exact (setRow_other _ _ _ _ (hnotold b hb (fun k=>hnb 0 (k 0)))).trans (h.frame.block b hb hnb)
  ·exact (ay (setRow_other _ _ _ _ (hnotold b hb (fun k=>hnb (k o)))) o).trans (h.frame.cell b o hb hnb)
  ·intro hnb
   have hbg:=hnotold b hb hnb
   exact ⟨(bA (setRow_other _ _ _ _ hbg)).trans (h.frame.kind b hb hnb).1,fun o=>(ba (setRow_other _ _ _ _ hbg) o).trans ((h.frame.kind b hb hnb).2 o)⟩
 ·have hv:=ow (Ω:=⟨fun i=>if k=i then some (.tail (xs.length+1) (some g) cap) else Ω.e i,
   Ω.w.setRow g (cur.toList.take (xs.length *ac τ)++news++cur.toList.drop (xs.length *ac τ+news.length)).toArray,Ω.pub⟩) (τ:=τ) (xs:=xs) (o:=none) (cap:=cap) (vs:=olds) hg'
   (by
    rw [htake,List.append_assoc]
    rw [List.take_append_of_le_length (by omega),List.take_of_length_le (by omega)])
   (ho.ext hx) (by omega) hcap hxp (fun id hid=>by cases hid)
  refine V.mkP hv hroom ?_
  intro id hid
  simp at hid
  subst hid
  exact ⟨xs.length+1,some g,cap,by simp,Nat.le_refl _,fun _=>rfl⟩
theorem uY (hT:bH P C.tbl) {x y:Operand} {t d:Nat} (hop:o.op=.call {callee:=.builtin .append,args:=#[x,y],argTypes:=#[t,t]}) (hdst:o.dst=some d)
  {F:Fr} {s:AS} {a:Act} {Ω:Om} {eff:Eff} {next:Act→World→Prop} {Q:Exit→Act→World→Prop} (h:Holds F s a Ω) (hd:∀d,o.dst=some d→d < F.n)
  (he:p9 C t d (opd s.T x) (opd s.T y) s.B=some eff) (ho:eff.asks) (hn:∀a' Ω',Holds F (s.put o.dst eff) a' Ω'→next a' Ω'.w):o.wp P a Ω.w next Q:=by
 have hx:=bC h x
 have hy:=bC h y
 unfold p9 at he
 split at he
 ·rename_i e sz by' z0 ty hr
  obtain ⟨dd,hd1,hd2⟩:=aS hT hr rfl
  cases dd <;> simp [aZ] at hd2
  subst hd2
  split at he
  ·rename_i re hre
   obtain ⟨i,zz,i1,i2,i3,i4,i5⟩:=(hT _ _ hre).info
   have hzl:zz.cells.size=re.size:=by
    have p1:=(hT _ _ hre).zlen
    rw [←i5] at p1
    simpa using p1
   split at he
   ·
    rename_i τ xs k σ ys o2 hxe hye
    split at he
    ·rename_i z τ' n hcast hB
     split at he
     ·rename_i hτ
      obtain ⟨hτ1,hτ2⟩:=hτ
      subst hτ1
      obtain ⟨hστ,hys⟩:=jd hcast
      subst hστ
      simp only at hys
      subst hys
      simp only [Xs] at he
      subst he
      obtain ⟨hcount,hbytes⟩:=ho
      subst hcount
      rw [hxe] at hx
      rw [hye] at hy
      have hw:=((hT _ _ hre).ty _ hτ2).1
      have hiw:i.size=ac σ:=by rw [i2,hw]
      have hpos:=jc σ
      have hby1:(xs.length+1) *i.bytes<=140737488355328:=by rw [i3];exact hbytes
      obtain ⟨base,cap,q1,q2,q3,q4,q5⟩:=h.slots k _ hB
      have hxtok:∃v,a.eval x=v/\v=.slice (eK base) xs.length cap:=by
       refine ⟨_,rfl,?_⟩
       have ht:gx Ω (some k) xs.length (a.eval x):=by
        rcases hx.lst_inv with ⟨h1,hv,ht⟩ | ⟨_,ho,_⟩ | ⟨b,off,cap,vals,hv,h1,h2,h3,h4,h5⟩
        ·rw [h1];exact ht
        ·cases ho
        ·exact h3
       obtain ⟨m,base',cap',r1,r2,r3⟩:=ht k rfl
       rw [q1] at r1
       simp only [Xs,CObj.tail.injEq] at r1
       obtain ⟨rfl,rfl,rfl⟩:=r1
       rw [r3 rfl]
      obtain ⟨_,rfl,hxv⟩:=hxtok
      have hmaxn:xs.length+1<=ck:=by
       have:(xs.length+1) *1<=(xs.length+1) *re.bytes:=Nat.mul_le_mul_left _ ((hT _ _ hre).bps ‹_›)
       unfold ck
       omega
      rcases hy.src with ⟨_,hy0⟩ | ⟨ya,yc,us,hyv,hyl,hyvl,hyc,hy1⟩
      ·cases hy0
      ·simp only [List.length_singleton,Nat.one_mul] at hyv hyl
       have hyvl':VL Ω (cells σ z) us:=by simpa [bg] using hyvl
       have hzc:∀n,(Builtin.zeroCells zz.cells n).toList.length=n *ac σ:=by
        intro n
        simp [size_zeroCells,hzl,hw]
       by_cases hroom:xs.length+1<=cap
       ·cases base with
        | none=>have hc0:=q4 rfl;omega
        | some g=>
         obtain ⟨p1,cur,bt,fz,p2,pf,p3,p4⟩:=q5 g rfl
         obtain ⟨olds,ho1,ho2,ho3,hxp⟩:∃olds:List Value,olds.length=xs.length *ac σ/\VL Ω (bg σ xs) olds/\(∀j u,olds[j]?=some u→Ω.w.cell? ⟨g,j,none⟩=some u)/\∀i,i < xs.length *ac σ→Ω.pub g i:=by
          rcases hx.lst_inv with ⟨h1,hv,_⟩ | ⟨_,ho,_⟩ | ⟨b,off,cap',vals,hv,h1,h2,h3,h4,h5⟩
          ·rw [hxv] at hv;simp [eK] at hv
          ·cases ho
          ·rw [hxv] at hv
           simp only [eK,Value.slice.injEq,Xs,Addr.mk.injEq,true_and,and_true] at hv
           obtain ⟨⟨rfl,rfl⟩,rfl⟩:=hv
           obtain ⟨us',u1,u2,u3⟩:=V.row_cells h4 h5
           refine ⟨us',u1,u2,fun j u hj=>by have:=u3 j u hj;simpa using this,fun i hi=>?_⟩
           have hdiv:i / ac σ < xs.length:=Nat.div_lt_of_lt_mul (by rw [Nat.mul_comm];exact hi)
           have hmod:i % ac σ < (cells σ xs[i / ac σ]).length:=by rw [bn];exact Nat.mod_lt _ hpos
           have:=(h4 (i / ac σ) _ (List.getElem?_eq_getElem hdiv) (i % ac σ) _ (List.getElem?_eq_getElem hmod)).1
           have e':0+(i / ac σ *ac σ+i % ac σ)=i:=by rw [Nat.mul_comm];have:=Nat.div_add_mod i (ac σ);omega
           rw [e'] at this
           exact this
         obtain ⟨Ω',hw',hh⟩:=h.roomP (dst:=o.dst) (z:=z) q1 p1 p2 pf p3 p4 hroom q3 ho2 ho3 hyvl' hxp hd
         refine aH (aP hop (v:=.slice (some ⟨g,0,none⟩) (xs.length+1) cap) (w':=Ω'.w) ?_) (hn _ _ hh)
         rw [hyv,hxv,hw']
         have hmul:(xs.length+1) *ac σ<=cap *ac σ:=Nat.mul_le_mul_right _ hroom
         rw [Nat.add_mul,Nat.one_mul] at hmul
         have:=uX (P:=P) Ω.w t o.type e i hd1 i1 g xs.length cap bt cur fz p2 (by rw [hiw];exact pf) ya 1 yc us (by rw [hiw];omega) hyc hy1 hroom (by rw [hiw,hyl];omega)
         rw [hiw] at this
         exact this
       ·cases base with
        | none=>
         have hc0:=q4 rfl
         have hx0:xs=[]:=List.eq_nil_of_length_eq_zero (by omega)
         subst hx0
         subst hc0
         obtain ⟨Ω',hw',hh⟩:=h.growP (k:=k) (aX:=1) (old:=0) (e:=e) (xs:=[]) (z:=z) (us:=us) (rest:=(Builtin.zeroCells zz.cells (grownCap Ω.w 1 0 e - 1)).toList) (dst:=o.dst)
          (Or.inr ⟨_,_,_,q1,by simp⟩) (by simp) (by simpa using hmaxn) (by simpa using hyvl) (by rw [hzc]) hd
         refine aH (aP hop (v:=.slice (some ⟨Ω.w.heap.size,0,none⟩) 1 (grownCap Ω.w 1 0 e)) (w':=Ω'.w) ?_) (hn _ _ hh)
         rw [hyv,hxv,hw']
         have:=run_append_nil (P:=P) Ω.w t o.type e i zz hd1 i1 i4 ya 1 yc us (by rw [hiw];omega) hyc (by omega) (by unfold ck at hmaxn;simp at hmaxn;omega) (by simp at hby1;omega)
         have e':(us++(Builtin.zeroCells zz.cells (grownCap Ω.w 1 0 e - 1)).toList).toArray=us.toArray++Builtin.zeroCells zz.cells (grownCap Ω.w 1 0 e - 1):=by apply Array.ext';simp
         rw [e']
         exact this
        | some g=>
         obtain ⟨olds,ho1,ho2,ho3⟩:∃olds:List Value,olds.length=xs.length *ac σ/\VL Ω (bg σ xs) olds/\(∀j u,olds[j]?=some u→Ω.w.cell? ((⟨g,0,none⟩:Addr).add j)=some u):=by
          rcases hx.lst_inv with ⟨h1,hv,_⟩ | ⟨_,ho,_⟩ | ⟨b,off,cap',vals,hv,h1,h2,h3,h4,h5⟩
          ·rw [hxv] at hv;simp [eK] at hv
          ·cases ho
          ·rw [hxv] at hv
           simp only [eK,Value.slice.injEq,Xs,Addr.mk.injEq,true_and,and_true] at hv
           obtain ⟨⟨rfl,rfl⟩,rfl⟩:=hv
           obtain ⟨us',u1,u2,u3⟩:=V.row_cells h4 h5
           exact ⟨us',u1,u2,fun j u hj=>by rw [l8];exact u3 j u hj⟩
         obtain ⟨Ω',hw',hh⟩:=h.growP (k:=k) (aX:=xs.length+1) (old:=cap) (e:=e) (xs:=xs) (z:=z) (us:=olds++us) (rest:=(Builtin.zeroCells zz.cells (grownCap Ω.w (xs.length+1) cap e - (xs.length+1))).toList) (dst:=o.dst)
          (Or.inr ⟨_,_,_,q1,by simp⟩) rfl hmaxn (by rw [fh];exact ho2.append hyvl) (by rw [hzc]) hd
         refine aH (aP hop (v:=.slice (some ⟨Ω.w.heap.size,0,none⟩) (xs.length+1) (grownCap Ω.w (xs.length+1) cap e)) (w':=Ω'.w) ?_) (hn _ _ hh)
         rw [hyv,hxv,hw']
         have:=run_append_grow (P:=P) Ω.w t o.type e i zz hd1 i1 i4 ⟨g,0,none⟩ xs.length cap olds (by rw [hiw];exact ho1) ho3 ya 1 yc us (by rw [hiw];omega) hyc (by omega) (by unfold ck at hmaxn;omega) (growslice_fits (by omega) hby1)
         have e':(olds++us++(Builtin.zeroCells zz.cells (grownCap Ω.w (xs.length+1) cap e - (xs.length+1))).toList).toArray=olds.toArray++us.toArray++Builtin.zeroCells zz.cells (grownCap Ω.w (xs.length+1) cap e - (xs.length+1)):=by apply Array.ext';simp
         rw [e']
         exact this
     ·simp at he
    ·simp at he
   ·
    rename_i σ z o2 hxe hye
    split at he
    ·rename_i hB
     split at he
     ·rename_i hτ2
      simp only [Xs] at he
      subst he
      have hbytes:1 *re.bytes<=140737488355328:=ho
      rw [hxe] at hx
      rw [hye] at hy
      have hw:=((hT _ _ hre).ty _ hτ2).1
      have hiw:i.size=ac σ:=by rw [i2,hw]
      have hzc:∀n,(Builtin.zeroCells zz.cells n).toList.length=n *ac σ:=by
       intro n
       simp [size_zeroCells,hzl,hw]
      rcases hy.src with ⟨_,hy0⟩ | ⟨ya,yc,us,hyv,hyl,hyvl,hyc,hy1⟩
      ·cases hy0
      ·simp only [List.length_singleton,Nat.one_mul] at hyv hyl
       obtain ⟨Ω',hw',hh⟩:=h.growP (k:=d) (aX:=1) (old:=0) (e:=e) (xs:=[]) (z:=z) (us:=us) (rest:=(Builtin.zeroCells zz.cells (grownCap Ω.w 1 0 e - 1)).toList) (dst:=o.dst)
        (Or.inl (h.dom d hB)) (by simp) (by unfold ck;omega) (by simpa using hyvl) (by rw [hzc]) hd
       refine aH (aP hop (v:=.slice (some ⟨Ω.w.heap.size,0,none⟩) 1 (grownCap Ω.w 1 0 e)) (w':=Ω'.w) ?_) (hn _ _ hh)
       rw [hyv,hx.nils_inv,hw']
       have:=run_append_nil (P:=P) Ω.w t o.type e i zz hd1 i1 i4 ya 1 yc us (by rw [hiw];omega) hyc (by omega) (by omega) (by rw [i3];omega)
       have e':(us++(Builtin.zeroCells zz.cells (grownCap Ω.w 1 0 e - 1)).toList).toArray=us.toArray++Builtin.zeroCells zz.cells (grownCap Ω.w 1 0 e - 1):=by apply Array.ext';simp
       rw [e']
       exact this
     ·simp at he
    ·simp at he
   ·simp at he
  ·simp at he
 ·simp at he
theorem fc (w:World) (size:Nat) (s:Str):(Builtin.firstCells size s.length (.string ⟨s.toArray⟩)).run P w=.ok (s.map fun b=>Value.int .u8 b.toNat).toArray w:=by
 have e:(⟨s.toArray⟩:ByteArray).extract 0 s.length=⟨s.toArray⟩:=by
  rw [Lib.extract_mk,List.drop_zero,Nat.sub_zero,List.take_length]
 simp [Builtin.firstCells,Sem.run_pure,e]
theorem tv (w:World) (t u ty e:Nat) (i:TypeInfo) (ht:P.underlying t=some (.slice e)) (hu:P.underlying u=some .string) (hi:P.info? e=some i)
  (g sLen sCap bt:Nat) (cur:Array Value) (fz:Nat × Nat) (hg:w.heap[g]?=some (.cells cur bt fz)) (hfz:fz.2<=sLen *i.size) (s:Str)
  (hroom:sLen+s.length<=sCap) (hfit:sLen *i.size+s.length<=cur.size) :
  (Builtin.append_ #[t,u] ty #[.slice (some ⟨g,0,none⟩) sLen sCap,.string ⟨s.toArray⟩]).run P w=
   .ok (.slice (some ⟨g,0,none⟩) (sLen+s.length) sCap) (w.setRow g (cur.toList.take (sLen *i.size)++(s.map fun b=>Value.int .u8 b.toNat)++cur.toList.drop (sLen *i.size+s.length)).toArray):=by
 have hf:=fc (P:=P) w i.size s
 have hst:=run_storeCells_atF P g (sLen *i.size) bt fz (s.map fun b=>Value.int .u8 b.toNat) 0 cur w hg (by simpa using hfz) (by simpa using hfit) (fun u hu=>by simp at hu;obtain ⟨b,_,rfl⟩:=hu;rfl)
 simp only [Nat.add_zero,List.length_map] at hst
 have hsz:(⟨s.toArray⟩:ByteArray).size=s.length:=by simp [ByteArray.size]
 simp [Builtin.append_,run_underlying ht,run_underlying hu,sizeOf,typeInfo,hi,Builtin.lenOf,hroom,hf,Addr.add_lit,hst,hsz]
theorem uZ (w:World) (t u ty e:Nat) (i:TypeInfo) (ht:P.underlying t=some (.slice e)) (hu:P.underlying u=some .string) (hi:P.info? e=some i) :
  (Builtin.append_ #[t,u] ty #[.slice none 0 0,.string ⟨([]:Str).toArray⟩]).run P w=.ok (.slice none 0 0) w:=by
 have hf:=fc (P:=P) w i.size []
 simp only [List.length_nil,List.map_nil] at hf
 have hsz:(⟨#[]⟩:ByteArray).size=0:=rfl
 simp [Builtin.append_,run_underlying ht,run_underlying hu,sizeOf,typeInfo,hi,Builtin.lenOf,hsz,hf]
theorem tw (w:World) (t u ty e:Nat) (i:TypeInfo) (z:Value) (ht:P.underlying t=some (.slice e)) (hu:P.underlying u=some .string) (hi:P.info? e=some i) (hz:i.zero=some z)
  (b:Option Addr) (sLen sCap:Nat) (olds:List Value) (hb:(b=none/\sLen=0/\olds=[])∨∃a,b=some a/\olds.length=sLen *i.size/\∀j v,olds[j]?=some v→w.cell? (a.add j)=some v)
  (s:Str) (hg:sCap < sLen+s.length) (h63:((sLen+s.length:Nat):Int)<=9223372036854775807) (hfit:Builtin.nextslicecap (sLen+s.length) sCap *i.bytes<=281474976710656) :
  (Builtin.append_ #[t,u] ty #[.slice b sLen sCap,.string ⟨s.toArray⟩]).run P w=
   .ok (.slice (some ⟨w.heap.size,0,none⟩) (sLen+s.length) (grownCap w (sLen+s.length) sCap e))
    (w.drew.alloc (.cells (olds.toArray++(s.map fun b=>Value.int .u8 b.toNat).toArray++Builtin.zeroCells z.cells (grownCap w (sLen+s.length) sCap e - (sLen+s.length))) e)):=by
 have hn:¬(sLen+s.length<=sCap):=by omega
 have h63':¬(9223372036854775807 < ((sLen:Int)+(s.length:Int))):=by omega
 have h48':¬(281474976710656 < Builtin.nextslicecap (sLen+s.length) sCap *i.bytes):=by omega
 have hf:=fc (P:=P) w.drew i.size s
 have hsz:(⟨s.toArray⟩:ByteArray).size=s.length:=by simp [ByteArray.size]
 have hfo:(Builtin.firstCells i.size sLen (.slice b sLen sCap)).run P w.drew=.ok olds.toArray w.drew:=by
  rcases hb with ⟨rfl,rfl,rfl⟩ | ⟨a,rfl,h1,h2⟩
  ·exact run_firstCells_none w.drew i.size 0 0 sCap
  ·exact run_firstCells_some (P:=P) w.drew i.size sLen a sLen sCap olds h1 (by simpa using h2)
 simp [Builtin.append_,run_underlying ht,run_underlying hu,sizeOf,typeInfo,zeroValue,hi,hz,Builtin.lenOf,hn,h63',h48',Question.forced,hf,hfo,newRow,grownCap,hsz]
 congr 2
 apply Array.ext'
 simp [List.append_assoc]
theorem zJ (Ω:Om) (s:Str):VL Ω (bg (.int .u8) (aB s)) (s.map fun b=>Value.int .u8 b.toNat):=by
 have e:bg (.int .u8) (aB s)=s.map fun b=>AV.int .u8 (b.toNat:Int):=by
  unfold bg aB
  rw [List.flatMap_map,List.map_eq_flatMap]
  rfl
 refine ⟨by rw [e];simp,fun j c v hc hv=>?_⟩
 rw [e,List.getElem?_map,Option.map_eq_some_iff] at hc
 rw [List.getElem?_map,Option.map_eq_some_iff] at hv
 obtain ⟨b,hb,rfl⟩:=hc
 obtain ⟨b',hb',rfl⟩:=hv
 rw [hb] at hb'
 cases hb'
 have:=b.toNat_lt
 exact .int .u8 _ (by show (0:Int)<=_;omega) (by show _<=(255:Int);omega)
theorem xz (hT:bH P C.tbl) {x y:Operand} {t t':Nat} {s':Str} (hop:o.op=.call {callee:=.builtin .append,args:=#[x,y],argTypes:=#[t,t']})
  {F:Fr} {s:AS} {a:Act} {Ω:Om} {eff:Eff} {next:Act→World→Prop} {Q:Exit→Act→World→Prop} (h:Holds F s a Ω) (hd:∀d,o.dst=some d→d < F.n) (hye:opd s.T y=.str s')
  (he:pa C t t' (opd s.T x) s' s.B=some eff) (ho:eff.asks) (hn:∀a' Ω',Holds F (s.put o.dst eff) a' Ω'→next a' Ω'.w):o.wp P a Ω.w next Q:=by
 have hx:=bC h x
 have hy:=bC h y
 rw [hye] at hy
 obtain ⟨hyv,hyl⟩:=hy.str_inv
 unfold pa at he
 split at he
 ·rename_i e sz by' z0 ty sz1 by1 z1 ty1 hr hr'
  obtain ⟨dd,hd1,hd2⟩:=aS hT hr rfl
  cases dd <;> simp [aZ] at hd2
  subst hd2
  obtain ⟨dd,hd3,hd4⟩:=aS hT hr' rfl
  cases dd <;> simp [aZ] at hd4
  split at he
  ·rename_i sz2 bytes z2 hre
   obtain ⟨i,zz,i1,i2,i3,i4,i5⟩:=(hT _ _ hre).info
   split at he
   ·rename_i xs k hxe
    split at he
    ·rename_i n hB
     simp only [Xs] at he
     subst he
     obtain ⟨hcount,hbytes⟩:=ho
     subst hcount
     rw [hxe] at hx
     have hw:ac (.int .u8)=sz2:=((hT _ _ hre).ty _ rfl).1
     have hw1:sz2=1:=hw.symm
     have hiw:i.size=1:=by rw [i2];exact hw1
     have hzl:zz.cells.size=1:=by
      have p1:=(hT _ _ hre).zlen
      rw [←i5] at p1
      simp at p1
      omega
     have hbl:(aB s').length=s'.length:=by simp [aB]
     have hby1:(xs.length+s'.length) *i.bytes<=140737488355328:=by rw [i3];exact hbytes
     have hmaxn:xs.length+s'.length<=ck:=by
      have hbp:0 < bytes:=(hT _ _ hre).bpos (by show 0 < sz2;omega)
      have:(xs.length+s'.length) *1<=(xs.length+s'.length) *bytes:=Nat.mul_le_mul_left _ hbp
      unfold ck
      omega
     obtain ⟨base,cap,q1,q2,q3,q4,q5⟩:=h.slots k _ hB
     have hxtok:∃v,a.eval x=v/\v=.slice (eK base) xs.length cap:=by
      refine ⟨_,rfl,?_⟩
      have ht:gx Ω (some k) xs.length (a.eval x):=by
       rcases hx.lst_inv with ⟨h1,hv,ht⟩ | ⟨_,ho,_⟩ | ⟨b,off,cap,vals,hv,h1,h2,h3,h4,h5⟩
       ·rw [h1];exact ht
       ·cases ho
       ·exact h3
      obtain ⟨m,base',cap',r1,r2,r3⟩:=ht k rfl
      rw [q1] at r1
      simp only [Xs,CObj.tail.injEq] at r1
      obtain ⟨rfl,rfl,rfl⟩:=r1
      rw [r3 rfl]
     obtain ⟨_,rfl,hxv⟩:=hxtok
     have hyvl:=zJ Ω s'
     have hzc:∀n,(Builtin.zeroCells zz.cells n).toList.length=n *1:=by
      intro n
      simp [size_zeroCells,hzl]
     by_cases hroom:xs.length+s'.length<=cap
     ·cases base with
      | none=>
       have hc0:=q4 rfl
       have hy0:s'=[]:=List.eq_nil_of_length_eq_zero (by omega)
       have hx0:xs=[]:=List.eq_nil_of_length_eq_zero (by omega)
       subst hy0 hx0
       have hh:=h.same hB rfl hx hd
       refine aH (aP hop (v:=a.eval x) (w':=Ω.w) ?_) (hn _ _ hh)
       rw [hyv,hxv,hc0]
       exact uZ Ω.w t t' _ e i hd1 hd3 i1
      | some g=>
       obtain ⟨p1,cur,bt,fz,p2,pf,p3,p4⟩:=q5 g rfl
       obtain ⟨olds,ho1,ho2,ho3,hxp⟩:∃olds:List Value,olds.length=xs.length *ac (.int .u8)/\VL Ω (bg (.int .u8) xs) olds/\(∀j u,olds[j]?=some u→Ω.w.cell? ⟨g,j,none⟩=some u)/\∀i,i < xs.length *ac (.int .u8)→Ω.pub g i:=by
        rcases hx.lst_inv with ⟨h1,hv,_⟩ | ⟨_,ho,_⟩ | ⟨b,off,cap',vals,hv,h1,h2,h3,h4,h5⟩
        ·rw [hxv] at hv;simp [eK] at hv
        ·cases ho
        ·rw [hxv] at hv
         simp only [eK,Value.slice.injEq,Xs,Addr.mk.injEq,true_and,and_true] at hv
         obtain ⟨⟨rfl,rfl⟩,rfl⟩:=hv
         obtain ⟨us',u1,u2,u3⟩:=V.row_cells h4 h5
         refine ⟨us',u1,u2,fun j u hj=>by have:=u3 j u hj;simpa using this,fun i hi=>?_⟩
         have hpos:=jc (.int .u8)
         have hdiv:i / ac (.int .u8) < xs.length:=Nat.div_lt_of_lt_mul (by rw [Nat.mul_comm];exact hi)
         have hmod:i % ac (.int .u8) < (cells (.int .u8) xs[i / ac (.int .u8)]).length:=by rw [bn];exact Nat.mod_lt _ hpos
         have:=(h4 (i / ac (.int .u8)) _ (List.getElem?_eq_getElem hdiv) (i % ac (.int .u8)) _ (List.getElem?_eq_getElem hmod)).1
         have e':0+(i / ac (.int .u8) *ac (.int .u8)+i % ac (.int .u8))=i:=by rw [Nat.mul_comm];have:=Nat.div_add_mod i (ac (.int .u8));omega
         rw [e'] at this
         exact this
       have hroom':xs.length+(aB s').length<=cap:=by rw [hbl];exact hroom
       obtain ⟨Ω',hw',hh⟩:=h.room (dst:=o.dst) (τ:=.int .u8) (ys:=aB s') (news:=s'.map fun b=>Value.int .u8 b.toNat) q1 p1 p2 pf p3 p4 hroom' q3 ho2 ho3 hyvl hxp hd
       refine aH (aP hop (v:=.slice (some ⟨g,0,none⟩) (xs.length+(aB s').length) cap) (w':=Ω'.w) ?_) (hn _ _ hh)
       rw [hyv,hxv,hw',hbl]
       have hmul:(xs.length+s'.length) *ac (.int .u8)<=cap *ac (.int .u8):=Nat.mul_le_mul_right _ hroom
       have w1:ac (.int .u8)=1:=rfl
       rw [w1] at hmul p3 pf
       have:=tv (P:=P) Ω.w t t' o.type e i hd1 hd3 i1 g xs.length cap bt cur fz p2 (by rw [hiw];exact pf) s' hroom (by rw [hiw];omega)
       rw [hiw] at this
       simpa [w1,eK] using this
     ·have hm:0 < s'.length:=by
       rcases Nat.eq_zero_or_pos s'.length with h0 | h0
       ·omega
       ·exact h0
      have hlen:(xs++aB s').length=xs.length+s'.length:=by rw [List.length_append,hbl]
      obtain ⟨olds,ho2,hob⟩:∃olds:List Value,VL Ω (bg (.int .u8) xs) olds/\((eK base=none/\xs.length=0/\olds=[])∨∃a,eK base=some a/\olds.length=xs.length *i.size/\∀j v,olds[j]?=some v→Ω.w.cell? (a.add j)=some v):=by
       rcases hx.lst_inv with ⟨h1,hv,_⟩ | ⟨_,ho,_⟩ | ⟨b,off,cap',vals,hv,h1,h2,h3,h4,h5⟩
       ·rw [hxv] at hv
        simp only [Value.slice.injEq] at hv
        refine ⟨[],?_,.inl ⟨hv.1,hv.2.1,rfl⟩⟩
        rw [h1]
        exact ⟨rfl,fun j c v hc=>by simp [bg] at hc⟩
       ·cases ho
       ·rw [hxv] at hv
        simp only [Value.slice.injEq] at hv
        obtain ⟨us',u1,u2,u3⟩:=V.row_cells h4 h5
        exact ⟨us',u2,.inr ⟨_,hv.1,by rw [u1,hiw];rfl,fun j u hj=>by rw [l8];exact u3 j u hj⟩⟩
      obtain ⟨Ω',hw',hh⟩:=h.grow (k:=k) (aX:=xs.length+s'.length) (old:=cap) (e:=e) (τ:=.int .u8) (zs:=xs++aB s') (us:=olds++s'.map fun b=>Value.int .u8 b.toNat) (rest:=(Builtin.zeroCells zz.cells (grownCap Ω.w (xs.length+s'.length) cap e - (xs.length+s'.length))).toList) (dst:=o.dst)
       (Or.inr ⟨_,_,_,q1,by rw [hlen];omega⟩) hlen hmaxn (by rw [fh];exact ho2.append hyvl) (by rw [hzc];rfl) hd
      refine aH (aP hop (v:=.slice (some ⟨Ω.w.heap.size,0,none⟩) (xs.length+s'.length) (grownCap Ω.w (xs.length+s'.length) cap e)) (w':=Ω'.w) ?_) (hn _ _ hh)
      rw [hyv,hxv,hw']
      have:=tw (P:=P) Ω.w t t' o.type e i zz hd1 hd3 i1 i4 (eK base) xs.length cap olds hob s' (by omega) (by unfold ck at hmaxn;omega) (growslice_fits (by omega) hby1)
      have e':(olds++(s'.map fun b=>Value.int .u8 b.toNat)++(Builtin.zeroCells zz.cells (grownCap Ω.w (xs.length+s'.length) cap e - (xs.length+s'.length))).toList).toArray=olds.toArray++(s'.map fun b=>Value.int .u8 b.toNat).toArray++Builtin.zeroCells zz.cells (grownCap Ω.w (xs.length+s'.length) cap e - (xs.length+s'.length)):=by apply Array.ext';simp
      rw [e']
      exact this
    ·simp at he
   ·simp at he
  ·simp at he
 ·simp at he
theorem Az (hT:bH P C.tbl) {args:Array Operand} {ts:Array Nat} (hop:o.op=.call {callee:=.builtin .append,args:=args,argTypes:=ts}):cG P C o:=by
 intro F s a Ω eff next Q h hd he ho hn
 simp only [aG,hop] at he
 split at he
 ·rename_i x y t t' d hargs hts hdst
  have ha:args=#[x,y]:=by apply Array.ext';simpa using hargs
  have ht:ts=#[t,t']:=by apply Array.ext';simpa using hts
  subst ha ht
  split at he
  rotate_left
  ·split at he
   ·rename_i s' hye
    exact xz hT hop h hd hye he ho hn
   ·cases he
  ·rename_i htt
   simp at htt
   subst htt
   split at he
   ·exact uY hT hop hdst h hd he ho hn
   have hx:=bC h x
   have hy:=bC h y
   unfold sV at he
   split at he
   ·rename_i e sz by' z ty hr
    obtain ⟨dd,hd1,hd2⟩:=aS hT hr rfl
    cases dd <;> simp [aZ] at hd2
    subst hd2
    split at he
    ·rename_i re hre
     obtain ⟨i,zz,i1,i2,i3,i4,i5⟩:=(hT _ _ hre).info
     have hzl:zz.cells.size=re.size:=by
      have p1:=(hT _ _ hre).zlen
      rw [←i5] at p1
      simpa using p1
     split at he
     ·
      rename_i hxe hye
      simp only [Xs] at he
      subst he
      rw [hxe] at hx
      rw [hye] at hy
      refine aH (aP hop (v:=.slice none 0 0) (w':=Ω.w) ?_) (hn _ _ ?_)
      ·rw [hx.nils_inv,hy.nils_inv]
       exact je Ω.w t _ e i hd1 i1 none 0 0 (Nat.le_refl _)
      ·have:=h.pure (dst:=o.dst) (v:=.slice none 0 0) .nils hd
       simpa [AS.put,updB,Eff.pure] using this
     ·
      rename_i τ xs o' hxe hye
      simp only [Xs] at he
      subst he
      rw [hxe] at hx
      rw [hye] at hy
      have hrun:(Builtin.append_ #[t,t] o.type #[a.eval x,a.eval y]).run P Ω.w=.ok (a.eval x) Ω.w:=by
       rw [hy.nils_inv]
       rcases hx.lst_inv with ⟨h1,hv,_⟩ | ⟨h1,_,a0,hv⟩ | ⟨b,off,cap,vals,hv,h1,h2,h3,h4,h5⟩
       ·rw [hv];exact je Ω.w t _ e i hd1 i1 none 0 0 (Nat.le_refl _)
       ·rw [hv];exact je Ω.w t _ e i hd1 i1 _ _ _ (Nat.le_refl _)
       ·rw [hv];exact je Ω.w t _ e i hd1 i1 _ _ _ h1
      refine aH (aP hop hrun) (hn _ _ ?_)
      have:=h.pure (dst:=o.dst) (v:=a.eval x) hx hd
      simpa [AS.put,updB,Eff.pure] using this
     ·
      rename_i τ xs k σ ys o2 hxe hye
      split at he
      ·rename_i ys' τ' n hcast hB
       split at he
       ·rename_i hτ
        obtain ⟨hτ1,hτ2⟩:=hτ
        subst hτ1
        obtain ⟨hστ,hys⟩:=jd hcast
        subst hστ
        simp only at hys
        subst hys
        simp only [Xs] at he
        subst he
        obtain ⟨hcount,hbytes⟩:=ho
        rw [hxe] at hx
        rw [hye] at hy
        have hw:=((hT _ _ hre).ty _ hτ2).1
        have hiw:i.size=ac σ:=by rw [i2,hw]
        have hpos:=jc σ
        have hby1:(xs.length+ys.length) *i.bytes<=140737488355328:=by rw [i3];exact hbytes
        obtain ⟨base,cap,q1,q2,q3,q4,q5⟩:=h.slots k _ hB
        have hxtok:∃v,a.eval x=v/\v=.slice (eK base) n cap:=by
         refine ⟨_,rfl,?_⟩
         have ht:gx Ω (some k) xs.length (a.eval x):=by
          rcases hx.lst_inv with ⟨h1,hv,ht⟩ | ⟨_,ho,_⟩ | ⟨b,off,cap,vals,hv,h1,h2,h3,h4,h5⟩
          ·rw [h1];exact ht
          ·cases ho
          ·exact h3
         obtain ⟨m,base',cap',r1,r2,r3⟩:=ht k rfl
         rw [q1] at r1
         simp only [Xs,CObj.tail.injEq] at r1
         obtain ⟨rfl,rfl,rfl⟩:=r1
         rw [r3 hcount,hcount]
        obtain ⟨_,rfl,hxv⟩:=hxtok
        have hmaxn:xs.length+ys.length<=ck:=by
         have:(xs.length+ys.length) *1<=(xs.length+ys.length) *re.bytes:=Nat.mul_le_mul_left _ ((hT _ _ hre).bps ‹_›)
         unfold ck
         omega
        subst hcount
        rcases hy.src with ⟨hyv,hy0⟩ | ⟨ya,yc,us,hyv,hyl,hyvl,hyc,hy1⟩
        ·subst hy0
         refine aH (aP hop (v:=a.eval x) (w':=Ω.w) ?_) (hn _ _ (h.same hB rfl hx hd))
         rw [hyv,hxv]
         exact je Ω.w t _ e i hd1 i1 _ _ _ q2
        ·by_cases hroom:xs.length+ys.length<=cap
         ·cases base with
          | none=>
           have hc0:=q4 rfl
           have hy0:ys=[]:=List.eq_nil_of_length_eq_zero (by omega)
           have hx0:xs=[]:=List.eq_nil_of_length_eq_zero (by omega)
           subst hy0 hx0
           refine aH (aP hop (v:=a.eval x) (w':=Ω.w) ?_) (hn _ _ (h.same hB rfl hx hd))
           rw [hyv,hxv,hc0]
           exact lJ Ω.w t _ e i hd1 i1 ya yc
          | some g=>
           obtain ⟨p1,cur,bt,fz,p2,pf,p3,p4⟩:=q5 g rfl
           obtain ⟨olds,ho1,ho2,ho3,hxp⟩:∃olds:List Value,olds.length=xs.length *ac σ/\VL Ω (bg σ xs) olds/\(∀j u,olds[j]?=some u→Ω.w.cell? ⟨g,j,none⟩=some u)/\∀i,i < xs.length *ac σ→Ω.pub g i:=by
            rcases hx.lst_inv with ⟨h1,hv,_⟩ | ⟨_,ho,_⟩ | ⟨b,off,cap',vals,hv,h1,h2,h3,h4,h5⟩
            ·rw [hxv] at hv;simp [eK] at hv
            ·cases ho
            ·rw [hxv] at hv
             simp only [eK,Value.slice.injEq,Xs,Addr.mk.injEq,true_and,and_true] at hv
             obtain ⟨⟨rfl,rfl⟩,rfl⟩:=hv
             obtain ⟨us',u1,u2,u3⟩:=V.row_cells h4 h5
             refine ⟨us',u1,u2,fun j u hj=>by have:=u3 j u hj;simpa using this,fun i hi=>?_⟩
             have hdiv:i / ac σ < xs.length:=Nat.div_lt_of_lt_mul (by rw [Nat.mul_comm];exact hi)
             have hmod:i % ac σ < (cells σ xs[i / ac σ]).length:=by rw [bn];exact Nat.mod_lt _ hpos
             have:=(h4 (i / ac σ) _ (List.getElem?_eq_getElem hdiv) (i % ac σ) _ (List.getElem?_eq_getElem hmod)).1
             have e':0+(i / ac σ *ac σ+i % ac σ)=i:=by rw [Nat.mul_comm];have:=Nat.div_add_mod i (ac σ);omega
             rw [e'] at this
             exact this
           obtain ⟨Ω',hw',hh⟩:=h.room (dst:=o.dst) q1 p1 p2 pf p3 p4 hroom q3 ho2 ho3 hyvl hxp hd
           refine aH (aP hop (v:=.slice (some ⟨g,0,none⟩) (xs.length+ys.length) cap) (w':=Ω'.w) ?_) (hn _ _ hh)
           rw [hyv,hxv,hw']
           have hmul:(xs.length+ys.length) *ac σ<=cap *ac σ:=Nat.mul_le_mul_right _ hroom
           rw [Nat.add_mul] at hmul
           have:=uX (P:=P) Ω.w t o.type e i hd1 i1 g xs.length cap bt cur fz p2 (by rw [hiw];exact pf) ya ys.length yc us (by rw [hiw];exact hyl) hyc hy1 hroom (by rw [hiw,hyl];omega)
           rw [hiw] at this
           exact this
         ·have hm:0 < ys.length:=by omega
          have hlen:(xs++ys).length=xs.length+ys.length:=List.length_append
          have hzc:∀n,(Builtin.zeroCells zz.cells n).toList.length=n *ac σ:=by
           intro n
           simp [size_zeroCells,hzl,hw]
          cases base with
          | none=>
           have hc0:=q4 rfl
           have hx0:xs=[]:=List.eq_nil_of_length_eq_zero (by omega)
           subst hx0
           subst hc0
           obtain ⟨Ω',hw',hh⟩:=h.grow (k:=k) (aX:=ys.length) (old:=0) (e:=e) (zs:=[]++ys) (us:=us) (rest:=(Builtin.zeroCells zz.cells (grownCap Ω.w ys.length 0 e - ys.length)).toList) (dst:=o.dst)
            (Or.inr ⟨_,_,_,q1,by simpa using hm⟩) (by simp) (by simpa using hmaxn) hyvl (by rw [hzc]) hd
           refine aH (aP hop (v:=.slice (some ⟨Ω.w.heap.size,0,none⟩) ys.length (grownCap Ω.w ys.length 0 e)) (w':=Ω'.w) ?_) (hn _ _ hh)
           rw [hyv,hxv,hw']
           have:=run_append_nil (P:=P) Ω.w t o.type e i zz hd1 i1 i4 ya ys.length yc us (by rw [hiw];exact hyl) hyc hm (by unfold ck at hmaxn;simp at hmaxn;omega) (by simp at hby1;omega)
           have e':(us++(Builtin.zeroCells zz.cells (grownCap Ω.w ys.length 0 e - ys.length)).toList).toArray=us.toArray++Builtin.zeroCells zz.cells (grownCap Ω.w ys.length 0 e - ys.length):=by apply Array.ext';simp
           rw [e']
           exact this
          | some g=>
           obtain ⟨olds,ho1,ho2,ho3⟩:∃olds:List Value,olds.length=xs.length *ac σ/\VL Ω (bg σ xs) olds/\(∀j u,olds[j]?=some u→Ω.w.cell? ((⟨g,0,none⟩:Addr).add j)=some u):=by
            rcases hx.lst_inv with ⟨h1,hv,_⟩ | ⟨_,ho,_⟩ | ⟨b,off,cap',vals,hv,h1,h2,h3,h4,h5⟩
            ·rw [hxv] at hv;simp [eK] at hv
            ·cases ho
            ·rw [hxv] at hv
             simp only [eK,Value.slice.injEq,Xs,Addr.mk.injEq,true_and,and_true] at hv
             obtain ⟨⟨rfl,rfl⟩,rfl⟩:=hv
             obtain ⟨us',u1,u2,u3⟩:=V.row_cells h4 h5
             exact ⟨us',u1,u2,fun j u hj=>by rw [l8];exact u3 j u hj⟩
           obtain ⟨Ω',hw',hh⟩:=h.grow (k:=k) (aX:=xs.length+ys.length) (old:=cap) (e:=e) (zs:=xs++ys) (us:=olds++us) (rest:=(Builtin.zeroCells zz.cells (grownCap Ω.w (xs.length+ys.length) cap e - (xs.length+ys.length))).toList) (dst:=o.dst)
            (Or.inr ⟨_,_,_,q1,by simpa using hm⟩) (by simp) hmaxn (by rw [fh];exact ho2.append hyvl) (by rw [hzc]) hd
           refine aH (aP hop (v:=.slice (some ⟨Ω.w.heap.size,0,none⟩) (xs.length+ys.length) (grownCap Ω.w (xs.length+ys.length) cap e)) (w':=Ω'.w) ?_) (hn _ _ hh)
           rw [hyv,hxv,hw']
           have:=run_append_grow (P:=P) Ω.w t o.type e i zz hd1 i1 i4 ⟨g,0,none⟩ xs.length cap olds (by rw [hiw];exact ho1) ho3 ya ys.length yc us (by rw [hiw];exact hyl) hyc (by omega) (by unfold ck at hmaxn;omega) (growslice_fits (by omega) hby1)
           have e':(olds++us++(Builtin.zeroCells zz.cells (grownCap Ω.w (xs.length+ys.length) cap e - (xs.length+ys.length))).toList).toArray=olds.toArray++us.toArray++Builtin.zeroCells zz.cells (grownCap Ω.w (xs.length+ys.length) cap e - (xs.length+ys.length)):=by apply Array.ext';simp
           rw [e']
           exact this
       ·simp at he
      ·simp at he
     ·
      rename_i σ ys o2 hxe hye
      split at he
      ·rename_i hB
       split at he
       ·rename_i hτ
        simp only [Xs] at he
        subst he
        rw [hxe] at hx
        rw [hye] at hy
        have hbytes:ys.length *re.bytes<=140737488355328:=ho
        have hw:=((hT _ _ hre).ty _ hτ).1
        have hiw:i.size=ac σ:=by rw [i2,hw]
        have hmaxn:ys.length<=ck:=by
         have:ys.length *1<=ys.length *re.bytes:=Nat.mul_le_mul_left _ ((hT _ _ hre).bps ‹_›)
         unfold ck
         omega
        have hed:=h.dom d hB
        have empty:ys=[]→Holds F ⟨cE s.T o.dst (.lst σ ys (some d)),updB s.B [(d,.tail σ ys.length)]⟩ (a.put o.dst (.slice none 0 0)) ⟨fun i=>if d=i then some (.tail 0 none 0) else Ω.e i,Ω.w,Ω.pub⟩:=by
         intro hy0
         subst hy0
         have hx':Ext Ω ⟨fun i=>if d=i then some (.tail 0 none 0) else Ω.e i,Ω.w,Ω.pub⟩:=by
          refine ⟨fun id c hc=>⟨c,?_,CLe.refl c⟩,fun _ _ p=>p,fun _ _ _=>rfl⟩
          have:d≠id:=fun e=>by subst e;rw [hed] at hc;cases hc
          simp [this,hc]
         refine h.slot hx' ⟨none,0,by simp,Nat.le_refl _,by unfold ck;omega,fun _=>rfl,fun b hb=>by simp at hb⟩ (fun _ _ _ _=>mL.of_blocks fun _ _ _=>⟨rfl,fun _ p=>p⟩) (fun _ _ _ _ _ _ _ hb=>by cases hb) h.pubok
          ⟨h.frame.os,h.frame.tape,h.frame.output,h.frame.size,h.frame.block,h.frame.cell,h.frame.kind,h.frame.pub,h.frame.old,h.frame.pcell⟩ ?_ hd
         refine .lstNil σ _ ?_
         intro id hid
         simp at hid
         subst hid
         exact ⟨0,none,0,by simp,Nat.le_refl _,fun _=>rfl⟩
        rcases hy.src with ⟨hyv,hy0⟩ | ⟨ya,yc,us,hyv,hyl,hyvl,hyc,hy1⟩
        ·have hq:=hn _ _ (empty hy0)
         refine aH (aP hop (v:=.slice none 0 0) (w':=Ω.w) ?_) hq
         rw [hyv,hx.nils_inv]
         exact je Ω.w t _ e i hd1 i1 _ _ _ (Nat.le_refl _)
        ·by_cases hm:ys.length=0
         ·have hy0:=List.eq_nil_of_length_eq_zero hm
          have hq:=hn _ _ (empty hy0)
          refine aH (aP hop (v:=.slice none 0 0) (w':=Ω.w) ?_) hq
          rw [hyv,hx.nils_inv,hm]
          exact lJ Ω.w t _ e i hd1 i1 ya yc
         ·have hzc:∀n,(Builtin.zeroCells zz.cells n).toList.length=n *ac σ:=by
           intro n
           simp [size_zeroCells,hzl,hw]
          obtain ⟨Ω',hw',hh⟩:=h.grow (k:=d) (aX:=ys.length) (old:=0) (e:=e) (zs:=ys) (us:=us) (rest:=(Builtin.zeroCells zz.cells (grownCap Ω.w ys.length 0 e - ys.length)).toList) (dst:=o.dst)
           (Or.inl hed) rfl hmaxn hyvl (by rw [hzc]) hd
          refine aH (aP hop (v:=.slice (some ⟨Ω.w.heap.size,0,none⟩) ys.length (grownCap Ω.w ys.length 0 e)) (w':=Ω'.w) ?_) (hn _ _ hh)
          rw [hyv,hx.nils_inv,hw']
          have:=run_append_nil (P:=P) Ω.w t o.type e i zz hd1 i1 i4 ya ys.length yc us (by rw [hiw];exact hyl) hyc (by omega) (by unfold ck at hmaxn;omega) (by rw [i3];omega)
          have e':(us++(Builtin.zeroCells zz.cells (grownCap Ω.w ys.length 0 e - ys.length)).toList).toArray=us.toArray++Builtin.zeroCells zz.cells (grownCap Ω.w ys.length 0 e - ys.length):=by apply Array.ext';simp
          rw [e']
          exact this
       ·simp at he
      ·simp at he
     ·simp at he
    ·simp at he
   ·simp at he
 ·simp at he
end
end Go.AL
end
