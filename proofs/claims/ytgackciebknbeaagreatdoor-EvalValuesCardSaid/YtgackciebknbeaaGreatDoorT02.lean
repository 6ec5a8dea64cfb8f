/- The layer: Go code as conditions, and that they are sound. No condition. -/
import Derived.Test.YtgackciebknbeaaGreatDoorT01
import Derived.Laws.BytesString
import Derived.Laws.IdiomCopy
import Derived.Lib.ConvBytes
import Derived.Lib.FrozenHead
import Derived.Lib.TrimByte
import Derived.MapKept
set_option linter.all false
set_option maxRecDepth 100000
noncomputable section
namespace Go.AL
variable [Tabs]
section
variable {P:Program} {C:Cfg} {o:Oper}
theorem lv (w:World) (g:Nat) (cs:Array Value):(w.setRow g cs).os=w.os/\(w.setRow g cs).tape=w.tape/\(w.setRow g cs).output=w.output/\(w.setRow g cs).heap.size=w.heap.size:=by
 simp [World.setRow]
theorem iZ (b:Nat):∀(vs:List Value) (o:Nat) (w:World),(w.setCells b o vs).os=w.os/\(w.setCells b o vs).tape=w.tape/\(w.setCells b o vs).output=w.output/\
  (w.setCells b o vs).heap.size=w.heap.size/\(∀i,i≠b→(w.setCells b o vs).heap[i]?=w.heap[i]?)/\∀i,(w.setCells b o vs).shape? i=w.shape? i
 | [],_,_=>⟨rfl,rfl,rfl,rfl,fun _ _=>rfl,fun _=>rfl⟩
 | v ::r,o,w=>by
  obtain ⟨h1,h2,h3,h4,h5,h6⟩:=iZ b r (o+1) (w.setCell ⟨b,o,none⟩ v)
  refine ⟨h1,h2,h3,h4.trans (by simp [World.setCell]),fun i hi=>(h5 i hi).trans ?_,fun i=>(h6 i).trans ?_⟩
  ·simp only [World.setCell]
   rw [Array.getElem?_modify,if_neg (fun e=>hi e.symm)]
  ·simp only [World.setCell,World.shape?]
   rw [Array.getElem?_modify]
   by_cases e:b=i
   ·subst e
    rw [if_pos rfl]
    cases hb:w.heap[b]? with
    | none=>rfl
    | some x=>cases x <;> simp
   ·rw [if_neg e]
theorem kN {r:TR} {c v c':AV} {off:Nat} (h:qJ r c off v=some c') :
  (aa v).all gG=true/\(aa v).length=r.size/\∃ds,splice (aa c) off (aa v)=some ds/\aa c'=ds:=by
 unfold qJ at h
 split at h
 ·rename_i hl
  simp only [Bool.and_eq_true] at hl
  refine ⟨hl.1,bC _ _ hl.2,?_⟩
  have plain:∀{off:Nat},(match splice (aa c) off (aa v) with | some cs=>some (AV.agg cs) | none=>none)=some c'→
    ∃ds,splice (aa c) off (aa v)=some ds/\aa c'=ds:=by
   intro off h
   split at h
   ·rename_i cs hcs
    simp only [Xs] at h
    subst h
    exact ⟨cs,hcs,rfl⟩
   ·cases h
  split at h
  ·split at h
   ·rename_i hcl
    simp only [Xs] at h
    subst h
    refine ⟨_,?_,rfl⟩
    have e:(aa c).length=(aa v).length:=by rw [bC _ _ hcl,bC _ _ hl.2]
    have ov:∀(xs ys:List AV),xs.length=ys.length→iP xs ys=some ys:=by
     intro xs
     induction xs with
     | nil=>intro ys hy;cases ys with
      | nil=>rfl
      | cons _ _=>cases hy
     | cons x xs ih=>intro ys hy;cases ys with
      | nil=>cases hy
      | cons y ys=>simp [iP,ih ys (by simpa using hy)]
    have:=ov _ _ e
    generalize aa c=cs at *
    cases cs <;> simpa [splice] using this
   ·exact plain h
  ·exact plain h
 ·cases h
theorem b9.rd {Ω:Om} {own:Nat→Nat→Prop} {id:Nat} {c d:AV} (h:b9 Ω own id (.box c)) (r:RdL (aa c) (aa d)):b9 Ω own id (.box d):=by
 obtain ⟨b,off,e1,e2⟩:=h
 refine ⟨b,off,by rw [←r.1];exact e1,fun j d' hd'=>?_⟩
 have hj:j < (aa c).length:=by
  rw [r.1]
  rcases Nat.lt_or_ge j (aa d).length with k | k
  ·exact k
  ·rw [List.getElem?_eq_none k] at hd';cases hd'
 obtain ⟨k1,k2,k3,v,k4,k5⟩:=e2 j _ (List.getElem?_eq_getElem hj)
 exact ⟨k1,k2,k3,v,k4,r.2 j _ d' (List.getElem?_eq_getElem hj) hd' _ _ k5⟩
theorem RdL.append {as bs cs ds:List AV} (h:RdL as bs) (k:RdL cs ds):RdL (as++cs) (bs++ds):=by
 refine ⟨by simp [h.1,k.1],fun j c d hc hd=>?_⟩
 by_cases hj:j < as.length
 ·rw [List.getElem?_append_left hj] at hc
  rw [List.getElem?_append_left (by rw [←h.1];exact hj)] at hd
  exact h.2 j c d hc hd
 ·rw [List.getElem?_append_right (by omega)] at hc
  rw [List.getElem?_append_right (by rw [←h.1];omega),←h.1] at hd
  exact k.2 _ c d hc hd
theorem sF:∀(xs ys zs ds:List AV),iP xs ys=some ds→iP (xs++zs) ys=some (ds++zs)
 | xs,[],zs,ds,h=>by simp [iP] at h;subst h;cases xs <;> simp [iP]
 | [],y ::ys,zs,ds,h=>by simp [iP] at h
 | x ::xs,y ::ys,zs,ds,h=>by
  simp only [iP] at h
  split at h
  ·rename_i l hl
   simp at h
   subst h
   simp [iP,sF xs ys zs l hl]
  ·cases h
theorem nL:∀(xs:List AV) (n:Nat) (ys zs ds:List AV),splice xs n ys=some ds→splice (xs++zs) n ys=some (ds++zs)
 | xs,0,ys,zs,ds,h=>by
  have e:∀xs:List AV,splice xs 0 ys=iP xs ys:=by intro xs;cases xs <;> rfl
  rw [e] at h ⊢
  exact sF _ _ _ _ h
 | [],n+1,ys,zs,ds,h=>by simp [splice] at h
 | x ::xs,n+1,ys,zs,ds,h=>by
  simp only [splice] at h
  split at h
  ·rename_i l hl
   simp at h
   subst h
   simp [splice,nL xs n ys zs l hl]
  ·cases h
theorem nM:∀(as xs bs ys ds:List AV) (n m:Nat),splice xs n ys=some ds→as.length=m→splice (as++xs++bs) (m+n) ys=some (as++ds++bs)
 | [],xs,bs,ys,ds,n,m,h,hm=>by
  simp at hm
  subst hm
  simpa using nL xs n ys bs ds h
 | a ::as,xs,bs,ys,ds,n,m,h,hm=>by
  cases m with
  | zero=>simp at hm
  | succ m=>
   have:=nM as xs bs ys ds n m h (by simpa using hm)
   rw [show m+1+n=(m+n)+1 by omega]
   simp only [List.cons_append,splice,this]
theorem Holds.store {F:Fr} {s:AS} {a:Act} {Ω:Om} (h:Holds F s a Ω) {id g bo len off:Nat} {c c':AV} {pv ds:List AV} {vs:List Value} {dst:Option Nat}
  (hcs:s.B id=some (.box c)) (hxb:Ω.e id=some (.box g bo len)) (hds:splice (aa c) off pv=some ds) (hvl:VL Ω pv vs) (hlf:pv.all gG=true)
  (hrd:RdL ds (aa c')) (hpos:0 < pv.length) (hd:∀d,dst=some d→d < F.n) :
  (storeCells ⟨g,bo+off,none⟩ vs 0).run P Ω.w=.ok () (Ω.w.setCells g (bo+off) vs)/\
   Holds F ⟨bB s.T dst .undef,bJ s.B [(id,.box c')]⟩ (a.put dst undef) ⟨Ω.e,Ω.w.setCells g (bo+off) vs,Ω.pub⟩:=by
 obtain ⟨g',bo',e1,e2⟩:=h.slots id _ hcs
 rw [hxb] at e1
 simp only [Xs,CObj.box.injEq] at e1
 obtain ⟨rfl,rfl,rfl⟩:=e1
 obtain ⟨s1,s2⟩:=dX _ _ _ _ hds
 have hyl:vs.length=pv.length:=hvl.1.symm
 have hin:∀j,j < vs.length→off+j < (aa c).length:=by
  intro j hj
  rw [hyl] at hj
  omega
 have hsome:∀j,j < vs.length→(Ω.w.cell? ⟨g,bo+off+j,none⟩).isSome=true:=by
  intro j hj
  obtain ⟨_,_,_,v,hv,_⟩:=e2 (off+j) _ (List.getElem?_eq_getElem (hin j hj))
  rw [Nat.add_assoc,hv]
  rfl
 have hfrz:∀j,j < vs.length→Ω.w.frozen? ⟨g,bo+off+j,none⟩=false:=by
  intro j hj
  rw [Nat.add_assoc]
  exact (e2 (off+j) _ (List.getElem?_eq_getElem (hin j hj))).2.2.1
 have hst:=run_storeCells_cells (P:=P) g (bo+off) vs 0 Ω.w (by simpa using hsome) (by simpa using hfrz) (hvl.leaf_one hlf)
 simp only [Nat.add_zero] at hst
 obtain ⟨q1,q2,q3,q4,q5,q6⟩:=iZ g vs (bo+off) Ω.w
 have hout:∀b o',(b=g→o' < bo+off∨bo+off+pv.length<=o')→(Ω.w.setCells g (bo+off) vs).cell? ⟨b,o',none⟩=Ω.w.cell? ⟨b,o',none⟩:=
  fun b o' hb=>World.cell?_setCells_out g _ _ _ _ (fun e _=>by rw [hyl];exact hb e)
 have hrange:∀b o',b=g→¬(o' < bo+off∨bo+off+pv.length<=o')→∃j c0,o'=bo+j/\(aa c)[j]?=some c0:=by
  intro b o' _ hno
  have hlt:o' - bo < (aa c).length:=by omega
  exact ⟨o' - bo,_,by omega,List.getElem?_eq_getElem hlt⟩
 have hpubout:∀b o',Ω.pub b o'→(Ω.w.setCells g (bo+off) vs).cell? ⟨b,o',none⟩=Ω.w.cell? ⟨b,o',none⟩:=by
  intro b o' p
  refine hout b o' (fun e=>?_)
  subst e
  rcases Decidable.em (o' < bo+off∨bo+off+pv.length<=o') with k | k
  ·exact k
  ·obtain ⟨j,c0,rfl,hj⟩:=hrange b o' rfl k
   exact absurd p (e2 j c0 hj).2.1
 have hx':Ext Ω ⟨Ω.e,Ω.w.setCells g (bo+off) vs,Ω.pub⟩:=
  ⟨fun i c hc=>⟨c,hc,CLe.refl c⟩,fun _ _ p=>p,hpubout⟩
 have hplen:ds.length=(aa c).length:=by
  rw [s2]
  simp
  omega
 have hh:Holds F ⟨bB s.T dst .undef,bJ s.B [(id,.box c')]⟩ (a.put dst undef) ⟨Ω.e,Ω.w.setCells g (bo+off) vs,Ω.pub⟩:=h.step hx' (.undef undef) hd
  (fun id' o' ho'=>by
   simp only [fR] at ho'
   by_cases hid:id=id'
   ·subst hid
    simp at ho'
    subst ho'
    refine b9.rd (c:=.agg ds) ?_ hrd
    refine ⟨g,bo,by show _=some (CObj.box g bo ds.length);rw [hplen];exact hxb,fun j d hd'=>?_⟩
    have hd':ds[j]?=some d:=hd'
    have hj:j < ds.length:=by
     rcases Nat.lt_or_ge j ds.length with k | k
     ·exact k
     ·rw [List.getElem?_eq_none k] at hd';cases hd'
    have hj2:j < (aa c).length:=by omega
    obtain ⟨k1,k2,k3,v,k4,k5⟩:=e2 j _ (List.getElem?_eq_getElem hj2)
    refine ⟨k1,k2,(World.frozen?_setCells g _ _ _ _).trans k3,?_⟩
    rw [s2] at hd'
    by_cases hlo:j < off
    ·refine ⟨v,(hout g (bo+j) (fun _=>Or.inl (by omega))).trans k4,?_⟩
     rw [List.append_assoc,List.getElem?_append_left (by simp;omega),List.getElem?_take,if_pos hlo,List.getElem?_eq_getElem hj2] at hd'
     simp only [Xs] at hd'
     subst hd'
     exact k5.ext hx'
    ·by_cases hhi:j < off+pv.length
     ·have hjl:j - off < vs.length:=by omega
      have hcell:=World.cell?_setCells_in g vs (bo+off) Ω.w hsome (j - off) hjl
      rw [show bo+off+(j - off)=bo+j by omega] at hcell
      refine ⟨_,hcell,?_⟩
      have htl:(List.take off (aa c)).length=off:=by simp;omega
      rw [List.append_assoc,List.getElem?_append_right (by omega),htl,List.getElem?_append_left (by omega)] at hd'
      exact (hvl.2 (j - off) d _ hd' (List.getElem?_eq_getElem hjl)).ext hx'
     ·refine ⟨v,(hout g (bo+j) (fun _=>Or.inr (by omega))).trans k4,?_⟩
      have htl:(List.take off (aa c)++pv).length=off+pv.length:=by simp;omega
      rw [List.getElem?_append_right (by omega),htl,List.getElem?_drop,show off+pv.length+(j - (off+pv.length))=j by omega,List.getElem?_eq_getElem hj2] at hd'
      simp only [Xs] at hd'
      subst hd'
      exact k5.ext hx'
   ·rw [if_neg hid] at ho'
    refine (h.slots id' o' ho').keep hx' rfl (fun c0 hc0=>?_)
    cases c0 with
    | box b2 o2 l2=>
     intro oo h1 h2
     refine ⟨hout b2 oo (fun e=>?_),World.frozen?_setCells g _ _ _ _,fun p=>p⟩
     subst e
     rcases Decidable.em (oo < bo+off∨bo+off+pv.length<=oo) with k | k
     ·exact k
     ·exact absurd (h.inj id id' _ _ b2 oo hxb hc0 ⟨rfl,by omega,by omega⟩ ⟨rfl,h1,h2⟩) hid
    | tail n base cap=>
     intro b2 hb2
     refine ⟨q5 b2 (fun e=>?_),fun _ p=>p⟩
     subst e
     exact hid (h.inj id id' _ _ b2 bo hxb hc0 ⟨rfl,Nat.le_refl _,by omega⟩ hb2)
    | obj r=>
     refine q5 r (fun e=>?_)
     subst e
     exact hid (h.inj id id' _ _ r bo hxb hc0 ⟨rfl,Nat.le_refl _,by omega⟩ rfl)
    | bld b2 g=>
     intro b3 hb3
     refine ⟨q5 b3 (fun e=>?_),fun _ p=>p⟩
     subst e
     exact hid (h.inj id id' _ _ b3 bo hxb hc0 ⟨rfl,Nat.le_refl _,by omega⟩ hb3))
  (fun id' hid'=>by
   simp only [fR] at hid'
   by_cases hid:id=id'
   ·simp [hid] at hid'
   ·rw [if_neg hid] at hid'
    exact h.dom id' hid')
  h.inj
  (fun b o' p=>by
   obtain ⟨v,hv⟩:=h.pubok b o' p
   exact ⟨v,by rw [hx'.cell b o' p,hv]⟩)
  ⟨q1.trans h.frame.os,q2.trans h.frame.tape,q3.trans h.frame.output,by rw [q4];exact h.frame.size,
   fun b hb hnb=>(q5 b (fun e=>by
    subst e
    have:=(e2 off _ (List.getElem?_eq_getElem (by omega))).1
    rcases this with k | k
    ·omega
    ·exact hnb _ k)).trans (h.frame.block b hb hnb),
   fun b o' hb hnb=>(hout b o' (fun e=>by
    subst e
    rcases Decidable.em (o' < bo+off∨bo+off+pv.length<=o') with k | k
    ·exact k
    ·obtain ⟨j,c0,rfl,hj⟩:=hrange b o' rfl k
     rcases (e2 j c0 hj).1 with k2 | k2
     ·omega
     ·exact absurd k2 hnb)).trans (h.frame.cell b o' hb hnb),
   fun b hb hnb=>⟨(q6 b).trans (h.frame.kind b hb hnb).1,fun o'=>(World.frozen?_setCells g _ _ _ _).trans ((h.frame.kind b hb hnb).2 o')⟩,
   h.frame.pub,h.frame.old,fun b o hp=>(hx'.cell b o (h.frame.old b o hp)).trans (h.frame.pcell b o hp)⟩
 exact ⟨hst,hh⟩
theorem xK (hT:aK P C.tbl) {t:Nat} {x y:Operand} (hop:o.op=.store t x y) {r:TR} (hr:az C.tbl t=some r) {id i w off:Nat} {F:Fr} {s:AS} {a:Act} {Ω:Om} {eff:Eff}
  {next:Act→World→Prop} {Q:Exit→Act→World→Prop} (hopd:opd s.T x=.aptr id i w off) {τ:Ty} {xs:List (den τ)} (hcs:s.B id=some (.box (.row τ xs)))
  (h:Holds F s a Ω) (hpos:0 < r.size) (hd:∀d,o.dst=some d→d < F.n) (he:nu r id τ xs i w off (opd s.T y)=some eff) (ho:eff.asks)
  (hn:∀a' Ω',Holds F (s.put o.dst eff) a' Ω'→next a' Ω'.w):o.wp P a Ω.w next Q:=by
 have hx:=aZ h x
 have hy:=aZ h y
 rw [hopd] at hx
 obtain ⟨g,bo,len,hxv,hxb⟩:=hx.aptr_inv
 unfold nu at he
 split at he
 ·rename_i hw
  subst hw
  split at he
  ·rename_i c2 hst
   split at he
   ·rename_i x' hx'
    simp only [Xs] at he
    subst he
    have hi:i < xs.length:=ho
    obtain ⟨hlf,hlen,ds,hds,hpc⟩:=kN hst
    have hyp:=hy.parts hlf
    have hyl':(a.eval y).cells.size=r.size:=by
     have:=hyp.1
     rw [hlen] at this
     simpa using this.symm
    rw [jy] at hds
    have hsplit:∀z:den τ,aX τ (xs.set i z)=aX τ (xs.take i)++cells τ z++aX τ (xs.drop (i+1)):=by
     intro z
     rw [List.set_eq_take_append_cons_drop,if_pos hi,dJ]
     simp [aX]
    have hself:aX τ xs=aX τ (xs.take i)++cells τ (xs.getD i (dfl τ))++aX τ (xs.drop (i+1)):=by
     rw [←hsplit]
     congr 1
     simp [List.getD_eq_getElem?_getD,hi]
    have htl:(aX τ (xs.take i)).length=i *ae τ:=by rw [bh,List.length_take,Nat.min_eq_left (Nat.le_of_lt hi)]
    have hbig:splice (aa (.row τ xs)) (i *ae τ+off) (aa (opd s.T y))=some (aX τ (xs.take i)++ds++aX τ (xs.drop (i+1))):=by
     show splice (aX τ xs) _ _=_
     rw [hself]
     exact nM _ _ _ _ _ _ _ hds htl
    have hrd:RdL (aX τ (xs.take i)++ds++aX τ (xs.drop (i+1))) (aa (.row τ (xs.set i x'))):=by
     show RdL _ (aX τ (xs.set i x'))
     rw [hsplit]
     exact ((RdL.refl _).append (by rw [←hpc];exact lu τ hx')).append (RdL.refl _)
    obtain ⟨hst,hh⟩:=h.store (P:=P) (dst:=o.dst) (c':=.row τ (xs.set i x')) hcs hxb hbig hyp hlf hrd (by omega) hd
    refine iT (w':=Ω.w.setCells g (bo+(i *ae τ+off)) (a.eval y).cells.toList) ?_ (hn _ _ hh)
    simp only [execOp,hop,hxv,Instr.storeAt,Instr.sureAddr,storeVar,Sem.run_bind,Sem.run_pure,Result.andThen_ok,(hT t r hr).tf.size,hyl']
    simp only [ne_eq,not_true_eq_false,if_false,hst,Result.andThen_ok]
   ·simp at he
  ·simp at he
 ·simp at he
theorem Holds.tell {F:Fr} {s:AS} {a:Act} {Ω:Om} (h:Holds F s a Ω) {k m b cap:Nat} {τ:Ty} {x0 x:den τ} {vs:List Value} {dst:Option Nat}
  (hB:s.B k=some (.tailp τ m x0)) (he:Ω.e k=some (.tail (m+1) (some b) cap)) (hvl:VL Ω (cells τ x) vs) (hd:∀d,dst=some d→d < F.n) :
  ∃Ω',(storeCells ⟨b,m *ae τ,none⟩ vs 0).run P Ω.w=.ok () Ω'.w/\Holds F ⟨bB s.T dst .undef,bJ s.B [(k,.tailp τ m x)]⟩ (a.put dst undef) Ω':=by
 obtain ⟨b',cap',e1,e2,e3,hown,⟨cur,ty,fz,hg,hfz,hfit⟩,hpub,_⟩:=h.slots k _ hB
 rw [he] at e1
 simp only [Xs,CObj.tail.injEq,true_and] at e1
 obtain ⟨rfl,rfl⟩:=e1
 have hvn:vs.length=ae τ:=by rw [←hvl.1,aM]
 have hmul:(m+1) *ae τ<=cap *ae τ:=Nat.mul_le_mul_right _ e2
 rw [Nat.add_mul,Nat.one_mul] at hmul
 have hst:=run_storeCells_atF P b (m *ae τ) ty fz vs 0 cur Ω.w hg (by omega) (by simp;omega) (hvl.leaf_one (nB τ x))
 simp only [Nat.add_zero] at hst
 have hg':=setRow_heap Ω.w b cur (cur.toList.take (m *ae τ)++vs++cur.toList.drop (m *ae τ+vs.length)).toArray ty fz hg
 have hsz:(cur.toList.take (m *ae τ)++vs++cur.toList.drop (m *ae τ+vs.length)).toArray.size=cur.size:=by simp;omega
 obtain ⟨q1,q2,q3,q4⟩:=lv Ω.w b (cur.toList.take (m *ae τ)++vs++cur.toList.drop (m *ae τ+vs.length)).toArray
 have hcellold:∀b' o,Ω.pub b' o→(Ω.w.setRow b (cur.toList.take (m *ae τ)++vs++cur.toList.drop (m *ae τ+vs.length)).toArray).cell? ⟨b',o,none⟩=Ω.w.cell? ⟨b',o,none⟩:=by
  intro b' o hp
  by_cases hb:b'=b
  ·subst hb
   rw [ax hg',ax hg]
   have hlt:o < m *ae τ:=by
    rcases Nat.lt_or_ge o (m *ae τ) with k | k
    ·exact k
    ·exact absurd hp (hpub o k)
   simp only [List.getElem?_toArray]
   rw [List.append_assoc,List.getElem?_append_left (by simp;omega),List.getElem?_take,if_pos hlt,Array.getElem?_toList]
  ·exact ak (setRow_other _ _ _ _ hb) o
 have hx:Ext Ω ⟨fun i=>if k=i then some (.tail (m+1) (some b) cap) else Ω.e i,
   Ω.w.setRow b (cur.toList.take (m *ae τ)++vs++cur.toList.drop (m *ae τ+vs.length)).toArray,Ω.pub⟩:=by
  refine ⟨fun i c hc=>?_,fun _ _ p=>p,hcellold⟩
  by_cases hi:k=i
  ·subst hi
   rw [he] at hc
   simp at hc
   subst hc
   exact ⟨_,by simp,CLe.refl _⟩
  ·exact ⟨c,by simp [hi,hc],CLe.refl c⟩
 refine ⟨_,hst,h.slot hx ?_ (fun i c' hi hc=>kH.of_blocks fun b' o hb=>?_) (fun i c' b' o hi hc hb hb'=>hi (h.inj i k _ _ b' o hc he hb hb')) (fun b' o hp=>?_) ?_ (.undef _) hd⟩
 ·refine ⟨b,cap,by simp,e2,e3,hown,⟨_,ty,fz,hg',hfz,by rw [hsz];exact hfit⟩,hpub,fun j c hc=>?_⟩
  have hj:j < vs.length:=by
   rw [←hvl.1]
   rcases Nat.lt_or_ge j (cells τ x).length with q | q
   ·exact q
   ·rw [List.getElem?_eq_none q] at hc;cases hc
  refine ⟨vs[j],?_,(hvl.2 j c _ hc (List.getElem?_eq_getElem hj)).ext hx⟩
  show World.cell? _ _=_
  rw [ax hg']
  have htl:(List.take (m *ae τ) cur.toList).length=m *ae τ:=by simp;omega
  simp only [List.getElem?_toArray]
  rw [List.append_assoc,List.getElem?_append_right (by omega),htl,Nat.add_sub_cancel_left,List.getElem?_append_left hj,List.getElem?_eq_getElem hj]
 ·have hbg:b'≠b:=fun e=>by
   subst e
   exact hi (h.inj i k _ _ b' o hc he hb rfl)
  exact ⟨setRow_other _ _ _ _ hbg,fun o ho'=>ho'⟩
 ·obtain ⟨v,hv⟩:=h.pubok b' o hp
  exact ⟨v,by rw [hcellold b' o hp,hv]⟩
 ·have hnotold:∀b',b' < F.w0.heap.size→(¬∀o,F.br b' o)→b'≠b:=by
   intro b' hb hnb e
   subst e
   refine hnb (fun o=>?_)
   rcases hown o with ho' | ho'
   ·omega
   ·exact ho'
  refine ⟨q1.trans h.frame.os,q2.trans h.frame.tape,q3.trans h.frame.output,by rw [q4];exact h.frame.size,fun b' hb hnb=>?_,fun b' o hb hnb=>?_,fun b' hb=>?_,h.frame.pub,h.frame.old,fun b' o hp=>(hx.cell b' o (h.frame.old b' o hp)).trans (h.frame.pcell b' o hp)⟩
  ·exact (setRow_other _ _ _ _ (hnotold b' hb (fun k=>hnb 0 (k 0)))).trans (h.frame.block b' hb hnb)
  ·exact (ak (setRow_other _ _ _ _ (hnotold b' hb (fun k=>hnb (k o)))) o).trans (h.frame.cell b' o hb hnb)
  ·intro hnb
   have hbg:=hnotold b' hb hnb
   exact ⟨(b7 (setRow_other _ _ _ _ hbg)).trans (h.frame.kind b' hb hnb).1,fun o=>(aO (setRow_other _ _ _ _ hbg) o).trans ((h.frame.kind b' hb hnb).2 o)⟩
theorem zL (hT:aK P C.tbl) {t:Nat} {x y:Operand} (hop:o.op=.store t x y):bS P C o:=by
 intro F s a Ω eff next Q h hd he ho hn
 simp only [ar,hop] at he
 have hx:=aZ h x
 have hy:=aZ h y
 split at he
 ·rename_i r hr
  split at he
  ·rename_i hz
   split at he
   ·rename_i id off hopd hpa
    simp only [Xs] at he
    subst he
    rw [hopd] at hx
    obtain ⟨g,bo,len,hxv,hxb⟩:=hx.ptr_inv
    have hp:=hy.parts (by rw [hpa];rfl)
    have hnil:(a.eval y).cells.toList=[]:=by
     have:=hp.1
     rw [hpa] at this
     exact List.length_eq_zero_iff.1 this.symm
    have hsz:(a.eval y).cells.size=r.size:=by rw [hz,←Array.length_toList,hnil];rfl
    refine iT (w':=Ω.w) ?_ (hn _ _ (h.pure (.undef _) hd))
    simp only [execOp,hop,hxv,Instr.storeAt,Instr.sureAddr,storeVar,Sem.run_bind,Sem.run_pure,Result.andThen_ok,(hT t r hr).tf.size,hsz]
    simp only [ne_eq,not_true_eq_false,if_false,hnil]
    rfl
   ·simp at he
  rename_i hsz0
  have hpos:0 < r.size:=by rw [hsz0];exact Nat.succ_pos _
  split at he
  ·rename_i id off hopd
   rw [hopd] at hx
   obtain ⟨g,bo,len,hxv,hxb⟩:=hx.ptr_inv
   split at he
   ·rename_i c hcs
    split at he
    ·rename_i c' hst
     simp only [Xs] at he
     subst he
     obtain ⟨hlf,hlen,ds,hds,hpc⟩:=kN hst
     have hyp:=hy.parts hlf
     have hyl':(a.eval y).cells.size=r.size:=by
      have:=hyp.1
      rw [hlen] at this
      simpa using this.symm
     obtain ⟨hst,hh⟩:=h.store (P:=P) (dst:=o.dst) hcs hxb hds hyp hlf (by rw [hpc];exact RdL.refl _) (by omega) hd
     refine iT (w':=Ω.w.setCells g (bo+off) (a.eval y).cells.toList) ?_ (hn _ _ hh)
     simp only [execOp,hop,hxv,Instr.storeAt,Instr.sureAddr,storeVar,Sem.run_bind,Sem.run_pure,Result.andThen_ok,(hT t r hr).tf.size,hyl']
     simp only [ne_eq,not_true_eq_false,if_false,hst,Result.andThen_ok]
    ·simp at he
   ·simp at he
  ·rename_i id i w off hopd
   split at he
   ·rename_i τ xs hcs
    exact xK hT hop hr hopd hcs h hpos hd he ho hn
   ·simp at he
  ·rename_i τ n k hopd
   rw [hopd] at hx
   split at he
   ·rename_i τ' m x0 hB
    split at he
    ·rename_i hτ
     subst hτ
     split at he
     ·rename_i v hv
      split at he
      ·rename_i hck
       simp only [Xs] at he
       subst he
       have hnm:n=m:=ho
       subst hnm
       simp only [Bool.and_eq_true,Nat.beq_eq] at hck
       obtain ⟨hlf,hln,hrw⟩:=hck
       have hlen:=bC _ _ hln
       have hyp:=hy.parts hlf
       have hyl':(a.eval y).cells.size=r.size:=by
        have:=hyp.1
        rw [hlen] at this
        simpa using this.symm
       generalize hxe:a.eval x=xv at hx
       cases hx with
       | tptr _ _ _ p hp=>
        obtain ⟨b',cap',e1,e2,_⟩:=h.slots k _ hB
        obtain ⟨m',base,cap2,r1,r2,r3⟩:=hp
        rw [e1] at r1
        simp only [Xs,CObj.tail.injEq] at r1
        obtain ⟨rfl,rfl,rfl⟩:=r1
        obtain ⟨b2,g1,rfl⟩:=r3 rfl
        simp only [Xs] at g1
        subst g1
        obtain ⟨Ω',hst,hh⟩:=h.tell (P:=P) (dst:=o.dst) hB e1 (hyp.rd (lu _ hv)) hd
        refine iT (w':=Ω'.w) ?_ (hn _ _ hh)
        simp only [execOp,hop,hxe,Instr.storeAt,Instr.sureAddr,storeVar,Sem.run_bind,Sem.run_pure,Result.andThen_ok,(hT t r hr).tf.size,hyl']
        simp only [ne_eq,not_true_eq_false,if_false,hst,Result.andThen_ok]
      ·simp at he
     ·simp at he
    ·simp at he
   ·simp at he
  ·simp at he
 ·simp at he
theorem sG (w:World) (t ty e:Nat) (i:TypeInfo) (ht:P.underlying t=some (.slice e)) (hi:P.info? e=some i)
  (g sLen sCap bt:Nat) (cur:Array Value) (fz:Nat × Nat) (hg:w.heap[g]?=some (.cells cur bt fz)) (hfz:fz.2<=sLen *i.size)
  (a:Addr) (m c:Nat) (news:List Value) (hl:news.length=m *i.size) (hnews:∀j u,news[j]?=some u→w.cell? (a.add j)=some u) (h1:∀u∈news,u.oneCell'=true)
  (hroom:sLen+m<=sCap) (hfit:sLen *i.size+news.length<=cur.size) :
  (Builtin.append_ #[t,t] ty #[.slice (some ⟨g,0,none⟩) sLen sCap,.slice (some a) m c]).run P w=
   .ok (.slice (some ⟨g,0,none⟩) (sLen+m) sCap) (w.setRow g (cur.toList.take (sLen *i.size)++news++cur.toList.drop (sLen *i.size+news.length)).toArray):=by
 have hf:=run_firstCells_some (P:=P) w i.size m a m c news hl hnews
 have hst:=run_storeCells_atF P g (sLen *i.size) bt fz news 0 cur w hg (by simpa using hfz) (by simpa using hfit) h1
 simp only [Nat.add_zero] at hst
 simp [Builtin.append_,run_underlying ht,sizeOf,typeInfo,hi,Builtin.lenOf,hroom,hf,Addr.add_lit,hst]
theorem gL (w:World) (t ty e:Nat) (i:TypeInfo) (ht:P.underlying t=some (.slice e)) (hi:P.info? e=some i)
  (x:Option Addr) (sLen sCap:Nat) (h:sLen<=sCap) :
  (Builtin.append_ #[t,t] ty #[.slice x sLen sCap,.slice none 0 0]).run P w=.ok (.slice x sLen sCap) w:=by
 cases x <;> simp [Builtin.append_,run_underlying ht,sizeOf,typeInfo,hi,Builtin.lenOf,h,Builtin.firstCells,storeCells]
theorem jT (w:World) (t ty e:Nat) (i:TypeInfo) (ht:P.underlying t=some (.slice e)) (hi:P.info? e=some i) (a:Addr) (c:Nat) :
  (Builtin.append_ #[t,t] ty #[.slice none 0 0,.slice (some a) 0 c]).run P w=.ok (.slice none 0 0) w:=by
 have hf:=run_firstCells_some (P:=P) w i.size 0 a 0 c [] (by simp) (fun j v h=>by simp at h)
 simp [Builtin.append_,run_underlying ht,sizeOf,typeInfo,hi,Builtin.lenOf,hf]
theorem jB (b off j:Nat):(⟨b,off,none⟩:Addr).add j=⟨b,off+j,none⟩:=by
 unfold Addr.add
 split <;> simp_all
theorem V.src {Ω:Om} {τ:Ty} {ys:List (den τ)} {o:Option Nat} {v:Value} (h:V Ω (.lst τ ys o) v) :
  (v=.slice none 0 0/\ys=[])∨∃a c us,v=.slice (some a) ys.length c/\us.length=ys.length *ae τ/\VL Ω (aX τ ys) us/\
   (∀j u,us[j]?=some u→Ω.w.cell? (a.add j)=some u)/\(∀u∈us,u.oneCell'=true):=by
 rcases h.lst_inv with ⟨h1,hv,_⟩ | ⟨h1,_,a0,hv⟩ | ⟨b,off,cap,vals,hv,h1,h2,h3,h4,h5⟩
 ·exact Or.inl ⟨hv,h1⟩
 ·subst h1
  exact Or.inr ⟨a0,0,[],hv,by simp,⟨rfl,fun j c v hc=>by simp [aX] at hc⟩,fun j u hj=>by simp at hj,fun u hu=>by simp at hu⟩
 ·obtain ⟨us,u1,u2,u3⟩:=V.row_cells h4 h5
  refine Or.inr ⟨⟨b,off,none⟩,cap,us,hv,u1,u2,fun j u hj=>?_,u2.leaf_one (xD τ ys)⟩
  rw [jB]
  exact u3 j u hj
theorem fg (w:World) (aC old e:Nat) (h:aC<=bn):aC<=grownCap w aC old e/\grownCap w aC old e<=bn:=by
 have h1:=grownCap_ge w aC old e
 have h2:=grownCap_le_maxLen w aC old e (by unfold bn at h;unfold maxLen;omega)
 unfold maxLen at h2
 unfold bn
 exact ⟨h1,by omega⟩
theorem Holds.grow {F:Fr} {s:AS} {a:Act} {Ω:Om} {k aC old e:Nat} {τ:Ty} {zs:List (den τ)} {rest:List Value} {us:List Value} {dst:Option Nat}
  (h:Holds F s a Ω) (hn:Ω.e k=none∨∃n base cap,Ω.e k=some (.tail n base cap)/\n < zs.length) (hz:zs.length=aC) (hneed:aC<=bn)
  (hu:VL Ω (aX τ zs) us) (hrest:rest.length=(grownCap Ω.w aC old e - aC) *ae τ) (hd:∀d,dst=some d→d < F.n) :
  ∃Ω',Ω'.w=Ω.w.drew.alloc (.cells (us++rest).toArray e)/\
   Holds F ⟨bB s.T dst (.lst τ zs (some k)),bJ s.B [(k,.tail τ zs.length)]⟩ (a.put dst (.slice (some ⟨Ω.w.heap.size,0,none⟩) aC (grownCap Ω.w aC old e))) Ω':=by
 subst hz
 obtain ⟨g1,g2⟩:=fg Ω.w zs.length old e hneed
 have hul:us.length=zs.length *ae τ:=by rw [←hu.1,bh]
 have hx0:Ext Ω ⟨Ω.e,Ω.w.drew,Ω.pub⟩:=⟨fun _ c hc=>⟨c,hc,CLe.refl c⟩,fun _ _ p=>p,fun _ _ _=>rfl⟩
 have h':=h.drew
 refine ⟨_,rfl,h'.alloc (d:=k) (c:=.tail zs.length (some Ω.w.heap.size) (grownCap Ω.w zs.length old e)) (x:=.cells (us++rest).toArray e) (p:=fun o=>o < zs.length *ae τ) ?_ (fun b o hb=>by simpa [occ] using hb.symm)
  (fun hx=>?_) (fun o ho=>?_) (fun hx=>?_) hd⟩
 ·rcases hn with hn | ⟨n,base,cap,hn,hlt⟩
  ·exact Or.inl hn
  ·exact Or.inr ⟨_,hn,by simp [CLe];omega⟩
 ·refine ⟨some Ω.w.heap.size,grownCap Ω.w zs.length old e,by simp,g1,g2,by simp,fun b hb=>?_⟩
  simp at hb
  subst hb
  refine ⟨fun _=>Or.inl h.frame.size,_,e,(0,0),bK _ _,rfl,?_,fun o ho hp=>?_⟩
  ·simp [hul,hrest,←Nat.add_mul]
   rw [show zs.length+(grownCap Ω.w zs.length old e - zs.length)=grownCap Ω.w zs.length old e from by omega]
   exact Nat.le_refl _
  ·rcases hp with hp | ⟨_,hp⟩
   ·have:=h.cell_lt hp;omega
   ·omega
 ·have hc:=ax (bK Ω.w.drew (.cells (us++rest).toArray e)) o
  exact ⟨us[o]'(by omega),hc.trans (by simp [List.getElem?_append,hul,ho])⟩
 ·refine nK (vs:=us) (bK _ _) (by rw [←hul];simp) ((hu.ext hx0).ext hx) g1 g2 (fun i hi=>Or.inr ⟨rfl,hi⟩) ?_
  intro id hid
  simp at hid
  subst hid
  exact ⟨zs.length,some Ω.w.heap.size,_,by simp,Nat.le_refl _,fun _=>rfl⟩
theorem Holds.same {F:Fr} {s:AS} {a:Act} {Ω:Om} {k:Nat} {τ:Ty} {xs:List (den τ)} {n:Nat} {v:Value} {dst:Option Nat}
  (h:Holds F s a Ω) (hB:s.B k=some (.tail τ n)) (hn:xs.length=n) (hv:V Ω (.lst τ xs (some k)) v) (hd:∀d,dst=some d→d < F.n) :
  Holds F ⟨bB s.T dst (.lst τ (xs++[]) (some k)),bJ s.B [(k,.tail τ (xs++[]).length)]⟩ (a.put dst v) Ω:=by
 have e:bJ s.B [(k,.tail τ (xs++[]).length)]=s.B:=by
  funext j
  rw [fR]
  by_cases hj:k=j
  ·subst hj
   simp [hB,hn]
  ·simp [hj]
 rw [e,List.append_nil]
 exact h.pure hv hd
theorem Holds.room {F:Fr} {s:AS} {a:Act} {Ω:Om} {k g cap ty:Nat} {τ:Ty} {xs ys:List (den τ)} {cur:Array Value} {olds news:List Value} {dst:Option Nat}
  (h:Holds F s a Ω) (he:Ω.e k=some (.tail xs.length (some g) cap)) (hown:∀o,F.own g o) {fz:Nat × Nat} (hg:Ω.w.heap[g]?=some (.cells cur ty fz)) (hfz:fz.2=0)
  (hfit:cap *ae τ<=cur.size) (hpub:∀o,xs.length *ae τ<=o→¬Ω.pub g o) (hroom:xs.length+ys.length<=cap) (hcap:cap<=bn)
  (ho:VL Ω (aX τ xs) olds) (hoc:∀j u,olds[j]?=some u→Ω.w.cell? ⟨g,j,none⟩=some u) (hnw:VL Ω (aX τ ys) news)
  (hxp:∀i,i < xs.length *ae τ→Ω.pub g i) (hd:∀d,dst=some d→d < F.n) :
  ∃Ω',Ω'.w=Ω.w.setRow g (cur.toList.take (xs.length *ae τ)++news++cur.toList.drop (xs.length *ae τ+news.length)).toArray/\
   Holds F ⟨bB s.T dst (.lst τ (xs++ys) (some k)),bJ s.B [(k,.tail τ (xs++ys).length)]⟩ (a.put dst (.slice (some ⟨g,0,none⟩) (xs.length+ys.length) cap)) Ω':=by
 have hol:olds.length=xs.length *ae τ:=by rw [←ho.1,bh]
 have hnl:news.length=ys.length *ae τ:=by rw [←hnw.1,bh]
 have hmul:(xs.length+ys.length) *ae τ<=cap *ae τ:=Nat.mul_le_mul_right _ hroom
 rw [Nat.add_mul] at hmul
 have htake:cur.toList.take (xs.length *ae τ)=olds:=by
  apply List.ext_getElem?
  intro j
  rw [List.getElem?_take]
  split
  ·rename_i hj
   obtain ⟨u,hu⟩:∃u,olds[j]?=some u:=⟨_,List.getElem?_eq_getElem (by omega)⟩
   have:=hoc j u hu
   rw [ax hg] at this
   rw [hu,Array.getElem?_toList,this]
  ·rename_i hj
   rw [List.getElem?_eq_none (by omega)]
 have hg':=setRow_heap Ω.w g cur (cur.toList.take (xs.length *ae τ)++news++cur.toList.drop (xs.length *ae τ+news.length)).toArray ty fz hg
 have hsz:(cur.toList.take (xs.length *ae τ)++news++cur.toList.drop (xs.length *ae τ+news.length)).toArray.size=cur.size:=by simp;omega
 obtain ⟨q1,q2,q3,q4⟩:=lv Ω.w g (cur.toList.take (xs.length *ae τ)++news++cur.toList.drop (xs.length *ae τ+news.length)).toArray
 have hcellold:∀b o,Ω.pub b o→(Ω.w.setRow g (cur.toList.take (xs.length *ae τ)++news++cur.toList.drop (xs.length *ae τ+news.length)).toArray).cell? ⟨b,o,none⟩=Ω.w.cell? ⟨b,o,none⟩:=by
  intro b o hp
  by_cases hb:b=g
  ·subst hb
   rw [ax hg',ax hg]
   have hlt:o < xs.length *ae τ:=by
    rcases Nat.lt_or_ge o (xs.length *ae τ) with k | k
    ·exact k
    ·exact absurd hp (hpub o k)
   simp only [List.getElem?_toArray]
   rw [List.append_assoc,List.getElem?_append_left (by simp;omega),List.getElem?_take,if_pos hlt,Array.getElem?_toList]
  ·exact ak (setRow_other _ _ _ _ hb) o
 have hx:Ext Ω ⟨fun i=>if k=i then some (.tail (xs.length+ys.length) (some g) cap) else Ω.e i,
   Ω.w.setRow g (cur.toList.take (xs.length *ae τ)++news++cur.toList.drop (xs.length *ae τ+news.length)).toArray,
   fun b o=>Ω.pub b o∨(b=g/\o < (xs.length+ys.length) *ae τ)⟩:=by
  refine ⟨fun i c hc=>?_,fun _ _ p=>Or.inl p,hcellold⟩
  by_cases hi:k=i
  ·subst hi
   rw [he] at hc
   simp at hc
   subst hc
   exact ⟨_,by simp;rfl,by simp [CLe]⟩
  ·exact ⟨c,by simp [hi,hc],CLe.refl c⟩
 have hzl:(xs++ys).length=xs.length+ys.length:=List.length_append
 refine ⟨_,rfl,h.slot hx ?_ (fun i c' hi hc=>kH.of_blocks fun b o hb=>?_) (fun i c' b o hi hc hb hb'=>?_) (fun b o hp=>?_) ?_ ?_ hd⟩
 ·rw [hzl]
  refine ⟨some g,cap,by simp,hroom,hcap,by simp,fun b hb=>?_⟩
  simp at hb
  subst hb
  refine ⟨hown,_,ty,fz,hg',hfz,by rw [hsz];exact hfit,fun o ho' hp=>?_⟩
  rw [Nat.add_mul] at ho'
  rcases hp with hp | ⟨_,hp⟩
  ·exact hpub o (by omega) hp
  ·rw [Nat.add_mul] at hp;omega
 ·have hbg:b≠g:=fun e=>by
   subst e
   exact hi (h.inj i k _ _ b o hc he hb rfl)
  exact ⟨setRow_other _ _ _ _ hbg,fun o ho'=>ho'.resolve_right (fun e=>hbg e.1)⟩
 ·exact hi (h.inj i k _ _ b o hc he hb hb')
 ·rcases hp with hp | ⟨rfl,hp⟩
  ·obtain ⟨v,hv⟩:=h.pubok b o hp
   exact ⟨v,by rw [hcellold b o hp,hv]⟩
  ·rw [ax hg']
   rw [Nat.add_mul] at hp
   exact ⟨_,Array.getElem?_eq_getElem (by rw [hsz];omega)⟩
 ·have hnotold:∀b,b < F.w0.heap.size→(¬∀o,F.br b o)→b≠g:=by
   intro b hb hnb e
   subst e
   refine hnb (fun o=>?_)
   rcases hown o with ho' | ho'
   ·omega
   ·exact ho'
  refine ⟨q1.trans h.frame.os,q2.trans h.frame.tape,q3.trans h.frame.output,by rw [q4];exact h.frame.size,fun b hb hnb=>?_,fun b o hb hnb=>?_,fun b hb=>?_,fun b o hp=>?_,fun b o hp=>Or.inl (h.frame.old b o hp),fun b o hp=>(hx.cell b o (h.frame.old b o hp)).trans (h.frame.pcell b o hp)⟩
  ·exact (setRow_other _ _ _ _ (hnotold b hb (fun k=>hnb 0 (k 0)))).trans (h.frame.block b hb hnb)
  ·exact (ak (setRow_other _ _ _ _ (hnotold b hb (fun k=>hnb (k o)))) o).trans (h.frame.cell b o hb hnb)
  ·intro hnb
   have hbg:=hnotold b hb hnb
   exact ⟨(b7 (setRow_other _ _ _ _ hbg)).trans (h.frame.kind b hb hnb).1,fun o=>(aO (setRow_other _ _ _ _ hbg) o).trans ((h.frame.kind b hb hnb).2 o)⟩
  ·rcases hp with hp | ⟨rfl,_⟩
   ·exact h.frame.pub b o hp
   ·exact Or.inr (hown o)
 ·have:=nK (Ω:=⟨fun i=>if k=i then some (.tail (xs.length+ys.length) (some g) cap) else Ω.e i,
   Ω.w.setRow g (cur.toList.take (xs.length *ae τ)++news++cur.toList.drop (xs.length *ae τ+news.length)).toArray,
   fun b o=>Ω.pub b o∨(b=g/\o < (xs.length+ys.length) *ae τ)⟩) (τ:=τ) (xs:=xs++ys) (o:=some k) (cap:=cap) (vs:=olds++news) hg'
   (by
    rw [hzl,htake]
    rw [List.take_append_of_le_length (by simp [hol,hnl,Nat.add_mul]),List.take_of_length_le (by simp [hol,hnl,Nat.add_mul])])
   (by rw [dJ];exact (ho.ext hx).append (hnw.ext hx)) (by rw [hzl];exact hroom) hcap
   (fun i hi=>by
    rw [hzl] at hi
    exact Or.inr ⟨rfl,hi⟩)
   (by
    intro id hid
    simp at hid
    subst hid
    exact ⟨xs.length+ys.length,some g,cap,by simp,by rw [hzl];exact Nat.le_refl _,fun _=>by rw [hzl];rfl⟩)
  rw [hzl] at this
  exact this
theorem aJ {w w':World} {a:Act} {x y:Operand} {t t':Nat} {v:Value} (hop:o.op=.call {callee:=.builtin .append,args:=#[x,y],argTypes:=#[t,t']})
  (h:(Builtin.append_ #[t,t'] o.type #[a.eval x,a.eval y]).run P w=.ok v w'):(execOp a.eval o).run P w=.ok (.value v) w':=by
 simp [execOp,hop,resolve,invoke,builtin,h]
theorem V.mkP {Ω:Om} {τ:Ty} {xs:List (den τ)} {k g cap:Nat} (hv:V Ω (.lst τ xs none) (.slice (some ⟨g,0,none⟩) xs.length cap)) (hc:xs.length+1<=cap)
  (ht:eX Ω (some k) (xs.length+1) (.slice (some ⟨g,0,none⟩) (xs.length+1) cap)):V Ω (.lstp τ xs k) (.slice (some ⟨g,0,none⟩) (xs.length+1) cap):=by
 rcases hv.lst_inv with ⟨_,hv,_⟩ | ⟨_,_,a0,hv⟩ | ⟨b,off,cap',vals,hv,h1,h2,h3,h4,h5⟩
 ·cases hv
 ·simp only [Value.slice.injEq] at hv;omega
 ·simp only [Value.slice.injEq,Xs,Addr.mk.injEq,true_and,and_true] at hv
  obtain ⟨⟨rfl,rfl⟩,rfl⟩:=hv
  exact .lstp τ xs k g 0 cap vals hc h2 ht h4 h5
theorem Holds.growP {F:Fr} {s:AS} {a:Act} {Ω:Om} {k aC old e:Nat} {τ:Ty} {xs:List (den τ)} {z:den τ} {rest us:List Value} {dst:Option Nat}
  (h:Holds F s a Ω) (hn:Ω.e k=none∨∃n base cap,Ω.e k=some (.tail n base cap)/\n < xs.length+1) (hz:aC=xs.length+1) (hneed:aC<=bn)
  (hu:VL Ω (aX τ (xs++[z])) us) (hrest:rest.length=(grownCap Ω.w aC old e - aC) *ae τ) (hd:∀d,dst=some d→d < F.n) :
  ∃Ω',Ω'.w=Ω.w.drew.alloc (.cells (us++rest).toArray e)/\
   Holds F ⟨bB s.T dst (.lstp τ xs k),bJ s.B [(k,.tailp τ xs.length z)]⟩ (a.put dst (.slice (some ⟨Ω.w.heap.size,0,none⟩) aC (grownCap Ω.w aC old e))) Ω':=by
 subst hz
 obtain ⟨g1,g2⟩:=fg Ω.w (xs.length+1) old e hneed
 have hul:us.length=(xs.length+1) *ae τ:=by rw [←hu.1,bh];simp
 have hmul:(xs.length+1) *ae τ=xs.length *ae τ+ae τ:=by rw [Nat.add_mul,Nat.one_mul]
 have hx0:Ext Ω ⟨Ω.e,Ω.w.drew,Ω.pub⟩:=⟨fun _ c hc=>⟨c,hc,CLe.refl c⟩,fun _ _ p=>p,fun _ _ _=>rfl⟩
 have h':=h.drew
 have hflat:aX τ (xs++[z])=aX τ xs++cells τ z:=by rw [dJ];simp [aX]
 have hfl:(aX τ xs).length=xs.length *ae τ:=bh τ xs
 have hua:VL Ω (aX τ xs) (us.take (xs.length *ae τ)):=by
  have:=hu
  rw [hflat] at this
  refine ⟨by simp;omega,fun j c v hc hv=>?_⟩
  have hj:j < (aX τ xs).length:=by
   rcases Nat.lt_or_ge j (aX τ xs).length with q | q
   ·exact q
   ·rw [List.getElem?_eq_none q] at hc;cases hc
  refine this.2 j c v (by rw [List.getElem?_append_left hj];exact hc) ?_
  rw [List.getElem?_take] at hv
  split at hv
  ·exact hv
  ·cases hv
 have hsize:xs.length *ae τ+ae τ<=(us++rest).toArray.size:=by simp;omega
 refine ⟨_,rfl,h'.alloc (d:=k) (c:=.tail (xs.length+1) (some Ω.w.heap.size) (grownCap Ω.w (xs.length+1) old e)) (x:=.cells (us++rest).toArray e) (p:=fun o=>o < xs.length *ae τ) ?_ (fun b o hb=>by simpa [occ] using hb.symm)
  (fun hx=>?_) (fun o ho=>?_) (fun hx=>?_) hd⟩
 ·rcases hn with hn | ⟨n,base,cap,hn,hlt⟩
  ·exact Or.inl hn
  ·exact Or.inr ⟨_,hn,by simp [CLe];omega⟩
 ·refine ⟨Ω.w.heap.size,grownCap Ω.w (xs.length+1) old e,by simp,g1,g2,fun _=>Or.inl h.frame.size,⟨_,e,(0,0),bK _ _,rfl,?_⟩,fun o ho hp=>?_,fun j c hc=>?_⟩
  ·simp [hul,hrest,←Nat.add_mul]
   rw [show xs.length+1+(grownCap Ω.w (xs.length+1) old e - (xs.length+1))=grownCap Ω.w (xs.length+1) old e from by omega]
   exact Nat.le_refl _
  ·rcases hp with hp | ⟨_,hp⟩
   ·have:=h.cell_lt hp;omega
   ·omega
  ·have hj:j < ae τ:=by
    rw [←aM τ z]
    rcases Nat.lt_or_ge j (cells τ z).length with q | q
    ·exact q
    ·rw [List.getElem?_eq_none q] at hc;cases hc
   have hjl:xs.length *ae τ+j < us.length:=by omega
   refine ⟨us[xs.length *ae τ+j],?_,?_⟩
   ·have hcell:=ax (bK Ω.w.drew (.cells (us++rest).toArray e)) (xs.length *ae τ+j)
    exact hcell.trans (by simp [List.getElem?_append,hjl])
   ·refine ((hu.2 (xs.length *ae τ+j) c _ ?_ (List.getElem?_eq_getElem hjl)).ext hx0).ext hx
    rw [hflat,List.getElem?_append_right (by omega),hfl,Nat.add_sub_cancel_left]
    exact hc
 ·have hc:=ax (bK Ω.w.drew (.cells (us++rest).toArray e)) o
  exact ⟨us[o]'(by omega),hc.trans (by simp [List.getElem?_append,show o < us.length by omega])⟩
 ·have hv:=nK (τ:=τ) (xs:=xs) (o:=none) (cap:=grownCap Ω.w (xs.length+1) old e) (vs:=us.take (xs.length *ae τ)) (bK Ω.w.drew (.cells (us++rest).toArray e)) (by
    rw [List.take_append_of_le_length (by omega)]) ((hua.ext hx0).ext hx) (by omega) g2 (fun i hi=>Or.inr ⟨rfl,hi⟩) (fun id hid=>by cases hid)
  refine V.mkP hv g1 ?_
  intro id hid
  simp at hid
  subst hid
  exact ⟨xs.length+1,some Ω.w.heap.size,_,by simp,Nat.le_refl _,fun _=>rfl⟩
theorem Holds.roomP {F:Fr} {s:AS} {a:Act} {Ω:Om} {k g cap ty:Nat} {τ:Ty} {xs:List (den τ)} {z:den τ} {cur:Array Value} {olds news:List Value} {dst:Option Nat}
  (h:Holds F s a Ω) (he:Ω.e k=some (.tail xs.length (some g) cap)) (hown:∀o,F.own g o) {fz:Nat × Nat} (hg:Ω.w.heap[g]?=some (.cells cur ty fz)) (hfz:fz.2=0)
  (hfit:cap *ae τ<=cur.size) (hpub:∀o,xs.length *ae τ<=o→¬Ω.pub g o) (hroom:xs.length+1<=cap) (hcap:cap<=bn)
  (ho:VL Ω (aX τ xs) olds) (hoc:∀j u,olds[j]?=some u→Ω.w.cell? ⟨g,j,none⟩=some u) (hnw:VL Ω (cells τ z) news)
  (hxp:∀i,i < xs.length *ae τ→Ω.pub g i) (hd:∀d,dst=some d→d < F.n) :
  ∃Ω',Ω'.w=Ω.w.setRow g (cur.toList.take (xs.length *ae τ)++news++cur.toList.drop (xs.length *ae τ+news.length)).toArray/\
   Holds F ⟨bB s.T dst (.lstp τ xs k),bJ s.B [(k,.tailp τ xs.length z)]⟩ (a.put dst (.slice (some ⟨g,0,none⟩) (xs.length+1) cap)) Ω':=by
 have hol:olds.length=xs.length *ae τ:=by rw [←ho.1,bh]
 have hnl:news.length=ae τ:=by rw [←hnw.1,aM]
 have hmul:(xs.length+1) *ae τ<=cap *ae τ:=Nat.mul_le_mul_right _ hroom
 rw [Nat.add_mul,Nat.one_mul] at hmul
 have htake:cur.toList.take (xs.length *ae τ)=olds:=by
  apply List.ext_getElem?
  intro j
  rw [List.getElem?_take]
  split
  ·rename_i hj
   obtain ⟨u,hu⟩:∃u,olds[j]?=some u:=⟨_,List.getElem?_eq_getElem (by omega)⟩
   have:=hoc j u hu
   rw [ax hg] at this
   rw [hu,Array.getElem?_toList,this]
  ·rename_i hj
   rw [List.getElem?_eq_none (by omega)]
 have hg':=setRow_heap Ω.w g cur (cur.toList.take (xs.length *ae τ)++news++cur.toList.drop (xs.length *ae τ+news.length)).toArray ty fz hg
 have hsz:(cur.toList.take (xs.length *ae τ)++news++cur.toList.drop (xs.length *ae τ+news.length)).toArray.size=cur.size:=by simp;omega
 obtain ⟨q1,q2,q3,q4⟩:=lv Ω.w g (cur.toList.take (xs.length *ae τ)++news++cur.toList.drop (xs.length *ae τ+news.length)).toArray
 have hcellold:∀b o,Ω.pub b o→(Ω.w.setRow g (cur.toList.take (xs.length *ae τ)++news++cur.toList.drop (xs.length *ae τ+news.length)).toArray).cell? ⟨b,o,none⟩=Ω.w.cell? ⟨b,o,none⟩:=by
  intro b o hp
  by_cases hb:b=g
  ·subst hb
   rw [ax hg',ax hg]
   have hlt:o < xs.length *ae τ:=by
    rcases Nat.lt_or_ge o (xs.length *ae τ) with k | k
    ·exact k
    ·exact absurd hp (hpub o k)
   simp only [List.getElem?_toArray]
   rw [List.append_assoc,List.getElem?_append_left (by simp;omega),List.getElem?_take,if_pos hlt,Array.getElem?_toList]
  ·exact ak (setRow_other _ _ _ _ hb) o
 have hx:Ext Ω ⟨fun i=>if k=i then some (.tail (xs.length+1) (some g) cap) else Ω.e i,
   Ω.w.setRow g (cur.toList.take (xs.length *ae τ)++news++cur.toList.drop (xs.length *ae τ+news.length)).toArray,Ω.pub⟩:=by
  refine ⟨fun i c hc=>?_,fun _ _ p=>p,hcellold⟩
  by_cases hi:k=i
  ·subst hi
   rw [he] at hc
   simp at hc
   subst hc
   exact ⟨_,by simp;rfl,by simp [CLe]⟩
  ·exact ⟨c,by simp [hi,hc],CLe.refl c⟩
 refine ⟨_,rfl,h.slot hx ?_ (fun i c' hi hc=>kH.of_blocks fun b o hb=>?_) (fun i c' b o hi hc hb hb'=>hi (h.inj i k _ _ b o hc he hb hb')) (fun b o hp=>?_) ?_ ?_ hd⟩
 ·refine ⟨g,cap,by simp,hroom,hcap,hown,⟨_,ty,fz,hg',hfz,by rw [hsz];exact hfit⟩,hpub,fun j c hc=>?_⟩
  have hj:j < news.length:=by
   rw [←hnw.1]
   rcases Nat.lt_or_ge j (cells τ z).length with q | q
   ·exact q
   ·rw [List.getElem?_eq_none q] at hc;cases hc
  refine ⟨news[j],?_,(hnw.2 j c _ hc (List.getElem?_eq_getElem hj)).ext hx⟩
  show World.cell? _ _=_
  rw [ax hg']
  have htl:(List.take (xs.length *ae τ) cur.toList).length=xs.length *ae τ:=by simp;omega
  simp only [List.getElem?_toArray]
  rw [List.append_assoc,List.getElem?_append_right (by omega),htl,Nat.add_sub_cancel_left,List.getElem?_append_left hj,List.getElem?_eq_getElem hj]
 ·have hbg:b≠g:=fun e=>by
   subst e
   exact hi (h.inj i k _ _ b o hc he hb rfl)
  exact ⟨setRow_other _ _ _ _ hbg,fun o ho'=>ho'⟩
 ·obtain ⟨v,hv⟩:=h.pubok b o hp
  exact ⟨v,by rw [hcellold b o hp,hv]⟩
 ·have hnotold:∀b,b < F.w0.heap.size→(¬∀o,F.br b o)→b≠g:=by
   intro b hb hnb e
   subst e
   refine hnb (fun o=>?_)
   rcases hown o with ho' | ho'
   ·omega
   ·exact ho'
  refine ⟨q1.trans h.frame.os,q2.trans h.frame.tape,q3.trans h.frame.output,by rw [q4];exact h.frame.size,fun b hb hnb=>?_,fun b o hb hnb=>?_,fun b hb=>?_,h.frame.pub,h.frame.old,fun b o hp=>(hx.cell b o (h.frame.old b o hp)).trans (h.frame.pcell b o hp)⟩
  ·exact (setRow_other _ _ _ _ (hnotold b hb (fun k=>hnb 0 (k 0)))).trans (h.frame.block b hb hnb)
  ·exact (ak (setRow_other _ _ _ _ (hnotold b hb (fun k=>hnb (k o)))) o).trans (h.frame.cell b o hb hnb)
  ·intro hnb
   have hbg:=hnotold b hb hnb
   exact ⟨(b7 (setRow_other _ _ _ _ hbg)).trans (h.frame.kind b hb hnb).1,fun o=>(aO (setRow_other _ _ _ _ hbg) o).trans ((h.frame.kind b hb hnb).2 o)⟩
 ·have hv:=nK (Ω:=⟨fun i=>if k=i then some (.tail (xs.length+1) (some g) cap) else Ω.e i,
   Ω.w.setRow g (cur.toList.take (xs.length *ae τ)++news++cur.toList.drop (xs.length *ae τ+news.length)).toArray,Ω.pub⟩) (τ:=τ) (xs:=xs) (o:=none) (cap:=cap) (vs:=olds) hg'
   (by
    rw [htake,List.append_assoc]
    rw [List.take_append_of_le_length (by omega),List.take_of_length_le (by omega)])
   (ho.ext hx) (by omega) hcap hxp (fun id hid=>by cases hid)
  refine V.mkP hv hroom ?_
  intro id hid
  simp at hid
  subst hid
  exact ⟨xs.length+1,some g,cap,by simp,Nat.le_refl _,fun _=>rfl⟩
theorem sH (hT:aK P C.tbl) {x y:Operand} {t d:Nat} (hop:o.op=.call {callee:=.builtin .append,args:=#[x,y],argTypes:=#[t,t]}) (hdst:o.dst=some d)
  {F:Fr} {s:AS} {a:Act} {Ω:Om} {eff:Eff} {next:Act→World→Prop} {Q:Exit→Act→World→Prop} (h:Holds F s a Ω) (hd:∀d,o.dst=some d→d < F.n)
  (he:mQ C t d (opd s.T x) (opd s.T y) s.B=some eff) (ho:eff.asks) (hn:∀a' Ω',Holds F (s.put o.dst eff) a' Ω'→next a' Ω'.w):o.wp P a Ω.w next Q:=by
 have hx:=aZ h x
 have hy:=aZ h y
 unfold mQ at he
 split at he
 ·rename_i e sz by' z0 ty hr
  obtain ⟨dd,hd1,hd2⟩:=aB hT hr rfl
  cases dd <;> simp [aE] at hd2
  subst hd2
  split at he
  ·rename_i re hre
   obtain ⟨i,zz,i1,i2,i3,i4,i5⟩:=(hT _ _ hre).info
   have hzl:zz.cells.size=re.size:=by
    have p1:=(hT _ _ hre).zlen
    rw [←i5] at p1
    simpa using p1
   split at he
   ·
    rename_i τ xs k σ ys o2 hxe hye
    split at he
    ·rename_i z τ' n hcast hB
     split at he
     ·rename_i hτ
      obtain ⟨hτ1,hτ2⟩:=hτ
      subst hτ1
      obtain ⟨hστ,hys⟩:=gK hcast
      subst hστ
      simp only at hys
      subst hys
      simp only [Xs] at he
      subst he
      obtain ⟨hcount,hbytes⟩:=ho
      subst hcount
      rw [hxe] at hx
      rw [hye] at hy
      have hw:=((hT _ _ hre).ty _ hτ2).1
      have hiw:i.size=ae σ:=by rw [i2,hw]
      have hpos:=gJ σ
      have hby1:(xs.length+1) *i.bytes<=140737488355328:=by rw [i3];exact hbytes
      obtain ⟨base,cap,q1,q2,q3,q4,q5⟩:=h.slots k _ hB
      have hxtok:∃v,a.eval x=v/\v=.slice (dr base) xs.length cap:=by
       refine ⟨_,rfl,?_⟩
       have ht:eX Ω (some k) xs.length (a.eval x):=by
        rcases hx.lst_inv with ⟨h1,hv,ht⟩ | ⟨_,ho,_⟩ | ⟨b,off,cap,vals,hv,h1,h2,h3,h4,h5⟩
        ·rw [h1];exact ht
        ·cases ho
        ·exact h3
       obtain ⟨m,base',cap',r1,r2,r3⟩:=ht k rfl
       rw [q1] at r1
       simp only [Xs,CObj.tail.injEq] at r1
       obtain ⟨rfl,rfl,rfl⟩:=r1
       rw [r3 rfl]
      obtain ⟨_,rfl,hxv⟩:=hxtok
      have hmaxn:xs.length+1<=bn:=by
       have:(xs.length+1) *1<=(xs.length+1) *re.bytes:=Nat.mul_le_mul_left _ ((hT _ _ hre).bps ‹_›)
       unfold bn
       omega
      rcases hy.src with ⟨_,hy0⟩ | ⟨ya,yc,us,hyv,hyl,hyvl,hyc,hy1⟩
      ·cases hy0
      ·simp only [List.length_singleton,Nat.one_mul] at hyv hyl
       have hyvl':VL Ω (cells σ z) us:=by simpa [aX] using hyvl
       have hzc:∀n,(Builtin.zeroCells zz.cells n).toList.length=n *ae σ:=by
        intro n
        simp [size_zeroCells,hzl,hw]
       by_cases hroom:xs.length+1<=cap
       ·cases base with
        | none=>have hc0:=q4 rfl;omega
        | some g=>
         obtain ⟨p1,cur,bt,fz,p2,pf,p3,p4⟩:=q5 g rfl
         obtain ⟨olds,ho1,ho2,ho3,hxp⟩:∃olds:List Value,olds.length=xs.length *ae σ/\VL Ω (aX σ xs) olds/\(∀j u,olds[j]?=some u→Ω.w.cell? ⟨g,j,none⟩=some u)/\∀i,i < xs.length *ae σ→Ω.pub g i:=by
          rcases hx.lst_inv with ⟨h1,hv,_⟩ | ⟨_,ho,_⟩ | ⟨b,off,cap',vals,hv,h1,h2,h3,h4,h5⟩
          ·rw [hxv] at hv;simp [dr] at hv
          ·cases ho
          ·rw [hxv] at hv
           simp only [dr,Value.slice.injEq,Xs,Addr.mk.injEq,true_and,and_true] at hv
           obtain ⟨⟨rfl,rfl⟩,rfl⟩:=hv
           obtain ⟨us',u1,u2,u3⟩:=V.row_cells h4 h5
           refine ⟨us',u1,u2,fun j u hj=>by have:=u3 j u hj;simpa using this,fun i hi=>?_⟩
           have hdiv:i / ae σ < xs.length:=Nat.div_lt_of_lt_mul (by rw [Nat.mul_comm];exact hi)
           have hmod:i % ae σ < (cells σ xs[i / ae σ]).length:=by rw [aM];exact Nat.mod_lt _ hpos
           have:=(h4 (i / ae σ) _ (List.getElem?_eq_getElem hdiv) (i % ae σ) _ (List.getElem?_eq_getElem hmod)).1
           have e':0+(i / ae σ *ae σ+i % ae σ)=i:=by rw [Nat.mul_comm];have:=Nat.div_add_mod i (ae σ);omega
           rw [e'] at this
           exact this
         obtain ⟨Ω',hw',hh⟩:=h.roomP (dst:=o.dst) (z:=z) q1 p1 p2 pf p3 p4 hroom q3 ho2 ho3 hyvl' hxp hd
         refine ay (aJ hop (v:=.slice (some ⟨g,0,none⟩) (xs.length+1) cap) (w':=Ω'.w) ?_) (hn _ _ hh)
         rw [hyv,hxv,hw']
         have hmul:(xs.length+1) *ae σ<=cap *ae σ:=Nat.mul_le_mul_right _ hroom
         rw [Nat.add_mul,Nat.one_mul] at hmul
         have:=sG (P:=P) Ω.w t o.type e i hd1 i1 g xs.length cap bt cur fz p2 (by omega) ya 1 yc us (by rw [hiw];omega) hyc hy1 hroom (by rw [hiw,hyl];omega)
         rw [hiw] at this
         exact this
       ·cases base with
        | none=>
         have hc0:=q4 rfl
         have hx0:xs=[]:=List.eq_nil_of_length_eq_zero (by omega)
         subst hx0
         subst hc0
         obtain ⟨Ω',hw',hh⟩:=h.growP (k:=k) (aC:=1) (old:=0) (e:=e) (xs:=[]) (z:=z) (us:=us) (rest:=(Builtin.zeroCells zz.cells (grownCap Ω.w 1 0 e - 1)).toList) (dst:=o.dst)
          (Or.inr ⟨_,_,_,q1,by simp⟩) (by simp) (by simpa using hmaxn) (by simpa using hyvl) (by rw [hzc]) hd
         refine ay (aJ hop (v:=.slice (some ⟨Ω.w.heap.size,0,none⟩) 1 (grownCap Ω.w 1 0 e)) (w':=Ω'.w) ?_) (hn _ _ hh)
         rw [hyv,hxv,hw']
         have:=run_append_nil (P:=P) Ω.w t o.type e i zz hd1 i1 i4 ya 1 yc us (by rw [hiw];omega) hyc (by omega) (by unfold bn at hmaxn;simp at hmaxn;omega) (by simp at hby1;omega)
         have e':(us++(Builtin.zeroCells zz.cells (grownCap Ω.w 1 0 e - 1)).toList).toArray=us.toArray++Builtin.zeroCells zz.cells (grownCap Ω.w 1 0 e - 1):=by apply Array.ext';simp
         rw [e']
         exact this
        | some g=>
         obtain ⟨olds,ho1,ho2,ho3⟩:∃olds:List Value,olds.length=xs.length *ae σ/\VL Ω (aX σ xs) olds/\(∀j u,olds[j]?=some u→Ω.w.cell? ((⟨g,0,none⟩:Addr).add j)=some u):=by
          rcases hx.lst_inv with ⟨h1,hv,_⟩ | ⟨_,ho,_⟩ | ⟨b,off,cap',vals,hv,h1,h2,h3,h4,h5⟩
          ·rw [hxv] at hv;simp [dr] at hv
          ·cases ho
          ·rw [hxv] at hv
           simp only [dr,Value.slice.injEq,Xs,Addr.mk.injEq,true_and,and_true] at hv
           obtain ⟨⟨rfl,rfl⟩,rfl⟩:=hv
           obtain ⟨us',u1,u2,u3⟩:=V.row_cells h4 h5
           exact ⟨us',u1,u2,fun j u hj=>by rw [jB];exact u3 j u hj⟩
         obtain ⟨Ω',hw',hh⟩:=h.growP (k:=k) (aC:=xs.length+1) (old:=cap) (e:=e) (xs:=xs) (z:=z) (us:=olds++us) (rest:=(Builtin.zeroCells zz.cells (grownCap Ω.w (xs.length+1) cap e - (xs.length+1))).toList) (dst:=o.dst)
          (Or.inr ⟨_,_,_,q1,by simp⟩) rfl hmaxn (by rw [dJ];exact ho2.append hyvl) (by rw [hzc]) hd
         refine ay (aJ hop (v:=.slice (some ⟨Ω.w.heap.size,0,none⟩) (xs.length+1) (grownCap Ω.w (xs.length+1) cap e)) (w':=Ω'.w) ?_) (hn _ _ hh)
         rw [hyv,hxv,hw']
         have:=run_append_grow (P:=P) Ω.w t o.type e i zz hd1 i1 i4 ⟨g,0,none⟩ xs.length cap olds (by rw [hiw];exact ho1) ho3 ya 1 yc us (by rw [hiw];omega) hyc (by omega) (by unfold bn at hmaxn;omega) (growslice_fits (by omega) hby1)
         have e':(olds++us++(Builtin.zeroCells zz.cells (grownCap Ω.w (xs.length+1) cap e - (xs.length+1))).toList).toArray=olds.toArray++us.toArray++Builtin.zeroCells zz.cells (grownCap Ω.w (xs.length+1) cap e - (xs.length+1)):=by apply Array.ext';simp
         rw [e']
         exact this
     ·simp at he
    ·simp at he
   ·
    rename_i σ z o2 hxe hye
    split at he
    ·rename_i hB
     split at he
     ·rename_i hτ2
      simp only [Xs] at he
      subst he
      have hbytes:1 *re.bytes<=140737488355328:=ho
      rw [hxe] at hx
      rw [hye] at hy
      have hw:=((hT _ _ hre).ty _ hτ2).1
      have hiw:i.size=ae σ:=by rw [i2,hw]
      have hzc:∀n,(Builtin.zeroCells zz.cells n).toList.length=n *ae σ:=by
       intro n
       simp [size_zeroCells,hzl,hw]
      rcases hy.src with ⟨_,hy0⟩ | ⟨ya,yc,us,hyv,hyl,hyvl,hyc,hy1⟩
      ·cases hy0
      ·simp only [List.length_singleton,Nat.one_mul] at hyv hyl
       obtain ⟨Ω',hw',hh⟩:=h.growP (k:=d) (aC:=1) (old:=0) (e:=e) (xs:=[]) (z:=z) (us:=us) (rest:=(Builtin.zeroCells zz.cells (grownCap Ω.w 1 0 e - 1)).toList) (dst:=o.dst)
        (Or.inl (h.dom d hB)) (by simp) (by unfold bn;omega) (by simpa using hyvl) (by rw [hzc]) hd
       refine ay (aJ hop (v:=.slice (some ⟨Ω.w.heap.size,0,none⟩) 1 (grownCap Ω.w 1 0 e)) (w':=Ω'.w) ?_) (hn _ _ hh)
       rw [hyv,hx.nils_inv,hw']
       have:=run_append_nil (P:=P) Ω.w t o.type e i zz hd1 i1 i4 ya 1 yc us (by rw [hiw];omega) hyc (by omega) (by omega) (by rw [i3];omega)
       have e':(us++(Builtin.zeroCells zz.cells (grownCap Ω.w 1 0 e - 1)).toList).toArray=us.toArray++Builtin.zeroCells zz.cells (grownCap Ω.w 1 0 e - 1):=by apply Array.ext';simp
       rw [e']
       exact this
     ·simp at he
    ·simp at he
   ·simp at he
  ·simp at he
 ·simp at he
theorem dF (w:World) (size:Nat) (s:Str):(Builtin.firstCells size s.length (.string ⟨s.toArray⟩)).run P w=.ok (s.map fun b=>Value.int .u8 b.toNat).toArray w:=by
 have e:(⟨s.toArray⟩:ByteArray).extract 0 s.length=⟨s.toArray⟩:=by
  rw [Lib.extract_mk,List.drop_zero,Nat.sub_zero,List.take_length]
 simp [Builtin.firstCells,Sem.run_pure,e]
theorem ri (w:World) (t u ty e:Nat) (i:TypeInfo) (ht:P.underlying t=some (.slice e)) (hu:P.underlying u=some .string) (hi:P.info? e=some i)
  (g sLen sCap bt:Nat) (cur:Array Value) (fz:Nat × Nat) (hg:w.heap[g]?=some (.cells cur bt fz)) (hfz:fz.2<=sLen *i.size) (s:Str)
  (hroom:sLen+s.length<=sCap) (hfit:sLen *i.size+s.length<=cur.size) :
  (Builtin.append_ #[t,u] ty #[.slice (some ⟨g,0,none⟩) sLen sCap,.string ⟨s.toArray⟩]).run P w=
   .ok (.slice (some ⟨g,0,none⟩) (sLen+s.length) sCap) (w.setRow g (cur.toList.take (sLen *i.size)++(s.map fun b=>Value.int .u8 b.toNat)++cur.toList.drop (sLen *i.size+s.length)).toArray):=by
 have hf:=dF (P:=P) w i.size s
 have hst:=run_storeCells_atF P g (sLen *i.size) bt fz (s.map fun b=>Value.int .u8 b.toNat) 0 cur w hg (by simpa using hfz) (by simpa using hfit) (fun u hu=>by simp at hu;obtain ⟨b,_,rfl⟩:=hu;rfl)
 simp only [Nat.add_zero,List.length_map] at hst
 have hsz:(⟨s.toArray⟩:ByteArray).size=s.length:=by simp [ByteArray.size]
 simp [Builtin.append_,run_underlying ht,run_underlying hu,sizeOf,typeInfo,hi,Builtin.lenOf,hroom,hf,Addr.add_lit,hst,hsz]
theorem sI (w:World) (t u ty e:Nat) (i:TypeInfo) (ht:P.underlying t=some (.slice e)) (hu:P.underlying u=some .string) (hi:P.info? e=some i) :
  (Builtin.append_ #[t,u] ty #[.slice none 0 0,.string ⟨([]:Str).toArray⟩]).run P w=.ok (.slice none 0 0) w:=by
 have hf:=dF (P:=P) w i.size []
 simp only [List.length_nil,List.map_nil] at hf
 have hsz:(⟨#[]⟩:ByteArray).size=0:=rfl
 simp [Builtin.append_,run_underlying ht,run_underlying hu,sizeOf,typeInfo,hi,Builtin.lenOf,hsz,hf]
theorem rl (w:World) (t u ty e:Nat) (i:TypeInfo) (z:Value) (ht:P.underlying t=some (.slice e)) (hu:P.underlying u=some .string) (hi:P.info? e=some i) (hz:i.zero=some z)
  (b:Option Addr) (sLen sCap:Nat) (olds:List Value) (hb:(b=none/\sLen=0/\olds=[])∨∃a,b=some a/\olds.length=sLen *i.size/\∀j v,olds[j]?=some v→w.cell? (a.add j)=some v)
  (s:Str) (hg:sCap < sLen+s.length) (h63:((sLen+s.length:Nat):Int)<=9223372036854775807) (hfit:Builtin.nextslicecap (sLen+s.length) sCap *i.bytes<=281474976710656) :
  (Builtin.append_ #[t,u] ty #[.slice b sLen sCap,.string ⟨s.toArray⟩]).run P w=
   .ok (.slice (some ⟨w.heap.size,0,none⟩) (sLen+s.length) (grownCap w (sLen+s.length) sCap e))
    (w.drew.alloc (.cells (olds.toArray++(s.map fun b=>Value.int .u8 b.toNat).toArray++Builtin.zeroCells z.cells (grownCap w (sLen+s.length) sCap e - (sLen+s.length))) e)):=by
 have hn:¬(sLen+s.length<=sCap):=by omega
 have h63':¬(9223372036854775807 < ((sLen:Int)+(s.length:Int))):=by omega
 have h48':¬(281474976710656 < Builtin.nextslicecap (sLen+s.length) sCap *i.bytes):=by omega
 have hf:=dF (P:=P) w.drew i.size s
 have hsz:(⟨s.toArray⟩:ByteArray).size=s.length:=by simp [ByteArray.size]
 have hfo:(Builtin.firstCells i.size sLen (.slice b sLen sCap)).run P w.drew=.ok olds.toArray w.drew:=by
  rcases hb with ⟨rfl,rfl,rfl⟩ | ⟨a,rfl,h1,h2⟩
  ·exact run_firstCells_none w.drew i.size 0 0 sCap
  ·exact run_firstCells_some (P:=P) w.drew i.size sLen a sLen sCap olds h1 (by simpa using h2)
 simp [Builtin.append_,run_underlying ht,run_underlying hu,sizeOf,typeInfo,zeroValue,hi,hz,Builtin.lenOf,hn,h63',h48',Question.forced,hf,hfo,newRow,grownCap,hsz]
 congr 2
 apply Array.ext'
 simp [List.append_assoc]
theorem wR (Ω:Om) (s:Str):VL Ω (aX (.int .u8) (b6 s)) (s.map fun b=>Value.int .u8 b.toNat):=by
 have e:aX (.int .u8) (b6 s)=s.map fun b=>AV.int .u8 (b.toNat:Int):=by
  unfold aX b6
  rw [List.flatMap_map,List.map_eq_flatMap]
  rfl
 refine ⟨by rw [e];simp,fun j c v hc hv=>?_⟩
 rw [e,List.getElem?_map,Option.map_eq_some_iff] at hc
 rw [List.getElem?_map,Option.map_eq_some_iff] at hv
 obtain ⟨b,hb,rfl⟩:=hc
 obtain ⟨b',hb',rfl⟩:=hv
 rw [hb] at hb'
 cases hb'
 have:=b.toNat_lt
 exact .int .u8 _ (by show (0:Int)<=_;omega) (by show _<=(255:Int);omega)
theorem uY (hT:aK P C.tbl) {x y:Operand} {t t':Nat} {s':Str} (hop:o.op=.call {callee:=.builtin .append,args:=#[x,y],argTypes:=#[t,t']})
  {F:Fr} {s:AS} {a:Act} {Ω:Om} {eff:Eff} {next:Act→World→Prop} {Q:Exit→Act→World→Prop} (h:Holds F s a Ω) (hd:∀d,o.dst=some d→d < F.n) (hye:opd s.T y=.str s')
  (he:mR C t t' (opd s.T x) s' s.B=some eff) (ho:eff.asks) (hn:∀a' Ω',Holds F (s.put o.dst eff) a' Ω'→next a' Ω'.w):o.wp P a Ω.w next Q:=by
 have hx:=aZ h x
 have hy:=aZ h y
 rw [hye] at hy
 obtain ⟨hyv,hyl⟩:=hy.str_inv
 unfold mR at he
 split at he
 ·rename_i e sz by' z0 ty sz1 by1 z1 ty1 hr hr'
  obtain ⟨dd,hd1,hd2⟩:=aB hT hr rfl
  cases dd <;> simp [aE] at hd2
  subst hd2
  obtain ⟨dd,hd3,hd4⟩:=aB hT hr' rfl
  cases dd <;> simp [aE] at hd4
  split at he
  ·rename_i sz2 bytes z2 hre
   obtain ⟨i,zz,i1,i2,i3,i4,i5⟩:=(hT _ _ hre).info
   split at he
   ·rename_i xs k hxe
    split at he
    ·rename_i n hB
     simp only [Xs] at he
     subst he
     obtain ⟨hcount,hbytes⟩:=ho
     subst hcount
     rw [hxe] at hx
     have hw:ae (.int .u8)=sz2:=((hT _ _ hre).ty _ rfl).1
     have hw1:sz2=1:=hw.symm
     have hiw:i.size=1:=by rw [i2];exact hw1
     have hzl:zz.cells.size=1:=by
      have p1:=(hT _ _ hre).zlen
      rw [←i5] at p1
      simp at p1
      omega
     have hbl:(b6 s').length=s'.length:=by simp [b6]
     have hby1:(xs.length+s'.length) *i.bytes<=140737488355328:=by rw [i3];exact hbytes
     have hmaxn:xs.length+s'.length<=bn:=by
      have hbp:0 < bytes:=(hT _ _ hre).bpos (by show 0 < sz2;omega)
      have:(xs.length+s'.length) *1<=(xs.length+s'.length) *bytes:=Nat.mul_le_mul_left _ hbp
      unfold bn
      omega
     obtain ⟨base,cap,q1,q2,q3,q4,q5⟩:=h.slots k _ hB
     have hxtok:∃v,a.eval x=v/\v=.slice (dr base) xs.length cap:=by
      refine ⟨_,rfl,?_⟩
      have ht:eX Ω (some k) xs.length (a.eval x):=by
       rcases hx.lst_inv with ⟨h1,hv,ht⟩ | ⟨_,ho,_⟩ | ⟨b,off,cap,vals,hv,h1,h2,h3,h4,h5⟩
       ·rw [h1];exact ht
       ·cases ho
       ·exact h3
      obtain ⟨m,base',cap',r1,r2,r3⟩:=ht k rfl
      rw [q1] at r1
      simp only [Xs,CObj.tail.injEq] at r1
      obtain ⟨rfl,rfl,rfl⟩:=r1
      rw [r3 rfl]
     obtain ⟨_,rfl,hxv⟩:=hxtok
     have hyvl:=wR Ω s'
     have hzc:∀n,(Builtin.zeroCells zz.cells n).toList.length=n *1:=by
      intro n
      simp [size_zeroCells,hzl]
     by_cases hroom:xs.length+s'.length<=cap
     ·cases base with
      | none=>
       have hc0:=q4 rfl
       have hy0:s'=[]:=List.eq_nil_of_length_eq_zero (by omega)
       have hx0:xs=[]:=List.eq_nil_of_length_eq_zero (by omega)
       subst hy0 hx0
       have hh:=h.same hB rfl hx hd
       refine ay (aJ hop (v:=a.eval x) (w':=Ω.w) ?_) (hn _ _ hh)
       rw [hyv,hxv,hc0]
       exact sI Ω.w t t' _ e i hd1 hd3 i1
      | some g=>
       obtain ⟨p1,cur,bt,fz,p2,pf,p3,p4⟩:=q5 g rfl
       obtain ⟨olds,ho1,ho2,ho3,hxp⟩:∃olds:List Value,olds.length=xs.length *ae (.int .u8)/\VL Ω (aX (.int .u8) xs) olds/\(∀j u,olds[j]?=some u→Ω.w.cell? ⟨g,j,none⟩=some u)/\∀i,i < xs.length *ae (.int .u8)→Ω.pub g i:=by
        rcases hx.lst_inv with ⟨h1,hv,_⟩ | ⟨_,ho,_⟩ | ⟨b,off,cap',vals,hv,h1,h2,h3,h4,h5⟩
        ·rw [hxv] at hv;simp [dr] at hv
        ·cases ho
        ·rw [hxv] at hv
         simp only [dr,Value.slice.injEq,Xs,Addr.mk.injEq,true_and,and_true] at hv
         obtain ⟨⟨rfl,rfl⟩,rfl⟩:=hv
         obtain ⟨us',u1,u2,u3⟩:=V.row_cells h4 h5
         refine ⟨us',u1,u2,fun j u hj=>by have:=u3 j u hj;simpa using this,fun i hi=>?_⟩
         have hpos:=gJ (.int .u8)
         have hdiv:i / ae (.int .u8) < xs.length:=Nat.div_lt_of_lt_mul (by rw [Nat.mul_comm];exact hi)
         have hmod:i % ae (.int .u8) < (cells (.int .u8) xs[i / ae (.int .u8)]).length:=by rw [aM];exact Nat.mod_lt _ hpos
         have:=(h4 (i / ae (.int .u8)) _ (List.getElem?_eq_getElem hdiv) (i % ae (.int .u8)) _ (List.getElem?_eq_getElem hmod)).1
         have e':0+(i / ae (.int .u8) *ae (.int .u8)+i % ae (.int .u8))=i:=by rw [Nat.mul_comm];have:=Nat.div_add_mod i (ae (.int .u8));omega
         rw [e'] at this
         exact this
       have hroom':xs.length+(b6 s').length<=cap:=by rw [hbl];exact hroom
       obtain ⟨Ω',hw',hh⟩:=h.room (dst:=o.dst) (τ:=.int .u8) (ys:=b6 s') (news:=s'.map fun b=>Value.int .u8 b.toNat) q1 p1 p2 pf p3 p4 hroom' q3 ho2 ho3 hyvl hxp hd
       refine ay (aJ hop (v:=.slice (some ⟨g,0,none⟩) (xs.length+(b6 s').length) cap) (w':=Ω'.w) ?_) (hn _ _ hh)
       rw [hyv,hxv,hw',hbl]
       have hmul:(xs.length+s'.length) *ae (.int .u8)<=cap *ae (.int .u8):=Nat.mul_le_mul_right _ hroom
       have w1:ae (.int .u8)=1:=rfl
       rw [w1] at hmul p3
       have:=ri (P:=P) Ω.w t t' o.type e i hd1 hd3 i1 g xs.length cap bt cur fz p2 (by omega) s' hroom (by rw [hiw];omega)
       rw [hiw] at this
       simpa [w1,dr] using this
     ·have hm:0 < s'.length:=by
       rcases Nat.eq_zero_or_pos s'.length with h0 | h0
       ·omega
       ·exact h0
      have hlen:(xs++b6 s').length=xs.length+s'.length:=by rw [List.length_append,hbl]
      obtain ⟨olds,ho2,hob⟩:∃olds:List Value,VL Ω (aX (.int .u8) xs) olds/\((dr base=none/\xs.length=0/\olds=[])∨∃a,dr base=some a/\olds.length=xs.length *i.size/\∀j v,olds[j]?=some v→Ω.w.cell? (a.add j)=some v):=by
       rcases hx.lst_inv with ⟨h1,hv,_⟩ | ⟨_,ho,_⟩ | ⟨b,off,cap',vals,hv,h1,h2,h3,h4,h5⟩
       ·rw [hxv] at hv
        simp only [Value.slice.injEq] at hv
        refine ⟨[],?_,.inl ⟨hv.1,hv.2.1,rfl⟩⟩
        rw [h1]
        exact ⟨rfl,fun j c v hc=>by simp [aX] at hc⟩
       ·cases ho
       ·rw [hxv] at hv
        simp only [Value.slice.injEq] at hv
        obtain ⟨us',u1,u2,u3⟩:=V.row_cells h4 h5
        exact ⟨us',u2,.inr ⟨_,hv.1,by rw [u1,hiw];rfl,fun j u hj=>by rw [jB];exact u3 j u hj⟩⟩
      obtain ⟨Ω',hw',hh⟩:=h.grow (k:=k) (aC:=xs.length+s'.length) (old:=cap) (e:=e) (τ:=.int .u8) (zs:=xs++b6 s') (us:=olds++s'.map fun b=>Value.int .u8 b.toNat) (rest:=(Builtin.zeroCells zz.cells (grownCap Ω.w (xs.length+s'.length) cap e - (xs.length+s'.length))).toList) (dst:=o.dst)
       (Or.inr ⟨_,_,_,q1,by rw [hlen];omega⟩) hlen hmaxn (by rw [dJ];exact ho2.append hyvl) (by rw [hzc];rfl) hd
      refine ay (aJ hop (v:=.slice (some ⟨Ω.w.heap.size,0,none⟩) (xs.length+s'.length) (grownCap Ω.w (xs.length+s'.length) cap e)) (w':=Ω'.w) ?_) (hn _ _ hh)
      rw [hyv,hxv,hw']
      have:=rl (P:=P) Ω.w t t' o.type e i zz hd1 hd3 i1 i4 (dr base) xs.length cap olds hob s' (by omega) (by unfold bn at hmaxn;omega) (growslice_fits (by omega) hby1)
      have e':(olds++(s'.map fun b=>Value.int .u8 b.toNat)++(Builtin.zeroCells zz.cells (grownCap Ω.w (xs.length+s'.length) cap e - (xs.length+s'.length))).toList).toArray=olds.toArray++(s'.map fun b=>Value.int .u8 b.toNat).toArray++Builtin.zeroCells zz.cells (grownCap Ω.w (xs.length+s'.length) cap e - (xs.length+s'.length)):=by apply Array.ext';simp
      rw [e']
      exact this
    ·simp at he
   ·simp at he
  ·simp at he
 ·simp at he
theorem xL (hT:aK P C.tbl) {args:Array Operand} {ts:Array Nat} (hop:o.op=.call {callee:=.builtin .append,args:=args,argTypes:=ts}):bS P C o:=by
 intro F s a Ω eff next Q h hd he ho hn
 simp only [ar,hop] at he
 split at he
 ·rename_i x y t t' d hargs hts hdst
  have ha:args=#[x,y]:=by apply Array.ext';simpa using hargs
  have ht:ts=#[t,t']:=by apply Array.ext';simpa using hts
  subst ha ht
  split at he
  rotate_left
  ·split at he
   ·rename_i s' hye
    exact uY hT hop h hd hye he ho hn
   ·cases he
  ·rename_i htt
   simp at htt
   subst htt
   split at he
   ·exact sH hT hop hdst h hd he ho hn
   have hx:=aZ h x
   have hy:=aZ h y
   unfold qK at he
   split at he
   ·rename_i e sz by' z ty hr
    obtain ⟨dd,hd1,hd2⟩:=aB hT hr rfl
    cases dd <;> simp [aE] at hd2
    subst hd2
    split at he
    ·rename_i re hre
     obtain ⟨i,zz,i1,i2,i3,i4,i5⟩:=(hT _ _ hre).info
     have hzl:zz.cells.size=re.size:=by
      have p1:=(hT _ _ hre).zlen
      rw [←i5] at p1
      simpa using p1
     split at he
     ·
      rename_i hxe hye
      simp only [Xs] at he
      subst he
      rw [hxe] at hx
      rw [hye] at hy
      refine ay (aJ hop (v:=.slice none 0 0) (w':=Ω.w) ?_) (hn _ _ ?_)
      ·rw [hx.nils_inv,hy.nils_inv]
       exact gL Ω.w t _ e i hd1 i1 none 0 0 (Nat.le_refl _)
      ·have:=h.pure (dst:=o.dst) (v:=.slice none 0 0) .nils hd
       simpa [AS.put,bJ,Eff.pure] using this
     ·
      rename_i τ xs o' hxe hye
      simp only [Xs] at he
      subst he
      rw [hxe] at hx
      rw [hye] at hy
      have hrun:(Builtin.append_ #[t,t] o.type #[a.eval x,a.eval y]).run P Ω.w=.ok (a.eval x) Ω.w:=by
       rw [hy.nils_inv]
       rcases hx.lst_inv with ⟨h1,hv,_⟩ | ⟨h1,_,a0,hv⟩ | ⟨b,off,cap,vals,hv,h1,h2,h3,h4,h5⟩
       ·rw [hv];exact gL Ω.w t _ e i hd1 i1 none 0 0 (Nat.le_refl _)
       ·rw [hv];exact gL Ω.w t _ e i hd1 i1 _ _ _ (Nat.le_refl _)
       ·rw [hv];exact gL Ω.w t _ e i hd1 i1 _ _ _ h1
      refine ay (aJ hop hrun) (hn _ _ ?_)
      have:=h.pure (dst:=o.dst) (v:=a.eval x) hx hd
      simpa [AS.put,bJ,Eff.pure] using this
     ·
      rename_i τ xs k σ ys o2 hxe hye
      split at he
      ·rename_i ys' τ' n hcast hB
       split at he
       ·rename_i hτ
        obtain ⟨hτ1,hτ2⟩:=hτ
        subst hτ1
        obtain ⟨hστ,hys⟩:=gK hcast
        subst hστ
        simp only at hys
        subst hys
        simp only [Xs] at he
        subst he
        obtain ⟨hcount,hbytes⟩:=ho
        rw [hxe] at hx
        rw [hye] at hy
        have hw:=((hT _ _ hre).ty _ hτ2).1
        have hiw:i.size=ae σ:=by rw [i2,hw]
        have hpos:=gJ σ
        have hby1:(xs.length+ys.length) *i.bytes<=140737488355328:=by rw [i3];exact hbytes
        obtain ⟨base,cap,q1,q2,q3,q4,q5⟩:=h.slots k _ hB
        have hxtok:∃v,a.eval x=v/\v=.slice (dr base) n cap:=by
         refine ⟨_,rfl,?_⟩
         have ht:eX Ω (some k) xs.length (a.eval x):=by
          rcases hx.lst_inv with ⟨h1,hv,ht⟩ | ⟨_,ho,_⟩ | ⟨b,off,cap,vals,hv,h1,h2,h3,h4,h5⟩
          ·rw [h1];exact ht
          ·cases ho
          ·exact h3
         obtain ⟨m,base',cap',r1,r2,r3⟩:=ht k rfl
         rw [q1] at r1
         simp only [Xs,CObj.tail.injEq] at r1
         obtain ⟨rfl,rfl,rfl⟩:=r1
         rw [r3 hcount,hcount]
        obtain ⟨_,rfl,hxv⟩:=hxtok
        have hmaxn:xs.length+ys.length<=bn:=by
         have:(xs.length+ys.length) *1<=(xs.length+ys.length) *re.bytes:=Nat.mul_le_mul_left _ ((hT _ _ hre).bps ‹_›)
         unfold bn
         omega
        subst hcount
        rcases hy.src with ⟨hyv,hy0⟩ | ⟨ya,yc,us,hyv,hyl,hyvl,hyc,hy1⟩
        ·subst hy0
         refine ay (aJ hop (v:=a.eval x) (w':=Ω.w) ?_) (hn _ _ (h.same hB rfl hx hd))
         rw [hyv,hxv]
         exact gL Ω.w t _ e i hd1 i1 _ _ _ q2
        ·by_cases hroom:xs.length+ys.length<=cap
         ·cases base with
          | none=>
           have hc0:=q4 rfl
           have hy0:ys=[]:=List.eq_nil_of_length_eq_zero (by omega)
           have hx0:xs=[]:=List.eq_nil_of_length_eq_zero (by omega)
           subst hy0 hx0
           refine ay (aJ hop (v:=a.eval x) (w':=Ω.w) ?_) (hn _ _ (h.same hB rfl hx hd))
           rw [hyv,hxv,hc0]
           exact jT Ω.w t _ e i hd1 i1 ya yc
          | some g=>
           obtain ⟨p1,cur,bt,fz,p2,pf,p3,p4⟩:=q5 g rfl
           obtain ⟨olds,ho1,ho2,ho3,hxp⟩:∃olds:List Value,olds.length=xs.length *ae σ/\VL Ω (aX σ xs) olds/\(∀j u,olds[j]?=some u→Ω.w.cell? ⟨g,j,none⟩=some u)/\∀i,i < xs.length *ae σ→Ω.pub g i:=by
            rcases hx.lst_inv with ⟨h1,hv,_⟩ | ⟨_,ho,_⟩ | ⟨b,off,cap',vals,hv,h1,h2,h3,h4,h5⟩
            ·rw [hxv] at hv;simp [dr] at hv
            ·cases ho
            ·rw [hxv] at hv
             simp only [dr,Value.slice.injEq,Xs,Addr.mk.injEq,true_and,and_true] at hv
             obtain ⟨⟨rfl,rfl⟩,rfl⟩:=hv
             obtain ⟨us',u1,u2,u3⟩:=V.row_cells h4 h5
             refine ⟨us',u1,u2,fun j u hj=>by have:=u3 j u hj;simpa using this,fun i hi=>?_⟩
             have hdiv:i / ae σ < xs.length:=Nat.div_lt_of_lt_mul (by rw [Nat.mul_comm];exact hi)
             have hmod:i % ae σ < (cells σ xs[i / ae σ]).length:=by rw [aM];exact Nat.mod_lt _ hpos
             have:=(h4 (i / ae σ) _ (List.getElem?_eq_getElem hdiv) (i % ae σ) _ (List.getElem?_eq_getElem hmod)).1
             have e':0+(i / ae σ *ae σ+i % ae σ)=i:=by rw [Nat.mul_comm];have:=Nat.div_add_mod i (ae σ);omega
             rw [e'] at this
             exact this
           obtain ⟨Ω',hw',hh⟩:=h.room (dst:=o.dst) q1 p1 p2 pf p3 p4 hroom q3 ho2 ho3 hyvl hxp hd
           refine ay (aJ hop (v:=.slice (some ⟨g,0,none⟩) (xs.length+ys.length) cap) (w':=Ω'.w) ?_) (hn _ _ hh)
           rw [hyv,hxv,hw']
           have hmul:(xs.length+ys.length) *ae σ<=cap *ae σ:=Nat.mul_le_mul_right _ hroom
           rw [Nat.add_mul] at hmul
           have:=sG (P:=P) Ω.w t o.type e i hd1 i1 g xs.length cap bt cur fz p2 (by omega) ya ys.length yc us (by rw [hiw];exact hyl) hyc hy1 hroom (by rw [hiw,hyl];omega)
           rw [hiw] at this
           exact this
         ·have hm:0 < ys.length:=by omega
          have hlen:(xs++ys).length=xs.length+ys.length:=List.length_append
          have hzc:∀n,(Builtin.zeroCells zz.cells n).toList.length=n *ae σ:=by
           intro n
           simp [size_zeroCells,hzl,hw]
          cases base with
          | none=>
           have hc0:=q4 rfl
           have hx0:xs=[]:=List.eq_nil_of_length_eq_zero (by omega)
           subst hx0
           subst hc0
           obtain ⟨Ω',hw',hh⟩:=h.grow (k:=k) (aC:=ys.length) (old:=0) (e:=e) (zs:=[]++ys) (us:=us) (rest:=(Builtin.zeroCells zz.cells (grownCap Ω.w ys.length 0 e - ys.length)).toList) (dst:=o.dst)
            (Or.inr ⟨_,_,_,q1,by simpa using hm⟩) (by simp) (by simpa using hmaxn) hyvl (by rw [hzc]) hd
           refine ay (aJ hop (v:=.slice (some ⟨Ω.w.heap.size,0,none⟩) ys.length (grownCap Ω.w ys.length 0 e)) (w':=Ω'.w) ?_) (hn _ _ hh)
           rw [hyv,hxv,hw']
           have:=run_append_nil (P:=P) Ω.w t o.type e i zz hd1 i1 i4 ya ys.length yc us (by rw [hiw];exact hyl) hyc hm (by unfold bn at hmaxn;simp at hmaxn;omega) (by simp at hby1;omega)
           have e':(us++(Builtin.zeroCells zz.cells (grownCap Ω.w ys.length 0 e - ys.length)).toList).toArray=us.toArray++Builtin.zeroCells zz.cells (grownCap Ω.w ys.length 0 e - ys.length):=by apply Array.ext';simp
           rw [e']
           exact this
          | some g=>
           obtain ⟨olds,ho1,ho2,ho3⟩:∃olds:List Value,olds.length=xs.length *ae σ/\VL Ω (aX σ xs) olds/\(∀j u,olds[j]?=some u→Ω.w.cell? ((⟨g,0,none⟩:Addr).add j)=some u):=by
            rcases hx.lst_inv with ⟨h1,hv,_⟩ | ⟨_,ho,_⟩ | ⟨b,off,cap',vals,hv,h1,h2,h3,h4,h5⟩
            ·rw [hxv] at hv;simp [dr] at hv
            ·cases ho
            ·rw [hxv] at hv
             simp only [dr,Value.slice.injEq,Xs,Addr.mk.injEq,true_and,and_true] at hv
             obtain ⟨⟨rfl,rfl⟩,rfl⟩:=hv
             obtain ⟨us',u1,u2,u3⟩:=V.row_cells h4 h5
             exact ⟨us',u1,u2,fun j u hj=>by rw [jB];exact u3 j u hj⟩
           obtain ⟨Ω',hw',hh⟩:=h.grow (k:=k) (aC:=xs.length+ys.length) (old:=cap) (e:=e) (zs:=xs++ys) (us:=olds++us) (rest:=(Builtin.zeroCells zz.cells (grownCap Ω.w (xs.length+ys.length) cap e - (xs.length+ys.length))).toList) (dst:=o.dst)
            (Or.inr ⟨_,_,_,q1,by simpa using hm⟩) (by simp) hmaxn (by rw [dJ];exact ho2.append hyvl) (by rw [hzc]) hd
           refine ay (aJ hop (v:=.slice (some ⟨Ω.w.heap.size,0,none⟩) (xs.length+ys.length) (grownCap Ω.w (xs.length+ys.length) cap e)) (w':=Ω'.w) ?_) (hn _ _ hh)
           rw [hyv,hxv,hw']
           have:=run_append_grow (P:=P) Ω.w t o.type e i zz hd1 i1 i4 ⟨g,0,none⟩ xs.length cap olds (by rw [hiw];exact ho1) ho3 ya ys.length yc us (by rw [hiw];exact hyl) hyc (by omega) (by unfold bn at hmaxn;omega) (growslice_fits (by omega) hby1)
           have e':(olds++us++(Builtin.zeroCells zz.cells (grownCap Ω.w (xs.length+ys.length) cap e - (xs.length+ys.length))).toList).toArray=olds.toArray++us.toArray++Builtin.zeroCells zz.cells (grownCap Ω.w (xs.length+ys.length) cap e - (xs.length+ys.length)):=by apply Array.ext';simp
           rw [e']
           exact this
       ·simp at he
      ·simp at he
     ·
      rename_i σ ys o2 hxe hye
      split at he
      ·rename_i hB
       split at he
       ·rename_i hτ
        simp only [Xs] at he
        subst he
        rw [hxe] at hx
        rw [hye] at hy
        have hbytes:ys.length *re.bytes<=140737488355328:=ho
        have hw:=((hT _ _ hre).ty _ hτ).1
        have hiw:i.size=ae σ:=by rw [i2,hw]
        have hmaxn:ys.length<=bn:=by
         have:ys.length *1<=ys.length *re.bytes:=Nat.mul_le_mul_left _ ((hT _ _ hre).bps ‹_›)
         unfold bn
         omega
        have hed:=h.dom d hB
        have empty:ys=[]→Holds F ⟨bB s.T o.dst (.lst σ ys (some d)),bJ s.B [(d,.tail σ ys.length)]⟩ (a.put o.dst (.slice none 0 0)) ⟨fun i=>if d=i then some (.tail 0 none 0) else Ω.e i,Ω.w,Ω.pub⟩:=by
         intro hy0
         subst hy0
         have hx':Ext Ω ⟨fun i=>if d=i then some (.tail 0 none 0) else Ω.e i,Ω.w,Ω.pub⟩:=by
          refine ⟨fun id c hc=>⟨c,?_,CLe.refl c⟩,fun _ _ p=>p,fun _ _ _=>rfl⟩
          have:d≠id:=fun e=>by subst e;rw [hed] at hc;cases hc
          simp [this,hc]
         refine h.slot hx' ⟨none,0,by simp,Nat.le_refl _,by unfold bn;omega,fun _=>rfl,fun b hb=>by simp at hb⟩ (fun _ _ _ _=>kH.of_blocks fun _ _ _=>⟨rfl,fun _ p=>p⟩) (fun _ _ _ _ _ _ _ hb=>by cases hb) h.pubok
          ⟨h.frame.os,h.frame.tape,h.frame.output,h.frame.size,h.frame.block,h.frame.cell,h.frame.kind,h.frame.pub,h.frame.old,h.frame.pcell⟩ ?_ hd
         refine .lstNil σ _ ?_
         intro id hid
         simp at hid
         subst hid
         exact ⟨0,none,0,by simp,Nat.le_refl _,fun _=>rfl⟩
        rcases hy.src with ⟨hyv,hy0⟩ | ⟨ya,yc,us,hyv,hyl,hyvl,hyc,hy1⟩
        ·have hq:=hn _ _ (empty hy0)
         refine ay (aJ hop (v:=.slice none 0 0) (w':=Ω.w) ?_) hq
         rw [hyv,hx.nils_inv]
         exact gL Ω.w t _ e i hd1 i1 _ _ _ (Nat.le_refl _)
        ·by_cases hm:ys.length=0
         ·have hy0:=List.eq_nil_of_length_eq_zero hm
          have hq:=hn _ _ (empty hy0)
          refine ay (aJ hop (v:=.slice none 0 0) (w':=Ω.w) ?_) hq
          rw [hyv,hx.nils_inv,hm]
          exact jT Ω.w t _ e i hd1 i1 ya yc
         ·have hzc:∀n,(Builtin.zeroCells zz.cells n).toList.length=n *ae σ:=by
           intro n
           simp [size_zeroCells,hzl,hw]
          obtain ⟨Ω',hw',hh⟩:=h.grow (k:=d) (aC:=ys.length) (old:=0) (e:=e) (zs:=ys) (us:=us) (rest:=(Builtin.zeroCells zz.cells (grownCap Ω.w ys.length 0 e - ys.length)).toList) (dst:=o.dst)
           (Or.inl hed) rfl hmaxn hyvl (by rw [hzc]) hd
          refine ay (aJ hop (v:=.slice (some ⟨Ω.w.heap.size,0,none⟩) ys.length (grownCap Ω.w ys.length 0 e)) (w':=Ω'.w) ?_) (hn _ _ hh)
          rw [hyv,hx.nils_inv,hw']
          have:=run_append_nil (P:=P) Ω.w t o.type e i zz hd1 i1 i4 ya ys.length yc us (by rw [hiw];exact hyl) hyc (by omega) (by unfold bn at hmaxn;omega) (by rw [i3];omega)
          have e':(us++(Builtin.zeroCells zz.cells (grownCap Ω.w ys.length 0 e - ys.length)).toList).toArray=us.toArray++Builtin.zeroCells zz.cells (grownCap Ω.w ys.length 0 e - ys.length):=by apply Array.ext';simp
          rw [e']
          exact this
       ·simp at he
      ·simp at he
     ·simp at he
    ·simp at he
   ·simp at he
 ·simp at he
end
end Go.AL
end
noncomputable section
namespace Go.AL
variable [Tabs]
section
variable {K V:Type} [DecidableEq K]
theorem jC {k:K}:∀{m:List (K × V)},(∀x∈m,x.1≠k)→dD m k=none
 | [],_=>rfl
 | (a,v) ::r,h=>by
  have h1:¬k=a:=fun e=>h (a,v) (by simp) e.symm
  simp only [dD,h1,if_false]
  exact jC (fun x hx=>h x (by simp [hx]))
theorem mV {k:K} {v:V}:∀{m:List (K × V)} {j:Nat},(m.map (·.1)).Nodup→m[j]?=some (k,v)→dD m k=some v
 | [],j,_,h=>by simp at h
 | (a,u) ::r,0,_,h=>by simp at h;obtain ⟨rfl,rfl⟩:=h;simp [dD]
 | (a,u) ::r,j+1,hn,h=>by
  simp only [List.map_cons,List.nodup_cons] at hn
  have hm:(k,v)∈r:=List.mem_of_getElem? (by simpa using h)
  have h1:¬k=a:=fun e=>hn.1 (by rw [←e];exact List.mem_map.2 ⟨(k,v),hm,rfl⟩)
  simp only [dD,h1,if_false]
  exact mV hn.2 (by simpa using h)
theorem jD {k:K} {v:V}:∀{m:List (K × V)},(∀x∈m,x.1≠k)→iS m k v=m++[(k,v)]
 | [],_=>rfl
 | (a,u) ::r,h=>by
  have h1:¬k=a:=fun e=>h (a,u) (by simp) e.symm
  simp only [iS,h1,if_false,List.cons_append]
  rw [jD (fun x hx=>h x (by simp [hx]))]
theorem mW {k:K} {u v:V}:∀{m:List (K × V)} {j:Nat},(m.map (·.1)).Nodup→m[j]?=some (k,u)→iS m k v=m.set j (k,v)
 | [],j,_,h=>by simp at h
 | (a,w) ::r,0,_,h=>by simp at h;obtain ⟨rfl,rfl⟩:=h;simp [iS]
 | (a,w) ::r,j+1,hn,h=>by
  simp only [List.map_cons,List.nodup_cons] at hn
  have hm:(k,u)∈r:=List.mem_of_getElem? (by simpa using h)
  have h1:¬k=a:=fun e=>hn.1 (by rw [←e];exact List.mem_map.2 ⟨(k,u),hm,rfl⟩)
  simp only [iS,h1,if_false,List.set_cons_succ]
  rw [mW hn.2 (by simpa using h)]
end
def iq:(κ:Ty)→den κ→Value
 | .str,k=>.string ⟨(show Str from k).toArray⟩
 | .int j,n=>.int j n
 | .st .nm,k=>.agg #[.string ⟨(Nam.pkg k).toArray⟩,.string ⟨(Nam.name k).toArray⟩]
 | _,_=>undef
section
variable {P:Program} {C:Cfg}
theorem db {ti:TI} {κ:Ty} (h:iJ C ti κ=true):(ti=.str/\κ=.str)∨(∃j,ti=.int j/\κ=.int j)∨∃fs,ti=.strct true fs/\κ=.st .nm/\qM C fs=true:=by
 unfold iJ at h
 split at h
 ·exact .inl ⟨rfl,rfl⟩
 ·simp at h;subst h;exact .inr (.inl ⟨_,rfl,rfl⟩)
 ·exact .inr (.inr ⟨_,rfl,rfl,h⟩)
 ·cases h
theorem sJ {ti:TI} {κ:Ty} (h:iJ C ti κ=true) {a b:den κ} (e:iq κ a=iq κ b):a=b:=by
 rcases db h with ⟨_,rfl⟩ | ⟨j,_,rfl⟩ | ⟨fs,_,rfl,_⟩
 ·simpa [iq] using e
 ·simpa [iq] using e
 ·obtain ⟨a1,a2⟩:=a
  obtain ⟨b1,b2⟩:=b
  simpa [iq] using e
theorem zM {Ω:Om} {k:Nam} {v:Value} (hv:V Ω (.st .nm k) v):v=iq (.st .nm) k/\k.pkg.length<=bn/\k.name.length<=bn:=by
 cases hv with
 | st _ _ v hv=>
 obtain ⟨vs,rfl,hl⟩:=hv.agg_inv
 obtain ⟨hn,hp⟩:=hl
 match vs,hn with
 | [x,y],_=>
  obtain ⟨e1,l1⟩:=(hp 0 (.str k.pkg) x rfl rfl).str_inv
  obtain ⟨e2,l2⟩:=(hp 1 (.str k.name) y rfl rfl).str_inv
  subst e1 e2
  exact ⟨rfl,l1,l2⟩
theorem nN {ti:TI} {κ:Ty} (h:iJ C ti κ=true) {Ω:Om} {k:den κ} {v:Value} (hv:V Ω (inj κ k) v):v=iq κ k:=by
 rcases db h with ⟨_,rfl⟩ | ⟨j,_,rfl⟩ | ⟨fs,_,rfl,_⟩
 ·exact hv.str_inv.1
 ·exact hv.int_inv.1
 ·exact (zM hv).1
theorem jU {fields:Array Field} {fs:List (Nat × Nat)} (h:qM C fs=true) (he:(fields.toList.map fun f=>(f.offset,f.type))=fs) (hn:∀f∈fields.toList,f.name≠ "_") :
  ∃f g ra rb,fields=#[f,g]/\f.offset=0/\g.offset=1/\f.name≠ "_"/\g.name≠ "_"/\fs=[(0,f.type),(1,g.type)]/\az C.tbl f.type=some ra/\ra.ti=.str/\az C.tbl g.type=some rb/\rb.ti=.str:=by
 unfold qM at h
 split at h
 ·rename_i a b
  split at h
  ·rename_i h1 h2
   obtain ⟨l⟩:=fields
   have hlen:l.length=2:=by simpa using congrArg List.length he
   obtain ⟨f,g,rfl⟩:∃f g,l=[f,g]:=by
    match l,hlen with
    | [f,g],_=>exact ⟨f,g,rfl⟩
   simp only [List.map_cons,List.map_nil,List.cons.injEq,Prod.mk.injEq,and_true] at he
   obtain ⟨⟨e1,rfl⟩,e2,rfl⟩:=he
   exact ⟨f,g,_,_,rfl,e1,e2,hn f (by simp),hn g (by simp),rfl,h1,rfl,h2,rfl⟩
  ·cases h
 ·cases h
theorem pj (hT:aK P C.tbl) {kt:Nat} {rk:TR} (hr:az C.tbl kt=some rk) {κ:Ty} (h:iJ C rk.ti κ=true) (k:den κ) (em:Bool) (w:World):(Instr.checkKey em 10000 kt (iq κ k)).run P w=.ok () w:=by
 obtain ⟨d,hd1,hd2⟩:=aB hT hr rfl
 rcases db h with ⟨e,rfl⟩ | ⟨j,e,rfl⟩ | ⟨fs,e,rfl,h2⟩
 ·rw [e] at hd2
  exact MapKept.run_checkKey hd1 (by cases d <;> simp [aE] at hd2;trivial) em 9999
 ·rw [e] at hd2
  exact MapKept.run_checkKey hd1 (by cases d <;> simp [aE] at hd2;subst hd2;trivial) em 9999
 ·rw [e] at hd2
  cases d <;> try (simp [aE] at hd2;done)
  rename_i fields
  simp only [aE,Bool.and_eq_true,decide_eq_true_eq,List.all_eq_true] at hd2
  obtain ⟨f,g,ra,rb,rfl,o1,o2,n1,n2,_,t1,i1,t2,i2⟩:=jU h2 hd2.1 (fun f hf=>by simpa using (hd2.2 f hf).2)
  have gG:∀{t:Nat} {r:TR} (s:Str),az C.tbl t=some r→r.ti=.str→(Instr.checkKey em 9999 t (.string ⟨s.toArray⟩)).run P w=.ok () w:=fun {t r} s ht hi=>by
   obtain ⟨d,hd1,hd2⟩:=aB hT ht hi
   exact MapKept.run_checkKey hd1 (by cases d <;> simp [aE] at hd2;trivial) em 9998
  have pt:∀{t:Nat} {r:TR} {cs:Array Value} {i:Nat} {u:Value},az C.tbl t=some r→r.ti=.str→cs[i]?=some u→(part t cs i).run P w=.ok u w:=fun {t r cs i u} ht hi hu=>by
   simp [part,(hT _ _ ht).tf.agg,TR.isAgg,hi,hu]
  unfold Instr.checkKey
  simp only [Sem.run_bind,aA hd1,Result.andThen_ok,iq]
  simp [o1,o2,n1,n2,pt t1 i1 (cs:=#[.string ⟨(Nam.pkg k).toArray⟩,.string ⟨(Nam.name k).toArray⟩]) (i:=0) rfl,pt t2 i2 (cs:=#[.string ⟨(Nam.pkg k).toArray⟩,.string ⟨(Nam.name k).toArray⟩]) (i:=1) rfl,gG _ t1 i1,gG _ t2 i2]
theorem pk {ti:TI} {κ:Ty} (h:iJ C ti κ=true) (k:den κ) (w:World):(Instr.keyThatStays (iq κ k) (iq κ k)).run P w=.ok (iq κ k) w:=by
 rcases db h with ⟨_,rfl⟩ | ⟨j,_,rfl⟩ | ⟨fs,_,rfl,_⟩
 ·exact MapKept.run_keyThatStays (d:=.string) (by trivial)
 ·exact MapKept.run_keyThatStays (d:=.int j) (by trivial)
 ·have b:∀x:ByteArray,(x ==x)=true:=fun x=>(MapKept.bytes_beq x x).2 rfl
  simp [Instr.keyThatStays,iq,Instr.sameBits,b]
theorem xM (hT:aK P C.tbl) {kt:Nat} {rk:TR} (hr:az C.tbl kt=some rk) {κ:Ty} (h:iJ C rk.ti κ=true) {Ω:Om} {k0:den κ} {kv:Value} (hV:V Ω (inj κ k0) kv) (l:List MapEntry) (hl:∀x∈l,∃k,V Ω (inj κ k) x.key) :
  ((Instr.findKey kt kv l).run P Ω.w=.ok none Ω.w/\∀x∈l,x.key≠kv)∨∃j e,(Instr.findKey kt kv l).run P Ω.w=.ok (some (j,e.val)) Ω.w/\l[j]?=some e/\e.key=kv:=by
 obtain ⟨d,hd1,hd2⟩:=aB hT hr rfl
 have plain:(∀k:den κ,MapKept.IsKey d (iq κ k))→(((Instr.findKey kt kv l).run P Ω.w=.ok none Ω.w/\∀x∈l,x.key≠kv)∨∃j e,(Instr.findKey kt kv l).run P Ω.w=.ok (some (j,e.val)) Ω.w/\l[j]?=some e/\e.key=kv):=fun hk=>by
  have hkv:=nN h hV
  rcases MapKept.findNow_spec (hkv ▸ hk k0) l 0 (fun x hx=>by obtain ⟨k,hk'⟩:=hl x hx;rw [nN h hk'];exact hk k) with ⟨h1,h2⟩ | ⟨j,e,h1,h2,h3⟩
  ·exact .inl ⟨MapKept.run_findKey hd1 h1,h2⟩
  ·exact .inr ⟨j,e,MapKept.run_findKey hd1 (by simpa using h1),h2,h3⟩
 rcases db h with ⟨e,rfl⟩ | ⟨j,e,rfl⟩ | ⟨fs,e,rfl,h2⟩
 ·rw [e] at hd2
  exact plain fun k=>by cases d <;> simp [aE] at hd2;trivial
 ·rw [e] at hd2
  exact plain fun k=>by cases d <;> simp [aE] at hd2;subst hd2;trivial
 ·rw [e] at hd2
  cases d <;> try (simp [aE] at hd2;done)
  rename_i fields
  simp only [aE,Bool.and_eq_true,decide_eq_true_eq,List.all_eq_true] at hd2
  obtain ⟨hf1,hf2⟩:=hd2
  obtain ⟨q1,q2⟩:=(hT _ _ hr).eqs fs e
  have hfo:P.fieldsOf kt=fields:=by simp [Program.fieldsOf,hd1]
  have heq:∀{k:Nam} {v:Value},V Ω (.st .nm k) v→(Op.equal kt kv v).run P Ω.w=.ok (decide (k0=k)) Ω.w:=fun {k v} hk=>by
   obtain ⟨xs,rfl,hx⟩:=ig hV (show gI (.st .nm k0)=some (fq k0) from rfl)
   obtain ⟨ys,rfl,hy⟩:=ig hk (show gI (.st .nm k)=some (fq k) from rfl)
   show (Op.equalIn 10000 kt (.agg xs.toArray) (.agg ys.toArray)).run P Ω.w=_
   rw [run_equalIn_struct Ω.w 9999 kt _ _ (by rw [hfo];exact hd1) q1,hfo]
   refine ic hT hx hy 9998 Ω.w fields.toList _ (fun f hf=>by simpa using (hf2 f hf).2) ?_
   obtain ⟨f,g,ra,rb,rfl,o1,o2,n1,n2,rfl,t1,i1,t2,i2⟩:=jU h2 hf1 (fun f hf=>by simpa using (hf2 f hf).2)
   obtain ⟨a1,a2⟩:=k0
   obtain ⟨b1,b2⟩:=k
   have dn:decide ((⟨a1,a2⟩:Nam)=⟨b1,b2⟩)=(decide (a1=b1) && decide (a2=b2)):=by
    rw [←Bool.decide_and];exact decide_eq_decide.2 (by simp)
   rw [dn]
   simp [uJ,fq,nth,t1,t2,i1,i2,nt,o1,o2]
  have ask:∀(l:List MapEntry) (i:Nat),(∀x∈l,∃k,V Ω (inj (.st .nm) k) x.key)→
    ((Instr.findAsking kt kv l i).run P Ω.w=.ok none Ω.w/\∀x∈l,x.key≠kv)∨∃j e,(Instr.findAsking kt kv l i).run P Ω.w=.ok (some (i+j,e.val)) Ω.w/\l[j]?=some e/\e.key=kv:=by
   intro l
   induction l with
   | nil=>intro i _;exact .inl ⟨rfl,by simp⟩
   | cons x r ih=>
    intro i hl
    obtain ⟨k,hk⟩:=hl x (by simp)
    have hq:=heq hk
    by_cases c:k0=k
    ·subst c
     refine .inr ⟨0,x,?_,rfl,?_⟩
     ·rw [Xd rfl] at hq
      simp [Instr.findAsking,hq]
     ·rw [(zM hk).1,(zM hV).1]
    ·rw [Xf c] at hq
     have hne:x.key≠kv:=fun e=>c (by
      rw [(zM hk).1,(zM hV).1] at e
      exact (sJ h e).symm)
     rcases ih (i+1) (fun y hy=>hl y (by simp [hy])) with ⟨h1,h2⟩ | ⟨j,e,h1,h2,h3⟩
     ·exact .inl ⟨by simp [Instr.findAsking,hq,h1],fun y hy=>by
       rcases List.mem_cons.1 hy with rfl | hy
       ·exact hne
       ·exact h2 y hy⟩
     ·exact .inr ⟨j+1,e,by simp [Instr.findAsking,hq,h1];omega,by simpa using h2,h3⟩
  have hnow:l=[]∨Instr.findNow (.struct fields) kv l 0=none:=by
   cases l with
   | nil=>exact .inl rfl
   | cons x r=>exact .inr (by simp [Instr.findNow,Instr.sameNow])
  rcases hnow with rfl | hnow
  ·exact .inl ⟨by simp [Instr.findKey,aA hd1,Instr.findNow],by simp⟩
  ·rcases ask l 0 hl with ⟨h1,h2⟩ | ⟨j,e,h1,h2,h3⟩
   ·exact .inl ⟨by simp [Instr.findKey,aA hd1,hnow,h1],h2⟩
   ·exact .inr ⟨j,e,by simp [Instr.findKey,aA hd1,hnow,h1],h2,h3⟩
end
theorem MapOK.find {P:Program} {C:Cfg} (hT:aK P C.tbl) {kt:Nat} {rk:TR} (hr:az C.tbl kt=some rk) {Ω:Om} {κ τ:Ty} {m:List (den κ × den τ)} {es:Array MapEntry} {clock:Nat} (h:MapOK Ω κ τ m es clock) (hk:iJ C rk.ti κ=true)
  {k:AV} {kv:Value} (hV:V Ω k kv) {g:Option (den τ)} (hg:hZ κ τ m k=some g):∃k0:den κ,kv=iq κ k0/\V Ω (inj κ k0) kv/\(∀em,(Instr.checkKey em 10000 kt kv).run P Ω.w=.ok () Ω.w)/\(Instr.keyThatStays kv kv).run P Ω.w=.ok kv Ω.w/\
  (((Instr.findKey kt kv es.toList).run P Ω.w=.ok none Ω.w/\g=none/\(∀x∈m,x.1≠k0)/\∀v,gr κ τ m k v=some (m++[(k0,v)]))∨
   ∃j e v,(Instr.findKey kt kv es.toList).run P Ω.w=.ok (some (j,e.val)) Ω.w/\es[j]?=some e/\m[j]?=some (k0,v)/\g=some v/\e.key=kv/\
    ∀u,gr κ τ m k u=some (m.set j (k0,u))):=by
 have hkeys:∀x∈es.toList,∃k',V Ω (inj κ k') x.key:=by
  intro x hx
  obtain ⟨j,hj,e⟩:=List.mem_iff_getElem.1 hx
  have hj':j < m.length:=by rw [←h.size];simpa using hj
  have hej:es[j]?=some x:=by
   rw [←Array.getElem?_toList,List.getElem?_eq_getElem hj,e]
  exact ⟨_,(h.ent j x _ hej (List.getElem?_eq_getElem hj')).1⟩
 have main:∀(k0:den κ) (get:den κ→Option (den τ)) (set:den κ→den τ→List (den κ × den τ)),V Ω (inj κ k0) kv→
   ((∀x∈m,x.1≠k0)→get k0=none/\∀v,set k0 v=m++[(k0,v)])→
   (∀j v,m[j]?=some (k0,v)→get k0=some v/\∀u,set k0 u=m.set j (k0,u))→kv=iq κ k0/\V Ω (inj κ k0) kv/\(∀em,(Instr.checkKey em 10000 kt kv).run P Ω.w=.ok () Ω.w)/\(Instr.keyThatStays kv kv).run P Ω.w=.ok kv Ω.w/\
   (((Instr.findKey kt kv es.toList).run P Ω.w=.ok none Ω.w/\get k0=none/\(∀x∈m,x.1≠k0)/\∀v,set k0 v=m++[(k0,v)])∨
    ∃j e v,(Instr.findKey kt kv es.toList).run P Ω.w=.ok (some (j,e.val)) Ω.w/\es[j]?=some e/\m[j]?=some (k0,v)/\get k0=some v/\e.key=kv/\
     ∀u,set k0 u=m.set j (k0,u)):=by
  intro k0 get set hV hn hs
  have hkv:=nN hk hV
  refine ⟨hkv,hV,fun em=>by rw [hkv];exact pj hT hr hk k0 em Ω.w,by rw [hkv];exact pk hk k0 Ω.w,?_⟩
  rcases xM hT hr hk hV es.toList hkeys with ⟨h1,h2⟩ | ⟨j,e,h1,h2,h3⟩
  ·have hne:∀x∈m,x.1≠k0:=by
    intro x hx e
    obtain ⟨j,hj,e2⟩:=List.mem_iff_getElem.1 hx
    have hj':j < es.size:=by rw [h.size];exact hj
    obtain ⟨q1,_⟩:=h.ent j es[j] x (Array.getElem?_eq_getElem hj') (by rw [List.getElem?_eq_getElem hj,e2])
    refine h2 es[j] (by simp) ?_
    rw [nN hk q1,e,hkv]
   exact .inl ⟨h1,(hn hne).1,hne,(hn hne).2⟩
  ·have hej:es[j]?=some e:=by rw [←Array.getElem?_toList];exact h2
   have hj:j < m.length:=by
    rw [←h.size]
    rcases Nat.lt_or_ge j es.size with k | k
    ·exact k
    ·rw [Array.getElem?_eq_none k] at hej;cases hej
   obtain ⟨q1,_⟩:=h.ent j e m[j] hej (List.getElem?_eq_getElem hj)
   have hk0:m[j].1=k0:=by
    have:=nN hk q1
    rw [h3,hkv] at this
    exact (sJ hk this).symm
   have hmj:m[j]?=some (k0,m[j].2):=by rw [List.getElem?_eq_getElem hj,←hk0]
   obtain ⟨r1,r2⟩:=hs j _ hmj
   exact .inr ⟨j,e,_,h1,hej,hmj,r1,h3,r2⟩
 rcases db hk with ⟨_,rfl⟩ | ⟨i,_,rfl⟩ | ⟨fs,_,rfl,_⟩
 ·cases k <;> simp only [hZ,Xs,reduceCtorEq] at hg
  rename_i k0
  refine ⟨k0,?_⟩
  have:=main k0 (fun k=>dD (K:=Str) m k) (fun k v=>iS (K:=Str) m k v) hV
   (fun hn=>⟨jC hn,fun v=>jD hn⟩) (fun j v hj=>⟨mV h.keys hj,fun u=>mW h.keys hj⟩)
  rw [←hg]
  simpa [gr] using this
 ·cases k <;> simp only [hZ,Xs,reduceCtorEq] at hg
  rename_i i' k0
  split at hg
  ·rename_i hii
   subst hii
   refine ⟨k0,?_⟩
   have:=main k0 (fun k=>dD (K:=Int) m k) (fun k v=>iS (K:=Int) m k v) hV
    (fun hn=>⟨jC hn,fun v=>jD hn⟩) (fun j v hj=>⟨mV h.keys hj,fun u=>mW h.keys hj⟩)
   simp only [Xs] at hg
   rw [←hg]
   simpa [gr] using this
  ·cases hg
 ·simp only [hZ] at hg
  cases ha:arg (.st .nm) k with
  | none=>rw [ha] at hg;cases hg
  | some k0=>
   rw [ha] at hg
   simp only [Xs] at hg
   refine ⟨k0,?_⟩
   have:=main k0 (fun k=>dD (K:=Nam) m k) (fun k v=>iS (K:=Nam) m k v) (zK hV ha)
    (fun hn=>⟨jC hn,fun v=>jD hn⟩) (fun j v hj=>⟨mV h.keys hj,fun u=>mW h.keys hj⟩)
   rw [←hg]
   simpa [gr,ha] using this
section
variable {P:Program} {C:Cfg} {o:Oper}
theorem uZ (hT:aK P C.tbl) {e:Nat} {re:TR} (hre:az C.tbl e=some re) {τ:Ty} (hty:re.ty=some τ) {z:den τ} (hz:pd τ re.zero=some z) (Ω:Om) :
  ∃i v,P.info? e=some i/\i.zero=some v/\V Ω (inj τ z) v/\VL Ω (cells τ z) v.cells.toList:=by
 obtain ⟨i,v,i1,i2,i3,i4,i5⟩:=(hT _ _ hre).info
 have hag:=(hT _ _ hre).zagg i v i1 i4
 have hst:=((hT _ _ hre).ty τ hty).2
 have hvl:VL Ω (cells τ z) v.cells.toList:=by
  have:=nD Ω v.cells.toList
  rw [i5] at this
  exact this.rd (im τ hz)
 refine ⟨i,v,i1,i4,?_,hvl⟩
 cases τ with
 | st n=>
  have:uO v=true:=by rw [hag,←hst];rfl
  cases v <;> simp [uO] at this
  rename_i cs
  have e:(Value.agg cs).cells.toList.toArray=cs:=by simp [Value.cells]
  have:=V.st (Ω:=Ω) n z (.agg (Value.agg cs).cells.toList.toArray) (V.of_agg hvl)
  rw [e] at this
  exact this
 | _=>
  have:uO v=false:=by rw [hag,←hst];rfl
  have hc:v.cells.toList=[v]:=by cases v <;> simp [uO] at this <;> rfl
  rw [hc] at hvl
  exact hvl.head
theorem xN (hT:aK P C.tbl) {t:Nat} {x k:Operand} {ok:Bool} (hop:o.op=.lookup t x k ok):bS P C o:=by
 refine bS.pure fun F s a Ω eff h he ho=>?_
 simp only [ar,hop,qN] at he
 have hx:=aZ h x
 have hk:=aZ h k
 split at he
 ·rename_i kt e sz by' z0 ty id hr hxe
  rw [hxe] at hx
  split at he
  ·rename_i rk re κ τ m hrk hre hm
   split at he
   ·rename_i z g hz hg
    split at he
    ·rename_i hc
     simp only [Bool.and_eq_true,decide_eq_true_eq] at hc
     obtain ⟨hko,hty⟩:=hc
     simp only [Xs] at he
     subst he
     obtain ⟨d,hd1,hd2⟩:=aB hT hr rfl
     cases d <;> simp [aE] at hd2
     obtain ⟨rfl,rfl⟩:=hd2
     obtain ⟨dk,hk1,hk2⟩:=aB hT hrk rfl
     generalize hxv:a.eval x=xv at hx
     cases hx with
     | map _ r her=>
      obtain ⟨r',e1,e2,es,clock,e3,e4⟩:=h.slots _ _ hm
      rw [her] at e1
      simp only [Xs,CObj.obj.injEq] at e1
      subst e1
      obtain ⟨k0,hkv,_,hck,_,hf⟩:=e4.find hT hrk hko hk hg
      obtain ⟨i,zv,i1,i4,zV,_⟩:=uZ hT hre hty hz Ω
      have hgo:=MapKept.run_getObj_map (P:=P) e3
      rw [hkv] at hck hf
      rcases hf with ⟨h1,h2,h3,h4⟩ | ⟨j,en,v,h1,h2,h3,h4,h5,h6⟩
      ·have hfk:=h1
       subst h2
       cases ok with
       | true=>
        refine ⟨rfl,.tuple #[zv,.bool false],?_,?_⟩
        ·simp [execOp,hop,hxv,hkv,Instr.lookup,aA hd1,hgo,hck,hfk,dW i1 i4]
        ·exact V.of_tup (VL.cons zV (VL.cons (.bool false) .nil))
       | false=>
        refine ⟨rfl,zv,?_,zV⟩
        simp [execOp,hop,hxv,hkv,Instr.lookup,aA hd1,hgo,hck,hfk,dW i1 i4]
      ·have hfk:=h1
       subst h4
       have hv:=(e4.ent j en _ h2 h3).2
       cases ok with
       | true=>
        refine ⟨rfl,.tuple #[en.val,.bool true],?_,?_⟩
        ·simp [execOp,hop,hxv,hkv,Instr.lookup,aA hd1,hgo,hck,hfk]
        ·exact V.of_tup (VL.cons hv (VL.cons (.bool true) .nil))
       | false=>
        refine ⟨rfl,en.val,?_,hv⟩
        simp [execOp,hop,hxv,hkv,Instr.lookup,aA hd1,hgo,hck,hfk]
    ·simp at he
   ·simp at he
  ·simp at he
 ·rename_i kt e sz by' z0 ty hr hxe
  rw [hxe] at hx
  split at he
  ·rename_i rk re hrk hre
   split at he
   ·rename_i κ τ hκ hτ
    split at he
    ·rename_i z hz hg
     split at he
     ·rename_i hko
      simp only [Xs] at he
      subst he
      obtain ⟨d,hd1,hd2⟩:=aB hT hr rfl
      cases d <;> simp [aE] at hd2
      obtain ⟨rfl,rfl⟩:=hd2
      generalize hxv:a.eval x=xv at hx
      cases hx
      have e4:MapOK Ω κ τ [] #[] 0:=⟨rfl,fun i e x hi=>by simp at hi,List.nodup_nil,fun i e hi=>by simp at hi,fun i j e f hi=>by simp at hi⟩
      obtain ⟨k0,hkv,_,hck,_,hf⟩:=e4.find hT hrk hko hk hg
      obtain ⟨i,zv,i1,i4,zV,_⟩:=uZ hT hre hτ hz Ω
      rw [hkv] at hck hf
      rcases hf with ⟨h1,h2,h3,h4⟩ | ⟨j,en,v,h1,h2,h3,h4,h5,h6⟩
      ·have hfk:=h1
       cases ok with
       | true=>
        refine ⟨rfl,.tuple #[zv,.bool false],?_,?_⟩
        ·simp [execOp,hop,hxv,hkv,Instr.lookup,aA hd1,hck,hfk,dW i1 i4]
        ·exact V.of_tup (VL.cons zV (VL.cons (.bool false) .nil))
       | false=>
        refine ⟨rfl,zv,?_,zV⟩
        simp [execOp,hop,hxv,hkv,Instr.lookup,aA hd1,hck,hfk,dW i1 i4]
      ·simp at h2
     ·simp at he
    ·simp at he
   ·simp at he
  ·simp at he
 ·simp at he
theorem sK {f:Fn} {first caps:Array Operand} (hop:o.op=.makeFunc f first caps):bS P C o:=by
 refine bS.pure fun F s a Ω eff h he ho=>?_
 cases f with
 | func f=>
  simp only [ar,hop] at he
  split at he
  ·rename_i hem
   simp only [Xs] at he
   subst he
   have hf0:first=#[]:=by simpa using hem
   subst hf0
   refine ⟨rfl,.func (.func f) #[] (caps.map a.eval),by simp [execOp,hop,Instr.makeFunc],?_⟩
   have:(caps.map a.eval)=(caps.toList.map a.eval).toArray:=by apply Array.ext';simp
   rw [this]
   refine V.fn f _ _ (by simp) (fun j c v hc hv=>?_)
   simp only [List.getElem?_map,Option.map_eq_some_iff] at hc hv
   obtain ⟨y,hy,rfl⟩:=hc
   obtain ⟨y',hy',rfl⟩:=hv
   rw [hy] at hy'
   simp at hy'
   subst hy'
   exact aZ h y
  ·simp at he
 | _=>simp [ar,hop] at he
theorem lx (hT:aK P C.tbl) {t:Nat} {x:Operand} (hop:o.op=.makeInterface t x):bS P C o:=by
 refine bS.pure fun F s a Ω eff h he ho=>?_
 simp only [ar,hop] at he
 split at he
 ·rename_i r hr
  split at he
  ·cases he
  ·rename_i hti
   simp only [Xs] at he
   subst he
   obtain ⟨d,hd1,hd2⟩:=aB hT hr rfl
   refine ⟨rfl,.iface t (a.eval x),?_,.iface t _ _ (aZ h x)⟩
   have hn:∀ms,d≠.interface ms:=by
    intro ms e
    subst e
    generalize r.ti=ti at hti hd2
    cases ti <;> first | exact hti rfl | cases hd2
   simp only [execOp,hop,Instr.makeInterface,Sem.run_bind,aA hd1,Result.andThen_ok]
   cases d <;> first | exact absurd rfl (hn _) | rfl
 ·simp at he
theorem pn (hT:aK P C.tbl) {t t':Nat} {b:Bool} {x:Operand} (hop:o.op=.typeAssert x t' t b):bS P C o:=by
 refine bS.pure fun F s a Ω eff h he ho=>?_
 cases b with
 | false=>simp [ar,hop] at he
 | true=>
  simp only [ar,hop] at he
  split at he
  ·rename_i t1 c r hx0 hr
   have hx:=aZ h x
   rw [hx0] at hx
   split at he
   ·cases he
   ·rename_i hti
    split at he
    ·rename_i et
     subst et
     simp only [Xs] at he
     subst he
     obtain ⟨d,hd1,hd2⟩:=aB hT hr rfl
     have hn:∀ms,d≠.interface ms:=by
      intro ms e
      subst e
      generalize r.ti=ti at hti hd2
      cases ti <;> first | exact hti rfl | cases hd2
     generalize hxv:a.eval x=xv at hx
     cases hx with
     | iface _ _ v hv=>
      refine ⟨rfl,.tuple #[v,.bool true],?_,?_⟩
      ·simp only [execOp,hop,hxv,Instr.typeAssert,Sem.run_bind,aA hd1,Result.andThen_ok]
       cases d <;> first | exact absurd rfl (hn _) | simp
      ·exact .tup [c,.bool true] [v,.bool true] rfl (VL.cons hv (VL.cons (.bool true) .nil)).2
    ·cases he
  ·simp at he
theorem zN {k:IntKind} {m n:Int} {w:World}:(Builtin.min2 (.int k m) (.int k n)).run P w=.ok (.int k (min m n)) w:=by
 simp only [Builtin.min2,Sem.run_pure]
 congr 2
 split <;> omega
theorem zO {k:IntKind} {m n:Int} {w:World}:(Builtin.max2 (.int k m) (.int k n)).run P w=.ok (.int k (max m n)) w:=by
 simp only [Builtin.max2,Sem.run_pure]
 congr 2
 split <;> omega
theorem CX {args:Array Operand} {ts:Array Nat} (hop:o.op=.call {callee:=.builtin .max,args:=args,argTypes:=ts}):bS P C o:=by
 refine bS.pure fun F s a Ω eff h he ho=>?_
 simp only [ar,hop] at he
 split at he
 ·rename_i x y hargs
  have ha:args=#[x,y]:=by apply Array.ext';simpa using hargs
  subst ha
  have hx:=aZ h x
  have hy:=aZ h y
  split at he
  ·rename_i k m k' n hm hn
   rw [hm] at hx
   rw [hn] at hy
   split at he
   ·rename_i hk
    subst hk
    simp only [Xs] at he
    subst he
    obtain ⟨hx1,hx2,hx3⟩:=hx.int_inv
    obtain ⟨hy1,hy2,hy3⟩:=hy.int_inv
    refine ⟨rfl,.int k (max m n),?_,.int k _ (by omega) (by omega)⟩
    simp [execOp,hop,resolve,invoke,builtin,hx1,hy1,Builtin.max_,zO]
   ·cases he
  ·cases he
 ·cases he
theorem CY {args:Array Operand} {ts:Array Nat} (hop:o.op=.call {callee:=.builtin .min,args:=args,argTypes:=ts}):bS P C o:=by
 refine bS.pure fun F s a Ω eff h he ho=>?_
 simp only [ar,hop] at he
 split at he
 ·rename_i x y hargs
  have ha:args=#[x,y]:=by apply Array.ext';simpa using hargs
  subst ha
  have hx:=aZ h x
  have hy:=aZ h y
  split at he
  ·rename_i k m k' n hm hn
   rw [hm] at hx
   rw [hn] at hy
   split at he
   ·rename_i hk
    subst hk
    simp only [Xs] at he
    subst he
    obtain ⟨hx1,hx2,hx3⟩:=hx.int_inv
    obtain ⟨hy1,hy2,hy3⟩:=hy.int_inv
    refine ⟨rfl,.int k (min m n),?_,.int k _ (by omega) (by omega)⟩
    simp [execOp,hop,resolve,invoke,builtin,hx1,hy1,Builtin.min_,zN]
   ·cases he
  ·cases he
 ·cases he
theorem rm {t:Nat} {w:World}:(Instr.makeMap t none).run P w=.ok (.map (some w.heap.size)) (w.alloc (.map #[] 0)):=rfl
theorem rn {t k e:Nat} (hu:P.underlying t=some (.map k e)) {i:IntKind} {n:Int} {w:World}:(Instr.makeMap t (some (.int i n))).run P w=.ok (.map (some w.heap.size)) (w.alloc (.map #[] 0)):=by
 unfold Instr.makeMap
 simp only [Sem.run_bind,aA hu,Result.andThen_ok]
 rfl
theorem v7 (hT:aK P C.tbl) {t:Nat} {hint:Option Operand} (hop:o.op=.makeMap t hint):bS P C o:=by
 intro F s a Ω eff next Q h hd he ho hn
 simp only [ar,hop] at he
 split at he
 ·rename_i d k e sz by' z ty hdst hr
  split at he
  ·rename_i _ _ _ _ κ _ _ _ _ τ hrk hre hB
   obtain ⟨dd,hd1,hd2⟩:=aB hT hr rfl
   cases dd <;> simp [aE] at hd2
   have hh:Holds F ⟨bB s.T o.dst (.map d),bJ s.B [(d,.map κ τ [])]⟩ (a.put o.dst (.map (some Ω.w.heap.size)))
     ⟨fun i=>if d=i then some (.obj Ω.w.heap.size) else Ω.e i,Ω.w.alloc (.map #[] 0),fun b o=>Ω.pub b o∨(b=Ω.w.heap.size/\False)⟩:=by
    refine h.alloc (p:=fun _=>False) (Or.inl (h.dom d hB)) (fun b o hb=>hb) (fun hx=>?_) (fun _ hf=>hf.elim) (fun hx=>?_) hd
    ·refine ⟨Ω.w.heap.size,by simp,fun _=>Or.inl h.frame.size,#[],0,bK _ _,⟨rfl,fun i e x he=>by simp at he,by simp,fun i e he=>by simp at he,fun i j e f he=>by simp at he⟩⟩
    ·exact .map d _ (by simp)
   split at he
   ·simp only [Xs] at he
    subst he
    rename_i hh'
    have hnone:hint=none:=by cases hint with | none=>rfl | some y=>simp at hh'
    subst hnone
    exact ay (v:=.map (some Ω.w.heap.size)) (w':=Ω.w.alloc (.map #[] 0)) (by simp [execOp,hop,rm]) (hn _ _ hh)
   ·simp only [Xs] at he
    subst he
    rename_i kk nn hh'
    cases hint with
    | none=>cases hh'
    | some y=>
     simp only [Option.map_some,Xs] at hh'
     have hy:=aZ h y
     rw [hh'] at hy
     exact ay (v:=.map (some Ω.w.heap.size)) (w':=Ω.w.alloc (.map #[] 0)) (by simp [execOp,hop,hy.int_inv.1,rn hd1]) (hn _ _ hh)
   ·cases he
  ·cases he
 ·cases he
theorem nO (hT:aK P C.tbl) {t:Nat} {x k v:Operand} (hop:o.op=.mapUpdate t x k v∨o.op=.insert t x k v) {F:Fr} {s:AS} {a:Act} {Ω:Om} {eff:Eff} {next:Act→World→Prop} {Q:Exit→Act→World→Prop}
  (h:Holds F s a Ω) (hd:∀d,o.dst=some d→d < F.n) (he:ar C o s.T s.B=some eff)
  (hn:∀a' Ω',Holds F (s.put o.dst eff) a' Ω'→a'=a.put o.dst undef→(∀id,opd s.T x=.map id→∀r,Ω.e id=some (.obj r)→∀b,b≠r→Ω'.w.heap[b]?=Ω.w.heap[b]?)→(∀i,Ω'.e i=Ω.e i)→(∀b o,Ω'.pub b o↔Ω.pub b o)→next a' Ω'.w):o.wp P a Ω.w next Q:=by
 have he:ib C t (opd s.T x) (opd s.T k) (opd s.T v) s.B=some eff:=by
  rcases hop with hop | hop <;> simpa only [ar,hop] using he
 have hex:∀w,(execOp a.eval o).run P w=((Instr.mapUpdate t (a.eval x) (a.eval k) (a.eval v)).run P w).andThen fun _ w'=>.ok .skip w':=by
  intro w
  rcases hop with hop | hop <;> simp [execOp,hop]
 unfold ib at he
 have hx:=aZ h x
 have hk:=aZ h k
 have hv:=aZ h v
 split at he
 ·rename_i kt e sz by' z0 ty id hr hxe
  rw [hxe] at hx
  split at he
  ·rename_i rk κ τ m hrk hm
   split at he
   ·rename_i u hu
    split at he
    ·rename_i m' hm'
     split at he
     ·rename_i hko
      simp only [Xs] at he
      subst he
      obtain ⟨d,hd1,hd2⟩:=aB hT hr rfl
      cases d <;> simp [aE] at hd2
      obtain ⟨rfl,rfl⟩:=hd2
      obtain ⟨dk,hk1,hk2⟩:=aB hT hrk rfl
      have hvu:=zK hv hu
      generalize hxv:a.eval x=xv at hx
      cases hx with
      | map _ r her=>
       obtain ⟨r',e1,e2,es,clock,e3,e4⟩:=h.slots _ _ hm
       rw [her] at e1
       simp only [Xs,CObj.obj.injEq] at e1
       subst e1
       obtain ⟨g,hg⟩:∃g,hZ κ τ m (opd s.T k)=some g:=by
        rcases db hko with ⟨_,rfl⟩ | ⟨i,_,rfl⟩ | ⟨fs,_,rfl,_⟩
        ·cases hkk:opd s.T k <;> rw [hkk] at hm' <;> simp [gr] at hm'
         exact ⟨_,rfl⟩
        ·cases hkk:opd s.T k <;> rw [hkk] at hm' <;> simp [gr] at hm'
         exact ⟨_,by simp [hZ,hm'.1];rfl⟩
        ·simp only [gr] at hm'
         cases ha:arg (.st .nm) (opd s.T k) with
         | none=>rw [ha] at hm';cases hm'
         | some k0=>exact ⟨_,by simp only [hZ,ha];rfl⟩
       obtain ⟨k0,hkv,hkV,hck,hst,hf⟩:=e4.find hT hrk hko hk hg
       rw [hkv] at hck hst hf
       have hgo:=MapKept.run_getObj_map (P:=P) e3
       have fin:∀(es':Array MapEntry) (clock':Nat),MapOK Ω κ τ m' es' clock'→(Instr.mapUpdate t (a.eval x) (a.eval k) (a.eval v)).run P Ω.w=.ok () {Ω.w with heap:=Ω.w.heap.setIfInBounds r (.map es' clock')}→
         o.wp P a Ω.w next Q:=by
        intro es' clock' hmo hrun
        have hheap:=MapKept.heap_set (o':=.map es' clock') e3
        have hpne:∀b o,Ω.pub b o→b≠r:=by
         intro b o hp e
         subst e
         obtain ⟨v,hv⟩:=h.pubok b o hp
         simp [World.cell?,e3] at hv
        have hxx:Ext Ω ⟨fun i=>if id=i then some (.obj r) else Ω.e i,{Ω.w with heap:=Ω.w.heap.setIfInBounds r (.map es' clock')},Ω.pub⟩:=by
         refine ⟨fun i c hc=>?_,fun _ _ p=>p,fun b o hp=>ak (hheap.2 b (hpne b o hp)) o⟩
         by_cases hid:id=i
         ·subst hid;rw [her] at hc;simp at hc;subst hc;exact ⟨.obj r,by simp,CLe.refl _⟩
         ·exact ⟨c,by simp [hid,hc],CLe.refl _⟩
        have hsz:(Ω.w.heap.setIfInBounds r (.map es' clock')).size=Ω.w.heap.size:=by simp
        have hh:=h.slot (k:=id) (c:=.obj r) (obj:=.map κ τ m') (dst:=o.dst) (val:=.undef) (v:=undef) hxx
         ⟨r,by simp,e2,es',clock',hheap.1,hmo.ext hxx⟩
         (fun i c' hi hc=>kH.of_blocks fun b o hb=>⟨hheap.2 b (fun e=>by
          subst e
          exact hi (h.inj i id _ _ b o hc her hb rfl)),fun _ p=>p⟩)
         (fun i c' b o hi hc hb hb'=>absurd (h.inj i id _ _ b o hc her hb hb') hi)
         (fun b o hp=>by
          obtain ⟨v,hv⟩:=h.pubok b o hp
          exact ⟨v,by rw [ak (hheap.2 b (hpne b o hp)) o,hv]⟩)
         (by
          have hold:∀b,b < F.w0.heap.size→(¬∀o,F.br b o)→b≠r:=by
           intro b hb hnb e
           subst e
           refine hnb (fun o=>?_)
           rcases e2 o with k | k
           ·omega
           ·exact k
          exact ⟨h.frame.os,h.frame.tape,h.frame.output,by simpa using h.frame.size,
           fun b hb hnb=>(hheap.2 b (hold b hb (fun k=>hnb 0 (k 0)))).trans (h.frame.block b hb hnb),
           fun b o hb hnb=>(ak (hheap.2 b (hold b hb (fun k=>hnb (k o)))) o).trans (h.frame.cell b o hb hnb),
           fun b hb hnb=>⟨(b7 (hheap.2 b (hold b hb hnb))).trans (h.frame.kind b hb hnb).1,fun o=>(aO (hheap.2 b (hold b hb hnb)) o).trans ((h.frame.kind b hb hnb).2 o)⟩,
           h.frame.pub,h.frame.old,fun b o hp=>(hxx.cell b o (h.frame.old b o hp)).trans (h.frame.pcell b o hp)⟩)
         (.undef undef) hd
        exact iT (w':={Ω.w with heap:=Ω.w.heap.setIfInBounds r (.map es' clock')}) (by rw [hex,hrun];rfl) (hn _ _ hh rfl (fun id' hid' r' hr' b hb=>by
         rw [hxe] at hid'
         cases hid'
         rw [her] at hr'
         cases hr'
         exact hheap.2 b hb) (fun i=>by
         show (if id=i then some (CObj.obj r) else Ω.e i)=Ω.e i
         by_cases hid:id=i
         ·subst hid;simp [her]
         ·simp [hid]) (fun b o=>Iff.rfl))
       rcases hf with ⟨h1,h2,h3,h4⟩ | ⟨j,en,v0,h1,h2,h3,h4,h5,h6⟩
       ·have hfk:=h1
        have hmm:m'=m++[(k0,u)]:=by
         have:=h4 u
         rw [hm'] at this
         exact Option.some.inj this
        subst hmm
        refine fin (es.push {key:=iq κ k0,val:=a.eval v,born:=clock}) (clock+1) ⟨by simp [e4.size],fun i en x hen hx=>?_,?_,fun i en hen=>?_,fun i j en en' hen hen' hij=>?_⟩ ?_
        ·rw [Array.getElem?_push] at hen
         split at hen
         ·rename_i hi
          simp at hen
          subst hen
          rw [List.getElem?_append_right (by rw [←e4.size];omega),hi,e4.size] at hx
          simp at hx
          subst hx
          rw [←hkv]
          exact ⟨hkV,hvu⟩
         ·have hi:i < es.size:=by
           rcases Nat.lt_or_ge i es.size with k | k
           ·exact k
           ·rw [Array.getElem?_eq_none k] at hen;cases hen
          rw [List.getElem?_append_left (by rw [←e4.size];exact hi)] at hx
          exact e4.ent i en x hen hx
        ·rw [List.map_append]
         refine List.nodup_append.2 ⟨e4.keys,by simp,fun y hy z hz=>?_⟩
         obtain ⟨x,hx,rfl⟩:=List.mem_map.1 hy
         simp at hz
         subst hz
         exact h3 x hx
        ·rw [Array.getElem?_push] at hen
         split at hen
         ·simp at hen;subst hen;simp
         ·have:=e4.born i en hen;omega
        ·rw [Array.getElem?_push] at hen hen'
         split at hen'
         ·rename_i hj
          simp at hen'
          subst hen'
          split at hen
          ·omega
          ·exact e4.born i en hen
         ·split at hen
          ·rename_i hi
           have:j < es.size:=by
            rcases Nat.lt_or_ge j es.size with k | k
            ·exact k
            ·rw [Array.getElem?_eq_none k] at hen';cases hen'
           omega
          ·exact e4.rise i j en en' hen hen' hij
        ·rw [hxv,hkv]
         simp [Instr.mapUpdate,aA hd1,hgo,hck,hfk,MapKept.run_setObj_map _ e3]
       ·have hfk:=h1
        have hmm:m'=m.set j (k0,u):=by
         have:=h6 u
         rw [hm'] at this
         exact Option.some.inj this
        subst hmm
        have hjl:j < es.size:=by
         rcases Nat.lt_or_ge j es.size with k | k
         ·exact k
         ·rw [Array.getElem?_eq_none k] at h2;cases h2
        have hkk:((m.set j (k0,u)).map (·.1))=m.map (·.1):=by
         rw [List.map_set]
         apply List.ext_getElem?
         intro i
         rw [List.getElem?_set]
         by_cases hij:j=i
         ·subst hij
          simp only [List.length_map,List.getElem?_map,h3,Option.map_some,if_true]
          rw [if_pos (by rw [←e4.size];exact hjl)]
         ·simp [hij]
        refine fin (es.modify j fun e=>{e with key:=iq κ k0,val:=a.eval v}) clock ⟨by simp [e4.size],fun i en' x hen hx=>?_,by rw [hkk];exact e4.keys,fun i en' hen=>?_,fun i i' en1 en2 hen hen' hij=>?_⟩ ?_
        ·rw [Array.getElem?_modify] at hen
         rw [List.getElem?_set] at hx
         by_cases hij:j=i
         ·subst hij
          simp [h2] at hen
          simp [←e4.size,hjl] at hx
          subst hen hx
          rw [←hkv]
          exact ⟨hkV,hvu⟩
         ·simp [hij] at hen hx
          exact e4.ent i en' x hen hx
        ·rw [Array.getElem?_modify] at hen
         by_cases hij:j=i
         ·subst hij
          simp [h2] at hen
          subst hen
          exact e4.born j en h2
         ·simp [hij] at hen
          exact e4.born i en' hen
        ·have hb:∀(i:Nat) (e1:MapEntry),(es.modify j fun e=>{e with key:=iq κ k0,val:=a.eval v})[i]?=some e1→∃e2,es[i]?=some e2/\e2.born=e1.born:=by
          intro i e1 h1
          rw [Array.getElem?_modify] at h1
          by_cases hij:j=i
          ·subst hij
           simp [h2] at h1
           subst h1
           exact ⟨en,h2,rfl⟩
          ·simp [hij] at h1
           exact ⟨e1,h1,rfl⟩
         obtain ⟨f1,g1,g2⟩:=hb i en1 hen
         obtain ⟨f2,g3,g4⟩:=hb i' en2 hen'
         rw [←g2,←g4]
         exact e4.rise i i' f1 f2 g1 g3 hij
        ·rw [hxv,hkv]
         simp [Instr.mapUpdate,aA hd1,hgo,hck,hfk,h2,h5,hst,MapKept.run_setObj_map _ e3]
     ·cases he
    ·cases he
   ·cases he
  ·cases he
 ·cases he
theorem pZ (hT:aK P C.tbl) {t:Nat} {x k v:Operand} (hop:o.op=.mapUpdate t x k v∨o.op=.insert t x k v):bS P C o:=
 fun _ _ _ _ _ _ _ h hd he _ hn=>nO hT hop h hd he fun a' Ω' hh _ _ _ _=>hn a' Ω' hh
theorem sL (τ:Ty):∀(xs:List (den τ)) (q:Nat) (c:AV),(aX τ xs)[q]?=some c→∃i x j,xs[i]?=some x/\(cells τ x)[j]?=some c/\q=i *ae τ+j/\j < ae τ
 | [],q,c,h=>by simp [aX] at h
 | x ::xs,q,c,h=>by
  simp only [aX,List.flatMap_cons] at h
  by_cases hq:q < (cells τ x).length
  ·rw [List.getElem?_append_left hq] at h
   exact ⟨0,x,q,rfl,h,by simp,by rw [←aM τ x];exact hq⟩
  ·rw [List.getElem?_append_right (by omega)] at h
   obtain ⟨i,y,j,h1,h2,h3,h4⟩:=sL τ xs _ c h
   rw [aM] at h3 hq
   exact ⟨i+1,y,j,by simpa using h1,h2,by rw [Nat.add_mul];omega,h4⟩
theorem xO {k:IntKind} {n:Int} {w:World}:(Go.asInt (.int k n)).run P w=.ok n w:=by simp [Go.asInt,asIntOf]
theorem jV {t e:Nat} {i:TypeInfo} {z:Value} {a b:Int} {w:World} (hu:P.underlying t=some (.slice e)) (hi:P.info? e=some i) (hz:i.zero=some z)
  (h0:0<=a) (h1:a<=b) (h2:b *i.bytes<=140737488355328) (hb:0 < i.bytes) :
  ∃cs:Array Value,(Instr.makeSlice t (.int .i64 a) (.int .i64 b)).run P w=.ok (.slice (some ⟨w.heap.size,0,none⟩) a.toNat b.toNat) (w.alloc (.cells cs e))/\
   cs.size=b.toNat *i.size/\∀q,q < cs.size→cs[q]?=some (z.cells[q % z.cells.size]!):=by
 have hbb:b<=140737488355328:=by
  have:b *1<=b *i.bytes:=Int.mul_le_mul_of_nonneg_left (by omega) (by omega)
  omega
 have w1:IntKind.i64.wrap a=a:=gl _ _ (by simp [IntKind.min,IntKind.signed,IntKind.bits];omega) (by simp [IntKind.max,IntKind.signed,IntKind.bits];omega)
 have w2:IntKind.i64.wrap b=b:=gl _ _ (by simp [IntKind.min,IntKind.signed,IntKind.bits];omega) (by simp [IntKind.max,IntKind.signed,IntKind.bits];omega)
 have hmul:(i.bytes:Int) *b=b *i.bytes:=Int.mul_comm _ _
 have c1:¬(2 ^ 48 < (i.bytes:Int) *b):=by rw [hmul];omega
 have c2:¬(b < 0):=by omega
 have c3:¬(a < 0):=by omega
 have c4:¬(b < a):=by omega
 have hask:(askRoom (b.toNat *i.bytes)).run P w=.ok () w:=by
  have:¬(140737488355328 < b.toNat *i.bytes):=by
   have e:((b.toNat *i.bytes:Nat):Int)=b *i.bytes:=by
    rw [Int.natCast_mul,Int.toNat_of_nonneg (by omega)]
   omega
  simp [askRoom,roomBytes,this]
 refine ⟨(Array.range (b.toNat *i.size)).map fun q=>(if b.toNat *i.size=0 then #[] else z.cells)[q % (if b.toNat *i.size=0 then #[] else z.cells).size]!,?_,by simp,fun q hq=>?_⟩
 ·simp only [Instr.makeSlice,Sem.run_bind,aA hu,Result.andThen_ok,xO,nE hi,w1,w2]
  simp only [gt_iff_lt,c1,c2,c3,c4,decide_false,Bool.or_false,Bool.or_self,Bool.false_eq_true,if_false,hask,Result.andThen_ok,Sem.run_bind,Sem.run_pure,cQ hi]
  by_cases hn:b.toNat *i.size=0
  ·simp only [hn,if_true,Sem.run_pure,Result.andThen_ok,newRow,Sem.run_bind]
   rfl
  ·simp only [hn,if_false,Sem.run_bind,dW hi hz,Sem.run_pure,Result.andThen_ok,newRow]
   rfl
 ·have hq':q < b.toNat *i.size:=by simpa using hq
  have hn:¬b.toNat *i.size=0:=by omega
  simp [hq',hn]
theorem rq (hT:aK P C.tbl) {t:Nat} {x y:Operand} (hop:o.op=.makeSlice t x y):bS P C o:=by
 intro F s a Ω eff next Q h hd he ho hn
 simp only [ar,hop] at he
 split at he
 ·rename_i d e sz by' z0 ty m n hdst hr hxe hye
  have hx:=aZ h x
  have hy:=aZ h y
  rw [hxe] at hx
  rw [hye] at hy
  obtain ⟨hx1,_⟩:=hx.int_inv
  obtain ⟨hy1,_⟩:=hy.int_inv
  split at he
  ·rename_i ti size bytes zero τ hre hB
   split at he
   ·rename_i z hz
    obtain ⟨dd,hd1,hd2⟩:=aB hT hr rfl
    cases dd <;> simp [aE] at hd2
    subst hd2
    obtain ⟨i,zv,i1,i4,zV,zvl⟩:=uZ hT hre rfl hz Ω
    obtain ⟨i',zv',j1,j2,j3,j4,_⟩:=(hT _ _ hre).info
    rw [i1] at j1
    simp at j1
    subst j1
    have hw:ae τ=size:=((hT _ _ hre).ty τ rfl).1
    have hpos:=(hT _ _ hre).pos rfl
    have hbpos:0 < i.bytes:=by rw [j3];exact (hT _ _ hre).bps rfl
    have hsz:i.size=ae τ:=by rw [j2,hw]
    have hzs:zv.cells.size=ae τ:=by
     have:=zvl.1
     rw [aM] at this
     simpa using this.symm
    have hmax:0<=n→n *bytes<=140737488355328→n.toNat<=bn:=by
     intro h0 h1
     have:n *1<=n *bytes:=Int.mul_le_mul_of_nonneg_left (by have:=(hT _ _ hre).bps rfl;simp at this;omega) h0
     unfold bn
     omega
    split at he
    ·rename_i kk
     simp only [Xs] at he
     subst he
     obtain ⟨h0,h1⟩:=ho
     have hm0:m=0:=by
      have:opd s.T (.const (.int kk (.ofNat 0)))=.int .i64 m:=hxe
      simp only [opd,kE,bH] at this
      split at this
      ·simp at this;exact this.2.symm
      ·cases this
     subst hm0
     obtain ⟨cs,r1,r2,r3⟩:=jV (P:=P) (w:=Ω.w) hd1 i1 i4 (Int.le_refl 0) h0 (by rw [j3];exact h1) hbpos
     have hh:Holds F ⟨bB s.T o.dst (.lst τ [] (some d)),bJ s.B [(d,.tail τ 0)]⟩ (a.put o.dst (.slice (some ⟨Ω.w.heap.size,0,none⟩) 0 n.toNat))
       ⟨fun i=>if d=i then some (.tail 0 (some Ω.w.heap.size) n.toNat) else Ω.e i,Ω.w.alloc (.cells cs e),fun b o=>Ω.pub b o∨(b=Ω.w.heap.size/\False)⟩:=by
      refine h.alloc (p:=fun _=>False) (Or.inl (h.dom d hB)) (fun b o hb=>by simp [occ] at hb;exact hb.symm) (fun hx=>?_) (fun _ hf=>hf.elim) (fun hx=>?_) hd
      ·refine ⟨some Ω.w.heap.size,n.toNat,by simp,Nat.zero_le _,hmax h0 h1,by simp,fun b hb=>?_⟩
       simp at hb
       subst hb
       refine ⟨fun _=>Or.inl h.frame.size,cs,e,(0,0),bK _ _,rfl,by rw [r2,hsz];exact Nat.le_refl _,fun o _ hp=>?_⟩
       rcases hp with hp | ⟨_,hp⟩
       ·have:=h.cell_lt hp;omega
       ·exact hp
      ·refine .lst τ [] (some d) _ 0 n.toNat (fun _ _=>undef) (Nat.zero_le _) (hmax h0 h1) ?_ (fun i x hx=>by simp at hx) (fun i x hx=>by simp at hx)
       intro id hid
       simp at hid
       subst hid
       exact ⟨0,some Ω.w.heap.size,n.toNat,by simp,Nat.le_refl _,fun _=>rfl⟩
     exact ay (by simp only [execOp,hop,hx1,hy1,Sem.run_bind,r1,Result.andThen_ok,Sem.run_pure];rfl) (hn _ _ hh)
    ·simp only [Xs] at he
     subst he
     obtain ⟨h0,h1,h2⟩:=ho
     obtain ⟨cs,r1,r2,r3⟩:=jV (P:=P) (w:=Ω.w) hd1 i1 i4 h0 h1 (by rw [j3];exact h2) hbpos
     have hmn:m.toNat<=n.toNat:=by omega
     have hmulle:m.toNat *ae τ<=n.toNat *ae τ:=Nat.mul_le_mul_right _ hmn
     have hh:Holds F ⟨bB s.T o.dst (.arr d m.toNat size),bJ s.B [(d,.box (.row τ (List.replicate m.toNat z)))]⟩ (a.put o.dst (.slice (some ⟨Ω.w.heap.size,0,none⟩) m.toNat n.toNat))
       ⟨fun i=>if d=i then some (.box Ω.w.heap.size 0 (m.toNat *ae τ)) else Ω.e i,Ω.w.alloc (.cells cs e),fun b o=>Ω.pub b o∨(b=Ω.w.heap.size/\False)⟩:=by
      refine h.alloc (p:=fun _=>False) (Or.inl (h.dom d hB)) (fun b o hb=>hb.1) (fun hx=>?_) (fun _ hf=>hf.elim) (fun hx=>?_) hd
      ·refine ⟨Ω.w.heap.size,0,by simp [aa,bh],fun q c hc=>?_⟩
       obtain ⟨i2,x2,j,q1,q2,q3,q4⟩:=sL τ _ q c hc
       have hxz:x2=z:=by
        have:=List.mem_of_getElem? q1
        exact (List.mem_replicate.1 this).2
       subst hxz
       have hi2:i2 < m.toNat:=by
        rcases Nat.lt_or_ge i2 m.toNat with k | k
        ·exact k
        ·rw [List.getElem?_eq_none (by simpa using k)] at q1;cases q1
       have hqlt:q < cs.size:=by
        have:(i2+1) *ae τ<=m.toNat *ae τ:=Nat.mul_le_mul_right _ hi2
        rw [Nat.add_mul] at this
        rw [r2,hsz,q3]
        omega
       have hmod:q % ae τ=j:=by rw [q3,Nat.mul_comm,Nat.mul_add_mod,Nat.mod_eq_of_lt q4]
       have hcells:(Ω.w.alloc (.cells cs e)).heap[Ω.w.heap.size]?=some (.cells cs e (0,0)):=bK _ _
       refine ⟨Or.inl h.frame.size,fun hp=>?_,dA hcells _,zv.cells[j]!,?_,?_⟩
       ·rcases hp with hp | ⟨_,hp⟩
        ·have:=h.cell_lt hp;omega
        ·exact hp
       ·rw [ax hcells,Nat.zero_add,r3 q hqlt,hzs,hmod]
       ·have hj:j < zv.cells.toList.length:=by simp [hzs,q4]
        refine V.ext hx (zvl.2 j c _ q2 ?_)
        rw [List.getElem?_eq_getElem hj]
        simp [hzs,q4]
      ·refine .arr d m.toNat size Ω.w.heap.size (m.toNat *ae τ) n.toNat _ (by simp) (Nat.le_of_eq (congrArg (m.toNat * ·) hw.symm)) hmn (hmax (by omega) h2) (.inl rfl)
     exact ay (by simp only [execOp,hop,hx1,hy1,Sem.run_bind,r1,Result.andThen_ok,Sem.run_pure]) (hn _ _ hh)
   ·cases he
  ·cases he
 ·cases he
theorem gM {w:World}:∀(xs:List Int) (b:List UInt8),xs.foldl (fun (r:ByteArray) n=>r.push (UInt8.ofNat n.toNat)) ⟨b.toArray⟩=⟨(b++hU xs).toArray⟩
 | [],b=>by simp [hU]
 | n ::r,b=>by
  rw [List.foldl_cons]
  have e:(⟨b.toArray⟩:ByteArray).push (UInt8.ofNat n.toNat)=⟨(b++[UInt8.ofNat n.toNat]).toArray⟩:=by simp [ByteArray.push]
  rw [e,gM (w:=w) r]
  simp [hU]
theorem Holds.row {F:Fr} {s:AS} {a:Act} {Ω:Om} {w':World} {p:Nat→Prop} {dst:Option Nat} {val:AV} {v:Value}
  (h:Holds F s a Ω) (os:w'.os=Ω.w.os) (tape:w'.tape=Ω.w.tape) (output:w'.output=Ω.w.output) (size:Ω.w.heap.size<=w'.heap.size) (old:∀b,b < Ω.w.heap.size→w'.heap[b]?=Ω.w.heap[b]?)
  (hcell:∀o,p o→∃v,w'.cell? ⟨Ω.w.heap.size,o,none⟩=some v)
  (hv:Ext Ω ⟨Ω.e,w',fun b o=>Ω.pub b o∨(b=Ω.w.heap.size/\p o)⟩→V ⟨Ω.e,w',fun b o=>Ω.pub b o∨(b=Ω.w.heap.size/\p o)⟩ val v) (hd:∀d,dst=some d→d < F.n) :
  Holds F ⟨bB s.T dst val,s.B⟩ (a.put dst v) ⟨Ω.e,w',fun b o=>Ω.pub b o∨(b=Ω.w.heap.size/\p o)⟩:=by
 have hx:Ext Ω ⟨Ω.e,w',fun b o=>Ω.pub b o∨(b=Ω.w.heap.size/\p o)⟩:=⟨fun _ c hc=>⟨c,hc,CLe.refl c⟩,fun _ _ p=>.inl p,fun b o hp=>ak (old b (h.cell_lt hp)) o⟩
 refine h.step hx (hv hx) hd (fun id o ho=>(h.slots id o ho).keep hx rfl (fun c hc=>kH.of_blocks fun b o hb=>?_)) h.dom h.inj (fun b o hp=>?_) ?_
 ·have hlt:=h.blk hc hb
  exact ⟨old b hlt,fun o ho=>ho.resolve_right (fun e=>by omega)⟩
 ·rcases hp with hp | ⟨rfl,hp⟩
  ·obtain ⟨v,hv⟩:=h.pubok b o hp
   exact ⟨v,by rw [ak (old b (h.cell_lt hp)),hv]⟩
  ·exact hcell o hp
 ·have hsz:=h.frame.size
  refine ⟨os.trans h.frame.os,tape.trans h.frame.tape,output.trans h.frame.output,Nat.le_trans hsz size,fun b hb hnb=>(old b (by omega)).trans (h.frame.block b hb hnb),fun b o hb hnb=>(ak (old b (by omega)) o).trans (h.frame.cell b o hb hnb),fun b hb=>?_,fun b o hp=>?_,fun b o hp=>Or.inl (h.frame.old b o hp),fun b o hp=>(hx.cell b o (h.frame.old b o hp)).trans (h.frame.pcell b o hp)⟩
  ·intro hnb
   obtain ⟨k1,k2⟩:=h.frame.kind b hb hnb
   exact ⟨(b7 (old b (by omega))).trans k1,fun o=>(aO (old b (by omega)) o).trans (k2 o)⟩
  ·rcases hp with hp | ⟨rfl,hp⟩
   ·exact h.frame.pub b o hp
   ·exact Or.inr (Or.inl h.frame.size)
theorem v8 (hT:aK P C.tbl) {t t':Nat} {x:Operand} (hop:o.op=.convert t t' x):bS P C o:=by
 intro F s a Ω eff next Q h hd he ho hn
 simp only [ar,hop] at he
 have hx:=aZ h x
 split at he
 ·rename_i r k sz by' z ty k' n h1 h2 hn'
  rw [hn'] at hx
  simp only [Xs] at he
  subst he
  obtain ⟨d,hd1,hd2⟩:=aB hT h2 rfl
  cases d <;> simp [aE] at hd2
  subst hd2
  obtain ⟨d',hd3,hd4⟩:=(hT _ _ h1).desc
  obtain ⟨h3,h4⟩:=ho
  refine ay (v:=.int k n) ?_ (hn _ _ (h.pure (.int k _ h3 h4) hd))
  simp [execOp,hop,hx.int_inv.1,convert,aA hd1,aA hd3,Conv.intToInt,gl k _ h3 h4]
 ·rename_i r sz by' z ty s' h1 h2 hn'
  rw [hn'] at hx
  simp only [Xs] at he
  subst he
  obtain ⟨d,hd1,hd2⟩:=aB hT h2 rfl
  cases d <;> simp [aE] at hd2
  obtain ⟨d',hd3,hd4⟩:=(hT _ _ h1).desc
  refine ay ?_ (hn _ _ (h.pure hx hd))
  simp [execOp,hop,hx.str_inv.1,convert,aA hd1,aA hd3]
 ·unfold Cy at he
  split at he
  ·rename_i e sz1 by1 z1 ty1 sz2 by2 z2 ty2 xs o' h1 h2 hn'
   rw [hn'] at hx
   split at he
   ·rename_i sz3 by3 z3 h3
    simp only [Xs] at he
    subst he
    obtain ⟨d,hd1,hd2⟩:=aB hT h1 rfl
    cases d <;> simp [aE] at hd2
    subst hd2
    obtain ⟨d',hd3,hd4⟩:=aB hT h2 rfl
    cases d' <;> simp [aE] at hd4
    obtain ⟨d2,hd5,hd6⟩:=aB hT h3 rfl
    cases d2 <;> simp [aE] at hd6
    subst hd6
    have hlen:xs.length<=bn:=by
     rcases hx.lst_inv with ⟨h1,hv,_⟩ | ⟨h1,_,a0,hv⟩ | ⟨b,off,cap,vals,hv,h1,h2,h3,h4,h5⟩
     ·rw [h1];exact Nat.zero_le _
     ·rw [h1];exact Nat.zero_le _
     ·omega
    have hval:V Ω (.str (hU xs)) (.string ⟨(hU xs).toArray⟩):=.str _ (by simpa [hU] using hlen)
    refine ay (v:=.string ⟨(hU xs).toArray⟩) ?_ (hn _ _ (h.pure hval hd))
    rcases hx.src with ⟨hxv,hx0⟩ | ⟨ya,yc,us,hxv,hxl,hxvl,hxc,hx1⟩
    ·simp only [execOp,hop,hxv,Sem.run_bind,run_convert_bytes_string Ω.w t t' e _ _ _ hd1 hd5 hd3]
     rw [hx0]
     simp [Conv.bytesToString,hU,Sem.run_pure]
     rfl
    ·have hus:us=xs.map (Value.int .u8):=by
      have e1:aX (.int .u8) xs=xs.map (AV.int .u8):=by
       unfold aX
       rw [List.map_eq_flatMap]
       rfl
      rw [e1] at hxvl
      obtain ⟨l1,l2⟩:=hxvl
      refine List.ext_getElem? fun j=>?_
      rcases Nat.lt_or_ge j xs.length with hj | hj
      ·have hj':j < us.length:=by rw [←l1];simpa using hj
       have:=l2 j (.int .u8 xs[j]) us[j] (by simp [hj]) (by simp [hj'])
       rw [List.getElem?_eq_getElem hj',this.int_inv.1]
       simp [hj]
      ·rw [List.getElem?_eq_none (by rw [←l1];simpa using hj),List.getElem?_eq_none (by simpa using hj)]
     have hld:(loadCells ya xs.length).run P Ω.w=.ok (xs.map (Value.int .u8)).toArray Ω.w:=by
      have:=run_loadCells_list (P:=P) Ω.w ya us hxc
      rw [hus] at this
      simpa using this
     have hr:=run_bytesToString (P:=P) Ω.w ya xs.length yc xs hld
     have e0:=gM (w:=Ω.w) xs []
     simp only [List.nil_append] at e0
     have e2:(ByteArray.empty:ByteArray)=⟨([]:List UInt8).toArray⟩:=rfl
     rw [e2,e0] at hr
     simp only [execOp,hop,hxv,Sem.run_bind,run_convert_bytes_string Ω.w t t' e _ _ _ hd1 hd5 hd3,hr,Result.andThen_ok,Sem.run_pure]
   ·cases he
  ·rename_i sz1 by1 z1 ty1 e sz2 by2 z2 ty2 s' h1 h2 hn'
   rw [hn'] at hx
   split at he
   ·rename_i sz3 by3 z3 h3
    simp only [Xs] at he
    subst he
    obtain ⟨d,hd1,hd2⟩:=aB hT h1 rfl
    cases d <;> simp [aE] at hd2
    obtain ⟨d',hd3,hd4⟩:=aB hT h2 rfl
    cases d' <;> simp [aE] at hd4
    subst hd4
    obtain ⟨d2,hd5,hd6⟩:=aB hT h3 rfl
    cases d2 <;> simp [aE] at hd6
    subst hd6
    obtain ⟨hxv,hlen⟩:=hx.str_inv
    have hr:=Lib.run_convert_string_bytes (P:=P) Ω.w t t' e ⟨s'.toArray⟩ hd1 hd3 hd5
    have hcap:=fg Ω.w (⟨s'.toArray⟩:ByteArray).size 0 e (by simpa [ByteArray.size] using hlen)
    have hsz:(⟨s'.toArray⟩:ByteArray).size=s'.length:=by simp [ByteArray.size]
    have hcellat:∀j,j < s'.length→(Lib.bytesWorld Ω.w e ⟨s'.toArray⟩).cell? ⟨Ω.w.heap.size,j,none⟩=some (.int .u8 (s'.getD j 0).toNat):=by
     intro j hj
     have:=Lib.bytesWorld_cell Ω.w e ⟨s'.toArray⟩ j (by rw [hsz];exact hj)
     simpa using this
    have hh:=h.row (w':=Lib.bytesWorld Ω.w e ⟨s'.toArray⟩) (p:=fun o=>o < s'.length) (dst:=o.dst) (val:=.lst (.int .u8) (b6 s') none) (v:=.slice (some ⟨Ω.w.heap.size,0,none⟩) s'.length (grownCap Ω.w s'.length 0 e))
     rfl rfl rfl (by rw [Lib.bytesWorld_size];omega) (fun b hb=>Lib.bytesWorld_at_old Ω.w e _ b hb) (fun o ho=>⟨_,hcellat o ho⟩) (fun hx=>by
      have hb1:(b6 s').length=s'.length:=by simp [b6]
      have:=nK (Ω:=⟨Ω.e,Lib.bytesWorld Ω.w e ⟨s'.toArray⟩,fun b o=>Ω.pub b o∨(b=Ω.w.heap.size/\o < s'.length)⟩) (τ:=.int .u8) (xs:=b6 s') (o:=none) (cap:=grownCap Ω.w s'.length 0 e) (vs:=s'.map fun b=>Value.int .u8 b.toNat)
       (Lib.bytesWorld_at_new Ω.w e ⟨s'.toArray⟩)
       (by
        have e1:(b6 s').length *ae (.int .u8)=s'.length:=by rw [hb1];exact Nat.mul_one _
        rw [e1]
        unfold Lib.bytesCells
        simp)
       (wR _ s') (by rw [hb1];rw [hsz] at hcap;exact hcap.1) (by rw [hsz] at hcap;exact hcap.2) (fun i hi=>Or.inr ⟨rfl,by rw [hb1] at hi;simpa [ae] using hi⟩) (fun id hid=>by cases hid)
      rw [hb1] at this
      exact this) hd
    refine ay (v:=.slice (some ⟨Ω.w.heap.size,0,none⟩) s'.length (grownCap Ω.w s'.length 0 e)) (w':=Lib.bytesWorld Ω.w e ⟨s'.toArray⟩) ?_ (hn _ _ hh)
    rw [hsz] at hr
    simp only [execOp,hop,hxv,Sem.run_bind,hr,Result.andThen_ok,Sem.run_pure]
   ·cases he
  ·cases he
end
end Go.AL
end
noncomputable section
namespace Go.AL
variable [Tabs]
section
variable {fp:Nat→Nat→Option (Nat × Nat)} {fi ft:Nat→Option Nat}
theorem ir:∀{cs ds:List AV},mapVs fp fi ft cs=some ds→cs.length=ds.length/\∀(j:Nat) (c d:AV),cs[j]?=some c→ds[j]?=some d→mapV fp fi ft c=some d
 | [],ds,h=>by simp [mapVs] at h;subst h;exact ⟨rfl,fun j c d hc=>by simp at hc⟩
 | a ::r,ds,h=>by
  simp only [mapVs] at h
  split at h
  ·rename_i a' r' ha hr
   simp at h
   subst h
   obtain ⟨h1,h2⟩:=ir hr
   refine ⟨by simp [h1],fun j c d hc hd=>?_⟩
   cases j with
   | zero=>simp at hc hd;subst hc hd;exact ha
   | succ j=>exact h2 j c d (by simpa using hc) (by simpa using hd)
  ·cases h
theorem fT (τ:Ty) (x:den τ):∀c∈cells τ x,mapV fp fi ft c=some c:=by
 cases τ with
 | st n=>cases n <;> simp [cells,cJ,fA,dI,ek,eo,ep,cw,ew,gz,fB,fC,fD,gA,gB,fM,fE,ju,ez,gC,fq,gD,gE,fF,dC,fG,eA,gF,mapV]
 | _=>simp [cells,mapV]
theorem xP (τ:Ty) (xs:List (den τ)):∀c∈aX τ xs,mapV fp fi ft c=some c:=by
 intro c hc
 simp only [aX,List.mem_flatMap] at hc
 obtain ⟨x,_,hx⟩:=hc
 exact fT τ x c hx
theorem fU {c c':AV} (h:mapV fp fi ft c=some c'):(aa c).length=(aa c').length/\
  ∀(j:Nat) (a b:AV),(aa c)[j]?=some a→(aa c')[j]?=some b→mapV fp fi ft a=some b:=by
 have one:∀{a b:AV},aa a=[a]→aa b=[b]→mapV fp fi ft a=some b→(aa a).length=(aa b).length/\
   ∀(j:Nat) (x y:AV),(aa a)[j]?=some x→(aa b)[j]?=some y→mapV fp fi ft x=some y:=by
  intro a b ha hb h
  rw [ha,hb]
  refine ⟨rfl,fun j x y hx hy=>?_⟩
  cases j with
  | zero=>simp at hx hy;subst hx hy;exact h
  | succ j=>simp at hx
 cases c with
 | agg cs=>
  simp only [mapV] at h
  split at h
  ·rename_i ds hds
   simp at h
   subst h
   exact ir hds
  ·cases h
 | st n x=>
  simp only [mapV,Xs] at h
  subst h
  exact ⟨rfl,fun j a b ha hb=>by rw [ha] at hb;simp at hb;subst hb;exact fT (.st n) x a (List.mem_of_getElem? ha)⟩
 | row τ xs=>
  simp only [mapV,Xs] at h
  subst h
  exact ⟨rfl,fun j a b ha hb=>by rw [ha] at hb;simp at hb;subst hb;exact xP τ xs a (List.mem_of_getElem? ha)⟩
 | ptr i o=>
  have h0:=h
  simp only [mapV] at h
  split at h
  ·simp at h;subst h;exact one rfl rfl h0
  ·cases h
 | lst τ xs o=>
  have h0:=h
  simp only [mapV] at h
  split at h
  ·simp at h;subst h;exact one rfl rfl h0
  ·simp at h;subst h;exact one rfl rfl h0
 | cptr c=>
  have h0:=h
  simp only [mapV] at h
  split at h
  ·simp at h;subst h;exact one rfl rfl h0
  ·cases h
 | tup cs=>
  have h0:=h
  simp only [mapV] at h
  split at h
  ·simp at h;subst h;exact one rfl rfl h0
  ·cases h
 | fn f cs=>
  have h0:=h
  simp only [mapV] at h
  split at h
  ·simp at h;subst h;exact one rfl rfl h0
  ·cases h
 | arr i n w=>
  have h0:=h
  simp only [mapV] at h
  split at h
  ·simp at h;subst h;exact one rfl rfl h0
  ·cases h
 | aptr i n w o=>
  have h0:=h
  simp only [mapV] at h
  split at h
  ·simp at h;subst h;exact one rfl rfl h0
  ·cases h
 | map i=>
  have h0:=h
  simp only [mapV] at h
  split at h
  ·simp at h;subst h;exact one rfl rfl h0
  ·cases h
 | bptr i=>
  have h0:=h
  simp only [mapV] at h
  split at h
  ·simp at h;subst h;exact one rfl rfl h0
  ·cases h
 | iface t a=>
  have h0:=h
  simp only [mapV] at h
  split at h
  ·simp at h;subst h;exact one rfl rfl h0
  ·cases h
 | lstp τ xs k=>simp [mapV] at h
 | tptr τ n k=>simp [mapV] at h
 | _=>simp only [mapV,Xs] at h;subst h;exact one rfl rfl (by simp [mapV])
structure Names (fp:Nat→Nat→Option (Nat × Nat)) (fi ft:Nat→Option Nat) (e e':Nat→Option CObj):Prop where
 p:∀i o i' o',fp i o=some (i',o')→∀b p l,e i=some (.box b p l)→∃p' l',e' i'=some (.box b p' l')/\p+o=p'+o'
 i:∀i i',fi i=some i'→∀c,e i=some c→e' i'=some c
 t:∀i i',ft i=some i'→∀c,e i=some c→e' i'=some c
theorem V.mapV {Ω:Om} {e':Nat→Option CObj} (hn:Names fp fi ft Ω.e e') {a:AV} {v:Value} (h:V Ω a v):∀{a':AV},AL.mapV fp fi ft a=some a'→V ⟨e',Ω.w,Ω.pub⟩ a' v:=by
 have tok:∀{o:Option Nat} {n:Nat} {v:Value},eX Ω o n v→eX ⟨e',Ω.w,Ω.pub⟩ (o.bind ft) n v:=by
  intro o n v ht id hid
  cases o with
  | none=>simp at hid
  | some k=>
   obtain ⟨m,base,cap,h1,h2,h3⟩:=ht k rfl
   exact ⟨m,base,cap,hn.t k id hid _ h1,h2,h3⟩
 have many:∀{cs ds:List AV} {vs:List Value},cs.length=vs.length→(∀(j:Nat) (c:AV) (v:Value),cs[j]?=some c→vs[j]?=some v→∀{a':AV},AL.mapV fp fi ft c=some a'→V ⟨e',Ω.w,Ω.pub⟩ a' v)→
   mapVs fp fi ft cs=some ds→ds.length=vs.length/\∀(j:Nat) (c:AV) (v:Value),ds[j]?=some c→vs[j]?=some v→V ⟨e',Ω.w,Ω.pub⟩ c v:=by
  intro cs ds vs hl ih hm
  obtain ⟨m1,m2⟩:=ir hm
  refine ⟨by omega,fun j d v hd hv=>?_⟩
  have hj:j < cs.length:=by
   rw [m1]
   rcases Nat.lt_or_ge j ds.length with k | k
   ·exact k
   ·rw [List.getElem?_eq_none k] at hd;cases hd
  exact ih j _ v (List.getElem?_eq_getElem hj) hv (m2 j _ d (List.getElem?_eq_getElem hj) hd)
 induction h with
 | undef v=>intro a' h;simp [AL.mapV] at h;subst h;exact .undef v
 | int k n h1 h2=>intro a' h;simp [AL.mapV] at h;subst h;exact .int k n h1 h2
 | bool b=>intro a' h;simp [AL.mapV] at h;subst h;exact .bool b
 | str s h1=>intro a' h;simp [AL.mapV] at h;subst h;exact .str s h1
 | lstNil τ o ht=>
  intro a' h
  cases o with
  | none=>simp [AL.mapV] at h;subst h;exact .lstNil τ none (fun id hid=>by simp at hid)
  | some k=>simp [AL.mapV] at h;subst h;exact .lstNil τ _ (tok ht)
 | lstVoid τ a=>intro a' h;simp [AL.mapV] at h;subst h;exact .lstVoid τ a
 | lst τ xs o b off cap vals h1 h2 h3 h4 h5 ih=>
  intro a' h
  have hc:∀(i:Nat) (x:den τ),xs[i]?=some x→∀(j:Nat) (c:AV),(cells τ x)[j]?=some c→V ⟨e',Ω.w,Ω.pub⟩ c (vals i j):=
   fun i x hx j c hcj=>ih i x hx j c hcj (fT τ x c (List.mem_of_getElem? hcj))
  cases o with
  | none=>simp [AL.mapV] at h;subst h;exact .lst τ xs none b off cap vals h1 h2 (fun id hid=>by simp at hid) h4 hc
  | some k=>simp [AL.mapV] at h;subst h;exact .lst τ xs _ b off cap vals h1 h2 (tok h3) h4 hc
 | nils=>intro a' h;simp [AL.mapV] at h;subst h;exact .nils
 | ptr id off b o len he=>
  intro a' h
  simp only [AL.mapV] at h
  split at h
  ·rename_i j p hj
   simp at h
   subst h
   obtain ⟨p',l',q1,q2⟩:=hn.p _ _ _ _ hj _ _ _ he
   rw [q2]
   exact .ptr j p b p' l' q1
  ·cases h
 | cptr c b off vals h1 h2 ih=>
  intro a' h
  simp only [AL.mapV] at h
  split at h
  ·rename_i d hd
   simp at h
   subst h
   obtain ⟨m1,m2⟩:=fU hd
   have hj:∀(j:Nat) (d':AV),(aa d)[j]?=some d'→∃c',(aa c)[j]?=some c':=by
    intro j d' hd'
    have:j < (aa c).length:=by
     rw [m1]
     rcases Nat.lt_or_ge j (aa d).length with k | k
     ·exact k
     ·rw [List.getElem?_eq_none k] at hd';cases hd'
    exact ⟨_,List.getElem?_eq_getElem this⟩
   refine .cptr d b off vals (fun j d' hd'=>?_) (fun j d' hd'=>?_)
   ·obtain ⟨c',hc'⟩:=hj j d' hd'
    exact h1 j c' hc'
   ·obtain ⟨c',hc'⟩:=hj j d' hd'
    exact ih j c' hc' (m2 j c' d' hc' hd')
  ·cases h
 | nilp=>intro a' h;simp [AL.mapV] at h;subst h;exact .nilp
 | ptNone n=>intro a' h;simp [AL.mapV] at h;subst h;exact .ptNone n
 | ptSome n x v _ ih=>intro a' h;simp [AL.mapV] at h;subst h;exact .ptSome n x v (ih (by simp [AL.mapV]))
 | arr id n w b len cap a he h1 h2 h3 h4=>
  intro a' h
  simp only [AL.mapV] at h
  split at h
  ·rename_i j hj
   simp at h
   subst h
   exact .arr j n w b len cap a (hn.i _ _ hj _ he) h1 h2 h3 h4
  ·cases h
 | aptr id i w off b o len he=>
  intro a' h
  simp only [AL.mapV] at h
  split at h
  ·rename_i j hj
   simp at h
   subst h
   exact .aptr j i w off b o len (hn.i _ _ hj _ he)
  ·cases h
 | map id r he=>
  intro a' h
  simp only [AL.mapV] at h
  split at h
  ·rename_i j hj
   simp at h
   subst h
   exact .map j r (hn.i _ _ hj _ he)
  ·cases h
 | bptr id b g he=>
  intro a' h
  simp only [AL.mapV] at h
  split at h
  ·rename_i j hj
   simp at h
   subst h
   exact .bptr j b g (hn.i _ _ hj _ he)
  ·cases h
 | lstp τ xs k b off cap vals h1 h2 h3 h4 h5 _=>intro a' h;simp [AL.mapV] at h
 | tptr τ n k p hp=>intro a' h;simp [AL.mapV] at h
 | iface t a v _ ih=>
  intro a' h
  simp only [AL.mapV] at h
  split at h
  ·rename_i d hd
   simp at h
   subst h
   exact .iface t d v (ih hd)
  ·cases h
 | nilif=>intro a' h;simp [AL.mapV] at h;subst h;exact .nilif
 | nilm=>intro a' h;simp [AL.mapV] at h;subst h;exact .nilm
 | st n x v _ ih=>
  intro a' h
  simp only [AL.mapV,Xs] at h
  subst h
  refine .st n x v (ih ?_)
  have:∀cs:List AV,(∀c∈cs,AL.mapV fp fi ft c=some c)→mapVs fp fi ft cs=some cs:=by
   intro cs
   induction cs with
   | nil=>intro _;rfl
   | cons c r ih=>intro hc;simp only [mapVs,hc c (by simp),ih (fun d hd=>hc d (by simp [hd]))]
  simp only [AL.mapV,this _ (fT (.st n) x)]
 | agg cs vs hl _ ih=>
  intro a' h
  simp only [AL.mapV] at h
  split at h
  ·rename_i ds hds
   simp at h
   subst h
   obtain ⟨q1,q2⟩:=many hl ih hds
   exact .agg ds vs q1 q2
  ·cases h
 | tup cs vs hl _ ih=>
  intro a' h
  simp only [AL.mapV] at h
  split at h
  ·rename_i ds hds
   simp at h
   subst h
   obtain ⟨q1,q2⟩:=many hl ih hds
   exact .tup ds vs q1 q2
  ·cases h
 | fn f cs vs hl _ ih=>
  intro a' h
  simp only [AL.mapV] at h
  split at h
  ·rename_i ds hds
   simp at h
   subst h
   obtain ⟨q1,q2⟩:=many hl ih hds
   exact .fn f ds vs q1 q2
  ·cases h
theorem VL.mapVs {Ω:Om} {e':Nat→Option CObj} (hn:Names fp fi ft Ω.e e') {cs ds:List AV} {vs:List Value} (h:VL Ω cs vs) (hm:AL.mapVs fp fi ft cs=some ds):VL ⟨e',Ω.w,Ω.pub⟩ ds vs:=by
 obtain ⟨m1,m2⟩:=ir hm
 refine ⟨by rw [←m1,h.1],fun j d v hd hv=>?_⟩
 have hj:j < cs.length:=by
  rw [m1]
  rcases Nat.lt_or_ge j ds.length with k | k
  ·exact k
  ·rw [List.getElem?_eq_none k] at hd;cases hd
 exact (h.2 j _ v (List.getElem?_eq_getElem hj) hv).mapV hn (m2 j _ d (List.getElem?_eq_getElem hj) hd)
end
theorem V.data {Ω:Om} {e':Nat→Option CObj} {τ:Ty} {x:den τ} {v:Value} (h:V Ω (inj τ x) v):V ⟨e',Ω.w,Ω.pub⟩ (inj τ x) v:=by
 have hn:Names (fun _ _=>none) (fun _=>none) (fun _=>none) Ω.e e':=⟨fun _ _ _ _ h=>by simp at h,fun _ _ h=>by simp at h,fun _ _ h=>by simp at h⟩
 refine h.mapV hn ?_
 cases τ <;> simp [inj,AL.mapV]
theorem MapOK.data {Ω:Om} {e':Nat→Option CObj} {κ τ:Ty} {m:List (den κ × den τ)} {es:Array MapEntry} {clock:Nat} (h:MapOK Ω κ τ m es clock):MapOK ⟨e',Ω.w,Ω.pub⟩ κ τ m es clock:=
 ⟨h.size,fun i e x he hx=>⟨(h.ent i e x he hx).1.data,(h.ent i e x he hx).2.data⟩,h.keys,h.born,h.rise⟩
def j0 (w:World) (pub:Nat→Nat→Prop):Prop:=∀b o,pub b o→∃v,w.cell? ⟨b,o,none⟩=some v
def Inj (e:Nat→Option CObj):Prop:=∀i j c d b o,e i=some c→e j=some d→occ c b o→occ d b o→i=j
structure After (w:World) (pub:Nat→Nat→Prop) (e:Nat→Option CObj) (B:Nat→Option SObj) (w':World) (pub':Nat→Nat→Prop) (e':Nat→Option CObj):Prop where
 os:w'.os=w.os
 tape:w'.tape=w.tape
 output:w'.output=w.output
 size:w.heap.size<=w'.heap.size
 block:∀b,b < w.heap.size→(∀o,¬jO e b o)→w'.heap[b]?=w.heap[b]?
 cell:∀b o,b < w.heap.size→¬jO e b o→w'.cell? ⟨b,o,none⟩=w.cell? ⟨b,o,none⟩
 kind:∀b,b < w.heap.size→¬(∀o,jO e b o)→w'.shape? b=w.shape? b/\∀o,w'.frozen? ⟨b,o,none⟩=w.frozen? ⟨b,o,none⟩
 ext:Ext ⟨e,w,pub⟩ ⟨e',w',pub'⟩
 fresh:∀b o,pub' b o→pub b o∨w.heap.size<=b∨jO e b o
 ok:j0 w' pub'
 slots:∀id o,B id=some o→b9 ⟨e',w',pub'⟩ (fun b o=>w.heap.size<=b∨jO e b o) id o
 dom:∀id,B id=none→e' id=none
 inj:Inj e'
def ao (P:Program) (f:Nat) (args:List AV) (S:List (Nat × SObj)) (A:Ans):Prop:=
 ∀w pub e vs,j0 w pub→fQ w pub e→VL ⟨e,w,pub⟩ args vs→(∀id o,aj S id=some o→b9 ⟨e,w,pub⟩ (fun _ _=>True) id o)→(∀id,aj S id=none→e id=none)→Inj e→
  Calls P f vs.toArray w fun en w'=>∃pub' e',match en with
   | .returned v=>(∀b pv u,A.pan=some (b,pv,u)→b=false)/\V ⟨e',w',pub'⟩ A.val v/\After w pub e (aj (bR S A.upd)) w' pub' e'
   | .panicked ch=>∃pv u v,A.pan=some (true,pv,u)/\ch=[{v,recovered:=false}]/\V ⟨e',w',pub'⟩ pv v/\After w pub e (aj (bR S u)) w' pub' e'
   | .outgrown=>False
def aq (P:Program) (f:Nat):Prop:=∃fn,P.funcs[f]?=some fn/\fn.body.isNone=false/\(fn.name == "runtime.NumGoroutine")=false
def bu (P:Program) (spec:Nat→List AV→List (Nat × SObj)→Option Ans):Prop:=
 ∀f args S A,spec f args S=some A→(∀q,A.ob=some q→q)→(aD S).all bc=true→aq P f/\ao P f args S A
end Go.AL
end
noncomputable section
namespace Go.AL
variable [Tabs]
theorem sM:∀(L:List cE) (i j k:Nat) (r:Option (Nat × Nat)),idx L i j=some (k,r)→j<=k/\nth L (k - j)=some (i,r)
 | [],i,j,k,r,h=>by simp [idx] at h
 | (m,q) ::l,i,j,k,r,h=>by
  simp only [idx] at h
  by_cases hm:m=i
  ·subst hm
   simp at h
   obtain ⟨rfl,rfl⟩:=h
   simp [nth]
  ·simp only [beq_iff_eq,hm,if_false] at h
   obtain ⟨h1,h2⟩:=sM l i (j+1) k r h
   refine ⟨by omega,?_⟩
   rw [show k - j=(k - (j+1))+1 by omega]
   exact h2
theorem rr {α:Type}:∀(l:List α) (k:Nat) (x:α),nth l k=some x→x∈l
 | [],k,x,h=>by simp [nth] at h
 | a ::l,0,x,h=>by simp [nth] at h;simp [h]
 | a ::l,k+1,x,h=>List.mem_cons_of_mem _ (rr l k x h)
theorem jE:∀(L:List cE) (i j k:Nat) (r:Option (Nat × Nat)),aU (L.map (·.1))=true→nth L k=some (i,r)→idx L i j=some (j+k,r)
 | [],i,j,k,r,_,h=>by simp [nth] at h
 | (m,q) ::l,i,j,0,r,_,h=>by simp [nth] at h;obtain ⟨rfl,rfl⟩:=h;simp [idx]
 | (m,q) ::l,i,j,k+1,r,hd,h=>by
  simp only [List.map_cons,aU,Bool.and_eq_true,Bool.not_eq_true'] at hd
  have hm:(i,r)∈l:=rr l k _ h
  have hne:¬m=i:=by
   intro e
   subst e
   have:m∈l.map (·.1):=List.mem_map.2 ⟨(m,r),hm,rfl⟩
   have h1:=hd.1
   rw [List.contains_eq_mem] at h1
   simp only [decide_eq_false_iff_not] at h1
   exact h1 this
  simp only [idx,beq_iff_eq,hne,if_false]
  rw [jE l i (j+1) k r hd.2 h]
  congr 2
  omega
theorem dM {L:List cE} {k:Nat} {x:cE} (h:aY L k=some x):900<=k/\nth L (k - 900)=some x:=by
 unfold aY at h
 split at h
 ·rename_i hk;exact ⟨by simpa using hk,h⟩
 ·cases h
theorem bZ {L:List cE} {i k:Nat} {r:Option (Nat × Nat)} (h:idx L i 900=some (k,r)):aY L k=some (i,r):=by
 obtain ⟨h1,h2⟩:=sM L i 900 k r h
 unfold aY
 split
 ·exact h2
 ·rename_i hk
  simp at hk
  omega
theorem cC {L:List cE} (hd:aU (L.map (·.1))=true) {i k:Nat} {r:Option (Nat × Nat)} (h:aY L k=some (i,r)):idx L i 900=some (k,r):=by
 obtain ⟨h1,h2⟩:=dM h
 have:=jE L i 900 _ r hd h2
 rwa [show 900+(k - 900)=k by omega] at this
def cq (L:List cE) (e:Nat→Option CObj) (k:Nat):Option CObj:=
 match aY L k with
 | some (i,none)=>e i
 | some (i,some (off,len))=>(match e i with | some (.box b o _)=>some (.box b (o+off) len) | _=>none)
 | none=>none
theorem j6 (L:List cE) (e:Nat→Option CObj):Names (toP L) (toI L) (toI L) e (cq L e):=by
 have hi:∀i i',toI L i=some i'→∀c,e i=some c→cq L e i'=some c:=by
  intro i i' h c hc
  unfold toI at h
  split at h
  ·rename_i k hk
   simp at h
   subst h
   simp only [cq,bZ hk,hc]
  ·cases h
 refine ⟨fun i o i' o' h b p l he=>?_,hi,hi⟩
 unfold toP at h
 split at h
 ·rename_i k hk
  simp at h
  obtain ⟨rfl,rfl⟩:=h
  exact ⟨p,l,by simp only [cq,bZ hk,he],rfl⟩
 ·rename_i k off len hk
  split at h
  ·rename_i hb
   simp at h hb
   obtain ⟨rfl,rfl⟩:=h
   exact ⟨p+off,len,by simp only [cq,bZ hk,he],by omega⟩
  ·cases h
 ·cases h
theorem fJ {look:Nat→Option SObj} {L:List cE}:∀(l:List cE) (j:Nat) (S:List (Nat × SObj)),kF look L l j=some S→
  (∀id o',aj S id=some o'→∃q i r o,id=j+q/\nth l q=some (i,r)/\look i=some o/\dR L r o=some o')/\
  (∀q i r,nth l q=some (i,r)→∃o o',look i=some o/\dR L r o=some o'/\aj S (j+q)=some o')/\(∀x∈S,j<=x.1/\x.1 < j+l.length)
 | [],j,S,h=>by simp [kF] at h;subst h;exact ⟨fun id o' h=>by simp [aH,aF] at h,fun q i r h=>by simp [nth] at h,fun x hx=>by simp at hx⟩
 | (i,r) ::l,j,S,h=>by
  simp only [kF] at h
  split at h
  ·rename_i o ho
   split at h
   ·rename_i o' S' h1 h2
    simp at h
    subst h
    obtain ⟨k1,k2,k3⟩:=fJ l (j+1) S' h2
    refine ⟨fun id o2 hb=>?_,fun q i2 r2 hq=>?_,fun x hx=>?_⟩
    ·simp only [aH,aF] at hb
     by_cases hj:j=id
     ·subst hj
      simp at hb
      subst hb
      exact ⟨0,i,r,o,rfl,rfl,ho,h1⟩
     ·simp only [beq_iff_eq,hj,if_false] at hb
      obtain ⟨q,i2,r2,o3,e1,e2,e3,e4⟩:=k1 id o2 hb
      exact ⟨q+1,i2,r2,o3,by omega,e2,e3,e4⟩
    ·cases q with
     | zero=>simp [nth] at hq;obtain ⟨rfl,rfl⟩:=hq;exact ⟨o,o',ho,h1,by simp [aH,aF]⟩
     | succ q=>
      obtain ⟨o3,o4,e1,e2,e3⟩:=k2 q i2 r2 hq
      refine ⟨o3,o4,e1,e2,?_⟩
      have:¬j=j+(q+1):=by omega
      simp only [aH,aF,beq_iff_eq,this,if_false]
      rw [show j+(q+1)=j+1+q by omega]
      exact e3
    ·simp at hx
     rcases hx with rfl | hx
     ·simp
     ·have:=k3 x hx
      simp
      omega
   ·cases h
  ·cases h
theorem nP {c c1:AV} {r:Option (Nat × Nat)} (h:xy c r=some c1):match r with | none=>c1=c | some (off,len)=>sub (aa c) off len=some (aa c1):=by
 have plain:∀{c c1:AV} {off len:Nat},zm c off len=some c1→sub (aa c) off len=some (aa c1):=by
  intro c c1 off len h
  unfold zm at h
  split at h
  ·rename_i cs hcs;simp at h;subst h;exact hcs
  ·cases h
 cases r with
 | none=>simp [xy] at h;exact h.symm
 | some x=>
  obtain ⟨off,len⟩:=x
  cases c with
  | st n x=>
   simp only [xy] at h
   split at h
   ·rename_i m y hs
    split at h
    ·rename_i hw
     simp at h
     subst h
     have:=iU hs
     rw [hw] at this
     exact this
    ·exact plain h
   ·exact plain h
  | _=>exact plain (by simpa only [xy] using h)
theorem b9.own_of {Ω:Om} {own own':Nat→Nat→Prop} {id:Nat} {o:SObj} (h:b9 Ω own id o) (hc:∀c b o,Ω.e id=some c→occ c b o→own' b o):b9 Ω own' id o:=by
 cases o with
 | box c=>
  obtain ⟨b,off,e1,e2⟩:=h
  refine ⟨b,off,e1,fun j c' hj=>?_⟩
  obtain ⟨_,k⟩:=e2 j c' hj
  have hl:j < (aa c).length:=by
   rcases Nat.lt_or_ge j (aa c).length with k | k
   ·exact k
   ·rw [List.getElem?_eq_none k] at hj;cases hj
  exact ⟨hc _ _ _ e1 ⟨rfl,by omega,by omega⟩,k⟩
 | tail τ n=>
  obtain ⟨base,cap,e1,e2,e3,e4,e5⟩:=h
  exact ⟨base,cap,e1,e2,e3,e4,fun b hb=>⟨fun o=>hc _ _ _ e1 hb,(e5 b hb).2⟩⟩
 | map κ τ m=>
  obtain ⟨r,e1,_,e3⟩:=h
  exact ⟨r,e1,fun o=>hc _ _ _ e1 rfl,e3⟩
 | bld t u l=>
  obtain ⟨b,g,e1,e2,e3⟩:=h
  exact ⟨b,g,e1,fun b' hb o=>⟨hc _ _ _ e1 hb,(e2 b' hb o).2⟩,e3⟩
 | tailp τ n x=>
  obtain ⟨b,cap,e1,e2,e3,e4,e5⟩:=h
  exact ⟨b,cap,e1,e2,e3,fun o=>hc _ _ _ e1 rfl,e5⟩
theorem b9.owns {Ω:Om} {own:Nat→Nat→Prop} {id:Nat} {ob:SObj} (h:b9 Ω own id ob) {c:CObj} (hc:Ω.e id=some c) {b o:Nat} (ho:occ c b o):own b o:=by
 cases ob with
 | box x=>
  obtain ⟨b',off,e1,e2⟩:=h
  rw [hc] at e1
  simp at e1
  subst e1
  obtain ⟨rfl,h1,h2⟩:=ho
  have hj:o - off < (aa x).length:=by omega
  have:=(e2 (o - off) _ (List.getElem?_eq_getElem hj)).1
  rwa [show off+(o - off)=o by omega] at this
 | tail τ n=>
  obtain ⟨base,cap,e1,e2,e3,e4,e5⟩:=h
  rw [hc] at e1
  simp at e1
  subst e1
  exact (e5 b ho).1 o
 | map κ τ m=>
  obtain ⟨r,e1,e2,_⟩:=h
  rw [hc] at e1
  simp at e1
  subst e1
  have:b=r:=ho
  subst this
  exact e2 o
 | bld t u l=>
  obtain ⟨b',g,e1,e2,_⟩:=h
  rw [hc] at e1
  simp at e1
  subst e1
  exact (e2 b ho o).1
 | tailp τ n x=>
  obtain ⟨b',cap,e1,e2,e3,e4,e5⟩:=h
  rw [hc] at e1
  simp at e1
  subst e1
  have:b'=b:=by simpa [occ] using ho
  subst this
  exact e4 o
theorem Holds.tabs {F:Fr} {s:AS} {a:Act} {Ω:Om} (h:Holds F s a Ω):fQ Ω.w Ω.pub Ω.e:=by
 refine ⟨fun b o v ht=>⟨h.frame.old _ _ (F.tab0.1 b o v ht).1,(h.frame.pcell _ _ (F.tab0.1 b o v ht).1).trans (F.tab0.1 b o v ht).2⟩,fun b x hx=>?_⟩
 obtain ⟨k1,k2⟩:=F.tab0.2 b x hx
 have hlt:b < F.w0.heap.size:=(Array.getElem?_eq_some_iff.1 k1).1
 refine ⟨(h.frame.block b hlt k2).trans k1,fun o ⟨id,c,hc,ho⟩=>?_⟩
 cases hb:s.B id with
 | none=>have:=h.dom id hb;rw [this] at hc;cases hc
 | some ob=>
  rcases (h.slots id ob hb).owns hc ho with q | q
  ·omega
  ·exact k2 o q
theorem Holds.owns {F:Fr} {s:AS} {a:Act} {Ω:Om} (h:Holds F s a Ω) {id:Nat} {c:CObj} (hc:Ω.e id=some c) {b o:Nat} (ho:occ c b o):F.own b o:=by
 cases hB:s.B id with
 | none=>rw [h.dom id hB] at hc;cases hc
 | some ob=>exact (h.slots id ob hB).owns hc ho
theorem sO {Ω:Om} {own:Nat→Nat→Prop} {L:List cE} {k i:Nat} {r:Option (Nat × Nat)} {o o':SObj} (hk:aY L k=some (i,r)) (hs:b9 Ω own i o) (hc:dR L r o=some o') :
  b9 ⟨cq L Ω.e,Ω.w,Ω.pub⟩ (fun _ _=>True) k o':=by
 cases o with
 | box c=>
  simp only [dR] at hc
  split at hc
  ·rename_i c1 h1
   split at hc
   ·rename_i c2 h2
    simp at hc
    subst hc
    obtain ⟨b,off,e1,e2⟩:=hs
    obtain ⟨m1,m2⟩:=fU h2
    have hp:=nP h1
    cases r with
    | none=>
     simp only at hp
     subst hp
     refine ⟨b,off,by simp only [cq,hk,e1,m1],fun j c' hj=>?_⟩
     have hl:j < (aa c1).length:=by
      rw [m1]
      rcases Nat.lt_or_ge j (aa c2).length with k | k
      ·exact k
      ·rw [List.getElem?_eq_none k] at hj;cases hj
     obtain ⟨k1,k2,k3,v,k4,k5⟩:=e2 j _ (List.getElem?_eq_getElem hl)
     exact ⟨trivial,k2,k3,v,k4,k5.mapV (j6 L Ω.e) (m2 j _ c' (List.getElem?_eq_getElem hl) hj)⟩
    | some x=>
     obtain ⟨o2,len⟩:=x
     simp only at hp
     obtain ⟨s1,s2⟩:=fI hp
     have hlen:(aa c1).length=len:=by rw [s2];simp;omega
     refine ⟨b,off+o2,by simp only [cq,hk,e1];rw [←m1,hlen],fun j c' hj=>?_⟩
     have hl:j < (aa c1).length:=by
      rw [m1]
      rcases Nat.lt_or_ge j (aa c2).length with k | k
      ·exact k
      ·rw [List.getElem?_eq_none k] at hj;cases hj
     obtain ⟨x,hx⟩:∃x,(aa c1)[j]?=some x:=⟨_,List.getElem?_eq_getElem hl⟩
     have hcj:(aa c)[o2+j]?=some x:=by
      have:=hx
      rw [s2,List.getElem?_take] at this
      split at this
      ·rw [List.getElem?_drop] at this
       exact this
      ·cases this
     obtain ⟨k1,k2,k3,v,k4,k5⟩:=e2 _ _ hcj
     rw [Nat.add_assoc]
     exact ⟨trivial,k2,k3,v,k4,k5.mapV (j6 L Ω.e) (m2 j _ c' hx hj)⟩
   ·cases hc
  ·cases hc
 | tail τ n=>
  cases r with
  | some _=>simp [dR] at hc
  | none=>
   simp [dR] at hc
   subst hc
   obtain ⟨base,cap,e1,e2,e3,e4,e5⟩:=hs
   exact ⟨base,cap,by simp only [cq,hk,e1],e2,e3,e4,fun b hb=>⟨fun _=>trivial,(e5 b hb).2⟩⟩
 | map κ τ m=>
  cases r with
  | some _=>simp [dR] at hc
  | none=>
   simp [dR] at hc
   subst hc
   obtain ⟨r,e1,e2,es,clock,e3,e4⟩:=hs
   exact ⟨r,by simp only [cq,hk,e1],fun _=>trivial,es,clock,e3,e4.data⟩
 | bld t u l=>
  cases r with
  | some _=>simp [dR] at hc
  | none=>
   simp [dR] at hc
   subst hc
   obtain ⟨b,g,e1,e2,e3⟩:=hs
   exact ⟨b,g,by simp only [cq,hk,e1],fun b' hb o=>⟨trivial,(e2 b' hb o).2⟩,e3⟩
 | tailp _ _ _=>simp [dR] at hc
theorem gN {L:List cE} {Ω:Om} {own:Nat→Nat→Prop} {B:Nat→Option SObj} (hs:∀id o,B id=some o→b9 Ω own id o) (hL:∀q i r,nth L q=some (i,r)→∃o o',B i=some o/\dR L r o=some o')
  {k:Nat} {c:CObj} (h:cq L Ω.e k=some c):∃i r c0,aY L k=some (i,r)/\Ω.e i=some c0/\∀b o,occ c b o→occ c0 b o:=by
 unfold cq at h
 split at h
 ·rename_i i hk
  exact ⟨i,none,c,hk,h,fun _ _ ho=>ho⟩
 ·rename_i i off len hk
  split at h
  ·rename_i b p l he
   simp at h
   subst h
   refine ⟨i,_,_,hk,he,fun b' o ho=>?_⟩
   obtain ⟨h1,h2,h3⟩:=ho
   subst h1
   obtain ⟨_,hn⟩:=dM hk
   obtain ⟨ob,ob',hB,hc⟩:=hL _ _ _ hn
   cases ob with
   | box x=>
    simp only [dR] at hc
    split at hc
    ·rename_i c1 h1
     have hp:=nP h1
     simp only at hp
     obtain ⟨s1,_⟩:=fI hp
     obtain ⟨b2,off2,e1,_⟩:=hs i _ hB
     rw [he] at e1
     simp at e1
     obtain ⟨rfl,rfl,rfl⟩:=e1
     exact ⟨rfl,by omega,by omega⟩
    ·cases hc
   | tail _ _=>simp [dR] at hc
   | map _ _ _=>simp [dR] at hc
   | bld _ _ _=>simp [dR] at hc
   | tailp _ _ _=>simp [dR] at hc
  ·cases h
 ·cases h
theorem Holds.tabsC {F:Fr} {s:AS} {a:Act} {Ω:Om} {L:List cE} (h:Holds F s a Ω) (hL:∀q i r,nth L q=some (i,r)→∃o o',s.B i=some o/\dR L r o=some o'):fQ Ω.w Ω.pub (cq L Ω.e):=
 ⟨h.tabs.1,fun b x hx=>⟨(h.tabs.2 b x hx).1,fun o ⟨k,c,hc,ho⟩=>
  let ⟨i,_,c0,_,q2,q3⟩:=gN h.slots hL hc
  (h.tabs.2 b x hx).2 o ⟨i,c0,q2,q3 b o ho⟩⟩⟩
end Go.AL
end
noncomputable section
namespace Go.AL
variable [Tabs]
theorem sP {n:SN} {off:Nat} {x:SD n} {a d:AV} (h:zl n off x a=some d):splice (cells (.st n) x) off (aa a)=some (aa d):=by
 unfold zl at h
 split at h
 all_goals first
  | (simp only [Xs] at h;subst h;rfl)
  | cases h
theorem vb {b c d:AV} {off len:Nat} (h:BB b (some (off,len)) c=some d):(aa c).length=len/\splice (aa b) off (aa c)=some (aa d):=by
 have plain:∀{b d:AV},BA b off c=some d→splice (aa b) off (aa c)=some (aa d):=by
  intro b d h
  unfold BA at h
  split at h
  ·rename_i cs hcs;simp at h;subst h;exact hcs
  ·cases h
 simp only [BB] at h
 split at h
 ·rename_i hl
  refine ⟨bC _ _ hl,?_⟩
  split at h
  ·split at h
   ·rename_i n x a hs
    simp at h
    subst h
    exact sP hs
   ·exact plain h
  ·exact plain h
 ·cases h
def sQ (d i:Nat):Option Nat:=if 1000<=i/\i % 1000=d then some (i / 1000 - 1) else none
theorem xQ {d k:Nat} (hd:d < 1000):sQ d (nid d k)=some k:=by
 unfold sQ nid
 rw [if_pos ⟨by omega,by omega⟩]
 congr 1
 omega
theorem ly {d i k:Nat} (h:sQ d i=some k):i=nid d k:=by
 unfold sQ at h
 split at h
 ·simp at h
  unfold nid
  omega
 ·cases h
def j7 (L:List cE) (d:Nat) (e e':Nat→Option CObj) (i:Nat):Option CObj:=
 match idx L i 900 with
 | some (k,none)=>e' k
 | some (_,some _)=>e i
 | none=>
  match sQ d i with
  | some k=>(match aY L k with | some _=>e i | none=>(match e' k with | some c=>some c | none=>e i))
  | none=>e i
theorem nQ:∀(u:List (Nat × SObj)) (B:Nat→Option SObj) (id:Nat) (o:SObj),bJ B u id=some o→(id,o)∈u∨(B id=some o/\id∉u.map (·.1))
 | [],B,id,o,h=>Or.inr ⟨h,by simp⟩
 | (j,x) ::u,B,id,o,h=>by
  simp only [bJ] at h
  rcases nQ u _ id o h with k | ⟨k1,k2⟩
  ·exact Or.inl (List.mem_cons_of_mem _ k)
  ·by_cases hj:j=id
   ·subst hj
    simp at k1
    subst k1
    exact Or.inl (List.mem_cons_self ..)
   ·simp only [if_neg hj] at k1
    refine Or.inr ⟨k1,?_⟩
    simp only [List.map_cons,List.mem_cons,not_or]
    exact ⟨fun e=>hj e.symm,k2⟩
theorem q8:∀(u:List (Nat × SObj)) (B:Nat→Option SObj) (id:Nat),bJ B u id=none→B id=none/\id∉u.map (·.1)
 | [],B,id,h=>⟨h,by simp⟩
 | (j,x) ::u,B,id,h=>by
  simp only [bJ] at h
  obtain ⟨k1,k2⟩:=q8 u _ id h
  by_cases hj:j=id
  ·subst hj;simp at k1
  ·simp only [if_neg hj] at k1
   refine ⟨k1,?_⟩
   simp only [List.map_cons,List.mem_cons,not_or]
   exact ⟨fun e=>hj e.symm,k2⟩
theorem lz {look:Nat→Option SObj} {L:List cE} {d:Nat}:∀(u u':List (Nat × SObj)),iI look L d u=some u'→
  (∀id o',(id,o')∈u'→∃k o,(k,o)∈u/\((∃r old,aY L k=some (id,r)/\look id=some old/\fN L d r (some old) o=some o')∨
   (aY L k=none/\id=nid d k/\look id=none/\fN L d none none o=some o')))/\
  (∀k o,(k,o)∈u→(∃i r,aY L k=some (i,r)/\i∈u'.map (·.1))∨(aY L k=none/\look (nid d k)=none/\nid d k∈u'.map (·.1)))
 | [],u',h=>by simp [iI] at h;subst h;exact ⟨fun id o h=>by simp at h,fun k o h=>by simp at h⟩
 | (k,o) ::u,u',h=>by
  simp only [iI] at h
  split at h
  ·rename_i i r hk
   split at h
   ·rename_i old hold
    split at h
    ·rename_i o1 u1 h1 h2
     simp at h
     subst h
     obtain ⟨q1,q2⟩:=lz u u1 h2
     refine ⟨fun id o' hm=>?_,fun k2 o2 hm=>?_⟩
     ·simp at hm
      rcases hm with ⟨rfl,rfl⟩ | hm
      ·exact ⟨k,o,by simp,Or.inl ⟨r,old,hk,hold,h1⟩⟩
      ·obtain ⟨k2,o2,m1,m2⟩:=q1 id o' hm
       exact ⟨k2,o2,List.mem_cons_of_mem _ m1,m2⟩
     ·simp at hm
      rcases hm with ⟨rfl,rfl⟩ | hm
      ·exact Or.inl ⟨i,r,hk,by simp⟩
      ·rcases q2 k2 o2 hm with ⟨i2,r2,m1,m2⟩ | ⟨m1,m2,m3⟩
       ·exact Or.inl ⟨i2,r2,m1,by simp only [List.map_cons];exact List.mem_cons_of_mem _ m2⟩
       ·exact Or.inr ⟨m1,m2,by simp only [List.map_cons];exact List.mem_cons_of_mem _ m3⟩
    ·cases h
   ·cases h
  ·rename_i hk
   split at h
   ·rename_i hn
    split at h
    ·rename_i o1 u1 h1 h2
     simp at h
     subst h
     obtain ⟨q1,q2⟩:=lz u u1 h2
     refine ⟨fun id o' hm=>?_,fun k2 o2 hm=>?_⟩
     ·simp at hm
      rcases hm with ⟨rfl,rfl⟩ | hm
      ·exact ⟨k,o,by simp,Or.inr ⟨hk,rfl,hn,h1⟩⟩
      ·obtain ⟨k2,o2,m1,m2⟩:=q1 id o' hm
       exact ⟨k2,o2,List.mem_cons_of_mem _ m1,m2⟩
     ·simp at hm
      rcases hm with ⟨rfl,rfl⟩ | hm
      ·exact Or.inr ⟨hk,hn,by simp⟩
      ·rcases q2 k2 o2 hm with ⟨i2,r2,m1,m2⟩ | ⟨m1,m2,m3⟩
       ·exact Or.inl ⟨i2,r2,m1,by simp only [List.map_cons];exact List.mem_cons_of_mem _ m2⟩
       ·exact Or.inr ⟨m1,m2,by simp only [List.map_cons];exact List.mem_cons_of_mem _ m3⟩
    ·cases h
   ·cases h
theorem sR (l:List (Nat × SObj)) (i:Nat) (v:SObj) (j:Nat):aj (mJ l i v) j=if i=j then some v else aj l j:=by
 induction l with
 | nil=>simp [kD,jw,aH,aF]
 | cons x r ih=>
  obtain ⟨k,u⟩:=x
  simp only [kD,jw]
  by_cases hk:k=i
  ·subst hk
   simp only [beq_self_eq_true,if_true,aH,aF,beq_iff_eq]
   by_cases h:k=j <;> simp [h]
  ·simp only [beq_iff_eq,hk,if_false,aH,aF,ih]
   by_cases h:k=j
   ·subst h
    have:¬i=k:=fun e=>hk e.symm
    simp [this]
   ·simp [h]
theorem kO:∀(u B:List (Nat × SObj)) (k:Nat),k∉u.map (·.1)→aj (bR B u) k=aj B k
 | [],B,k,_=>rfl
 | (j,x) ::u,B,k,h=>by
  simp only [List.map_cons,List.mem_cons,not_or] at h
  simp only [bR]
  rw [kO u _ k h.2,sR,if_neg (fun e=>h.1 e.symm)]
theorem wS:∀(u B:List (Nat × SObj)) (k:Nat) (o:SObj),aU (u.map (·.1))=true→(k,o)∈u→aj (bR B u) k=some o
 | [],B,k,o,_,h=>by simp at h
 | (j,x) ::u,B,k,o,hd,h=>by
  simp only [List.map_cons,aU,Bool.and_eq_true,Bool.not_eq_true',List.contains_eq_mem,decide_eq_false_iff_not] at hd
  simp only [bR]
  simp at h
  rcases h with ⟨rfl,rfl⟩ | h
  ·rw [kO u _ k hd.1,sR,if_pos rfl]
  ·exact wS u _ k o hd.2 h
theorem q9:∀(l:List (Nat × SObj)) (i:Nat) (o:SObj),aj l i=some o→(i,o)∈l
 | [],i,o,h=>by simp [aH,aF] at h
 | (j,v) ::r,i,o,h=>by
  simp only [aH,aF] at h
  by_cases hj:j=i
  ·subst hj;simp at h;simp [h]
  ·simp only [beq_iff_eq,hj,if_false] at h
   exact List.mem_cons_of_mem _ (q9 r i o h)
theorem xR {S u:List (Nat × SObj)} (hd:aU (u.map (·.1))=true) (hS:∀x∈S,aj S x.1=some x.2) {k:Nat} {o:SObj} (h:(k,o)∈fo S u):aj (bR S u) k=some o:=by
 simp only [fo,List.mem_append,List.mem_filter,Bool.not_eq_true',List.contains_eq_mem,decide_eq_false_iff_not] at h
 rcases h with h | ⟨h1,h2⟩
 ·exact wS u S k o hd h
 ·rw [kO u S k h2]
  exact hS _ h1
end Go.AL
end
noncomputable section
namespace Go.AL
variable [Tabs]
theorem nR {look:Nat→Option SObj} {L:List cE}:∀(l:List cE) (j:Nat) (S:List (Nat × SObj)),kF look L l j=some S→∀x∈S,aj S x.1=some x.2
 | [],j,S,h,x,hx=>by simp [kF] at h;subst h;simp at hx
 | (i,r) ::l,j,S,h,x,hx=>by
  simp only [kF] at h
  split at h
  ·split at h
   ·rename_i o' S' h1 h2
    simp at h
    subst h
    simp at hx
    rcases hx with rfl | hx
    ·simp [aH,aF]
    ·have:=nR l (j+1) S' h2 x hx
     have hk:=(fJ l (j+1) S' h2).2.2 x hx
     have hne:¬j=x.1:=by omega
     simp only [aH,aF,beq_iff_eq,hne,if_false]
     exact this
   ·cases h
  ·cases h
theorem qa {w':World} {pub' own own':Nat→Nat→Prop} {e' eN:Nat→Option CObj} {L:List cE} {d k id:Nat} {old:Option SObj} {o o':SObj}
  (hn:Names (me L d) (fm L d) (fm L d) e' eN) (hs:b9 ⟨e',w',pub'⟩ own' k o) (hb:fN L d none old o=some o') (he:eN id=e' k) (hown:∀b o,own' b o→own b o) :
  b9 ⟨eN,w',pub'⟩ own id o':=by
 cases o with
 | box c=>
  simp only [fN] at hb
  split at hb
  ·rename_i c1 h1
   have ho':o'=.box c1:=by
    split at hb
    ·rename_i b
     split at hb
     ·rename_i c2 h2
      simp [BB] at h2
      subst h2
      simp at hb
      exact hb.symm
     ·cases hb
    ·simp at hb;exact hb.symm
    ·cases hb
   subst ho'
   obtain ⟨b,off,e1,e2⟩:=hs
   obtain ⟨m1,m2⟩:=fU h1
   refine ⟨b,off,by simp only;rw [he];simp only at e1;rw [e1,m1],fun j c' hj=>?_⟩
   have hl:j < (aa c).length:=by
    rw [m1]
    rcases Nat.lt_or_ge j (aa c1).length with k | k
    ·exact k
    ·rw [List.getElem?_eq_none k] at hj;cases hj
   obtain ⟨k1,k2,k3,v,k4,k5⟩:=e2 j _ (List.getElem?_eq_getElem hl)
   exact ⟨hown _ _ k1,k2,k3,v,k4,V.mapV (Ω:=⟨e',w',pub'⟩) hn k5 (m2 j _ c' (List.getElem?_eq_getElem hl) hj)⟩
  ·cases hb
 | tail τ n=>
  simp [fN] at hb
  subst hb
  obtain ⟨base,cap,e1,e2,e3,e4,e5⟩:=hs
  exact ⟨base,cap,by simp only;rw [he];exact e1,e2,e3,e4,fun b hb=>⟨fun o=>hown _ _ ((e5 b hb).1 o),(e5 b hb).2⟩⟩
 | map κ τ m=>
  simp [fN] at hb
  subst hb
  obtain ⟨r,e1,e2,es,clock,e3,e4⟩:=hs
  exact ⟨r,by simp only;rw [he];exact e1,fun o=>hown _ _ (e2 o),es,clock,e3,e4.data⟩
 | bld t u l=>
  simp [fN] at hb
  subst hb
  obtain ⟨b,g,e1,e2,e3⟩:=hs
  exact ⟨b,g,by simp only;rw [he];exact e1,fun b' hb o=>⟨hown _ _ (e2 b' hb o).1,(e2 b' hb o).2⟩,e3⟩
 | tailp _ _ _=>simp [fN] at hb
theorem lA {F:Fr} {s:AS} {a:Act} {Ω:Om} (h:Holds F s a Ω) {L:List cE} {d:Nat} (hd:d < 1000) (hdist:aU (L.map (·.1))=true)
  {S u u':List (Nat × SObj)} (hS:kF s.B L L 900=some S) (hu:aU (u.map (·.1))=true) (hb:iI s.B L d (fo S u)=some u') {val val':AV}
  (hval:mapV (me L d) (fm L d) (fm L d) val=some val') {w':World} {pub':Nat→Nat→Prop} {e':Nat→Option CObj} {v:Value} (hv:V ⟨e',w',pub'⟩ val v)
  (A:After Ω.w Ω.pub (cq L Ω.e) (aj (bR S u)) w' pub' e') :
  ∃Ω',Ω'.w=w'/\V Ω' val' v/\Holds F ⟨s.T,bJ s.B u'⟩ a Ω':=by
 obtain ⟨k1,k2,k3⟩:=fJ L 900 S hS
 have hSm:=nR L 900 S hS
 have lentL:∀k i r,aY L k=some (i,r)→∃o o',s.B i=some o/\dR L r o=some o'/\aj S k=some o':=by
  intro k i r hk
  obtain ⟨h1,h2⟩:=dM hk
  obtain ⟨o,o',q1,q2,q3⟩:=k2 _ i r h2
  rw [show 900+(k - 900)=k by omega] at q3
  exact ⟨o,o',q1,q2,q3⟩
 have hLs:∀q i r,nth L q=some (i,r)→∃o o',s.B i=some o/\dR L r o=some o':=fun q i r hq=>let ⟨o,o',q1,q2,_⟩:=k2 q i r hq;⟨o,o',q1,q2⟩
 obtain ⟨b1,b2⟩:=lz _ _ hb
 have newk:∀k c,aY L k=none→e' k=some c→s.B (nid d k)=none/\nid d k∈u'.map (·.1):=by
  intro k c hk hc
  cases hg:aj (bR S u) k with
  | none=>rw [A.dom k hg] at hc;cases hc
  | some o=>
   have hku:k∈u.map (·.1):=by
    rcases Classical.em (k∈u.map (·.1)) with q | q
    ·exact q
    ·rw [kO u S k q] at hg
     obtain ⟨q0,i,r,o2,e1,e2,_⟩:=k1 k o hg
     have:aY L k=some (i,r):=by
      subst e1
      exact bZ (jE L i 900 q0 r hdist e2)
     rw [hk] at this
     cases this
   obtain ⟨x,hx1,hx2⟩:=List.mem_map.1 hku
   have hmem:(k,x.2)∈fo S u:=by
    simp only [fo,List.mem_append]
    left
    rw [←hx2]
    exact hx1
   rcases b2 k x.2 hmem with ⟨i,r,m1,_⟩ | ⟨_,m2,m3⟩
   ·rw [hk] at m1;cases m1
   ·exact ⟨m2,m3⟩
 have inL:∀i k r,idx L i 900=some (k,r)→∃o,s.B i=some o:=by
  intro i k r hi
  obtain ⟨o,_,q,_⟩:=lentL k i r (bZ hi)
  exact ⟨o,q⟩
 have eW:∀k i,aY L k=some (i,none)→j7 L d Ω.e e' i=e' k:=by
  intro k i hk
  simp only [j7,cC hdist hk]
 have eS:∀k i x,aY L k=some (i,some x)→j7 L d Ω.e e' i=Ω.e i:=by
  intro k i x hk
  simp only [j7,cC hdist hk]
 have eN:∀k c,aY L k=none→e' k=some c→j7 L d Ω.e e' (nid d k)=some c:=by
  intro k c hk hc
  obtain ⟨n1,_⟩:=newk k c hk hc
  have hi:idx L (nid d k) 900=none:=by
   cases hi:idx L (nid d k) 900 with
   | none=>rfl
   | some x=>
    obtain ⟨o,ho⟩:=inL _ x.1 x.2 hi
    rw [n1] at ho
    cases ho
  simp only [j7,hi,xQ hd,hk,hc]
 have eO:∀i c,j7 L d Ω.e e' i=some c→(Ω.e i=some c/\(∀k,aY L k≠some (i,none)))∨(∃k,e' k=some c/\(aY L k=some (i,none)∨(aY L k=none/\i=nid d k))):=by
  intro i c hc
  unfold j7 at hc
  split at hc
  ·rename_i k hk
   exact Or.inr ⟨k,hc,Or.inl (bZ hk)⟩
  ·rename_i k x hk
   exact Or.inl ⟨hc,fun k' hk'=>by rw [cC hdist hk'] at hk;simp at hk⟩
  ·rename_i hk
   have hno:∀k,aY L k≠some (i,none):=fun k' hk'=>by rw [cC hdist hk'] at hk;cases hk
   split at hc
   ·rename_i k hn
    split at hc
    ·exact Or.inl ⟨hc,hno⟩
    ·rename_i hl
     split at hc
     ·rename_i c' hc'
      simp at hc
      subst hc
      exact Or.inr ⟨k,hc',Or.inr ⟨hl,ly hn⟩⟩
     ·exact Or.inl ⟨hc,hno⟩
   ·exact Or.inl ⟨hc,hno⟩
 have lentOwn:∀b o,jO (cq L Ω.e) b o→∃k i r c0,aY L k=some (i,r)/\Ω.e i=some c0/\occ c0 b o/\∃c,cq L Ω.e k=some c/\occ c b o:=by
  rintro b o ⟨k,c,hc,ho⟩
  obtain ⟨i,r,c0,q1,q2,q3⟩:=gN h.slots hLs hc
  exact ⟨k,i,r,c0,q1,q2,q3 b o ho,c,hc,ho⟩
 have own:∀b o,(Ω.w.heap.size<=b∨jO (cq L Ω.e) b o)→F.own b o:=by
  rintro b o (q | q)
  ·exact Or.inl (Nat.le_trans h.frame.size q)
  ·obtain ⟨k,i,r,c0,_,q2,q3,_⟩:=lentOwn b o q
   exact h.owns q2 q3
 have hnames:Names (me L d) (fm L d) (fm L d) e' (j7 L d Ω.e e'):=by
  have hi:∀i i',fm L d i=some i'→∀c,e' i=some c→j7 L d Ω.e e' i'=some c:=by
   intro k i' hk c hc
   unfold fm at hk
   split at hk
   ·rename_i i hi
    simp at hk
    subst hk
    rw [eW k i hi,hc]
   ·cases hk
   ·rename_i hi
    simp at hk
    subst hk
    exact eN k c hi hc
  refine ⟨fun k o i' o' hk b p l hc=>?_,hi,hi⟩
  unfold me at hk
  split at hk
  ·rename_i i hi
   simp at hk
   obtain ⟨rfl,rfl⟩:=hk
   exact ⟨p,l,by rw [eW k i hi,hc],rfl⟩
  ·rename_i i off len hi
   simp at hk
   obtain ⟨rfl,rfl⟩:=hk
   obtain ⟨ob,ob',q1,q2,_⟩:=lentL k i _ hi
   cases ob with
   | box x=>
    obtain ⟨b2,off2,e1,_⟩:=h.slots i _ q1
    have hcan:cq L Ω.e k=some (.box b2 (off2+off) len):=by simp only [cq,hi,e1]
    obtain ⟨c',hc',hl⟩:=A.ext.e k _ hcan
    rw [hl.box] at hc'
    simp only at hc'
    rw [hc] at hc'
    simp at hc'
    obtain ⟨rfl,rfl,rfl⟩:=hc'
    exact ⟨off2,_,by rw [eS k i _ hi,e1],by omega⟩
   | tail _ _=>simp [dR] at q2
   | map _ _ _=>simp [dR] at q2
   | bld _ _ _=>simp [dR] at q2
   | tailp _ _ _=>simp [dR] at q2
  ·rename_i hi
   simp at hk
   obtain ⟨rfl,rfl⟩:=hk
   exact ⟨p,l,eN k _ hi hc,rfl⟩
 have hext:Ext Ω ⟨j7 L d Ω.e e',w',pub'⟩:=by
  refine ⟨fun i c hc=>?_,A.ext.pub,A.ext.cell⟩
  simp only
  cases hi:idx L i 900 with
  | some x=>
   obtain ⟨k,r⟩:=x
   cases r with
   | none=>
    have hk:=bZ hi
    have hcan:cq L Ω.e k=some c:=by simp only [cq,hk,hc]
    obtain ⟨c',hc',hl⟩:=A.ext.e k _ hcan
    exact ⟨c',by rw [eW k i hk];exact hc',hl⟩
   | some x=>exact ⟨c,by rw [eS k i x (bZ hi),hc],CLe.refl c⟩
  | none=>
   refine ⟨c,?_,CLe.refl c⟩
   simp only [j7,hi]
   split
   ·rename_i k hn
    split
    ·exact hc
    ·rename_i hl
     split
     ·rename_i c' hc'
      obtain ⟨n1,_⟩:=newk k c' hl hc'
      rw [←ly hn] at n1
      rw [h.dom i n1] at hc
      cases hc
     ·exact hc
   ·exact hc
 have stay:∀i c,Ω.e i=some c→(∀k r,aY L k≠some (i,r))→∀b o,occ c b o→¬jO (cq L Ω.e) b o:=by
  intro i c hc hno b o ho hl
  obtain ⟨k,i2,r,c0,q1,q2,q3,_⟩:=lentOwn b o hl
  have:=h.inj i i2 c c0 b o hc q2 ho q3
  subst this
  exact hno k r q1
 have inj':Inj (j7 L d Ω.e e'):=by
  have hself:∀k k' i j,(aY L k=some (i,none)∨(aY L k=none/\i=nid d k))→(aY L k'=some (j,none)∨(aY L k'=none/\j=nid d k'))→k=k'→i=j:=by
   intro k k' i j hi hj e
   subst e
   rcases hi with hi | ⟨hi,rfl⟩ <;> rcases hj with hj | ⟨hj,rfl⟩
   ·rw [hi] at hj;simp at hj;exact hj
   ·rw [hi] at hj;cases hj
   ·rw [hi] at hj;cases hj
   ·rfl
  have hmix:∀i c j k c' b o,Ω.e i=some c→(∀k,aY L k≠some (i,none))→e' k=some c'→(aY L k=some (j,none)∨(aY L k=none/\j=nid d k))→occ c b o→occ c' b o→False:=by
   intro i c j k c' b o hc hno hk hj ho ho'
   have hblt:=h.blk hc ho
   have hkB:∃ob,aj (bR S u) k=some ob:=by
    cases hg:aj (bR S u) k with
    | none=>rw [A.dom k hg] at hk;cases hk
    | some ob=>exact ⟨ob,rfl⟩
   obtain ⟨ob,hob⟩:=hkB
   rcases (A.slots k ob hob).owns hk ho' with q | q
   ·omega
   ·obtain ⟨k2,i2,r,c0,q1,q2,q3,c2,q4,q5⟩:=lentOwn b o q
    have:=h.inj i i2 c c0 b o hc q2 ho q3
    subst this
    cases r with
    | none=>exact hno k2 q1
    | some x=>
     obtain ⟨c3,q6,q7⟩:=A.ext.e k2 c2 q4
     obtain ⟨bb,oo,ll,hbx⟩:∃bb oo ll,c2=.box bb oo ll:=by
      have:=q4
      simp only [cq,q1] at this
      split at this
      ·simp at this;exact ⟨_,_,_,this.symm⟩
      ·cases this
     subst hbx
     rw [q7.box] at q6
     have:=A.inj k2 k _ _ b o q6 hk q5 ho'
     subst this
     rcases hj with hj | ⟨hj,_⟩
     ·rw [q1] at hj;simp at hj
     ·rw [q1] at hj;cases hj
  intro i j c c' b o hc hc' ho ho'
  rcases eO i c hc with ⟨h1,h2⟩ | ⟨k,h1,h2⟩
  ·rcases eO j c' hc' with ⟨g1,g2⟩ | ⟨k',g1,g2⟩
   ·exact h.inj i j c c' b o h1 g1 ho ho'
   ·exact (hmix i c j k' c' b o h1 h2 g1 g2 ho ho').elim
  ·rcases eO j c' hc' with ⟨g1,g2⟩ | ⟨k',g1,g2⟩
   ·exact (hmix j c' i k c b o g1 g2 h1 h2 ho' ho).elim
   ·exact hself k k' i j h2 g2 (A.inj k k' c c' b o h1 g1 ho ho')
 refine ⟨⟨j7 L d Ω.e e',w',pub'⟩,rfl,V.mapV (Ω:=⟨e',w',pub'⟩) hnames hv hval,⟨fun i=>(h.tmps i).ext hext,h.size,h.defers,fun id o ho=>?_,fun id hid=>?_,inj',A.ok,fun id c hc=>?_,?_⟩⟩
 ·
  rcases nQ u' s.B id o ho with hm | ⟨hB,hm⟩
  ·obtain ⟨k,ob,m1,m2⟩:=b1 id o hm
   have hg:=xR hu hSm m1
   have hso:=A.slots k ob hg
   rcases m2 with ⟨r,old,l1,l2,l3⟩ | ⟨l1,rfl,l2,l3⟩
   ·cases r with
    | none=>exact qa hnames hso l3 (eW k id l1) own
    | some x=>
     obtain ⟨off,len⟩:=x
     cases ob with
     | tail _ _=>simp [fN] at l3
     | map _ _ _=>simp [fN] at l3
     | bld _ _ _=>simp [fN] at l3
     | tailp _ _ _=>simp [fN] at l3
     | box c=>
      simp only [fN] at l3
      split at l3
      ·rename_i c1 h1
       split at l3
       ·rename_i cold hold
        simp at hold
        subst hold
        split at l3
        ·rename_i c2 h2
         simp at l3
         subst l3
         obtain ⟨p1,p2⟩:=vb h2
         obtain ⟨b,p0,e1,e2⟩:=h.slots id _ l2
         obtain ⟨s1,s2⟩:=dX _ _ _ _ p2
         have hlen:(aa c2).length=(aa cold).length:=by rw [s2];simp;omega
         have hcan:cq L Ω.e k=some (.box b (p0+off) len):=by simp only [cq,l1,e1]
         obtain ⟨c',hc',hl⟩:=A.ext.e k _ hcan
         rw [hl.box] at hc'
         simp only at hc'
         obtain ⟨b',p',f1,f2⟩:=hso
         simp only at f1
         rw [hc'] at f1
         simp at f1
         obtain ⟨rfl,rfl,f1⟩:=f1
         obtain ⟨m1',m2'⟩:=fU h1
         refine ⟨b,p0,by simp only;rw [eS k id _ l1,e1,hlen],fun j c' hj=>?_⟩
         have hjl:j < (aa c2).length:=by
          rcases Nat.lt_or_ge j (aa c2).length with q | q
          ·exact q
          ·rw [List.getElem?_eq_none q] at hj;cases hj
         rw [s2] at hj
         by_cases hin:off<=j/\j < off+len
         ·
          have hjc:j - off < (aa c1).length:=by omega
          have hj1:(aa c1)[j - off]?=some c':=by
           rw [List.append_assoc,List.getElem?_append_right (by simp;omega)] at hj
           have e:(List.take off (aa cold)).length=off:=by simp;omega
           rw [e,List.getElem?_append_left hjc] at hj
           exact hj
          have hjo:j - off < (aa c).length:=by omega
          obtain ⟨g1,g2,g3,v,g4,g5⟩:=f2 (j - off) _ (List.getElem?_eq_getElem hjo)
          rw [show p0+off+(j - off)=p0+j by omega] at g1 g2 g3 g4
          exact ⟨own _ _ g1,g2,g3,v,g4,V.mapV (Ω:=⟨e',w',pub'⟩) hnames g5 (m2' _ _ _ (List.getElem?_eq_getElem hjo) hj1)⟩
         ·
          have hj2:(aa cold)[j]?=some c':=by
           by_cases hlo:j < off
           ·rw [List.append_assoc,List.getElem?_append_left (by simp;omega),List.getElem?_take,if_pos hlo] at hj
            exact hj
           ·have e:(List.take off (aa cold)++aa c1).length=off+len:=by simp;omega
            rw [List.getElem?_append_right (by omega),e,List.getElem?_drop,show off+(aa c1).length+(j - (off+len))=j by omega] at hj
            exact hj
          obtain ⟨g1,g2,g3,v,g4,g5⟩:=e2 j c' hj2
          have hnl:¬jO (cq L Ω.e) b (p0+j):=by
           intro hl
           obtain ⟨k2,i2,r2,c0,q1,q2,q3,c3,q4,q5⟩:=lentOwn _ _ hl
           have hcold:j < (aa cold).length:=by omega
           have:=h.inj id i2 _ c0 b (p0+j) e1 q2 ⟨rfl,by omega,by omega⟩ q3
           subst this
           have hkk:k2=k:=by
            have a1:=cC hdist q1
            have a2:=cC hdist l1
            rw [a1] at a2
            simp at a2
            exact a2.1
           subst hkk
           rw [hcan] at q4
           simp at q4
           subst q4
           obtain ⟨_,z1,z2⟩:=q5
           exact hin ⟨by omega,by omega⟩
          have hblt:=aS g4
          refine ⟨g1,fun hp=>?_,?_,v,?_,g5.ext hext⟩
          ·rcases A.fresh _ _ hp with q | q | q
           ·exact g2 q
           ·omega
           ·exact hnl q
          ·exact ((A.kind b hblt (fun hall=>hnl (hall _))).2 _).trans g3
          ·exact (A.cell b _ hblt hnl).trans g4
        ·cases l3
       ·rename_i hq;cases hq
       ·cases l3
      ·cases l3
   ·have hk:∃c,e' k=some c:=by
     cases ob with
     | box x=>obtain ⟨_,_,e1,_⟩:=hso;exact ⟨_,e1⟩
     | tail _ _=>obtain ⟨_,_,e1,_⟩:=hso;exact ⟨_,e1⟩
     | map _ _ _=>obtain ⟨_,e1,_⟩:=hso;exact ⟨_,e1⟩
     | bld _ _ _=>obtain ⟨_,_,e1,_⟩:=hso;exact ⟨_,e1⟩
     | tailp _ _ _=>obtain ⟨_,_,e1,_⟩:=hso;exact ⟨_,e1⟩
    obtain ⟨c,hc⟩:=hk
    exact qa hnames hso l3 (by rw [eN k c l1 hc,hc]) own
  ·
   have hB:s.B id=some o:=hB
   have hnl:∀k r,aY L k≠some (id,r):=by
    intro k r hk
    obtain ⟨o1,o2,q1,q2,q3⟩:=lentL k id r hk
    have hmem:∃o3,(k,o3)∈fo S u:=by
     rcases Classical.em (k∈u.map (·.1)) with q | q
     ·obtain ⟨x,hx1,hx2⟩:=List.mem_map.1 q
      refine ⟨x.2,?_⟩
      simp only [fo,List.mem_append]
      left
      rw [←hx2]
      exact hx1
     ·refine ⟨o2,?_⟩
      simp only [fo,List.mem_append,List.mem_filter,Bool.not_eq_true',List.contains_eq_mem,decide_eq_false_iff_not]
      exact Or.inr ⟨q9 S k o2 q3,q⟩
    obtain ⟨o3,ho3⟩:=hmem
    rcases b2 k o3 ho3 with ⟨i2,r2,m1,m2⟩ | ⟨m1,_,_⟩
    ·rw [hk] at m1
     simp at m1
     obtain ⟨rfl,_⟩:=m1
     exact hm m2
    ·rw [hk] at m1;cases m1
   have hid:idx L id 900=none:=by
    cases hi:idx L id 900 with
    | none=>rfl
    | some x=>exact absurd (bZ hi) (hnl x.1 x.2)
   have heq:j7 L d Ω.e e' id=Ω.e id:=by
    simp only [j7,hid]
    split
    ·rename_i k hn
     split
     ·rfl
     ·rename_i hl
      split
      ·rename_i c' hc'
       obtain ⟨n1,_⟩:=newk k c' hl hc'
       rw [←ly hn,hB] at n1
       cases n1
      ·rfl
    ·rfl
   refine (h.slots id o hB).keep hext heq (fun c hc=>?_)
   have hst:=stay id c hc hnl
   have hbl:∀b oo,occ c b oo→b < Ω.w.heap.size:=fun b oo ho=>h.blk hc ho
   cases c with
   | box b off len=>
    intro oo h1 h2
    have ho:occ (.box b off len) b oo:=⟨rfl,h1,h2⟩
    have hblt:=hbl _ _ ho
    refine ⟨A.cell b oo hblt (hst _ _ ho),(A.kind b hblt (fun hall=>hst _ _ ho (hall oo))).2 oo,fun hp=>?_⟩
    rcases A.fresh _ _ hp with q | q | q
    ·exact q
    ·omega
    ·exact absurd q (hst _ _ ho)
   | tail n base cap=>
    intro b hb'
    have ho:∀oo,occ (.tail n base cap) b oo:=fun _=>hb'
    have hblt:=hbl _ 0 (ho 0)
    refine ⟨A.block b hblt (fun oo=>hst _ _ (ho oo)),fun oo hp=>?_⟩
    rcases A.fresh _ _ hp with q | q | q
    ·exact q
    ·omega
    ·exact absurd q (hst _ _ (ho oo))
   | obj r=>
    have ho:∀oo,occ (.obj r) r oo:=fun _=>rfl
    exact A.block r (hbl _ 0 (ho 0)) (fun oo=>hst _ _ (ho oo))
   | bld b g=>
    intro b' hb'
    have ho:∀oo,occ (.bld b g) b' oo:=fun _=>hb'
    refine ⟨A.block b' (hbl _ 0 (ho 0)) (fun oo=>hst _ _ (ho oo)),fun oo hp=>?_⟩
    rcases A.fresh _ _ hp with q | q | q
    ·exact q
    ·have:=hbl _ 0 (ho 0);omega
    ·exact absurd q (hst _ _ (ho oo))
 ·
  obtain ⟨hB,hm⟩:=q8 u' s.B id hid
  have hnone:=h.dom id hB
  cases hc:j7 L d Ω.e e' id with
  | none=>exact hc
  | some c=>
   rcases eO id c hc with ⟨h1,_⟩ | ⟨k,h1,h2⟩
   ·rw [hnone] at h1;cases h1
   ·rcases h2 with h2 | ⟨h2,rfl⟩
    ·obtain ⟨o1,_,q1,_⟩:=lentL k id _ h2
     rw [hB] at q1
     cases q1
    ·exact absurd (newk k c h2 h1).2 hm
 ·obtain ⟨c1,h1,l1⟩:=h.keep id c hc
  obtain ⟨c2,h2,l2⟩:=hext.e id c1 h1
  exact ⟨c2,h2,l1.trans l2⟩
 ·have notOwn:∀b o,b < F.w0.heap.size→¬F.br b o→¬jO (cq L Ω.e) b o:=by
   intro b o hb hn hl
   rcases own b o (Or.inr hl) with q | q
   ·omega
   ·exact hn q
  have hsz:=h.frame.size
  refine ⟨A.os.trans h.frame.os,A.tape.trans h.frame.tape,A.output.trans h.frame.output,Nat.le_trans h.frame.size A.size,fun b hb hn=>?_,fun b o hb hn=>?_,fun b hb hn=>?_,fun b o hp=>?_,fun b o hp=>A.ext.pub b o (h.frame.old b o hp),fun b o hp=>(hext.cell b o (h.frame.old b o hp)).trans (h.frame.pcell b o hp)⟩
  ·exact (A.block b (by omega) (fun o=>notOwn b o hb (hn o))).trans (h.frame.block b hb hn)
  ·exact (A.cell b o (by omega) (notOwn b o hb hn)).trans (h.frame.cell b o hb hn)
  ·have hnall:¬∀o,jO (cq L Ω.e) b o:=by
    intro hall
    refine hn (fun o=>?_)
    rcases own b o (Or.inr (hall o)) with q | q
    ·omega
    ·exact q
   obtain ⟨q1,q2⟩:=A.kind b (by omega) hnall
   obtain ⟨q3,q4⟩:=h.frame.kind b hb hn
   exact ⟨q1.trans q3,fun o=>(q2 o).trans (q4 o)⟩
  ·rcases A.fresh b o hp with q | q | q
   ·exact h.frame.pub b o q
   ·exact Or.inr (own b o (Or.inl q))
   ·exact Or.inr (own b o (Or.inr q))
end Go.AL
end
noncomputable section
namespace Go.AL
variable [Tabs]
theorem vc {a:Act} {l:List Operand} {args:Array Operand} (h:args.toList=l):(args.map a.eval)=(l.map a.eval).toArray:=by
 subst h
 apply Array.ext'
 simp
def wT (P:Program) (C:Cfg) (o:Oper):Prop:=
 ∀(F:Fr) (s:AS) (a:Act) (Ω:Om) (eff:Eff) (next:Act→World→Prop) (Q:Exit→Act→World→Prop),
  Holds F s a Ω→(∀d,o.dst=some d→d < F.n)→ar C o s.T s.B=some eff→eff.asks→
  (match bN C o s.T s.B with
   | none=>∀a' Ω',Holds F (s.put o.dst eff) a' Ω'→next a' Ω'.w
   | some (b,pv,u)=>(b=false→∀a' Ω',Holds F (s.put o.dst eff) a' Ω'→next a' Ω'.w)/\
     (b=true→∀Ω' v,Holds F ⟨s.T,bJ s.B u⟩ a Ω'→V Ω' pv v→Q (.panic [{v,recovered:=false}]) a Ω'.w))→o.wp P a Ω.w next Q
theorem bS.p {P:Program} {C:Cfg} {o:Oper} (h:bS P C o) (hp:∀T B,bN C o T B=none):wT P C o:=by
 intro F s a Ω eff next Q hh hd he ho hn
 rw [hp] at hn
 exact h F s a Ω eff next Q hh hd he ho hn
theorem zP (e:Nat→Option CObj):Names (fun i o=>some (i,o)) some (fun _=>none) e e:=by
 refine ⟨fun i o i' o' h b p l he=>?_,fun i i' h c hc=>?_,fun i i' h=>by simp at h⟩
 ·simp at h
  obtain ⟨rfl,rfl⟩:=h
  exact ⟨p,l,he,rfl⟩
 ·simp at h
  subst h
  exact hc
theorem BO {Ω:Om} {k:Bool} {cs ds:List AV} {vs:List Value} (h:VL Ω cs vs) (hs:hX k cs=some ds):VL Ω ds vs:=by
 cases k with
 | true=>simp [hX] at hs;subst hs;exact h
 | false=>exact h.mapVs (zP Ω.e) hs
section
variable {P:Program} {C:Cfg} {o:Oper}
theorem call_ok (hS:bu P C.spec) {F:Fr} {s:AS} {a:Act} {Ω:Om} (h:Holds F s a Ω) {d f:Nat} {args:List AV} {vs:List Value} (hv:VL Ω args vs) {r:CallR}
  (hr:nr C d f args s.B=some r) (ho:r.eff.asks) (hdn:d < F.n) {next:Act→World→Prop} {Q:Exit→Act→World→Prop}
  (hn:(match r.pan with
   | none=>∀a' Ω',Holds F (s.put (some d) r.eff) a' Ω'→next a' Ω'.w
   | some (b,pv,u)=>(b=false→∀a' Ω',Holds F (s.put (some d) r.eff) a' Ω'→next a' Ω'.w)/\
     (b=true→∀Ω' v,Holds F ⟨s.T,bJ s.B u⟩ a Ω'→V Ω' pv v→Q (.panic [{v,recovered:=false}]) a Ω'.w))) :
  aq P f/\Calls P f vs.toArray Ω.w fun
   | .returned v,w''=>next (a.put (some d) v) w''
   | .panicked chain,w''=>Q (.panic chain) a w''
   | .outgrown,_=>LetsOut Q:=by
 unfold nr at hr
 split at hr
 ·cases hr
 ·rename_i args' hst
  have hv':=BO hv hst
  generalize hL:eC C f args' s.B=L at hr
  unfold zn at hr
  split at hr
  ·rename_i hck
   simp only [Bool.and_eq_true,Nat.blt_eq,Nat.ble_eq] at hck
   obtain ⟨⟨hdist,hd⟩,hlen⟩:=hck
   split at hr
   ·rename_i as S has hS'
    split at hr
    ·rename_i A hA
     obtain ⟨k1,k2,k3⟩:=fJ L 900 S hS'
     have hob:(∀q,A.ob=some q→q):=by
      intro q hq
      have:r.eff.ob=A.ob.map wE:=by
       unfold wH at hr
       split at hr
       ·split at hr
        ·simp at hr;subst hr;rfl
        ·split at hr
         ·simp at hr;subst hr;rfl
         ·cases hr
       ·cases hr
      unfold Eff.asks at ho
      rw [this,hq] at ho
      exact ho
     have hkeys:(aD S).all bc=true:=by
      simp only [aD,List.all_eq_true,List.mem_map]
      rintro k ⟨x,hx,rfl⟩
      have:=k3 x hx
      simp only [bc,Bool.and_eq_true,Nat.ble_eq,Nat.blt_eq]
      omega
     obtain ⟨hent,hmeets⟩:=hS f as S A hA hob hkeys
     have hlent:∀k i r,aY L k=some (i,r)→∃o o',s.B i=some o/\dR L r o=some o'/\aj S k=some o':=by
      intro k i r hk
      obtain ⟨h1,h2⟩:=dM hk
      obtain ⟨o,o',q1,q2,q3⟩:=k2 _ i r h2
      rw [show 900+(k - 900)=k by omega] at q3
      exact ⟨o,o',q1,q2,q3⟩
     have hLs:∀q i r,nth L q=some (i,r)→∃o o',s.B i=some o/\dR L r o=some o':=fun q i r hq=>let ⟨o,o',q1,q2,_⟩:=k2 q i r hq;⟨o,o',q1,q2⟩
     have hc:=hmeets Ω.w Ω.pub (cq L Ω.e) vs h.pubok (h.tabsC hLs) (hv'.mapVs (j6 L Ω.e) has)
      (fun id o' ho'=>by
       obtain ⟨q,i,r,o2,e1,e2,e3,e4⟩:=k1 id o' ho'
       subst e1
       exact sO (bZ (jE L i 900 q r hdist e2)) (h.slots i o2 e3) e4)
      (fun id hid=>by
       unfold cq
       cases hl:aY L id with
       | none=>rfl
       | some x=>
        obtain ⟨o1,o2,_,_,q3⟩:=hlent id x.1 x.2 hl
        rw [hid] at q3
        cases q3)
      (fun i j c c' b oo hi hj ho1 ho2=>by
       obtain ⟨i1,r1,c1,p1,p2,p3⟩:=gN h.slots hLs hi
       obtain ⟨i2,r2,c2,p4,p5,p6⟩:=gN h.slots hLs hj
       have:=h.inj i1 i2 c1 c2 b oo p2 p5 (p3 b oo ho1) (p6 b oo ho2)
       subst this
       have a1:=cC hdist p1
       have a2:=cC hdist p4
       rw [a1] at a2
       simp at a2
       exact a2.1)
     refine ⟨hent,Calls.mono hc (fun en w' hq=>?_)⟩
     obtain ⟨pub',e',hq⟩:=hq
     unfold wH at hr
     split at hr
     ·rename_i v1 u1 b1 b2 b3
      cases en with
      | outgrown=>exact hq.elim
      | returned v=>
       obtain ⟨q1,q2,q3⟩:=hq
       obtain ⟨Ω',w1,w2,w3⟩:=lA h hd hdist hS' b3 b2 b1 q2 q3
       subst w1
       have fin:Holds F (s.put (some d) ⟨A.ob.map wE,v1,u1⟩) (a.put (some d) v) Ω':=by
        have:=w3.pure (dst:=some d) w2 (fun d' hd'=>by simp at hd';subst hd';exact hdn)
        exact this
       split at hr
       ·rename_i hp
        simp at hr
        subst hr
        exact hn _ _ fin
       ·rename_i b pv pu hp
        split at hr
        ·simp at hr
         subst hr
         exact hn.1 (q1 b pv pu hp) _ _ fin
        ·cases hr
      | panicked ch=>
       obtain ⟨pv,u,v,q0,rfl,q2,q3⟩:=hq
       split at hr
       ·rename_i hp
        rw [q0] at hp
        cases hp
       ·rename_i b pv' pu' hp
        rw [q0] at hp
        simp at hp
        obtain ⟨rfl,rfl,rfl⟩:=hp
        split at hr
        ·rename_i pv1 pu1 c1 c2 c3
         simp at hr
         subst hr
         obtain ⟨Ω',w1,w2,w3⟩:=lA h hd hdist hS' c3 c2 c1 q2 q3
         subst w1
         exact hn.2 rfl Ω' v w3 w2
        ·cases hr
     ·cases hr
    ·cases hr
   ·cases hr
  ·cases hr
theorem lB {B:Nat→Option SObj}:∀(u:List (Nat × SObj)) (B':Nat→Option SObj),(∀i o,B i=some o→B' i=some o)→eM B u→bJ B' (sf B u)=bJ B' u
 | [],_,_,_=>rfl
 | (i,o) ::r,B',hB,h=>by
  simp only [eM,sf] at h ⊢
  cases hl:B i with
  | some o'=>
   rw [hl] at h
   obtain ⟨rfl,h⟩:=h
   simp only [bJ]
   have e:(fun j=>if i=j then some o' else B' j)=B':=by
    funext j
    by_cases hj:i=j
    ·subst hj
     rw [if_pos rfl,hB i o' hl]
    ·rw [if_neg hj]
   rw [e]
   exact lB r B' hB h
  | none=>
   rw [hl] at h
   simp only [bJ]
   refine lB r _ (fun j o2 hj=>?_) h
   have:i≠j:=fun e=>by subst e;rw [hl] at hj;cases hj
   rw [if_neg this]
   exact hB j o2 hj
theorem po {b:Bool} {s:AS} {e:Eff} (d:Option Nat) (h:(dT b s.B e).asks):e.asks/\s.put d (dT b s.B e)=s.put d e:=by
 cases b with
 | false=>exact ⟨h,rfl⟩
 | true=>
  obtain ⟨h1,h2⟩:=h
  refine ⟨h1,?_⟩
  simp only [AS.put,dT]
  rw [lB e.upd s.B (fun _ _ k=>k) h2]
theorem wU (hS:bu P C.spec) {c:Call} (hop:o.op=.call c) (hc:∀b,c.callee≠.builtin b):wT P C o:=by
 intro F s a Ω eff next Q h hd he ho hn
 have hef:∃r,eD C o s.T s.B=some r/\dT (iR C o) s.B r.eff=eff:=by
  obtain ⟨callee,args,ts⟩:=c
  cases callee with
  | builtin b=>exact absurd rfl (hc b)
  | value f=>
   simp only [ar,hop] at he
   split at he
   ·rename_i r hr;simp at he;exact ⟨r,hr,he⟩
   ·cases he
  | invoke r m=>
   simp only [ar,hop] at he
   split at he
   ·rename_i r hr;simp at he;exact ⟨r,hr,he⟩
   ·cases he
 obtain ⟨r,hr,rfl⟩:=hef
 obtain ⟨ho',hput⟩:=po o.dst ho
 rw [hput] at hn
 clear ho
 have ho:=ho'
 have hpan:bN C o s.T s.B=r.pan:=by simp only [bN,hop,hr]
 rw [hpan] at hn
 unfold eD at hr
 split at hr
 ·rename_i c' d hop' hdst
  rw [hop] at hop'
  simp at hop'
  subst hop'
  rw [hdst] at hn
  have hdn:=hd d hdst
  split at hr
  ·rename_i f args hcal
   have hargs:∃vs:List Value,VL Ω args vs/\∀fn,P.funcs[f]?=some fn→fn.body.isNone=false→(fn.name == "runtime.NumGoroutine")=false→
     (execOp a.eval o).run P Ω.w=.ok (.enter f vs.toArray) Ω.w:=by
    have hvl:VL Ω (c.args.toList.map (opd s.T)) (c.args.toList.map a.eval):=by
     refine ⟨by simp,fun j x v hx hv=>?_⟩
     simp only [List.getElem?_map,Option.map_eq_some_iff] at hx hv
     obtain ⟨y,hy,rfl⟩:=hx
     obtain ⟨y',hy',rfl⟩:=hv
     rw [hy] at hy'
     simp at hy'
     subst hy'
     exact aZ h y
    obtain ⟨callee,cargs,ts⟩:=c
    unfold cz at hcal
    split at hcal
    ·rename_i f' hf'
     simp at hcal hf'
     obtain ⟨rfl,rfl⟩:=hcal
     subst hf'
     refine ⟨_,hvl,fun fn h1 h2 h3=>?_⟩
     simp only [execOp,hop,resolve,Act.eval,Deferred.ofValue,Sem.run_bind,Sem.run_pure,Result.andThen_ok,invoke,callFunc,run_program,h1]
     simp [h2,h3]
     exact vc rfl
    ·rename_i t hf'
     simp at hf'
     subst hf'
     split at hcal
     ·rename_i f' caps hT
      simp at hcal
      obtain ⟨rfl,rfl⟩:=hcal
      have ht:=h.tmps t
      rw [hT] at ht
      generalize hxv:a.tmps.getD t undef=xv at ht
      cases ht with
      | fn _ _ us h1 h2=>
       refine ⟨_,hvl.append ⟨h1,h2⟩,fun fn e1 e2 e3=>?_⟩
       have hxv':a.tmps[t]?.getD undef=Value.func (Fn.func f') #[] us.toArray:=by rw [←hxv];simp [Array.getD_eq_getD_getElem?]
       simp only [execOp,hop,resolve,Act.eval,hxv,Deferred.ofValue,Sem.run_bind,Sem.run_pure,Result.andThen_ok,invoke,callFunc,run_program,e1]
       simp [e2,e3]
     ·cases hcal
    ·cases hcal
   obtain ⟨vs,hv,hrun⟩:=hargs
   obtain ⟨⟨fn,e1,e2,e3⟩,hcalls⟩:=call_ok hS h hv hr ho hdn hn
   unfold Oper.wp
   rw [hrun fn e1 e2 e3,Oper.upon_enter,hdst]
   exact hcalls
  ·cases hr
 ·cases hr
theorem zQ {x:Operand} (hop:o.op=.panic x):wT P C o:=by
 intro F s a Ω eff next Q h hd he ho hn
 simp only [ar,hop] at he
 simp only [bN,hop] at hn
 have hx:=aZ h x
 split at he
 ·rename_i t y hxe
  rw [hxe] at hx hn
  generalize hxv:a.eval x=xv at hx
  have hx':=hx
  cases hx with
  | iface _ _ v hv=>
   have hrun:(execOp a.eval o).run P Ω.w=.halt (.panic (.iface t v)) Ω.w:=by
    simp [execOp,hop,hxv,Instr.panic,goPanic,Sem.run,Result.andThen]
   unfold Oper.wp
   rw [hrun,Oper.upon_panic]
   exact hn.2 trivial Ω _ h hx'
 ·cases he
theorem zR (hT:aK P C.tbl) (hS:bu P C.spec) (o:Oper):wT P C o:=by
 have np:∀{op:Op},o.op=op→(∀x,op≠.panic x)→(∀c,op≠.call c)→∀T B,bN C o T B=none:=by
  intro op hop h1 h2 T B
  unfold bN
  split
  ·rename_i x hx;exact absurd (hop.symm.trans hx) (h1 x)
  ·rename_i c hx;exact absurd (hop.symm.trans hx) (h2 c)
  ·rfl
 have nb:∀{b:Builtin} {args:Array Operand} {ts:Array Nat},o.op=.call {callee:=.builtin b,args:=args,argTypes:=ts}→∀T B,bN C o T B=none:=by
  intro b args ts hop T B
  simp only [bN,hop,eD]
  cases o.dst <;> simp [cz]
 cases hop:o.op with
 | move x=>exact (BI hop).p (np hop (by simp) (by simp))
 | assign x=>exact (xG hop).p (np hop (by simp) (by simp))
 | pick c x y=>exact (BJ hop).p (np hop (by simp) (by simp))
 | alloc e=>exact (zI hT hop).p (np hop (by simp) (by simp))
 | box e x=>exact (CW hop).p (np hop (by simp) (by simp))
 | build t ps=>exact (zJ hT hop).p (np hop (by simp) (by simp))
 | buildSlice t n ps=>exact (ph hT hop).p (np hop (by simp) (by simp))
 | load t x=>exact (BK hT hop).p (np hop (by simp) (by simp))
 | store t x y=>exact (zL hT hop).p (np hop (by simp) (by simp))
 | nilCheck x=>exact (sl hop).p (np hop (by simp) (by simp))
 | binOp op t x y t'=>exact (zD hT hop).p (np hop (by simp) (by simp))
 | unOp op t x=>exact (BN hop).p (np hop (by simp) (by simp))
 | convert t t' x=>exact (v8 hT hop).p (np hop (by simp) (by simp))
 | fieldAddr t x f=>exact (qV hT hop).p (np hop (by simp) (by simp))
 | field t x f=>exact (zF hT hop).p (np hop (by simp) (by simp))
 | indexAddr t x y=>exact (qW hT hop).p (np hop (by simp) (by simp))
 | index t x y=>exact (zG hT hop).p (np hop (by simp) (by simp))
 | slice t x lo hi mx=>
  cases mx with
  | none=>exact (zH hT hop).p (np hop (by simp) (by simp))
  | some _=>intro F s a Ω eff next Q h hd he ho hn;simp [ar,hop] at he
 | extract x i=>exact (uQ hop).p (np hop (by simp) (by simp))
 | lookup t x k ok=>exact (xN hT hop).p (np hop (by simp) (by simp))
 | mapUpdate t x k v=>exact (pZ hT (Or.inl hop)).p (np hop (by simp) (by simp))
 | insert t x k v=>exact (pZ hT (Or.inr hop)).p (np hop (by simp) (by simp))
 | makeMap t r=>exact (v7 hT hop).p (np hop (by simp) (by simp))
 | makeSlice t x y=>exact (rq hT hop).p (np hop (by simp) (by simp))
 | makeFunc f x y=>exact (sK hop).p (np hop (by simp) (by simp))
 | makeInterface t x=>exact (lx hT hop).p (np hop (by simp) (by simp))
 | typeAssert x t t' b=>exact (pn hT hop).p (np hop (by simp) (by simp))
 | panic x=>exact zQ hop
 | call c=>
  obtain ⟨callee,args,ts⟩:=c
  cases callee with
  | builtin b=>
   cases b with
   | len=>exact (CV hT hop).p (nb hop)
   | append=>exact (xL hT hop).p (nb hop)
   | max=>exact (CX hop).p (nb hop)
   | min=>exact (CY hop).p (nb hop)
   | _=>intro F s a Ω eff next Q h hd he ho hn;simp [ar,hop] at he
  | value f=>exact wU hS hop (by simp)
  | invoke r m=>exact wU hS hop (by simp)
 | _=>intro F s a Ω eff next Q h hd he ho hn;simp [ar,hop] at he
end
end Go.AL
end
noncomputable section
namespace Go.AL
variable [Tabs]
theorem eG:∀(l:List (Nat × AV)) (i:Nat) (v:AV) (j:Nat),aL (gZ l i v) j=if i=j then v else aL l j
 | [],i,v,j=>by simp [sd,pQ,cN,cu]
 | (k,u) ::r,i,v,j=>by
  simp only [sd,pQ]
  by_cases hk:k=i
  ·subst hk
   simp only [beq_self_eq_true,if_true,cN,cu,beq_iff_eq]
   by_cases h:k=j <;> simp [h]
  ·simp only [beq_iff_eq,hk,if_false,cN,cu,eG r i v j]
   by_cases h:k=j
   ·subst h
    have:¬i=k:=fun e=>hk e.symm
    simp [this]
   ·simp [h]
theorem fK:∀(l:List (Nat × SObj)) (i:Nat) (v:SObj) (j:Nat),aj (mJ l i v) j=if i=j then some v else aj l j
 | [],i,v,j=>by simp [kD,jw,aH,aF]
 | (k,u) ::r,i,v,j=>by
  simp only [kD,jw]
  by_cases hk:k=i
  ·subst hk
   simp only [beq_self_eq_true,if_true,aH,aF,beq_iff_eq]
   by_cases h:k=j <;> simp [h]
  ·simp only [beq_iff_eq,hk,if_false,aH,aF,fK r i v j]
   by_cases h:k=j
   ·subst h
    have:¬i=k:=fun e=>hk e.symm
    simp [this]
   ·simp [h]
theorem nS (t:List (Nat × AV)) (d:Option Nat) (v:AV):aL (nv t d v)=bB (aL t) d v:=by
 funext j
 cases d with
 | none=>rfl
 | some d=>simp [nv,bB,eG]
theorem fV:∀(u:List (Nat × SObj)) (b:List (Nat × SObj)),aj (bR b u)=bJ (aj b) u
 | [],b=>rfl
 | (i,o) ::r,b=>by
  simp only [bR,bJ]
  rw [fV r]
  congr 1
  funext j
  exact fK b i o j
theorem kP (s:St) (d:Option Nat) (e:Eff):(s.put d e).abs=s.abs.put d e:=by
 simp only [St.put,St.abs,AS.put,nS,fV]
def eh (ops:List Oper) (o:Oper) (T:Nat→AV):Option Bool:=
 match o.guard with
 | none=>some true
 | some (j,want)=>
  match (nth ops j).bind (·.dst) with
  | none=>none
  | some d=>(match T d with | .bool b=>some (b ==want) | .tup []=>some false | _=>none)
def Calm (p:Option (Bool × AV × List (Nat × SObj))):Prop:=∀b pv u,p=some (b,pv,u)→b=false
def lC (C:Cfg) (ops:List Oper) (o:Oper) (s s':AS) (f:bg):Prop:=
 (eh ops o s.T=some true/\∃e,ar C o s.T s.B=some e/\e.asks/\Calm (bN C o s.T s.B)/\s'=s.put o.dst e/\f=(aC C o s.T s.B,e.upd.map (·.1)))∨
 (eh ops o s.T=some false/\s'=⟨bB s.T o.dst (.tup []),s.B⟩/\f=([],[]))
def kf (C:Cfg) (ops:List Oper):List Oper→AS→List bg→AS→Prop
 | [],s,fs,s'=>s=s'/\fs=[]
 | o ::r,s,fs,s'=>∃s1 f fs',lC C ops o s s1 f/\kf C ops r s1 fs' s'/\fs=f ::fs'
theorem wV {e:Eff} {q:Prop} (h:nw e.ob q):e.asks/\q:=by
 unfold nw at h
 unfold Eff.asks
 cases hob:e.ob with
 | none=>rw [hob] at h;exact ⟨trivial,h⟩
 | some p=>rw [hob] at h;exact h
theorem mm {C:Cfg} {ops:List Oper} {draw:Bool} {kp:AV→St→Prop} {o:Oper} {r:List Oper} {i:Nat} {s:St} {fs:List bg} {k:St→List bg→Prop}
  (h:bz C ops draw kp (o ::r) i s fs k) :
  (eh ops o s.abs.T=some true/\∃e,ar C o s.abs.T s.abs.B=some e/\e.asks/\
   (match bN C o s.abs.T s.abs.B with
    | none=>bz C ops draw kp r (i+1) (s.put o.dst e) ((aC C o s.abs.T s.abs.B,e.upd.map (·.1)) ::fs) k
    | some (b,pv,u)=>(b=true→qP C ops draw kp r i s fs (aC C o s.abs.T s.abs.B,e.upd.map (·.1)) pv u)/\(b=false→bz C ops draw kp r (i+1) (s.put o.dst e) ((aC C o s.abs.T s.abs.B,e.upd.map (·.1)) ::fs) k)))∨
  (eh ops o s.abs.T=some false/\bz C ops draw kp r (i+1) ⟨nv s.t o.dst (.tup []),s.b⟩ (([],[]) ::fs) k):=by
 have on:eh ops o s.abs.T=some true→
   (match ar C o (aL s.t) (aj s.b) with
    | none=>False
    | some e=>nw e.ob
     (match bN C o (aL s.t) (aj s.b) with
     | none=>
      (match dU ops i,e.val with
      | true,.bool b=>
       sp b (bz C ops draw kp r (i+1) (s.put o.dst {e with val:=.bool true}) ((aC C o (aL s.t) (aj s.b),e.upd.map (·.1)) ::fs) k)
        (bz C ops draw kp r (i+1) (s.put o.dst {e with val:=.bool false}) ((aC C o (aL s.t) (aj s.b),e.upd.map (·.1)) ::fs) k)
      | true,_=>False
      | false,_=>bz C ops draw kp r (i+1) (s.put o.dst e) ((aC C o (aL s.t) (aj s.b),e.upd.map (·.1)) ::fs) k)
     | some (b,pv,u)=>
      (match dU ops i with
      | true=>False
      | false=>sp b (qP C ops draw kp r i s fs (aC C o (aL s.t) (aj s.b),e.upd.map (·.1)) pv u) (bz C ops draw kp r (i+1) (s.put o.dst e) ((aC C o (aL s.t) (aj s.b),e.upd.map (·.1)) ::fs) k))))→
   (eh ops o s.abs.T=some true/\∃e,ar C o s.abs.T s.abs.B=some e/\e.asks/\
    (match bN C o s.abs.T s.abs.B with
     | none=>bz C ops draw kp r (i+1) (s.put o.dst e) ((aC C o s.abs.T s.abs.B,e.upd.map (·.1)) ::fs) k
     | some (b,pv,u)=>(b=true→qP C ops draw kp r i s fs (aC C o s.abs.T s.abs.B,e.upd.map (·.1)) pv u)/\(b=false→bz C ops draw kp r (i+1) (s.put o.dst e) ((aC C o s.abs.T s.abs.B,e.upd.map (·.1)) ::fs) k))):=by
  intro hg hq
  split at hq
  ·exact hq.elim
  ·rename_i e he
   obtain ⟨hask,h2⟩:=wV hq
   refine ⟨hg,e,he,hask,?_⟩
   show (match bN C o (aL s.t) (aj s.b) with
     | none=>bz C ops draw kp r (i+1) (s.put o.dst e) ((aC C o (aL s.t) (aj s.b),e.upd.map (·.1)) ::fs) k
     | some (b,pv,u)=>(b=true→qP C ops draw kp r i s fs (aC C o s.abs.T s.abs.B,e.upd.map (·.1)) pv u)/\(b=false→bz C ops draw kp r (i+1) (s.put o.dst e) ((aC C o (aL s.t) (aj s.b),e.upd.map (·.1)) ::fs) k))
   cases hp:bN C o (aL s.t) (aj s.b) with
   | none=>
    rw [hp] at h2
    simp only at h2 ⊢
    split at h2
    ·rename_i b _ hb
     unfold sp at h2
     split at h2
     ·rename_i hbt
      subst hbt
      have:({e with val:=.bool true}:Eff)=e:=by rw [←hb]
      rw [this] at h2
      exact h2
     ·rename_i hbt
      have hbf:b=false:=by simpa using hbt
      subst hbf
      have:({e with val:=.bool false}:Eff)=e:=by rw [←hb]
      rw [this] at h2
      exact h2
    ·exact h2.elim
    ·exact h2
   | some x=>
    obtain ⟨b,pv,u⟩:=x
    rw [hp] at h2
    simp only at h2 ⊢
    split at h2
    ·exact h2.elim
    ·unfold sp at h2
     refine ⟨fun hb=>?_,fun hb=>?_⟩
     ·rw [if_pos hb] at h2;exact h2
     ·subst hb;simpa using h2
 simp only [bz] at h
 split at h
 ·rename_i hgd
  exact Or.inl (on (by simp [eh,hgd]) h)
 ·rename_i j want hgd
  split at h
  ·exact h.elim
  ·rename_i d hd
   split at h
   ·rename_i hb
    cases want
    ·exact Or.inr ⟨by simp [eh,hgd,hd,St.abs,hb],h⟩
    ·exact Or.inl (on (by simp [eh,hgd,hd,St.abs,hb]) h)
   ·rename_i hb
    cases want
    ·exact Or.inl (on (by simp [eh,hgd,hd,St.abs,hb]) h)
    ·exact Or.inr ⟨by simp [eh,hgd,hd,St.abs,hb],h⟩
   ·rename_i hb
    exact Or.inr ⟨by simp [eh,hgd,hd,St.abs,hb],h⟩
   ·exact h.elim
theorem nT (C:Cfg) (ops:List Oper) (kp:AV→St→Prop) (k:St→List bg→Prop):∀(l:List Oper) (i:Nat) (s:St) (fs:List bg),bz C ops true kp l i s fs k→
  (∃s' fs',kf C ops l s.abs fs' s'.abs/\k s' (fs.reverse++fs'))∨
  ∃l1 o l2 s1 fs1 e pv u,l=l1++o ::l2/\kf C ops l1 s.abs fs1 s1.abs/\eh ops o s1.abs.T=some true/\ar C o s1.abs.T s1.abs.B=some e/\e.asks/\
   bN C o s1.abs.T s1.abs.B=some (true,pv,u)/\qP C ops true kp l2 (i+l1.length) s1 (fs1.reverse++fs) (aC C o s1.abs.T s1.abs.B,e.upd.map (·.1)) pv u
 | [],i,s,fs,h=>.inl ⟨s,[],⟨rfl,rfl⟩,by simpa [bz] using h⟩
 | o ::r,i,s,fs,h=>by
  have more:∀(s1:St) (f:bg),lC C ops o s.abs s1.abs f→bz C ops true kp r (i+1) s1 (f ::fs) k→
    (∃s' fs',kf C ops (o ::r) s.abs fs' s'.abs/\k s' (fs.reverse++fs'))∨
    ∃l1 o' l2 s1 fs1 e pv u,o ::r=l1++o' ::l2/\kf C ops l1 s.abs fs1 s1.abs/\eh ops o' s1.abs.T=some true/\ar C o' s1.abs.T s1.abs.B=some e/\e.asks/\
     bN C o' s1.abs.T s1.abs.B=some (true,pv,u)/\qP C ops true kp l2 (i+l1.length) s1 (fs1.reverse++fs) (aC C o' s1.abs.T s1.abs.B,e.upd.map (·.1)) pv u:=by
   intro s1 f hs hq
   rcases nT C ops kp k r (i+1) _ _ hq with ⟨s',fs',h1,h2⟩ | ⟨l1,o',l2,s2,fs1,e,pv,u,hl,h1,h2,h3,h4,h5,h6⟩
   ·exact .inl ⟨s',f ::fs',⟨_,_,fs',hs,h1,rfl⟩,by simpa using h2⟩
   ·refine .inr ⟨o ::l1,o',l2,s2,f ::fs1,e,pv,u,by rw [hl];rfl,⟨_,_,fs1,hs,h1,rfl⟩,h2,h3,h4,h5,?_⟩
    have e1:i+(o ::l1).length=i+1+l1.length:=by simp;omega
    have e2:(f ::fs1).reverse++fs=fs1.reverse++f ::fs:=by simp
    rw [e1,e2]
    exact h6
  rcases mm h with ⟨hg,e,he,hask,hq⟩ | ⟨hg,hq⟩
  ·cases hp:bN C o s.abs.T s.abs.B with
   | none=>
    rw [hp] at hq
    refine more _ _ (Or.inl ⟨hg,e,he,hask,(fun b pv u q=>by rw [hp] at q;cases q),kP _ _ _,rfl⟩) hq
   | some x=>
    obtain ⟨b,pv,u⟩:=x
    rw [hp] at hq
    cases b with
    | false=>exact more _ _ (Or.inl ⟨hg,e,he,hask,(fun b pv u q=>by rw [hp] at q;cases q;rfl),kP _ _ _,rfl⟩) (hq.2 rfl)
    | true=>exact .inr ⟨[],o,r,s,[],e,pv,u,rfl,⟨rfl,rfl⟩,hg,he,hask,hp,hq.1 rfl⟩
  ·refine more _ _ (Or.inr ⟨hg,?_,rfl⟩) hq
   simp only [St.abs,nS]
section
variable {P:Program} {C:Cfg} {ops:Array Oper} {Q:Exit→Act→World→Prop} {F:Fr}
theorem V.skip {Ω:Om}:V Ω (.tup []) Go.undef:=.tup [] [] rfl (fun j c v h=>by simp at h)
theorem V.tup0_inv {Ω:Om} {v:Value} (h:V Ω (.tup []) v):v=.tuple #[]:=by
 cases h with
 | tup _ vs h1 _=>
  have:vs=[]:=List.eq_nil_of_length_eq_zero h1.symm
  subst this
  rfl
theorem j8 {o:Oper} {s:AS} {a:Act} {Ω:Om} (h:Holds F s a Ω):∀b,eh ops.toList o s.T=some b→Region.wanted o (yielded ops a.tmps)=b:=by
 intro b hb
 unfold eh at hb
 unfold Region.wanted
 split at hb
 ·rename_i hg
  simp only [hg]
  simpa using hb
 ·rename_i j want hg
  simp only [hg]
  split at hb
  ·simp at hb
  ·rename_i d hd'
   split at hb
   ·rename_i c hc
    simp at hb
    have hv:=h.tmps d
    rw [hc] at hv
    have hv:=hv.bool_inv
    have hsome:a.tmps[d]?=some (.bool c):=by
     rw [Array.getD_eq_getD_getElem?] at hv
     cases ht:a.tmps[d]? with
     | none=>rw [ht] at hv;simp [undef] at hv
     | some v=>rw [ht] at hv;simp at hv;rw [hv]
    have hdst:(ops[j]?).bind (·.dst)=some d:=by
     rw [gw,Array.getElem?_toList] at hd'
     exact hd'
    simp only [yielded,hdst,Option.bind_some,hsome]
    rw [←hb]
    cases c <;> cases want <;> rfl
   ·rename_i hc
    simp at hb
    subst hb
    have hv:=h.tmps d
    rw [hc] at hv
    have hdst:(ops[j]?).bind (·.dst)=some d:=by
     rw [gw,Array.getElem?_toList] at hd'
     exact hd'
    have hsome:a.tmps[d]?=none∨a.tmps[d]?=some (.tuple #[]):=by
     rw [Array.getD_eq_getD_getElem?] at hv
     cases ht:a.tmps[d]? with
     | none=>exact .inl rfl
     | some v=>
      rw [ht] at hv
      simp only [Option.getD_some] at hv
      exact .inr (by rw [hv.tup0_inv])
    rcases hsome with e | e <;> simp only [yielded,hdst,Option.bind_some,e] <;> cases want <;> rfl
   ·simp at hb
theorem nU (hT:aK P C.tbl) (hS:bu P C.spec) {o:Oper} {i:Nat} (hi:ops[i]?=some o) (hd:∀d,o.dst=some d→d < F.n)
  {s s':AS} {f:bg} {a:Act} {Ω:Om} (h:Holds F s a Ω) (hs:lC C ops.toList o s s' f) {K:Act→World→Prop}
  (hK:∀a' Ω',Holds F s' a' Ω'→K a' Ω'.w):wpOp P ops Q i K a Ω.w:=by
 have hgate:=j8 (ops:=ops) (o:=o) h
 unfold wpOp
 rw [hi]
 rcases hs with ⟨hg,e,he,ho,hp,rfl,rfl⟩ | ⟨hg,rfl,rfl⟩
 ·simp only [hgate true hg,if_true]
  refine Or.inl (zR hT hS o F s a Ω e K Q h hd he ho ?_)
  cases hq:bN C o s.T s.B with
  | none=>exact hK
  | some x=>
   obtain ⟨b,pv,u⟩:=x
   exact ⟨fun _=>hK,fun hb=>by rw [hp b pv u hq] at hb;cases hb⟩
 ·simp only [hgate false hg,Bool.false_eq_true,if_false]
  exact hK _ Ω (h.pure V.skip hd)
theorem jF (hT:aK P C.tbl) (hS:bu P C.spec) (hd:∀(o:Oper),o∈ops.toList→∀d,o.dst=some d→d < F.n) {kp:AV→St→Prop} {k:St→List bg→Prop}
  (hQ:∀s fs a' Ω',k s fs→Holds F s.abs a' Ω'→Q .normal a' Ω'.w) (hP:∀pv s a' Ω' v,kp pv s→Holds F s.abs a' Ω'→V Ω' pv v→Q (.panic [{v,recovered:=false}]) a' Ω'.w) :
  ∀(l:List Oper) (i:Nat) (s:St) (fs:List bg) (a:Act) (Ω:Om),ops.toList.drop i=l→bz C ops.toList false kp l i s fs k→Holds F s.abs a Ω→
   wpOps P ops Q (List.range' i l.length) a Ω.w
 | [],i,s,fs,a,Ω,_,hr,h=>hQ s _ a Ω (by simpa [bz] using hr) h
 | o ::r,i,s,fs,a,Ω,hl,hr,h=>by
  have hi:ops[i]?=some o:=by
   have:(ops.toList.drop i)[0]?=some o:=by rw [hl];rfl
   rw [List.getElem?_drop] at this
   simpa using this
  have hl':ops.toList.drop (i+1)=r:=by
   rw [←List.tail_drop,hl]
   rfl
  have hdo:=hd o (List.mem_of_getElem? (by rw [Array.getElem?_toList];exact hi))
  have hgate:=j8 (ops:=ops) (o:=o) h
  simp only [List.length_cons,List.range'_succ]
  rw [wpOps_cons]
  unfold wpOp
  rw [hi]
  rcases mm hr with ⟨hg,e,he,hask,hq⟩ | ⟨hg,hq⟩
  ·simp only [hgate true hg,if_true]
   refine Or.inl (zR hT hS o F s.abs a Ω e _ Q h hdo he hask ?_)
   cases hp:bN C o s.abs.T s.abs.B with
   | none=>
    rw [hp] at hq
    intro a' Ω' h'
    rw [←kP] at h'
    exact jF hT hS hd hQ hP r (i+1) _ _ a' Ω' hl' hq h'
   | some x=>
    obtain ⟨b,pv,u⟩:=x
    rw [hp] at hq
    refine ⟨fun hb a' Ω' h'=>?_,fun hb Ω' v h' hv=>?_⟩
    ·rw [←kP] at h'
     exact jF hT hS hd hQ hP r (i+1) _ _ a' Ω' hl' (hq.2 hb) h'
    ·refine hP pv _ a Ω' v (hq.1 hb) ?_ hv
     have e2:(⟨s.t,bR s.b u⟩:St).abs=⟨s.abs.T,bJ s.abs.B u⟩:=by simp only [St.abs,fV]
     rw [e2]
     exact h'
  ·simp only [hgate false hg,Bool.false_eq_true,if_false]
   have e2:(⟨nv s.t o.dst (.tup []),s.b⟩:St).abs=⟨bB s.abs.T o.dst (.tup []),s.abs.B⟩:=by simp only [St.abs,nS]
   exact jF hT hS hd hQ hP r (i+1) _ _ _ Ω hl' hq (by rw [e2];exact h.pure V.skip hdo)
end
end Go.AL
end
noncomputable section
namespace Go.AL
variable [Tabs]
theorem lD (look:Nat→Option SObj):∀(n:Nat) (todo acc:List Nat),∀i∈acc,i∈gH look n todo acc
 | 0,todo,acc,i,h=>by simpa [gH] using h
 | n+1,[],acc,i,h=>by simpa [gH] using h
 | n+1,j ::r,acc,i,h=>by
  simp only [gH]
  split
  ·exact lD look n r acc i h
  ·exact lD look n _ _ i (by simp [h])
theorem j9 {look look':Nat→Option SObj}:∀(n:Nat) (todo acc:List Nat),(∀i∈gH look n todo acc,look i=look' i)→gH look n todo acc=gH look' n todo acc
 | 0,todo,acc,h=>rfl
 | n+1,[],acc,h=>rfl
 | n+1,j ::r,acc,h=>by
  simp only [gH] at h ⊢
  split
  ·rename_i hc
   rw [if_pos hc] at h
   exact j9 n r acc h
  ·rename_i hc
   rw [if_neg hc] at h
   have hj:=h j (lD look n _ _ j (by simp))
   rw [←hj]
   exact j9 n _ _ h
theorem kQ {C:Cfg} {f:Nat} {args:List AV} {look look':Nat→Option SObj} (h:∀i∈(eC C f args look).map (·.1),look i=look' i):eC C f args look=eC C f args look':=by
 have hm:(eC C f args look).map (·.1)=gH (kG look args (C.lends f)) 64 (ids.idsL args) []:=by simp [eC,Function.comp_def]
 rw [hm] at h
 have hr:=j9 (look:=kG look args (C.lends f)) (look':=kG look' args (C.lends f)) 64 (ids.idsL args) [] (fun i hi=>by simp only [kG,h i hi])
 unfold eC
 rw [←hr]
 apply List.map_congr_left
 intro i hi
 have hb:wG look i=wG look' i:=by unfold wG;rw [h i hi]
 rw [hb]
theorem nV {look look':Nat→Option SObj} {L:List cE}:∀(l:List cE) (j:Nat),(∀i∈l.map (·.1),look i=look' i)→kF look L l j=kF look' L l j
 | [],j,_=>rfl
 | (i,r) ::l,j,h=>by
  simp only [kF]
  rw [←h i (by simp),nV l (j+1) (fun k hk=>h k (by simp only [List.map_cons];exact List.mem_cons_of_mem _ hk))]
theorem eZ {look look':Nat→Option SObj} {L:List cE} {d:Nat}:∀(u:List (Nat × SObj)),(∀i∈L.map (·.1),look i=look' i)→(∀i∈dS L d u,look i=look' i)→iI look L d u=iI look' L d u
 | [],_,_=>rfl
 | (k,o) ::u,h,hn=>by
  simp only [iI]
  cases hk:aY L k with
  | some x=>
   obtain ⟨i,r⟩:=x
   have hm:i∈L.map (·.1):=List.mem_map.2 ⟨(i,r),rr L _ _ (dM hk).2,rfl⟩
   have ih:=eZ u h (fun j hj=>hn j (by simp only [dS,List.filterMap_cons,hk] at hj ⊢;exact hj))
   simp only [←h i hm,ih]
  | none=>
   have ih:=eZ u h (fun j hj=>hn j (by
    simp only [dS,List.filterMap_cons,hk] at hj ⊢
    exact List.mem_cons_of_mem _ hj))
   have h1:=hn (nid d k) (by simp only [dS,List.filterMap_cons,hk];exact List.mem_cons_self ..)
   simp only [←h1,ih]
theorem ja {L:List cE} {d:Nat} {S u:List (Nat × SObj)} (hS:∀x∈S,∃y,aY L x.1=some y):dS L d (fo S u)=dS L d u:=by
 have e:∀v w:List (Nat × SObj),dS L d (v++w)=dS L d v++dS L d w:=fun v w=>List.filterMap_append
 have z:dS L d (S.filter fun x=>!(u.map (·.1)).contains x.1)=[]:=by
  unfold dS
  rw [List.filterMap_eq_nil_iff]
  intro x hx
  obtain ⟨y,hy⟩:=hS x (List.mem_filter.1 hx).1
  simp [hy]
 unfold fo
 rw [e,z,List.append_nil]
theorem sS {C:Cfg} {d f:Nat} {args args':List AV} {look look':Nat→Option SObj} {r:CallR} (hr:nr C d f args look=some r) (hst:hX (C.keeps f) args=some args')
  (h1:∀i∈(eC C f args' look).map (·.1),look i=look' i) (h2:∀i∈r.foot,look i=look' i):nr C d f args look'=some r:=by
 unfold nr at hr ⊢
 rw [hst] at hr ⊢
 simp only at hr ⊢
 rw [←kQ h1]
 generalize eC C f args' look=L at hr h1 ⊢
 unfold zn at hr ⊢
 split at hr
 ·rename_i hck
  have hd:aU (L.map (·.1))=true:=by simp only [Bool.and_eq_true] at hck;exact hck.1.1
  rw [←nV L 900 h1]
  split at hr
  ·rename_i as S has hS
   split at hr
   ·rename_i A hA
    have hSl:∀x∈S,∃y,aY L x.1=some y:=by
     intro x hx
     obtain ⟨q,i,r,o,e1,e2,_⟩:=(fJ L 900 S hS).1 x.1 x.2 (nR L 900 S hS x hx)
     rw [e1]
     exact ⟨(i,r),bZ (jE L i 900 q r hd e2)⟩
    unfold wH at hr ⊢
    split at hr
    ·rename_i v u c1 c2 c3
     split at hr
     ·rename_i hp
      simp at hr
      subst hr
      rw [c1,←eZ (fo S A.upd) h1 (by rw [ja hSl];exact h2),c2,c3]
     ·rename_i b pv pu hp
      split at hr
      ·rename_i pv' pu' q1 q2 q3
       simp at hr
       subst hr
       rw [c1,←eZ (fo S A.upd) h1 (by rw [ja hSl];exact fun i hi=>h2 i (by simp [hi])),c2,c3]
       simp only
       rw [q1,←eZ (fo S pu) h1 (by rw [ja hSl];exact fun i hi=>h2 i (by simp [hi])),q2,q3]
      ·cases hr
    ·cases hr
   ·cases hr
  ·cases hr
 ·cases hr
theorem jW {B B':Nat→Option SObj}:∀(u:List (Nat × SObj)),(∀i∈u.map (·.1),B i=B' i)→eM B u=eM B' u
 | [],_=>rfl
 | (i,o) ::r,h=>by
  simp only [eM]
  rw [h i (by simp),jW r (fun j hj=>h j (by simp only [List.map_cons];exact List.mem_cons_of_mem _ hj))]
theorem jb {B B':Nat→Option SObj}:∀(u:List (Nat × SObj)),(∀i∈u.map (·.1),B i=B' i)→eV B u=eV B' u
 | [],_=>rfl
 | (i,o) ::r,h=>by
  simp only [eV]
  rw [h i (by simp),jb r (fun j hj=>h j (by simp only [List.map_cons];exact List.mem_cons_of_mem _ hj))]
theorem DP.same {d e:DP} (h1:d.p=e.p) (h2:d.b=e.b):d=e:=by
 cases d;cases e;cases h1;cases h2;rfl
theorem nW {B B':Nat→Option SObj}:∀(u:List (Nat × SObj)),(∀i∈u.map (·.1),B i=B' i)→sf B u=sf B' u
 | [],_=>rfl
 | (i,o) ::r,h=>by
  simp only [sf]
  rw [h i (by simp),nW r (fun j hj=>h j (by simp only [List.map_cons];exact List.mem_cons_of_mem _ hj))]
def zS:Op→Bool
 | .call {callee:=.value _,..}=>true
 | _=>false
theorem vd (C:Cfg) (o:Oper) (T T':Nat→AV) (B B':Nat→Option SObj) (hnc:zS o.op=false) (h:∀x∈o.op.operands.toList,opd T x=opd T' x)
  (hb:∀id∈aC C o T B,B id=B' id):aC C o T B=aC C o T' B'/\ar C o T B=ar C o T' B'/\bN C o T B=bN C o T' B':=by
 suffices hs:aC C o T B=aC C o T' B'/\ar C o T B=ar C o T' B' by
  refine ⟨hs.1,hs.2,?_⟩
  unfold bN
  cases hop:o.op with
  | panic x=>simp [hop,Op.operands] at h;simp [h]
  | call c=>
   obtain ⟨callee,args,ts⟩:=c
   cases callee with
   | builtin b=>simp [eD,hop,cz];cases o.dst <;> rfl
   | value f=>rw [hop] at hnc;cases hnc
   | invoke r m=>simp [eD,hop,cz];cases o.dst <;> rfl
  | _=>rfl
 have mapEq:∀ps:Array (Nat × Operand),(∀x∈(ps.toList.map (·.2)),opd T x=opd T' x)→
   (ps.toList.map fun (i,x)=>(i,opd T x))=(ps.toList.map fun (i,x)=>(i,opd T' x)):=by
  intro ps hps
  apply List.map_congr_left
  rintro ⟨i,x⟩ hx
  simp only [Prod.mk.injEq,true_and]
  exact hps x (List.mem_map.2 ⟨(i,x),hx,rfl⟩)
 have bndEq:∀x:Option Operand,(∀y∈x.toArray.toList,opd T y=opd T' y)→bnd T x=bnd T' x:=by
  intro x hx
  cases x with
  | none=>rfl
  | some y=>simp only [bnd];rw [hx y (by simp)]
 cases hop:o.op with
 | move x=>simp [hop,Op.operands] at h;simp [aC,ar,hop,h]
 | assign x=>simp [hop,Op.operands] at h;simp [aC,ar,hop,h]
 | pick c x y=>
  simp [hop,Op.operands] at h
  obtain ⟨h1,h2,h3⟩:=h
  simp only [aC,ar,hop,h1,h2,h3,and_self]
 | alloc e=>
  simp only [aC,hop] at hb
  refine ⟨by simp only [aC,hop],?_⟩
  simp only [ar,hop]
  split
  ·rename_i d r h1 h2
   rw [hb d (by simp [h1])]
  ·rfl
 | box e x=>
  simp [hop,Op.operands] at h
  simp only [aC,hop] at hb
  refine ⟨by simp only [aC,hop],?_⟩
  simp only [ar,hop]
  split
  ·rename_i d r h1 h2
   rw [hb d (by simp [h1]),h]
  ·rfl
 | build t ps=>
  simp only [hop,Op.operands] at h
  refine ⟨by simp only [aC,hop],?_⟩
  simp only [ar,hop]
  rw [mapEq ps (by simpa using h)]
 | buildSlice t n ps=>
  simp only [hop,Op.operands] at h
  simp only [aC,hop] at hb
  refine ⟨by simp only [aC,hop],?_⟩
  simp only [ar,hop]
  split
  ·rename_i d e sz by' z ty h1 h2
   rw [hb d (by simp [h1]),mapEq ps (by simpa using h)]
  ·rfl
 | load t x=>
  simp [hop,Op.operands] at h
  simp only [aC,hop] at hb
  refine ⟨by simp only [aC,hop,h],?_⟩
  simp only [ar,hop]
  split
  ·rw [←h]
   split
   ·rename_i id off hx
    rw [hx] at hb
    rw [hb id (by simp)]
   ·rfl
   ·rename_i id i w off hx
    rw [hx] at hb
    rw [hb id (by simp)]
   ·rfl
  ·rfl
 | store t x y=>
  simp [hop,Op.operands] at h
  simp only [aC,hop] at hb
  refine ⟨by simp only [aC,hop,h.1],?_⟩
  simp only [ar,hop]
  split
  ·rw [←h.1,←h.2]
   split
   ·rfl
   split
   ·rename_i id off hx
    rw [hx] at hb
    rw [hb id (by simp)]
   ·rename_i id i w off hx
    rw [hx] at hb
    rw [hb id (by simp)]
   ·rename_i τ n k hx
    rw [hx] at hb
    rw [hb k (by simp)]
   ·rfl
  ·rfl
 | nilCheck x=>simp [hop,Op.operands] at h;exact ⟨by simp only [aC,hop],by simp only [ar,hop];rw [h]⟩
 | binOp op t x y t'=>
  simp [hop,Op.operands] at h
  exact ⟨by simp only [aC,hop],by simp only [ar,hop];rw [h.1,h.2]⟩
 | unOp op t x=>simp [hop,Op.operands] at h;exact ⟨by simp only [aC,hop],by simp only [ar,hop];rw [h]⟩
 | convert t t' x=>simp [hop,Op.operands] at h;exact ⟨by simp only [aC,hop],by simp only [ar,hop];rw [h]⟩
 | fieldAddr t x f=>simp [hop,Op.operands] at h;exact ⟨by simp only [aC,hop],by simp only [ar,hop];rw [h]⟩
 | field t x f=>simp [hop,Op.operands] at h;exact ⟨by simp only [aC,hop],by simp only [ar,hop];rw [h]⟩
 | indexAddr t x y=>
  simp [hop,Op.operands] at h
  exact ⟨by simp only [aC,hop],by simp only [ar,hop];rw [h.1,h.2]⟩
 | index t x y=>
  simp [hop,Op.operands] at h
  exact ⟨by simp only [aC,hop],by simp only [ar,hop];rw [h.1,h.2]⟩
 | slice t x lo hi mx=>
  cases mx with
  | some _=>simp only [aC,ar,hop,and_self]
  | none=>
   simp only [hop,Op.operands] at h
   have h1:opd T x=opd T' x:=h x (by simp)
   have h2:bnd T lo=bnd T' lo:=bndEq lo (fun y hy=>h y (by simp at hy ⊢;simp [hy]))
   have h3:bnd T hi=bnd T' hi:=bndEq hi (fun y hy=>h y (by simp at hy ⊢;simp [hy]))
   simp only [aC,ar,hop,h1,h2,h3,and_self]
 | extract x i=>simp [hop,Op.operands] at h;exact ⟨by simp only [aC,hop],by simp only [ar,hop];rw [h]⟩
 | call c=>
  obtain ⟨callee,args,ts⟩:=c
  cases callee with
  | builtin b=>
   cases b with
   | len=>
    simp only [hop,Op.operands,Call.operands] at h
    simp only [aC,hop] at hb
    refine ⟨?_,?_⟩
    ·simp only [aC,hop]
     split
     ·rename_i x hx
      rw [h x (by simp [hx])]
     ·rfl
    ·simp only [ar,hop]
     split
     ·rename_i x t hx ht
      rw [hx] at hb
      simp only at hb
      have hx':=h x (by simp [hx])
      rw [←hx']
      unfold CN
      split
      ·rfl
      ·rfl
      ·rfl
      ·rfl
      ·rename_i id _ hxe
       rw [hxe] at hb
       rw [hb id (by simp)]
      ·rfl
     ·rfl
   | append=>
    simp only [hop,Op.operands,Call.operands] at h
    simp only [aC,hop] at hb
    refine ⟨?_,?_⟩
    ·simp only [aC,hop]
     split
     ·rename_i x y hx
      rw [h x (by simp [hx])]
     ·rfl
    ·simp only [ar,hop]
     split
     ·rename_i x y t t' d hx ht hdst
      split
      ·rw [←h x (by simp [hx]),←h y (by simp [hx])]
       rw [hx] at hb
       simp only at hb
       split
       ·unfold mQ
        split
        ·split
         ·split
          ·rename_i hxe hye
           rw [hxe] at hb
           simp only at hb
           rw [hb _ (by simp)]
          ·rename_i hxe hye
           rw [hxe] at hb
           simp only at hb
           rw [hb d (by simp [hdst])]
          ·rfl
         ·rfl
        ·rfl
       unfold qK
       split
       ·split
        ·split
         ·rfl
         ·rfl
         ·rename_i hxe hye
          rw [hxe] at hb
          simp only at hb
          rw [hb _ (by simp)]
         ·rename_i hxe hye
          rw [hxe] at hb
          simp only at hb
          rw [hb d (by simp [hdst])]
         ·rfl
        ·rfl
       ·rfl
      ·rw [←h x (by simp [hx]),←h y (by simp [hx])]
       rw [hx] at hb
       simp only at hb
       split
       ·unfold mR
        split
        ·split
         ·split
          ·rename_i xs k hxe
           rw [hxe] at hb
           simp only at hb
           rw [hb k (by simp)]
          ·rfl
         ·rfl
        ·rfl
       ·rfl
     ·rfl
   | max=>
    simp only [hop,Op.operands,Call.operands] at h
    refine ⟨by simp only [aC,hop,cz],?_⟩
    simp only [ar,hop]
    split
    ·rename_i x y hx
     rw [h x (by simp [hx]),h y (by simp [hx])]
    ·rfl
   | min=>
    simp only [hop,Op.operands,Call.operands] at h
    refine ⟨by simp only [aC,hop,cz],?_⟩
    simp only [ar,hop]
    split
    ·rename_i x y hx
     rw [h x (by simp [hx]),h y (by simp [hx])]
    ·rfl
   | _=>simp only [aC,ar,hop,cz,and_self]
  | value f=>rw [hop] at hnc;cases hnc
  | invoke r m=>
   simp only [aC,ar,hop,eD,cz]
   exact ⟨trivial,by cases o.dst <;> rfl⟩
 | lookup t x k ok=>
  simp [hop,Op.operands] at h
  simp only [aC,hop] at hb
  refine ⟨by simp only [aC,hop,h.1],?_⟩
  simp only [ar,hop,←h.1,←h.2,qN]
  split
  ·rename_i kt e sz by' z ty id hr hxe
   rw [hxe] at hb
   rw [hb id (by simp)]
  ·rfl
  ·rfl
 | mapUpdate t x k v=>
  simp [hop,Op.operands] at h
  simp only [aC,hop] at hb
  refine ⟨by simp only [aC,hop,h.1],?_⟩
  simp only [ar,hop,←h.1,←h.2.1,←h.2.2,ib]
  split
  ·rename_i kt e sz by' z ty id hr hxe
   rw [hxe] at hb
   rw [hb id (by simp)]
  ·rfl
 | insert t x k v=>
  simp [hop,Op.operands] at h
  simp only [aC,hop] at hb
  refine ⟨by simp only [aC,hop,h.1],?_⟩
  simp only [ar,hop,←h.1,←h.2.1,←h.2.2,ib]
  split
  ·rename_i kt e sz by' z ty id hr hxe
   rw [hxe] at hb
   rw [hb id (by simp)]
  ·rfl
 | makeMap t r=>
  simp only [hop,Op.operands] at h
  simp only [aC,hop] at hb
  refine ⟨by simp only [aC,hop],?_⟩
  have hr:r.map (opd T)=r.map (opd T'):=by
   cases r with
   | none=>rfl
   | some y=>simp only [Option.map_some];rw [h y (by simp)]
  simp only [ar,hop,hr]
  split
  ·rename_i d k e sz by' z ty hd ht
   rw [hb d (by simp [hd])]
  ·rfl
 | makeSlice t x y=>
  simp [hop,Op.operands] at h
  simp only [aC,hop] at hb
  refine ⟨by simp only [aC,hop],?_⟩
  simp only [ar,hop,h.1,h.2]
  split
  ·rename_i d e sz by' z ty m n hd ht hx hy
   rw [hb d (by simp [hd])]
  ·rfl
 | makeFunc f x y=>
  refine ⟨by simp only [aC,hop],?_⟩
  simp only [hop,Op.operands] at h
  have hy:y.toList.map (opd T)=y.toList.map (opd T'):=List.map_congr_left fun z hz=>h z (by simp at hz ⊢;simp [hz])
  cases f <;> simp only [ar,hop,hy]
 | makeInterface t x=>simp [hop,Op.operands] at h;exact ⟨by simp only [aC,hop],by simp only [ar,hop];rw [h]⟩
 | typeAssert x t t' b=>cases b <;> (simp [hop,Op.operands] at h;exact ⟨by simp only [aC,hop],by simp only [ar,hop];first | done | rw [h]⟩)
 | panic x=>simp [hop,Op.operands] at h;exact ⟨by simp only [aC,hop],by simp only [ar,hop];rw [h]⟩
 | _=>simp only [aC,ar,hop,and_self]
theorem lE (C:Cfg) (o:Oper) (T T':Nat→AV) (B B':Nat→Option SObj) {e:Eff} (h:∀x∈o.op.operands.toList,opd T x=opd T' x)
  (hb:∀id∈aC C o T B,B id=B' id) (he:ar C o T B=some e):aC C o T B=aC C o T' B'/\ar C o T' B'=some e/\bN C o T B=bN C o T' B':=by
 cases hc:zS o.op with
 | false=>
  obtain ⟨h1,h2,h3⟩:=vd C o T T' B B' hc h hb
  exact ⟨h1,by rw [←h2,he],h3⟩
 | true=>
  obtain ⟨f0,args0,ts,hop⟩:∃f0 args0 ts,o.op=.call {callee:=.value f0,args:=args0,argTypes:=ts}:=by
   cases hop:o.op with
   | call c=>
    obtain ⟨callee,args,ts⟩:=c
    cases callee with
    | value f=>exact ⟨f,args,ts,rfl⟩
    | builtin b=>rw [hop] at hc;cases hc
    | invoke r m=>rw [hop] at hc;cases hc
   | _=>rw [hop] at hc;cases hc
  have hcal:cz T {callee:=.value f0,args:=args0,argTypes:=ts}=cz T' {callee:=.value f0,args:=args0,argTypes:=ts}:=by
   simp only [hop,Op.operands,Call.operands] at h
   have ha:args0.toList.map (opd T)=args0.toList.map (opd T'):=List.map_congr_left fun z hz=>h z (by simp at hz ⊢;simp [hz])
   cases f0 with
   | func f=>simp only [cz,ha]
   | tmp t=>
    have ht:T t=T' t:=h (.tmp t) (by simp)
    simp only [cz,ha,ht]
   | _=>rfl
  have heff:∃r,eD C o T B=some r/\dT (iR C o) B r.eff=e:=by
   simp only [ar,hop] at he
   split at he
   ·rename_i r hr;simp at he;exact ⟨r,hr,he⟩
   ·cases he
  obtain ⟨r,hr,rfl⟩:=heff
  have hr0:=hr
  simp only [eD,hop] at hr
  split at hr
  ·rename_i c d hc' hdst
   simp at hc'
   subst hc'
   split at hr
   ·rename_i f args hca
    have hca':=hca
    rw [hcal] at hca'
    obtain ⟨args',hst⟩:∃args',hX (C.keeps f) args=some args':=by
     cases hs:hX (C.keeps f) args with
     | none=>simp [nr,hs] at hr
     | some x=>exact ⟨x,rfl⟩
    have hneed:aC C o T B=(eC C f args' B).map (·.1)++(r.foot++zr (iR C o) r.eff.upd):=by
     simp only [aC,hop,hca,hst]
     simp only [hr0]
    rw [hneed] at hb
    have h1:∀i∈(eC C f args' B).map (·.1),B i=B' i:=fun i hi=>hb i (by simp only [List.mem_append];exact Or.inl hi)
    have hr1:=sS hr hst h1 (fun i hi=>hb i (by simp only [List.mem_append];exact Or.inr (Or.inl hi)))
    have hds:dT (iR C o) B' r.eff=dT (iR C o) B r.eff:=by
     cases hsm:iR C o with
     | false=>rfl
     | true=>
      rw [hsm] at hb
      have hb2:∀i∈r.eff.upd.map (·.1),B i=B' i:=fun i hi=>hb i (by simp only [List.mem_append];exact Or.inr (Or.inr hi))
      simp only [dT]
      rw [nW r.eff.upd hb2]
      have e1:=jW r.eff.upd hb2
      have e2:=jb r.eff.upd hb2
      congr 2
      exact DP.same (congrArg (r.eff.asks/\ ·) e1.symm) (congrArg (okO r.eff.ob && ·) e2.symm)
    have hr2:eD C o T' B'=some r:=by simp only [eD,hop,hdst,hca',hr1]
    refine ⟨?_,?_,?_⟩
    ·rw [hneed]
     simp only [aC,hop,hca',hst,hr2]
     rw [kQ h1]
    ·simp only [ar,hop,hr2]
     exact congrArg some hds
    ·simp only [bN,hop,hr0,hr2]
   ·cases hr
  ·cases hr
theorem lF {o:Oper} {T T':Nat→AV} (h:∀t∈uL o,T t=T' t):∀x∈o.op.operands.toList,opd T x=opd T' x:=by
 intro x hx
 cases x with
 | tmp t=>
  simp only [opd]
  exact h t (by simp only [uL,List.mem_filterMap];exact ⟨.tmp t,hx,rfl⟩)
 | _=>rfl
theorem kg {ops:List Oper} {o:Oper} {T T':Nat→AV} (h:∀t∈cZ ops o,T t=T' t):eh ops o T=eh ops o T':=by
 unfold eh
 split
 ·rfl
 ·rename_i j want hg
  split
  ·rfl
  ·rename_i d hd
   rw [h d (by simp only [cZ,hg,List.mem_append];right;simp [hd])]
def qb (C:Cfg) (ops:List Oper) (o:Oper) (s:AS) (v:AV) (u:List (Nat × SObj)) (f:bg):Prop:=
 (eh ops o s.T=some true/\∃e,ar C o s.T s.B=some e/\e.asks/\Calm (bN C o s.T s.B)/\v=e.val/\u=e.upd/\f=(aC C o s.T s.B,e.upd.map (·.1)))∨
 (eh ops o s.T=some false/\v=.tup []/\u=[]/\f=([],[]))
theorem lC.eff {C:Cfg} {ops:List Oper} {o:Oper} {s s1:AS} {f:bg} (hs:lC C ops o s s1 f) :
  ∃v u,qb C ops o s v u f/\s1=⟨bB s.T o.dst v,bJ s.B u⟩/\f.2=u.map (·.1):=by
 rcases hs with ⟨h1,e,h2,h3,hp,rfl,rfl⟩ | ⟨h1,rfl,rfl⟩
 ·exact ⟨e.val,e.upd,Or.inl ⟨h1,e,h2,h3,hp,rfl,rfl,rfl⟩,rfl,rfl⟩
 ·exact ⟨.tup [],[],Or.inr ⟨h1,rfl,rfl,rfl⟩,rfl,rfl⟩
theorem qb.step {C:Cfg} {ops:List Oper} {o:Oper} {s:AS} {v:AV} {u:List (Nat × SObj)} {f:bg} (hs:qb C ops o s v u f) :
  lC C ops o s ⟨bB s.T o.dst v,bJ s.B u⟩ f:=by
 rcases hs with ⟨h1,e,h2,h3,hp,rfl,rfl,rfl⟩ | ⟨h1,rfl,rfl,rfl⟩
 ·exact Or.inl ⟨h1,e,h2,h3,hp,rfl,rfl⟩
 ·exact Or.inr ⟨h1,rfl,rfl⟩
theorem qb.other {C:Cfg} {ops:List Oper} {o:Oper} {s s':AS} {v:AV} {u:List (Nat × SObj)} {f:bg} (hs:qb C ops o s v u f)
  (hT:∀t∈cZ ops o,s.T t=s'.T t) (hB:∀id∈f.1,s.B id=s'.B id):qb C ops o s' v u f:=by
 have hg:=kg hT
 rcases hs with ⟨h1,e,h2,h3,hp,rfl,rfl,rfl⟩ | ⟨h1,rfl,rfl,rfl⟩
 ·obtain ⟨l1,l2,l3⟩:=lE C o s.T s'.T s.B s'.B (lF fun t ht=>hT t (by simp [cZ,ht])) hB h2
  exact Or.inl ⟨by rw [←hg,h1],e,l2,h3,by rw [←l3];exact hp,rfl,rfl,by rw [l1]⟩
 ·exact Or.inr ⟨by rw [←hg,h1],rfl,rfl,rfl⟩
theorem dY:∀(u:List (Nat × SObj)) (B:Nat→Option SObj) (j:Nat),j∉u.map (·.1)→bJ B u j=B j
 | [],B,j,_=>rfl
 | (i,o) ::r,B,j,h=>by
  simp at h
  simp only [bJ]
  rw [dY r _ j (by simpa using h.2)]
  have:¬i=j:=fun e=>h.1 e.symm
  simp [this]
theorem iu:∀(u:List (Nat × SObj)) (B B':Nat→Option SObj) (j:Nat),B j=B' j→bJ B u j=bJ B' u j
 | [],B,B',j,h=>h
 | (i,o) ::r,B,B',j,h=>by
  simp only [bJ]
  exact iu r _ _ j (by show (if i=j then _ else _)=(if i=j then _ else _);rw [h])
theorem xS (u v:List (Nat × SObj)) (B:Nat→Option SObj) (h:∀x∈u.map (·.1),x∉v.map (·.1)):bJ (bJ B u) v=bJ (bJ B v) u:=by
 funext j
 by_cases hu:j∈u.map (·.1)
 ·rw [dY v _ j (h j hu)]
  exact iu u _ _ j (dY v B j (h j hu)).symm
 ·rw [dY u _ j hu]
  exact iu v _ _ j (dY u B j hu)
theorem xT {T:Nat→AV} {d d':Option Nat} {x y:AV} (h:∀i,d=some i→d'≠some i):bB (bB T d x) d' y=bB (bB T d' y) d x:=by
 cases d with
 | none=>rfl
 | some i=>
  cases d' with
  | none=>rfl
  | some j=>
   have hij:¬i=j:=fun e=>h i rfl (by rw [e])
   funext k
   simp only [bB]
   by_cases h1:i=k
   ·subst h1
    have:¬j=i:=fun e=>hij e.symm
    simp [this]
   ·simp [h1]
theorem mX {T:Nat→AV} {d:Option Nat} {v:AV} {t:Nat} (h:d≠some t):bB T d v t=T t:=by
 cases d with
 | none=>rfl
 | some d=>
  simp only [bB]
  rw [if_neg (fun e=>h (by rw [e]))]
theorem di {a b:List Nat} (h:qO a b=true):∀x∈a,x∉b:=by
 intro x hx
 have:=List.all_eq_true.1 h x hx
 simpa using this
theorem lC.swap {C:Cfg} {ops:List Oper} {x y:Oper} {s s1 s2:AS} {f g:bg} (hy:lC C ops y s s1 g) (hx:lC C ops x s1 s2 f)
  (ha:eE ops y x=true) (hf:cK g f=true):∃s1',lC C ops x s s1' f/\lC C ops y s1' s2 g:=by
 simp only [eE,Bool.and_eq_true] at ha
 obtain ⟨ha1,ha2⟩:=ha
 simp only [cK,Bool.and_eq_true] at hf
 have hf1:=di hf.1
 have hf2:=di hf.2
 have yd:∀t,y.dst=some t→t∉cZ ops x/\x.dst≠some t:=by
  intro t ht
  rw [ht] at ha1
  simp at ha1
  exact ha1
 have xd:∀t,x.dst=some t→t∉cZ ops y:=by
  intro t ht
  rw [ht] at ha2
  simpa using ha2
 obtain ⟨vy,uy,hy0,e1,ey⟩:=hy.eff
 subst e1
 obtain ⟨vx,ux,hx0,e2,ex⟩:=hx.eff
 subst e2
 have hx1:=hx0.other (s':=s)
  (fun t ht=>mX (fun e=>(yd t e).1 ht))
  (fun id hid=>dY uy _ id (fun hm=>hf1 id (by rw [ey];exact hm) (by simp [hid])))
 have hy1:=hy0.other (s':=⟨bB s.T x.dst vx,bJ s.B ux⟩)
  (fun t ht=>(mX (fun e=>xd t e ht)).symm)
  (fun id hid=>(dY ux _ id (fun hm=>hf2 id (by rw [ex];exact hm) hid)).symm)
 refine ⟨_,hx1.step,?_⟩
 have h2:=hy1.step
 have hgoal:(⟨bB (bB s.T y.dst vy) x.dst vx,bJ (bJ s.B uy) ux⟩:AS)=⟨bB (bB s.T x.dst vx) y.dst vy,bJ (bJ s.B ux) uy⟩:=by
  rw [xT (fun i hi=>(yd i hi).2),xS uy ux _ (fun i hi hi'=>hf1 i (by rw [ey];exact hi) (by simp [ex,hi']))]
 rw [hgoal]
 exact h2
def iv (C:Cfg) (ops:List Oper) (fs:Nat→bg):List Nat→AS→AS→Prop
 | [],s,s'=>s=s'
 | i ::r,s,s'=>∃o s1,ops[i]?=some o/\lC C ops o s s1 (fs i)/\iv C ops fs r s1 s'
def wW (ops:List Oper) (fs:Nat→bg) (j i:Nat):Prop:=
 ∀x y,ops[j]?=some x→ops[i]?=some y→eE ops x y=true/\cK (fs j) (fs i)=true
theorem iv.front {C:Cfg} {ops:List Oper} {fs:Nat→bg}:∀(r1:List Nat) (i:Nat) (r2:List Nat) (s sN:AS),
  iv C ops fs (r1++i ::r2) s sN→(∀j∈r1,wW ops fs j i)→iv C ops fs (i ::(r1++r2)) s sN
 | [],i,r2,s,sN,h,_=>h
 | j ::r1,i,r2,s,sN,h,ha=>by
  obtain ⟨o,s1,ho,hs,hr⟩:=h
  obtain ⟨o',s2,ho',hs',hr'⟩:=iv.front r1 i r2 s1 sN hr (fun j hj=>ha j (by simp [hj]))
  obtain ⟨a1,a2⟩:=ha j (by simp) o o' ho ho'
  obtain ⟨s1',k1,k2⟩:=hs.swap hs' a1 a2
  exact ⟨o',s1',ho',k1,o,s2,ho,k2,hr'⟩
theorem mn (C:Cfg) (ops:List Oper):∀(l:List Oper) (i:Nat) (s sN:AS) (fl:List bg) (fs:Nat→bg),ops.drop i=l→kf C ops l s fl sN→
  (∀k,fs (i+k)=fl.getD k ([],[]))→iv C ops fs (List.range' i l.length) s sN
 | [],i,s,sN,fl,fs,_,h,_=>h.1
 | o ::r,i,s,sN,fl,fs,hl,h,hf=>by
  obtain ⟨s1,f,fs',hs,hr,rfl⟩:=h
  have hi:ops[i]?=some o:=by
   have:(ops.drop i)[0]?=some o:=by rw [hl];rfl
   rw [List.getElem?_drop] at this
   simpa using this
  have hl':ops.drop (i+1)=r:=by rw [←List.tail_drop,hl];rfl
  refine ⟨o,s1,hi,?_,mn C ops r (i+1) s1 sN fs' fs hl' hr (fun k=>?_)⟩
  ·have:=hf 0
   simp at this
   rw [this]
   exact hs
  ·have:=hf (k+1)
   simp at this
   rw [List.getD_eq_getElem?_getD,←this]
   congr 1
   omega
end Go.AL
end
